/- The walk of the law's live: it answers true. Condition: the library's own variable holds a number. -/
import Derived.Test.YtchokelpimibdaaSm12
import Derived.Lib.SlBytesConst
import Derived.Deep.QuietTactic
import Derived.BigQuiet
import Derived.Deep.Cut
import Derived.Deep.CutRange
namespace Go.Proofs.Ytchokelpimibdaa
open Go.RowKit
def lvB : By := [69, 72, 76, 79, 32, 97, 13, 10, 77, 65, 73, 76, 32, 70, 82, 79, 77, 58, 60, 120, 64, 121, 62, 13, 10, 114, 99, 112, 116, 32, 84, 79, 58, 60, 98, 111, 98, 64, 104, 101, 114, 101, 62, 13, 10, 100, 97, 116, 97, 13, 10, 46, 46, 104, 105, 13, 10, 46, 13, 10]
def lvW : List By := [readyB, helloB, okB, okB, goB]
def lvS : Nat → Se
  | 0 => newS.app lvB
  | k + 1 => (stepT (lvS k)).2.2
theorem lv_feed : feedT newS lvB = (0, lvS 0) := by
  have h : feedE newS.buf lvB = 0 ∧ feedL newS.buf lvB = lvB := by decide +kernel
  unfold feedT
  rw [if_neg (by decide), h.1, h.2]
  rfl
theorem lv_steps : ∀ k, k < 5 → (stepT (lvS k)).2.1 = true ∧ (stepT (lvS k)).1.lines = [lvW.getD k []] := by decide +kernel
theorem lv_last : (stepT (lvS 5)).2.1 = true ∧ (stepT (lvS 5)).1.send = true ∧ (stepT (lvS 5)).1.to_.length = 1 ∧ (stepT (lvS 5)).1.bytes = [46, 104, 105, 13, 10] ∧ (stepT (lvS 5)).2.2.st = 5 := by decide +kernel
set_option maxRecDepth 20000 in
set_option maxHeartbeats 8000000 in
theorem slive_any (w : World) (hm : ML w) : Calls Try.prog 5 #[] w fun e w' => e = .returned (.bool true) ∧ Ext w w' := by
  have kc := fun (w : World) (C : Array Value) (n c : Nat) => Lib.run_convert_bytes_const (P := Try.prog) w 22 5 C n c Try.underlying22 Try.underlying5
  have HM := Lib.hid hm
  clear hm
  go_enter Try.func5, Try.ntmps5
  go_wp2_with fail
  refine (snew_any w HM.out).mono ?_
  rintro e w1 ⟨p, q, rfl, hx1, hp1, hq1, hp2, hq2, h1⟩
  have H1 := Lib.hid (h1 [p, q] (by simp) (by simp) (by intro k hk; simp at hk; omega))
  have HX1 := Lib.hid hx1
  have HPQ : Hid (∀ k ∈ [p, q], w.heap.size ≤ k) := Lib.hid (by intro k hk; simp at hk; omega)
  clear h1 hx1
  unfold pt
  go_wp2_with fail
  generalize hw2 : w1.alloc _ = w2
  have hx2 : Ext w1 w2 := hw2 ▸ (Ext.refl _).alloc _
  have hb2 : Bs w2 (some ⟨w1.heap.size, 0, none⟩) lvB := by rw [← hw2]; exact Bs.new w1 lvB _ rfl 5 (60, 61)
  generalize w1.heap.size = gf at *
  clear hw2
  have HF := sfeed_any (H1.out.ext hx2) (some ⟨gf, 0, none⟩) 60 lvB hb2
  rw [lv_feed] at HF
  rw [show lvB.length = 60 from rfl] at HF
  unfold pt at HF
  refine HF.mono ?_
  rintro e w3 ⟨rfl, h3, hk3⟩
  have HX3 := Lib.hid ((HX1.out.trans hx2).kept (hk3.qp (p := p)) HPQ.out)
  have HPL := Lib.hid (show p < w3.heap.size ∧ q < w3.heap.size from ⟨h3.plt, h3.qlt⟩)
  have H3 := Lib.hid h3
  clear HF h3 hk3 hx2 hb2
  go_upto_region 5 with fail
  generalize hw4 : w3.alloc _ = w4
  have hx4 : Ext w3 w4 := hw4 ▸ (Ext.refl _).alloc _
  have hs4 : Sl w4 (some ⟨w3.heap.size, 0, none⟩) (lvW.map fun l => .string (st l)) := by rw [← hw4]; exact Sl.new w3 (lvW.map fun l => .string (st l)) 9 (0, 0)
  have HNP : Hid (p ≠ w3.heap.size ∧ q ≠ w3.heap.size) := Lib.hid ⟨by have := HPL.out; omega, by have := HPL.out; omega⟩
  have H4 := Lib.hid (H3.out.ext hx4)
  have HX4 := Lib.hid (HX3.out.trans hx4)
  have HS4 := Lib.hid hs4
  generalize w3.heap.size = gw at *
  clear hw4 hx4 hs4 H3 HX3 HPL H1 HX1
  go_wp2
  go_loopw [4] (fun i wr => ∃ k : Nat, i = .int .i64 k ∧ k ≤ 5 ∧ Hid (IsS [p, q] wr p q (lvS k)) ∧ Hid (Kept [p, q] w4 wr)) (fun i _ => 5 - (intOf i).toNat)
  case atStart => exact ⟨0, rfl, by omega, H4, Lib.hid (Kept.refl _ _)⟩
  case round =>
    obtain ⟨k, rfl, hk, HS, HK⟩ := hrel
    by_cases hlt : k < 5
    · have hlt2 : (k : Int) < 5 := by omega
      obtain ⟨hd1, hd2⟩ := lv_steps k hlt
      have HST := sstep_any HS.out
      unfold Steps at HST
      rw [hd1] at HST
      have HL1 := Lib.hid hd2
      clear hd1 hd2
      unfold pt at HST
      go_wp2_with fail
      refine HST.mono ?_
      rintro e w5 ⟨cs, rfl, hn, h5, hk5⟩
      obtain ⟨A1, c1, A2, c2, A3, c3, rfl⟩ := hn.form
      have HN5 := Lib.hid hn
      have H5 := Lib.hid h5
      have HK5 := Lib.hid (HK.out.trans hk5)
      clear hn h5 hk5 HST
      go_wp2_with (with_reducible first | refine stop_alloc 39 ?_ | refine stop_store 39 ?_ | refine stop_load 39 ?_)
      refine go_on (wpList_alloc_ rfl rfl aout_info ?_)
      go_wp2_with (with_reducible first | refine stop_alloc 39 ?_ | refine stop_store 39 ?_ | refine stop_load 39 ?_)
      refine go_on (wpList_store_last rfl rfl rfl rfl (aout_size outC_size) rfl outC_one ?_)
      intro w6 hrow6 hx6 hz6
      have a0 := (row9_at hrow6).1
      have hrs := (HN5.out.rows [] (by simp)).1.kept (.of_ext hx6)
      rw [HL1.out] at hrs a0
      obtain ⟨ad, rfl, hc1⟩ := RSt.at_ hrs (k := 0) (by simp)
      rw [sl_add0] at hc1
      replace hc1 : ∀ V, Ext w6 V → V.cell? ad = some (.string (st (lvW.getD k []))) := hc1
      replace a0 : ∀ V, Ext w6 V → V.cell? ⟨w5.heap.size, 0, none⟩ = some (.slice (some ad) 1 c1) := a0
      have hk46 := HK5.out.ext hx6
      have hc2 : ∀ V, Ext w6 V → V.cell? ⟨gw, k, none⟩ = some (.string (st (lvW.getD k []))) := fun V hv => by
        obtain ⟨ad2, e2, hcc⟩ := HS4.out k (.string (st (lvW.getD k []))) (by
          rw [List.getElem?_map]
          have : lvW[k]? = some (lvW.getD k []) := by
            rw [List.getD_eq_getElem?_getD, List.getElem?_eq_getElem (show k < lvW.length from hlt)]; rfl
          rw [this]; rfl)
        cases e2
        have ha : (⟨gw, 0, none⟩ : Addr).add k = ⟨gw, k, none⟩ := by unfold Addr.add; split <;> simp_all
        rw [ha] at hcc
        exact (hk46.ext hv).cell hcc (by simp; exact ⟨fun e => HNP.out.1 e.symm, fun e => HNP.out.2 e.symm⟩)
      have H6 := Lib.hid (H5.out.ext hx6)
      have HK6 := Lib.hid hk46
      have hq1 := a0 w6 (Ext.refl _)
      have hq2 := hc1 w6 (Ext.refl _)
      have hq3 := hc2 w6 (Ext.refl _)
      clear hrs a0 hc1 hc2 HL1
      generalize lvW.getD k [] = x at *
      generalize w5.heap.size = g5 at *
      clear hrow6 hx6 hz6 hk46
      go_wp2_with fail
      go_quiet (fail)
      go_wp2
      go_roundw
      case rel => exact ⟨k + 1, by go_num, by omega, Lib.hid (H6.out.ext ((Ext.refl _).drewN _)), Lib.hid (HK6.out.drewN _)⟩
      case measure => simp [intOf]; omega
    · have hlt2 : ¬ (k : Int) < 5 := by omega
      obtain rfl : k = 5 := by omega
      obtain ⟨l1, l2, l3, l4, l5⟩ := lv_last
      have HL2 := Lib.hid l2
      have HL3 := Lib.hid l3
      have HL4 := Lib.hid l4
      have HL5 := Lib.hid l5
      have HST := sstep_any HS.out
      unfold Steps at HST
      rw [l1] at HST
      clear l1 l2 l3 l4 l5 kc
      unfold pt at HST
      go_wp2_with fail
      refine HST.mono ?_
      rintro e w5 ⟨cs, rfl, hn, h5, hk5⟩
      obtain ⟨A1, c1, A2, c2, A3, c3, rfl⟩ := hn.form
      have HN5 := Lib.hid hn
      have H5 := Lib.hid h5
      have HK5 := Lib.hid (HK.out.trans hk5)
      clear hn h5 hk5 HST
      go_wp2_with (with_reducible first | refine stop_alloc 39 ?_ | refine stop_store 39 ?_ | refine stop_load 39 ?_)
      refine go_on (wpList_alloc_ rfl rfl aout_info ?_)
      go_wp2_with (with_reducible first | refine stop_alloc 39 ?_ | refine stop_store 39 ?_ | refine stop_load 39 ?_)
      refine go_on (wpList_store_last rfl rfl rfl rfl (aout_size outC_size) rfl outC_one ?_)
      intro w6 hrow6 hx6 hz6
      have HR6 := Lib.hid hrow6
      have H6 := Lib.hid (H5.out.ext hx6)
      have HK6 := Lib.hid (HK5.out.ext hx6)
      have HN7 : Hid (p ≠ w5.heap.size ∧ q ≠ w5.heap.size) := Lib.hid ⟨by have := H5.out.plt; omega, by have := H5.out.qlt; omega⟩
      have HBS := Lib.hid ((HN5.out.rows [p, q] HS.out.lt).2.2.kept (.of_ext hx6))
      have HH := sheard_any H6.out HL5.out
      generalize w5.heap.size = g7 at *
      clear hrow6 hx6 hz6
      unfold pt at HH
      go_wp2_with fail
      refine HH.mono ?_
      rintro e w8 ⟨cs2, rfl, hn8, h8, hk8⟩
      obtain ⟨B1, d1, B2, d2, B3, d3, rfl⟩ := hn8.form
      have HN8 := Lib.hid hn8
      have HR8 := Lib.hid (hk8.heap HR6.out (by simp; exact ⟨fun e => HN7.out.1 e.symm, fun e => HN7.out.2 e.symm⟩))
      have HK8 := Lib.hid (HK6.out.trans hk8)
      have HB8 := Lib.hid (HBS.out.kept hk8)
      clear hn8 h8 hk8 HH
      go_wp2_with (with_reducible first | refine stop_alloc 39 ?_ | refine stop_store 39 ?_ | refine stop_load 39 ?_)
      refine go_on (wpList_alloc_ rfl rfl aout_info ?_)
      go_wp2_with (with_reducible first | refine stop_alloc 39 ?_ | refine stop_store 39 ?_ | refine stop_load 39 ?_)
      refine go_on (wpList_store_last rfl rfl rfl rfl (aout_size outC_size) rfl outC_one ?_)
      intro w9 hrow9 hx9 hz9
      have hw9 : Ext w9 w9 := Ext.refl _
      obtain ⟨-, o1, o4, o5, -, -, -, -⟩ := row9_at (hx9.obj HR8.out)
      replace o1 := o1 w9 hw9
      replace o4 := o4 w9 hw9
      replace o5 := o5 w9 hw9
      rw [HL2.out] at o1
      rw [HL3.out] at o4
      rw [HL4.out] at o5
      have b0 := (row9_at hrow9).1 w9 hw9
      have hrs9 := (HN8.out.rows [] (by simp)).1.kept (.of_ext hx9)
      obtain ⟨ad, rfl, hc9⟩ := RSt.at_ hrs9 (k := 0) (by simp [sayO])
      rw [sl_add0] at hc9
      replace hc9 : w9.cell? ad = some (.string ⟨#[50, 53, 48, 32, 115, 101, 110, 116]⟩) := hc9 w9 hw9
      replace b0 : w9.cell? ⟨w8.heap.size, 0, none⟩ = some (.slice (some ad) 1 d1) := b0
      replace o5 : w9.cell? ⟨g7, 5, none⟩ = some (.slice A3 5 c3) := o5
      have hbs9 := (HB8.out.kept (.of_ext hx9)).bs
      rw [HL4.out] at hbs9
      have hcv := run_str (P := Try.prog) Try.underlying22 Try.underlying5 Try.underlying9 hbs9 5 c3 rfl w9 hw9
      have q1 : st [46, 104, 105, 13, 10] = ⟨#[46, 104, 105, 13, 10]⟩ := rfl
      have HX := Lib.hid (((HX4.out.kept HK8.out HPQ.out)).trans hx9)
      generalize w8.heap.size = g9 at *
      clear hrs9 hbs9 hrow9 hx9 hz9 hw9
      go_wp2
      go_ret
      exact ⟨rfl, HX.out⟩
end Go.Proofs.Ytchokelpimibdaa
