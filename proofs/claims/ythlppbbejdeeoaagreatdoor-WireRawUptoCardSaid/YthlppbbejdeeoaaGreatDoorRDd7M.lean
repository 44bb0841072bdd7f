/- The walk of the reference's Check. Conditions: the hypotheses of each theorem; the library's two tables. -/
import Derived.Test.YthlppbbejdeeoaaGreatDoorC14
import Derived.Deep.Cut
import Derived.Deep.CutRange
namespace Go.Proofs.YthlppbbejdeeoaaGreatDoor
open Go.RowKit
theorem row_x {w : World} {p t : Nat} {cs : Array Value} {fr : Nat × Nat} (h : w.heap[p]? = some (.cells cs t fr)) (j : Nat) (v : Value) (hv : cs[j]? = some v) : ∀ w', Ext w w' → w'.cell? ⟨p, j, none⟩ = some v := fun w' hx => by
 rw [cell_of_row w' p j _ _ _ (hx.obj h), hv]
theorem boxed_in {o : Int} (h1 : 2 ≤ o) (h2 : o ≤ 7) : boxed o = true := by unfold boxed; exact decide_eq_true (by omega)
theorem boxed_out {o : Int} (h : o < 2 ∨ 7 < o) : boxed o = false := by unfold boxed; exact decide_eq_false (by omega)
set_option maxRecDepth 20000 in
set_option maxHeartbeats 16000000 in
theorem RCheck_any (d : Dd) (A : Option Addr) (cap : Nat) (w : World) (hb : Bs w A d.bytes) (hcap : d.bytes.length ≤ cap) (h1 : d.user.length ≤ 8796093022000) (h2 : d.box.length ≤ 8796093022000) (h3 : d.dest.length ≤ 8796093022000) (hT : Tabs w) :
 Calls Tryz.prog 48 #[.agg (ddC d (.slice A d.bytes.length cap))] w fun e w' => e = .returned (.int .i64 (checkD d : Nat)) ∧ Ext w w' := by
 have hx0 : Ext w (w.alloc (.cells (ddC d (.slice A d.bytes.length cap)) 90)) := (Ext.refl w).alloc _
 have hrow := heap_alloc_new w (.cells (ddC d (.slice A d.bytes.length cap)) 90)
 obtain ⟨wa, hwa⟩ : ∃ wa, wa = w.alloc (.cells (ddC d (.slice A d.bytes.length cap)) 90) := ⟨_, rfl⟩
 rw [← hwa] at hx0 hrow
 have HWA := Lib.hid hwa
 have C0 := row_x hrow 0 (.int .i64 d.dw) rfl
 have C1 := row_x hrow 1 (.string (st d.user)) rfl
 have C2 := row_x hrow 2 (.string (st d.box)) rfl
 have C3 := row_x hrow 3 (.string (st d.dest)) rfl
 have C4 := row_x hrow 4 (.int .i64 d.uid) rfl
 have C5 := row_x hrow 5 (.int .i64 d.how) rfl
 have C6 := row_x hrow 6 (.int .u8 (d.flags.toNat : Int)) rfl
 have C7 := row_x hrow 7 (.int .i64 d.shard) rfl
 have C8 := row_x hrow 8 (.int .i64 d.epoch) rfl
 have C9 := row_x hrow 9 (.slice A d.bytes.length cap) rfl
 have HRU := fun w => RRightUser_any d.user w h1
 have HRB := fun w1 (hx1 : Ext wa w1) => RRightBox_any d.box w1 h2 (hT.ext (hx0.trans hx1))
 have HRT := fun w1 (hx1 : Ext wa w1) => RRightBox_any d.dest w1 h3 (hT.ext (hx0.trans hx1))
 have HTU := fun w1 (hx1 : Ext wa w1) => RTakeUser_any A cap d.bytes w1 (hb.ext (hx0.trans hx1)) hcap (hT.ext (hx0.trans hx1))
 have HE : Hid (checkD d = if d.dw < 1 ∨ 9 < d.dw then 14 else if form4 d = true then 4 else if form2 d = true then 2
  else if d.dw = 4 ∧ 600 < d.bytes.length then 6 else if ¬ (d.dw = 4 ∨ d.dw = 8) ∧ 0 < d.bytes.length then 2 else if d.dw ≠ 8 then 0 else lastC d) := Lib.hid rfl
 have H4 : Hid (form4 d = (!rightU d.user || (boxed d.dw && !rightB d.box) || (!boxed d.dw && decide (d.box ≠ [])) || (decide (d.dw = 7) && !rightB d.dest) || (!decide (d.dw = 7) && decide (d.dest ≠ [])))) := Lib.hid rfl
 clear hwa hrow h1 h2 h3 hb hcap hT
 unfold ddC at *
 have hwa := HWA.out.symm
 go_enter Tryz.func48, Tryz.ntmps48
 by_cases ho1 : d.dw < 1
 ·have HB : Hid (checkD d = 14) := Lib.hid (by rw [HE.out, if_pos (.inl ho1)])
  go_wp2
  go_ret
  exact ⟨by rw [HB.out]; rfl, hx0⟩
 by_cases ho9 : 9 < d.dw
 ·have HB : Hid (checkD d = 14) := Lib.hid (by rw [HE.out, if_pos (.inr ho9)])
  go_wp2
  go_ret
  exact ⟨by rw [HB.out]; rfl, hx0⟩
 have HE2 := Lib.hid (HE.out.trans (if_neg (by omega)))
 clear HE
 go_wp2_with fail
 clear hwa
 refine (HRU wa).mono ?_
 rintro e w1 ⟨rfl, hx1⟩
 cases hru : rightU d.user with
 | false =>
  have HB : Hid (checkD d = 4) := Lib.hid (by rw [HE2.out, H4.out, hru]; rfl)
  clear hru H4
  go_wp2
  go_ret
  exact ⟨by rw [HB.out]; rfl, hx0.trans hx1⟩
 | true =>
  rw [hru] at H4
  clear hru HRU
  obtain ⟨NB, hNB⟩ : ∃ x, x = boxed d.dw := ⟨_, rfl⟩
  have HNB := Lib.hid hNB
  rw [← hNB] at H4
  clear hNB
  go_upto_region 5 with fail
  go_cut [3] from 23 to 30 (fun s wx => s = .bool NB ∧ w1 = wx)
  case first =>
   by_cases a1 : 2 ≤ d.dw
   ·by_cases a2 : d.dw ≤ 7
    ·have hv : NB = true := by rw [HNB.out]; exact boxed_in a1 a2
     go_wp2_with fail
     go_meet
     exact ⟨by rw [hv], rfl⟩
    ·have hv : NB = false := by rw [HNB.out]; exact boxed_out (by omega)
     go_wp2_with fail
     go_meet
     exact ⟨by rw [hv], rfl⟩
   ·have hv : NB = false := by rw [HNB.out]; exact boxed_out (by omega)
    go_wp2_with fail
    go_meet
    exact ⟨by rw [hv], rfl⟩
  case rest =>
  obtain ⟨rfl, rfl⟩ := hcut
  obtain ⟨FB, hFB⟩ : ∃ x, x = form4 d := ⟨_, rfl⟩
  rw [← hFB] at HE2 H4
  clear hFB HNB
  go_upto_region 6 with fail
  go_cut [69] from 31 to 68 (fun s wx => s = .bool FB ∧ Ext wa wx)
  case first =>
   cases NB with
   | true =>
    go_wp2_with fail
    refine (HRB _ hx1).mono ?_
    rintro e w2 ⟨rfl, hx2⟩
    have hx2 := hx1.trans hx2
    cases hrb : rightB d.box with
    | false =>
     have hv : FB = true := by rw [H4.out, hrb]; rfl
     go_wp2_with fail
     go_meet
     exact ⟨by rw [hv], hx2⟩
    | true =>
     by_cases h7 : d.dw = 7
     ·have k7 : (d.dw == 7) = true := by simpa using h7
      have m7 : (d.dw != 7) = false := by simp [h7]
      have H7 := Lib.hid h7
      clear h7
      go_wp2_with fail
      refine (HRT _ hx2).mono ?_
      rintro e w3 ⟨rfl, hx3⟩
      have hx3 := hx2.trans hx3
      cases hrt : rightB d.dest with
      | false =>
       have hv : FB = true := by rw [H4.out]; simp [hrb, hrt, H7.out]
       go_wp2_with fail
       go_meet
       exact ⟨by rw [hv], hx3⟩
      | true =>
       have hv : FB = false := by rw [H4.out]; simp [hrb, hrt, H7.out]
       go_wp2_with fail
       go_meet
       exact ⟨by rw [hv], hx3⟩
     ·have k7 : (d.dw == 7) = false := by simpa using h7
      have m7 : (d.dw != 7) = true := by simp [h7]
      by_cases hl : 0 < d.dest.length
      ·have hne : d.dest ≠ [] := by intro h; rw [h] at hl; simp at hl
       have hv : FB = true := by rw [H4.out]; simp [hrb, h7, hne]
       clear hne h7
       go_wp2_with fail
       go_meet
       exact ⟨by rw [hv], hx2⟩
      ·have hne : d.dest = [] := List.eq_nil_of_length_eq_zero (by omega)
       have hv : FB = false := by rw [H4.out]; simp [hrb, h7, hne]
       clear hne h7
       go_wp2_with fail
       go_meet
       exact ⟨by rw [hv], hx2⟩
   | false =>
    by_cases hlb : 0 < d.box.length
    ·have hne : d.box ≠ [] := by intro h; rw [h] at hlb; simp at hlb
     have hv : FB = true := by rw [H4.out]; simp [hne]
     clear hne
     go_wp2_with fail
     go_meet
     exact ⟨by rw [hv], hx1⟩
    ·have hnb : d.box = [] := List.eq_nil_of_length_eq_zero (by omega)
     by_cases h7 : d.dw = 7
     ·have k7 : (d.dw == 7) = true := by simpa using h7
      have m7 : (d.dw != 7) = false := by simp [h7]
      have H7 := Lib.hid h7
      clear hnb h7
      go_wp2_with fail
      refine (HRT _ hx1).mono ?_
      rintro e w3 ⟨rfl, hx3⟩
      have hx3 := hx1.trans hx3
      have hnb : d.box = [] := List.eq_nil_of_length_eq_zero (by omega)
      cases hrt : rightB d.dest with
      | false =>
       have hv : FB = true := by rw [H4.out]; simp [hrt, H7.out]
       clear hnb
       go_wp2_with fail
       go_meet
       exact ⟨by rw [hv], hx3⟩
      | true =>
       have hv : FB = false := by rw [H4.out]; simp [hrt, H7.out, hnb]
       clear hnb
       go_wp2_with fail
       go_meet
       exact ⟨by rw [hv], hx3⟩
     ·have k7 : (d.dw == 7) = false := by simpa using h7
      have m7 : (d.dw != 7) = true := by simp [h7]
      by_cases hl : 0 < d.dest.length
      ·have hne : d.dest ≠ [] := by intro h; rw [h] at hl; simp at hl
       have hv : FB = true := by rw [H4.out]; simp [h7, hne]
       clear hne h7 hnb
       go_wp2_with fail
       go_meet
       exact ⟨by rw [hv], hx1⟩
      ·have hne : d.dest = [] := List.eq_nil_of_length_eq_zero (by omega)
       have hv : FB = false := by rw [H4.out]; simp [h7, hne, hnb]
       clear hne h7 hnb
       go_wp2_with fail
       go_meet
       exact ⟨by rw [hv], hx1⟩
  case rest =>
  obtain ⟨rfl, hx2⟩ := hcut
  clear HRB HRT H4 C2 C3 hx1
  cases FB with
  | true =>
   have HB : Hid (checkD d = 4) := Lib.hid (by rw [HE2.out]; rfl)
   go_wp2
   go_ret
   exact ⟨by rw [HB.out]; rfl, hx0.trans hx2⟩
  | false =>
   have HE3 := Lib.hid (HE2.out.trans (if_neg (by simp)))
   clear HE2
   obtain ⟨UB, hUB⟩ : ∃ x, x = withinB (decide (d.dw = 5 ∨ d.dw = 6)) d.uid 1 4294967295 := ⟨_, rfl⟩
   obtain ⟨HB_, hHB⟩ : ∃ x, x = withinB (decide (d.dw = 5)) d.how 0 2 := ⟨_, rfl⟩
   obtain ⟨GB, hGB⟩ : ∃ x, x = withinB (decide (d.dw = 4 ∨ d.dw = 5)) d.flags.toNat 0 31 := ⟨_, rfl⟩
   obtain ⟨SB, hSB⟩ : ∃ x, x = withinB (decide (d.dw = 9)) d.shard 0 3 := ⟨_, rfl⟩
   obtain ⟨EB, hEB⟩ : ∃ x, x = withinB (decide (d.dw = 8 ∨ d.dw = 9)) d.epoch 1 4294967295 := ⟨_, rfl⟩
   have H2 : Hid (form2 d = (!UB || !HB_ || !GB || !SB || !EB)) := Lib.hid (by rw [hUB, hHB, hGB, hSB, hEB]; rfl)
   have HUB := Lib.hid hUB
   have HHB := Lib.hid hHB
   have HGB := Lib.hid hGB
   have HSB := Lib.hid hSB
   have HEB := Lib.hid hEB
   rw [H2.out] at HE3
   clear hUB hHB hGB hSB hEB H2
   obtain ⟨V, hV⟩ : ∃ x, x = decide (d.dw = 5 ∨ d.dw = 6) := ⟨_, rfl⟩
   have HV := Lib.hid hV
   rw [← hV] at HUB
   clear hV
   go_upto_region 9 with fail
   go_cut [80] from 73 to 79 (fun s wx => s = .bool V ∧ wc = wx)
   case first =>
    by_cases h5 : d.dw = 5
    ·have hv : V = true := by rw [HV.out]; simp [h5]
     have k5 : (d.dw == 5) = true := by simpa using h5
     clear h5
     go_wp2_with fail
     go_meet
     exact ⟨by rw [hv], rfl⟩
    ·have k5 : (d.dw == 5) = false := by simpa using h5
     by_cases h6 : d.dw = 6
     ·have hv : V = true := by rw [HV.out]; simp [h6]
      have k6 : (d.dw == 6) = true := by simpa using h6
      clear h5 h6
      go_wp2_with fail
      go_meet
      exact ⟨by rw [hv], rfl⟩
     ·have hv : V = false := by rw [HV.out]; simp [h5, h6]
      have k6 : (d.dw == 6) = false := by simpa using h6
      clear h5 h6
      go_wp2_with fail
      go_meet
      exact ⟨by rw [hv], rfl⟩
   case rest =>
   obtain ⟨rfl, rfl⟩ := hcut
   go_upto_if 80 with fail
   go_cut [4] from 81 to 88 (fun s wx => s = .bool UB ∧ wc = wx)
   case first =>
    cases V with
    | true =>
     by_cases a1 : 1 ≤ d.uid
     ·by_cases a2 : d.uid ≤ 4294967295
      ·have hv : UB = true := by rw [HUB.out]; simp [withinB, a1, a2]
       go_wp2_with fail
       go_meet
       exact ⟨by rw [hv], rfl⟩
      ·have hv : UB = false := by rw [HUB.out]; simp [withinB, a2]
       go_wp2_with fail
       go_meet
       exact ⟨by rw [hv], rfl⟩
     ·have hv : UB = false := by rw [HUB.out]; simp [withinB, a1]
      go_wp2_with fail
      go_meet
      exact ⟨by rw [hv], rfl⟩
    | false =>
     have hv : UB = (d.uid == 0) := by rw [HUB.out]; rfl
     go_wp2_with fail
     go_meet
     exact ⟨by rw [hv], rfl⟩
   case rest =>
   obtain ⟨rfl, rfl⟩ := hcut
   clear C4 HUB HV
   go_upto_region 11 with fail
   go_cut [5] from 89 to 106 (fun s wx => s = .bool HB_ ∧ wc = wx)
   case first =>
    by_cases b0 : d.how = 0
    ·have k0 : (d.how == 0) = true := by simpa using b0
     have hv : HB_ = true := by rw [HHB.out]; unfold withinB; split <;> simp [b0]
     clear b0
     go_wp2_with fail
     go_meet
     exact ⟨by rw [hv], rfl⟩
    ·have k0 : (d.how == 0) = false := by simpa using b0
     by_cases h5 : d.dw = 5
     ·have k5 : (d.dw == 5) = true := by simpa using h5
      by_cases b1 : d.how = 1
      ·have k1 : (d.how == 1) = true := by simpa using b1
       have hv : HB_ = true := by rw [HHB.out]; simp [withinB, h5, b1]
       clear b0 b1 h5
       go_wp2_with fail
       go_meet
       exact ⟨by rw [hv], rfl⟩
      ·have k1 : (d.how == 1) = false := by simpa using b1
       by_cases b2 : d.how = 2
       ·have k2 : (d.how == 2) = true := by simpa using b2
        have hv : HB_ = true := by rw [HHB.out]; simp [withinB, h5, b2]
        clear b0 b1 b2 h5
        go_wp2_with fail
        go_meet
        exact ⟨by rw [hv], rfl⟩
       ·have k2 : (d.how == 2) = false := by simpa using b2
        have hv : HB_ = false := by
         rw [HHB.out]
         simp only [withinB, h5, decide_true, Bool.true_eq_false, if_false, Bool.and_eq_false_iff, decide_eq_false_iff_not]
         omega
        clear b0 b1 b2 h5
        go_wp2_with fail
        go_meet
        exact ⟨by rw [hv], rfl⟩
     ·have k5 : (d.dw == 5) = false := by simpa using h5
      have hv : HB_ = false := by rw [HHB.out]; simp [withinB, h5, b0]
      clear b0 h5
      go_wp2_with fail
      go_meet
      exact ⟨by rw [hv], rfl⟩
   case rest =>
   obtain ⟨rfl, rfl⟩ := hcut
   clear C5 HHB
   go_upto_region 12 with fail
   go_cut [6] from 107 to 124 (fun s wx => s = .bool GB ∧ wc = wx)
   case first =>
    by_cases b0 : (d.flags.toNat : Int) = 0
    ·have k0 : ((d.flags.toNat : Int) == 0) = true := by simpa using b0
     have hv : GB = true := by rw [HGB.out]; unfold withinB; split <;> simp [b0]
     clear b0
     go_wp2_with fail
     go_meet
     exact ⟨by rw [hv], rfl⟩
    ·have k0 : ((d.flags.toNat : Int) == 0) = false := by simpa using b0
     by_cases h45 : d.dw = 4 ∨ d.dw = 5
     ·by_cases b2 : (d.flags.toNat : Int) < 32
      ·have hv : GB = true := by
        rw [HGB.out, decide_eq_true h45]
        simp only [withinB, Bool.true_eq_false, if_false, Bool.and_eq_true, decide_eq_true_eq]
        omega
       by_cases h5 : d.dw = 5
       ·have k5 : (d.dw == 5) = true := by simpa using h5
        clear b0 h5 h45
        go_wp2_with fail
        go_meet
        exact ⟨by rw [hv], rfl⟩
       ·have k5 : (d.dw == 5) = false := by simpa using h5
        have k4 : (d.dw == 4) = true := by simp; omega
        clear b0 h5 h45
        go_wp2_with fail
        go_meet
        exact ⟨by rw [hv], rfl⟩
      ·have hv : GB = false := by
        rw [HGB.out, decide_eq_true h45]
        simp only [withinB, Bool.true_eq_false, if_false, Bool.and_eq_false_iff, decide_eq_false_iff_not]
        omega
       by_cases h5 : d.dw = 5
       ·have k5 : (d.dw == 5) = true := by simpa using h5
        clear b0 h5 h45
        go_wp2_with fail
        go_meet
        exact ⟨by rw [hv], rfl⟩
       ·have k5 : (d.dw == 5) = false := by simpa using h5
        have k4 : (d.dw == 4) = true := by simp; omega
        clear b0 h5 h45
        go_wp2_with fail
        go_meet
        exact ⟨by rw [hv], rfl⟩
     ·have hv : GB = false := by rw [HGB.out, decide_eq_false h45]; simp only [withinB, if_true]; exact decide_eq_false b0
      have k5 : (d.dw == 5) = false := by simp; omega
      have k4 : (d.dw == 4) = false := by simp; omega
      clear b0 h45
      go_wp2_with fail
      go_meet
      exact ⟨by rw [hv], rfl⟩
   case rest =>
   obtain ⟨rfl, rfl⟩ := hcut
   clear C6 HGB
   go_upto_region 13 with fail
   go_cut [7] from 125 to 142 (fun s wx => s = .bool SB ∧ wc = wx)
   case first =>
    by_cases b0 : d.shard = 0
    ·have k0 : (d.shard == 0) = true := by simpa using b0
     have hv : SB = true := by rw [HSB.out]; unfold withinB; split <;> simp [b0]
     clear b0
     go_wp2_with fail
     go_meet
     exact ⟨by rw [hv], rfl⟩
    ·have k0 : (d.shard == 0) = false := by simpa using b0
     by_cases h9 : d.dw = 9
     ·have k9 : (d.dw == 9) = true := by simpa using h9
      by_cases b1 : 0 < d.shard
      ·by_cases b2 : d.shard < 4
       ·have hv : SB = true := by
         rw [HSB.out, decide_eq_true h9]
         simp only [withinB, Bool.true_eq_false, if_false, Bool.and_eq_true, decide_eq_true_eq]
         omega
        clear b0 h9
        go_wp2_with fail
        go_meet
        exact ⟨by rw [hv], rfl⟩
       ·have hv : SB = false := by
         rw [HSB.out, decide_eq_true h9]
         simp only [withinB, Bool.true_eq_false, if_false, Bool.and_eq_false_iff, decide_eq_false_iff_not]
         omega
        clear b0 h9
        go_wp2_with fail
        go_meet
        exact ⟨by rw [hv], rfl⟩
      ·have hv : SB = false := by
        rw [HSB.out, decide_eq_true h9]
        simp only [withinB, Bool.true_eq_false, if_false, Bool.and_eq_false_iff, decide_eq_false_iff_not]
        omega
       clear b0 h9
       go_wp2_with fail
       go_meet
       exact ⟨by rw [hv], rfl⟩
     ·have k9 : (d.dw == 9) = false := by simpa using h9
      have hv : SB = false := by rw [HSB.out, decide_eq_false h9]; simp only [withinB, if_true]; exact decide_eq_false b0
      clear b0 h9
      go_wp2_with fail
      go_meet
      exact ⟨by rw [hv], rfl⟩
   case rest =>
   obtain ⟨rfl, rfl⟩ := hcut
   clear C7 HSB
   obtain ⟨V, hV⟩ : ∃ x, x = decide (d.dw = 8 ∨ d.dw = 9) := ⟨_, rfl⟩
   have HV := Lib.hid hV
   rw [← hV] at HEB
   clear hV
   go_upto_region 15 with fail
   go_cut [153] from 146 to 152 (fun s wx => s = .bool V ∧ wc = wx)
   case first =>
    by_cases h5 : d.dw = 8
    ·have hv : V = true := by rw [HV.out]; simp [h5]
     have k5 : (d.dw == 8) = true := by simpa using h5
     clear h5
     go_wp2_with fail
     go_meet
     exact ⟨by rw [hv], rfl⟩
    ·have k5 : (d.dw == 8) = false := by simpa using h5
     by_cases h6 : d.dw = 9
     ·have hv : V = true := by rw [HV.out]; simp [h6]
      have k6 : (d.dw == 9) = true := by simpa using h6
      clear h5 h6
      go_wp2_with fail
      go_meet
      exact ⟨by rw [hv], rfl⟩
     ·have hv : V = false := by rw [HV.out]; simp [h5, h6]
      have k6 : (d.dw == 9) = false := by simpa using h6
      clear h5 h6
      go_wp2_with fail
      go_meet
      exact ⟨by rw [hv], rfl⟩
   case rest =>
   obtain ⟨rfl, rfl⟩ := hcut
   go_upto_if 153 with fail
   go_cut [8] from 154 to 161 (fun s wx => s = .bool EB ∧ wc = wx)
   case first =>
    cases V with
    | true =>
     by_cases a1 : 1 ≤ d.epoch
     ·by_cases a2 : d.epoch ≤ 4294967295
      ·have hv : EB = true := by rw [HEB.out]; simp [withinB, a1, a2]
       go_wp2_with fail
       go_meet
       exact ⟨by rw [hv], rfl⟩
      ·have hv : EB = false := by rw [HEB.out]; simp [withinB, a2]
       go_wp2_with fail
       go_meet
       exact ⟨by rw [hv], rfl⟩
     ·have hv : EB = false := by rw [HEB.out]; simp [withinB, a1]
      go_wp2_with fail
      go_meet
      exact ⟨by rw [hv], rfl⟩
    | false =>
     have hv : EB = (d.epoch == 0) := by rw [HEB.out]; rfl
     go_wp2_with fail
     go_meet
     exact ⟨by rw [hv], rfl⟩
   case rest =>
   obtain ⟨rfl, rfl⟩ := hcut
   clear C8 HEB HV
   obtain ⟨XB, hXB⟩ : ∃ x, x = (!UB || !HB_ || !GB || !SB || !EB) := ⟨_, rfl⟩
   have HXB := Lib.hid hXB
   rw [← hXB] at HE3
   clear hXB
   go_upto_region 17 with fail
   go_cut [179] from 162 to 178 (fun s wx => s = .bool XB ∧ wc = wx)
   case first =>
    cases UB with
    | false =>
     go_wp2_with fail
     go_meet
     exact ⟨by rw [HXB.out]; rfl, rfl⟩
    | true =>
     cases HB_ with
     | false =>
      go_wp2_with fail
      go_meet
      exact ⟨by rw [HXB.out]; rfl, rfl⟩
     | true =>
      cases GB with
      | false =>
       go_wp2_with fail
       go_meet
       exact ⟨by rw [HXB.out]; rfl, rfl⟩
      | true =>
       cases SB with
       | false =>
        go_wp2_with fail
        go_meet
        exact ⟨by rw [HXB.out]; rfl, rfl⟩
       | true =>
        have hv : XB = !EB := by rw [HXB.out]; rfl
        go_wp2_with fail
        go_meet
        exact ⟨by rw [hv], rfl⟩
   case rest =>
   obtain ⟨rfl, rfl⟩ := hcut
   clear HXB
   cases XB with
   | true =>
    have HB : Hid (checkD d = 2) := Lib.hid (by rw [HE3.out]; rfl)
    go_wp2
    go_ret
    exact ⟨by rw [HB.out]; rfl, hx0.trans hx2⟩
   | false =>
    have HE4 := Lib.hid (HE3.out.trans (if_neg (by simp)))
    clear HE3
    by_cases h4 : d.dw = 4
    ·have k4 : (d.dw == 4) = true := by simpa using h4
     have m4 : (d.dw != 4) = false := by simp [h4]
     have k8 : (d.dw == 8) = false := by simp [h4]
     by_cases hl : 600 < d.bytes.length
     ·have HB : Hid (checkD d = 6) := Lib.hid (by rw [HE4.out, if_pos ⟨h4, hl⟩])
      have hl2 : (600 : Int) < (d.bytes.length : Int) := by omega
      clear h4
      go_wp2
      go_ret
      exact ⟨by rw [HB.out]; rfl, hx0.trans hx2⟩
     ·have HB : Hid (checkD d = 0) := Lib.hid (by rw [HE4.out, if_neg (by omega), if_neg (by omega), if_pos (by omega)])
      have hl2 : ¬ (600 : Int) < (d.bytes.length : Int) := by omega
      clear h4
      go_wp2
      go_ret
      exact ⟨by rw [HB.out]; rfl, hx0.trans hx2⟩
    ·have k4 : (d.dw == 4) = false := by simpa using h4
     have m4 : (d.dw != 4) = true := by simp [h4]
     have HE5 := Lib.hid (HE4.out.trans (if_neg (by omega)))
     clear HE4
     by_cases h8 : d.dw = 8
     ·have k8 : (d.dw == 8) = true := by simpa using h8
      have HE6 : Hid (checkD d = lastC d) := Lib.hid (by rw [HE5.out, if_neg (by omega), if_neg (by omega)])
      clear h4 h8 HE5
      go_wp2_with (with_reducible first | refine sA 116 ?_ | refine sS 116 ?_ | refine sL 116 ?_)
      refine (HTU wc hx2).mono ?_
      rintro e w3 ⟨hx3, hq⟩
      have hx23 := hx2.trans hx3
      cases htk : takeUs d.bytes with
      | inl k =>
       rw [htk] at hq
       obtain rfl := hq
       have HB : Hid (checkD d = k) := Lib.hid (by rw [HE6.out]; unfold lastC; rw [htk])
       have k1 : (((k : Nat) : Int) == 0) = false := by simpa using takeUs_pos htk
       have k2 : ¬ k = 0 := takeUs_pos htk
       clear htk HTU HE6
       go_wp2_with (with_reducible first | refine sA 116 ?_ | refine sS 116 ?_ | refine sL 116 ?_)
       refine go_on (wpList_alloc_ rfl rfl user_info ?_)
       go_wp2_with (with_reducible first | refine sA 116 ?_ | refine sS 116 ?_ | refine sL 116 ?_)
       refine go_on (wpList_store_last (c' := zUser) rfl rfl rfl rfl (by kernel_rfl) rfl (by simp [zUser, Value.oneCell']) ?_)
       intro wd hrowD hxd _
       have hx2d := hx23.trans hxd
       go_wp2
       go_ret
       exact ⟨by rw [HB.out]; rfl, hx0.trans hx2d⟩
      | inr u =>
       rw [htk] at hq
       obtain ⟨v, rfl, hown⟩ := hq
       obtain ⟨A3, c3, rfl⟩ := hown.form
       obtain ⟨un, uv, bs⟩ := u
       clear HTU
       go_wp2_with (with_reducible first | refine sA 116 ?_ | refine sS 116 ?_ | refine sL 116 ?_)
       refine go_on (wpList_alloc_ rfl rfl user_info ?_)
       go_wp2_with (with_reducible first | refine sA 116 ?_ | refine sS 116 ?_ | refine sL 116 ?_)
       refine go_on (wpList_store_last (c' := #[.string (st un), .int .i64 uv, .slice A3 bs.length c3]) rfl rfl rfl rfl (by kernel_rfl) rfl (by simp [Value.oneCell']) ?_)
       intro wd hrowD hxd _
       have hx2d := hx23.trans hxd
       obtain ⟨D0, _, _, _⟩ := rows3 hrowD
       try simp only at D0
       cases hn : (un == d.user) with
       | true =>
        have HB : Hid (checkD d = 0) := Lib.hid (by rw [HE6.out]; unfold lastC; rw [htk]; exact if_neg (by simpa using hn))
        clear htk HE6
        go_wp2
        go_ret
        exact ⟨by rw [HB.out]; rfl, hx0.trans hx2d⟩
       | false =>
        have HB : Hid (checkD d = 4) := Lib.hid (by rw [HE6.out]; unfold lastC; rw [htk]; exact if_pos (by simpa using hn))
        clear htk HE6
        go_wp2
        go_ret
        exact ⟨by rw [HB.out]; rfl, hx0.trans hx2d⟩
     ·have k8 : (d.dw == 8) = false := by simpa using h8
      by_cases hl : 0 < d.bytes.length
      ·have HB : Hid (checkD d = 2) := Lib.hid (by rw [HE5.out, if_pos (by omega)])
       have hl2 : (0 : Int) < (d.bytes.length : Int) := by omega
       go_wp2
       go_ret
       exact ⟨by rw [HB.out]; rfl, hx0.trans hx2⟩
      ·have HB : Hid (checkD d = 0) := Lib.hid (by rw [HE5.out, if_neg (by omega), if_pos h8])
       have hl2 : ¬ (0 : Int) < (d.bytes.length : Int) := by omega
       go_wp2
       go_ret
       exact ⟨by rw [HB.out]; rfl, hx0.trans hx2⟩
end Go.Proofs.YthlppbbejdeeoaaGreatDoor
