/- The walk of coord.Redo. Conditions: the hypotheses of the theorem. -/
import Derived.Test.YtijopcdjlpafdaaC2
import Derived.Test.YtijopcdjlpafdaaCo14M
namespace Go.Proofs.Ytijopcdjlpafdaa
open Go.RowKit
set_option maxRecDepth 20000 in
set_option maxHeartbeats 4000000 in
theorem CRedo_2 {M : List Nat} {w : World} {p : Nat} {s : Cs} (h : Co M w p s) (hs : s.Ok) (hp : p ∈ M) (hM : ∀ k ∈ M, k < w.heap.size) (A : Option Addr) (c : Nat) (rec : By) (hb : Bs w A rec) (hc : rec.length ≤ c) (hm : rec.length ≤ 140737488355328) (hk : (rec.getD 0 0).toNat = 2) :
 Calls Try.prog 8 #[pt p, .slice A rec.length c] w fun e w' => e = .returned (.int .i64 (redoO s rec).1) ∧ Co M w' p (redoO s rec).2 ∧ Kept [p] w w' := by
 have hfew : s.under.length ≤ 1000 := by have := hs.few; omega
 have HCO := Lib.hid h
 have HM := Lib.hid hM
 have HS := Lib.hid hs
 have HBS := Lib.hid hb
 have hx0 := Ext.refl w
 unfold pt
 by_cases h5 : rec.length < 5
 ·have h5' : (rec.length : Int) < 5 := by omega
  have HV : Hid (redoO s rec = (4, s)) := Lib.hid (by unfold redoO; rw [if_pos (.inl h5)])
  clear h5 hb
  go_enter Try.func8, Try.ntmps8
  go_wp2
  go_ret
  rw [HV.out]
  exact ⟨rfl, HCO.out, .refl _ _⟩
 have h5' : ¬ (rec.length : Int) < 5 := by omega
 have HV1 := fun W (hx : Ext w W) => val_any W A c 1 rec (HBS.out.ext hx) hc (by omega) hm
 have HG1 := fun W => good_any (valAt rec 1) W
 obtain ⟨ad, rfl, hcell0⟩ := hb.at_ (show 0 < rec.length by omega)
 have hg0 : rec.getD 0 0 = rec[0]'(by omega) := by rw [List.getD_eq_getElem?_getD, List.getElem?_eq_getElem (by omega)]; rfl
 rw [sl_add0] at hcell0
 have HRE : Hid (redoO s rec = if goodF (valAt rec 1) = false then (4, s) else if rec[0]'(by omega) = 1 ∧ rec.length = 5 then livesO s (valAt rec 1 : Nat)
  else if rec.length < 9 ∨ goodF (valAt rec 5) = false then (4, s)
  else if rec[0]'(by omega) = 3 ∧ rec.length = 9 then
   match s.at_ ⟨s.node, (valAt rec 1 : Nat), (valAt rec 5 : Nat)⟩ true with
   | none => (13, s)
   | some i => (0, { s with under := s.under.eraseIdx i })
  else if rec[0]'(by omega) = 2 ∧ 9 < rec.length ∧ rec.length = 10 + (rec.getD 9 0).toNat then
   let sh := (rec.drop 10).map fun c => ((c.toNat : Nat) : Int)
   if rightF sh then isDoneO s ⟨s.node, (valAt rec 1 : Nat), (valAt rec 5 : Nat)⟩ sh else (4, s)
  else (4, s)) := Lib.hid (by
   unfold redoO
   rw [hg0]
   by_cases hg : goodF (valAt rec 1) = false
   ·rw [if_pos (.inr hg), if_pos hg]
   ·rw [if_neg (by rintro (h | h); exact h5 h; exact hg h), if_neg hg]
    cases s.at_ ⟨s.node, (valAt rec 1 : Nat), (valAt rec 5 : Nat)⟩ true <;> rfl)
 generalize hb0e : rec[0]'(by omega) = b0 at *
 have hb0 := b0.toNat_lt
 have HG0 := Lib.hid hg0
 clear hg0 hb0e
 go_enter Try.func8, Try.ntmps8
 go_wp2_with fail
 refine (HV1 _ hx0).mono ?_
 rintro e _ ⟨rfl, rfl⟩
 go_wp2_with fail
 refine (HG1 _).mono ?_
 rintro e _ ⟨rfl, rfl⟩
 by_cases hg : goodF (valAt rec 1) = false
 ·have HV := Lib.hid (HRE.out.trans (if_pos hg))
  rw [hg]
  clear hg HRE
  go_wp2
  go_ret
  rw [HV.out]
  exact ⟨rfl, HCO.out, .refl _ _⟩
 have HRE := Lib.hid (HRE.out.trans (if_neg hg))
 have hg : goodF (valAt rec 1) = true := by simpa using hg
 rw [hg]
 have HGD := Lib.hid hg
 clear hg HG1
 by_cases hl : b0.toNat = 1 ∧ rec.length = 5
 ·have HRE := Lib.hid (HRE.out.trans (if_pos ⟨(u8_is (n := 1) (by omega)).2 hl.1, hl.2⟩))
  obtain ⟨h1, h2⟩ := hl
  have q1 : ((b0.toNat : Int) == 1) = true := by rw [h1]; rfl
  have q2 : ((rec.length : Int) == 5) = true := by rw [h2]; rfl
  have HL := clives_any HCO.out hp HM.out ((valAt rec 1 : Nat) : Int) hfew
  unfold pt at HL
  have hcc := hcell0 w hx0
  clear h1 h2 hb hcell0
  go_wp2_with fail
  refine (HV1 _ hx0).mono ?_
  rintro e _ ⟨rfl, rfl⟩
  go_wp2_with fail
  refine HL.mono ?_
  rintro e w3 ⟨rfl, hco3, hk3⟩
  have HC3 := Lib.hid hco3
  have HK3 := Lib.hid hk3
  clear hco3 hk3 HL
  go_wp2
  go_ret
  rw [HRE.out]
  exact ⟨rfl, HC3.out, HK3.out⟩
 have HRE := Lib.hid (HRE.out.trans (if_neg (by rintro ⟨e1, e2⟩; exact hl ⟨(u8_is (n := 1) (by omega)).1 e1, e2⟩)))
 obtain ⟨Ac, cap, hcr⟩ := h
 have HCR := Lib.hid hcr.row
 have hcc := hcell0 w hx0
 clear hcr
 have hb2 : b0.toNat = 2 := HG0.out ▸ hk
 have q1 : ((b0.toNat : Int) == 1) = false := beq_eq_false_iff_ne.2 (by omega)
 have q3 : ((b0.toNat : Int) == 3) = false := beq_eq_false_iff_ne.2 (by omega)
 have n3 : ¬ b0.toNat = 3 := by omega
 have q2 : ((b0.toNat : Int) == 2) = true := by rw [hb2]; rfl
 have HB2 := Lib.hid hb2
 clear hl hb2 hk
 by_cases hl10 : 9 < rec.length
 ·have hl10' : (9 : Int) < (rec.length : Int) := by omega
  obtain ⟨ad9, e9, hcell9⟩ := hb.at_ (show 9 < rec.length by omega)
  cases e9
  rw [show ad.add 9 = ⟨ad.block, ad.off + 9, none⟩ from add_pos' ad 8] at hcell9
  have hg9e : rec.getD 9 0 = rec[9]'(by omega) := by rw [List.getD_eq_getElem?_getD, List.getElem?_eq_getElem (by omega)]; rfl
  generalize hb9e : rec[9]'(by omega) = b9 at *
  have HG9 := Lib.hid hg9e
  have hb9 := b9.toNat_lt
  clear hb9e hg9e
  by_cases hlb : rec.length = 10 + b9.toNat
  ·have qlb : ((rec.length : Int) == 10 + (b9.toNat : Int)) = true := by simp; omega
   have HLB := Lib.hid hlb
   clear hlb
   by_cases h9 : rec.length < 9
   ·have h9' : (rec.length : Int) < 9 := by omega
    have HV := Lib.hid (HRE.out.trans (if_pos (.inl h9)))
    clear h9 HRE
    go_wp2
    go_ret
    rw [HV.out]
    exact ⟨rfl, HCO.out, .refl _ _⟩
   have h9' : ¬ (rec.length : Int) < 9 := by omega
   have HV5 := fun W (hx : Ext w W) => val_any W (some ad) c 5 rec (HBS.out.ext hx) hc (by omega) hm
   have HG5 := fun W => good_any (valAt rec 5) W
   go_wp2_with fail
   refine (HV5 _ hx0).mono ?_
   rintro e _ ⟨rfl, rfl⟩
   go_wp2_with fail
   refine (HG5 _).mono ?_
   rintro e _ ⟨rfl, rfl⟩
   by_cases hg : goodF (valAt rec 5) = false
   ·have HV := Lib.hid (HRE.out.trans (if_pos (.inr hg)))
    rw [hg]
    clear hg HRE
    go_wp2
    go_ret
    rw [HV.out]
    exact ⟨rfl, HCO.out, .refl _ _⟩
   have HRE := Lib.hid (HRE.out.trans (if_neg (by rintro (h | h); exact h9 h; exact hg h)))
   have hg : goodF (valAt rec 5) = true := by simpa using hg
   rw [hg]
   have HG5D := Lib.hid hg
   clear hg HG5
   go_wp2_with fail
   have hxd : Ext w w.drew := hx0.drew
   have e0 := fun W (hx : Ext w W) => (rows4 HCR.out).1 W hx
   refine wp_region_phase (S := fun w' => Ext w w') 10 (by kernel_rfl) (by kernel_rfl) ?_ (fun hHeld => ?_)
   ·exact hxd
   simp only [List.drop_succ_cons, List.drop_zero]
   refine name_head ?_
   intro wr0 hw0
   rw [hw0] at hHeld
   refine wt 0 _ ?_
   simp only [red, Act.put]
   refine wt 1 _ ?_
   simp only [red, Act.put]
   refine wt 2 _ ?_
   simp only [red, Act.put]
   refine wt 3 _ ?_
   simp only [red, Act.put]
   refine wt 4 _ ?_
   simp only [red, Act.put]
   refine wt 6 _ ?_
   simp only [red, Act.put]
   refine rd [5, 9] ?_
   refine ac (fun K hK => ?_) ?_
   ·refine step_callG (by rfl) (by kernel_rfl) (HV1 _ hHeld) ?_
    rintro e wr5 ⟨rfl, hwv5⟩
    have hxv5 : Ext wr0 wr5 := hwv5 ▸ Ext.refl _
    refine ⟨_, rfl, ?_⟩
    try replace hrow9 := hxv5.obj hrow9
    refine hK.out _ _ ?_ (fun hHeld => ?_)
    ·exact hHeld.trans hxv5
    clear hK K
    try simp only [red, Act.put]
    refine rd [7, 9] ?_
    refine ac (fun K hK => ?_) ?_
    ·refine step_callG (by rfl) (by kernel_rfl) (HV5 _ hHeld) ?_
     rintro e wr7 ⟨rfl, hwv7⟩
     have hxv7 : Ext wr5 wr7 := hwv7 ▸ Ext.refl _
     refine ⟨_, rfl, ?_⟩
     try replace hrow9 := hxv7.obj hrow9
     refine hK.out _ _ ?_ (fun hHeld => ?_)
     ·exact hHeld.trans hxv7
     clear hK K
     try simp only [red, Act.put]
     refine wt 8 _ ?_
     simp only [red, Act.put]
     refine rd [9] ?_
     refine ac (fun K hK => ?_) ?_
     ·go_simp
      refine name_world ?_
      rintro wr9 hw9
      have hxn9 : Ext wr7 wr9 := hw9 ▸ (Ext.refl _).alloc _
      have hrow9 : wr9.heap[wr7.heap.size]? = some (.cells #[.int .i64 0, .int .i64 0, .int .i64 0] 35 (0, 0)) := hw9 ▸ heap_alloc_new wr7 _
      have hg9 : w.heap.size ≤ wr7.heap.size := hHeld.size
      refine hK.out _ _ ?_ (fun hHeld => ?_)
      ·exact hHeld.trans hxn9
      clear hK K
      try simp only [red, Act.put]
      refine wpHead_done (by kernel_rfl) ?_
      go_wp2_with (with_reducible refine sS 35 ?_)
      refine go_on (wpList_store_whole rfl rfl rfl rfl hrow9 (apitx_size _ _ _) rfl (by simp [Value.oneCell']) ?_)
      intro wG hrowG hkG _
      have hxG : Ext w wG := hHeld.kept hkG (one_ge hg9)
      have HIG : Hid (TxAt wG _ ⟨s.node, (valAt rec 1 : Nat), (valAt rec 5 : Nat)⟩) := Lib.hid hrowG
      clear hkG hrowG hrow9 e0 hHeld
      have HRE := Lib.hid (HRE.out.trans (by rw [if_neg (fun h => n3 ((u8_is (n := 3) (by omega)).1 h.1)), if_pos ⟨(u8_is (n := 2) (by omega)).2 HB2.out, hl10, by rw [HG9.out]; exact HLB.out⟩]))
      have hcc := hcell0 wG hxG
      have hcc9 := hcell9 wG hxG
      have HXG := Lib.hid hxG
      obtain ⟨A3, s10, f10⟩ := cutB_l (P := Try.prog) Try.underlying23 size8 (some ad) rec.length c rec 10 (li := 10) rfl rfl hc (by omega)
      have hbd := f10 _ (HBS.out.ext hxG)
      have hdl : (rec.drop 10).length = rec.length - 10 := by rw [List.length_drop]
      rw [← hdl] at s10
      have hdl2 : (rec.drop 10).length < 256 := by have := HLB.out; have := hb9; omega
      have HSHe : Hid (((rec.drop 10).map fun c => ((c.toNat : Nat) : Int)) = (rec.drop 10).map fun c => ((c.toNat : Nat) : Int)) := Lib.hid rfl
      generalize rec.drop 10 = d at *
      clear f10 hdl hcell0 hcell9 hb h5'
      go_wp2
      have hgi := obj_lt HIG.out
      go_loopw [8, 10, 101] (fun sv _ i wr => ∃ k : Nat, i = .int .i64 k ∧ k ≤ d.length ∧ wr.ownsRow wG.heap.size 3 1 sv k (ib ((d.map fun c => ((c.toNat : Nat) : Int)).take k)) ∧ Ext wG wr) (fun _ _ i _ => d.length - (intOf i).toNat)
      case atStart => exact ⟨0, rfl, by omega, World.ownsRow_nil _ _ _ _, Ext.refl _⟩
      case round =>
       obtain ⟨k, rfl, hk, hown, hxk⟩ := hrel
       clear hcc hcc9
       by_cases hlt : k < d.length
       ·have hlt2 : (k : Int) < (d.length : Int) := by omega
        obtain ⟨ad3, rfl, hc3⟩ := hbd.at_ hlt
        have hc30 := hc3 _ hxk
        have hb256 := d[k].toNat_lt
        have HTK : Hid (ib ((d.map fun c => ((c.toNat : Nat) : Int)).take (k + 1)) = ib ((d.map fun c => ((c.toNat : Nat) : Int)).take k) ++ [.int .i64 (d[k].toNat : Int)]) := Lib.hid (by
         rw [List.take_succ_eq_append_getElem (by simpa using hlt)]
         simp [ib])
        obtain ⟨Av, cv, hv⟩ := own_form hown
        have HOW := Lib.hid hown
        generalize d[k].toNat = dk at *
        clear hc3
        subst hv
        go_wp2_with (at_builtin; refine unstop ?_)
        have hnew : Sl (wr.alloc (.cells #[.int .i64 (dk : Int)] 3)) (some ⟨wr.heap.size, 0, none⟩) [.int .i64 (dk : Int)] := Sl.new wr _ _ _
        refine go_on (wpList_app intsT (HOW.out.alloc _) hnew rfl rfl rfl rfl rfl (by intro u hu; simp at hu; subst hu; rfl) (by omega) (by omega) (by have := hxk.size; simp; omega) ?_)
        intro v' w5 ho5 hg5 _
        have HO5 : Hid (w5.ownsRow wG.heap.size 3 1 v' (k + 1) (ib ((d.map fun c => ((c.toNat : Nat) : Int)).take (k + 1)))) := Lib.hid (by rw [HTK.out]; exact ho5)
        have HX5 : Hid (Ext wG w5) := Lib.hid ((hxk.alloc _).own (HOW.out.alloc _) (Nat.le_refl _) hg5)
        clear hnew ho5 hg5 hown hxk
        go_wp2
        go_roundw
        case rel => exact ⟨k + 1, by go_num, by omega, HO5.out, HX5.out⟩
        case measure => simp [intOf]; omega
       ·have hlt2 : ¬ (k : Int) < (d.length : Int) := by omega
        obtain rfl : k = d.length := by omega
        rw [List.take_of_length_le (by simp)] at hown
        have HR2 := Lib.hid HRE.out
        obtain ⟨Av, cv, hv⟩ := own_form hown
        subst hv
        have hshl : (d.map fun c => ((c.toNat : Nat) : Int)).length = d.length := by simp
        have HXR := Lib.hid (hxG.trans hxk)
        have HIK : Hid (TxAt wr _ ⟨s.node, (valAt rec 1 : Nat), (valAt rec 5 : Nat)⟩) := Lib.hid (hxk.obj HIG.out)
        have HSM : Hid (SlM M wr Av (ib (d.map fun c => ((c.toNat : Nat) : Int)))) := Lib.hid (SlM.own hown rfl fun k hk => Nat.lt_of_lt_of_le (HM.out k hk) hxG.size)
        generalize (d.map fun c => ((c.toNat : Nat) : Int)) = sh at *
        have hRT := right_any wr Av cv sh HSM.out.sl (by omega)
        rw [hshl] at hRT
        have HSHL := Lib.hid hshl
        obtain ⟨t0, t1, t2, -⟩ := rows3 HIK.out
        have hx0r := Ext.refl wr
        clear hown hxk hxG hbd HIG hshl
        go_wp2_with fail
        refine hRT.mono ?_
        rintro e _ ⟨rfl, rfl⟩
        by_cases hr : rightF sh = true; rotate_left
        ·have HV : Hid (redoO s rec = (4, s)) := Lib.hid (HR2.out.trans (if_neg hr))
         have hr : rightF sh = false := by simpa using hr
         rw [hr]
         clear hr
         go_wp2
         go_ret
         rw [HV.out]
         exact ⟨rfl, HCO.out.ext HXR.out, .of_ext HXR.out⟩
        ·have HV := Lib.hid (HR2.out.trans (if_pos hr))
         have hgo := HG5D.out
         unfold goodF at hgo
         simp only [Bool.and_eq_true, decide_eq_true_eq] at hgo
         have HDN := CIsDone_any (HCO.out.ext HXR.out) HS.out hp (fun k hk => Nat.lt_of_lt_of_le (HM.out k hk) HXR.out.size) ⟨s.node, (valAt rec 1 : Nat), (valAt rec 5 : Nat)⟩ (by simp only []; omega) (by simp only []; omega) Av cv sh HSM.out hr
         rw [HSHL.out] at HDN
         unfold pt at HDN
         rw [hr]
         clear hr hgo
         go_wp2_with fail
         refine HDN.mono ?_
         rintro e w6 ⟨rfl, hco6, hk6⟩
         have HC6 := Lib.hid hco6
         have HK6 := Lib.hid ((Kept.of_ext HXR.out).trans hk6)
         clear hco6 hk6 HDN
         go_wp2
         go_ret
         rw [HV.out]
         exact ⟨rfl, HC6.out, HK6.out⟩
     exact AllHead.nil
    refine ac (fun K hK => ?_) ?_
    ·go_simp
     refine name_world ?_
     rintro wr9 hw9
     have hxn9 : Ext wr5 wr9 := hw9 ▸ (Ext.refl _).alloc _
     have hrow9 : wr9.heap[wr5.heap.size]? = some (.cells #[.int .i64 0, .int .i64 0, .int .i64 0] 35 (0, 0)) := hw9 ▸ heap_alloc_new wr5 _
     have hg9 : w.heap.size ≤ wr5.heap.size := hHeld.size
     refine hK.out _ _ ?_ (fun hHeld => ?_)
     ·exact hHeld.trans hxn9
     clear hK K
     try simp only [red, Act.put]
     refine rd [7] ?_
     refine ac (fun K hK => ?_) ?_
     ·refine step_callG (by rfl) (by kernel_rfl) (HV5 _ hHeld) ?_
      rintro e wr7 ⟨rfl, hwv7⟩
      have hxv7 : Ext wr9 wr7 := hwv7 ▸ Ext.refl _
      refine ⟨_, rfl, ?_⟩
      try replace hrow9 := hxv7.obj hrow9
      refine hK.out _ _ ?_ (fun hHeld => ?_)
      ·exact hHeld.trans hxv7
      clear hK K
      try simp only [red, Act.put]
      refine wt 8 _ ?_
      simp only [red, Act.put]
      refine wpHead_done (by kernel_rfl) ?_
      go_wp2_with (with_reducible refine sS 35 ?_)
      refine go_on (wpList_store_whole rfl rfl rfl rfl hrow9 (apitx_size _ _ _) rfl (by simp [Value.oneCell']) ?_)
      intro wG hrowG hkG _
      have hxG : Ext w wG := hHeld.kept hkG (one_ge hg9)
      have HIG : Hid (TxAt wG _ ⟨s.node, (valAt rec 1 : Nat), (valAt rec 5 : Nat)⟩) := Lib.hid hrowG
      clear hkG hrowG hrow9 e0 hHeld
      have HRE := Lib.hid (HRE.out.trans (by rw [if_neg (fun h => n3 ((u8_is (n := 3) (by omega)).1 h.1)), if_pos ⟨(u8_is (n := 2) (by omega)).2 HB2.out, hl10, by rw [HG9.out]; exact HLB.out⟩]))
      have hcc := hcell0 wG hxG
      have hcc9 := hcell9 wG hxG
      have HXG := Lib.hid hxG
      obtain ⟨A3, s10, f10⟩ := cutB_l (P := Try.prog) Try.underlying23 size8 (some ad) rec.length c rec 10 (li := 10) rfl rfl hc (by omega)
      have hbd := f10 _ (HBS.out.ext hxG)
      have hdl : (rec.drop 10).length = rec.length - 10 := by rw [List.length_drop]
      rw [← hdl] at s10
      have hdl2 : (rec.drop 10).length < 256 := by have := HLB.out; have := hb9; omega
      have HSHe : Hid (((rec.drop 10).map fun c => ((c.toNat : Nat) : Int)) = (rec.drop 10).map fun c => ((c.toNat : Nat) : Int)) := Lib.hid rfl
      generalize rec.drop 10 = d at *
      clear f10 hdl hcell0 hcell9 hb h5'
      go_wp2
      have hgi := obj_lt HIG.out
      go_loopw [8, 10, 101] (fun sv _ i wr => ∃ k : Nat, i = .int .i64 k ∧ k ≤ d.length ∧ wr.ownsRow wG.heap.size 3 1 sv k (ib ((d.map fun c => ((c.toNat : Nat) : Int)).take k)) ∧ Ext wG wr) (fun _ _ i _ => d.length - (intOf i).toNat)
      case atStart => exact ⟨0, rfl, by omega, World.ownsRow_nil _ _ _ _, Ext.refl _⟩
      case round =>
       obtain ⟨k, rfl, hk, hown, hxk⟩ := hrel
       clear hcc hcc9
       by_cases hlt : k < d.length
       ·have hlt2 : (k : Int) < (d.length : Int) := by omega
        obtain ⟨ad3, rfl, hc3⟩ := hbd.at_ hlt
        have hc30 := hc3 _ hxk
        have hb256 := d[k].toNat_lt
        have HTK : Hid (ib ((d.map fun c => ((c.toNat : Nat) : Int)).take (k + 1)) = ib ((d.map fun c => ((c.toNat : Nat) : Int)).take k) ++ [.int .i64 (d[k].toNat : Int)]) := Lib.hid (by
         rw [List.take_succ_eq_append_getElem (by simpa using hlt)]
         simp [ib])
        obtain ⟨Av, cv, hv⟩ := own_form hown
        have HOW := Lib.hid hown
        generalize d[k].toNat = dk at *
        clear hc3
        subst hv
        go_wp2_with (at_builtin; refine unstop ?_)
        have hnew : Sl (wr.alloc (.cells #[.int .i64 (dk : Int)] 3)) (some ⟨wr.heap.size, 0, none⟩) [.int .i64 (dk : Int)] := Sl.new wr _ _ _
        refine go_on (wpList_app intsT (HOW.out.alloc _) hnew rfl rfl rfl rfl rfl (by intro u hu; simp at hu; subst hu; rfl) (by omega) (by omega) (by have := hxk.size; simp; omega) ?_)
        intro v' w5 ho5 hg5 _
        have HO5 : Hid (w5.ownsRow wG.heap.size 3 1 v' (k + 1) (ib ((d.map fun c => ((c.toNat : Nat) : Int)).take (k + 1)))) := Lib.hid (by rw [HTK.out]; exact ho5)
        have HX5 : Hid (Ext wG w5) := Lib.hid ((hxk.alloc _).own (HOW.out.alloc _) (Nat.le_refl _) hg5)
        clear hnew ho5 hg5 hown hxk
        go_wp2
        go_roundw
        case rel => exact ⟨k + 1, by go_num, by omega, HO5.out, HX5.out⟩
        case measure => simp [intOf]; omega
       ·have hlt2 : ¬ (k : Int) < (d.length : Int) := by omega
        obtain rfl : k = d.length := by omega
        rw [List.take_of_length_le (by simp)] at hown
        have HR2 := Lib.hid HRE.out
        obtain ⟨Av, cv, hv⟩ := own_form hown
        subst hv
        have hshl : (d.map fun c => ((c.toNat : Nat) : Int)).length = d.length := by simp
        have HXR := Lib.hid (hxG.trans hxk)
        have HIK : Hid (TxAt wr _ ⟨s.node, (valAt rec 1 : Nat), (valAt rec 5 : Nat)⟩) := Lib.hid (hxk.obj HIG.out)
        have HSM : Hid (SlM M wr Av (ib (d.map fun c => ((c.toNat : Nat) : Int)))) := Lib.hid (SlM.own hown rfl fun k hk => Nat.lt_of_lt_of_le (HM.out k hk) hxG.size)
        generalize (d.map fun c => ((c.toNat : Nat) : Int)) = sh at *
        have hRT := right_any wr Av cv sh HSM.out.sl (by omega)
        rw [hshl] at hRT
        have HSHL := Lib.hid hshl
        obtain ⟨t0, t1, t2, -⟩ := rows3 HIK.out
        have hx0r := Ext.refl wr
        clear hown hxk hxG hbd HIG hshl
        go_wp2_with fail
        refine hRT.mono ?_
        rintro e _ ⟨rfl, rfl⟩
        by_cases hr : rightF sh = true; rotate_left
        ·have HV : Hid (redoO s rec = (4, s)) := Lib.hid (HR2.out.trans (if_neg hr))
         have hr : rightF sh = false := by simpa using hr
         rw [hr]
         clear hr
         go_wp2
         go_ret
         rw [HV.out]
         exact ⟨rfl, HCO.out.ext HXR.out, .of_ext HXR.out⟩
        ·have HV := Lib.hid (HR2.out.trans (if_pos hr))
         have hgo := HG5D.out
         unfold goodF at hgo
         simp only [Bool.and_eq_true, decide_eq_true_eq] at hgo
         have HDN := CIsDone_any (HCO.out.ext HXR.out) HS.out hp (fun k hk => Nat.lt_of_lt_of_le (HM.out k hk) HXR.out.size) ⟨s.node, (valAt rec 1 : Nat), (valAt rec 5 : Nat)⟩ (by simp only []; omega) (by simp only []; omega) Av cv sh HSM.out hr
         rw [HSHL.out] at HDN
         unfold pt at HDN
         rw [hr]
         clear hr hgo
         go_wp2_with fail
         refine HDN.mono ?_
         rintro e w6 ⟨rfl, hco6, hk6⟩
         have HC6 := Lib.hid hco6
         have HK6 := Lib.hid ((Kept.of_ext HXR.out).trans hk6)
         clear hco6 hk6 HDN
         go_wp2
         go_ret
         rw [HV.out]
         exact ⟨rfl, HC6.out, HK6.out⟩
     exact AllHead.nil
    exact AllHead.nil
   refine ac (fun K hK => ?_) ?_
   ·go_simp
    refine name_world ?_
    rintro wr9 hw9
    have hxn9 : Ext wr0 wr9 := hw9 ▸ (Ext.refl _).alloc _
    have hrow9 : wr9.heap[wr0.heap.size]? = some (.cells #[.int .i64 0, .int .i64 0, .int .i64 0] 35 (0, 0)) := hw9 ▸ heap_alloc_new wr0 _
    have hg9 : w.heap.size ≤ wr0.heap.size := hHeld.size
    refine hK.out _ _ ?_ (fun hHeld => ?_)
    ·exact hHeld.trans hxn9
    clear hK K
    try simp only [red, Act.put]
    refine rd [5] ?_
    refine ac (fun K hK => ?_) ?_
    ·refine step_callG (by rfl) (by kernel_rfl) (HV1 _ hHeld) ?_
     rintro e wr5 ⟨rfl, hwv5⟩
     have hxv5 : Ext wr9 wr5 := hwv5 ▸ Ext.refl _
     refine ⟨_, rfl, ?_⟩
     try replace hrow9 := hxv5.obj hrow9
     refine hK.out _ _ ?_ (fun hHeld => ?_)
     ·exact hHeld.trans hxv5
     clear hK K
     try simp only [red, Act.put]
     refine rd [7] ?_
     refine ac (fun K hK => ?_) ?_
     ·refine step_callG (by rfl) (by kernel_rfl) (HV5 _ hHeld) ?_
      rintro e wr7 ⟨rfl, hwv7⟩
      have hxv7 : Ext wr5 wr7 := hwv7 ▸ Ext.refl _
      refine ⟨_, rfl, ?_⟩
      try replace hrow9 := hxv7.obj hrow9
      refine hK.out _ _ ?_ (fun hHeld => ?_)
      ·exact hHeld.trans hxv7
      clear hK K
      try simp only [red, Act.put]
      refine wt 8 _ ?_
      simp only [red, Act.put]
      refine wpHead_done (by kernel_rfl) ?_
      go_wp2_with (with_reducible refine sS 35 ?_)
      refine go_on (wpList_store_whole rfl rfl rfl rfl hrow9 (apitx_size _ _ _) rfl (by simp [Value.oneCell']) ?_)
      intro wG hrowG hkG _
      have hxG : Ext w wG := hHeld.kept hkG (one_ge hg9)
      have HIG : Hid (TxAt wG _ ⟨s.node, (valAt rec 1 : Nat), (valAt rec 5 : Nat)⟩) := Lib.hid hrowG
      clear hkG hrowG hrow9 e0 hHeld
      have HRE := Lib.hid (HRE.out.trans (by rw [if_neg (fun h => n3 ((u8_is (n := 3) (by omega)).1 h.1)), if_pos ⟨(u8_is (n := 2) (by omega)).2 HB2.out, hl10, by rw [HG9.out]; exact HLB.out⟩]))
      have hcc := hcell0 wG hxG
      have hcc9 := hcell9 wG hxG
      have HXG := Lib.hid hxG
      obtain ⟨A3, s10, f10⟩ := cutB_l (P := Try.prog) Try.underlying23 size8 (some ad) rec.length c rec 10 (li := 10) rfl rfl hc (by omega)
      have hbd := f10 _ (HBS.out.ext hxG)
      have hdl : (rec.drop 10).length = rec.length - 10 := by rw [List.length_drop]
      rw [← hdl] at s10
      have hdl2 : (rec.drop 10).length < 256 := by have := HLB.out; have := hb9; omega
      have HSHe : Hid (((rec.drop 10).map fun c => ((c.toNat : Nat) : Int)) = (rec.drop 10).map fun c => ((c.toNat : Nat) : Int)) := Lib.hid rfl
      generalize rec.drop 10 = d at *
      clear f10 hdl hcell0 hcell9 hb h5'
      go_wp2
      have hgi := obj_lt HIG.out
      go_loopw [8, 10, 101] (fun sv _ i wr => ∃ k : Nat, i = .int .i64 k ∧ k ≤ d.length ∧ wr.ownsRow wG.heap.size 3 1 sv k (ib ((d.map fun c => ((c.toNat : Nat) : Int)).take k)) ∧ Ext wG wr) (fun _ _ i _ => d.length - (intOf i).toNat)
      case atStart => exact ⟨0, rfl, by omega, World.ownsRow_nil _ _ _ _, Ext.refl _⟩
      case round =>
       obtain ⟨k, rfl, hk, hown, hxk⟩ := hrel
       clear hcc hcc9
       by_cases hlt : k < d.length
       ·have hlt2 : (k : Int) < (d.length : Int) := by omega
        obtain ⟨ad3, rfl, hc3⟩ := hbd.at_ hlt
        have hc30 := hc3 _ hxk
        have hb256 := d[k].toNat_lt
        have HTK : Hid (ib ((d.map fun c => ((c.toNat : Nat) : Int)).take (k + 1)) = ib ((d.map fun c => ((c.toNat : Nat) : Int)).take k) ++ [.int .i64 (d[k].toNat : Int)]) := Lib.hid (by
         rw [List.take_succ_eq_append_getElem (by simpa using hlt)]
         simp [ib])
        obtain ⟨Av, cv, hv⟩ := own_form hown
        have HOW := Lib.hid hown
        generalize d[k].toNat = dk at *
        clear hc3
        subst hv
        go_wp2_with (at_builtin; refine unstop ?_)
        have hnew : Sl (wr.alloc (.cells #[.int .i64 (dk : Int)] 3)) (some ⟨wr.heap.size, 0, none⟩) [.int .i64 (dk : Int)] := Sl.new wr _ _ _
        refine go_on (wpList_app intsT (HOW.out.alloc _) hnew rfl rfl rfl rfl rfl (by intro u hu; simp at hu; subst hu; rfl) (by omega) (by omega) (by have := hxk.size; simp; omega) ?_)
        intro v' w5 ho5 hg5 _
        have HO5 : Hid (w5.ownsRow wG.heap.size 3 1 v' (k + 1) (ib ((d.map fun c => ((c.toNat : Nat) : Int)).take (k + 1)))) := Lib.hid (by rw [HTK.out]; exact ho5)
        have HX5 : Hid (Ext wG w5) := Lib.hid ((hxk.alloc _).own (HOW.out.alloc _) (Nat.le_refl _) hg5)
        clear hnew ho5 hg5 hown hxk
        go_wp2
        go_roundw
        case rel => exact ⟨k + 1, by go_num, by omega, HO5.out, HX5.out⟩
        case measure => simp [intOf]; omega
       ·have hlt2 : ¬ (k : Int) < (d.length : Int) := by omega
        obtain rfl : k = d.length := by omega
        rw [List.take_of_length_le (by simp)] at hown
        have HR2 := Lib.hid HRE.out
        obtain ⟨Av, cv, hv⟩ := own_form hown
        subst hv
        have hshl : (d.map fun c => ((c.toNat : Nat) : Int)).length = d.length := by simp
        have HXR := Lib.hid (hxG.trans hxk)
        have HIK : Hid (TxAt wr _ ⟨s.node, (valAt rec 1 : Nat), (valAt rec 5 : Nat)⟩) := Lib.hid (hxk.obj HIG.out)
        have HSM : Hid (SlM M wr Av (ib (d.map fun c => ((c.toNat : Nat) : Int)))) := Lib.hid (SlM.own hown rfl fun k hk => Nat.lt_of_lt_of_le (HM.out k hk) hxG.size)
        generalize (d.map fun c => ((c.toNat : Nat) : Int)) = sh at *
        have hRT := right_any wr Av cv sh HSM.out.sl (by omega)
        rw [hshl] at hRT
        have HSHL := Lib.hid hshl
        obtain ⟨t0, t1, t2, -⟩ := rows3 HIK.out
        have hx0r := Ext.refl wr
        clear hown hxk hxG hbd HIG hshl
        go_wp2_with fail
        refine hRT.mono ?_
        rintro e _ ⟨rfl, rfl⟩
        by_cases hr : rightF sh = true; rotate_left
        ·have HV : Hid (redoO s rec = (4, s)) := Lib.hid (HR2.out.trans (if_neg hr))
         have hr : rightF sh = false := by simpa using hr
         rw [hr]
         clear hr
         go_wp2
         go_ret
         rw [HV.out]
         exact ⟨rfl, HCO.out.ext HXR.out, .of_ext HXR.out⟩
        ·have HV := Lib.hid (HR2.out.trans (if_pos hr))
         have hgo := HG5D.out
         unfold goodF at hgo
         simp only [Bool.and_eq_true, decide_eq_true_eq] at hgo
         have HDN := CIsDone_any (HCO.out.ext HXR.out) HS.out hp (fun k hk => Nat.lt_of_lt_of_le (HM.out k hk) HXR.out.size) ⟨s.node, (valAt rec 1 : Nat), (valAt rec 5 : Nat)⟩ (by simp only []; omega) (by simp only []; omega) Av cv sh HSM.out hr
         rw [HSHL.out] at HDN
         unfold pt at HDN
         rw [hr]
         clear hr hgo
         go_wp2_with fail
         refine HDN.mono ?_
         rintro e w6 ⟨rfl, hco6, hk6⟩
         have HC6 := Lib.hid hco6
         have HK6 := Lib.hid ((Kept.of_ext HXR.out).trans hk6)
         clear hco6 hk6 HDN
         go_wp2
         go_ret
         rw [HV.out]
         exact ⟨rfl, HC6.out, HK6.out⟩
     exact AllHead.nil
    exact AllHead.nil
   exact AllHead.nil
  ·have qlb : ((rec.length : Int) == 10 + (b9.toNat : Int)) = false := beq_eq_false_iff_ne.2 (by omega)
   by_cases h9 : rec.length < 9
   ·have h9' : (rec.length : Int) < 9 := by omega
    have HV := Lib.hid (HRE.out.trans (if_pos (.inl h9)))
    clear h9 HRE
    go_wp2
    go_ret
    rw [HV.out]
    exact ⟨rfl, HCO.out, .refl _ _⟩
   have h9' : ¬ (rec.length : Int) < 9 := by omega
   have HV5 := fun W (hx : Ext w W) => val_any W (some ad) c 5 rec (HBS.out.ext hx) hc (by omega) hm
   have HG5 := fun W => good_any (valAt rec 5) W
   go_wp2_with fail
   refine (HV5 _ hx0).mono ?_
   rintro e _ ⟨rfl, rfl⟩
   go_wp2_with fail
   refine (HG5 _).mono ?_
   rintro e _ ⟨rfl, rfl⟩
   by_cases hg : goodF (valAt rec 5) = false
   ·have HV := Lib.hid (HRE.out.trans (if_pos (.inr hg)))
    rw [hg]
    clear hg HRE
    go_wp2
    go_ret
    rw [HV.out]
    exact ⟨rfl, HCO.out, .refl _ _⟩
   have HRE := Lib.hid (HRE.out.trans (if_neg (by rintro (h | h); exact h9 h; exact hg h)))
   have hg : goodF (valAt rec 5) = true := by simpa using hg
   rw [hg]
   have HG5D := Lib.hid hg
   clear hg HG5
   go_wp2_with fail
   have hxd : Ext w w.drew := hx0.drew
   have e0 := fun W (hx : Ext w W) => (rows4 HCR.out).1 W hx
   refine wp_region_phase (S := fun w' => Ext w w') 10 (by kernel_rfl) (by kernel_rfl) ?_ (fun hHeld => ?_)
   ·exact hxd
   simp only [List.drop_succ_cons, List.drop_zero]
   refine name_head ?_
   intro wr0 hw0
   rw [hw0] at hHeld
   refine wt 0 _ ?_
   simp only [red, Act.put]
   refine wt 1 _ ?_
   simp only [red, Act.put]
   refine wt 2 _ ?_
   simp only [red, Act.put]
   refine wt 3 _ ?_
   simp only [red, Act.put]
   refine wt 4 _ ?_
   simp only [red, Act.put]
   refine wt 6 _ ?_
   simp only [red, Act.put]
   refine rd [5, 9] ?_
   refine ac (fun K hK => ?_) ?_
   ·refine step_callG (by rfl) (by kernel_rfl) (HV1 _ hHeld) ?_
    rintro e wr5 ⟨rfl, hwv5⟩
    have hxv5 : Ext wr0 wr5 := hwv5 ▸ Ext.refl _
    refine ⟨_, rfl, ?_⟩
    try replace hrow9 := hxv5.obj hrow9
    refine hK.out _ _ ?_ (fun hHeld => ?_)
    ·exact hHeld.trans hxv5
    clear hK K
    try simp only [red, Act.put]
    refine rd [7, 9] ?_
    refine ac (fun K hK => ?_) ?_
    ·refine step_callG (by rfl) (by kernel_rfl) (HV5 _ hHeld) ?_
     rintro e wr7 ⟨rfl, hwv7⟩
     have hxv7 : Ext wr5 wr7 := hwv7 ▸ Ext.refl _
     refine ⟨_, rfl, ?_⟩
     try replace hrow9 := hxv7.obj hrow9
     refine hK.out _ _ ?_ (fun hHeld => ?_)
     ·exact hHeld.trans hxv7
     clear hK K
     try simp only [red, Act.put]
     refine wt 8 _ ?_
     simp only [red, Act.put]
     refine rd [9] ?_
     refine ac (fun K hK => ?_) ?_
     ·go_simp
      refine name_world ?_
      rintro wr9 hw9
      have hxn9 : Ext wr7 wr9 := hw9 ▸ (Ext.refl _).alloc _
      have hrow9 : wr9.heap[wr7.heap.size]? = some (.cells #[.int .i64 0, .int .i64 0, .int .i64 0] 35 (0, 0)) := hw9 ▸ heap_alloc_new wr7 _
      have hg9 : w.heap.size ≤ wr7.heap.size := hHeld.size
      refine hK.out _ _ ?_ (fun hHeld => ?_)
      ·exact hHeld.trans hxn9
      clear hK K
      try simp only [red, Act.put]
      refine wpHead_done (by kernel_rfl) ?_
      go_wp2_with (with_reducible refine sS 35 ?_)
      refine go_on (wpList_store_whole rfl rfl rfl rfl hrow9 (apitx_size _ _ _) rfl (by simp [Value.oneCell']) ?_)
      intro wG hrowG hkG _
      have hxG : Ext w wG := hHeld.kept hkG (one_ge hg9)
      have HIG : Hid (TxAt wG _ ⟨s.node, (valAt rec 1 : Nat), (valAt rec 5 : Nat)⟩) := Lib.hid hrowG
      clear hkG hrowG hrow9 e0 hHeld
      have HV : Hid (redoO s rec = (4, s)) := Lib.hid (HRE.out.trans (by rw [if_neg (fun h => n3 ((u8_is (n := 3) (by omega)).1 h.1)), if_neg (fun h => hlb (by have := h.2.2; rw [HG9.out] at this; exact this))]))
      have hcc := hcell0 wG hxG
      have hcc9 := hcell9 wG hxG
      have HXG := Lib.hid hxG
      clear HRE HIG hcell0 hxG
      go_wp2
      go_ret
      rw [HV.out]
      exact ⟨rfl, HCO.out.ext HXG.out, .of_ext HXG.out⟩
     exact AllHead.nil
    refine ac (fun K hK => ?_) ?_
    ·go_simp
     refine name_world ?_
     rintro wr9 hw9
     have hxn9 : Ext wr5 wr9 := hw9 ▸ (Ext.refl _).alloc _
     have hrow9 : wr9.heap[wr5.heap.size]? = some (.cells #[.int .i64 0, .int .i64 0, .int .i64 0] 35 (0, 0)) := hw9 ▸ heap_alloc_new wr5 _
     have hg9 : w.heap.size ≤ wr5.heap.size := hHeld.size
     refine hK.out _ _ ?_ (fun hHeld => ?_)
     ·exact hHeld.trans hxn9
     clear hK K
     try simp only [red, Act.put]
     refine rd [7] ?_
     refine ac (fun K hK => ?_) ?_
     ·refine step_callG (by rfl) (by kernel_rfl) (HV5 _ hHeld) ?_
      rintro e wr7 ⟨rfl, hwv7⟩
      have hxv7 : Ext wr9 wr7 := hwv7 ▸ Ext.refl _
      refine ⟨_, rfl, ?_⟩
      try replace hrow9 := hxv7.obj hrow9
      refine hK.out _ _ ?_ (fun hHeld => ?_)
      ·exact hHeld.trans hxv7
      clear hK K
      try simp only [red, Act.put]
      refine wt 8 _ ?_
      simp only [red, Act.put]
      refine wpHead_done (by kernel_rfl) ?_
      go_wp2_with (with_reducible refine sS 35 ?_)
      refine go_on (wpList_store_whole rfl rfl rfl rfl hrow9 (apitx_size _ _ _) rfl (by simp [Value.oneCell']) ?_)
      intro wG hrowG hkG _
      have hxG : Ext w wG := hHeld.kept hkG (one_ge hg9)
      have HIG : Hid (TxAt wG _ ⟨s.node, (valAt rec 1 : Nat), (valAt rec 5 : Nat)⟩) := Lib.hid hrowG
      clear hkG hrowG hrow9 e0 hHeld
      have HV : Hid (redoO s rec = (4, s)) := Lib.hid (HRE.out.trans (by rw [if_neg (fun h => n3 ((u8_is (n := 3) (by omega)).1 h.1)), if_neg (fun h => hlb (by have := h.2.2; rw [HG9.out] at this; exact this))]))
      have hcc := hcell0 wG hxG
      have hcc9 := hcell9 wG hxG
      have HXG := Lib.hid hxG
      clear HRE HIG hcell0 hxG
      go_wp2
      go_ret
      rw [HV.out]
      exact ⟨rfl, HCO.out.ext HXG.out, .of_ext HXG.out⟩
     exact AllHead.nil
    exact AllHead.nil
   refine ac (fun K hK => ?_) ?_
   ·go_simp
    refine name_world ?_
    rintro wr9 hw9
    have hxn9 : Ext wr0 wr9 := hw9 ▸ (Ext.refl _).alloc _
    have hrow9 : wr9.heap[wr0.heap.size]? = some (.cells #[.int .i64 0, .int .i64 0, .int .i64 0] 35 (0, 0)) := hw9 ▸ heap_alloc_new wr0 _
    have hg9 : w.heap.size ≤ wr0.heap.size := hHeld.size
    refine hK.out _ _ ?_ (fun hHeld => ?_)
    ·exact hHeld.trans hxn9
    clear hK K
    try simp only [red, Act.put]
    refine rd [5] ?_
    refine ac (fun K hK => ?_) ?_
    ·refine step_callG (by rfl) (by kernel_rfl) (HV1 _ hHeld) ?_
     rintro e wr5 ⟨rfl, hwv5⟩
     have hxv5 : Ext wr9 wr5 := hwv5 ▸ Ext.refl _
     refine ⟨_, rfl, ?_⟩
     try replace hrow9 := hxv5.obj hrow9
     refine hK.out _ _ ?_ (fun hHeld => ?_)
     ·exact hHeld.trans hxv5
     clear hK K
     try simp only [red, Act.put]
     refine rd [7] ?_
     refine ac (fun K hK => ?_) ?_
     ·refine step_callG (by rfl) (by kernel_rfl) (HV5 _ hHeld) ?_
      rintro e wr7 ⟨rfl, hwv7⟩
      have hxv7 : Ext wr5 wr7 := hwv7 ▸ Ext.refl _
      refine ⟨_, rfl, ?_⟩
      try replace hrow9 := hxv7.obj hrow9
      refine hK.out _ _ ?_ (fun hHeld => ?_)
      ·exact hHeld.trans hxv7
      clear hK K
      try simp only [red, Act.put]
      refine wt 8 _ ?_
      simp only [red, Act.put]
      refine wpHead_done (by kernel_rfl) ?_
      go_wp2_with (with_reducible refine sS 35 ?_)
      refine go_on (wpList_store_whole rfl rfl rfl rfl hrow9 (apitx_size _ _ _) rfl (by simp [Value.oneCell']) ?_)
      intro wG hrowG hkG _
      have hxG : Ext w wG := hHeld.kept hkG (one_ge hg9)
      have HIG : Hid (TxAt wG _ ⟨s.node, (valAt rec 1 : Nat), (valAt rec 5 : Nat)⟩) := Lib.hid hrowG
      clear hkG hrowG hrow9 e0 hHeld
      have HV : Hid (redoO s rec = (4, s)) := Lib.hid (HRE.out.trans (by rw [if_neg (fun h => n3 ((u8_is (n := 3) (by omega)).1 h.1)), if_neg (fun h => hlb (by have := h.2.2; rw [HG9.out] at this; exact this))]))
      have hcc := hcell0 wG hxG
      have hcc9 := hcell9 wG hxG
      have HXG := Lib.hid hxG
      clear HRE HIG hcell0 hxG
      go_wp2
      go_ret
      rw [HV.out]
      exact ⟨rfl, HCO.out.ext HXG.out, .of_ext HXG.out⟩
     exact AllHead.nil
    exact AllHead.nil
   exact AllHead.nil
 ·have hl10' : ¬ (9 : Int) < (rec.length : Int) := by omega
  by_cases h9 : rec.length < 9
  ·have h9' : (rec.length : Int) < 9 := by omega
   have HV := Lib.hid (HRE.out.trans (if_pos (.inl h9)))
   clear h9 HRE
   go_wp2
   go_ret
   rw [HV.out]
   exact ⟨rfl, HCO.out, .refl _ _⟩
  have h9' : ¬ (rec.length : Int) < 9 := by omega
  have HV5 := fun W (hx : Ext w W) => val_any W (some ad) c 5 rec (HBS.out.ext hx) hc (by omega) hm
  have HG5 := fun W => good_any (valAt rec 5) W
  go_wp2_with fail
  refine (HV5 _ hx0).mono ?_
  rintro e _ ⟨rfl, rfl⟩
  go_wp2_with fail
  refine (HG5 _).mono ?_
  rintro e _ ⟨rfl, rfl⟩
  by_cases hg : goodF (valAt rec 5) = false
  ·have HV := Lib.hid (HRE.out.trans (if_pos (.inr hg)))
   rw [hg]
   clear hg HRE
   go_wp2
   go_ret
   rw [HV.out]
   exact ⟨rfl, HCO.out, .refl _ _⟩
  have HRE := Lib.hid (HRE.out.trans (if_neg (by rintro (h | h); exact h9 h; exact hg h)))
  have hg : goodF (valAt rec 5) = true := by simpa using hg
  rw [hg]
  have HG5D := Lib.hid hg
  clear hg HG5
  go_wp2_with fail
  have hxd : Ext w w.drew := hx0.drew
  have e0 := fun W (hx : Ext w W) => (rows4 HCR.out).1 W hx
  refine wp_region_phase (S := fun w' => Ext w w') 10 (by kernel_rfl) (by kernel_rfl) ?_ (fun hHeld => ?_)
  ·exact hxd
  simp only [List.drop_succ_cons, List.drop_zero]
  refine name_head ?_
  intro wr0 hw0
  rw [hw0] at hHeld
  refine wt 0 _ ?_
  simp only [red, Act.put]
  refine wt 1 _ ?_
  simp only [red, Act.put]
  refine wt 2 _ ?_
  simp only [red, Act.put]
  refine wt 3 _ ?_
  simp only [red, Act.put]
  refine wt 4 _ ?_
  simp only [red, Act.put]
  refine wt 6 _ ?_
  simp only [red, Act.put]
  refine rd [5, 9] ?_
  refine ac (fun K hK => ?_) ?_
  ·refine step_callG (by rfl) (by kernel_rfl) (HV1 _ hHeld) ?_
   rintro e wr5 ⟨rfl, hwv5⟩
   have hxv5 : Ext wr0 wr5 := hwv5 ▸ Ext.refl _
   refine ⟨_, rfl, ?_⟩
   try replace hrow9 := hxv5.obj hrow9
   refine hK.out _ _ ?_ (fun hHeld => ?_)
   ·exact hHeld.trans hxv5
   clear hK K
   try simp only [red, Act.put]
   refine rd [7, 9] ?_
   refine ac (fun K hK => ?_) ?_
   ·refine step_callG (by rfl) (by kernel_rfl) (HV5 _ hHeld) ?_
    rintro e wr7 ⟨rfl, hwv7⟩
    have hxv7 : Ext wr5 wr7 := hwv7 ▸ Ext.refl _
    refine ⟨_, rfl, ?_⟩
    try replace hrow9 := hxv7.obj hrow9
    refine hK.out _ _ ?_ (fun hHeld => ?_)
    ·exact hHeld.trans hxv7
    clear hK K
    try simp only [red, Act.put]
    refine wt 8 _ ?_
    simp only [red, Act.put]
    refine rd [9] ?_
    refine ac (fun K hK => ?_) ?_
    ·go_simp
     refine name_world ?_
     rintro wr9 hw9
     have hxn9 : Ext wr7 wr9 := hw9 ▸ (Ext.refl _).alloc _
     have hrow9 : wr9.heap[wr7.heap.size]? = some (.cells #[.int .i64 0, .int .i64 0, .int .i64 0] 35 (0, 0)) := hw9 ▸ heap_alloc_new wr7 _
     have hg9 : w.heap.size ≤ wr7.heap.size := hHeld.size
     refine hK.out _ _ ?_ (fun hHeld => ?_)
     ·exact hHeld.trans hxn9
     clear hK K
     try simp only [red, Act.put]
     refine wpHead_done (by kernel_rfl) ?_
     go_wp2_with (with_reducible refine sS 35 ?_)
     refine go_on (wpList_store_whole rfl rfl rfl rfl hrow9 (apitx_size _ _ _) rfl (by simp [Value.oneCell']) ?_)
     intro wG hrowG hkG _
     have hxG : Ext w wG := hHeld.kept hkG (one_ge hg9)
     have HIG : Hid (TxAt wG _ ⟨s.node, (valAt rec 1 : Nat), (valAt rec 5 : Nat)⟩) := Lib.hid hrowG
     clear hkG hrowG hrow9 e0 hHeld
     have HV : Hid (redoO s rec = (4, s)) := Lib.hid (HRE.out.trans (by rw [if_neg (fun h => n3 ((u8_is (n := 3) (by omega)).1 h.1)), if_neg (fun h => hl10 h.2.1)]))
     have hcc := hcell0 wG hxG
     skip
     have HXG := Lib.hid hxG
     clear HRE HIG hcell0 hxG
     go_wp2
     go_ret
     rw [HV.out]
     exact ⟨rfl, HCO.out.ext HXG.out, .of_ext HXG.out⟩
    exact AllHead.nil
   refine ac (fun K hK => ?_) ?_
   ·go_simp
    refine name_world ?_
    rintro wr9 hw9
    have hxn9 : Ext wr5 wr9 := hw9 ▸ (Ext.refl _).alloc _
    have hrow9 : wr9.heap[wr5.heap.size]? = some (.cells #[.int .i64 0, .int .i64 0, .int .i64 0] 35 (0, 0)) := hw9 ▸ heap_alloc_new wr5 _
    have hg9 : w.heap.size ≤ wr5.heap.size := hHeld.size
    refine hK.out _ _ ?_ (fun hHeld => ?_)
    ·exact hHeld.trans hxn9
    clear hK K
    try simp only [red, Act.put]
    refine rd [7] ?_
    refine ac (fun K hK => ?_) ?_
    ·refine step_callG (by rfl) (by kernel_rfl) (HV5 _ hHeld) ?_
     rintro e wr7 ⟨rfl, hwv7⟩
     have hxv7 : Ext wr9 wr7 := hwv7 ▸ Ext.refl _
     refine ⟨_, rfl, ?_⟩
     try replace hrow9 := hxv7.obj hrow9
     refine hK.out _ _ ?_ (fun hHeld => ?_)
     ·exact hHeld.trans hxv7
     clear hK K
     try simp only [red, Act.put]
     refine wt 8 _ ?_
     simp only [red, Act.put]
     refine wpHead_done (by kernel_rfl) ?_
     go_wp2_with (with_reducible refine sS 35 ?_)
     refine go_on (wpList_store_whole rfl rfl rfl rfl hrow9 (apitx_size _ _ _) rfl (by simp [Value.oneCell']) ?_)
     intro wG hrowG hkG _
     have hxG : Ext w wG := hHeld.kept hkG (one_ge hg9)
     have HIG : Hid (TxAt wG _ ⟨s.node, (valAt rec 1 : Nat), (valAt rec 5 : Nat)⟩) := Lib.hid hrowG
     clear hkG hrowG hrow9 e0 hHeld
     have HV : Hid (redoO s rec = (4, s)) := Lib.hid (HRE.out.trans (by rw [if_neg (fun h => n3 ((u8_is (n := 3) (by omega)).1 h.1)), if_neg (fun h => hl10 h.2.1)]))
     have hcc := hcell0 wG hxG
     skip
     have HXG := Lib.hid hxG
     clear HRE HIG hcell0 hxG
     go_wp2
     go_ret
     rw [HV.out]
     exact ⟨rfl, HCO.out.ext HXG.out, .of_ext HXG.out⟩
    exact AllHead.nil
   exact AllHead.nil
  refine ac (fun K hK => ?_) ?_
  ·go_simp
   refine name_world ?_
   rintro wr9 hw9
   have hxn9 : Ext wr0 wr9 := hw9 ▸ (Ext.refl _).alloc _
   have hrow9 : wr9.heap[wr0.heap.size]? = some (.cells #[.int .i64 0, .int .i64 0, .int .i64 0] 35 (0, 0)) := hw9 ▸ heap_alloc_new wr0 _
   have hg9 : w.heap.size ≤ wr0.heap.size := hHeld.size
   refine hK.out _ _ ?_ (fun hHeld => ?_)
   ·exact hHeld.trans hxn9
   clear hK K
   try simp only [red, Act.put]
   refine rd [5] ?_
   refine ac (fun K hK => ?_) ?_
   ·refine step_callG (by rfl) (by kernel_rfl) (HV1 _ hHeld) ?_
    rintro e wr5 ⟨rfl, hwv5⟩
    have hxv5 : Ext wr9 wr5 := hwv5 ▸ Ext.refl _
    refine ⟨_, rfl, ?_⟩
    try replace hrow9 := hxv5.obj hrow9
    refine hK.out _ _ ?_ (fun hHeld => ?_)
    ·exact hHeld.trans hxv5
    clear hK K
    try simp only [red, Act.put]
    refine rd [7] ?_
    refine ac (fun K hK => ?_) ?_
    ·refine step_callG (by rfl) (by kernel_rfl) (HV5 _ hHeld) ?_
     rintro e wr7 ⟨rfl, hwv7⟩
     have hxv7 : Ext wr5 wr7 := hwv7 ▸ Ext.refl _
     refine ⟨_, rfl, ?_⟩
     try replace hrow9 := hxv7.obj hrow9
     refine hK.out _ _ ?_ (fun hHeld => ?_)
     ·exact hHeld.trans hxv7
     clear hK K
     try simp only [red, Act.put]
     refine wt 8 _ ?_
     simp only [red, Act.put]
     refine wpHead_done (by kernel_rfl) ?_
     go_wp2_with (with_reducible refine sS 35 ?_)
     refine go_on (wpList_store_whole rfl rfl rfl rfl hrow9 (apitx_size _ _ _) rfl (by simp [Value.oneCell']) ?_)
     intro wG hrowG hkG _
     have hxG : Ext w wG := hHeld.kept hkG (one_ge hg9)
     have HIG : Hid (TxAt wG _ ⟨s.node, (valAt rec 1 : Nat), (valAt rec 5 : Nat)⟩) := Lib.hid hrowG
     clear hkG hrowG hrow9 e0 hHeld
     have HV : Hid (redoO s rec = (4, s)) := Lib.hid (HRE.out.trans (by rw [if_neg (fun h => n3 ((u8_is (n := 3) (by omega)).1 h.1)), if_neg (fun h => hl10 h.2.1)]))
     have hcc := hcell0 wG hxG
     skip
     have HXG := Lib.hid hxG
     clear HRE HIG hcell0 hxG
     go_wp2
     go_ret
     rw [HV.out]
     exact ⟨rfl, HCO.out.ext HXG.out, .of_ext HXG.out⟩
    exact AllHead.nil
   exact AllHead.nil
  exact AllHead.nil
set_option maxRecDepth 20000 in
set_option maxHeartbeats 4000000 in
theorem CRedo_any {M : List Nat} {w : World} {p : Nat} {s : Cs} (h : Co M w p s) (hs : s.Ok) (hp : p ∈ M) (hM : ∀ k ∈ M, k < w.heap.size) (A : Option Addr) (c : Nat) (rec : By) (hb : Bs w A rec) (hc : rec.length ≤ c) (hm : rec.length ≤ 140737488355328) :
 Calls Try.prog 8 #[pt p, .slice A rec.length c] w fun e w' => e = .returned (.int .i64 (redoO s rec).1) ∧ Co M w' p (redoO s rec).2 ∧ Kept [p] w w' := by
 by_cases h3 : (rec.getD 0 0).toNat = 3
 ·exact CRedo_3 h hs hp hM A c rec hb hc hm h3
 ·by_cases h2 : (rec.getD 0 0).toNat = 2
  ·exact CRedo_2 h hs hp hM A c rec hb hc hm h2
  ·exact CRedo_0 h hs hp hM A c rec hb hc hm h2 h3
end Go.Proofs.Ytijopcdjlpafdaa
