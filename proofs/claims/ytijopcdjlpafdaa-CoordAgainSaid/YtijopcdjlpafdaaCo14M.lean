/- The walk of coord.Redo. Conditions: the hypotheses of the theorem. -/
import Derived.Test.YtijopcdjlpafdaaC2
import Derived.Test.YtijopcdjlpafdaaCo13M
namespace Go.Proofs.Ytijopcdjlpafdaa
open Go.RowKit
theorem u8_is {b : UInt8} {n : Nat} (hn : n < 256) : b = UInt8.ofNat n ↔ b.toNat = n := by
 rw [← UInt8.toNat_inj, UInt8.toNat_ofNat', Nat.mod_eq_of_lt hn]
set_option maxRecDepth 20000 in
set_option maxHeartbeats 4000000 in
theorem CRedo_0 {M : List Nat} {w : World} {p : Nat} {s : Cs} (h : Co M w p s) (hs : s.Ok) (hp : p ∈ M) (hM : ∀ k ∈ M, k < w.heap.size) (A : Option Addr) (c : Nat) (rec : By) (hb : Bs w A rec) (hc : rec.length ≤ c) (hm : rec.length ≤ 140737488355328) (hk2 : ¬ (rec.getD 0 0).toNat = 2) (hk3 : ¬ (rec.getD 0 0).toNat = 3) :
 Calls Try.prog 8 #[pt p, .slice A rec.length c] w fun e w' => e = .returned (.int .i64 (redoO s rec).1) ∧ Co M w' p (redoO s rec).2 ∧ Kept [p] w w' := by
 have hfew : s.under.length ≤ 1000 := by have := hs.few; omega
 have HCO := Lib.hid h
 have HM := Lib.hid hM
 have HS := Lib.hid hs
 have HBS := Lib.hid hb
 have hx0 := Ext.refl w
 unfold pt
 by_cases h5 : rec.length < 5
 ·have h5' : (rec.length : Int) < 5 := by omega
  have HV : Hid (redoO s rec = (4, s)) := Lib.hid (by unfold redoO; rw [if_pos (.inl h5)])
  clear h5 hb
  go_enter Try.func8, Try.ntmps8
  go_wp2
  go_ret
  rw [HV.out]
  exact ⟨rfl, HCO.out, .refl _ _⟩
 have h5' : ¬ (rec.length : Int) < 5 := by omega
 have HV1 := fun W (hx : Ext w W) => val_any W A c 1 rec (HBS.out.ext hx) hc (by omega) hm
 have HG1 := fun W => good_any (valAt rec 1) W
 obtain ⟨ad, rfl, hcell0⟩ := hb.at_ (show 0 < rec.length by omega)
 have hg0 : rec.getD 0 0 = rec[0]'(by omega) := by rw [List.getD_eq_getElem?_getD, List.getElem?_eq_getElem (by omega)]; rfl
 rw [sl_add0] at hcell0
 have HRE : Hid (redoO s rec = if goodF (valAt rec 1) = false then (4, s) else if rec[0]'(by omega) = 1 ∧ rec.length = 5 then livesO s (valAt rec 1 : Nat)
  else if rec.length < 9 ∨ goodF (valAt rec 5) = false then (4, s)
  else if rec[0]'(by omega) = 3 ∧ rec.length = 9 then
   match s.at_ ⟨s.node, (valAt rec 1 : Nat), (valAt rec 5 : Nat)⟩ true with
   | none => (13, s)
   | some i => (0, { s with under := s.under.eraseIdx i })
  else if rec[0]'(by omega) = 2 ∧ 9 < rec.length ∧ rec.length = 10 + (rec.getD 9 0).toNat then
   let sh := (rec.drop 10).map fun c => ((c.toNat : Nat) : Int)
   if rightF sh then isDoneO s ⟨s.node, (valAt rec 1 : Nat), (valAt rec 5 : Nat)⟩ sh else (4, s)
  else (4, s)) := Lib.hid (by
   unfold redoO
   rw [hg0]
   by_cases hg : goodF (valAt rec 1) = false
   ·rw [if_pos (.inr hg), if_pos hg]
   ·rw [if_neg (by rintro (h | h); exact h5 h; exact hg h), if_neg hg]
    cases s.at_ ⟨s.node, (valAt rec 1 : Nat), (valAt rec 5 : Nat)⟩ true <;> rfl)
 generalize hb0e : rec[0]'(by omega) = b0 at *
 have hb0 := b0.toNat_lt
 have HG0 := Lib.hid hg0
 clear hg0 hb0e
 go_enter Try.func8, Try.ntmps8
 go_wp2_with fail
 refine (HV1 _ hx0).mono ?_
 rintro e _ ⟨rfl, rfl⟩
 go_wp2_with fail
 refine (HG1 _).mono ?_
 rintro e _ ⟨rfl, rfl⟩
 by_cases hg : goodF (valAt rec 1) = false
 ·have HV := Lib.hid (HRE.out.trans (if_pos hg))
  rw [hg]
  clear hg HRE
  go_wp2
  go_ret
  rw [HV.out]
  exact ⟨rfl, HCO.out, .refl _ _⟩
 have HRE := Lib.hid (HRE.out.trans (if_neg hg))
 have hg : goodF (valAt rec 1) = true := by simpa using hg
 rw [hg]
 have HGD := Lib.hid hg
 clear hg HG1
 by_cases hl : b0.toNat = 1 ∧ rec.length = 5
 ·have HRE := Lib.hid (HRE.out.trans (if_pos ⟨(u8_is (n := 1) (by omega)).2 hl.1, hl.2⟩))
  obtain ⟨h1, h2⟩ := hl
  have q1 : ((b0.toNat : Int) == 1) = true := by rw [h1]; rfl
  have q2 : ((rec.length : Int) == 5) = true := by rw [h2]; rfl
  have HL := clives_any HCO.out hp HM.out ((valAt rec 1 : Nat) : Int) hfew
  unfold pt at HL
  have hcc := hcell0 w hx0
  clear h1 h2 hb hcell0
  go_wp2_with fail
  refine (HV1 _ hx0).mono ?_
  rintro e _ ⟨rfl, rfl⟩
  go_wp2_with fail
  refine HL.mono ?_
  rintro e w3 ⟨rfl, hco3, hk3⟩
  have HC3 := Lib.hid hco3
  have HK3 := Lib.hid hk3
  clear hco3 hk3 HL
  go_wp2
  go_ret
  rw [HRE.out]
  exact ⟨rfl, HC3.out, HK3.out⟩
 have HRE := Lib.hid (HRE.out.trans (if_neg (by rintro ⟨e1, e2⟩; exact hl ⟨(u8_is (n := 1) (by omega)).1 e1, e2⟩)))
 obtain ⟨Ac, cap, hcr⟩ := h
 have HCR := Lib.hid hcr.row
 have hcc := hcell0 w hx0
 clear hcr
 have n3 : ¬ b0.toNat = 3 := HG0.out ▸ hk3
 have n2 : ¬ b0.toNat = 2 := HG0.out ▸ hk2
 have q3 : ((b0.toNat : Int) == 3) = false := beq_eq_false_iff_ne.2 (by omega)
 have q2 : ((b0.toNat : Int) == 2) = false := beq_eq_false_iff_ne.2 (by omega)
 clear hk2 hk3
 by_cases hb1 : b0.toNat = 1
 ·have q1 : ((b0.toNat : Int) == 1) = true := by rw [hb1]; rfl
  have q15 : ((rec.length : Int) == 5) = false := beq_eq_false_iff_ne.2 (by omega)
  clear hl hb1
  by_cases h9 : rec.length < 9
  ·have h9' : (rec.length : Int) < 9 := by omega
   have HV := Lib.hid (HRE.out.trans (if_pos (.inl h9)))
   clear h9 HRE
   go_wp2
   go_ret
   rw [HV.out]
   exact ⟨rfl, HCO.out, .refl _ _⟩
  have h9' : ¬ (rec.length : Int) < 9 := by omega
  have HV5 := fun W (hx : Ext w W) => val_any W (some ad) c 5 rec (HBS.out.ext hx) hc (by omega) hm
  have HG5 := fun W => good_any (valAt rec 5) W
  go_wp2_with fail
  refine (HV5 _ hx0).mono ?_
  rintro e _ ⟨rfl, rfl⟩
  go_wp2_with fail
  refine (HG5 _).mono ?_
  rintro e _ ⟨rfl, rfl⟩
  by_cases hg : goodF (valAt rec 5) = false
  ·have HV := Lib.hid (HRE.out.trans (if_pos (.inr hg)))
   rw [hg]
   clear hg HRE
   go_wp2
   go_ret
   rw [HV.out]
   exact ⟨rfl, HCO.out, .refl _ _⟩
  have HRE := Lib.hid (HRE.out.trans (if_neg (by rintro (h | h); exact h9 h; exact hg h)))
  have hg : goodF (valAt rec 5) = true := by simpa using hg
  rw [hg]
  have HG5D := Lib.hid hg
  clear hg HG5
  go_wp2_with fail
  have hxd : Ext w w.drew := hx0.drew
  have e0 := fun W (hx : Ext w W) => (rows4 HCR.out).1 W hx
  refine wp_region_phase (S := fun w' => Ext w w') 10 (by kernel_rfl) (by kernel_rfl) ?_ (fun hHeld => ?_)
  ·exact hxd
  simp only [List.drop_succ_cons, List.drop_zero]
  refine name_head ?_
  intro wr0 hw0
  rw [hw0] at hHeld
  refine wt 0 _ ?_
  simp only [red, Act.put]
  refine wt 1 _ ?_
  simp only [red, Act.put]
  refine wt 2 _ ?_
  simp only [red, Act.put]
  refine wt 3 _ ?_
  simp only [red, Act.put]
  refine wt 4 _ ?_
  simp only [red, Act.put]
  refine wt 6 _ ?_
  simp only [red, Act.put]
  refine rd [5, 9] ?_
  refine ac (fun K hK => ?_) ?_
  ·refine step_callG (by rfl) (by kernel_rfl) (HV1 _ hHeld) ?_
   rintro e wr5 ⟨rfl, hwv5⟩
   have hxv5 : Ext wr0 wr5 := hwv5 ▸ Ext.refl _
   refine ⟨_, rfl, ?_⟩
   try replace hrow9 := hxv5.obj hrow9
   refine hK.out _ _ ?_ (fun hHeld => ?_)
   ·exact hHeld.trans hxv5
   clear hK K
   try simp only [red, Act.put]
   refine rd [7, 9] ?_
   refine ac (fun K hK => ?_) ?_
   ·refine step_callG (by rfl) (by kernel_rfl) (HV5 _ hHeld) ?_
    rintro e wr7 ⟨rfl, hwv7⟩
    have hxv7 : Ext wr5 wr7 := hwv7 ▸ Ext.refl _
    refine ⟨_, rfl, ?_⟩
    try replace hrow9 := hxv7.obj hrow9
    refine hK.out _ _ ?_ (fun hHeld => ?_)
    ·exact hHeld.trans hxv7
    clear hK K
    try simp only [red, Act.put]
    refine wt 8 _ ?_
    simp only [red, Act.put]
    refine rd [9] ?_
    refine ac (fun K hK => ?_) ?_
    ·go_simp
     refine name_world ?_
     rintro wr9 hw9
     have hxn9 : Ext wr7 wr9 := hw9 ▸ (Ext.refl _).alloc _
     have hrow9 : wr9.heap[wr7.heap.size]? = some (.cells #[.int .i64 0, .int .i64 0, .int .i64 0] 35 (0, 0)) := hw9 ▸ heap_alloc_new wr7 _
     have hg9 : w.heap.size ≤ wr7.heap.size := hHeld.size
     refine hK.out _ _ ?_ (fun hHeld => ?_)
     ·exact hHeld.trans hxn9
     clear hK K
     try simp only [red, Act.put]
     refine wpHead_done (by kernel_rfl) ?_
     go_wp2_with (with_reducible refine sS 35 ?_)
     refine go_on (wpList_store_whole rfl rfl rfl rfl hrow9 (apitx_size _ _ _) rfl (by simp [Value.oneCell']) ?_)
     intro wG hrowG hkG _
     have hxG : Ext w wG := hHeld.kept hkG (one_ge hg9)
     have HIG : Hid (TxAt wG _ ⟨s.node, (valAt rec 1 : Nat), (valAt rec 5 : Nat)⟩) := Lib.hid hrowG
     clear hkG hrowG hrow9 e0 hHeld
     have HV : Hid (redoO s rec = (4, s)) := Lib.hid (HRE.out.trans (by rw [if_neg (fun h => n3 ((u8_is (n := 3) (by omega)).1 h.1)), if_neg (fun h => n2 ((u8_is (n := 2) (by omega)).1 h.1))]))
     have hcc := hcell0 wG hxG
     skip
     have HXG := Lib.hid hxG
     clear HRE HIG hcell0 hxG
     go_wp2
     go_ret
     rw [HV.out]
     exact ⟨rfl, HCO.out.ext HXG.out, .of_ext HXG.out⟩
    exact AllHead.nil
   refine ac (fun K hK => ?_) ?_
   ·go_simp
    refine name_world ?_
    rintro wr9 hw9
    have hxn9 : Ext wr5 wr9 := hw9 ▸ (Ext.refl _).alloc _
    have hrow9 : wr9.heap[wr5.heap.size]? = some (.cells #[.int .i64 0, .int .i64 0, .int .i64 0] 35 (0, 0)) := hw9 ▸ heap_alloc_new wr5 _
    have hg9 : w.heap.size ≤ wr5.heap.size := hHeld.size
    refine hK.out _ _ ?_ (fun hHeld => ?_)
    ·exact hHeld.trans hxn9
    clear hK K
    try simp only [red, Act.put]
    refine rd [7] ?_
    refine ac (fun K hK => ?_) ?_
    ·refine step_callG (by rfl) (by kernel_rfl) (HV5 _ hHeld) ?_
     rintro e wr7 ⟨rfl, hwv7⟩
     have hxv7 : Ext wr9 wr7 := hwv7 ▸ Ext.refl _
     refine ⟨_, rfl, ?_⟩
     try replace hrow9 := hxv7.obj hrow9
     refine hK.out _ _ ?_ (fun hHeld => ?_)
     ·exact hHeld.trans hxv7
     clear hK K
     try simp only [red, Act.put]
     refine wt 8 _ ?_
     simp only [red, Act.put]
     refine wpHead_done (by kernel_rfl) ?_
     go_wp2_with (with_reducible refine sS 35 ?_)
     refine go_on (wpList_store_whole rfl rfl rfl rfl hrow9 (apitx_size _ _ _) rfl (by simp [Value.oneCell']) ?_)
     intro wG hrowG hkG _
     have hxG : Ext w wG := hHeld.kept hkG (one_ge hg9)
     have HIG : Hid (TxAt wG _ ⟨s.node, (valAt rec 1 : Nat), (valAt rec 5 : Nat)⟩) := Lib.hid hrowG
     clear hkG hrowG hrow9 e0 hHeld
     have HV : Hid (redoO s rec = (4, s)) := Lib.hid (HRE.out.trans (by rw [if_neg (fun h => n3 ((u8_is (n := 3) (by omega)).1 h.1)), if_neg (fun h => n2 ((u8_is (n := 2) (by omega)).1 h.1))]))
     have hcc := hcell0 wG hxG
     skip
     have HXG := Lib.hid hxG
     clear HRE HIG hcell0 hxG
     go_wp2
     go_ret
     rw [HV.out]
     exact ⟨rfl, HCO.out.ext HXG.out, .of_ext HXG.out⟩
    exact AllHead.nil
   exact AllHead.nil
  refine ac (fun K hK => ?_) ?_
  ·go_simp
   refine name_world ?_
   rintro wr9 hw9
   have hxn9 : Ext wr0 wr9 := hw9 ▸ (Ext.refl _).alloc _
   have hrow9 : wr9.heap[wr0.heap.size]? = some (.cells #[.int .i64 0, .int .i64 0, .int .i64 0] 35 (0, 0)) := hw9 ▸ heap_alloc_new wr0 _
   have hg9 : w.heap.size ≤ wr0.heap.size := hHeld.size
   refine hK.out _ _ ?_ (fun hHeld => ?_)
   ·exact hHeld.trans hxn9
   clear hK K
   try simp only [red, Act.put]
   refine rd [5] ?_
   refine ac (fun K hK => ?_) ?_
   ·refine step_callG (by rfl) (by kernel_rfl) (HV1 _ hHeld) ?_
    rintro e wr5 ⟨rfl, hwv5⟩
    have hxv5 : Ext wr9 wr5 := hwv5 ▸ Ext.refl _
    refine ⟨_, rfl, ?_⟩
    try replace hrow9 := hxv5.obj hrow9
    refine hK.out _ _ ?_ (fun hHeld => ?_)
    ·exact hHeld.trans hxv5
    clear hK K
    try simp only [red, Act.put]
    refine rd [7] ?_
    refine ac (fun K hK => ?_) ?_
    ·refine step_callG (by rfl) (by kernel_rfl) (HV5 _ hHeld) ?_
     rintro e wr7 ⟨rfl, hwv7⟩
     have hxv7 : Ext wr5 wr7 := hwv7 ▸ Ext.refl _
     refine ⟨_, rfl, ?_⟩
     try replace hrow9 := hxv7.obj hrow9
     refine hK.out _ _ ?_ (fun hHeld => ?_)
     ·exact hHeld.trans hxv7
     clear hK K
     try simp only [red, Act.put]
     refine wt 8 _ ?_
     simp only [red, Act.put]
     refine wpHead_done (by kernel_rfl) ?_
     go_wp2_with (with_reducible refine sS 35 ?_)
     refine go_on (wpList_store_whole rfl rfl rfl rfl hrow9 (apitx_size _ _ _) rfl (by simp [Value.oneCell']) ?_)
     intro wG hrowG hkG _
     have hxG : Ext w wG := hHeld.kept hkG (one_ge hg9)
     have HIG : Hid (TxAt wG _ ⟨s.node, (valAt rec 1 : Nat), (valAt rec 5 : Nat)⟩) := Lib.hid hrowG
     clear hkG hrowG hrow9 e0 hHeld
     have HV : Hid (redoO s rec = (4, s)) := Lib.hid (HRE.out.trans (by rw [if_neg (fun h => n3 ((u8_is (n := 3) (by omega)).1 h.1)), if_neg (fun h => n2 ((u8_is (n := 2) (by omega)).1 h.1))]))
     have hcc := hcell0 wG hxG
     skip
     have HXG := Lib.hid hxG
     clear HRE HIG hcell0 hxG
     go_wp2
     go_ret
     rw [HV.out]
     exact ⟨rfl, HCO.out.ext HXG.out, .of_ext HXG.out⟩
    exact AllHead.nil
   exact AllHead.nil
  exact AllHead.nil
 have q1 : ((b0.toNat : Int) == 1) = false := beq_eq_false_iff_ne.2 (by omega)
 clear hl hb1
 by_cases h9 : rec.length < 9
 ·have h9' : (rec.length : Int) < 9 := by omega
  have HV := Lib.hid (HRE.out.trans (if_pos (.inl h9)))
  clear h9 HRE
  go_wp2
  go_ret
  rw [HV.out]
  exact ⟨rfl, HCO.out, .refl _ _⟩
 have h9' : ¬ (rec.length : Int) < 9 := by omega
 have HV5 := fun W (hx : Ext w W) => val_any W (some ad) c 5 rec (HBS.out.ext hx) hc (by omega) hm
 have HG5 := fun W => good_any (valAt rec 5) W
 go_wp2_with fail
 refine (HV5 _ hx0).mono ?_
 rintro e _ ⟨rfl, rfl⟩
 go_wp2_with fail
 refine (HG5 _).mono ?_
 rintro e _ ⟨rfl, rfl⟩
 by_cases hg : goodF (valAt rec 5) = false
 ·have HV := Lib.hid (HRE.out.trans (if_pos (.inr hg)))
  rw [hg]
  clear hg HRE
  go_wp2
  go_ret
  rw [HV.out]
  exact ⟨rfl, HCO.out, .refl _ _⟩
 have HRE := Lib.hid (HRE.out.trans (if_neg (by rintro (h | h); exact h9 h; exact hg h)))
 have hg : goodF (valAt rec 5) = true := by simpa using hg
 rw [hg]
 have HG5D := Lib.hid hg
 clear hg HG5
 go_wp2_with fail
 have hxd : Ext w w.drew := hx0.drew
 have e0 := fun W (hx : Ext w W) => (rows4 HCR.out).1 W hx
 refine wp_region_phase (S := fun w' => Ext w w') 10 (by kernel_rfl) (by kernel_rfl) ?_ (fun hHeld => ?_)
 ·exact hxd
 simp only [List.drop_succ_cons, List.drop_zero]
 refine name_head ?_
 intro wr0 hw0
 rw [hw0] at hHeld
 refine wt 0 _ ?_
 simp only [red, Act.put]
 refine wt 1 _ ?_
 simp only [red, Act.put]
 refine wt 2 _ ?_
 simp only [red, Act.put]
 refine wt 3 _ ?_
 simp only [red, Act.put]
 refine wt 4 _ ?_
 simp only [red, Act.put]
 refine wt 6 _ ?_
 simp only [red, Act.put]
 refine rd [5, 9] ?_
 refine ac (fun K hK => ?_) ?_
 ·refine step_callG (by rfl) (by kernel_rfl) (HV1 _ hHeld) ?_
  rintro e wr5 ⟨rfl, hwv5⟩
  have hxv5 : Ext wr0 wr5 := hwv5 ▸ Ext.refl _
  refine ⟨_, rfl, ?_⟩
  try replace hrow9 := hxv5.obj hrow9
  refine hK.out _ _ ?_ (fun hHeld => ?_)
  ·exact hHeld.trans hxv5
  clear hK K
  try simp only [red, Act.put]
  refine rd [7, 9] ?_
  refine ac (fun K hK => ?_) ?_
  ·refine step_callG (by rfl) (by kernel_rfl) (HV5 _ hHeld) ?_
   rintro e wr7 ⟨rfl, hwv7⟩
   have hxv7 : Ext wr5 wr7 := hwv7 ▸ Ext.refl _
   refine ⟨_, rfl, ?_⟩
   try replace hrow9 := hxv7.obj hrow9
   refine hK.out _ _ ?_ (fun hHeld => ?_)
   ·exact hHeld.trans hxv7
   clear hK K
   try simp only [red, Act.put]
   refine wt 8 _ ?_
   simp only [red, Act.put]
   refine rd [9] ?_
   refine ac (fun K hK => ?_) ?_
   ·go_simp
    refine name_world ?_
    rintro wr9 hw9
    have hxn9 : Ext wr7 wr9 := hw9 ▸ (Ext.refl _).alloc _
    have hrow9 : wr9.heap[wr7.heap.size]? = some (.cells #[.int .i64 0, .int .i64 0, .int .i64 0] 35 (0, 0)) := hw9 ▸ heap_alloc_new wr7 _
    have hg9 : w.heap.size ≤ wr7.heap.size := hHeld.size
    refine hK.out _ _ ?_ (fun hHeld => ?_)
    ·exact hHeld.trans hxn9
    clear hK K
    try simp only [red, Act.put]
    refine wpHead_done (by kernel_rfl) ?_
    go_wp2_with (with_reducible refine sS 35 ?_)
    refine go_on (wpList_store_whole rfl rfl rfl rfl hrow9 (apitx_size _ _ _) rfl (by simp [Value.oneCell']) ?_)
    intro wG hrowG hkG _
    have hxG : Ext w wG := hHeld.kept hkG (one_ge hg9)
    have HIG : Hid (TxAt wG _ ⟨s.node, (valAt rec 1 : Nat), (valAt rec 5 : Nat)⟩) := Lib.hid hrowG
    clear hkG hrowG hrow9 e0 hHeld
    have HV : Hid (redoO s rec = (4, s)) := Lib.hid (HRE.out.trans (by rw [if_neg (fun h => n3 ((u8_is (n := 3) (by omega)).1 h.1)), if_neg (fun h => n2 ((u8_is (n := 2) (by omega)).1 h.1))]))
    have hcc := hcell0 wG hxG
    skip
    have HXG := Lib.hid hxG
    clear HRE HIG hcell0 hxG
    go_wp2
    go_ret
    rw [HV.out]
    exact ⟨rfl, HCO.out.ext HXG.out, .of_ext HXG.out⟩
   exact AllHead.nil
  refine ac (fun K hK => ?_) ?_
  ·go_simp
   refine name_world ?_
   rintro wr9 hw9
   have hxn9 : Ext wr5 wr9 := hw9 ▸ (Ext.refl _).alloc _
   have hrow9 : wr9.heap[wr5.heap.size]? = some (.cells #[.int .i64 0, .int .i64 0, .int .i64 0] 35 (0, 0)) := hw9 ▸ heap_alloc_new wr5 _
   have hg9 : w.heap.size ≤ wr5.heap.size := hHeld.size
   refine hK.out _ _ ?_ (fun hHeld => ?_)
   ·exact hHeld.trans hxn9
   clear hK K
   try simp only [red, Act.put]
   refine rd [7] ?_
   refine ac (fun K hK => ?_) ?_
   ·refine step_callG (by rfl) (by kernel_rfl) (HV5 _ hHeld) ?_
    rintro e wr7 ⟨rfl, hwv7⟩
    have hxv7 : Ext wr9 wr7 := hwv7 ▸ Ext.refl _
    refine ⟨_, rfl, ?_⟩
    try replace hrow9 := hxv7.obj hrow9
    refine hK.out _ _ ?_ (fun hHeld => ?_)
    ·exact hHeld.trans hxv7
    clear hK K
    try simp only [red, Act.put]
    refine wt 8 _ ?_
    simp only [red, Act.put]
    refine wpHead_done (by kernel_rfl) ?_
    go_wp2_with (with_reducible refine sS 35 ?_)
    refine go_on (wpList_store_whole rfl rfl rfl rfl hrow9 (apitx_size _ _ _) rfl (by simp [Value.oneCell']) ?_)
    intro wG hrowG hkG _
    have hxG : Ext w wG := hHeld.kept hkG (one_ge hg9)
    have HIG : Hid (TxAt wG _ ⟨s.node, (valAt rec 1 : Nat), (valAt rec 5 : Nat)⟩) := Lib.hid hrowG
    clear hkG hrowG hrow9 e0 hHeld
    have HV : Hid (redoO s rec = (4, s)) := Lib.hid (HRE.out.trans (by rw [if_neg (fun h => n3 ((u8_is (n := 3) (by omega)).1 h.1)), if_neg (fun h => n2 ((u8_is (n := 2) (by omega)).1 h.1))]))
    have hcc := hcell0 wG hxG
    skip
    have HXG := Lib.hid hxG
    clear HRE HIG hcell0 hxG
    go_wp2
    go_ret
    rw [HV.out]
    exact ⟨rfl, HCO.out.ext HXG.out, .of_ext HXG.out⟩
   exact AllHead.nil
  exact AllHead.nil
 refine ac (fun K hK => ?_) ?_
 ·go_simp
  refine name_world ?_
  rintro wr9 hw9
  have hxn9 : Ext wr0 wr9 := hw9 ▸ (Ext.refl _).alloc _
  have hrow9 : wr9.heap[wr0.heap.size]? = some (.cells #[.int .i64 0, .int .i64 0, .int .i64 0] 35 (0, 0)) := hw9 ▸ heap_alloc_new wr0 _
  have hg9 : w.heap.size ≤ wr0.heap.size := hHeld.size
  refine hK.out _ _ ?_ (fun hHeld => ?_)
  ·exact hHeld.trans hxn9
  clear hK K
  try simp only [red, Act.put]
  refine rd [5] ?_
  refine ac (fun K hK => ?_) ?_
  ·refine step_callG (by rfl) (by kernel_rfl) (HV1 _ hHeld) ?_
   rintro e wr5 ⟨rfl, hwv5⟩
   have hxv5 : Ext wr9 wr5 := hwv5 ▸ Ext.refl _
   refine ⟨_, rfl, ?_⟩
   try replace hrow9 := hxv5.obj hrow9
   refine hK.out _ _ ?_ (fun hHeld => ?_)
   ·exact hHeld.trans hxv5
   clear hK K
   try simp only [red, Act.put]
   refine rd [7] ?_
   refine ac (fun K hK => ?_) ?_
   ·refine step_callG (by rfl) (by kernel_rfl) (HV5 _ hHeld) ?_
    rintro e wr7 ⟨rfl, hwv7⟩
    have hxv7 : Ext wr5 wr7 := hwv7 ▸ Ext.refl _
    refine ⟨_, rfl, ?_⟩
    try replace hrow9 := hxv7.obj hrow9
    refine hK.out _ _ ?_ (fun hHeld => ?_)
    ·exact hHeld.trans hxv7
    clear hK K
    try simp only [red, Act.put]
    refine wt 8 _ ?_
    simp only [red, Act.put]
    refine wpHead_done (by kernel_rfl) ?_
    go_wp2_with (with_reducible refine sS 35 ?_)
    refine go_on (wpList_store_whole rfl rfl rfl rfl hrow9 (apitx_size _ _ _) rfl (by simp [Value.oneCell']) ?_)
    intro wG hrowG hkG _
    have hxG : Ext w wG := hHeld.kept hkG (one_ge hg9)
    have HIG : Hid (TxAt wG _ ⟨s.node, (valAt rec 1 : Nat), (valAt rec 5 : Nat)⟩) := Lib.hid hrowG
    clear hkG hrowG hrow9 e0 hHeld
    have HV : Hid (redoO s rec = (4, s)) := Lib.hid (HRE.out.trans (by rw [if_neg (fun h => n3 ((u8_is (n := 3) (by omega)).1 h.1)), if_neg (fun h => n2 ((u8_is (n := 2) (by omega)).1 h.1))]))
    have hcc := hcell0 wG hxG
    skip
    have HXG := Lib.hid hxG
    clear HRE HIG hcell0 hxG
    go_wp2
    go_ret
    rw [HV.out]
    exact ⟨rfl, HCO.out.ext HXG.out, .of_ext HXG.out⟩
   exact AllHead.nil
  exact AllHead.nil
 exact AllHead.nil
set_option maxRecDepth 20000 in
set_option maxHeartbeats 4000000 in
theorem CRedo_3 {M : List Nat} {w : World} {p : Nat} {s : Cs} (h : Co M w p s) (hs : s.Ok) (hp : p ∈ M) (hM : ∀ k ∈ M, k < w.heap.size) (A : Option Addr) (c : Nat) (rec : By) (hb : Bs w A rec) (hc : rec.length ≤ c) (hm : rec.length ≤ 140737488355328) (hk : (rec.getD 0 0).toNat = 3) :
 Calls Try.prog 8 #[pt p, .slice A rec.length c] w fun e w' => e = .returned (.int .i64 (redoO s rec).1) ∧ Co M w' p (redoO s rec).2 ∧ Kept [p] w w' := by
 have hfew : s.under.length ≤ 1000 := by have := hs.few; omega
 have HCO := Lib.hid h
 have HM := Lib.hid hM
 have HS := Lib.hid hs
 have HBS := Lib.hid hb
 have hx0 := Ext.refl w
 unfold pt
 by_cases h5 : rec.length < 5
 ·have h5' : (rec.length : Int) < 5 := by omega
  have HV : Hid (redoO s rec = (4, s)) := Lib.hid (by unfold redoO; rw [if_pos (.inl h5)])
  clear h5 hb
  go_enter Try.func8, Try.ntmps8
  go_wp2
  go_ret
  rw [HV.out]
  exact ⟨rfl, HCO.out, .refl _ _⟩
 have h5' : ¬ (rec.length : Int) < 5 := by omega
 have HV1 := fun W (hx : Ext w W) => val_any W A c 1 rec (HBS.out.ext hx) hc (by omega) hm
 have HG1 := fun W => good_any (valAt rec 1) W
 obtain ⟨ad, rfl, hcell0⟩ := hb.at_ (show 0 < rec.length by omega)
 have hg0 : rec.getD 0 0 = rec[0]'(by omega) := by rw [List.getD_eq_getElem?_getD, List.getElem?_eq_getElem (by omega)]; rfl
 rw [sl_add0] at hcell0
 have HRE : Hid (redoO s rec = if goodF (valAt rec 1) = false then (4, s) else if rec[0]'(by omega) = 1 ∧ rec.length = 5 then livesO s (valAt rec 1 : Nat)
  else if rec.length < 9 ∨ goodF (valAt rec 5) = false then (4, s)
  else if rec[0]'(by omega) = 3 ∧ rec.length = 9 then
   match s.at_ ⟨s.node, (valAt rec 1 : Nat), (valAt rec 5 : Nat)⟩ true with
   | none => (13, s)
   | some i => (0, { s with under := s.under.eraseIdx i })
  else if rec[0]'(by omega) = 2 ∧ 9 < rec.length ∧ rec.length = 10 + (rec.getD 9 0).toNat then
   let sh := (rec.drop 10).map fun c => ((c.toNat : Nat) : Int)
   if rightF sh then isDoneO s ⟨s.node, (valAt rec 1 : Nat), (valAt rec 5 : Nat)⟩ sh else (4, s)
  else (4, s)) := Lib.hid (by
   unfold redoO
   rw [hg0]
   by_cases hg : goodF (valAt rec 1) = false
   ·rw [if_pos (.inr hg), if_pos hg]
   ·rw [if_neg (by rintro (h | h); exact h5 h; exact hg h), if_neg hg]
    cases s.at_ ⟨s.node, (valAt rec 1 : Nat), (valAt rec 5 : Nat)⟩ true <;> rfl)
 generalize hb0e : rec[0]'(by omega) = b0 at *
 have hb0 := b0.toNat_lt
 have HG0 := Lib.hid hg0
 clear hg0 hb0e
 go_enter Try.func8, Try.ntmps8
 go_wp2_with fail
 refine (HV1 _ hx0).mono ?_
 rintro e _ ⟨rfl, rfl⟩
 go_wp2_with fail
 refine (HG1 _).mono ?_
 rintro e _ ⟨rfl, rfl⟩
 by_cases hg : goodF (valAt rec 1) = false
 ·have HV := Lib.hid (HRE.out.trans (if_pos hg))
  rw [hg]
  clear hg HRE
  go_wp2
  go_ret
  rw [HV.out]
  exact ⟨rfl, HCO.out, .refl _ _⟩
 have HRE := Lib.hid (HRE.out.trans (if_neg hg))
 have hg : goodF (valAt rec 1) = true := by simpa using hg
 rw [hg]
 have HGD := Lib.hid hg
 clear hg HG1
 by_cases hl : b0.toNat = 1 ∧ rec.length = 5
 ·have HRE := Lib.hid (HRE.out.trans (if_pos ⟨(u8_is (n := 1) (by omega)).2 hl.1, hl.2⟩))
  obtain ⟨h1, h2⟩ := hl
  have q1 : ((b0.toNat : Int) == 1) = true := by rw [h1]; rfl
  have q2 : ((rec.length : Int) == 5) = true := by rw [h2]; rfl
  have HL := clives_any HCO.out hp HM.out ((valAt rec 1 : Nat) : Int) hfew
  unfold pt at HL
  have hcc := hcell0 w hx0
  clear h1 h2 hb hcell0
  go_wp2_with fail
  refine (HV1 _ hx0).mono ?_
  rintro e _ ⟨rfl, rfl⟩
  go_wp2_with fail
  refine HL.mono ?_
  rintro e w3 ⟨rfl, hco3, hk3⟩
  have HC3 := Lib.hid hco3
  have HK3 := Lib.hid hk3
  clear hco3 hk3 HL
  go_wp2
  go_ret
  rw [HRE.out]
  exact ⟨rfl, HC3.out, HK3.out⟩
 have HRE := Lib.hid (HRE.out.trans (if_neg (by rintro ⟨e1, e2⟩; exact hl ⟨(u8_is (n := 1) (by omega)).1 e1, e2⟩)))
 obtain ⟨Ac, cap, hcr⟩ := h
 have HCR := Lib.hid hcr.row
 have hcc := hcell0 w hx0
 clear hcr
 have hb3 : b0.toNat = 3 := HG0.out ▸ hk
 have q1 : ((b0.toNat : Int) == 1) = false := beq_eq_false_iff_ne.2 (by omega)
 have q3 : ((b0.toNat : Int) == 3) = true := by rw [hb3]; rfl
 by_cases hl9 : rec.length = 9
 ·have HL9 := Lib.hid hl9
  have HB3 := Lib.hid hb3
  clear hl hl9 hb3 hk
  by_cases h9 : rec.length < 9
  ·have h9' : (rec.length : Int) < 9 := by omega
   have HV := Lib.hid (HRE.out.trans (if_pos (.inl h9)))
   clear h9 HRE
   go_wp2
   go_ret
   rw [HV.out]
   exact ⟨rfl, HCO.out, .refl _ _⟩
  have h9' : ¬ (rec.length : Int) < 9 := by omega
  have HV5 := fun W (hx : Ext w W) => val_any W (some ad) c 5 rec (HBS.out.ext hx) hc (by omega) hm
  have HG5 := fun W => good_any (valAt rec 5) W
  go_wp2_with fail
  refine (HV5 _ hx0).mono ?_
  rintro e _ ⟨rfl, rfl⟩
  go_wp2_with fail
  refine (HG5 _).mono ?_
  rintro e _ ⟨rfl, rfl⟩
  by_cases hg : goodF (valAt rec 5) = false
  ·have HV := Lib.hid (HRE.out.trans (if_pos (.inr hg)))
   rw [hg]
   clear hg HRE
   go_wp2
   go_ret
   rw [HV.out]
   exact ⟨rfl, HCO.out, .refl _ _⟩
  have HRE := Lib.hid (HRE.out.trans (if_neg (by rintro (h | h); exact h9 h; exact hg h)))
  have hg : goodF (valAt rec 5) = true := by simpa using hg
  rw [hg]
  have HG5D := Lib.hid hg
  clear hg HG5
  go_wp2_with fail
  have hxd : Ext w w.drew := hx0.drew
  have e0 := fun W (hx : Ext w W) => (rows4 HCR.out).1 W hx
  refine wp_region_phase (S := fun w' => Ext w w') 10 (by kernel_rfl) (by kernel_rfl) ?_ (fun hHeld => ?_)
  ·exact hxd
  simp only [List.drop_succ_cons, List.drop_zero]
  refine name_head ?_
  intro wr0 hw0
  rw [hw0] at hHeld
  refine wt 0 _ ?_
  simp only [red, Act.put]
  refine wt 1 _ ?_
  simp only [red, Act.put]
  refine wt 2 _ ?_
  simp only [red, Act.put]
  refine wt 3 _ ?_
  simp only [red, Act.put]
  refine wt 4 _ ?_
  simp only [red, Act.put]
  refine wt 6 _ ?_
  simp only [red, Act.put]
  refine rd [5, 9] ?_
  refine ac (fun K hK => ?_) ?_
  ·refine step_callG (by rfl) (by kernel_rfl) (HV1 _ hHeld) ?_
   rintro e wr5 ⟨rfl, hwv5⟩
   have hxv5 : Ext wr0 wr5 := hwv5 ▸ Ext.refl _
   refine ⟨_, rfl, ?_⟩
   try replace hrow9 := hxv5.obj hrow9
   refine hK.out _ _ ?_ (fun hHeld => ?_)
   ·exact hHeld.trans hxv5
   clear hK K
   try simp only [red, Act.put]
   refine rd [7, 9] ?_
   refine ac (fun K hK => ?_) ?_
   ·refine step_callG (by rfl) (by kernel_rfl) (HV5 _ hHeld) ?_
    rintro e wr7 ⟨rfl, hwv7⟩
    have hxv7 : Ext wr5 wr7 := hwv7 ▸ Ext.refl _
    refine ⟨_, rfl, ?_⟩
    try replace hrow9 := hxv7.obj hrow9
    refine hK.out _ _ ?_ (fun hHeld => ?_)
    ·exact hHeld.trans hxv7
    clear hK K
    try simp only [red, Act.put]
    refine wt 8 _ ?_
    simp only [red, Act.put]
    refine rd [9] ?_
    refine ac (fun K hK => ?_) ?_
    ·go_simp
     refine name_world ?_
     rintro wr9 hw9
     have hxn9 : Ext wr7 wr9 := hw9 ▸ (Ext.refl _).alloc _
     have hrow9 : wr9.heap[wr7.heap.size]? = some (.cells #[.int .i64 0, .int .i64 0, .int .i64 0] 35 (0, 0)) := hw9 ▸ heap_alloc_new wr7 _
     have hg9 : w.heap.size ≤ wr7.heap.size := hHeld.size
     refine hK.out _ _ ?_ (fun hHeld => ?_)
     ·exact hHeld.trans hxn9
     clear hK K
     try simp only [red, Act.put]
     refine wpHead_done (by kernel_rfl) ?_
     go_wp2_with (with_reducible refine sS 35 ?_)
     refine go_on (wpList_store_whole rfl rfl rfl rfl hrow9 (apitx_size _ _ _) rfl (by simp [Value.oneCell']) ?_)
     intro wG hrowG hkG _
     have hxG : Ext w wG := hHeld.kept hkG (one_ge hg9)
     have HIG : Hid (TxAt wG _ ⟨s.node, (valAt rec 1 : Nat), (valAt rec 5 : Nat)⟩) := Lib.hid hrowG
     clear hkG hrowG hrow9 e0 hHeld
     have HRE := Lib.hid (HRE.out.trans (if_pos ⟨(u8_is (n := 3) (by omega)).2 HB3.out, HL9.out⟩))
     have hcc := hcell0 wG hxG
     have HXG := Lib.hid hxG
     have hq9 : ((rec.length : Int) == 9) = true := by rw [HL9.out]; rfl
     have HA := cat_any (HCO.out.ext hxG) ⟨s.node, (valAt rec 1 : Nat), (valAt rec 5 : Nat)⟩ true hfew
     obtain ⟨t0, t1, t2, -⟩ := rows3 HIG.out
     have hx0G := Ext.refl wG
     unfold pt at HA
     clear hcell0 hxG hb h5'
     cases hat : s.at_ ⟨s.node, (valAt rec 1 : Nat), (valAt rec 5 : Nat)⟩ true with
     | none =>
      have ha : atV s ⟨s.node, (valAt rec 1 : Nat), (valAt rec 5 : Nat)⟩ true = .tuple #[.int .i64 0, .int .i64 9] := by unfold atV; rw [hat]
      rw [ha] at HA
      have HV : Hid (redoO s rec = (13, s)) := Lib.hid (HRE.out.trans (by rw [hat]))
      clear ha hat HRE
      go_wp2_with fail
      refine HA.mono ?_
      rintro e w2 ⟨rfl, hx2⟩
      have HX := Lib.hid (HXG.out.trans hx2)
      clear HA hx2
      go_wp2
      go_ret
      rw [HV.out]
      exact ⟨rfl, HCO.out.ext HX.out, .of_ext HX.out⟩
     | some i =>
      have ha : atV s ⟨s.node, (valAt rec 1 : Nat), (valAt rec 5 : Nat)⟩ true = .tuple #[.int .i64 i, .int .i64 0] := by unfold atV; rw [hat]
      rw [ha] at HA
      have HV : Hid (redoO s rec = (0, { s with under := s.under.eraseIdx i })) := Lib.hid (HRE.out.trans (by rw [hat]))
      have hi := (at_some hat).1
      clear ha hat HRE
      go_wp2_with fail
      refine HA.mono ?_
      rintro e w2 ⟨rfl, hx2⟩
      have HX := Lib.hid (HXG.out.trans hx2)
      have HRM := cremove_any (HCO.out.ext HX.out) hp (fun k hk => Nat.lt_of_lt_of_le (HM.out k hk) HX.out.size) i hi hfew
      unfold pt at HRM
      clear HA hx2
      go_wp2_with fail
      refine HRM.mono ?_
      rintro e w3 ⟨rfl, hco3, hk3⟩
      have HC3 := Lib.hid hco3
      have HK3 := Lib.hid ((Kept.of_ext HX.out).trans hk3)
      clear hco3 hk3
      go_wp2
      go_ret
      rw [HV.out]
      exact ⟨rfl, HC3.out, HK3.out⟩
    exact AllHead.nil
   refine ac (fun K hK => ?_) ?_
   ·go_simp
    refine name_world ?_
    rintro wr9 hw9
    have hxn9 : Ext wr5 wr9 := hw9 ▸ (Ext.refl _).alloc _
    have hrow9 : wr9.heap[wr5.heap.size]? = some (.cells #[.int .i64 0, .int .i64 0, .int .i64 0] 35 (0, 0)) := hw9 ▸ heap_alloc_new wr5 _
    have hg9 : w.heap.size ≤ wr5.heap.size := hHeld.size
    refine hK.out _ _ ?_ (fun hHeld => ?_)
    ·exact hHeld.trans hxn9
    clear hK K
    try simp only [red, Act.put]
    refine rd [7] ?_
    refine ac (fun K hK => ?_) ?_
    ·refine step_callG (by rfl) (by kernel_rfl) (HV5 _ hHeld) ?_
     rintro e wr7 ⟨rfl, hwv7⟩
     have hxv7 : Ext wr9 wr7 := hwv7 ▸ Ext.refl _
     refine ⟨_, rfl, ?_⟩
     try replace hrow9 := hxv7.obj hrow9
     refine hK.out _ _ ?_ (fun hHeld => ?_)
     ·exact hHeld.trans hxv7
     clear hK K
     try simp only [red, Act.put]
     refine wt 8 _ ?_
     simp only [red, Act.put]
     refine wpHead_done (by kernel_rfl) ?_
     go_wp2_with (with_reducible refine sS 35 ?_)
     refine go_on (wpList_store_whole rfl rfl rfl rfl hrow9 (apitx_size _ _ _) rfl (by simp [Value.oneCell']) ?_)
     intro wG hrowG hkG _
     have hxG : Ext w wG := hHeld.kept hkG (one_ge hg9)
     have HIG : Hid (TxAt wG _ ⟨s.node, (valAt rec 1 : Nat), (valAt rec 5 : Nat)⟩) := Lib.hid hrowG
     clear hkG hrowG hrow9 e0 hHeld
     have HRE := Lib.hid (HRE.out.trans (if_pos ⟨(u8_is (n := 3) (by omega)).2 HB3.out, HL9.out⟩))
     have hcc := hcell0 wG hxG
     have HXG := Lib.hid hxG
     have hq9 : ((rec.length : Int) == 9) = true := by rw [HL9.out]; rfl
     have HA := cat_any (HCO.out.ext hxG) ⟨s.node, (valAt rec 1 : Nat), (valAt rec 5 : Nat)⟩ true hfew
     obtain ⟨t0, t1, t2, -⟩ := rows3 HIG.out
     have hx0G := Ext.refl wG
     unfold pt at HA
     clear hcell0 hxG hb h5'
     cases hat : s.at_ ⟨s.node, (valAt rec 1 : Nat), (valAt rec 5 : Nat)⟩ true with
     | none =>
      have ha : atV s ⟨s.node, (valAt rec 1 : Nat), (valAt rec 5 : Nat)⟩ true = .tuple #[.int .i64 0, .int .i64 9] := by unfold atV; rw [hat]
      rw [ha] at HA
      have HV : Hid (redoO s rec = (13, s)) := Lib.hid (HRE.out.trans (by rw [hat]))
      clear ha hat HRE
      go_wp2_with fail
      refine HA.mono ?_
      rintro e w2 ⟨rfl, hx2⟩
      have HX := Lib.hid (HXG.out.trans hx2)
      clear HA hx2
      go_wp2
      go_ret
      rw [HV.out]
      exact ⟨rfl, HCO.out.ext HX.out, .of_ext HX.out⟩
     | some i =>
      have ha : atV s ⟨s.node, (valAt rec 1 : Nat), (valAt rec 5 : Nat)⟩ true = .tuple #[.int .i64 i, .int .i64 0] := by unfold atV; rw [hat]
      rw [ha] at HA
      have HV : Hid (redoO s rec = (0, { s with under := s.under.eraseIdx i })) := Lib.hid (HRE.out.trans (by rw [hat]))
      have hi := (at_some hat).1
      clear ha hat HRE
      go_wp2_with fail
      refine HA.mono ?_
      rintro e w2 ⟨rfl, hx2⟩
      have HX := Lib.hid (HXG.out.trans hx2)
      have HRM := cremove_any (HCO.out.ext HX.out) hp (fun k hk => Nat.lt_of_lt_of_le (HM.out k hk) HX.out.size) i hi hfew
      unfold pt at HRM
      clear HA hx2
      go_wp2_with fail
      refine HRM.mono ?_
      rintro e w3 ⟨rfl, hco3, hk3⟩
      have HC3 := Lib.hid hco3
      have HK3 := Lib.hid ((Kept.of_ext HX.out).trans hk3)
      clear hco3 hk3
      go_wp2
      go_ret
      rw [HV.out]
      exact ⟨rfl, HC3.out, HK3.out⟩
    exact AllHead.nil
   exact AllHead.nil
  refine ac (fun K hK => ?_) ?_
  ·go_simp
   refine name_world ?_
   rintro wr9 hw9
   have hxn9 : Ext wr0 wr9 := hw9 ▸ (Ext.refl _).alloc _
   have hrow9 : wr9.heap[wr0.heap.size]? = some (.cells #[.int .i64 0, .int .i64 0, .int .i64 0] 35 (0, 0)) := hw9 ▸ heap_alloc_new wr0 _
   have hg9 : w.heap.size ≤ wr0.heap.size := hHeld.size
   refine hK.out _ _ ?_ (fun hHeld => ?_)
   ·exact hHeld.trans hxn9
   clear hK K
   try simp only [red, Act.put]
   refine rd [5] ?_
   refine ac (fun K hK => ?_) ?_
   ·refine step_callG (by rfl) (by kernel_rfl) (HV1 _ hHeld) ?_
    rintro e wr5 ⟨rfl, hwv5⟩
    have hxv5 : Ext wr9 wr5 := hwv5 ▸ Ext.refl _
    refine ⟨_, rfl, ?_⟩
    try replace hrow9 := hxv5.obj hrow9
    refine hK.out _ _ ?_ (fun hHeld => ?_)
    ·exact hHeld.trans hxv5
    clear hK K
    try simp only [red, Act.put]
    refine rd [7] ?_
    refine ac (fun K hK => ?_) ?_
    ·refine step_callG (by rfl) (by kernel_rfl) (HV5 _ hHeld) ?_
     rintro e wr7 ⟨rfl, hwv7⟩
     have hxv7 : Ext wr5 wr7 := hwv7 ▸ Ext.refl _
     refine ⟨_, rfl, ?_⟩
     try replace hrow9 := hxv7.obj hrow9
     refine hK.out _ _ ?_ (fun hHeld => ?_)
     ·exact hHeld.trans hxv7
     clear hK K
     try simp only [red, Act.put]
     refine wt 8 _ ?_
     simp only [red, Act.put]
     refine wpHead_done (by kernel_rfl) ?_
     go_wp2_with (with_reducible refine sS 35 ?_)
     refine go_on (wpList_store_whole rfl rfl rfl rfl hrow9 (apitx_size _ _ _) rfl (by simp [Value.oneCell']) ?_)
     intro wG hrowG hkG _
     have hxG : Ext w wG := hHeld.kept hkG (one_ge hg9)
     have HIG : Hid (TxAt wG _ ⟨s.node, (valAt rec 1 : Nat), (valAt rec 5 : Nat)⟩) := Lib.hid hrowG
     clear hkG hrowG hrow9 e0 hHeld
     have HRE := Lib.hid (HRE.out.trans (if_pos ⟨(u8_is (n := 3) (by omega)).2 HB3.out, HL9.out⟩))
     have hcc := hcell0 wG hxG
     have HXG := Lib.hid hxG
     have hq9 : ((rec.length : Int) == 9) = true := by rw [HL9.out]; rfl
     have HA := cat_any (HCO.out.ext hxG) ⟨s.node, (valAt rec 1 : Nat), (valAt rec 5 : Nat)⟩ true hfew
     obtain ⟨t0, t1, t2, -⟩ := rows3 HIG.out
     have hx0G := Ext.refl wG
     unfold pt at HA
     clear hcell0 hxG hb h5'
     cases hat : s.at_ ⟨s.node, (valAt rec 1 : Nat), (valAt rec 5 : Nat)⟩ true with
     | none =>
      have ha : atV s ⟨s.node, (valAt rec 1 : Nat), (valAt rec 5 : Nat)⟩ true = .tuple #[.int .i64 0, .int .i64 9] := by unfold atV; rw [hat]
      rw [ha] at HA
      have HV : Hid (redoO s rec = (13, s)) := Lib.hid (HRE.out.trans (by rw [hat]))
      clear ha hat HRE
      go_wp2_with fail
      refine HA.mono ?_
      rintro e w2 ⟨rfl, hx2⟩
      have HX := Lib.hid (HXG.out.trans hx2)
      clear HA hx2
      go_wp2
      go_ret
      rw [HV.out]
      exact ⟨rfl, HCO.out.ext HX.out, .of_ext HX.out⟩
     | some i =>
      have ha : atV s ⟨s.node, (valAt rec 1 : Nat), (valAt rec 5 : Nat)⟩ true = .tuple #[.int .i64 i, .int .i64 0] := by unfold atV; rw [hat]
      rw [ha] at HA
      have HV : Hid (redoO s rec = (0, { s with under := s.under.eraseIdx i })) := Lib.hid (HRE.out.trans (by rw [hat]))
      have hi := (at_some hat).1
      clear ha hat HRE
      go_wp2_with fail
      refine HA.mono ?_
      rintro e w2 ⟨rfl, hx2⟩
      have HX := Lib.hid (HXG.out.trans hx2)
      have HRM := cremove_any (HCO.out.ext HX.out) hp (fun k hk => Nat.lt_of_lt_of_le (HM.out k hk) HX.out.size) i hi hfew
      unfold pt at HRM
      clear HA hx2
      go_wp2_with fail
      refine HRM.mono ?_
      rintro e w3 ⟨rfl, hco3, hk3⟩
      have HC3 := Lib.hid hco3
      have HK3 := Lib.hid ((Kept.of_ext HX.out).trans hk3)
      clear hco3 hk3
      go_wp2
      go_ret
      rw [HV.out]
      exact ⟨rfl, HC3.out, HK3.out⟩
    exact AllHead.nil
   exact AllHead.nil
  exact AllHead.nil
 ·have q39 : ((rec.length : Int) == 9) = false := beq_eq_false_iff_ne.2 (by omega)
  have q2 : ((b0.toNat : Int) == 2) = false := by rw [hb3]; rfl
  have n2 : ¬ b0.toNat = 2 := by omega
  clear hb3 hl hk
  by_cases h9 : rec.length < 9
  ·have h9' : (rec.length : Int) < 9 := by omega
   have HV := Lib.hid (HRE.out.trans (if_pos (.inl h9)))
   clear h9 HRE
   go_wp2
   go_ret
   rw [HV.out]
   exact ⟨rfl, HCO.out, .refl _ _⟩
  have h9' : ¬ (rec.length : Int) < 9 := by omega
  have HV5 := fun W (hx : Ext w W) => val_any W (some ad) c 5 rec (HBS.out.ext hx) hc (by omega) hm
  have HG5 := fun W => good_any (valAt rec 5) W
  go_wp2_with fail
  refine (HV5 _ hx0).mono ?_
  rintro e _ ⟨rfl, rfl⟩
  go_wp2_with fail
  refine (HG5 _).mono ?_
  rintro e _ ⟨rfl, rfl⟩
  by_cases hg : goodF (valAt rec 5) = false
  ·have HV := Lib.hid (HRE.out.trans (if_pos (.inr hg)))
   rw [hg]
   clear hg HRE
   go_wp2
   go_ret
   rw [HV.out]
   exact ⟨rfl, HCO.out, .refl _ _⟩
  have HRE := Lib.hid (HRE.out.trans (if_neg (by rintro (h | h); exact h9 h; exact hg h)))
  have hg : goodF (valAt rec 5) = true := by simpa using hg
  rw [hg]
  have HG5D := Lib.hid hg
  clear hg HG5
  go_wp2_with fail
  have hxd : Ext w w.drew := hx0.drew
  have e0 := fun W (hx : Ext w W) => (rows4 HCR.out).1 W hx
  refine wp_region_phase (S := fun w' => Ext w w') 10 (by kernel_rfl) (by kernel_rfl) ?_ (fun hHeld => ?_)
  ·exact hxd
  simp only [List.drop_succ_cons, List.drop_zero]
  refine name_head ?_
  intro wr0 hw0
  rw [hw0] at hHeld
  refine wt 0 _ ?_
  simp only [red, Act.put]
  refine wt 1 _ ?_
  simp only [red, Act.put]
  refine wt 2 _ ?_
  simp only [red, Act.put]
  refine wt 3 _ ?_
  simp only [red, Act.put]
  refine wt 4 _ ?_
  simp only [red, Act.put]
  refine wt 6 _ ?_
  simp only [red, Act.put]
  refine rd [5, 9] ?_
  refine ac (fun K hK => ?_) ?_
  ·refine step_callG (by rfl) (by kernel_rfl) (HV1 _ hHeld) ?_
   rintro e wr5 ⟨rfl, hwv5⟩
   have hxv5 : Ext wr0 wr5 := hwv5 ▸ Ext.refl _
   refine ⟨_, rfl, ?_⟩
   try replace hrow9 := hxv5.obj hrow9
   refine hK.out _ _ ?_ (fun hHeld => ?_)
   ·exact hHeld.trans hxv5
   clear hK K
   try simp only [red, Act.put]
   refine rd [7, 9] ?_
   refine ac (fun K hK => ?_) ?_
   ·refine step_callG (by rfl) (by kernel_rfl) (HV5 _ hHeld) ?_
    rintro e wr7 ⟨rfl, hwv7⟩
    have hxv7 : Ext wr5 wr7 := hwv7 ▸ Ext.refl _
    refine ⟨_, rfl, ?_⟩
    try replace hrow9 := hxv7.obj hrow9
    refine hK.out _ _ ?_ (fun hHeld => ?_)
    ·exact hHeld.trans hxv7
    clear hK K
    try simp only [red, Act.put]
    refine wt 8 _ ?_
    simp only [red, Act.put]
    refine rd [9] ?_
    refine ac (fun K hK => ?_) ?_
    ·go_simp
     refine name_world ?_
     rintro wr9 hw9
     have hxn9 : Ext wr7 wr9 := hw9 ▸ (Ext.refl _).alloc _
     have hrow9 : wr9.heap[wr7.heap.size]? = some (.cells #[.int .i64 0, .int .i64 0, .int .i64 0] 35 (0, 0)) := hw9 ▸ heap_alloc_new wr7 _
     have hg9 : w.heap.size ≤ wr7.heap.size := hHeld.size
     refine hK.out _ _ ?_ (fun hHeld => ?_)
     ·exact hHeld.trans hxn9
     clear hK K
     try simp only [red, Act.put]
     refine wpHead_done (by kernel_rfl) ?_
     go_wp2_with (with_reducible refine sS 35 ?_)
     refine go_on (wpList_store_whole rfl rfl rfl rfl hrow9 (apitx_size _ _ _) rfl (by simp [Value.oneCell']) ?_)
     intro wG hrowG hkG _
     have hxG : Ext w wG := hHeld.kept hkG (one_ge hg9)
     have HIG : Hid (TxAt wG _ ⟨s.node, (valAt rec 1 : Nat), (valAt rec 5 : Nat)⟩) := Lib.hid hrowG
     clear hkG hrowG hrow9 e0 hHeld
     have HV : Hid (redoO s rec = (4, s)) := Lib.hid (HRE.out.trans (by rw [if_neg (fun h => hl9 h.2), if_neg (fun h => n2 ((u8_is (n := 2) (by omega)).1 h.1))]))
     have hcc := hcell0 wG hxG
     clear hl9
     have HXG := Lib.hid hxG
     clear HRE HIG hcell0 hxG
     go_wp2
     go_ret
     rw [HV.out]
     exact ⟨rfl, HCO.out.ext HXG.out, .of_ext HXG.out⟩
    exact AllHead.nil
   refine ac (fun K hK => ?_) ?_
   ·go_simp
    refine name_world ?_
    rintro wr9 hw9
    have hxn9 : Ext wr5 wr9 := hw9 ▸ (Ext.refl _).alloc _
    have hrow9 : wr9.heap[wr5.heap.size]? = some (.cells #[.int .i64 0, .int .i64 0, .int .i64 0] 35 (0, 0)) := hw9 ▸ heap_alloc_new wr5 _
    have hg9 : w.heap.size ≤ wr5.heap.size := hHeld.size
    refine hK.out _ _ ?_ (fun hHeld => ?_)
    ·exact hHeld.trans hxn9
    clear hK K
    try simp only [red, Act.put]
    refine rd [7] ?_
    refine ac (fun K hK => ?_) ?_
    ·refine step_callG (by rfl) (by kernel_rfl) (HV5 _ hHeld) ?_
     rintro e wr7 ⟨rfl, hwv7⟩
     have hxv7 : Ext wr9 wr7 := hwv7 ▸ Ext.refl _
     refine ⟨_, rfl, ?_⟩
     try replace hrow9 := hxv7.obj hrow9
     refine hK.out _ _ ?_ (fun hHeld => ?_)
     ·exact hHeld.trans hxv7
     clear hK K
     try simp only [red, Act.put]
     refine wt 8 _ ?_
     simp only [red, Act.put]
     refine wpHead_done (by kernel_rfl) ?_
     go_wp2_with (with_reducible refine sS 35 ?_)
     refine go_on (wpList_store_whole rfl rfl rfl rfl hrow9 (apitx_size _ _ _) rfl (by simp [Value.oneCell']) ?_)
     intro wG hrowG hkG _
     have hxG : Ext w wG := hHeld.kept hkG (one_ge hg9)
     have HIG : Hid (TxAt wG _ ⟨s.node, (valAt rec 1 : Nat), (valAt rec 5 : Nat)⟩) := Lib.hid hrowG
     clear hkG hrowG hrow9 e0 hHeld
     have HV : Hid (redoO s rec = (4, s)) := Lib.hid (HRE.out.trans (by rw [if_neg (fun h => hl9 h.2), if_neg (fun h => n2 ((u8_is (n := 2) (by omega)).1 h.1))]))
     have hcc := hcell0 wG hxG
     clear hl9
     have HXG := Lib.hid hxG
     clear HRE HIG hcell0 hxG
     go_wp2
     go_ret
     rw [HV.out]
     exact ⟨rfl, HCO.out.ext HXG.out, .of_ext HXG.out⟩
    exact AllHead.nil
   exact AllHead.nil
  refine ac (fun K hK => ?_) ?_
  ·go_simp
   refine name_world ?_
   rintro wr9 hw9
   have hxn9 : Ext wr0 wr9 := hw9 ▸ (Ext.refl _).alloc _
   have hrow9 : wr9.heap[wr0.heap.size]? = some (.cells #[.int .i64 0, .int .i64 0, .int .i64 0] 35 (0, 0)) := hw9 ▸ heap_alloc_new wr0 _
   have hg9 : w.heap.size ≤ wr0.heap.size := hHeld.size
   refine hK.out _ _ ?_ (fun hHeld => ?_)
   ·exact hHeld.trans hxn9
   clear hK K
   try simp only [red, Act.put]
   refine rd [5] ?_
   refine ac (fun K hK => ?_) ?_
   ·refine step_callG (by rfl) (by kernel_rfl) (HV1 _ hHeld) ?_
    rintro e wr5 ⟨rfl, hwv5⟩
    have hxv5 : Ext wr9 wr5 := hwv5 ▸ Ext.refl _
    refine ⟨_, rfl, ?_⟩
    try replace hrow9 := hxv5.obj hrow9
    refine hK.out _ _ ?_ (fun hHeld => ?_)
    ·exact hHeld.trans hxv5
    clear hK K
    try simp only [red, Act.put]
    refine rd [7] ?_
    refine ac (fun K hK => ?_) ?_
    ·refine step_callG (by rfl) (by kernel_rfl) (HV5 _ hHeld) ?_
     rintro e wr7 ⟨rfl, hwv7⟩
     have hxv7 : Ext wr5 wr7 := hwv7 ▸ Ext.refl _
     refine ⟨_, rfl, ?_⟩
     try replace hrow9 := hxv7.obj hrow9
     refine hK.out _ _ ?_ (fun hHeld => ?_)
     ·exact hHeld.trans hxv7
     clear hK K
     try simp only [red, Act.put]
     refine wt 8 _ ?_
     simp only [red, Act.put]
     refine wpHead_done (by kernel_rfl) ?_
     go_wp2_with (with_reducible refine sS 35 ?_)
     refine go_on (wpList_store_whole rfl rfl rfl rfl hrow9 (apitx_size _ _ _) rfl (by simp [Value.oneCell']) ?_)
     intro wG hrowG hkG _
     have hxG : Ext w wG := hHeld.kept hkG (one_ge hg9)
     have HIG : Hid (TxAt wG _ ⟨s.node, (valAt rec 1 : Nat), (valAt rec 5 : Nat)⟩) := Lib.hid hrowG
     clear hkG hrowG hrow9 e0 hHeld
     have HV : Hid (redoO s rec = (4, s)) := Lib.hid (HRE.out.trans (by rw [if_neg (fun h => hl9 h.2), if_neg (fun h => n2 ((u8_is (n := 2) (by omega)).1 h.1))]))
     have hcc := hcell0 wG hxG
     clear hl9
     have HXG := Lib.hid hxG
     clear HRE HIG hcell0 hxG
     go_wp2
     go_ret
     rw [HV.out]
     exact ⟨rfl, HCO.out.ext HXG.out, .of_ext HXG.out⟩
    exact AllHead.nil
   exact AllHead.nil
  exact AllHead.nil
end Go.Proofs.Ytijopcdjlpafdaa
