/- The walk of the reference's args at kind 5. Conditions: the hypotheses of the theorem. -/
import Derived.Test.YthlppbbejdeeoaaGreatDoorC3
import Derived.Test.YthlppbbejdeeoaaGreatDoorRWrAM
namespace Go.Proofs.YthlppbbejdeeoaaGreatDoor
open Go.RowKit
set_option maxRecDepth 20000 in
set_option maxHeartbeats 8000000 in
theorem rargs5_any (src dst t1 t2 t3 p1 p2 p3 : Int) (peers : List Int) (deeds : List Dd) (epochs : List Int) (er : Int) (nums : List Int) (su : By) (sh se : Int) (vb : By) (fa : Int) (us : By) (ue nn : Int) (Ap Ad Ae An Av : Option Addr) (cp cd ce cn cv : Nat) (w : World)
 (hP : Sl w Ap (doV peers)) (hE : Sl w Ae (doV epochs)) (hN : Sl w An (doV nums)) (lp : peers.length ≤ 140737488351232) (le : epochs.length ≤ 140737488351232) (ln : nums.length ≤ 140737488351232) :
 Calls Tryz.prog 37 #[.agg #[.int .i64 5, .int .i64 src, .int .i64 dst, .int .i64 t1, .int .i64 t2, .int .i64 t3, .int .i64 p1, .int .i64 p2, .int .i64 p3, .slice Ap peers.length cp, .slice Ad deeds.length cd, .slice Ae epochs.length ce, .int .i64 er, .slice An nums.length cn, .string (st su), .int .i64 sh, .int .i64 se, .slice Av vb.length cv, .int .i64 fa, .string (st us), .int .i64 ue, .int .i64 nn]] w fun e w' => e = .returned (.bool (argsB ⟨5, src, dst, ⟨t1, t2, t3⟩, ⟨p1, p2, p3⟩, peers, deeds, epochs, er, nums, su, sh, se, vb, fa, us, ue, nn⟩)) ∧ Ext w w' := by
 obtain ⟨ab, hab⟩ : ∃ x, x = argsB ⟨5, src, dst, ⟨t1, t2, t3⟩, ⟨p1, p2, p3⟩, peers, deeds, epochs, er, nums, su, sh, se, vb, fa, us, ue, nn⟩ := ⟨_, rfl⟩
 rw [← hab]
 have HE : Hid (ab = (inI src 0 7 && inI dst 0 7 && txB ⟨t1, t2, t3⟩ && (decide ((⟨p1, p2, p3⟩ : Tx3) = ⟨0, 0, 0⟩) && decide (peers = []) && decide (deeds.length = 0) && decide (epochs = [])) && (decide (er = 0) && decide (nums = []) && (decide (su = []) && decide (sh = 0) && decide (se = 0)) && decide (vb = [])) && decide (fa = 0) && decide (nn = 0) && (decide (us = []) && decide (ue = 0)))) := Lib.hid (by rw [hab]; rfl)
 obtain ⟨wa, hwa⟩ : ∃ wa, wa = w.alloc (.cells #[.int .i64 5, .int .i64 src, .int .i64 dst, .int .i64 t1, .int .i64 t2, .int .i64 t3, .int .i64 p1, .int .i64 p2, .int .i64 p3, .slice Ap peers.length cp, .slice Ad deeds.length cd, .slice Ae epochs.length ce, .int .i64 er, .slice An nums.length cn, .string (st su), .int .i64 sh, .int .i64 se, .slice Av vb.length cv, .int .i64 fa, .string (st us), .int .i64 ue, .int .i64 nn] 37) := ⟨_, rfl⟩
 have hx : Ext w wa := by rw [hwa]; exact (Ext.refl w).alloc _
 have hrow : wa.heap[w.heap.size]? = some (.cells #[.int .i64 5, .int .i64 src, .int .i64 dst, .int .i64 t1, .int .i64 t2, .int .i64 t3, .int .i64 p1, .int .i64 p2, .int .i64 p3, .slice Ap peers.length cp, .slice Ad deeds.length cd, .slice Ae epochs.length ce, .int .i64 er, .slice An nums.length cn, .string (st su), .int .i64 sh, .int .i64 se, .slice Av vb.length cv, .int .i64 fa, .string (st us), .int .i64 ue, .int .i64 nn] 37 (0, 0)) := by rw [hwa]; exact heap_alloc_new w _
 have HWA := Lib.hid hwa
 have C0 := row_e hrow 0 (.int .i64 5) rfl
 have C1 := row_e hrow 1 (.int .i64 src) rfl
 have C2 := row_e hrow 2 (.int .i64 dst) rfl
 have C18 := row_e hrow 18 (.int .i64 fa) rfl
 have C19 := row_e hrow 19 (.string (st us)) rfl
 have C20 := row_e hrow 20 (.int .i64 ue) rfl
 have C21 := row_e hrow 21 (.int .i64 nn) rfl
 have RT : ∀ W, Ext wa W → W.rangeAt w.heap.size 3 [.int .i64 t1, .int .i64 t2, .int .i64 t3] := fun W hx => World.rangeAt_of_block (hx.obj hrow) 3 3
 have RP : ∀ W, Ext wa W → W.rangeAt w.heap.size 6 [.int .i64 p1, .int .i64 p2, .int .i64 p3, .slice Ap peers.length cp, .slice Ad deeds.length cd, .slice Ae epochs.length ce] := fun W hx => World.rangeAt_of_block (hx.obj hrow) 6 6
 have RV : ∀ W, Ext wa W → W.rangeAt w.heap.size 12 [.int .i64 er, .slice An nums.length cn, .string (st su), .int .i64 sh, .int .i64 se, .slice Av vb.length cv] := fun W hx => World.rangeAt_of_block (hx.obj hrow) 12 6
 have H1 := fun W => rhasTx_any 5 W
 have H2 := fun W => rRightTx_any ⟨t1, t2, t3⟩ W
 have H3 := fun W => rhasVote_any 5 W
 have H4 := fun W => rhasN_any 5 W
 rw [show kTx 5 = true from rfl] at H1
 rw [show kVote 5 = false from rfl] at H3
 rw [show kN 5 = false from rfl] at H4
 unfold txC at H2
 simp only at H2
 have HQ := fun W (hx : Ext w W) => rnumbers_any peers 3 Ap cp W (hP.ext hx) (by omega)
 have HR := fun W (hx : Ext w W) => rnumbers_any epochs 4294967295 Ae ce W (hE.ext hx) (by omega)
 have HS := fun W (hx : Ext w W) => rnumbers_any nums 4294967295 An cn W (hN.ext hx) (by omega)
 have HU := fun k W => rnumber_any k W
 clear hab hwa hrow hP hE hN
 go_enter Tryz.func37, Tryz.ntmps37
 by_cases a1 : src < 0
 ·
  have o : (inI src 0 7) = false := inI_out (by omega)
  have HB : Hid (ab = false) := Lib.hid (by rw [HE.out, o]; simp)
  clear o
  go_wp2
  go_ret
  exact ⟨by rw [HB.out]; rfl, ((Ext.refl w).alloc _)⟩
 by_cases a2 : 7 < src
 ·
  have o : (inI src 0 7) = false := inI_out (by omega)
  have HB : Hid (ab = false) := Lib.hid (by rw [HE.out, o]; simp)
  clear o
  go_wp2
  go_ret
  exact ⟨by rw [HB.out]; rfl, ((Ext.refl w).alloc _)⟩
 by_cases a3 : dst < 0
 ·
  have o : (inI dst 0 7) = false := inI_out (by omega)
  have HB : Hid (ab = false) := Lib.hid (by rw [HE.out, o]; simp)
  clear o
  go_wp2
  go_ret
  exact ⟨by rw [HB.out]; rfl, ((Ext.refl w).alloc _)⟩
 by_cases a4 : 7 < dst
 ·
  have o : (inI dst 0 7) = false := inI_out (by omega)
  have HB : Hid (ab = false) := Lib.hid (by rw [HE.out, o]; simp)
  clear o
  go_wp2
  go_ret
  exact ⟨by rw [HB.out]; rfl, ((Ext.refl w).alloc _)⟩
 have i1 : inI src 0 7 = true := inI_in (by omega) (by omega)
 have i2 : inI dst 0 7 = true := inI_in (by omega) (by omega)
 replace HE := Lib.hid (HE.out.trans (by rw [i1, i2, Bool.true_and, Bool.true_and]))
 clear i1 i2
 go_wp2_with fail
 rw [← HWA.out]
 clear C1 C2 a1 a2 a3 a4
 have hd0 : Ext wa wa.drew := (Ext.refl wa).drew
 cases hb : txB ⟨t1, t2, t3⟩ with
 | false =>
  rw [hb] at H2
  refine wp_region_phase (S := fun w' => Ext wa w') 18 (by kernel_rfl) (by kernel_rfl) ?_ (fun hHeld => ?_)
  ·exact hd0
  simp only [List.drop_succ_cons, List.drop_zero]
  refine name_head ?_
  intro wr0 hw0
  rw [hw0] at hHeld
  refine wt 0 _ ?_
  simp only [red, Act.put]
  refine wt 1 _ ?_
  simp only [red, Act.put]
  refine wt 3 _ ?_
  simp only [red, Act.put]
  refine wy 4 (v := .agg #[.int .i64 t1, .int .i64 t2, .int .i64 t3]) (by rfl) (by exact yieldsIf_load_mid (by rfl) 25 _ rfl w.heap.size 3 rfl [.int .i64 t1, .int .i64 t2, .int .i64 t3] _ RT Tryz.underlying25 rfl (by kernel_rfl)) ?_
  simp only [red, Act.put]
  refine rd [2] ?_
  refine ac (fun K hK => ?_) ?_
  ·refine step_callG (by rfl) (by kernel_rfl) (H1 _) ?_
   rintro e wr2 ⟨rfl, hw2⟩
   refine ⟨_, rfl, ?_⟩
   refine hK.out _ _ ?_ (fun hHeld => ?_)
   ·exact hw2 ▸ hHeld
   clear hK K
   try simp only [red, Act.put]
   refine rd [5] ?_
   refine ac (fun K hK => ?_) ?_
   ·refine step_callG (by rfl) (by kernel_rfl) (H2 _) ?_
    rintro e wr5 ⟨rfl, hx5⟩
    refine ⟨_, rfl, ?_⟩
    refine hK.out _ _ ?_ (fun hHeld => ?_)
    ·exact hHeld.trans hx5
    clear hK K
    try simp only [red, Act.put]
    refine wt 6 _ ?_
    simp only [red, Act.put]
    refine wt 7 _ ?_
    simp only [red, Act.put]
    refine ws 8 ?_
    simp only [red, Act.put]
    refine ws 9 ?_
    simp only [red, Act.put]
    refine ws 10 ?_
    simp only [red, Act.put]
    refine ws 11 ?_
    simp only [red, Act.put]
    refine ws 12 ?_
    simp only [red, Act.put]
    refine ws 13 ?_
    simp only [red, Act.put]
    refine ws 14 ?_
    simp only [red, Act.put]
    refine ws 15 ?_
    simp only [red, Act.put]
    refine ws 16 ?_
    simp only [red, Act.put]
    refine ws 17 ?_
    simp only [red, Act.put]
    refine wpHead_done (by kernel_rfl) ?_
    skip
    have o : (txB ⟨t1, t2, t3⟩) = false := hb
    have HB : Hid (ab = false) := Lib.hid (by rw [HE.out, o]; simp)
    clear o
    go_wp2
    go_ret
    exact ⟨by rw [HB.out]; rfl, hx.trans hHeld⟩
   exact AllHead.nil
  exact AllHead.nil
 | true =>
  rw [hb] at H2
  replace HE := Lib.hid (HE.out.trans (by rw [hb, Bool.true_and]))
  refine wp_region_phase (S := fun w' => Ext wa w') 18 (by kernel_rfl) (by kernel_rfl) ?_ (fun hHeld => ?_)
  ·exact hd0
  simp only [List.drop_succ_cons, List.drop_zero]
  refine name_head ?_
  intro wr0 hw0
  rw [hw0] at hHeld
  refine wt 0 _ ?_
  simp only [red, Act.put]
  refine wt 1 _ ?_
  simp only [red, Act.put]
  refine wt 3 _ ?_
  simp only [red, Act.put]
  refine wy 4 (v := .agg #[.int .i64 t1, .int .i64 t2, .int .i64 t3]) (by rfl) (by exact yieldsIf_load_mid (by rfl) 25 _ rfl w.heap.size 3 rfl [.int .i64 t1, .int .i64 t2, .int .i64 t3] _ RT Tryz.underlying25 rfl (by kernel_rfl)) ?_
  simp only [red, Act.put]
  refine rd [2] ?_
  refine ac (fun K hK => ?_) ?_
  ·refine step_callG (by rfl) (by kernel_rfl) (H1 _) ?_
   rintro e wr2 ⟨rfl, hw2⟩
   refine ⟨_, rfl, ?_⟩
   refine hK.out _ _ ?_ (fun hHeld => ?_)
   ·exact hw2 ▸ hHeld
   clear hK K
   try simp only [red, Act.put]
   refine rd [5] ?_
   refine ac (fun K hK => ?_) ?_
   ·refine step_callG (by rfl) (by kernel_rfl) (H2 _) ?_
    rintro e wr5 ⟨rfl, hx5⟩
    refine ⟨_, rfl, ?_⟩
    refine hK.out _ _ ?_ (fun hHeld => ?_)
    ·exact hHeld.trans hx5
    clear hK K
    try simp only [red, Act.put]
    refine wt 6 _ ?_
    simp only [red, Act.put]
    refine wt 7 _ ?_
    simp only [red, Act.put]
    refine wt 8 _ ?_
    simp only [red, Act.put]
    refine wt 9 _ ?_
    simp only [red, Act.put]
    refine rd [10] ?_
    refine ac (fun K hK => ?_) ?_
    ·refine step_callG (by rfl) (by kernel_rfl) (H1 _) ?_
     rintro e wr10 ⟨rfl, hw10⟩
     refine ⟨_, rfl, ?_⟩
     refine hK.out _ _ ?_ (fun hHeld => ?_)
     ·exact hw10 ▸ hHeld
     clear hK K
     try simp only [red, Act.put]
     refine wt 11 _ ?_
     simp only [red, Act.put]
     refine wt 12 _ ?_
     simp only [red, Act.put]
     refine ws 13 ?_
     simp only [red, Act.put]
     refine ws 14 ?_
     simp only [red, Act.put]
     refine ws 15 ?_
     simp only [red, Act.put]
     refine ws 16 ?_
     simp only [red, Act.put]
     refine wt 17 _ ?_
     simp only [red, Act.put]
     refine wpHead_done (by kernel_rfl) ?_
     skip
     have hx3 := hx.trans hHeld
     have hab3 := hHeld
     clear hHeld hw0 hd0 H1 H2 hx5 hw2
     go_wp2_with (with_reducible refine sL 29 ?_)
     refine go_on (wpList_load_mid rfl 29 _ rfl w.heap.size 6 rfl _ _ (RP _ hab3) Tryz.underlying29 rfl (by kernel_rfl) ?_)
     go_wp2_with (with_reducible first | refine sL 25 ?_ | refine sL 29 ?_ | refine sA 29 ?_ | refine sS 29 ?_ | refine sL 34 ?_ | refine sA 34 ?_ | refine sS 34 ?_ | refine sL 32 ?_)
     refine go_on (wpList_alloc_ rfl rfl part_info ?_)
     go_wp2_with (with_reducible first | refine sL 25 ?_ | refine sL 29 ?_ | refine sA 29 ?_ | refine sS 29 ?_ | refine sL 34 ?_ | refine sA 34 ?_ | refine sS 34 ?_ | refine sL 32 ?_)
     refine go_on (wpList_store_last (c' := [.int .i64 p1, .int .i64 p2, .int .i64 p3, .slice Ap peers.length cp, .slice Ad deeds.length cd, .slice Ae epochs.length ce].toArray) rfl rfl rfl rfl (by kernel_rfl) rfl (by simp [Value.oneCell']) ?_)
     intro W4 hrow4 hx4 hz4
     clear hz4
     obtain ⟨g4, hg4⟩ : ∃ g, g = (wr10).heap.size := ⟨_, rfl⟩
     rw [← hg4] at hrow4
     have HG4 := Lib.hid hg4
     have hx04 := hx3.trans hx4
     have hab4 := hab3.trans hx4
     have X3 := row_e hrow4 3 (.slice Ap peers.length cp) rfl
     have X4 := row_e hrow4 4 (.slice Ad deeds.length cd) rfl
     have X5 := row_e hrow4 5 (.slice Ae epochs.length ce) rfl
     have RX : W4.rangeAt g4 0 [.int .i64 p1, .int .i64 p2, .int .i64 p3] := World.rangeAt_of_block hrow4 0 3
     clear hx3 hab3 hrow4 hx4 RP hg4
     go_wp2_with (with_reducible refine sL 25 ?_)
     rw [← HG4.out]
     refine go_on (wpList_load_mid rfl 25 _ rfl g4 0 rfl _ _ RX Tryz.underlying25 rfl (by kernel_rfl) ?_)
     clear RX HG4
     by_cases n1 : p1 = 0; rotate_left
     ·
      have o : (decide ((⟨p1, p2, p3⟩ : Tx3) = ⟨0, 0, 0⟩)) = false := tx_no (fun h => n1 h.1)
      have HB : Hid (ab = false) := Lib.hid (by rw [HE.out, o]; simp)
      clear o
      go_wp2
      go_ret
      exact ⟨by rw [HB.out]; rfl, hx04⟩
     by_cases n2 : p2 = 0; rotate_left
     ·
      have o : (decide ((⟨p1, p2, p3⟩ : Tx3) = ⟨0, 0, 0⟩)) = false := tx_no (fun h => n2 h.2.1)
      have HB : Hid (ab = false) := Lib.hid (by rw [HE.out, o]; simp)
      clear o
      go_wp2
      go_ret
      exact ⟨by rw [HB.out]; rfl, hx04⟩
     by_cases n3 : p3 = 0; rotate_left
     ·
      have o : (decide ((⟨p1, p2, p3⟩ : Tx3) = ⟨0, 0, 0⟩)) = false := tx_no (fun h => n3 h.2.2)
      have HB : Hid (ab = false) := Lib.hid (by rw [HE.out, o]; simp)
      clear o
      go_wp2
      go_ret
      exact ⟨by rw [HB.out]; rfl, hx04⟩
     subst n1 n2 n3
     have o : (decide ((⟨0, 0, 0⟩ : Tx3) = ⟨0, 0, 0⟩)) = true := decide_eq_true rfl
     replace HE := Lib.hid (HE.out.trans (by rw [o, Bool.true_and]))
     clear o
     by_cases n4 : peers = []; rotate_left
     ·
      have n4b : 0 < peers.length := List.length_pos_iff.2 n4
      have o : (decide (peers = [])) = false := decide_eq_false n4
      have HB : Hid (ab = false) := Lib.hid (by rw [HE.out, o]; simp)
      clear o
      go_wp2
      go_ret
      exact ⟨by rw [HB.out]; rfl, hx04⟩
     by_cases n5 : epochs = []; rotate_left
     ·
      have n5b : 0 < epochs.length := List.length_pos_iff.2 n5
      have o : (decide (epochs = [])) = false := decide_eq_false n5
      have HB : Hid (ab = false) := Lib.hid (by rw [HE.out, o]; simp)
      clear o
      go_wp2
      go_ret
      exact ⟨by rw [HB.out]; rfl, hx04⟩
     by_cases n6 : deeds = []; rotate_left
     ·
      have n6b : 0 < deeds.length := List.length_pos_iff.2 n6
      have o : (decide (deeds.length = 0)) = false := decide_eq_false (fun e => n6 (List.eq_nil_of_length_eq_zero e))
      have HB : Hid (ab = false) := Lib.hid (by rw [HE.out, o]; simp)
      clear o
      go_wp2
      go_ret
      exact ⟨by rw [HB.out]; rfl, hx04⟩
     subst n4 n5 n6
     have o : (decide (([] : List Int) = [])) = true := rfl
     replace HE := Lib.hid (HE.out.trans (by rw [o, Bool.true_and]))
     clear o
     have o : (decide (([] : List Dd).length = 0)) = true := rfl
     replace HE := Lib.hid (HE.out.trans (by rw [o, Bool.true_and]))
     clear o
     try replace HE := Lib.hid (HE.out.trans (by rw [show (decide (([] : List Int) = [])) = true from rfl, Bool.true_and]))
     go_wp2_with (with_reducible refine sL 34 ?_)
     clear X3 X4 X5 HQ HR
     refine go_on (wpList_load_mid rfl 34 _ rfl w.heap.size 12 rfl _ _ (RV _ hab4) Tryz.underlying34 rfl (by kernel_rfl) ?_)
     go_wp2_with (with_reducible first | refine sL 25 ?_ | refine sL 29 ?_ | refine sA 29 ?_ | refine sS 29 ?_ | refine sL 34 ?_ | refine sA 34 ?_ | refine sS 34 ?_ | refine sL 32 ?_)
     refine go_on (wpList_alloc_ rfl rfl vote_info ?_)
     go_wp2_with (with_reducible first | refine sL 25 ?_ | refine sL 29 ?_ | refine sA 29 ?_ | refine sS 29 ?_ | refine sL 34 ?_ | refine sA 34 ?_ | refine sS 34 ?_ | refine sL 32 ?_)
     refine go_on (wpList_store_last (c' := [.int .i64 er, .slice An nums.length cn, .string (st su), .int .i64 sh, .int .i64 se, .slice Av vb.length cv].toArray) rfl rfl rfl rfl (by kernel_rfl) rfl (by simp [Value.oneCell']) ?_)
     intro W5 hrow5 hx5 hz5
     clear hz5
     obtain ⟨g5, hg5⟩ : ∃ g, g = W4.heap.size := ⟨_, rfl⟩
     rw [← hg5] at hrow5 ⊢
     have hx05 := hx04.trans hx5
     have hab5 := hab4.trans hx5
     have V0 := row_e hrow5 0 (.int .i64 er) rfl
     have V1 := row_e hrow5 1 (.slice An nums.length cn) rfl
     have V2 := row_e hrow5 2 (.string (st su)) rfl
     have V3 := row_e hrow5 3 (.int .i64 sh) rfl
     have V4 := row_e hrow5 4 (.int .i64 se) rfl
     have V5 := row_e hrow5 5 (.slice Av vb.length cv) rfl
     have RS : W5.rangeAt g5 2 [.string (st su), .int .i64 sh, .int .i64 se] := World.rangeAt_of_block hrow5 2 3
     clear hx04 hab4 hrow5 hx5 RV hg5
     go_wp2_with fail
     refine (H3 _).mono ?_
     rintro e wq ⟨rfl, hwq⟩
     subst hwq
     by_cases m1 : er = 0; rotate_left
     ·
      have m1b : (er != 0) = true := by simpa using m1
      have o : (decide (er = 0)) = false := decide_eq_false m1
      have HB : Hid (ab = false) := Lib.hid (by rw [HE.out, o]; simp)
      clear o
      go_wp2
      go_ret
      exact ⟨by rw [HB.out]; rfl, hx05⟩
     subst m1
     have o : (decide ((0 : Int) = 0)) = true := rfl
     replace HE := Lib.hid (HE.out.trans (by rw [o, Bool.true_and]))
     clear o
     by_cases m2 : nums = []; rotate_left
     ·
      have m2b : 0 < nums.length := List.length_pos_iff.2 m2
      have o : (decide (nums = [])) = false := decide_eq_false m2
      have HB : Hid (ab = false) := Lib.hid (by rw [HE.out, o]; simp)
      clear o
      go_wp2
      go_ret
      exact ⟨by rw [HB.out]; rfl, hx05⟩
     subst m2
     have o : (decide (([] : List Int) = [])) = true := rfl
     replace HE := Lib.hid (HE.out.trans (by rw [o, Bool.true_and]))
     clear o
     go_wp2_with (with_reducible refine sL 32 ?_)
     refine go_on (wpList_load_midG (by rfl) 32 _ rfl g5 2 rfl _ _ RS Tryz.underlying32 rfl (by kernel_rfl) ?_)
     clear RS
     by_cases m3 : su.isEmpty = true; rotate_left
     ·have m3 : su.isEmpty = false := by simpa using m3
      have o : ((decide (su = []) && decide (sh = 0) && decide (se = 0))) = false := by rw [decide_eq_false (by rintro rfl; simp at m3)]; rfl
      have HB : Hid (ab = false) := Lib.hid (by rw [HE.out, o]; simp)
      clear o
      go_wp2
      go_ret
      exact ⟨by rw [HB.out]; rfl, hx05⟩
     by_cases m4 : sh = 0; rotate_left
     ·
      have o : ((decide (su = []) && decide (sh = 0) && decide (se = 0))) = false := by rw [decide_eq_false m4]; simp
      have HB : Hid (ab = false) := Lib.hid (by rw [HE.out, o]; simp)
      clear o
      go_wp2
      go_ret
      exact ⟨by rw [HB.out]; rfl, hx05⟩
     by_cases m5 : se = 0; rotate_left
     ·
      have o : ((decide (su = []) && decide (sh = 0) && decide (se = 0))) = false := by rw [decide_eq_false m5]; simp
      have HB : Hid (ab = false) := Lib.hid (by rw [HE.out, o]; simp)
      clear o
      go_wp2
      go_ret
      exact ⟨by rw [HB.out]; rfl, hx05⟩
     have m3' : su = [] := by simpa using m3
     subst m4 m5 m3'
     have o : ((decide (([] : By) = []) && decide ((0 : Int) = 0) && decide ((0 : Int) = 0))) = true := rfl
     replace HE := Lib.hid (HE.out.trans (by rw [o, Bool.true_and]))
     clear o
     by_cases m6 : vb = []; rotate_left
     ·
      have m6b : 0 < vb.length := List.length_pos_iff.2 m6
      have o : (decide (vb = [])) = false := decide_eq_false m6
      have HB : Hid (ab = false) := Lib.hid (by rw [HE.out, o]; simp)
      clear o
      go_wp2
      go_ret
      exact ⟨by rw [HB.out]; rfl, hx05⟩
     subst m6
     have o : (decide (([] : By) = [])) = true := rfl
     replace HE := Lib.hid (HE.out.trans (by rw [o, Bool.true_and]))
     clear o
     by_cases f1 : fa = 0; rotate_left
     ·
      have f1b : (fa != 0) = true := by simpa using f1
      have o : (decide (fa = 0)) = false := decide_eq_false f1
      have HB : Hid (ab = false) := Lib.hid (by rw [HE.out, o]; simp)
      clear o
      go_wp2
      go_ret
      exact ⟨by rw [HB.out]; rfl, hx05⟩
     subst f1
     have o : (decide ((0 : Int) = 0)) = true := rfl
     replace HE := Lib.hid (HE.out.trans (by rw [o, Bool.true_and]))
     clear o
     go_wp2_with fail
     refine (H4 _).mono ?_
     rintro e wq ⟨rfl, hwq⟩
     subst hwq
     by_cases u1 : nn = 0; rotate_left
     ·
      have u1b : (nn != 0) = true := by simpa using u1
      have o : (decide (nn = 0)) = false := decide_eq_false u1
      have HB : Hid (ab = false) := Lib.hid (by rw [HE.out, o]; simp)
      clear o
      go_wp2
      go_ret
      exact ⟨by rw [HB.out]; rfl, hx05⟩
     subst u1
     have o : (decide ((0 : Int) = 0)) = true := rfl
     replace HE := Lib.hid (HE.out.trans (by rw [o, Bool.true_and]))
     clear o
     go_wp2_with fail
     refine (HU 0 W5).mono ?_
     rintro e wq ⟨rfl, hwq⟩
     subst hwq
     rw [show inI 0 0 4294967295 = true from rfl]
     by_cases u2 : us = []; rotate_left
     ·have HB : Hid (ab = false) := Lib.hid (by rw [HE.out, decide_eq_false u2]; rfl)
      have u3 : ((us.length : Int) == 0) = false := by simpa using u2
      clear u2
      go_wp2
      go_ret
      exact ⟨by rw [HB.out]; rfl, hx05⟩
     subst u2
     by_cases u4 : ue = 0; rotate_left
     ·have HB : Hid (ab = false) := Lib.hid (by rw [HE.out, decide_eq_false u4]; simp)
      have u5 : (ue == 0) = false := by simpa using u4
      clear u4
      go_wp2
      go_ret
      exact ⟨by rw [HB.out]; rfl, hx05⟩
     subst u4
     have HB : Hid (ab = true) := Lib.hid (by rw [HE.out]; rfl)
     go_wp2
     go_ret
     exact ⟨by rw [HB.out]; rfl, hx05⟩
    exact AllHead.nil
   exact AllHead.nil
  exact AllHead.nil
end Go.Proofs.YthlppbbejdeeoaaGreatDoor
