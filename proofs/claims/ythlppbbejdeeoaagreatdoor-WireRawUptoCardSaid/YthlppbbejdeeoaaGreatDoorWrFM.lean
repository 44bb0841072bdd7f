/- The walk of wire.reader.read at the kinds 3 to 6. Conditions: the hypotheses of each theorem. -/
import Derived.Test.YthlppbbejdeeoaaGreatDoorC3
import Derived.Test.YthlppbbejdeeoaaGreatDoorC9
namespace Go.Proofs.YthlppbbejdeeoaaGreatDoor
open Go.RowKit
set_option maxRecDepth 20000 in
set_option maxHeartbeats 8000000 in
theorem wread4_any (s d : Int) (q : Option By) (w0 w : World) (p : Nat) (h : RW w0 w p q (mlC (⟨4, s, d, tx00, tx00, [], [], [], 0, [], [], 0, 0, [], 0, [], 0, 0⟩ : Ml) zS zS zS zS zS).toList) :
 Calls Tryz.prog 19 #[pt p, .agg (hasC 4)] w (ReadW 4 s d q w0 w p) := by
 have HN := fun (w1 : World) (q : Option By) (cs : List Value) (n : Nat) (hn : n ≤ 4) (h1 : RW w0 w1 p q cs) => wrnum_any w0 w1 p n q cs h1 hn
 have HL := fun (w1 : World) (q : Option By) (cs : List Value) (n : Nat) (hn : n ≤ 4) (h1 : RW w0 w1 p q cs) => wrlist_any w0 w1 p n q cs h1 hn
 have HT := fun (w1 : World) (q : Option By) (cs : List Value) (h1 : RW w0 w1 p q cs) => wrtext_any w0 w1 p q cs h1
 have HC := fun (w1 : World) (n : Nat) (q : Option By) (cs : List Value) (h1 : RW w0 w1 p q cs) => wtake_any w0 w1 p n q cs h1
 obtain ⟨wa, hwa⟩ : ∃ wa, wa = w.alloc (.cells (hasC 4) 57) := ⟨_, rfl⟩
 have hxa : Ext w wa := by rw [hwa]; exact (Ext.refl w).alloc _
 have hrowH : wa.heap[w.heap.size]? = some (.cells (hasC 4) 57 (0, 0)) := by rw [hwa]; exact heap_alloc_new w _
 have hlt := h.lt
 have hlo := hxa.size
 have HK : ∀ j v, (hasC 4)[j]? = some v → ∀ W, Kept [p] wa W → W.cell? ⟨w.heap.size, j, none⟩ = some v := fun j v hv W hW => by
  rw [cell_of_row W _ j _ _ _ (hW.heap hrowH (by simp; omega)), hv]
 have K0 := HK 0 (.bool true) rfl
 have K1 := HK 1 (.bool false) rfl
 have K2 := HK 2 (.bool false) rfl
 have K3 := HK 3 (.bool false) rfl
 have K4 := HK 4 (.bool false) rfl
 have K5 := HK 5 (.bool false) rfl
 have hr := h.ext hxa
 have hk : Kept [p] wa wa := Kept.refl _ _
 have hkw : Kept [p] w wa := .of_ext hxa
 clear h hrowH HK
 have HW := hwa.symm
 clear hwa
 unfold pt at *
 go_enter Tryz.func19, Tryz.ntmps19
 go_wp2_with fail
 clear HW
 have hrd : RW w0 wa.drew p q _ := hr.ext (Ext.refl wa).drew
 have hkd : Kept [p] wa wa.drew := (Kept.refl _ _).drew
 clear hr hk
 refine wp_region_phase (S := fun w' => Ext w0 w') 26 (by kernel_rfl) (by kernel_rfl) ?_ (fun hHeld => ?_)
 ·exact hrd.2.1
 simp only [List.drop_succ_cons, List.drop_zero]
 refine name_head ?_
 intro wr0 hw0
 rw [hw0] at hHeld
 refine wt 0 _ ?_
 simp only [red, Act.put]
 refine wt 1 _ ?_
 simp only [red, Act.put]
 refine wt 2 _ ?_
 simp only [red, Act.put]
 refine wt 3 _ ?_
 simp only [red, Act.put]
 refine wt 4 _ ?_
 simp only [red, Act.put]
 refine wt 5 _ ?_
 simp only [red, Act.put]
 refine wt 7 _ ?_
 simp only [red, Act.put]
 refine wt 8 _ ?_
 simp only [red, Act.put]
 refine wt 9 _ ?_
 simp only [red, Act.put]
 refine wt 11 _ ?_
 simp only [red, Act.put]
 refine wt 12 _ ?_
 simp only [red, Act.put]
 refine wt 13 _ ?_
 simp only [red, Act.put]
 refine rd [6] ?_
 refine ac (fun K hK => ?_) ?_
 ·refine step_callG (by rfl) (by kernel_rfl) (HN _ _ _ 1 (by omega) (by rw [← hw0]; exact hrd)) ?_
  rintro e wr6 ⟨rfl, hr6, hk6⟩
  refine ⟨_, rfl, ?_⟩
  refine hK.out _ _ ?_ (fun hHeld => ?_)
  ·exact hr6.2.1
  clear hK K
  try simp only [red, Act.put]
  refine rd [10] ?_
  refine ac (fun K hK => ?_) ?_
  ·have hkk6 := hkd.trans (hw0 ▸ hk6)
   refine step_callG (by rfl) (by kernel_rfl) (HN _ _ _ 4 (by omega) hr6) ?_
   rintro e wr10 ⟨rfl, hr10, hk10⟩
   refine ⟨_, rfl, ?_⟩
   refine hK.out _ _ ?_ (fun hHeld => ?_)
   ·exact hr10.2.1
   clear hK K
   try simp only [red, Act.put]
   refine rd [14] ?_
   refine ac (fun K hK => ?_) ?_
   ·have hkk10 := hkk6.trans hk10
    refine step_callG (by rfl) (by kernel_rfl) (HN _ _ _ 4 (by omega) hr10) ?_
    rintro e wr14 ⟨rfl, hr14, hk14⟩
    refine ⟨_, rfl, ?_⟩
    refine hK.out _ _ ?_ (fun hHeld => ?_)
    ·exact hr14.2.1
    clear hK K
    try simp only [red, Act.put]
    refine wt 15 _ ?_
    simp only [red, Act.put]
    refine wt 16 _ ?_
    simp only [red, Act.put]
    refine wt 17 _ ?_
    simp only [red, Act.put]
    refine rd [18] ?_
    refine ac (fun K hK => ?_) ?_
    ·have hkk14 := hkk10.trans hk14
     have C : wr14.cell? ⟨p, 5, none⟩ = some _ := hr14.cell 3 _ rfl
     have F := hr14.frz
     go_simp
     refine name_world ?_
     rintro wr18 hw18
     obtain ⟨hr18, hk18⟩ := hr14.set (k := 3) (v := .int .i64 (valB (cutV 1 q) : Nat)) (mlC (⟨4, s, d, ⟨nV 1 q, 0, 0⟩, tx00, [], [], [], 0, [], [], 0, 0, [], 0, [], 0, 0⟩ : Ml) zS zS zS zS zS).toList rfl rfl hw18.symm
     clear C F hw18
     refine hK.out _ _ ?_ (fun hHeld => ?_)
     ·exact hr18.2.1
     clear hK K
     try simp only [red, Act.put]
     refine wt 19 _ ?_
     simp only [red, Act.put]
     refine wt 20 _ ?_
     simp only [red, Act.put]
     refine wt 21 _ ?_
     simp only [red, Act.put]
     refine rd [22] ?_
     refine ac (fun K hK => ?_) ?_
     ·have hkk18 := hkk14.trans hk18
      have C : wr18.cell? ⟨p, 6, none⟩ = some _ := hr18.cell 4 _ rfl
      have F := hr18.frz
      go_simp
      refine name_world ?_
      rintro wr22 hw22
      obtain ⟨hr22, hk22⟩ := hr18.set (k := 4) (v := .int .i64 (valB (cutV 4 (cutQ 1 q)) : Nat)) (mlC (⟨4, s, d, ⟨nV 1 q, nV 4 (cutQ 1 q), 0⟩, tx00, [], [], [], 0, [], [], 0, 0, [], 0, [], 0, 0⟩ : Ml) zS zS zS zS zS).toList rfl rfl hw22.symm
      clear C F hw22
      refine hK.out _ _ ?_ (fun hHeld => ?_)
      ·exact hr22.2.1
      clear hK K
      try simp only [red, Act.put]
      refine wt 23 _ ?_
      simp only [red, Act.put]
      refine wt 24 _ ?_
      simp only [red, Act.put]
      refine wt 25 _ ?_
      simp only [red, Act.put]
      refine wpHead_done (by kernel_rfl) ?_
      have hkk22 := hkk18.trans hk22
      have C : wr22.cell? ⟨p, 7, none⟩ = some _ := hr22.cell 5 _ rfl
      have F := hr22.frz
      obtain ⟨W2, hW2⟩ : ∃ x, x = wr22.setCell ⟨p, 7, none⟩ (.int .i64 (valB (cutV 4 (cutQ 4 (cutQ 1 q))) : Nat)) := ⟨_, rfl⟩
      obtain ⟨hr, hks⟩ := hr22.set (k := 5) (mlC (⟨4, s, d, ⟨nV 1 q, nV 4 (cutQ 1 q), nV 4 (cutQ 4 (cutQ 1 q))⟩, tx00, [], [], [], 0, [], [], 0, 0, [], 0, [], 0, 0⟩ : Ml) zS zS zS zS zS).toList rfl rfl hW2
      have hk := hkk22.trans hks
      have HW := hW2.symm
      clear hrd hkd hr6 hk6 hr10 hk10 hr14 hk14 hr18 hk18 hr22 hk22 hkk6 hkk10 hkk14 hkk18 hkk22 hks hW2 hHeld hw0
      obtain ⟨qe, hqe, hre⟩ : ∃ qe, qe = cutQ 4 (cutQ 4 (cutQ 1 q)) ∧ RW w0 _ p qe (mlC (⟨4, s, d, ⟨nV 1 q, nV 4 (cutQ 1 q), nV 4 (cutQ 4 (cutQ 1 q))⟩, tx00, [], [], [], 0, [], [], 0, 0, [], 0, [], 0, 0⟩ : Ml) zS zS zS zS zS).toList := ⟨_, rfl, hr⟩
      have HR : Hid (rdR 4 s d q = rdO (⟨4, s, d, ⟨nV 1 q, nV 4 (cutQ 1 q), nV 4 (cutQ 4 (cutQ 1 q))⟩, tx00, [], [], [], 0, [], [], 0, 0, [], 0, [], 0, 0⟩ : Ml) qe) := Lib.hid (by rw [hqe]; rfl)
      clear hr hqe
      cases qe with
      | none =>
       have HRn : Hid (rdR 4 s d q = .inl 3) := Lib.hid HR.out
       have C1 := hre.off
       rw [show (none : Option By).isNone = true from rfl] at C1
       have HRE := Lib.hid hre
       clear HR hre
       go_wp2
       go_ret
       refine ⟨hkw.trans hk, HRE.out.2.1, ?_⟩
       rw [HRn.out]
       rfl
      | some r =>
       have HRs : Hid (rdR 4 s d q = .inr ((⟨4, s, d, ⟨nV 1 q, nV 4 (cutQ 1 q), nV 4 (cutQ 4 (cutQ 1 q))⟩, tx00, [], [], [], 0, [], [], 0, 0, [], 0, [], 0, 0⟩ : Ml), r)) := Lib.hid HR.out
       have C1 := hre.off
       rw [show (some r : Option By).isNone = false from rfl] at C1
       have HRE := Lib.hid hre
       clear HR hre
       go_wp2
       go_ret
       refine ⟨hkw.trans hk, HRE.out.2.1, ?_⟩
       rw [HRs.out]
       exact ⟨rfl, _, _, _, _, _, ⟨OwnI.nil _ _, OwnDs.nil0 _ _, OwnI.nil _ _, OwnI.nil _ _, Own.nil _ _⟩, HRE.out⟩
     exact AllHead.nil
    exact AllHead.nil
   exact AllHead.nil
  exact AllHead.nil
 exact AllHead.nil
set_option maxRecDepth 20000 in
set_option maxHeartbeats 8000000 in
theorem wread5_any (s d : Int) (q : Option By) (w0 w : World) (p : Nat) (h : RW w0 w p q (mlC (⟨5, s, d, tx00, tx00, [], [], [], 0, [], [], 0, 0, [], 0, [], 0, 0⟩ : Ml) zS zS zS zS zS).toList) :
 Calls Tryz.prog 19 #[pt p, .agg (hasC 5)] w (ReadW 5 s d q w0 w p) := by
 have HN := fun (w1 : World) (q : Option By) (cs : List Value) (n : Nat) (hn : n ≤ 4) (h1 : RW w0 w1 p q cs) => wrnum_any w0 w1 p n q cs h1 hn
 have HL := fun (w1 : World) (q : Option By) (cs : List Value) (n : Nat) (hn : n ≤ 4) (h1 : RW w0 w1 p q cs) => wrlist_any w0 w1 p n q cs h1 hn
 have HT := fun (w1 : World) (q : Option By) (cs : List Value) (h1 : RW w0 w1 p q cs) => wrtext_any w0 w1 p q cs h1
 have HC := fun (w1 : World) (n : Nat) (q : Option By) (cs : List Value) (h1 : RW w0 w1 p q cs) => wtake_any w0 w1 p n q cs h1
 obtain ⟨wa, hwa⟩ : ∃ wa, wa = w.alloc (.cells (hasC 5) 57) := ⟨_, rfl⟩
 have hxa : Ext w wa := by rw [hwa]; exact (Ext.refl w).alloc _
 have hrowH : wa.heap[w.heap.size]? = some (.cells (hasC 5) 57 (0, 0)) := by rw [hwa]; exact heap_alloc_new w _
 have hlt := h.lt
 have hlo := hxa.size
 have HK : ∀ j v, (hasC 5)[j]? = some v → ∀ W, Kept [p] wa W → W.cell? ⟨w.heap.size, j, none⟩ = some v := fun j v hv W hW => by
  rw [cell_of_row W _ j _ _ _ (hW.heap hrowH (by simp; omega)), hv]
 have K0 := HK 0 (.bool true) rfl
 have K1 := HK 1 (.bool false) rfl
 have K2 := HK 2 (.bool false) rfl
 have K3 := HK 3 (.bool false) rfl
 have K4 := HK 4 (.bool false) rfl
 have K5 := HK 5 (.bool false) rfl
 have hr := h.ext hxa
 have hk : Kept [p] wa wa := Kept.refl _ _
 have hkw : Kept [p] w wa := .of_ext hxa
 clear h hrowH HK
 have HW := hwa.symm
 clear hwa
 unfold pt at *
 go_enter Tryz.func19, Tryz.ntmps19
 go_wp2_with fail
 clear HW
 have hrd : RW w0 wa.drew p q _ := hr.ext (Ext.refl wa).drew
 have hkd : Kept [p] wa wa.drew := (Kept.refl _ _).drew
 clear hr hk
 refine wp_region_phase (S := fun w' => Ext w0 w') 26 (by kernel_rfl) (by kernel_rfl) ?_ (fun hHeld => ?_)
 ·exact hrd.2.1
 simp only [List.drop_succ_cons, List.drop_zero]
 refine name_head ?_
 intro wr0 hw0
 rw [hw0] at hHeld
 refine wt 0 _ ?_
 simp only [red, Act.put]
 refine wt 1 _ ?_
 simp only [red, Act.put]
 refine wt 2 _ ?_
 simp only [red, Act.put]
 refine wt 3 _ ?_
 simp only [red, Act.put]
 refine wt 4 _ ?_
 simp only [red, Act.put]
 refine wt 5 _ ?_
 simp only [red, Act.put]
 refine wt 7 _ ?_
 simp only [red, Act.put]
 refine wt 8 _ ?_
 simp only [red, Act.put]
 refine wt 9 _ ?_
 simp only [red, Act.put]
 refine wt 11 _ ?_
 simp only [red, Act.put]
 refine wt 12 _ ?_
 simp only [red, Act.put]
 refine wt 13 _ ?_
 simp only [red, Act.put]
 refine rd [6] ?_
 refine ac (fun K hK => ?_) ?_
 ·refine step_callG (by rfl) (by kernel_rfl) (HN _ _ _ 1 (by omega) (by rw [← hw0]; exact hrd)) ?_
  rintro e wr6 ⟨rfl, hr6, hk6⟩
  refine ⟨_, rfl, ?_⟩
  refine hK.out _ _ ?_ (fun hHeld => ?_)
  ·exact hr6.2.1
  clear hK K
  try simp only [red, Act.put]
  refine rd [10] ?_
  refine ac (fun K hK => ?_) ?_
  ·have hkk6 := hkd.trans (hw0 ▸ hk6)
   refine step_callG (by rfl) (by kernel_rfl) (HN _ _ _ 4 (by omega) hr6) ?_
   rintro e wr10 ⟨rfl, hr10, hk10⟩
   refine ⟨_, rfl, ?_⟩
   refine hK.out _ _ ?_ (fun hHeld => ?_)
   ·exact hr10.2.1
   clear hK K
   try simp only [red, Act.put]
   refine rd [14] ?_
   refine ac (fun K hK => ?_) ?_
   ·have hkk10 := hkk6.trans hk10
    refine step_callG (by rfl) (by kernel_rfl) (HN _ _ _ 4 (by omega) hr10) ?_
    rintro e wr14 ⟨rfl, hr14, hk14⟩
    refine ⟨_, rfl, ?_⟩
    refine hK.out _ _ ?_ (fun hHeld => ?_)
    ·exact hr14.2.1
    clear hK K
    try simp only [red, Act.put]
    refine wt 15 _ ?_
    simp only [red, Act.put]
    refine wt 16 _ ?_
    simp only [red, Act.put]
    refine wt 17 _ ?_
    simp only [red, Act.put]
    refine rd [18] ?_
    refine ac (fun K hK => ?_) ?_
    ·have hkk14 := hkk10.trans hk14
     have C : wr14.cell? ⟨p, 5, none⟩ = some _ := hr14.cell 3 _ rfl
     have F := hr14.frz
     go_simp
     refine name_world ?_
     rintro wr18 hw18
     obtain ⟨hr18, hk18⟩ := hr14.set (k := 3) (v := .int .i64 (valB (cutV 1 q) : Nat)) (mlC (⟨5, s, d, ⟨nV 1 q, 0, 0⟩, tx00, [], [], [], 0, [], [], 0, 0, [], 0, [], 0, 0⟩ : Ml) zS zS zS zS zS).toList rfl rfl hw18.symm
     clear C F hw18
     refine hK.out _ _ ?_ (fun hHeld => ?_)
     ·exact hr18.2.1
     clear hK K
     try simp only [red, Act.put]
     refine wt 19 _ ?_
     simp only [red, Act.put]
     refine wt 20 _ ?_
     simp only [red, Act.put]
     refine wt 21 _ ?_
     simp only [red, Act.put]
     refine rd [22] ?_
     refine ac (fun K hK => ?_) ?_
     ·have hkk18 := hkk14.trans hk18
      have C : wr18.cell? ⟨p, 6, none⟩ = some _ := hr18.cell 4 _ rfl
      have F := hr18.frz
      go_simp
      refine name_world ?_
      rintro wr22 hw22
      obtain ⟨hr22, hk22⟩ := hr18.set (k := 4) (v := .int .i64 (valB (cutV 4 (cutQ 1 q)) : Nat)) (mlC (⟨5, s, d, ⟨nV 1 q, nV 4 (cutQ 1 q), 0⟩, tx00, [], [], [], 0, [], [], 0, 0, [], 0, [], 0, 0⟩ : Ml) zS zS zS zS zS).toList rfl rfl hw22.symm
      clear C F hw22
      refine hK.out _ _ ?_ (fun hHeld => ?_)
      ·exact hr22.2.1
      clear hK K
      try simp only [red, Act.put]
      refine wt 23 _ ?_
      simp only [red, Act.put]
      refine wt 24 _ ?_
      simp only [red, Act.put]
      refine wt 25 _ ?_
      simp only [red, Act.put]
      refine wpHead_done (by kernel_rfl) ?_
      have hkk22 := hkk18.trans hk22
      have C : wr22.cell? ⟨p, 7, none⟩ = some _ := hr22.cell 5 _ rfl
      have F := hr22.frz
      obtain ⟨W2, hW2⟩ : ∃ x, x = wr22.setCell ⟨p, 7, none⟩ (.int .i64 (valB (cutV 4 (cutQ 4 (cutQ 1 q))) : Nat)) := ⟨_, rfl⟩
      obtain ⟨hr, hks⟩ := hr22.set (k := 5) (mlC (⟨5, s, d, ⟨nV 1 q, nV 4 (cutQ 1 q), nV 4 (cutQ 4 (cutQ 1 q))⟩, tx00, [], [], [], 0, [], [], 0, 0, [], 0, [], 0, 0⟩ : Ml) zS zS zS zS zS).toList rfl rfl hW2
      have hk := hkk22.trans hks
      have HW := hW2.symm
      clear hrd hkd hr6 hk6 hr10 hk10 hr14 hk14 hr18 hk18 hr22 hk22 hkk6 hkk10 hkk14 hkk18 hkk22 hks hW2 hHeld hw0
      obtain ⟨qe, hqe, hre⟩ : ∃ qe, qe = cutQ 4 (cutQ 4 (cutQ 1 q)) ∧ RW w0 _ p qe (mlC (⟨5, s, d, ⟨nV 1 q, nV 4 (cutQ 1 q), nV 4 (cutQ 4 (cutQ 1 q))⟩, tx00, [], [], [], 0, [], [], 0, 0, [], 0, [], 0, 0⟩ : Ml) zS zS zS zS zS).toList := ⟨_, rfl, hr⟩
      have HR : Hid (rdR 5 s d q = rdO (⟨5, s, d, ⟨nV 1 q, nV 4 (cutQ 1 q), nV 4 (cutQ 4 (cutQ 1 q))⟩, tx00, [], [], [], 0, [], [], 0, 0, [], 0, [], 0, 0⟩ : Ml) qe) := Lib.hid (by rw [hqe]; rfl)
      clear hr hqe
      cases qe with
      | none =>
       have HRn : Hid (rdR 5 s d q = .inl 3) := Lib.hid HR.out
       have C1 := hre.off
       rw [show (none : Option By).isNone = true from rfl] at C1
       have HRE := Lib.hid hre
       clear HR hre
       go_wp2
       go_ret
       refine ⟨hkw.trans hk, HRE.out.2.1, ?_⟩
       rw [HRn.out]
       rfl
      | some r =>
       have HRs : Hid (rdR 5 s d q = .inr ((⟨5, s, d, ⟨nV 1 q, nV 4 (cutQ 1 q), nV 4 (cutQ 4 (cutQ 1 q))⟩, tx00, [], [], [], 0, [], [], 0, 0, [], 0, [], 0, 0⟩ : Ml), r)) := Lib.hid HR.out
       have C1 := hre.off
       rw [show (some r : Option By).isNone = false from rfl] at C1
       have HRE := Lib.hid hre
       clear HR hre
       go_wp2
       go_ret
       refine ⟨hkw.trans hk, HRE.out.2.1, ?_⟩
       rw [HRs.out]
       exact ⟨rfl, _, _, _, _, _, ⟨OwnI.nil _ _, OwnDs.nil0 _ _, OwnI.nil _ _, OwnI.nil _ _, Own.nil _ _⟩, HRE.out⟩
     exact AllHead.nil
    exact AllHead.nil
   exact AllHead.nil
  exact AllHead.nil
 exact AllHead.nil
set_option maxRecDepth 20000 in
set_option maxHeartbeats 8000000 in
theorem wread3_any (s d : Int) (q : Option By) (w0 w : World) (p : Nat) (h : RW w0 w p q (mlC (⟨3, s, d, tx00, tx00, [], [], [], 0, [], [], 0, 0, [], 0, [], 0, 0⟩ : Ml) zS zS zS zS zS).toList) :
 Calls Tryz.prog 19 #[pt p, .agg (hasC 3)] w (ReadW 3 s d q w0 w p) := by
 have HN := fun (w1 : World) (q : Option By) (cs : List Value) (n : Nat) (hn : n ≤ 4) (h1 : RW w0 w1 p q cs) => wrnum_any w0 w1 p n q cs h1 hn
 have HL := fun (w1 : World) (q : Option By) (cs : List Value) (n : Nat) (hn : n ≤ 4) (h1 : RW w0 w1 p q cs) => wrlist_any w0 w1 p n q cs h1 hn
 have HT := fun (w1 : World) (q : Option By) (cs : List Value) (h1 : RW w0 w1 p q cs) => wrtext_any w0 w1 p q cs h1
 have HC := fun (w1 : World) (n : Nat) (q : Option By) (cs : List Value) (h1 : RW w0 w1 p q cs) => wtake_any w0 w1 p n q cs h1
 obtain ⟨wa, hwa⟩ : ∃ wa, wa = w.alloc (.cells (hasC 3) 57) := ⟨_, rfl⟩
 have hxa : Ext w wa := by rw [hwa]; exact (Ext.refl w).alloc _
 have hrowH : wa.heap[w.heap.size]? = some (.cells (hasC 3) 57 (0, 0)) := by rw [hwa]; exact heap_alloc_new w _
 have hlt := h.lt
 have hlo := hxa.size
 have HK : ∀ j v, (hasC 3)[j]? = some v → ∀ W, Kept [p] wa W → W.cell? ⟨w.heap.size, j, none⟩ = some v := fun j v hv W hW => by
  rw [cell_of_row W _ j _ _ _ (hW.heap hrowH (by simp; omega)), hv]
 have K0 := HK 0 (.bool true) rfl
 have K1 := HK 1 (.bool false) rfl
 have K2 := HK 2 (.bool false) rfl
 have K3 := HK 3 (.bool true) rfl
 have K4 := HK 4 (.bool false) rfl
 have K5 := HK 5 (.bool false) rfl
 have hr := h.ext hxa
 have hk : Kept [p] wa wa := Kept.refl _ _
 have hkw : Kept [p] w wa := .of_ext hxa
 clear h hrowH HK
 have HW := hwa.symm
 clear hwa
 unfold pt at *
 go_enter Tryz.func19, Tryz.ntmps19
 go_wp2_with fail
 clear HW
 have hrd : RW w0 wa.drew p q _ := hr.ext (Ext.refl wa).drew
 have hkd : Kept [p] wa wa.drew := (Kept.refl _ _).drew
 clear hr hk
 refine wp_region_phase (S := fun w' => Ext w0 w') 26 (by kernel_rfl) (by kernel_rfl) ?_ (fun hHeld => ?_)
 ·exact hrd.2.1
 simp only [List.drop_succ_cons, List.drop_zero]
 refine name_head ?_
 intro wr0 hw0
 rw [hw0] at hHeld
 refine wt 0 _ ?_
 simp only [red, Act.put]
 refine wt 1 _ ?_
 simp only [red, Act.put]
 refine wt 2 _ ?_
 simp only [red, Act.put]
 refine wt 3 _ ?_
 simp only [red, Act.put]
 refine wt 4 _ ?_
 simp only [red, Act.put]
 refine wt 5 _ ?_
 simp only [red, Act.put]
 refine wt 7 _ ?_
 simp only [red, Act.put]
 refine wt 8 _ ?_
 simp only [red, Act.put]
 refine wt 9 _ ?_
 simp only [red, Act.put]
 refine wt 11 _ ?_
 simp only [red, Act.put]
 refine wt 12 _ ?_
 simp only [red, Act.put]
 refine wt 13 _ ?_
 simp only [red, Act.put]
 refine rd [6] ?_
 refine ac (fun K hK => ?_) ?_
 ·refine step_callG (by rfl) (by kernel_rfl) (HN _ _ _ 1 (by omega) (by rw [← hw0]; exact hrd)) ?_
  rintro e wr6 ⟨rfl, hr6, hk6⟩
  refine ⟨_, rfl, ?_⟩
  refine hK.out _ _ ?_ (fun hHeld => ?_)
  ·exact hr6.2.1
  clear hK K
  try simp only [red, Act.put]
  refine rd [10] ?_
  refine ac (fun K hK => ?_) ?_
  ·have hkk6 := hkd.trans (hw0 ▸ hk6)
   refine step_callG (by rfl) (by kernel_rfl) (HN _ _ _ 4 (by omega) hr6) ?_
   rintro e wr10 ⟨rfl, hr10, hk10⟩
   refine ⟨_, rfl, ?_⟩
   refine hK.out _ _ ?_ (fun hHeld => ?_)
   ·exact hr10.2.1
   clear hK K
   try simp only [red, Act.put]
   refine rd [14] ?_
   refine ac (fun K hK => ?_) ?_
   ·have hkk10 := hkk6.trans hk10
    refine step_callG (by rfl) (by kernel_rfl) (HN _ _ _ 4 (by omega) hr10) ?_
    rintro e wr14 ⟨rfl, hr14, hk14⟩
    refine ⟨_, rfl, ?_⟩
    refine hK.out _ _ ?_ (fun hHeld => ?_)
    ·exact hr14.2.1
    clear hK K
    try simp only [red, Act.put]
    refine wt 15 _ ?_
    simp only [red, Act.put]
    refine wt 16 _ ?_
    simp only [red, Act.put]
    refine wt 17 _ ?_
    simp only [red, Act.put]
    refine rd [18] ?_
    refine ac (fun K hK => ?_) ?_
    ·have hkk14 := hkk10.trans hk14
     have C : wr14.cell? ⟨p, 5, none⟩ = some _ := hr14.cell 3 _ rfl
     have F := hr14.frz
     go_simp
     refine name_world ?_
     rintro wr18 hw18
     obtain ⟨hr18, hk18⟩ := hr14.set (k := 3) (v := .int .i64 (valB (cutV 1 q) : Nat)) (mlC (⟨3, s, d, ⟨nV 1 q, 0, 0⟩, tx00, [], [], [], 0, [], [], 0, 0, [], 0, [], 0, 0⟩ : Ml) zS zS zS zS zS).toList rfl rfl hw18.symm
     clear C F hw18
     refine hK.out _ _ ?_ (fun hHeld => ?_)
     ·exact hr18.2.1
     clear hK K
     try simp only [red, Act.put]
     refine wt 19 _ ?_
     simp only [red, Act.put]
     refine wt 20 _ ?_
     simp only [red, Act.put]
     refine wt 21 _ ?_
     simp only [red, Act.put]
     refine rd [22] ?_
     refine ac (fun K hK => ?_) ?_
     ·have hkk18 := hkk14.trans hk18
      have C : wr18.cell? ⟨p, 6, none⟩ = some _ := hr18.cell 4 _ rfl
      have F := hr18.frz
      go_simp
      refine name_world ?_
      rintro wr22 hw22
      obtain ⟨hr22, hk22⟩ := hr18.set (k := 4) (v := .int .i64 (valB (cutV 4 (cutQ 1 q)) : Nat)) (mlC (⟨3, s, d, ⟨nV 1 q, nV 4 (cutQ 1 q), 0⟩, tx00, [], [], [], 0, [], [], 0, 0, [], 0, [], 0, 0⟩ : Ml) zS zS zS zS zS).toList rfl rfl hw22.symm
      clear C F hw22
      refine hK.out _ _ ?_ (fun hHeld => ?_)
      ·exact hr22.2.1
      clear hK K
      try simp only [red, Act.put]
      refine wt 23 _ ?_
      simp only [red, Act.put]
      refine wt 24 _ ?_
      simp only [red, Act.put]
      refine wt 25 _ ?_
      simp only [red, Act.put]
      refine wpHead_done (by kernel_rfl) ?_
      have hkk22 := hkk18.trans hk22
      have C : wr22.cell? ⟨p, 7, none⟩ = some _ := hr22.cell 5 _ rfl
      have F := hr22.frz
      obtain ⟨W2, hW2⟩ : ∃ x, x = wr22.setCell ⟨p, 7, none⟩ (.int .i64 (valB (cutV 4 (cutQ 4 (cutQ 1 q))) : Nat)) := ⟨_, rfl⟩
      obtain ⟨hr, hks⟩ := hr22.set (k := 5) (mlC (⟨3, s, d, ⟨nV 1 q, nV 4 (cutQ 1 q), nV 4 (cutQ 4 (cutQ 1 q))⟩, tx00, [], [], [], 0, [], [], 0, 0, [], 0, [], 0, 0⟩ : Ml) zS zS zS zS zS).toList rfl rfl hW2
      have hk := hkk22.trans hks
      have HW := hW2.symm
      clear hrd hkd hr6 hk6 hr10 hk10 hr14 hk14 hr18 hk18 hr22 hk22 hkk6 hkk10 hkk14 hkk18 hkk22 hks hW2 hHeld hw0
      go_wp2_with fail
      clear HW C F
      refine (HN _ _ _ 1 (by omega) hr).mono ?_
      rintro e W1 ⟨rfl, hr1, hk1⟩
      obtain ⟨vrow, hrow⟩ := hr.row
      have hk2 := hk.trans hk1
      have C : W1.cell? ⟨p, 20, none⟩ = some _ := hr1.cell 18 _ rfl
      have F := hr1.frz
      clear hr hk hk1 hrow
      obtain ⟨W2, hW2⟩ : ∃ x, x = W1.setCell ⟨p, 20, none⟩ (.int .i64 (valB (cutV 1 (cutQ 4 (cutQ 4 (cutQ 1 q)))) : Nat)) := ⟨_, rfl⟩
      obtain ⟨hr, hks⟩ := hr1.set (k := 18) (mlC (⟨3, s, d, ⟨nV 1 q, nV 4 (cutQ 1 q), nV 4 (cutQ 4 (cutQ 1 q))⟩, tx00, [], [], [], 0, [], [], 0, 0, [], nV 1 (cutQ 4 (cutQ 4 (cutQ 1 q))), [], 0, 0⟩ : Ml) zS zS zS zS zS).toList rfl rfl hW2
      have hk := hk2.trans hks
      obtain ⟨vrow, hrow⟩ := hr1.row
      have HW := hW2.symm
      clear hr1 hW2 hk2 hks hrow
      obtain ⟨qe, hqe, hre⟩ : ∃ qe, qe = cutQ 1 (cutQ 4 (cutQ 4 (cutQ 1 q))) ∧ RW w0 _ p qe (mlC (⟨3, s, d, ⟨nV 1 q, nV 4 (cutQ 1 q), nV 4 (cutQ 4 (cutQ 1 q))⟩, tx00, [], [], [], 0, [], [], 0, 0, [], nV 1 (cutQ 4 (cutQ 4 (cutQ 1 q))), [], 0, 0⟩ : Ml) zS zS zS zS zS).toList := ⟨_, rfl, hr⟩
      have HR : Hid (rdR 3 s d q = rdO (⟨3, s, d, ⟨nV 1 q, nV 4 (cutQ 1 q), nV 4 (cutQ 4 (cutQ 1 q))⟩, tx00, [], [], [], 0, [], [], 0, 0, [], nV 1 (cutQ 4 (cutQ 4 (cutQ 1 q))), [], 0, 0⟩ : Ml) qe) := Lib.hid (by rw [hqe]; rfl)
      clear hr hqe
      cases qe with
      | none =>
       have HRn : Hid (rdR 3 s d q = .inl 3) := Lib.hid HR.out
       have C1 := hre.off
       rw [show (none : Option By).isNone = true from rfl] at C1
       have HRE := Lib.hid hre
       clear HR hre
       go_wp2
       go_ret
       refine ⟨hkw.trans hk, HRE.out.2.1, ?_⟩
       rw [HRn.out]
       rfl
      | some r =>
       have HRs : Hid (rdR 3 s d q = .inr ((⟨3, s, d, ⟨nV 1 q, nV 4 (cutQ 1 q), nV 4 (cutQ 4 (cutQ 1 q))⟩, tx00, [], [], [], 0, [], [], 0, 0, [], nV 1 (cutQ 4 (cutQ 4 (cutQ 1 q))), [], 0, 0⟩ : Ml), r)) := Lib.hid HR.out
       have C1 := hre.off
       rw [show (some r : Option By).isNone = false from rfl] at C1
       have HRE := Lib.hid hre
       clear HR hre
       go_wp2
       go_ret
       refine ⟨hkw.trans hk, HRE.out.2.1, ?_⟩
       rw [HRs.out]
       exact ⟨rfl, _, _, _, _, _, ⟨OwnI.nil _ _, OwnDs.nil0 _ _, OwnI.nil _ _, OwnI.nil _ _, Own.nil _ _⟩, HRE.out⟩
     exact AllHead.nil
    exact AllHead.nil
   exact AllHead.nil
  exact AllHead.nil
 exact AllHead.nil
set_option maxRecDepth 20000 in
set_option maxHeartbeats 8000000 in
theorem wread6_any (s d : Int) (q : Option By) (w0 w : World) (p : Nat) (h : RW w0 w p q (mlC (⟨6, s, d, tx00, tx00, [], [], [], 0, [], [], 0, 0, [], 0, [], 0, 0⟩ : Ml) zS zS zS zS zS).toList) :
 Calls Tryz.prog 19 #[pt p, .agg (hasC 6)] w (ReadW 6 s d q w0 w p) := by
 have HN := fun (w1 : World) (q : Option By) (cs : List Value) (n : Nat) (hn : n ≤ 4) (h1 : RW w0 w1 p q cs) => wrnum_any w0 w1 p n q cs h1 hn
 have HL := fun (w1 : World) (q : Option By) (cs : List Value) (n : Nat) (hn : n ≤ 4) (h1 : RW w0 w1 p q cs) => wrlist_any w0 w1 p n q cs h1 hn
 have HT := fun (w1 : World) (q : Option By) (cs : List Value) (h1 : RW w0 w1 p q cs) => wrtext_any w0 w1 p q cs h1
 have HC := fun (w1 : World) (n : Nat) (q : Option By) (cs : List Value) (h1 : RW w0 w1 p q cs) => wtake_any w0 w1 p n q cs h1
 obtain ⟨wa, hwa⟩ : ∃ wa, wa = w.alloc (.cells (hasC 6) 57) := ⟨_, rfl⟩
 have hxa : Ext w wa := by rw [hwa]; exact (Ext.refl w).alloc _
 have hrowH : wa.heap[w.heap.size]? = some (.cells (hasC 6) 57 (0, 0)) := by rw [hwa]; exact heap_alloc_new w _
 have hlt := h.lt
 have hlo := hxa.size
 have HK : ∀ j v, (hasC 6)[j]? = some v → ∀ W, Kept [p] wa W → W.cell? ⟨w.heap.size, j, none⟩ = some v := fun j v hv W hW => by
  rw [cell_of_row W _ j _ _ _ (hW.heap hrowH (by simp; omega)), hv]
 have K0 := HK 0 (.bool false) rfl
 have K1 := HK 1 (.bool false) rfl
 have K2 := HK 2 (.bool false) rfl
 have K3 := HK 3 (.bool false) rfl
 have K4 := HK 4 (.bool true) rfl
 have K5 := HK 5 (.bool true) rfl
 have hr := h.ext hxa
 have hk : Kept [p] wa wa := Kept.refl _ _
 have hkw : Kept [p] w wa := .of_ext hxa
 clear h hrowH HK
 have HW := hwa.symm
 clear hwa
 unfold pt at *
 go_enter Tryz.func19, Tryz.ntmps19
 go_wp2_with fail
 clear HW
 refine (HN _ _ _ 4 (by omega) hr).mono ?_
 rintro e W1 ⟨rfl, hr1, hk1⟩
 obtain ⟨vrow, hrow⟩ := hr.row
 have hk2 := hk.trans hk1
 have C : W1.cell? ⟨p, 23, none⟩ = some _ := hr1.cell 21 _ rfl
 have F := hr1.frz
 clear hr hk hk1 hrow
 obtain ⟨W2, hW2⟩ : ∃ x, x = W1.setCell ⟨p, 23, none⟩ (.int .i64 (valB (cutV 4 (q)) : Nat)) := ⟨_, rfl⟩
 obtain ⟨hr, hks⟩ := hr1.set (k := 21) (mlC (⟨6, s, d, tx00, tx00, [], [], [], 0, [], [], 0, 0, [], 0, [], 0, nV 4 (q)⟩ : Ml) zS zS zS zS zS).toList rfl rfl hW2
 have hk := hk2.trans hks
 obtain ⟨vrow, hrow⟩ := hr1.row
 have HW := hW2.symm
 clear hr1 hW2 hk2 hks hrow
 go_wp2_with fail
 clear HW C F
 refine (HT _ _ _ hr).mono ?_
 rintro e W1 ⟨rfl, hr1, hk1⟩
 obtain ⟨vrow, hrow⟩ := hr.row
 have hk2 := hk.trans hk1
 have C : W1.cell? ⟨p, 21, none⟩ = some _ := hr1.cell 19 _ rfl
 have F := hr1.frz
 clear hr hk hk1 hrow
 obtain ⟨W2, hW2⟩ : ∃ x, x = W1.setCell ⟨p, 21, none⟩ (.string (st (shV (cutQ 4 (q))))) := ⟨_, rfl⟩
 obtain ⟨hr, hks⟩ := hr1.set (k := 19) (mlC (⟨6, s, d, tx00, tx00, [], [], [], 0, [], [], 0, 0, [], 0, shV (cutQ 4 (q)), 0, nV 4 (q)⟩ : Ml) zS zS zS zS zS).toList rfl rfl hW2
 have hk := hk2.trans hks
 obtain ⟨vrow, hrow⟩ := hr1.row
 have HW := hW2.symm
 clear hr1 hW2 hk2 hks hrow
 go_wp2_with fail
 clear HW C F
 refine (HN _ _ _ 4 (by omega) hr).mono ?_
 rintro e W1 ⟨rfl, hr1, hk1⟩
 obtain ⟨vrow, hrow⟩ := hr.row
 have hk2 := hk.trans hk1
 have C : W1.cell? ⟨p, 22, none⟩ = some _ := hr1.cell 20 _ rfl
 have F := hr1.frz
 clear hr hk hk1 hrow
 obtain ⟨W2, hW2⟩ : ∃ x, x = W1.setCell ⟨p, 22, none⟩ (.int .i64 (valB (cutV 4 (shQ (cutQ 4 (q)))) : Nat)) := ⟨_, rfl⟩
 obtain ⟨hr, hks⟩ := hr1.set (k := 20) (mlC (⟨6, s, d, tx00, tx00, [], [], [], 0, [], [], 0, 0, [], 0, shV (cutQ 4 (q)), nV 4 (shQ (cutQ 4 (q))), nV 4 (q)⟩ : Ml) zS zS zS zS zS).toList rfl rfl hW2
 have hk := hk2.trans hks
 obtain ⟨vrow, hrow⟩ := hr1.row
 have HW := hW2.symm
 clear hr1 hW2 hk2 hks hrow
 obtain ⟨qe, hqe, hre⟩ : ∃ qe, qe = cutQ 4 (shQ (cutQ 4 (q))) ∧ RW w0 _ p qe (mlC (⟨6, s, d, tx00, tx00, [], [], [], 0, [], [], 0, 0, [], 0, shV (cutQ 4 (q)), nV 4 (shQ (cutQ 4 (q))), nV 4 (q)⟩ : Ml) zS zS zS zS zS).toList := ⟨_, rfl, hr⟩
 have HR : Hid (rdR 6 s d q = rdO (⟨6, s, d, tx00, tx00, [], [], [], 0, [], [], 0, 0, [], 0, shV (cutQ 4 (q)), nV 4 (shQ (cutQ 4 (q))), nV 4 (q)⟩ : Ml) qe) := Lib.hid (by rw [hqe]; rfl)
 clear hr hqe
 cases qe with
 | none =>
  have HRn : Hid (rdR 6 s d q = .inl 3) := Lib.hid HR.out
  have C1 := hre.off
  rw [show (none : Option By).isNone = true from rfl] at C1
  have HRE := Lib.hid hre
  clear HR hre
  go_wp2
  go_ret
  refine ⟨hkw.trans hk, HRE.out.2.1, ?_⟩
  rw [HRn.out]
  rfl
 | some r =>
  have HRs : Hid (rdR 6 s d q = .inr ((⟨6, s, d, tx00, tx00, [], [], [], 0, [], [], 0, 0, [], 0, shV (cutQ 4 (q)), nV 4 (shQ (cutQ 4 (q))), nV 4 (q)⟩ : Ml), r)) := Lib.hid HR.out
  have C1 := hre.off
  rw [show (some r : Option By).isNone = false from rfl] at C1
  have HRE := Lib.hid hre
  clear HR hre
  go_wp2
  go_ret
  refine ⟨hkw.trans hk, HRE.out.2.1, ?_⟩
  rw [HRs.out]
  exact ⟨rfl, _, _, _, _, _, ⟨OwnI.nil _ _, OwnDs.nil0 _ _, OwnI.nil _ _, OwnI.nil _ _, Own.nil _ _⟩, HRE.out⟩
end Go.Proofs.YthlppbbejdeeoaaGreatDoor
