/- The walk of wire.reader.read at the kinds 2 and 7. Conditions: the hypotheses of each theorem. -/
import Derived.Test.YthlppbbejdeeoaaGreatDoorC3
import Derived.Test.YthlppbbejdeeoaaGreatDoorC9
namespace Go.Proofs.YthlppbbejdeeoaaGreatDoor
open Go.RowKit
set_option maxRecDepth 20000 in
set_option maxHeartbeats 8000000 in
theorem wread7_any (s d : Int) (q : Option By) (w0 w : World) (p : Nat) (h : RW w0 w p q (mlC (⟨7, s, d, tx00, tx00, [], [], [], 0, [], [], 0, 0, [], 0, [], 0, 0⟩ : Ml) zS zS zS zS zS).toList) :
 Calls Tryz.prog 19 #[pt p, .agg (hasC 7)] w (ReadW 7 s d q w0 w p) := by
 have HN := fun (w1 : World) (q : Option By) (cs : List Value) (n : Nat) (hn : n ≤ 4) (h1 : RW w0 w1 p q cs) => wrnum_any w0 w1 p n q cs h1 hn
 have HL := fun (w1 : World) (q : Option By) (cs : List Value) (n : Nat) (hn : n ≤ 4) (h1 : RW w0 w1 p q cs) => wrlist_any w0 w1 p n q cs h1 hn
 have HT := fun (w1 : World) (q : Option By) (cs : List Value) (h1 : RW w0 w1 p q cs) => wrtext_any w0 w1 p q cs h1
 have HC := fun (w1 : World) (n : Nat) (q : Option By) (cs : List Value) (h1 : RW w0 w1 p q cs) => wtake_any w0 w1 p n q cs h1
 obtain ⟨wa, hwa⟩ : ∃ wa, wa = w.alloc (.cells (hasC 7) 57) := ⟨_, rfl⟩
 have hxa : Ext w wa := by rw [hwa]; exact (Ext.refl w).alloc _
 have hrowH : wa.heap[w.heap.size]? = some (.cells (hasC 7) 57 (0, 0)) := by rw [hwa]; exact heap_alloc_new w _
 have hlt := h.lt
 have hlo := hxa.size
 have HK : ∀ j v, (hasC 7)[j]? = some v → ∀ W, Kept [p] wa W → W.cell? ⟨w.heap.size, j, none⟩ = some v := fun j v hv W hW => by
  rw [cell_of_row W _ j _ _ _ (hW.heap hrowH (by simp; omega)), hv]
 have K0 := HK 0 (.bool false) rfl
 have K1 := HK 1 (.bool false) rfl
 have K2 := HK 2 (.bool true) rfl
 have K3 := HK 3 (.bool false) rfl
 have K4 := HK 4 (.bool true) rfl
 have K5 := HK 5 (.bool false) rfl
 have hr := h.ext hxa
 have hk : Kept [p] wa wa := Kept.refl _ _
 have hkw : Kept [p] w wa := .of_ext hxa
 clear h hrowH HK
 have HW := hwa.symm
 clear hwa
 unfold pt at *
 go_enter Tryz.func19, Tryz.ntmps19
 go_wp2_with fail
 clear HW
 refine (HN _ _ _ 4 (by omega) hr).mono ?_
 rintro e W1 ⟨rfl, hr1, hk1⟩
 obtain ⟨vrow, hrow⟩ := hr.row
 have hk2 := hk.trans hk1
 have C : W1.cell? ⟨p, 23, none⟩ = some _ := hr1.cell 21 _ rfl
 have F := hr1.frz
 clear hr hk hk1 hrow
 obtain ⟨W2, hW2⟩ : ∃ x, x = W1.setCell ⟨p, 23, none⟩ (.int .i64 (valB (cutV 4 (q)) : Nat)) := ⟨_, rfl⟩
 obtain ⟨hr, hks⟩ := hr1.set (k := 21) (mlC (⟨7, s, d, tx00, tx00, [], [], [], 0, [], [], 0, 0, [], 0, [], 0, nV 4 (q)⟩ : Ml) zS zS zS zS zS).toList rfl rfl hW2
 have hk := hk2.trans hks
 obtain ⟨vrow, hrow⟩ := hr1.row
 have HW := hW2.symm
 clear hr1 hW2 hk2 hks hrow
 go_wp2_with fail
 clear HW C F
 refine (HN _ _ _ 1 (by omega) hr).mono ?_
 rintro e W1 ⟨rfl, hr1, hk1⟩
 have hk2 := hk.trans hk1
 have hsz := Nat.le_trans hlo hk2.size
 clear hr hk hk1
 go_wp2_with fail
 refine (HL _ _ _ 4 (by omega) hr1).mono ?_
 rintro e W2 ⟨vN, rfl, hov, hr2, hk3⟩
 have hN := hov.low hsz
 obtain ⟨An, cn, rfl⟩ := hov.form
 have hk4 := hk2.trans hk3
 have C : W2.cell? ⟨p, 14, none⟩ = some _ := hr2.cell 12 _ rfl
 have F := hr2.frz
 clear hr1 hk2 hk3 hov hsz
 obtain ⟨W3, hW3⟩ : ∃ x, x = W2.setCell ⟨p, 14, none⟩ (.int .i64 (valB (cutV 1 (cutQ 4 (q))) : Nat)) := ⟨_, rfl⟩
 obtain ⟨hr3, hks⟩ := hr2.set (k := 12) (mlC (⟨7, s, d, tx00, tx00, [], [], [], nV 1 (cutQ 4 (q)), [], [], 0, 0, [], 0, [], 0, nV 4 (q)⟩ : Ml) zS zS zS zS zS).toList rfl rfl hW3
 obtain ⟨vrow, hrow⟩ := hr2.row
 have hN := hN.off hrow (by decide) hks
 have hk5 := hk4.trans hks
 have C2 : W3.cell? ⟨p, 15, none⟩ = some _ := hr3.cell 13 _ rfl
 have F2 := hr3.frz
 clear hrow hks hr2 hk4
 obtain ⟨W4, hW4⟩ : ∃ x, x = W3.setCell ⟨p, 15, none⟩ (.slice An (liV 4 (cutQ 1 (cutQ 4 (q)))).length cn) := ⟨_, rfl⟩
 obtain ⟨hr, hks⟩ := hr3.set (k := 13) (mlC (⟨7, s, d, tx00, tx00, [], [], [], nV 1 (cutQ 4 (q)), liV 4 (cutQ 1 (cutQ 4 (q))), [], 0, 0, [], 0, [], 0, nV 4 (q)⟩ : Ml) zS zS zS (.slice An (liV 4 (cutQ 1 (cutQ 4 (q)))).length cn) zS).toList rfl rfl hW4
 obtain ⟨vrow, hrow⟩ := hr3.row
 have hN := hN.off hrow (by decide) hks
 have hk := hk5.trans hks
 have HW3 := hW3.symm
 have HW := hW4.symm
 clear hrow hks hr3 hk5 hW3 hW4
 go_wp2_with fail
 clear HW  C F C2 F2 HW3
 refine (HT _ _ _ hr).mono ?_
 rintro e W1 ⟨rfl, hr1, hk1⟩
 obtain ⟨vrow, hrow⟩ := hr.row
 have hN := hN.off hrow (by decide) hk1
 have hk2 := hk.trans hk1
 have C : W1.cell? ⟨p, 16, none⟩ = some _ := hr1.cell 14 _ rfl
 have F := hr1.frz
 clear hr hk hk1 hrow
 obtain ⟨W2, hW2⟩ : ∃ x, x = W1.setCell ⟨p, 16, none⟩ (.string (st (shV (liQ 4 (cutQ 1 (cutQ 4 (q))))))) := ⟨_, rfl⟩
 obtain ⟨hr, hks⟩ := hr1.set (k := 14) (mlC (⟨7, s, d, tx00, tx00, [], [], [], nV 1 (cutQ 4 (q)), liV 4 (cutQ 1 (cutQ 4 (q))), shV (liQ 4 (cutQ 1 (cutQ 4 (q)))), 0, 0, [], 0, [], 0, nV 4 (q)⟩ : Ml) zS zS zS (.slice An (liV 4 (cutQ 1 (cutQ 4 (q)))).length cn) zS).toList rfl rfl hW2
 have hk := hk2.trans hks
 obtain ⟨vrow, hrow⟩ := hr1.row
 have hN := hN.off hrow (by decide) hks
 have HW := hW2.symm
 clear hr1 hW2 hk2 hks hrow
 go_wp2_with fail
 clear HW C F
 obtain ⟨W, hrd, hkd, hNd, hWW⟩ : ∃ W, RW w0 W.drew p (shQ (liQ 4 (cutQ 1 (cutQ 4 (q))))) (mlC (⟨7, s, d, tx00, tx00, [], [], [], nV 1 (cutQ 4 (q)), liV 4 (cutQ 1 (cutQ 4 (q))), shV (liQ 4 (cutQ 1 (cutQ 4 (q)))), 0, 0, [], 0, [], 0, nV 4 (q)⟩ : Ml) zS zS zS (.slice An (liV 4 (cutQ 1 (cutQ 4 (q)))).length cn) zS).toList ∧ Kept [p] wa W.drew ∧ OwnI W.drew w.heap.size (.slice An (liV 4 (cutQ 1 (cutQ 4 (q)))).length cn) (liV 4 (cutQ 1 (cutQ 4 (q)))) ∧ W = W2 := ⟨W2, hr.ext (Ext.refl _).drew, hk.drew, hN.ext (Ext.refl _).drew, rfl⟩
 subst hWW
 clear hr hk hN
 refine wp_region_phase (S := fun w' => Ext w0 w') 17 (by kernel_rfl) (by kernel_rfl) ?_ (fun hHeld => ?_)
 ·exact hrd.2.1
 simp only [List.drop_succ_cons, List.drop_zero]
 refine name_head ?_
 intro wr0 hw0
 rw [hw0] at hHeld
 refine wt 0 _ ?_
 simp only [red, Act.put]
 refine wt 1 _ ?_
 simp only [red, Act.put]
 refine wt 2 _ ?_
 simp only [red, Act.put]
 refine wt 3 _ ?_
 simp only [red, Act.put]
 refine wt 4 _ ?_
 simp only [red, Act.put]
 refine wt 6 _ ?_
 simp only [red, Act.put]
 refine wt 7 _ ?_
 simp only [red, Act.put]
 refine wt 8 _ ?_
 simp only [red, Act.put]
 refine rd [5] ?_
 refine ac (fun K hK => ?_) ?_
 ·refine step_callG (by rfl) (by kernel_rfl) (HN _ _ _ 1 (by omega) (by rw [← hw0]; exact hrd)) ?_
  rintro e wr5 ⟨rfl, hr5, hk5⟩
  refine ⟨_, rfl, ?_⟩
  refine hK.out _ _ ?_ (fun hHeld => ?_)
  ·exact hr5.2.1
  clear hK K
  try simp only [red, Act.put]
  refine rd [9] ?_
  refine ac (fun K hK => ?_) ?_
  ·have hkk5 := hkd.trans (hw0 ▸ hk5)
   obtain ⟨_, hrow⟩ := hrd.row
   have hN5 := hNd.off hrow (by decide) (hw0 ▸ hk5)
   clear hrow
   refine step_callG (by rfl) (by kernel_rfl) (HN _ _ _ 4 (by omega) hr5) ?_
   rintro e wr9 ⟨rfl, hr9, hk9⟩
   refine ⟨_, rfl, ?_⟩
   refine hK.out _ _ ?_ (fun hHeld => ?_)
   ·exact hr9.2.1
   clear hK K
   try simp only [red, Act.put]
   refine wt 10 _ ?_
   simp only [red, Act.put]
   refine wt 11 _ ?_
   simp only [red, Act.put]
   refine wt 12 _ ?_
   simp only [red, Act.put]
   refine rd [13] ?_
   refine ac (fun K hK => ?_) ?_
   ·have hkk9 := hkk5.trans hk9
    obtain ⟨_, hrow⟩ := hr5.row
    have hN9 := hN5.off hrow (by decide) hk9
    have C : wr9.cell? ⟨p, 17, none⟩ = some _ := hr9.cell 15 _ rfl
    have F := hr9.frz
    clear hrow
    go_simp
    refine name_world ?_
    rintro wr13 hw13
    obtain ⟨hr13, hk13⟩ := hr9.set (k := 15) (v := .int .i64 (valB (cutV 1 (shQ (liQ 4 (cutQ 1 (cutQ 4 (q)))))) : Nat)) (mlC (⟨7, s, d, tx00, tx00, [], [], [], nV 1 (cutQ 4 (q)), liV 4 (cutQ 1 (cutQ 4 (q))), shV (liQ 4 (cutQ 1 (cutQ 4 (q)))), nV 1 (shQ (liQ 4 (cutQ 1 (cutQ 4 (q))))), 0, [], 0, [], 0, nV 4 (q)⟩ : Ml) zS zS zS (.slice An (liV 4 (cutQ 1 (cutQ 4 (q)))).length cn) zS).toList rfl rfl hw13.symm
    clear C F hw13
    refine hK.out _ _ ?_ (fun hHeld => ?_)
    ·exact hr13.2.1
    clear hK K
    try simp only [red, Act.put]
    refine wt 14 _ ?_
    simp only [red, Act.put]
    refine wt 15 _ ?_
    simp only [red, Act.put]
    refine wt 16 _ ?_
    simp only [red, Act.put]
    refine wpHead_done (by kernel_rfl) ?_
    have hkk13 := hkk9.trans hk13
    obtain ⟨_, hrow⟩ := hr9.row
    have hN13 := hN9.off hrow (by decide) hk13
    have C : wr13.cell? ⟨p, 18, none⟩ = some _ := hr13.cell 16 _ rfl
    have F := hr13.frz
    obtain ⟨W5, hW5⟩ : ∃ x, x = wr13.setCell ⟨p, 18, none⟩ (.int .i64 (valB (cutV 4 (cutQ 1 (shQ (liQ 4 (cutQ 1 (cutQ 4 (q))))))) : Nat)) := ⟨_, rfl⟩
    obtain ⟨hr, hks⟩ := hr13.set (k := 16) (mlC (⟨7, s, d, tx00, tx00, [], [], [], nV 1 (cutQ 4 (q)), liV 4 (cutQ 1 (cutQ 4 (q))), shV (liQ 4 (cutQ 1 (cutQ 4 (q)))), nV 1 (shQ (liQ 4 (cutQ 1 (cutQ 4 (q))))), nV 4 (cutQ 1 (shQ (liQ 4 (cutQ 1 (cutQ 4 (q)))))), [], 0, [], 0, nV 4 (q)⟩ : Ml) zS zS zS (.slice An (liV 4 (cutQ 1 (cutQ 4 (q)))).length cn) zS).toList rfl rfl hW5
    have hk := hkk13.trans hks
    obtain ⟨_, hrow2⟩ := hr13.row
    have hN := hN13.off hrow2 (by decide) hks
    have HW := hW5.symm
    clear hrd hkd hr5 hk5 hr9 hk9 hr13 hk13 hkk5 hkk9 hkk13 hks hW5 hHeld hw0 hrow hrow2 hNd hN5 hN9 hN13
    go_wp2_with fail
    clear HW C F
    obtain ⟨W, hrd, hkd, hNd, hWW⟩ : ∃ W, RW w0 W.drew p (cutQ 4 (cutQ 1 (shQ (liQ 4 (cutQ 1 (cutQ 4 (q))))))) (mlC (⟨7, s, d, tx00, tx00, [], [], [], nV 1 (cutQ 4 (q)), liV 4 (cutQ 1 (cutQ 4 (q))), shV (liQ 4 (cutQ 1 (cutQ 4 (q)))), nV 1 (shQ (liQ 4 (cutQ 1 (cutQ 4 (q))))), nV 4 (cutQ 1 (shQ (liQ 4 (cutQ 1 (cutQ 4 (q)))))), [], 0, [], 0, nV 4 (q)⟩ : Ml) zS zS zS (.slice An (liV 4 (cutQ 1 (cutQ 4 (q)))).length cn) zS).toList ∧ Kept [p] wa W.drew ∧ OwnI W.drew w.heap.size (.slice An (liV 4 (cutQ 1 (cutQ 4 (q)))).length cn) (liV 4 (cutQ 1 (cutQ 4 (q)))) ∧ W = W5 := ⟨W5, hr.ext (Ext.refl _).drew, hk.drew, hN.ext (Ext.refl _).drew, rfl⟩
    subst hWW
    clear hr hk hN
    refine wp_region_phase (S := fun w' => Ext w0 w') 12 (by kernel_rfl) (by kernel_rfl) ?_ (fun hHeld => ?_)
    ·exact hrd.2.1
    simp only [List.drop_succ_cons, List.drop_zero]
    refine name_head ?_
    intro wr0 hw0
    rw [hw0] at hHeld
    refine wt 0 _ ?_
    simp only [red, Act.put]
    refine wt 1 _ ?_
    simp only [red, Act.put]
    refine wt 2 _ ?_
    simp only [red, Act.put]
    refine wt 3 _ ?_
    simp only [red, Act.put]
    refine wt 4 _ ?_
    simp only [red, Act.put]
    refine wt 5 _ ?_
    simp only [red, Act.put]
    refine wt 6 _ ?_
    simp only [red, Act.put]
    refine rd [7] ?_
    refine ac (fun K hK => ?_) ?_
    ·refine step_callG (by rfl) (by kernel_rfl) (HN _ _ _ 2 (by omega) (by rw [← hw0]; exact hrd)) ?_
     rintro e wr7 ⟨rfl, hr7, hk7⟩
     refine ⟨_, rfl, ?_⟩
     refine hK.out _ _ ?_ (fun hHeld => ?_)
     ·exact hr7.2.1
     clear hK K
     try simp only [red, Act.put]
     refine rd [8] ?_
     refine ac (fun K hK => ?_) ?_
     ·have hkk7 := hkd.trans (hw0 ▸ hk7)
      obtain ⟨_, hrow⟩ := hrd.row
      have hN7 := hNd.off hrow (by decide) (hw0 ▸ hk7)
      clear hrow
      refine step_callG (by rfl) (by kernel_rfl) (HC _ (valB (cutV 2 (cutQ 4 (cutQ 1 (shQ (liQ 4 (cutQ 1 (cutQ 4 (q))))))))) _ _ hr7) ?_
      rintro e wr8 ⟨Ab, cb, rfl, -, hb8, hr8, hk8⟩
      refine ⟨_, rfl, ?_⟩
      refine hK.out _ _ ?_ (fun hHeld => ?_)
      ·exact hr8.2.1
      clear hK K
      try simp only [red, Act.put]
      refine rd [9] ?_
      refine ac (fun K hK => ?_) ?_
      ·have hkk8 := hkk7.trans hk8
       obtain ⟨_, hrow⟩ := hr7.row
       have hN8 := hN7.off hrow (by decide) hk8
       have hvl := cutV_le (valB (cutV 2 (cutQ 4 (cutQ 1 (shQ (liQ 4 (cutQ 1 (cutQ 4 (q))))))))) (cutQ 2 (cutQ 4 (cutQ 1 (shQ (liQ 4 (cutQ 1 (cutQ 4 (q))))))))
       have hv2 := valB_cut 2 (cutQ 4 (cutQ 1 (shQ (liQ 4 (cutQ 1 (cutQ 4 (q)))))))
       clear hrow
       refine step_callG (by rfl) (by kernel_rfl) (clone_any Ab cb _ _ _ (hb8.ext hr8.2.1) (by omega) rfl) ?_
       rintro e wr9 ⟨vv, rfl, ho9, hx9⟩
       have hsz8 := Nat.le_trans hlo hkk8.size
       have hV9 := ho9.low hsz8
       obtain ⟨Av, cv, rfl⟩ := ho9.form
       have hr9 := hr8.ext hx9
       have hkk9 := hkk8.ext hx9
       have hN9 := hN8.ext hx9
       clear hsz8 ho9
       refine ⟨_, rfl, ?_⟩
       refine hK.out _ _ ?_ (fun hHeld => ?_)
       ·exact hr9.2.1
       clear hK K
       try simp only [red, Act.put]
       refine wt 10 _ ?_
       simp only [red, Act.put]
       refine wt 11 _ ?_
       simp only [red, Act.put]
       refine wpHead_done (by kernel_rfl) ?_
       have C : wr9.cell? ⟨p, 19, none⟩ = some _ := hr9.cell 17 _ rfl
       have F := hr9.frz
       obtain ⟨W6, hW6⟩ : ∃ x, x = wr9.setCell ⟨p, 19, none⟩ (.slice Av (cutV (valB (cutV 2 (cutQ 4 (cutQ 1 (shQ (liQ 4 (cutQ 1 (cutQ 4 (q))))))))) (cutQ 2 (cutQ 4 (cutQ 1 (shQ (liQ 4 (cutQ 1 (cutQ 4 (q))))))))).length cv) := ⟨_, rfl⟩
       obtain ⟨hr, hks⟩ := hr9.set (k := 17) (mlC (⟨7, s, d, tx00, tx00, [], [], [], nV 1 (cutQ 4 (q)), liV 4 (cutQ 1 (cutQ 4 (q))), shV (liQ 4 (cutQ 1 (cutQ 4 (q)))), nV 1 (shQ (liQ 4 (cutQ 1 (cutQ 4 (q))))), nV 4 (cutQ 1 (shQ (liQ 4 (cutQ 1 (cutQ 4 (q)))))), loV (cutQ 4 (cutQ 1 (shQ (liQ 4 (cutQ 1 (cutQ 4 (q))))))), 0, [], 0, nV 4 (q)⟩ : Ml) zS zS zS (.slice An (liV 4 (cutQ 1 (cutQ 4 (q)))).length cn) (.slice Av (loV (cutQ 4 (cutQ 1 (shQ (liQ 4 (cutQ 1 (cutQ 4 (q)))))))).length cv)).toList rfl rfl hW6
       have hk := hkk9.trans hks
       obtain ⟨_, hrow⟩ := hr9.row
       have hN := hN9.off hrow (by decide) hks
       have hV := Own.off hV9 hrow (by decide) hks
       have HW := hW6.symm
       clear hrd hkd hr7 hk7 hr8 hk8 hr9 hkk7 hkk8 hkk9 hks hW6 hHeld hw0 hrow hNd hN7 hN8 hN9 hV9 hb8 hvl hv2 hx9
       obtain ⟨qe, hqe, hre⟩ : ∃ qe, qe = loQ (cutQ 4 (cutQ 1 (shQ (liQ 4 (cutQ 1 (cutQ 4 (q))))))) ∧ RW w0 _ p qe (mlC (⟨7, s, d, tx00, tx00, [], [], [], nV 1 (cutQ 4 (q)), liV 4 (cutQ 1 (cutQ 4 (q))), shV (liQ 4 (cutQ 1 (cutQ 4 (q)))), nV 1 (shQ (liQ 4 (cutQ 1 (cutQ 4 (q))))), nV 4 (cutQ 1 (shQ (liQ 4 (cutQ 1 (cutQ 4 (q)))))), loV (cutQ 4 (cutQ 1 (shQ (liQ 4 (cutQ 1 (cutQ 4 (q))))))), 0, [], 0, nV 4 (q)⟩ : Ml) zS zS zS (.slice An (liV 4 (cutQ 1 (cutQ 4 (q)))).length cn) (.slice Av (loV (cutQ 4 (cutQ 1 (shQ (liQ 4 (cutQ 1 (cutQ 4 (q)))))))).length cv)).toList := ⟨_, rfl, hr⟩
       have HR : Hid (rdR 7 s d q = rdO (⟨7, s, d, tx00, tx00, [], [], [], nV 1 (cutQ 4 (q)), liV 4 (cutQ 1 (cutQ 4 (q))), shV (liQ 4 (cutQ 1 (cutQ 4 (q)))), nV 1 (shQ (liQ 4 (cutQ 1 (cutQ 4 (q))))), nV 4 (cutQ 1 (shQ (liQ 4 (cutQ 1 (cutQ 4 (q)))))), loV (cutQ 4 (cutQ 1 (shQ (liQ 4 (cutQ 1 (cutQ 4 (q))))))), 0, [], 0, nV 4 (q)⟩ : Ml) qe) := Lib.hid (by rw [hqe]; rfl)
       clear hr hqe
       cases qe with
       | none =>
        have HRn : Hid (rdR 7 s d q = .inl 3) := Lib.hid HR.out
        have C1 := hre.off
        rw [show (none : Option By).isNone = true from rfl] at C1
        have HRE := Lib.hid hre
        clear HR hre
        go_wp2
        go_ret
        refine ⟨hkw.trans hk, HRE.out.2.1, ?_⟩
        rw [HRn.out]
        rfl
       | some r =>
        have HRs : Hid (rdR 7 s d q = .inr ((⟨7, s, d, tx00, tx00, [], [], [], nV 1 (cutQ 4 (q)), liV 4 (cutQ 1 (cutQ 4 (q))), shV (liQ 4 (cutQ 1 (cutQ 4 (q)))), nV 1 (shQ (liQ 4 (cutQ 1 (cutQ 4 (q))))), nV 4 (cutQ 1 (shQ (liQ 4 (cutQ 1 (cutQ 4 (q)))))), loV (cutQ 4 (cutQ 1 (shQ (liQ 4 (cutQ 1 (cutQ 4 (q))))))), 0, [], 0, nV 4 (q)⟩ : Ml), r)) := Lib.hid HR.out
        have C1 := hre.off
        rw [show (some r : Option By).isNone = false from rfl] at C1
        have HRE := Lib.hid hre
        clear HR hre
        go_wp2
        go_ret
        refine ⟨hkw.trans hk, HRE.out.2.1, ?_⟩
        rw [HRs.out]
        exact ⟨rfl, _, _, _, _, _, ⟨OwnI.nil _ _, OwnDs.nil0 _ _, OwnI.nil _ _, hN, hV⟩, HRE.out⟩
      exact AllHead.nil
     exact AllHead.nil
    exact AllHead.nil
   exact AllHead.nil
  exact AllHead.nil
 exact AllHead.nil
set_option maxRecDepth 20000 in
set_option maxHeartbeats 8000000 in
theorem wread2_any (s d : Int) (q : Option By) (w0 w : World) (p : Nat) (h : RW w0 w p q (mlC (⟨2, s, d, tx00, tx00, [], [], [], 0, [], [], 0, 0, [], 0, [], 0, 0⟩ : Ml) zS zS zS zS zS).toList) :
 Calls Tryz.prog 19 #[pt p, .agg (hasC 2)] w (ReadW 2 s d q w0 w p) := by
 have HN := fun (w1 : World) (q : Option By) (cs : List Value) (n : Nat) (hn : n ≤ 4) (h1 : RW w0 w1 p q cs) => wrnum_any w0 w1 p n q cs h1 hn
 have HL := fun (w1 : World) (q : Option By) (cs : List Value) (n : Nat) (hn : n ≤ 4) (h1 : RW w0 w1 p q cs) => wrlist_any w0 w1 p n q cs h1 hn
 have HT := fun (w1 : World) (q : Option By) (cs : List Value) (h1 : RW w0 w1 p q cs) => wrtext_any w0 w1 p q cs h1
 have HC := fun (w1 : World) (n : Nat) (q : Option By) (cs : List Value) (h1 : RW w0 w1 p q cs) => wtake_any w0 w1 p n q cs h1
 obtain ⟨wa, hwa⟩ : ∃ wa, wa = w.alloc (.cells (hasC 2) 57) := ⟨_, rfl⟩
 have hxa : Ext w wa := by rw [hwa]; exact (Ext.refl w).alloc _
 have hrowH : wa.heap[w.heap.size]? = some (.cells (hasC 2) 57 (0, 0)) := by rw [hwa]; exact heap_alloc_new w _
 have hlt := h.lt
 have hlo := hxa.size
 have HK : ∀ j v, (hasC 2)[j]? = some v → ∀ W, Kept [p] wa W → W.cell? ⟨w.heap.size, j, none⟩ = some v := fun j v hv W hW => by
  rw [cell_of_row W _ j _ _ _ (hW.heap hrowH (by simp; omega)), hv]
 have K0 := HK 0 (.bool true) rfl
 have K1 := HK 1 (.bool false) rfl
 have K2 := HK 2 (.bool true) rfl
 have K3 := HK 3 (.bool false) rfl
 have K4 := HK 4 (.bool false) rfl
 have K5 := HK 5 (.bool false) rfl
 have hr := h.ext hxa
 have hk : Kept [p] wa wa := Kept.refl _ _
 have hkw : Kept [p] w wa := .of_ext hxa
 clear h hrowH HK
 have HW := hwa.symm
 clear hwa
 unfold pt at *
 go_enter Tryz.func19, Tryz.ntmps19
 go_wp2_with fail
 clear HW
 have hrd : RW w0 wa.drew p q _ := hr.ext (Ext.refl wa).drew
 have hkd : Kept [p] wa wa.drew := (Kept.refl _ _).drew
 clear hr hk
 refine wp_region_phase (S := fun w' => Ext w0 w') 26 (by kernel_rfl) (by kernel_rfl) ?_ (fun hHeld => ?_)
 ·exact hrd.2.1
 simp only [List.drop_succ_cons, List.drop_zero]
 refine name_head ?_
 intro wr0 hw0
 rw [hw0] at hHeld
 refine wt 0 _ ?_
 simp only [red, Act.put]
 refine wt 1 _ ?_
 simp only [red, Act.put]
 refine wt 2 _ ?_
 simp only [red, Act.put]
 refine wt 3 _ ?_
 simp only [red, Act.put]
 refine wt 4 _ ?_
 simp only [red, Act.put]
 refine wt 5 _ ?_
 simp only [red, Act.put]
 refine wt 7 _ ?_
 simp only [red, Act.put]
 refine wt 8 _ ?_
 simp only [red, Act.put]
 refine wt 9 _ ?_
 simp only [red, Act.put]
 refine wt 11 _ ?_
 simp only [red, Act.put]
 refine wt 12 _ ?_
 simp only [red, Act.put]
 refine wt 13 _ ?_
 simp only [red, Act.put]
 refine rd [6] ?_
 refine ac (fun K hK => ?_) ?_
 ·refine step_callG (by rfl) (by kernel_rfl) (HN _ _ _ 1 (by omega) (by rw [← hw0]; exact hrd)) ?_
  rintro e wr6 ⟨rfl, hr6, hk6⟩
  refine ⟨_, rfl, ?_⟩
  refine hK.out _ _ ?_ (fun hHeld => ?_)
  ·exact hr6.2.1
  clear hK K
  try simp only [red, Act.put]
  refine rd [10] ?_
  refine ac (fun K hK => ?_) ?_
  ·have hkk6 := hkd.trans (hw0 ▸ hk6)
   refine step_callG (by rfl) (by kernel_rfl) (HN _ _ _ 4 (by omega) hr6) ?_
   rintro e wr10 ⟨rfl, hr10, hk10⟩
   refine ⟨_, rfl, ?_⟩
   refine hK.out _ _ ?_ (fun hHeld => ?_)
   ·exact hr10.2.1
   clear hK K
   try simp only [red, Act.put]
   refine rd [14] ?_
   refine ac (fun K hK => ?_) ?_
   ·have hkk10 := hkk6.trans hk10
    refine step_callG (by rfl) (by kernel_rfl) (HN _ _ _ 4 (by omega) hr10) ?_
    rintro e wr14 ⟨rfl, hr14, hk14⟩
    refine ⟨_, rfl, ?_⟩
    refine hK.out _ _ ?_ (fun hHeld => ?_)
    ·exact hr14.2.1
    clear hK K
    try simp only [red, Act.put]
    refine wt 15 _ ?_
    simp only [red, Act.put]
    refine wt 16 _ ?_
    simp only [red, Act.put]
    refine wt 17 _ ?_
    simp only [red, Act.put]
    refine rd [18] ?_
    refine ac (fun K hK => ?_) ?_
    ·have hkk14 := hkk10.trans hk14
     have C : wr14.cell? ⟨p, 5, none⟩ = some _ := hr14.cell 3 _ rfl
     have F := hr14.frz
     go_simp
     refine name_world ?_
     rintro wr18 hw18
     obtain ⟨hr18, hk18⟩ := hr14.set (k := 3) (v := .int .i64 (valB (cutV 1 q) : Nat)) (mlC (⟨2, s, d, ⟨nV 1 q, 0, 0⟩, tx00, [], [], [], 0, [], [], 0, 0, [], 0, [], 0, 0⟩ : Ml) zS zS zS zS zS).toList rfl rfl hw18.symm
     clear C F hw18
     refine hK.out _ _ ?_ (fun hHeld => ?_)
     ·exact hr18.2.1
     clear hK K
     try simp only [red, Act.put]
     refine wt 19 _ ?_
     simp only [red, Act.put]
     refine wt 20 _ ?_
     simp only [red, Act.put]
     refine wt 21 _ ?_
     simp only [red, Act.put]
     refine rd [22] ?_
     refine ac (fun K hK => ?_) ?_
     ·have hkk18 := hkk14.trans hk18
      have C : wr18.cell? ⟨p, 6, none⟩ = some _ := hr18.cell 4 _ rfl
      have F := hr18.frz
      go_simp
      refine name_world ?_
      rintro wr22 hw22
      obtain ⟨hr22, hk22⟩ := hr18.set (k := 4) (v := .int .i64 (valB (cutV 4 (cutQ 1 q)) : Nat)) (mlC (⟨2, s, d, ⟨nV 1 q, nV 4 (cutQ 1 q), 0⟩, tx00, [], [], [], 0, [], [], 0, 0, [], 0, [], 0, 0⟩ : Ml) zS zS zS zS zS).toList rfl rfl hw22.symm
      clear C F hw22
      refine hK.out _ _ ?_ (fun hHeld => ?_)
      ·exact hr22.2.1
      clear hK K
      try simp only [red, Act.put]
      refine wt 23 _ ?_
      simp only [red, Act.put]
      refine wt 24 _ ?_
      simp only [red, Act.put]
      refine wt 25 _ ?_
      simp only [red, Act.put]
      refine wpHead_done (by kernel_rfl) ?_
      have hkk22 := hkk18.trans hk22
      have C : wr22.cell? ⟨p, 7, none⟩ = some _ := hr22.cell 5 _ rfl
      have F := hr22.frz
      obtain ⟨W2, hW2⟩ : ∃ x, x = wr22.setCell ⟨p, 7, none⟩ (.int .i64 (valB (cutV 4 (cutQ 4 (cutQ 1 q))) : Nat)) := ⟨_, rfl⟩
      obtain ⟨hr, hks⟩ := hr22.set (k := 5) (mlC (⟨2, s, d, ⟨nV 1 q, nV 4 (cutQ 1 q), nV 4 (cutQ 4 (cutQ 1 q))⟩, tx00, [], [], [], 0, [], [], 0, 0, [], 0, [], 0, 0⟩ : Ml) zS zS zS zS zS).toList rfl rfl hW2
      have hk := hkk22.trans hks
      have HW := hW2.symm
      clear hrd hkd hr6 hk6 hr10 hk10 hr14 hk14 hr18 hk18 hr22 hk22 hkk6 hkk10 hkk14 hkk18 hkk22 hks hW2 hHeld hw0
      go_wp2_with fail
      clear HW C F
      refine (HN _ _ _ 1 (by omega) hr).mono ?_
      rintro e W1 ⟨rfl, hr1, hk1⟩
      have hk2 := hk.trans hk1
      have hsz := Nat.le_trans hlo hk2.size
      clear hr hk hk1
      go_wp2_with fail
      refine (HL _ _ _ 4 (by omega) hr1).mono ?_
      rintro e W2 ⟨vN, rfl, hov, hr2, hk3⟩
      have hN := hov.low hsz
      obtain ⟨An, cn, rfl⟩ := hov.form
      have hk4 := hk2.trans hk3
      have C : W2.cell? ⟨p, 14, none⟩ = some _ := hr2.cell 12 _ rfl
      have F := hr2.frz
      clear hr1 hk2 hk3 hov hsz
      obtain ⟨W3, hW3⟩ : ∃ x, x = W2.setCell ⟨p, 14, none⟩ (.int .i64 (valB (cutV 1 (cutQ 4 (cutQ 4 (cutQ 1 q)))) : Nat)) := ⟨_, rfl⟩
      obtain ⟨hr3, hks⟩ := hr2.set (k := 12) (mlC (⟨2, s, d, ⟨nV 1 q, nV 4 (cutQ 1 q), nV 4 (cutQ 4 (cutQ 1 q))⟩, tx00, [], [], [], nV 1 (cutQ 4 (cutQ 4 (cutQ 1 q))), [], [], 0, 0, [], 0, [], 0, 0⟩ : Ml) zS zS zS zS zS).toList rfl rfl hW3
      obtain ⟨vrow, hrow⟩ := hr2.row
      have hN := hN.off hrow (by decide) hks
      have hk5 := hk4.trans hks
      have C2 : W3.cell? ⟨p, 15, none⟩ = some _ := hr3.cell 13 _ rfl
      have F2 := hr3.frz
      clear hrow hks hr2 hk4
      obtain ⟨W4, hW4⟩ : ∃ x, x = W3.setCell ⟨p, 15, none⟩ (.slice An (liV 4 (cutQ 1 (cutQ 4 (cutQ 4 (cutQ 1 q))))).length cn) := ⟨_, rfl⟩
      obtain ⟨hr, hks⟩ := hr3.set (k := 13) (mlC (⟨2, s, d, ⟨nV 1 q, nV 4 (cutQ 1 q), nV 4 (cutQ 4 (cutQ 1 q))⟩, tx00, [], [], [], nV 1 (cutQ 4 (cutQ 4 (cutQ 1 q))), liV 4 (cutQ 1 (cutQ 4 (cutQ 4 (cutQ 1 q)))), [], 0, 0, [], 0, [], 0, 0⟩ : Ml) zS zS zS (.slice An (liV 4 (cutQ 1 (cutQ 4 (cutQ 4 (cutQ 1 q))))).length cn) zS).toList rfl rfl hW4
      obtain ⟨vrow, hrow⟩ := hr3.row
      have hN := hN.off hrow (by decide) hks
      have hk := hk5.trans hks
      have HW3 := hW3.symm
      have HW := hW4.symm
      clear hrow hks hr3 hk5 hW3 hW4
      go_wp2_with fail
      clear HW  C F C2 F2 HW3
      refine (HT _ _ _ hr).mono ?_
      rintro e W1 ⟨rfl, hr1, hk1⟩
      obtain ⟨vrow, hrow⟩ := hr.row
      have hN := hN.off hrow (by decide) hk1
      have hk2 := hk.trans hk1
      have C : W1.cell? ⟨p, 16, none⟩ = some _ := hr1.cell 14 _ rfl
      have F := hr1.frz
      clear hr hk hk1 hrow
      obtain ⟨W2, hW2⟩ : ∃ x, x = W1.setCell ⟨p, 16, none⟩ (.string (st (shV (liQ 4 (cutQ 1 (cutQ 4 (cutQ 4 (cutQ 1 q)))))))) := ⟨_, rfl⟩
      obtain ⟨hr, hks⟩ := hr1.set (k := 14) (mlC (⟨2, s, d, ⟨nV 1 q, nV 4 (cutQ 1 q), nV 4 (cutQ 4 (cutQ 1 q))⟩, tx00, [], [], [], nV 1 (cutQ 4 (cutQ 4 (cutQ 1 q))), liV 4 (cutQ 1 (cutQ 4 (cutQ 4 (cutQ 1 q)))), shV (liQ 4 (cutQ 1 (cutQ 4 (cutQ 4 (cutQ 1 q))))), 0, 0, [], 0, [], 0, 0⟩ : Ml) zS zS zS (.slice An (liV 4 (cutQ 1 (cutQ 4 (cutQ 4 (cutQ 1 q))))).length cn) zS).toList rfl rfl hW2
      have hk := hk2.trans hks
      obtain ⟨vrow, hrow⟩ := hr1.row
      have hN := hN.off hrow (by decide) hks
      have HW := hW2.symm
      clear hr1 hW2 hk2 hks hrow
      go_wp2_with fail
      clear HW C F
      obtain ⟨W, hrd, hkd, hNd, hWW⟩ : ∃ W, RW w0 W.drew p (shQ (liQ 4 (cutQ 1 (cutQ 4 (cutQ 4 (cutQ 1 q)))))) (mlC (⟨2, s, d, ⟨nV 1 q, nV 4 (cutQ 1 q), nV 4 (cutQ 4 (cutQ 1 q))⟩, tx00, [], [], [], nV 1 (cutQ 4 (cutQ 4 (cutQ 1 q))), liV 4 (cutQ 1 (cutQ 4 (cutQ 4 (cutQ 1 q)))), shV (liQ 4 (cutQ 1 (cutQ 4 (cutQ 4 (cutQ 1 q))))), 0, 0, [], 0, [], 0, 0⟩ : Ml) zS zS zS (.slice An (liV 4 (cutQ 1 (cutQ 4 (cutQ 4 (cutQ 1 q))))).length cn) zS).toList ∧ Kept [p] wa W.drew ∧ OwnI W.drew w.heap.size (.slice An (liV 4 (cutQ 1 (cutQ 4 (cutQ 4 (cutQ 1 q))))).length cn) (liV 4 (cutQ 1 (cutQ 4 (cutQ 4 (cutQ 1 q))))) ∧ W = W2 := ⟨W2, hr.ext (Ext.refl _).drew, hk.drew, hN.ext (Ext.refl _).drew, rfl⟩
      subst hWW
      clear hr hk hN
      refine wp_region_phase (S := fun w' => Ext w0 w') 17 (by kernel_rfl) (by kernel_rfl) ?_ (fun hHeld => ?_)
      ·exact hrd.2.1
      simp only [List.drop_succ_cons, List.drop_zero]
      refine name_head ?_
      intro wr0 hw0
      rw [hw0] at hHeld
      refine wt 0 _ ?_
      simp only [red, Act.put]
      refine wt 1 _ ?_
      simp only [red, Act.put]
      refine wt 2 _ ?_
      simp only [red, Act.put]
      refine wt 3 _ ?_
      simp only [red, Act.put]
      refine wt 4 _ ?_
      simp only [red, Act.put]
      refine wt 6 _ ?_
      simp only [red, Act.put]
      refine wt 7 _ ?_
      simp only [red, Act.put]
      refine wt 8 _ ?_
      simp only [red, Act.put]
      refine rd [5] ?_
      refine ac (fun K hK => ?_) ?_
      ·refine step_callG (by rfl) (by kernel_rfl) (HN _ _ _ 1 (by omega) (by rw [← hw0]; exact hrd)) ?_
       rintro e wr5 ⟨rfl, hr5, hk5⟩
       refine ⟨_, rfl, ?_⟩
       refine hK.out _ _ ?_ (fun hHeld => ?_)
       ·exact hr5.2.1
       clear hK K
       try simp only [red, Act.put]
       refine rd [9] ?_
       refine ac (fun K hK => ?_) ?_
       ·have hkk5 := hkd.trans (hw0 ▸ hk5)
        obtain ⟨_, hrow⟩ := hrd.row
        have hN5 := hNd.off hrow (by decide) (hw0 ▸ hk5)
        clear hrow
        refine step_callG (by rfl) (by kernel_rfl) (HN _ _ _ 4 (by omega) hr5) ?_
        rintro e wr9 ⟨rfl, hr9, hk9⟩
        refine ⟨_, rfl, ?_⟩
        refine hK.out _ _ ?_ (fun hHeld => ?_)
        ·exact hr9.2.1
        clear hK K
        try simp only [red, Act.put]
        refine wt 10 _ ?_
        simp only [red, Act.put]
        refine wt 11 _ ?_
        simp only [red, Act.put]
        refine wt 12 _ ?_
        simp only [red, Act.put]
        refine rd [13] ?_
        refine ac (fun K hK => ?_) ?_
        ·have hkk9 := hkk5.trans hk9
         obtain ⟨_, hrow⟩ := hr5.row
         have hN9 := hN5.off hrow (by decide) hk9
         have C : wr9.cell? ⟨p, 17, none⟩ = some _ := hr9.cell 15 _ rfl
         have F := hr9.frz
         clear hrow
         go_simp
         refine name_world ?_
         rintro wr13 hw13
         obtain ⟨hr13, hk13⟩ := hr9.set (k := 15) (v := .int .i64 (valB (cutV 1 (shQ (liQ 4 (cutQ 1 (cutQ 4 (cutQ 4 (cutQ 1 q))))))) : Nat)) (mlC (⟨2, s, d, ⟨nV 1 q, nV 4 (cutQ 1 q), nV 4 (cutQ 4 (cutQ 1 q))⟩, tx00, [], [], [], nV 1 (cutQ 4 (cutQ 4 (cutQ 1 q))), liV 4 (cutQ 1 (cutQ 4 (cutQ 4 (cutQ 1 q)))), shV (liQ 4 (cutQ 1 (cutQ 4 (cutQ 4 (cutQ 1 q))))), nV 1 (shQ (liQ 4 (cutQ 1 (cutQ 4 (cutQ 4 (cutQ 1 q)))))), 0, [], 0, [], 0, 0⟩ : Ml) zS zS zS (.slice An (liV 4 (cutQ 1 (cutQ 4 (cutQ 4 (cutQ 1 q))))).length cn) zS).toList rfl rfl hw13.symm
         clear C F hw13
         refine hK.out _ _ ?_ (fun hHeld => ?_)
         ·exact hr13.2.1
         clear hK K
         try simp only [red, Act.put]
         refine wt 14 _ ?_
         simp only [red, Act.put]
         refine wt 15 _ ?_
         simp only [red, Act.put]
         refine wt 16 _ ?_
         simp only [red, Act.put]
         refine wpHead_done (by kernel_rfl) ?_
         have hkk13 := hkk9.trans hk13
         obtain ⟨_, hrow⟩ := hr9.row
         have hN13 := hN9.off hrow (by decide) hk13
         have C : wr13.cell? ⟨p, 18, none⟩ = some _ := hr13.cell 16 _ rfl
         have F := hr13.frz
         obtain ⟨W5, hW5⟩ : ∃ x, x = wr13.setCell ⟨p, 18, none⟩ (.int .i64 (valB (cutV 4 (cutQ 1 (shQ (liQ 4 (cutQ 1 (cutQ 4 (cutQ 4 (cutQ 1 q)))))))) : Nat)) := ⟨_, rfl⟩
         obtain ⟨hr, hks⟩ := hr13.set (k := 16) (mlC (⟨2, s, d, ⟨nV 1 q, nV 4 (cutQ 1 q), nV 4 (cutQ 4 (cutQ 1 q))⟩, tx00, [], [], [], nV 1 (cutQ 4 (cutQ 4 (cutQ 1 q))), liV 4 (cutQ 1 (cutQ 4 (cutQ 4 (cutQ 1 q)))), shV (liQ 4 (cutQ 1 (cutQ 4 (cutQ 4 (cutQ 1 q))))), nV 1 (shQ (liQ 4 (cutQ 1 (cutQ 4 (cutQ 4 (cutQ 1 q)))))), nV 4 (cutQ 1 (shQ (liQ 4 (cutQ 1 (cutQ 4 (cutQ 4 (cutQ 1 q))))))), [], 0, [], 0, 0⟩ : Ml) zS zS zS (.slice An (liV 4 (cutQ 1 (cutQ 4 (cutQ 4 (cutQ 1 q))))).length cn) zS).toList rfl rfl hW5
         have hk := hkk13.trans hks
         obtain ⟨_, hrow2⟩ := hr13.row
         have hN := hN13.off hrow2 (by decide) hks
         have HW := hW5.symm
         clear hrd hkd hr5 hk5 hr9 hk9 hr13 hk13 hkk5 hkk9 hkk13 hks hW5 hHeld hw0 hrow hrow2 hNd hN5 hN9 hN13
         go_wp2_with fail
         clear HW C F
         obtain ⟨W, hrd, hkd, hNd, hWW⟩ : ∃ W, RW w0 W.drew p (cutQ 4 (cutQ 1 (shQ (liQ 4 (cutQ 1 (cutQ 4 (cutQ 4 (cutQ 1 q)))))))) (mlC (⟨2, s, d, ⟨nV 1 q, nV 4 (cutQ 1 q), nV 4 (cutQ 4 (cutQ 1 q))⟩, tx00, [], [], [], nV 1 (cutQ 4 (cutQ 4 (cutQ 1 q))), liV 4 (cutQ 1 (cutQ 4 (cutQ 4 (cutQ 1 q)))), shV (liQ 4 (cutQ 1 (cutQ 4 (cutQ 4 (cutQ 1 q))))), nV 1 (shQ (liQ 4 (cutQ 1 (cutQ 4 (cutQ 4 (cutQ 1 q)))))), nV 4 (cutQ 1 (shQ (liQ 4 (cutQ 1 (cutQ 4 (cutQ 4 (cutQ 1 q))))))), [], 0, [], 0, 0⟩ : Ml) zS zS zS (.slice An (liV 4 (cutQ 1 (cutQ 4 (cutQ 4 (cutQ 1 q))))).length cn) zS).toList ∧ Kept [p] wa W.drew ∧ OwnI W.drew w.heap.size (.slice An (liV 4 (cutQ 1 (cutQ 4 (cutQ 4 (cutQ 1 q))))).length cn) (liV 4 (cutQ 1 (cutQ 4 (cutQ 4 (cutQ 1 q))))) ∧ W = W5 := ⟨W5, hr.ext (Ext.refl _).drew, hk.drew, hN.ext (Ext.refl _).drew, rfl⟩
         subst hWW
         clear hr hk hN
         refine wp_region_phase (S := fun w' => Ext w0 w') 12 (by kernel_rfl) (by kernel_rfl) ?_ (fun hHeld => ?_)
         ·exact hrd.2.1
         simp only [List.drop_succ_cons, List.drop_zero]
         refine name_head ?_
         intro wr0 hw0
         rw [hw0] at hHeld
         refine wt 0 _ ?_
         simp only [red, Act.put]
         refine wt 1 _ ?_
         simp only [red, Act.put]
         refine wt 2 _ ?_
         simp only [red, Act.put]
         refine wt 3 _ ?_
         simp only [red, Act.put]
         refine wt 4 _ ?_
         simp only [red, Act.put]
         refine wt 5 _ ?_
         simp only [red, Act.put]
         refine wt 6 _ ?_
         simp only [red, Act.put]
         refine rd [7] ?_
         refine ac (fun K hK => ?_) ?_
         ·refine step_callG (by rfl) (by kernel_rfl) (HN _ _ _ 2 (by omega) (by rw [← hw0]; exact hrd)) ?_
          rintro e wr7 ⟨rfl, hr7, hk7⟩
          refine ⟨_, rfl, ?_⟩
          refine hK.out _ _ ?_ (fun hHeld => ?_)
          ·exact hr7.2.1
          clear hK K
          try simp only [red, Act.put]
          refine rd [8] ?_
          refine ac (fun K hK => ?_) ?_
          ·have hkk7 := hkd.trans (hw0 ▸ hk7)
           obtain ⟨_, hrow⟩ := hrd.row
           have hN7 := hNd.off hrow (by decide) (hw0 ▸ hk7)
           clear hrow
           refine step_callG (by rfl) (by kernel_rfl) (HC _ (valB (cutV 2 (cutQ 4 (cutQ 1 (shQ (liQ 4 (cutQ 1 (cutQ 4 (cutQ 4 (cutQ 1 q)))))))))) _ _ hr7) ?_
           rintro e wr8 ⟨Ab, cb, rfl, -, hb8, hr8, hk8⟩
           refine ⟨_, rfl, ?_⟩
           refine hK.out _ _ ?_ (fun hHeld => ?_)
           ·exact hr8.2.1
           clear hK K
           try simp only [red, Act.put]
           refine rd [9] ?_
           refine ac (fun K hK => ?_) ?_
           ·have hkk8 := hkk7.trans hk8
            obtain ⟨_, hrow⟩ := hr7.row
            have hN8 := hN7.off hrow (by decide) hk8
            have hvl := cutV_le (valB (cutV 2 (cutQ 4 (cutQ 1 (shQ (liQ 4 (cutQ 1 (cutQ 4 (cutQ 4 (cutQ 1 q)))))))))) (cutQ 2 (cutQ 4 (cutQ 1 (shQ (liQ 4 (cutQ 1 (cutQ 4 (cutQ 4 (cutQ 1 q)))))))))
            have hv2 := valB_cut 2 (cutQ 4 (cutQ 1 (shQ (liQ 4 (cutQ 1 (cutQ 4 (cutQ 4 (cutQ 1 q))))))))
            clear hrow
            refine step_callG (by rfl) (by kernel_rfl) (clone_any Ab cb _ _ _ (hb8.ext hr8.2.1) (by omega) rfl) ?_
            rintro e wr9 ⟨vv, rfl, ho9, hx9⟩
            have hsz8 := Nat.le_trans hlo hkk8.size
            have hV9 := ho9.low hsz8
            obtain ⟨Av, cv, rfl⟩ := ho9.form
            have hr9 := hr8.ext hx9
            have hkk9 := hkk8.ext hx9
            have hN9 := hN8.ext hx9
            clear hsz8 ho9
            refine ⟨_, rfl, ?_⟩
            refine hK.out _ _ ?_ (fun hHeld => ?_)
            ·exact hr9.2.1
            clear hK K
            try simp only [red, Act.put]
            refine wt 10 _ ?_
            simp only [red, Act.put]
            refine wt 11 _ ?_
            simp only [red, Act.put]
            refine wpHead_done (by kernel_rfl) ?_
            have C : wr9.cell? ⟨p, 19, none⟩ = some _ := hr9.cell 17 _ rfl
            have F := hr9.frz
            obtain ⟨W6, hW6⟩ : ∃ x, x = wr9.setCell ⟨p, 19, none⟩ (.slice Av (cutV (valB (cutV 2 (cutQ 4 (cutQ 1 (shQ (liQ 4 (cutQ 1 (cutQ 4 (cutQ 4 (cutQ 1 q)))))))))) (cutQ 2 (cutQ 4 (cutQ 1 (shQ (liQ 4 (cutQ 1 (cutQ 4 (cutQ 4 (cutQ 1 q)))))))))).length cv) := ⟨_, rfl⟩
            obtain ⟨hr, hks⟩ := hr9.set (k := 17) (mlC (⟨2, s, d, ⟨nV 1 q, nV 4 (cutQ 1 q), nV 4 (cutQ 4 (cutQ 1 q))⟩, tx00, [], [], [], nV 1 (cutQ 4 (cutQ 4 (cutQ 1 q))), liV 4 (cutQ 1 (cutQ 4 (cutQ 4 (cutQ 1 q)))), shV (liQ 4 (cutQ 1 (cutQ 4 (cutQ 4 (cutQ 1 q))))), nV 1 (shQ (liQ 4 (cutQ 1 (cutQ 4 (cutQ 4 (cutQ 1 q)))))), nV 4 (cutQ 1 (shQ (liQ 4 (cutQ 1 (cutQ 4 (cutQ 4 (cutQ 1 q))))))), loV (cutQ 4 (cutQ 1 (shQ (liQ 4 (cutQ 1 (cutQ 4 (cutQ 4 (cutQ 1 q)))))))), 0, [], 0, 0⟩ : Ml) zS zS zS (.slice An (liV 4 (cutQ 1 (cutQ 4 (cutQ 4 (cutQ 1 q))))).length cn) (.slice Av (loV (cutQ 4 (cutQ 1 (shQ (liQ 4 (cutQ 1 (cutQ 4 (cutQ 4 (cutQ 1 q))))))))).length cv)).toList rfl rfl hW6
            have hk := hkk9.trans hks
            obtain ⟨_, hrow⟩ := hr9.row
            have hN := hN9.off hrow (by decide) hks
            have hV := Own.off hV9 hrow (by decide) hks
            have HW := hW6.symm
            clear hrd hkd hr7 hk7 hr8 hk8 hr9 hkk7 hkk8 hkk9 hks hW6 hHeld hw0 hrow hNd hN7 hN8 hN9 hV9 hb8 hvl hv2 hx9
            obtain ⟨qe, hqe, hre⟩ : ∃ qe, qe = loQ (cutQ 4 (cutQ 1 (shQ (liQ 4 (cutQ 1 (cutQ 4 (cutQ 4 (cutQ 1 q)))))))) ∧ RW w0 _ p qe (mlC (⟨2, s, d, ⟨nV 1 q, nV 4 (cutQ 1 q), nV 4 (cutQ 4 (cutQ 1 q))⟩, tx00, [], [], [], nV 1 (cutQ 4 (cutQ 4 (cutQ 1 q))), liV 4 (cutQ 1 (cutQ 4 (cutQ 4 (cutQ 1 q)))), shV (liQ 4 (cutQ 1 (cutQ 4 (cutQ 4 (cutQ 1 q))))), nV 1 (shQ (liQ 4 (cutQ 1 (cutQ 4 (cutQ 4 (cutQ 1 q)))))), nV 4 (cutQ 1 (shQ (liQ 4 (cutQ 1 (cutQ 4 (cutQ 4 (cutQ 1 q))))))), loV (cutQ 4 (cutQ 1 (shQ (liQ 4 (cutQ 1 (cutQ 4 (cutQ 4 (cutQ 1 q)))))))), 0, [], 0, 0⟩ : Ml) zS zS zS (.slice An (liV 4 (cutQ 1 (cutQ 4 (cutQ 4 (cutQ 1 q))))).length cn) (.slice Av (loV (cutQ 4 (cutQ 1 (shQ (liQ 4 (cutQ 1 (cutQ 4 (cutQ 4 (cutQ 1 q))))))))).length cv)).toList := ⟨_, rfl, hr⟩
            have HR : Hid (rdR 2 s d q = rdO (⟨2, s, d, ⟨nV 1 q, nV 4 (cutQ 1 q), nV 4 (cutQ 4 (cutQ 1 q))⟩, tx00, [], [], [], nV 1 (cutQ 4 (cutQ 4 (cutQ 1 q))), liV 4 (cutQ 1 (cutQ 4 (cutQ 4 (cutQ 1 q)))), shV (liQ 4 (cutQ 1 (cutQ 4 (cutQ 4 (cutQ 1 q))))), nV 1 (shQ (liQ 4 (cutQ 1 (cutQ 4 (cutQ 4 (cutQ 1 q)))))), nV 4 (cutQ 1 (shQ (liQ 4 (cutQ 1 (cutQ 4 (cutQ 4 (cutQ 1 q))))))), loV (cutQ 4 (cutQ 1 (shQ (liQ 4 (cutQ 1 (cutQ 4 (cutQ 4 (cutQ 1 q)))))))), 0, [], 0, 0⟩ : Ml) qe) := Lib.hid (by rw [hqe]; rfl)
            clear hr hqe
            cases qe with
            | none =>
             have HRn : Hid (rdR 2 s d q = .inl 3) := Lib.hid HR.out
             have C1 := hre.off
             rw [show (none : Option By).isNone = true from rfl] at C1
             have HRE := Lib.hid hre
             clear HR hre
             go_wp2
             go_ret
             refine ⟨hkw.trans hk, HRE.out.2.1, ?_⟩
             rw [HRn.out]
             rfl
            | some r =>
             have HRs : Hid (rdR 2 s d q = .inr ((⟨2, s, d, ⟨nV 1 q, nV 4 (cutQ 1 q), nV 4 (cutQ 4 (cutQ 1 q))⟩, tx00, [], [], [], nV 1 (cutQ 4 (cutQ 4 (cutQ 1 q))), liV 4 (cutQ 1 (cutQ 4 (cutQ 4 (cutQ 1 q)))), shV (liQ 4 (cutQ 1 (cutQ 4 (cutQ 4 (cutQ 1 q))))), nV 1 (shQ (liQ 4 (cutQ 1 (cutQ 4 (cutQ 4 (cutQ 1 q)))))), nV 4 (cutQ 1 (shQ (liQ 4 (cutQ 1 (cutQ 4 (cutQ 4 (cutQ 1 q))))))), loV (cutQ 4 (cutQ 1 (shQ (liQ 4 (cutQ 1 (cutQ 4 (cutQ 4 (cutQ 1 q)))))))), 0, [], 0, 0⟩ : Ml), r)) := Lib.hid HR.out
             have C1 := hre.off
             rw [show (some r : Option By).isNone = false from rfl] at C1
             have HRE := Lib.hid hre
             clear HR hre
             go_wp2
             go_ret
             refine ⟨hkw.trans hk, HRE.out.2.1, ?_⟩
             rw [HRs.out]
             exact ⟨rfl, _, _, _, _, _, ⟨OwnI.nil _ _, OwnDs.nil0 _ _, OwnI.nil _ _, hN, hV⟩, HRE.out⟩
           exact AllHead.nil
          exact AllHead.nil
         exact AllHead.nil
        exact AllHead.nil
       exact AllHead.nil
      exact AllHead.nil
     exact AllHead.nil
    exact AllHead.nil
   exact AllHead.nil
  exact AllHead.nil
 exact AllHead.nil
end Go.Proofs.YthlppbbejdeeoaaGreatDoor
