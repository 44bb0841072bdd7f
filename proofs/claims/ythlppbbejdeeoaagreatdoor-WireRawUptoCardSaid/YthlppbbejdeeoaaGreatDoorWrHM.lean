/- The walk of wire.reader.read at kind 1, and at all. Conditions: the hypotheses of each theorem. -/
import Derived.Test.YthlppbbejdeeoaaGreatDoorC3
import Derived.Test.YthlppbbejdeeoaaGreatDoorWrFM
import Derived.Test.YthlppbbejdeeoaaGreatDoorWrGM
namespace Go.Proofs.YthlppbbejdeeoaaGreatDoor
open Go.RowKit
theorem RW.there {w0 w : World} {p : Nat} {q : Option By} {cs : List Value} (h : RW w0 w p q cs) {o k n : Nat} (ho : o = k + 2) (hn : k + n ≤ cs.length) : w.there p o n := fun j hj => by
 subst ho
 obtain ⟨v, hv⟩ : ∃ v, cs[k + j]? = some v := ⟨_, List.getElem?_eq_getElem (by omega)⟩
 refine ⟨?_, h.frz _⟩
 have := h.cell (k + j) v hv
 rw [show k + j + 2 = k + 2 + j by omega] at this
 rw [this]
 rfl
theorem RW.range {w0 w : World} {p : Nat} {q : Option By} {cs : List Value} (h : RW w0 w p q cs) {o k : Nat} (ho : o = k + 2) (vs : List Value) (hn : ∀ j v, vs[j]? = some v → cs[k + j]? = some v) : w.rangeAt p o vs := fun j v hv => by
 subst ho
 have := h.cell (k + j) v (hn j v hv)
 rw [show k + j + 2 = k + 2 + j by omega] at this
 exact this
/-- the bytes are taken away -/
theorem RW.clear {w0 w w' : World} {p : Nat} {l : By} {cs : List Value} (h : RW w0 w p (some l) cs) (hw : w' = w.setCell ⟨p, 0, none⟩ (.slice none 0 0)) : RW w0 w' p (some []) cs ∧ Kept [p] w w' := by
 have hk : Kept [p] w w' := hw ▸ (Kept.refl _ _).setCell (.inl (by simp)) _
 refine ⟨⟨h.1, h.2.1.kept hk (by intro k hk; simp at hk; subst hk; exact h.1), ?_⟩, hk⟩
 obtain ⟨A, c, h1, h2⟩ := h.2.2
 refine ⟨none, 0, ?_, Nat.le_refl _, Sl.nil _ _⟩
 rw [hw, heap_setCell_same w p 0 _ _ _ h1]
 simp
theorem OwnDs.off {w w' : World} {base g : Nat} {v : Value} {l : List Dd} {cs : Array Value} (h : OwnDs w base v l) (hp : w.heap[g]? = some (.cells cs 54 (0, 0))) (hk : Kept [g] w w') : OwnDs w' base v l :=
 OwnDs.stp h (.kept hk (by intro k hk _; simp at hk; subst hk; exact ⟨_, _, _, hp, by decide⟩))
theorem OwnDs.low {w : World} {base b2 : Nat} {v : Value} {l : List Dd} (h : OwnDs w base v l) (hb : b2 ≤ base) : OwnDs w b2 v l := by
 obtain ⟨css, h1, h2, h3, h4⟩ := h
 refine ⟨css, h1, h2, owns_low h3 hb, fun k cs x a b => ?_⟩
 obtain ⟨pv, h5, h6⟩ := h4 k cs x a b
 exact ⟨pv, h5, h6.low hb⟩
set_option maxRecDepth 20000 in
set_option maxHeartbeats 8000000 in
theorem wread1_any (HCK : CheckLaw) (s d : Int) (q : Option By) (w0 w : World) (p : Nat) (h : RW w0 w p q (mlC (⟨1, s, d, tx00, tx00, [], [], [], 0, [], [], 0, 0, [], 0, [], 0, 0⟩ : Ml) zS zS zS zS zS).toList) :
 Calls Tryz.prog 19 #[pt p, .agg (hasC 1)] w (ReadW 1 s d q w0 w p) := by
 have HN := fun (w1 : World) (q : Option By) (cs : List Value) (n : Nat) (hn : n ≤ 4) (h1 : RW w0 w1 p q cs) => wrnum_any w0 w1 p n q cs h1 hn
 have HL := fun (w1 : World) (q : Option By) (cs : List Value) (n : Nat) (hn : n ≤ 4) (h1 : RW w0 w1 p q cs) => wrlist_any w0 w1 p n q cs h1 hn
 have HT := fun (w1 : World) (q : Option By) (cs : List Value) (h1 : RW w0 w1 p q cs) => wrtext_any w0 w1 p q cs h1
 have HC := fun (w1 : World) (n : Nat) (q : Option By) (cs : List Value) (h1 : RW w0 w1 p q cs) => wtake_any w0 w1 p n q cs h1
 obtain ⟨wa, hwa⟩ : ∃ wa, wa = w.alloc (.cells (hasC 1) 57) := ⟨_, rfl⟩
 have hxa : Ext w wa := by rw [hwa]; exact (Ext.refl w).alloc _
 have hrowH : wa.heap[w.heap.size]? = some (.cells (hasC 1) 57 (0, 0)) := by rw [hwa]; exact heap_alloc_new w _
 have hlt := h.lt
 have hlo := hxa.size
 have HK : ∀ j v, (hasC 1)[j]? = some v → ∀ W, Kept [p] wa W → W.cell? ⟨w.heap.size, j, none⟩ = some v := fun j v hv W hW => by
  rw [cell_of_row W _ j _ _ _ (hW.heap hrowH (by simp; omega)), hv]
 have K0 := HK 0 (.bool true) rfl
 have K1 := HK 1 (.bool true) rfl
 have K2 := HK 2 (.bool false) rfl
 have K3 := HK 3 (.bool false) rfl
 have K4 := HK 4 (.bool false) rfl
 have K5 := HK 5 (.bool false) rfl
 have hr := h.ext hxa
 have hk : Kept [p] wa wa := Kept.refl _ _
 have hkw : Kept [p] w wa := .of_ext hxa
 clear h hrowH HK
 have HW := hwa.symm
 clear hwa
 unfold pt at *
 go_enter Tryz.func19, Tryz.ntmps19
 go_wp2_with fail
 clear HW
 have hrd : RW w0 wa.drew p q _ := hr.ext (Ext.refl wa).drew
 have hkd : Kept [p] wa wa.drew := (Kept.refl _ _).drew
 clear hr hk
 refine wp_region_phase (S := fun w' => Ext w0 w') 26 (by kernel_rfl) (by kernel_rfl) ?_ (fun hHeld => ?_)
 ·exact hrd.2.1
 simp only [List.drop_succ_cons, List.drop_zero]
 refine name_head ?_
 intro wr0 hw0
 rw [hw0] at hHeld
 refine wt 0 _ ?_
 simp only [red, Act.put]
 refine wt 1 _ ?_
 simp only [red, Act.put]
 refine wt 2 _ ?_
 simp only [red, Act.put]
 refine wt 3 _ ?_
 simp only [red, Act.put]
 refine wt 4 _ ?_
 simp only [red, Act.put]
 refine wt 5 _ ?_
 simp only [red, Act.put]
 refine wt 7 _ ?_
 simp only [red, Act.put]
 refine wt 8 _ ?_
 simp only [red, Act.put]
 refine wt 9 _ ?_
 simp only [red, Act.put]
 refine wt 11 _ ?_
 simp only [red, Act.put]
 refine wt 12 _ ?_
 simp only [red, Act.put]
 refine wt 13 _ ?_
 simp only [red, Act.put]
 refine rd [6] ?_
 refine ac (fun K hK => ?_) ?_
 ·refine step_callG (by rfl) (by kernel_rfl) (HN _ _ _ 1 (by omega) (by rw [← hw0]; exact hrd)) ?_
  rintro e wr6 ⟨rfl, hr6, hk6⟩
  refine ⟨_, rfl, ?_⟩
  refine hK.out _ _ ?_ (fun hHeld => ?_)
  ·exact hr6.2.1
  clear hK K
  try simp only [red, Act.put]
  refine rd [10] ?_
  refine ac (fun K hK => ?_) ?_
  ·have hkk6 := hkd.trans (hw0 ▸ hk6)
   refine step_callG (by rfl) (by kernel_rfl) (HN _ _ _ 4 (by omega) hr6) ?_
   rintro e wr10 ⟨rfl, hr10, hk10⟩
   refine ⟨_, rfl, ?_⟩
   refine hK.out _ _ ?_ (fun hHeld => ?_)
   ·exact hr10.2.1
   clear hK K
   try simp only [red, Act.put]
   refine rd [14] ?_
   refine ac (fun K hK => ?_) ?_
   ·have hkk10 := hkk6.trans hk10
    refine step_callG (by rfl) (by kernel_rfl) (HN _ _ _ 4 (by omega) hr10) ?_
    rintro e wr14 ⟨rfl, hr14, hk14⟩
    refine ⟨_, rfl, ?_⟩
    refine hK.out _ _ ?_ (fun hHeld => ?_)
    ·exact hr14.2.1
    clear hK K
    try simp only [red, Act.put]
    refine wt 15 _ ?_
    simp only [red, Act.put]
    refine wt 16 _ ?_
    simp only [red, Act.put]
    refine wt 17 _ ?_
    simp only [red, Act.put]
    refine rd [18] ?_
    refine ac (fun K hK => ?_) ?_
    ·have hkk14 := hkk10.trans hk14
     have C : wr14.cell? ⟨p, 5, none⟩ = some _ := hr14.cell 3 _ rfl
     have F := hr14.frz
     go_simp
     refine name_world ?_
     rintro wr18 hw18
     obtain ⟨hr18, hk18⟩ := hr14.set (k := 3) (v := .int .i64 (valB (cutV 1 q) : Nat)) (mlC (⟨1, s, d, ⟨nV 1 q, 0, 0⟩, tx00, [], [], [], 0, [], [], 0, 0, [], 0, [], 0, 0⟩ : Ml) zS zS zS zS zS).toList rfl rfl hw18.symm
     clear C F hw18
     refine hK.out _ _ ?_ (fun hHeld => ?_)
     ·exact hr18.2.1
     clear hK K
     try simp only [red, Act.put]
     refine wt 19 _ ?_
     simp only [red, Act.put]
     refine wt 20 _ ?_
     simp only [red, Act.put]
     refine wt 21 _ ?_
     simp only [red, Act.put]
     refine rd [22] ?_
     refine ac (fun K hK => ?_) ?_
     ·have hkk18 := hkk14.trans hk18
      have C : wr18.cell? ⟨p, 6, none⟩ = some _ := hr18.cell 4 _ rfl
      have F := hr18.frz
      go_simp
      refine name_world ?_
      rintro wr22 hw22
      obtain ⟨hr22, hk22⟩ := hr18.set (k := 4) (v := .int .i64 (valB (cutV 4 (cutQ 1 q)) : Nat)) (mlC (⟨1, s, d, ⟨nV 1 q, nV 4 (cutQ 1 q), 0⟩, tx00, [], [], [], 0, [], [], 0, 0, [], 0, [], 0, 0⟩ : Ml) zS zS zS zS zS).toList rfl rfl hw22.symm
      clear C F hw22
      refine hK.out _ _ ?_ (fun hHeld => ?_)
      ·exact hr22.2.1
      clear hK K
      try simp only [red, Act.put]
      refine wt 23 _ ?_
      simp only [red, Act.put]
      refine wt 24 _ ?_
      simp only [red, Act.put]
      refine wt 25 _ ?_
      simp only [red, Act.put]
      refine wpHead_done (by kernel_rfl) ?_
      have hkk22 := hkk18.trans hk22
      have C : wr22.cell? ⟨p, 7, none⟩ = some _ := hr22.cell 5 _ rfl
      have F := hr22.frz
      obtain ⟨W2, hW2⟩ : ∃ x, x = wr22.setCell ⟨p, 7, none⟩ (.int .i64 (valB (cutV 4 (cutQ 4 (cutQ 1 q))) : Nat)) := ⟨_, rfl⟩
      obtain ⟨hr, hks⟩ := hr22.set (k := 5) (mlC (⟨1, s, d, ⟨nV 1 q, nV 4 (cutQ 1 q), nV 4 (cutQ 4 (cutQ 1 q))⟩, tx00, [], [], [], 0, [], [], 0, 0, [], 0, [], 0, 0⟩ : Ml) zS zS zS zS zS).toList rfl rfl hW2
      have hk := hkk22.trans hks
      have HW := hW2.symm
      clear hrd hkd hr6 hk6 hr10 hk10 hr14 hk14 hr18 hk18 hr22 hk22 hkk6 hkk10 hkk14 hkk18 hkk22 hks hW2 hHeld hw0
      go_wp2_with (with_reducible refine sL 25 ?_)
      clear HW C F
      refine go_on (wpList_load_mid rfl 25 _ rfl p 5 rfl [.int .i64 (nV 1 q), .int .i64 (nV 4 (cutQ 1 q)), .int .i64 (nV 4 (cutQ 4 (cutQ 1 q)))] _ (hr.range (k := 3) rfl _ (by intro j v hv; match j, hv with | 0, hv => exact hv | 1, hv => exact hv | 2, hv => exact hv)) Tryz.underlying25 rfl (by kernel_rfl) ?_)
      go_wp2_with (with_reducible first | refine sL 25 ?_ | refine sS 25 ?_)
      refine go_on (wpList_store_mid rfl 25 _ _ rfl p 8 #[.int .i64 (nV 1 q), .int .i64 (nV 4 (cutQ 1 q)), .int .i64 (nV 4 (cutQ 4 (cutQ 1 q)))] rfl rfl (hr.there (k := 6) rfl (by simp [mlC])) (by kernel_rfl) (by simp [Value.oneCell']) ?_)
      obtain ⟨W3, hW3⟩ : ∃ x, x = W2.setCells p 8 [.int .i64 (nV 1 q), .int .i64 (nV 4 (cutQ 1 q)), .int .i64 (nV 4 (cutQ 4 (cutQ 1 q)))] := ⟨_, rfl⟩
      rw [show (W2.setCells p 8 (#[.int .i64 (nV 1 q), .int .i64 (nV 4 (cutQ 1 q)), .int .i64 (nV 4 (cutQ 4 (cutQ 1 q)))]).toList) = W3 from hW3.symm]
      obtain ⟨hr3, hks⟩ := hr.set3 (k := 6) (mlC (⟨1, s, d, ⟨nV 1 q, nV 4 (cutQ 1 q), nV 4 (cutQ 4 (cutQ 1 q))⟩, ⟨nV 1 q, nV 4 (cutQ 1 q), nV 4 (cutQ 4 (cutQ 1 q))⟩, [], [], [], 0, [], [], 0, 0, [], 0, [], 0, 0⟩ : Ml) zS zS zS zS zS).toList rfl rfl hW3
      have hk3 := hk.trans hks
      clear hr hk hks hW3
      go_wp2_with fail
      refine (HL _ _ _ 1 (by omega) hr3).mono ?_
      rintro e W4 ⟨vP, rfl, hov, hr4, hk4⟩
      have hP4 := hov.low (Nat.le_trans hlo hk3.size)
      have hkk4 := hk3.trans hk4
      obtain ⟨Ap, cp, rfl⟩ := hov.form
      clear hr3 hk3 hk4 hov
      go_wp2_with fail
      refine (HL _ _ _ 4 (by omega) hr4).mono ?_
      rintro e W5 ⟨vE, rfl, hov, hr5, hk5⟩
      have hE5 := hov.low (Nat.le_trans hlo hkk4.size)
      obtain ⟨_, hrow⟩ := hr4.row
      have hP5 := hP4.off hrow (by decide) hk5
      have hkk5 := hkk4.trans hk5
      obtain ⟨Ae, ce, rfl⟩ := hov.form
      have C : W5.cell? ⟨p, 11, none⟩ = some _ := hr5.cell 9 _ rfl
      have F := hr5.frz
      clear hr4 hkk4 hk5 hov hP4 hrow
      obtain ⟨W6, hW6⟩ : ∃ x, x = W5.setCell ⟨p, 11, none⟩ (.slice Ap (liV 1 (cutQ 4 (cutQ 4 (cutQ 1 q)))).length cp) := ⟨_, rfl⟩
      obtain ⟨hr6, hks⟩ := hr5.set (k := 9) (mlC (⟨1, s, d, ⟨nV 1 q, nV 4 (cutQ 1 q), nV 4 (cutQ 4 (cutQ 1 q))⟩, ⟨nV 1 q, nV 4 (cutQ 1 q), nV 4 (cutQ 4 (cutQ 1 q))⟩, liV 1 (cutQ 4 (cutQ 4 (cutQ 1 q))), [], [], 0, [], [], 0, 0, [], 0, [], 0, 0⟩ : Ml) (.slice Ap (liV 1 (cutQ 4 (cutQ 4 (cutQ 1 q)))).length cp) zS zS zS zS).toList rfl rfl hW6
      obtain ⟨_, hrow⟩ := hr5.row
      have hP6 := hP5.off hrow (by decide) hks
      have hE6 := hE5.off hrow (by decide) hks
      have hkk6 := hkk5.trans hks
      have C2 : W6.cell? ⟨p, 13, none⟩ = some _ := hr6.cell 11 _ rfl
      have F2 := hr6.frz
      clear hrow hks hr5 hkk5 hP5 hE5
      obtain ⟨W7, hW7⟩ : ∃ x, x = W6.setCell ⟨p, 13, none⟩ (.slice Ae (liV 4 (liQ 1 (cutQ 4 (cutQ 4 (cutQ 1 q))))).length ce) := ⟨_, rfl⟩
      obtain ⟨hr, hks⟩ := hr6.set (k := 11) (mlC (⟨1, s, d, ⟨nV 1 q, nV 4 (cutQ 1 q), nV 4 (cutQ 4 (cutQ 1 q))⟩, ⟨nV 1 q, nV 4 (cutQ 1 q), nV 4 (cutQ 4 (cutQ 1 q))⟩, liV 1 (cutQ 4 (cutQ 4 (cutQ 1 q))), [], liV 4 (liQ 1 (cutQ 4 (cutQ 4 (cutQ 1 q)))), 0, [], [], 0, 0, [], 0, [], 0, 0⟩ : Ml) (.slice Ap (liV 1 (cutQ 4 (cutQ 4 (cutQ 1 q)))).length cp) zS (.slice Ae (liV 4 (liQ 1 (cutQ 4 (cutQ 4 (cutQ 1 q))))).length ce) zS zS).toList rfl rfl hW7
      obtain ⟨_, hrow⟩ := hr6.row
      have hP := hP6.off hrow (by decide) hks
      have hE := hE6.off hrow (by decide) hks
      have hk := hkk6.trans hks
      have HW6 := hW6.symm
      have HW := hW7.symm
      clear hrow hks hr6 hkk6 hP6 hE6 hW6 hW7
      obtain ⟨qe, hqe, hre⟩ : ∃ qe, qe = liQ 4 (liQ 1 (cutQ 4 (cutQ 4 (cutQ 1 q)))) ∧ RW w0 _ p qe (mlC (⟨1, s, d, ⟨nV 1 q, nV 4 (cutQ 1 q), nV 4 (cutQ 4 (cutQ 1 q))⟩, ⟨nV 1 q, nV 4 (cutQ 1 q), nV 4 (cutQ 4 (cutQ 1 q))⟩, liV 1 (cutQ 4 (cutQ 4 (cutQ 1 q))), [], liV 4 (liQ 1 (cutQ 4 (cutQ 4 (cutQ 1 q)))), 0, [], [], 0, 0, [], 0, [], 0, 0⟩ : Ml) (.slice Ap (liV 1 (cutQ 4 (cutQ 4 (cutQ 1 q)))).length cp) zS (.slice Ae (liV 4 (liQ 1 (cutQ 4 (cutQ 4 (cutQ 1 q))))).length ce) zS zS).toList := ⟨_, rfl, hr⟩
      have HR : Hid (rdR 1 s d q = rdO1 (⟨1, s, d, ⟨nV 1 q, nV 4 (cutQ 1 q), nV 4 (cutQ 4 (cutQ 1 q))⟩, ⟨nV 1 q, nV 4 (cutQ 1 q), nV 4 (cutQ 4 (cutQ 1 q))⟩, liV 1 (cutQ 4 (cutQ 4 (cutQ 1 q))), [], liV 4 (liQ 1 (cutQ 4 (cutQ 4 (cutQ 1 q)))), 0, [], [], 0, 0, [], 0, [], 0, 0⟩ : Ml) qe) := Lib.hid (by rw [hqe]; rfl)
      clear hr hqe
      cases qe with
      | none =>
       have HRn : Hid (rdR 1 s d q = .inl 3) := Lib.hid HR.out
       have C1 := hre.off
       rw [show (none : Option By).isNone = true from rfl] at C1
       have HRE := Lib.hid hre
       clear HR hre
       go_wp2
       go_ret
       refine ⟨hkw.trans hk, HRE.out.2.1, ?_⟩
       rw [HRn.out]
       rfl
      | some r =>
       have C1 := hre.off
       rw [show (some r : Option By).isNone = false from rfl] at C1
       obtain ⟨Ar, cr, hrow, hrc, hbr⟩ := hre.2.2
       obtain ⟨D0, -, -⟩ := cells2_at hrow
       have HTA := TakeAll_any HCK Ar cr r W7 (hbr.ext hre.2.1) hrc
       clear hrow
       go_wp2_with fail
       clear HW HW6 C F C2 F2 D0 C1
       refine HTA.mono ?_
       rintro e W8 ⟨hx8, hq8⟩
       have hr8 := hre.ext hx8
       have hk8 := hk.ext hx8
       have hP8 := hP.ext hx8
       have hE8 := hE.ext hx8
       have hsz := Nat.le_trans hlo hk.size
       obtain ⟨vrow, hrow⟩ := hr8.row
       have C : W8.cell? ⟨p, 12, none⟩ = some _ := hr8.cell 10 _ rfl
       have F := hr8.frz
       clear hre hk hP hE hbr HTA
       cases htk : takeAllT r with
       | inl c =>
        rw [htk] at hq8
        simp only at hq8
        subst hq8
        have HRi : Hid (rdR 1 s d q = .inl c) := Lib.hid (by rw [HR.out]; unfold rdO1; simp only [htk])
        obtain ⟨W9, hW9⟩ : ∃ x, x = W8.setCell ⟨p, 12, none⟩ (.slice none 0 0) := ⟨_, rfl⟩
        obtain ⟨hr9, hks9⟩ := hr8.set (k := 10) _ rfl rfl hW9
        obtain ⟨_, hrow9⟩ := hr9.row
        obtain ⟨D0, -, F9⟩ := cells2_at hrow9
        obtain ⟨W10, hW10⟩ : ∃ x, x = W9.setCell ⟨p, 0, none⟩ (.slice none 0 0) := ⟨_, rfl⟩
        obtain ⟨hr10, hks10⟩ := hr9.clear hW10
        have hkk := (hk8.trans hks9).trans hks10
        have hxx := hr10.2.1
        have HW9 := hW9.symm
        have HW10 := hW10.symm
        clear hr8 hk8 hP8 hE8 hr9 hks9 hrow9 hr10 hks10 hW9 hW10 HR htk hrow
        go_wp2
        go_ret
        refine ⟨hkw.trans hkk, hxx, ?_⟩
        rw [HRi.out]
        rfl
       | inr dv =>
        rw [htk] at hq8
        obtain ⟨vD, rfl, hD8⟩ := hq8
        have HRi : Hid (rdR 1 s d q = .inr ({ (⟨1, s, d, ⟨nV 1 q, nV 4 (cutQ 1 q), nV 4 (cutQ 4 (cutQ 1 q))⟩, ⟨nV 1 q, nV 4 (cutQ 1 q), nV 4 (cutQ 4 (cutQ 1 q))⟩, liV 1 (cutQ 4 (cutQ 4 (cutQ 1 q))), [], liV 4 (liQ 1 (cutQ 4 (cutQ 4 (cutQ 1 q)))), 0, [], [], 0, 0, [], 0, [], 0, 0⟩ : Ml) with deeds := dv }, [])) := Lib.hid (by rw [HR.out]; unfold rdO1; simp only [htk])
        have hD := hD8.low hsz
        obtain ⟨Ad, cd, rfl⟩ := hD8.form
        obtain ⟨W9, hW9⟩ : ∃ x, x = W8.setCell ⟨p, 12, none⟩ (.slice Ad dv.length cd) := ⟨_, rfl⟩
        obtain ⟨hr9, hks9⟩ := hr8.set (k := 10) (mlC { (⟨1, s, d, ⟨nV 1 q, nV 4 (cutQ 1 q), nV 4 (cutQ 4 (cutQ 1 q))⟩, ⟨nV 1 q, nV 4 (cutQ 1 q), nV 4 (cutQ 4 (cutQ 1 q))⟩, liV 1 (cutQ 4 (cutQ 4 (cutQ 1 q))), [], liV 4 (liQ 1 (cutQ 4 (cutQ 4 (cutQ 1 q)))), 0, [], [], 0, 0, [], 0, [], 0, 0⟩ : Ml) with deeds := dv } (.slice Ap (liV 1 (cutQ 4 (cutQ 4 (cutQ 1 q)))).length cp) (.slice Ad dv.length cd) (.slice Ae (liV 4 (liQ 1 (cutQ 4 (cutQ 4 (cutQ 1 q))))).length ce) zS zS).toList rfl rfl hW9
        have hP9 := hP8.off hrow (by decide) hks9
        have hE9 := hE8.off hrow (by decide) hks9
        have hD9 := hD.off hrow hks9
        obtain ⟨_, hrow9⟩ := hr9.row
        obtain ⟨D0, -, F9⟩ := cells2_at hrow9
        obtain ⟨W10, hW10⟩ : ∃ x, x = W9.setCell ⟨p, 0, none⟩ (.slice none 0 0) := ⟨_, rfl⟩
        obtain ⟨hr10, hks10⟩ := hr9.clear hW10
        have hP10 := hP9.off hrow9 (by decide) hks10
        have hE10 := hE9.off hrow9 (by decide) hks10
        have hD10 := hD9.off hrow9 hks10
        have hkk := (hk8.trans hks9).trans hks10
        have HW9 := hW9.symm
        have HW10 := hW10.symm
        have HR10 := Lib.hid hr10
        clear hr8 hk8 hP8 hE8 hr9 hks9 hrow9 hr10 hks10 hW9 hW10 HR htk hrow hP9 hE9 hD9 hD hD8
        go_wp2
        go_ret
        refine ⟨hkw.trans hkk, HR10.out.2.1, ?_⟩
        rw [HRi.out]
        exact ⟨rfl, _, _, _, _, _, ⟨hP10, hD10, hE10, OwnI.nil _ _, Own.nil _ _⟩, HR10.out⟩
     exact AllHead.nil
    exact AllHead.nil
   exact AllHead.nil
  exact AllHead.nil
 exact AllHead.nil
theorem wread_any (HCK : CheckLaw) (k s d : Int) (hk : inI k 1 7 = true) (q : Option By) (w0 w : World) (p : Nat) (h : RW w0 w p q (mlC ⟨k, s, d, tx00, tx00, [], [], [], 0, [], [], 0, 0, [], 0, [], 0, 0⟩ zS zS zS zS zS).toList) :
 Calls Tryz.prog 19 #[pt p, .agg (hasC k)] w (ReadW k s d q w0 w p) := by
 rcases kind_ok hk with rfl | rfl | rfl | rfl | rfl | rfl | rfl
 ·exact wread1_any HCK s d q w0 w p h
 ·exact wread2_any s d q w0 w p h
 ·exact wread3_any s d q w0 w p h
 ·exact wread4_any s d q w0 w p h
 ·exact wread5_any s d q w0 w p h
 ·exact wread6_any s d q w0 w p h
 ·exact wread7_any s d q w0 w p h
end Go.Proofs.YthlppbbejdeeoaaGreatDoor
