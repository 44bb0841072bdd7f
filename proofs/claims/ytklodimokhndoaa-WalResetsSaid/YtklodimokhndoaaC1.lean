/- The walks of the law's pair.open and start, on new disks. Conditions: the hypotheses of each theorem. The walk of the law's start, without raw writes. No condition. Calls on a disk and a log in memory (Force, Cut, Crash); the walk of the law's live. No condition but those of each theorem. -/
import Derived.Test.YtklodimokhndoaaWbP
import Derived.Test.YtklodimokhndoaaC0
import Derived.Test.YtklodimokhndoaaC7
import Derived.Lib.SlBytesConst
namespace Go.Proofs.Ytklodimokhndoaa
open Go.RowKit
theorem lvN_ok : lvN.Ok := newD_ok (by omega) (by omega)
theorem lvN_few : lvN.Few 0 := newD_few 23
set_option maxRecDepth 100000 in
theorem lvN_zero : (∀ i : Nat, i < lvN.sure.length → readL lvN (i : Int) = zpage) ∧ flushE lvN = 0 ∧ (flushS lvN).down = false ∧ (crownD (flushS lvN) 1 1).1 = 0 := by
  refine ⟨?_, by decide +kernel, by decide +kernel, by decide +kernel⟩
  intro i hi
  have h : ∀ i : Fin 23, readL lvN ((i.val : Nat) : Int) = zpage := by decide +kernel
  exact h ⟨i, by simpa [lvN, newD] using hi⟩
/-- a pair in memory -/
structure Pr (M N : List Nat) (w0 w : World) (P p q x y : Nat) (s : Dk) (g : Lg) : Prop where
  ex : Ext w0 w
  row : w.heap[P]? = some (.cells #[pt p, pt q, pt x, pt y] 96 (0, 0))
  sys : Sys M N w p q s g
  PM : P ∉ M
  new : ∀ k ∈ M, w0.heap.size ≤ k
  PN : P ∈ N
set_option maxRecDepth 20000 in
set_option maxHeartbeats 2000000 in
theorem popen_any {B : List Nat} {w0 w : World} {P p x : Nat} {v1 v2 : Value} (hx0 : Ext w0 w) (hr : w.heap[P]? = some (.cells #[pt p, v1, pt x, v2] 96 (0, 0))) (hPB : P ∉ B) (hPx : P ≠ x) (hxB : x ∉ B) (hPn : w0.heap.size ≤ P) (hxn : w0.heap.size ≤ x) (hBn : ∀ k ∈ B, w0.heap.size ≤ k)
    (hD : Disk B w p lvN) (hR : Rf (x :: B) w x lvN) :
    Calls Try.prog 68 #[pt P] w fun e w' => e = .returned (.bool true) ∧ ∃ q y M N, Pr M N w0 w' P p q x y lvA.2.1 lvA.2.2 ∧ RgC w' y x 0 1 10 0 1 (.slice none 0 0) (.slice none 0 0) := by
  have hPl := obj_lt hr
  have hxl : x < w.heap.size := by obtain ⟨_, _, _, _, hI⟩ := hR; exact hI.lt
  obtain ⟨r0, r1, r2, r3, rf⟩ := row4_at hr
  have HW := wopen_any (B := B) [P, x] hD lvN_ok lvN_few (by omega) 1 21 rfl (by omega) (by omega) (by omega) (by decide) (by intro k hk; simp at hk; omega)
  have HO := Lib.hid lv_true.1
  have HX0 := Lib.hid hx0
  have HROW := Lib.hid hr
  have HR := Lib.hid hR
  clear hx0 hr hD hR
  unfold pt at *
  go_enter Try.func68, Try.ntmps68
  go_wp2_with fail
  refine HW.mono ?_
  intro e w1 hs1
  clear HW
  rcases hs1 with ⟨hne, -⟩ | ⟨-, q, M, rfl, hsys, ht⟩
  · exact absurd HO.out hne
  have hPM : P ∉ M := fun hm => by rcases ht.new P hm with h | h; exact hPB h; omega
  have hxM : x ∉ M := fun hm => by rcases ht.new x hm with h | h; exact hxB h; omega
  have HROW1 := Lib.hid (ht.kept.heap HROW.out hPB)
  have hMn : ∀ k ∈ M, w0.heap.size ≤ k := fun k hk => by rcases ht.new k hk with h | h; exact hBn k h; exact Nat.le_trans HX0.out.size h
  have hx1 : Ext w0 w1 := HX0.out.kept ht.kept hBn
  have hr1 : Rf [x] w1 x lvN := by
    obtain ⟨a1, a2, a3, a4, hI⟩ := HR.out
    exact ⟨a1, a2, a3, a4, (hI.kept ht.kept hxB (fun k hk => by simp [hk])).old (fun k hk => by simp at hk; subst hk; simp)⟩
  obtain ⟨-, -, r2, -, -⟩ := row4_at HROW1.out
  obtain ⟨z1, z2, z3, z4⟩ := lvN_zero
  have HRO := ropen_new hr1 lvN_ok rfl (by decide) (by decide) (by decide) z1 1 21 (by omega) (by omega) (by omega) (by decide) z2 z3 z4
  have HSY := Lib.hid hsys
  have HX1 := Lib.hid hx1
  have hpl1 : P < w1.heap.size := obj_lt HROW1.out
  have hxl1 : x < w1.heap.size := Nat.lt_of_lt_of_le hxl ht.kept.size
  clear hsys ht hx1 hr1 r0 r1 r3 rf z1 z2 z3 z4
  unfold pt at *
  go_wp2_with fail
  refine HRO.mono ?_
  rintro e w2 ⟨y, rfl, hk2, hyn, hy⟩
  clear HRO
  have hyP : y ≠ P := by omega
  have HROW2 := Lib.hid (hk2.heap HROW1.out (by simpa using hPx))
  have HSY2 : Hid (Sys M (M ++ [P, x]) w2 p q lvA.2.1 lvA.2.2) := Lib.hid (by
    obtain ⟨B1, A1, c1, v1, vs1, hI⟩ := HSY.out
    exact ⟨B1, A1, c1, v1, vs1, hI.other hk2 (by simpa using hxM) (by simp)⟩)
  have HX2 := Lib.hid (HX1.out.kept hk2 (by simpa using hxn))
  obtain ⟨r0, r1, r2, r3, rf⟩ := row4_at HROW2.out
  have rf1 := rf 1
  have rf3 := rf 3
  have HY := Lib.hid hy
  clear hk2 hy rf
  go_wp2
  go_ret
  have hfin : ((w2.setCell ⟨P, 1, none⟩ (pt q)).setCell ⟨P, 3, none⟩ (pt y)).heap[P]? = some (.cells #[pt p, pt q, pt x, pt y] 96 (0, 0)) := by
    have h1 := heap_setCell_same w2 P 1 _ _ (pt q) HROW2.out
    have h2 := heap_setCell_same _ P 3 _ _ (pt y) h1
    simpa [pt] using h2
  have hkf : Kept [P] w2 ((w2.setCell ⟨P, 1, none⟩ (pt q)).setCell ⟨P, 3, none⟩ (pt y)) := ((Kept.refl _ _).setCell (.inl (by simp)) _).setCell (.inl (by simp)) _
  refine ⟨rfl, q, y, M, M ++ [P, x], ⟨HX2.out.kept hkf (by simpa using hPn), hfin, ?_, hPM, hMn, by simp⟩, HY.out.kept hkf (by simpa using hyP)⟩
  obtain ⟨B1, A1, c1, v1, vs1, hI⟩ := HSY2.out
  exact ⟨B1, A1, c1, v1, vs1, hI.other hkf (by simpa using hPM) (by simp)⟩
end Go.Proofs.Ytklodimokhndoaa
namespace Go.Proofs.Ytklodimokhndoaa
open Go.RowKit
set_option maxRecDepth 20000 in
set_option maxHeartbeats 4000000 in
theorem start_any (w0 : World) : Calls Try.prog 42 #[.slice none 0 0] w0 fun e w' => ∃ P p q x y M N, e = .returned (.tuple #[pt P, .bool true]) ∧ Pr M N w0 w' P p q x y lvA.2.1 lvA.2.2 := by
  have hr0 := heap_alloc_new w0 (.cells #[.pointer none, .pointer none, .pointer none, .pointer none] 96)
  have hx0 := (Ext.refl w0).alloc (.cells #[.pointer none, .pointer none, .pointer none, .pointer none] 96)
  obtain ⟨wa, hwa⟩ : ∃ wa, w0.alloc (.cells #[.pointer none, .pointer none, .pointer none, .pointer none] 96) = wa := ⟨_, rfl⟩
  rw [hwa] at hr0 hx0
  have HWA := Lib.hid hwa
  have HX0 := Lib.hid hx0
  have HR0 := Lib.hid hr0
  have HN := New_ok 23 wa (by omega) (by omega)
  clear hwa hr0 hx0
  go_enter Try.func42, Try.ntmps42
  go_wp2_with fail
  rw [HWA.out]
  refine HN.mono ?_
  rintro e w1 ⟨p, B, rfl, hx1, hd1, hB1⟩
  clear HN
  obtain ⟨r0, r1, r2, r3, rf⟩ := row4_at (hx1.obj HR0.out)
  have rf0 := rf 0
  have hPl : w0.heap.size < wa.heap.size := obj_lt HR0.out
  have HROW2 : Hid ((w1.setCell ⟨w0.heap.size, 0, none⟩ (pt p)).heap[w0.heap.size]? = some (.cells #[pt p, .pointer none, .pointer none, .pointer none] 96 (0, 0))) := Lib.hid (by
    have := heap_setCell_same w1 w0.heap.size 0 _ _ (pt p) (hx1.obj HR0.out)
    simpa [pt] using this)
  have hk2 : Kept [w0.heap.size] w1 (w1.setCell ⟨w0.heap.size, 0, none⟩ (pt p)) := (Kept.refl _ _).setCell (.inl (by simp)) _
  have hPB : w0.heap.size ∉ B := fun hm => by have := hB1 _ hm; omega
  have HD2 : Hid (Disk B (w1.setCell ⟨w0.heap.size, 0, none⟩ (pt p)) p lvN) := Lib.hid (by
    obtain ⟨g0, cap0, v0, hi⟩ := hd1
    exact ⟨g0, cap0, v0, hi.kept hk2 fun k hk hm => by simp at hm; subst hm; exact hPB hk⟩)
  have HX2 : Hid (Ext w0 (w1.setCell ⟨w0.heap.size, 0, none⟩ (pt p))) := Lib.hid ((HX0.out.trans hx1).setCell (p := ⟨w0.heap.size, 0, none⟩) (Nat.le_refl _) _)
  obtain ⟨w2, hw2⟩ : ∃ w2, w1.setCell ⟨w0.heap.size, 0, none⟩ (pt p) = w2 := ⟨_, rfl⟩
  rw [hw2] at HROW2 HD2 HX2
  have HW2 := Lib.hid hw2
  have hs12 : w2.heap.size = w1.heap.size := by rw [← hw2]; simp
  have hwa1 := hx1.size
  have HS12 := Lib.hid hs12
  have HRN := RNew_ok 23 w2 (by omega) (by omega)
  clear hw2 hs12 hk2 hd1 hx1 rf
  unfold pt at *
  go_wp2_with fail
  rw [HW2.out]
  refine HRN.mono ?_
  rintro e w3 ⟨rfl, hx3, hrf⟩
  clear HRN r0 r1 r2 r3 rf0
  have hxP : w2.heap.size ≠ w0.heap.size := by have := HS12.out; omega
  have hBl := HD2.out.lt
  have hrf3 := hrf (w2.heap.size :: B) (by intro k hk; rcases List.mem_cons.1 hk with rfl | hk; exact Nat.le_refl _; exact Nat.le_of_lt (hBl k hk))
  obtain ⟨r0, r1, r2, r3, rf⟩ := row4_at (hx3.obj HROW2.out)
  have rf2 := rf 2
  have HROW4 : Hid ((w3.setCell ⟨w0.heap.size, 2, none⟩ (pt w2.heap.size)).heap[w0.heap.size]? = some (.cells #[pt p, .pointer none, pt w2.heap.size, .pointer none] 96 (0, 0))) := Lib.hid (by
    have := heap_setCell_same w3 w0.heap.size 2 _ _ (pt w2.heap.size) (hx3.obj HROW2.out)
    simpa [pt] using this)
  have hk4 : Kept [w0.heap.size] w3 (w3.setCell ⟨w0.heap.size, 2, none⟩ (pt w2.heap.size)) := (Kept.refl _ _).setCell (.inl (by simp)) _
  have HD4 : Hid (Disk B (w3.setCell ⟨w0.heap.size, 2, none⟩ (pt w2.heap.size)) p lvN) := Lib.hid (by
    obtain ⟨g0, cap0, v0, hi⟩ := HD2.out.ext hx3
    exact ⟨g0, cap0, v0, hi.kept hk4 fun k hk hm => by simp at hm; subst hm; exact hPB hk⟩)
  have hrf3' := hrf (w0.heap.size :: w2.heap.size :: B) (by intro k hk; simp only [List.mem_cons] at hk; rcases hk with rfl | rfl | hk; (have := HS12.out; omega); exact Nat.le_refl _; exact Nat.le_of_lt (hBl k hk))
  have HR4 : Hid (Rf (w2.heap.size :: B) (w3.setCell ⟨w0.heap.size, 2, none⟩ (pt w2.heap.size)) w2.heap.size lvN) := Lib.hid (by
    obtain ⟨a1, a2, a3, a4, hI⟩ := hrf3'
    exact ⟨a1, a2, a3, a4, (hI.kept hk4 (by simpa using hxP) (by simp)).old (fun k hk => by simp only [List.mem_cons] at hk ⊢; rcases hk with rfl | hk; exact .inl (.inr (.inl rfl)); exact .inl (.inr (.inr hk)))⟩)
  have HX4 : Hid (Ext w0 (w3.setCell ⟨w0.heap.size, 2, none⟩ (pt w2.heap.size))) := Lib.hid ((HX2.out.trans hx3).setCell (p := ⟨w0.heap.size, 2, none⟩) (Nat.le_refl _) _)
  have hxB : w2.heap.size ∉ B := fun hm => Nat.lt_irrefl _ (hBl _ hm)
  have hBn : ∀ k ∈ B, w0.heap.size ≤ k := fun k hk => by have := hB1 k hk; have := HX0.out.size; omega
  have hxn : w0.heap.size ≤ w2.heap.size := HX2.out.size
  obtain ⟨w4, hw4⟩ : ∃ w4, w3.setCell ⟨w0.heap.size, 2, none⟩ (pt w2.heap.size) = w4 := ⟨_, rfl⟩
  rw [hw4] at HROW4 HD4 HX4 HR4
  have HW4 := Lib.hid hw4
  clear hw4 hk4 hrf hrf3 hrf3' hx3 rf HD2 HROW2 HX2 HS12
  generalize w2.heap.size = x at *
  generalize hP : w0.heap.size = P at *
  have HP := Lib.hid hP
  clear hP
  unfold pt at *
  go_wp2_with fail
  rw [HW4.out]
  clear r0 r1 r2 r3 rf2 HW4
  go_loopw [7] (fun iv wr => iv = .int .i64 0 ∧ wr = w4) (fun _ _ => 0)
  case atStart => exact ⟨rfl, rfl⟩
  case round =>
    obtain ⟨rfl, hw⟩ := hrel
    subst hw
    have hxd : Ext wr wr.drew := (Ext.refl _).drew
    have HPO := popen_any (HX4.out.trans hxd) (hxd.obj HROW4.out) hPB (fun e => hxP e.symm) hxB (by rw [HP.out]; exact Nat.le_refl _) (by rw [HP.out]; exact hxn) (by rw [HP.out]; exact hBn) (HD4.out.ext hxd) (by obtain ⟨a1, a2, a3, a4, hI⟩ := HR4.out; exact ⟨a1, a2, a3, a4, hI.ext hxd⟩)
    have hxx := HX4.out.trans hxd
    unfold pt at *
    go_wp2_with fail
    refine wp_region_phase (S := fun V => Ext w0 V) 26 (by kernel_rfl) (by kernel_rfl) ?_ (fun hHeld => ?_)
    · exact hxx
    simp only [List.drop_succ_cons, List.drop_zero]
    refine name_head ?_
    intro wr0 hw0
    rw [hw0] at hHeld
    refine wpHead_take (i := 0) (v := ?_) (by rfl) (by kernel_rfl) (by kernel_rfl) (by exact fun _ _ _ h => h) (Or.inl ⟨by rfl, ?_⟩) (by assumption) ?_
    rotate_left
    · intro w hSw
      first | (go_simp; done) | (go_simp; with_reducible rfl)
    simp only [List.getElem_toArray, List.getElem_cons_zero, Act.put, List.setIfInBounds_toArray, List.set_cons_zero, List.set_cons_succ]
    refine wpHead_take (i := 1) (v := ?_) (by rfl) (by kernel_rfl) (by kernel_rfl) (by exact fun _ _ _ h => h) (Or.inl ⟨by rfl, ?_⟩) (by assumption) ?_
    rotate_left
    · intro w hSw
      first | (go_simp; done) | (go_simp; with_reducible rfl)
    simp only [List.getElem_toArray, List.getElem_cons_succ, List.getElem_cons_zero, Act.put, List.setIfInBounds_toArray, List.set_cons_zero, List.set_cons_succ]
    refine wpHead_ready (rs := [2]) (by kernel_rfl) (by simp) (by kernel_rfl) ?_
    refine AllHead.cons (by rfl) (fun K hK => ?_) ?_
    · refine step_callG (by rfl) (by kernel_rfl) (hw0 ▸ HPO) ?_
      rintro e wr2 ⟨rfl, q, y, M, N, hpr, hy⟩
      obtain ⟨B1, A1, c1, v1, vs1, hI⟩ := hpr.sys
      have hgr : lvA.2.2.recs = [] := lv_true.2.1
      have C1 : ∀ W, Ext wr2 W → W.cell? ⟨P, 1, none⟩ = some (pt q) := fun W hx => hx.cell (row4_at hpr.row).2.1
      have C3 : ∀ W, Ext wr2 W → W.cell? ⟨P, 3, none⟩ = some (pt y) := fun W hx => hx.cell (row4_at hpr.row).2.2.2.1
      have Y6 : ∀ W, Ext wr2 W → W.cell? ⟨y, 6, none⟩ = some (.slice none 0 0) := fun W hx => hx.cell hy.cell.2.2.2.2.1
      have HRC := wrecords_any hI (by rw [hgr]; simp) (by rw [hgr]; simp)
      rw [hgr] at HRC
      have HPR := Lib.hid hpr
      have hxv := hpr.ex
      clear hpr hy hI hgr
      unfold pt at C1 C3 HRC
      refine ⟨_, rfl, ?_⟩
      refine hK.out _ _ ?_ (fun hHeld => ?_)
      · exact hxv
      clear hK K
      try simp only [List.getElem_toArray, List.getElem_cons_succ, List.getElem_cons_zero, Act.put, List.setIfInBounds_toArray, List.set_cons_zero, List.set_cons_succ]
      refine wpHead_take (i := 3) (v := ?_) (by rfl) (by kernel_rfl) (by kernel_rfl) (by exact fun _ _ _ h => h) (Or.inl ⟨by rfl, ?_⟩) (by assumption) ?_
      rotate_left
      · intro w hSw
        first | (go_simp; done) | (go_simp; with_reducible rfl)
      simp only [List.getElem_toArray, List.getElem_cons_succ, List.getElem_cons_zero, Act.put, List.setIfInBounds_toArray, List.set_cons_zero, List.set_cons_succ]
      refine wpHead_take (i := 4) (v := ?_) (by rfl) (by kernel_rfl) (by kernel_rfl) (by exact fun _ _ _ h => h) (Or.inl ⟨by rfl, ?_⟩) (by assumption) ?_
      rotate_left
      · intro w hSw
        first | (go_simp; done) | (go_simp; with_reducible rfl)
      simp only [List.getElem_toArray, List.getElem_cons_succ, List.getElem_cons_zero, Act.put, List.setIfInBounds_toArray, List.set_cons_zero, List.set_cons_succ]
      refine wpHead_take (i := 5) (v := ?_) (by rfl) (by kernel_rfl) (by kernel_rfl) (by exact fun _ _ _ h => h) (Or.inl ⟨by rfl, ?_⟩) (by assumption) ?_
      rotate_left
      · intro w hSw
        first | (go_simp; done) | (go_simp; with_reducible rfl)
      simp only [List.getElem_toArray, List.getElem_cons_succ, List.getElem_cons_zero, Act.put, List.setIfInBounds_toArray, List.set_cons_zero, List.set_cons_succ]
      refine wpHead_take (i := 6) (v := ?_) (by rfl) (by kernel_rfl) (by kernel_rfl) (by exact fun _ _ _ h => h) (Or.inl ⟨by rfl, ?_⟩) (by assumption) ?_
      rotate_left
      · intro w hSw
        first | (go_simp; done) | (go_simp; with_reducible rfl)
      simp only [List.getElem_toArray, List.getElem_cons_succ, List.getElem_cons_zero, Act.put, List.setIfInBounds_toArray, List.set_cons_zero, List.set_cons_succ]
      refine wpHead_ready (rs := [7]) (by kernel_rfl) (by simp) (by kernel_rfl) ?_
      refine AllHead.cons (by rfl) (fun K hK => ?_) ?_
      · go_simp
        refine name_world ?_
        rintro wr7 hw7
        obtain rfl := hw7.symm
        refine hK.out _ _ ?_ (fun hHeld => ?_)
        · exact hHeld
        clear hK K
        try simp only [List.getElem_toArray, List.getElem_cons_succ, List.getElem_cons_zero, Act.put, List.setIfInBounds_toArray, List.set_cons_zero, List.set_cons_succ]
        refine wpHead_take (i := 8) (v := ?_) (by rfl) (by kernel_rfl) (by kernel_rfl) (by exact fun _ _ _ h => h) (Or.inl ⟨by rfl, ?_⟩) (by assumption) ?_
        rotate_left
        · intro w hSw
          first | (go_simp; done) | (go_simp; with_reducible rfl)
        simp only [List.getElem_toArray, List.getElem_cons_succ, List.getElem_cons_zero, Act.put, List.setIfInBounds_toArray, List.set_cons_zero, List.set_cons_succ]
        refine wpHead_take (i := 9) (v := ?_) (by rfl) (by kernel_rfl) (by kernel_rfl) (by exact fun _ _ _ h => h) (Or.inl ⟨by rfl, ?_⟩) (by assumption) ?_
        rotate_left
        · intro w hSw
          first | (go_simp; done) | (go_simp; with_reducible rfl)
        simp only [List.getElem_toArray, List.getElem_cons_succ, List.getElem_cons_zero, Act.put, List.setIfInBounds_toArray, List.set_cons_zero, List.set_cons_succ]
        refine wpHead_take (i := 10) (v := ?_) (by rfl) (by kernel_rfl) (by kernel_rfl) (by exact fun _ _ _ h => h) (Or.inl ⟨by rfl, ?_⟩) (by assumption) ?_
        rotate_left
        · intro w hSw
          first | (go_simp; done) | (go_simp; with_reducible rfl)
        simp only [List.getElem_toArray, List.getElem_cons_succ, List.getElem_cons_zero, Act.put, List.setIfInBounds_toArray, List.set_cons_zero, List.set_cons_succ]
        refine wpHead_take (i := 11) (v := ?_) (by rfl) (by kernel_rfl) (by kernel_rfl) (by exact fun _ _ _ h => h) (Or.inl ⟨by rfl, ?_⟩) (by assumption) ?_
        rotate_left
        · intro w hSw
          first | (go_simp; done) | (go_simp; with_reducible rfl)
        simp only [List.getElem_toArray, List.getElem_cons_succ, List.getElem_cons_zero, Act.put, List.setIfInBounds_toArray, List.set_cons_zero, List.set_cons_succ]
        refine wpHead_take (i := 12) (v := ?_) (by rfl) (by kernel_rfl) (by kernel_rfl) (by exact fun _ _ _ h => h) (Or.inl ⟨by rfl, ?_⟩) (by assumption) ?_
        rotate_left
        · intro w hSw
          first | (go_simp; done) | (go_simp; with_reducible rfl)
        simp only [List.getElem_toArray, List.getElem_cons_succ, List.getElem_cons_zero, Act.put, List.setIfInBounds_toArray, List.set_cons_zero, List.set_cons_succ]
        refine wpHead_take (i := 13) (v := ?_) (by rfl) (by kernel_rfl) (by kernel_rfl) (by exact fun _ _ _ h => h) (Or.inl ⟨by rfl, ?_⟩) (by assumption) ?_
        rotate_left
        · intro w hSw
          first | (go_simp; done) | (go_simp; with_reducible rfl)
        simp only [List.getElem_toArray, List.getElem_cons_succ, List.getElem_cons_zero, Act.put, List.setIfInBounds_toArray, List.set_cons_zero, List.set_cons_succ]
        refine wpHead_take (i := 16) (v := ?_) (by rfl) (by kernel_rfl) (by kernel_rfl) (by exact fun _ _ _ h => h) (Or.inl ⟨by rfl, ?_⟩) (by assumption) ?_
        rotate_left
        · intro w hSw
          first | (go_simp; done) | (go_simp; with_reducible rfl)
        simp only [List.getElem_toArray, List.getElem_cons_succ, List.getElem_cons_zero, Act.put, List.setIfInBounds_toArray, List.set_cons_zero, List.set_cons_succ]
        refine wpHead_take (i := 17) (v := ?_) (by rfl) (by kernel_rfl) (by kernel_rfl) (by exact fun _ _ _ h => h) (Or.inl ⟨by rfl, ?_⟩) (by assumption) ?_
        rotate_left
        · intro w hSw
          first | (go_simp; done) | (go_simp; with_reducible rfl)
        simp only [List.getElem_toArray, List.getElem_cons_succ, List.getElem_cons_zero, Act.put, List.setIfInBounds_toArray, List.set_cons_zero, List.set_cons_succ]
        refine wpHead_take (i := 18) (v := ?_) (by rfl) (by kernel_rfl) (by kernel_rfl) (by exact fun _ _ _ h => h) (Or.inl ⟨by rfl, ?_⟩) (by assumption) ?_
        rotate_left
        · intro w hSw
          first | (go_simp; done) | (go_simp; with_reducible rfl)
        simp only [List.getElem_toArray, List.getElem_cons_succ, List.getElem_cons_zero, Act.put, List.setIfInBounds_toArray, List.set_cons_zero, List.set_cons_succ]
        refine wpHead_ready (rs := [14, 19]) (by kernel_rfl) (by simp) (by kernel_rfl) ?_
        refine AllHead.cons (by rfl) (fun K hK => ?_) ?_
        · go_simp
          refine name_world ?_
          rintro wr14 hw14
          obtain rfl := hw14.symm
          refine hK.out _ _ ?_ (fun hHeld => ?_)
          · exact hHeld
          clear hK K
          try simp only [List.getElem_toArray, List.getElem_cons_succ, List.getElem_cons_zero, Act.put, List.setIfInBounds_toArray, List.set_cons_zero, List.set_cons_succ]
          refine wpHead_ready (rs := [15, 19]) (by kernel_rfl) (by simp) (by kernel_rfl) ?_
          refine AllHead.cons (by rfl) (fun K hK => ?_) ?_
          · refine step_callG (by rfl) (by kernel_rfl) HRC ?_
            rintro e wr15 ⟨v5, rfl, ho5, hx5⟩
            obtain ⟨A5, c5, rfl⟩ := ho5.form
            have HSM := RSame_any A5 none c5 0 0 0 [] [] wr15 ho5.bss (fun k l hk => by simp at hk) rfl rfl (by simp)
            have hx6 := hHeld.trans hx5
            refine ⟨_, rfl, ?_⟩
            refine hK.out _ _ ?_ (fun hHeld => ?_)
            · exact hx6
            clear hK K
            try simp only [List.getElem_toArray, List.getElem_cons_succ, List.getElem_cons_zero, Act.put, List.setIfInBounds_toArray, List.set_cons_zero, List.set_cons_succ]
            refine wpHead_ready (rs := [19]) (by kernel_rfl) (by simp) (by kernel_rfl) ?_
            refine AllHead.cons (by rfl) (fun K hK => ?_) ?_
            · go_simp
              refine name_world ?_
              rintro wr19 hw19
              obtain rfl := hw19.symm
              refine hK.out _ _ ?_ (fun hHeld => ?_)
              · exact hHeld
              clear hK K
              try simp only [List.getElem_toArray, List.getElem_cons_succ, List.getElem_cons_zero, Act.put, List.setIfInBounds_toArray, List.set_cons_zero, List.set_cons_succ]
              refine wpHead_take (i := 20) (v := ?_) (by rfl) (by kernel_rfl) (by kernel_rfl) (by exact fun _ _ _ h => h) (Or.inl ⟨by rfl, ?_⟩) (by assumption) ?_
              rotate_left
              · intro w hSw
                first | (go_simp; done) | (go_simp; with_reducible rfl)
              simp only [List.getElem_toArray, List.getElem_cons_succ, List.getElem_cons_zero, Act.put, List.setIfInBounds_toArray, List.set_cons_zero, List.set_cons_succ]
              refine wpHead_take (i := 21) (v := ?_) (by rfl) (by kernel_rfl) (by kernel_rfl) (by exact fun _ _ _ h => h) (Or.inl ⟨by rfl, ?_⟩) (by assumption) ?_
              rotate_left
              · intro w hSw
                first | (go_simp; done) | (go_simp; with_reducible rfl)
              simp only [List.getElem_toArray, List.getElem_cons_succ, List.getElem_cons_zero, Act.put, List.setIfInBounds_toArray, List.set_cons_zero, List.set_cons_succ]
              refine wpHead_ready (rs := [22]) (by kernel_rfl) (by simp) (by kernel_rfl) ?_
              refine AllHead.cons (by rfl) (fun K hK => ?_) ?_
              · go_simp
                refine name_world ?_
                rintro wr22 hw22
                obtain rfl := hw22.symm
                refine hK.out _ _ ?_ (fun hHeld => ?_)
                · exact hHeld
                clear hK K
                try simp only [List.getElem_toArray, List.getElem_cons_succ, List.getElem_cons_zero, Act.put, List.setIfInBounds_toArray, List.set_cons_zero, List.set_cons_succ]
                refine wpHead_ready (rs := [23]) (by kernel_rfl) (by simp) (by kernel_rfl) ?_
                refine AllHead.cons (by rfl) (fun K hK => ?_) ?_
                · refine step_callG (by rfl) (by kernel_rfl) HSM ?_
                  rintro e wr23 ⟨rfl, hx7'⟩
                  have hx7 := hHeld.trans hx7'
                  have HX57 := Lib.hid (hx5.trans hx7')
                  refine ⟨_, rfl, ?_⟩
                  refine hK.out _ _ ?_ (fun hHeld => ?_)
                  · exact hx7
                  clear hK K
                  try simp only [List.getElem_toArray, List.getElem_cons_succ, List.getElem_cons_zero, Act.put, List.setIfInBounds_toArray, List.set_cons_zero, List.set_cons_succ]
                  refine wpHead_take (i := 24) (v := ?_) (by rfl) (by kernel_rfl) (by kernel_rfl) (by exact fun _ _ _ h => h) (Or.inl ⟨by rfl, ?_⟩) (by assumption) ?_
                  rotate_left
                  · intro w hSw
                    first | (go_simp; done) | (go_simp; with_reducible rfl)
                  simp only [List.getElem_toArray, List.getElem_cons_succ, List.getElem_cons_zero, Act.put, List.setIfInBounds_toArray, List.set_cons_zero, List.set_cons_succ]
                  refine wpHead_take (i := 25) (v := ?_) (by rfl) (by kernel_rfl) (by kernel_rfl) (by exact fun _ _ _ h => h) (Or.inl ⟨by rfl, ?_⟩) (by assumption) ?_
                  rotate_left
                  · intro w hSw
                    first | (go_simp; done) | (go_simp; with_reducible rfl)
                  simp only [List.getElem_toArray, List.getElem_cons_succ, List.getElem_cons_zero, Act.put, List.setIfInBounds_toArray, List.set_cons_zero, List.set_cons_succ]
                  refine wpHead_done (by kernel_rfl) ?_
                  clear HSM HRC C1 C3 Y6 HPO
                  go_wp2
                  go_ret2
                  obtain ⟨B1', A1', c1', v1', vs1', hI⟩ := HPR.out.sys
                  exact ⟨P, rfl, p, q, x, y, M, N, HPR.out.ex.trans HX57.out, HX57.out.obj HPR.out.row, ⟨B1', A1', c1', v1', vs1', hI.ext HX57.out⟩, HPR.out.PM, HPR.out.new, HPR.out.PN⟩
                exact AllHead.nil
              exact AllHead.nil
            exact AllHead.nil
          refine AllHead.cons (by rfl) (fun K hK => ?_) ?_
          · go_simp
            refine name_world ?_
            rintro wr19 hw19
            obtain rfl := hw19.symm
            refine hK.out _ _ ?_ (fun hHeld => ?_)
            · exact hHeld
            clear hK K
            try simp only [List.getElem_toArray, List.getElem_cons_succ, List.getElem_cons_zero, Act.put, List.setIfInBounds_toArray, List.set_cons_zero, List.set_cons_succ]
            refine wpHead_take (i := 20) (v := ?_) (by rfl) (by kernel_rfl) (by kernel_rfl) (by exact fun _ _ _ h => h) (Or.inl ⟨by rfl, ?_⟩) (by assumption) ?_
            rotate_left
            · intro w hSw
              first | (go_simp; done) | (go_simp; with_reducible rfl)
            simp only [List.getElem_toArray, List.getElem_cons_succ, List.getElem_cons_zero, Act.put, List.setIfInBounds_toArray, List.set_cons_zero, List.set_cons_succ]
            refine wpHead_take (i := 21) (v := ?_) (by rfl) (by kernel_rfl) (by kernel_rfl) (by exact fun _ _ _ h => h) (Or.inl ⟨by rfl, ?_⟩) (by assumption) ?_
            rotate_left
            · intro w hSw
              first | (go_simp; done) | (go_simp; with_reducible rfl)
            simp only [List.getElem_toArray, List.getElem_cons_succ, List.getElem_cons_zero, Act.put, List.setIfInBounds_toArray, List.set_cons_zero, List.set_cons_succ]
            refine wpHead_ready (rs := [15, 22]) (by kernel_rfl) (by simp) (by kernel_rfl) ?_
            refine AllHead.cons (by rfl) (fun K hK => ?_) ?_
            · refine step_callG (by rfl) (by kernel_rfl) HRC ?_
              rintro e wr15 ⟨v5, rfl, ho5, hx5⟩
              obtain ⟨A5, c5, rfl⟩ := ho5.form
              have HSM := RSame_any A5 none c5 0 0 0 [] [] wr15 ho5.bss (fun k l hk => by simp at hk) rfl rfl (by simp)
              have hx6 := hHeld.trans hx5
              refine ⟨_, rfl, ?_⟩
              refine hK.out _ _ ?_ (fun hHeld => ?_)
              · exact hx6
              clear hK K
              try simp only [List.getElem_toArray, List.getElem_cons_succ, List.getElem_cons_zero, Act.put, List.setIfInBounds_toArray, List.set_cons_zero, List.set_cons_succ]
              refine wpHead_ready (rs := [22]) (by kernel_rfl) (by simp) (by kernel_rfl) ?_
              refine AllHead.cons (by rfl) (fun K hK => ?_) ?_
              · go_simp
                refine name_world ?_
                rintro wr22 hw22
                obtain rfl := hw22.symm
                refine hK.out _ _ ?_ (fun hHeld => ?_)
                · exact hHeld
                clear hK K
                try simp only [List.getElem_toArray, List.getElem_cons_succ, List.getElem_cons_zero, Act.put, List.setIfInBounds_toArray, List.set_cons_zero, List.set_cons_succ]
                refine wpHead_ready (rs := [23]) (by kernel_rfl) (by simp) (by kernel_rfl) ?_
                refine AllHead.cons (by rfl) (fun K hK => ?_) ?_
                · refine step_callG (by rfl) (by kernel_rfl) HSM ?_
                  rintro e wr23 ⟨rfl, hx7'⟩
                  have hx7 := hHeld.trans hx7'
                  have HX57 := Lib.hid (hx5.trans hx7')
                  refine ⟨_, rfl, ?_⟩
                  refine hK.out _ _ ?_ (fun hHeld => ?_)
                  · exact hx7
                  clear hK K
                  try simp only [List.getElem_toArray, List.getElem_cons_succ, List.getElem_cons_zero, Act.put, List.setIfInBounds_toArray, List.set_cons_zero, List.set_cons_succ]
                  refine wpHead_take (i := 24) (v := ?_) (by rfl) (by kernel_rfl) (by kernel_rfl) (by exact fun _ _ _ h => h) (Or.inl ⟨by rfl, ?_⟩) (by assumption) ?_
                  rotate_left
                  · intro w hSw
                    first | (go_simp; done) | (go_simp; with_reducible rfl)
                  simp only [List.getElem_toArray, List.getElem_cons_succ, List.getElem_cons_zero, Act.put, List.setIfInBounds_toArray, List.set_cons_zero, List.set_cons_succ]
                  refine wpHead_take (i := 25) (v := ?_) (by rfl) (by kernel_rfl) (by kernel_rfl) (by exact fun _ _ _ h => h) (Or.inl ⟨by rfl, ?_⟩) (by assumption) ?_
                  rotate_left
                  · intro w hSw
                    first | (go_simp; done) | (go_simp; with_reducible rfl)
                  simp only [List.getElem_toArray, List.getElem_cons_succ, List.getElem_cons_zero, Act.put, List.setIfInBounds_toArray, List.set_cons_zero, List.set_cons_succ]
                  refine wpHead_done (by kernel_rfl) ?_
                  clear HSM HRC C1 C3 Y6 HPO
                  go_wp2
                  go_ret2
                  obtain ⟨B1', A1', c1', v1', vs1', hI⟩ := HPR.out.sys
                  exact ⟨P, rfl, p, q, x, y, M, N, HPR.out.ex.trans HX57.out, HX57.out.obj HPR.out.row, ⟨B1', A1', c1', v1', vs1', hI.ext HX57.out⟩, HPR.out.PM, HPR.out.new, HPR.out.PN⟩
                exact AllHead.nil
              exact AllHead.nil
            refine AllHead.cons (by rfl) (fun K hK => ?_) ?_
            · go_simp
              refine name_world ?_
              rintro wr22 hw22
              obtain rfl := hw22.symm
              refine hK.out _ _ ?_ (fun hHeld => ?_)
              · exact hHeld
              clear hK K
              try simp only [List.getElem_toArray, List.getElem_cons_succ, List.getElem_cons_zero, Act.put, List.setIfInBounds_toArray, List.set_cons_zero, List.set_cons_succ]
              refine wpHead_ready (rs := [15]) (by kernel_rfl) (by simp) (by kernel_rfl) ?_
              refine AllHead.cons (by rfl) (fun K hK => ?_) ?_
              · refine step_callG (by rfl) (by kernel_rfl) HRC ?_
                rintro e wr15 ⟨v5, rfl, ho5, hx5⟩
                obtain ⟨A5, c5, rfl⟩ := ho5.form
                have HSM := RSame_any A5 none c5 0 0 0 [] [] wr15 ho5.bss (fun k l hk => by simp at hk) rfl rfl (by simp)
                have hx6 := hHeld.trans hx5
                refine ⟨_, rfl, ?_⟩
                refine hK.out _ _ ?_ (fun hHeld => ?_)
                · exact hx6
                clear hK K
                try simp only [List.getElem_toArray, List.getElem_cons_succ, List.getElem_cons_zero, Act.put, List.setIfInBounds_toArray, List.set_cons_zero, List.set_cons_succ]
                refine wpHead_ready (rs := [23]) (by kernel_rfl) (by simp) (by kernel_rfl) ?_
                refine AllHead.cons (by rfl) (fun K hK => ?_) ?_
                · refine step_callG (by rfl) (by kernel_rfl) HSM ?_
                  rintro e wr23 ⟨rfl, hx7'⟩
                  have hx7 := hHeld.trans hx7'
                  have HX57 := Lib.hid (hx5.trans hx7')
                  refine ⟨_, rfl, ?_⟩
                  refine hK.out _ _ ?_ (fun hHeld => ?_)
                  · exact hx7
                  clear hK K
                  try simp only [List.getElem_toArray, List.getElem_cons_succ, List.getElem_cons_zero, Act.put, List.setIfInBounds_toArray, List.set_cons_zero, List.set_cons_succ]
                  refine wpHead_take (i := 24) (v := ?_) (by rfl) (by kernel_rfl) (by kernel_rfl) (by exact fun _ _ _ h => h) (Or.inl ⟨by rfl, ?_⟩) (by assumption) ?_
                  rotate_left
                  · intro w hSw
                    first | (go_simp; done) | (go_simp; with_reducible rfl)
                  simp only [List.getElem_toArray, List.getElem_cons_succ, List.getElem_cons_zero, Act.put, List.setIfInBounds_toArray, List.set_cons_zero, List.set_cons_succ]
                  refine wpHead_take (i := 25) (v := ?_) (by rfl) (by kernel_rfl) (by kernel_rfl) (by exact fun _ _ _ h => h) (Or.inl ⟨by rfl, ?_⟩) (by assumption) ?_
                  rotate_left
                  · intro w hSw
                    first | (go_simp; done) | (go_simp; with_reducible rfl)
                  simp only [List.getElem_toArray, List.getElem_cons_succ, List.getElem_cons_zero, Act.put, List.setIfInBounds_toArray, List.set_cons_zero, List.set_cons_succ]
                  refine wpHead_done (by kernel_rfl) ?_
                  clear HSM HRC C1 C3 Y6 HPO
                  go_wp2
                  go_ret2
                  obtain ⟨B1', A1', c1', v1', vs1', hI⟩ := HPR.out.sys
                  exact ⟨P, rfl, p, q, x, y, M, N, HPR.out.ex.trans HX57.out, HX57.out.obj HPR.out.row, ⟨B1', A1', c1', v1', vs1', hI.ext HX57.out⟩, HPR.out.PM, HPR.out.new, HPR.out.PN⟩
                exact AllHead.nil
              exact AllHead.nil
            exact AllHead.nil
          exact AllHead.nil
        refine AllHead.cons (by rfl) (fun K hK => ?_) ?_
        · go_simp
          refine name_world ?_
          rintro wr19 hw19
          obtain rfl := hw19.symm
          refine hK.out _ _ ?_ (fun hHeld => ?_)
          · exact hHeld
          clear hK K
          try simp only [List.getElem_toArray, List.getElem_cons_succ, List.getElem_cons_zero, Act.put, List.setIfInBounds_toArray, List.set_cons_zero, List.set_cons_succ]
          refine wpHead_take (i := 20) (v := ?_) (by rfl) (by kernel_rfl) (by kernel_rfl) (by exact fun _ _ _ h => h) (Or.inl ⟨by rfl, ?_⟩) (by assumption) ?_
          rotate_left
          · intro w hSw
            first | (go_simp; done) | (go_simp; with_reducible rfl)
          simp only [List.getElem_toArray, List.getElem_cons_succ, List.getElem_cons_zero, Act.put, List.setIfInBounds_toArray, List.set_cons_zero, List.set_cons_succ]
          refine wpHead_take (i := 21) (v := ?_) (by rfl) (by kernel_rfl) (by kernel_rfl) (by exact fun _ _ _ h => h) (Or.inl ⟨by rfl, ?_⟩) (by assumption) ?_
          rotate_left
          · intro w hSw
            first | (go_simp; done) | (go_simp; with_reducible rfl)
          simp only [List.getElem_toArray, List.getElem_cons_succ, List.getElem_cons_zero, Act.put, List.setIfInBounds_toArray, List.set_cons_zero, List.set_cons_succ]
          refine wpHead_ready (rs := [14, 22]) (by kernel_rfl) (by simp) (by kernel_rfl) ?_
          refine AllHead.cons (by rfl) (fun K hK => ?_) ?_
          · go_simp
            refine name_world ?_
            rintro wr14 hw14
            obtain rfl := hw14.symm
            refine hK.out _ _ ?_ (fun hHeld => ?_)
            · exact hHeld
            clear hK K
            try simp only [List.getElem_toArray, List.getElem_cons_succ, List.getElem_cons_zero, Act.put, List.setIfInBounds_toArray, List.set_cons_zero, List.set_cons_succ]
            refine wpHead_ready (rs := [15, 22]) (by kernel_rfl) (by simp) (by kernel_rfl) ?_
            refine AllHead.cons (by rfl) (fun K hK => ?_) ?_
            · refine step_callG (by rfl) (by kernel_rfl) HRC ?_
              rintro e wr15 ⟨v5, rfl, ho5, hx5⟩
              obtain ⟨A5, c5, rfl⟩ := ho5.form
              have HSM := RSame_any A5 none c5 0 0 0 [] [] wr15 ho5.bss (fun k l hk => by simp at hk) rfl rfl (by simp)
              have hx6 := hHeld.trans hx5
              refine ⟨_, rfl, ?_⟩
              refine hK.out _ _ ?_ (fun hHeld => ?_)
              · exact hx6
              clear hK K
              try simp only [List.getElem_toArray, List.getElem_cons_succ, List.getElem_cons_zero, Act.put, List.setIfInBounds_toArray, List.set_cons_zero, List.set_cons_succ]
              refine wpHead_ready (rs := [22]) (by kernel_rfl) (by simp) (by kernel_rfl) ?_
              refine AllHead.cons (by rfl) (fun K hK => ?_) ?_
              · go_simp
                refine name_world ?_
                rintro wr22 hw22
                obtain rfl := hw22.symm
                refine hK.out _ _ ?_ (fun hHeld => ?_)
                · exact hHeld
                clear hK K
                try simp only [List.getElem_toArray, List.getElem_cons_succ, List.getElem_cons_zero, Act.put, List.setIfInBounds_toArray, List.set_cons_zero, List.set_cons_succ]
                refine wpHead_ready (rs := [23]) (by kernel_rfl) (by simp) (by kernel_rfl) ?_
                refine AllHead.cons (by rfl) (fun K hK => ?_) ?_
                · refine step_callG (by rfl) (by kernel_rfl) HSM ?_
                  rintro e wr23 ⟨rfl, hx7'⟩
                  have hx7 := hHeld.trans hx7'
                  have HX57 := Lib.hid (hx5.trans hx7')
                  refine ⟨_, rfl, ?_⟩
                  refine hK.out _ _ ?_ (fun hHeld => ?_)
                  · exact hx7
                  clear hK K
                  try simp only [List.getElem_toArray, List.getElem_cons_succ, List.getElem_cons_zero, Act.put, List.setIfInBounds_toArray, List.set_cons_zero, List.set_cons_succ]
                  refine wpHead_take (i := 24) (v := ?_) (by rfl) (by kernel_rfl) (by kernel_rfl) (by exact fun _ _ _ h => h) (Or.inl ⟨by rfl, ?_⟩) (by assumption) ?_
                  rotate_left
                  · intro w hSw
                    first | (go_simp; done) | (go_simp; with_reducible rfl)
                  simp only [List.getElem_toArray, List.getElem_cons_succ, List.getElem_cons_zero, Act.put, List.setIfInBounds_toArray, List.set_cons_zero, List.set_cons_succ]
                  refine wpHead_take (i := 25) (v := ?_) (by rfl) (by kernel_rfl) (by kernel_rfl) (by exact fun _ _ _ h => h) (Or.inl ⟨by rfl, ?_⟩) (by assumption) ?_
                  rotate_left
                  · intro w hSw
                    first | (go_simp; done) | (go_simp; with_reducible rfl)
                  simp only [List.getElem_toArray, List.getElem_cons_succ, List.getElem_cons_zero, Act.put, List.setIfInBounds_toArray, List.set_cons_zero, List.set_cons_succ]
                  refine wpHead_done (by kernel_rfl) ?_
                  clear HSM HRC C1 C3 Y6 HPO
                  go_wp2
                  go_ret2
                  obtain ⟨B1', A1', c1', v1', vs1', hI⟩ := HPR.out.sys
                  exact ⟨P, rfl, p, q, x, y, M, N, HPR.out.ex.trans HX57.out, HX57.out.obj HPR.out.row, ⟨B1', A1', c1', v1', vs1', hI.ext HX57.out⟩, HPR.out.PM, HPR.out.new, HPR.out.PN⟩
                exact AllHead.nil
              exact AllHead.nil
            refine AllHead.cons (by rfl) (fun K hK => ?_) ?_
            · go_simp
              refine name_world ?_
              rintro wr22 hw22
              obtain rfl := hw22.symm
              refine hK.out _ _ ?_ (fun hHeld => ?_)
              · exact hHeld
              clear hK K
              try simp only [List.getElem_toArray, List.getElem_cons_succ, List.getElem_cons_zero, Act.put, List.setIfInBounds_toArray, List.set_cons_zero, List.set_cons_succ]
              refine wpHead_ready (rs := [15]) (by kernel_rfl) (by simp) (by kernel_rfl) ?_
              refine AllHead.cons (by rfl) (fun K hK => ?_) ?_
              · refine step_callG (by rfl) (by kernel_rfl) HRC ?_
                rintro e wr15 ⟨v5, rfl, ho5, hx5⟩
                obtain ⟨A5, c5, rfl⟩ := ho5.form
                have HSM := RSame_any A5 none c5 0 0 0 [] [] wr15 ho5.bss (fun k l hk => by simp at hk) rfl rfl (by simp)
                have hx6 := hHeld.trans hx5
                refine ⟨_, rfl, ?_⟩
                refine hK.out _ _ ?_ (fun hHeld => ?_)
                · exact hx6
                clear hK K
                try simp only [List.getElem_toArray, List.getElem_cons_succ, List.getElem_cons_zero, Act.put, List.setIfInBounds_toArray, List.set_cons_zero, List.set_cons_succ]
                refine wpHead_ready (rs := [23]) (by kernel_rfl) (by simp) (by kernel_rfl) ?_
                refine AllHead.cons (by rfl) (fun K hK => ?_) ?_
                · refine step_callG (by rfl) (by kernel_rfl) HSM ?_
                  rintro e wr23 ⟨rfl, hx7'⟩
                  have hx7 := hHeld.trans hx7'
                  have HX57 := Lib.hid (hx5.trans hx7')
                  refine ⟨_, rfl, ?_⟩
                  refine hK.out _ _ ?_ (fun hHeld => ?_)
                  · exact hx7
                  clear hK K
                  try simp only [List.getElem_toArray, List.getElem_cons_succ, List.getElem_cons_zero, Act.put, List.setIfInBounds_toArray, List.set_cons_zero, List.set_cons_succ]
                  refine wpHead_take (i := 24) (v := ?_) (by rfl) (by kernel_rfl) (by kernel_rfl) (by exact fun _ _ _ h => h) (Or.inl ⟨by rfl, ?_⟩) (by assumption) ?_
                  rotate_left
                  · intro w hSw
                    first | (go_simp; done) | (go_simp; with_reducible rfl)
                  simp only [List.getElem_toArray, List.getElem_cons_succ, List.getElem_cons_zero, Act.put, List.setIfInBounds_toArray, List.set_cons_zero, List.set_cons_succ]
                  refine wpHead_take (i := 25) (v := ?_) (by rfl) (by kernel_rfl) (by kernel_rfl) (by exact fun _ _ _ h => h) (Or.inl ⟨by rfl, ?_⟩) (by assumption) ?_
                  rotate_left
                  · intro w hSw
                    first | (go_simp; done) | (go_simp; with_reducible rfl)
                  simp only [List.getElem_toArray, List.getElem_cons_succ, List.getElem_cons_zero, Act.put, List.setIfInBounds_toArray, List.set_cons_zero, List.set_cons_succ]
                  refine wpHead_done (by kernel_rfl) ?_
                  clear HSM HRC C1 C3 Y6 HPO
                  go_wp2
                  go_ret2
                  obtain ⟨B1', A1', c1', v1', vs1', hI⟩ := HPR.out.sys
                  exact ⟨P, rfl, p, q, x, y, M, N, HPR.out.ex.trans HX57.out, HX57.out.obj HPR.out.row, ⟨B1', A1', c1', v1', vs1', hI.ext HX57.out⟩, HPR.out.PM, HPR.out.new, HPR.out.PN⟩
                exact AllHead.nil
              exact AllHead.nil
            exact AllHead.nil
          refine AllHead.cons (by rfl) (fun K hK => ?_) ?_
          · go_simp
            refine name_world ?_
            rintro wr22 hw22
            obtain rfl := hw22.symm
            refine hK.out _ _ ?_ (fun hHeld => ?_)
            · exact hHeld
            clear hK K
            try simp only [List.getElem_toArray, List.getElem_cons_succ, List.getElem_cons_zero, Act.put, List.setIfInBounds_toArray, List.set_cons_zero, List.set_cons_succ]
            refine wpHead_ready (rs := [14]) (by kernel_rfl) (by simp) (by kernel_rfl) ?_
            refine AllHead.cons (by rfl) (fun K hK => ?_) ?_
            · go_simp
              refine name_world ?_
              rintro wr14 hw14
              obtain rfl := hw14.symm
              refine hK.out _ _ ?_ (fun hHeld => ?_)
              · exact hHeld
              clear hK K
              try simp only [List.getElem_toArray, List.getElem_cons_succ, List.getElem_cons_zero, Act.put, List.setIfInBounds_toArray, List.set_cons_zero, List.set_cons_succ]
              refine wpHead_ready (rs := [15]) (by kernel_rfl) (by simp) (by kernel_rfl) ?_
              refine AllHead.cons (by rfl) (fun K hK => ?_) ?_
              · refine step_callG (by rfl) (by kernel_rfl) HRC ?_
                rintro e wr15 ⟨v5, rfl, ho5, hx5⟩
                obtain ⟨A5, c5, rfl⟩ := ho5.form
                have HSM := RSame_any A5 none c5 0 0 0 [] [] wr15 ho5.bss (fun k l hk => by simp at hk) rfl rfl (by simp)
                have hx6 := hHeld.trans hx5
                refine ⟨_, rfl, ?_⟩
                refine hK.out _ _ ?_ (fun hHeld => ?_)
                · exact hx6
                clear hK K
                try simp only [List.getElem_toArray, List.getElem_cons_succ, List.getElem_cons_zero, Act.put, List.setIfInBounds_toArray, List.set_cons_zero, List.set_cons_succ]
                refine wpHead_ready (rs := [23]) (by kernel_rfl) (by simp) (by kernel_rfl) ?_
                refine AllHead.cons (by rfl) (fun K hK => ?_) ?_
                · refine step_callG (by rfl) (by kernel_rfl) HSM ?_
                  rintro e wr23 ⟨rfl, hx7'⟩
                  have hx7 := hHeld.trans hx7'
                  have HX57 := Lib.hid (hx5.trans hx7')
                  refine ⟨_, rfl, ?_⟩
                  refine hK.out _ _ ?_ (fun hHeld => ?_)
                  · exact hx7
                  clear hK K
                  try simp only [List.getElem_toArray, List.getElem_cons_succ, List.getElem_cons_zero, Act.put, List.setIfInBounds_toArray, List.set_cons_zero, List.set_cons_succ]
                  refine wpHead_take (i := 24) (v := ?_) (by rfl) (by kernel_rfl) (by kernel_rfl) (by exact fun _ _ _ h => h) (Or.inl ⟨by rfl, ?_⟩) (by assumption) ?_
                  rotate_left
                  · intro w hSw
                    first | (go_simp; done) | (go_simp; with_reducible rfl)
                  simp only [List.getElem_toArray, List.getElem_cons_succ, List.getElem_cons_zero, Act.put, List.setIfInBounds_toArray, List.set_cons_zero, List.set_cons_succ]
                  refine wpHead_take (i := 25) (v := ?_) (by rfl) (by kernel_rfl) (by kernel_rfl) (by exact fun _ _ _ h => h) (Or.inl ⟨by rfl, ?_⟩) (by assumption) ?_
                  rotate_left
                  · intro w hSw
                    first | (go_simp; done) | (go_simp; with_reducible rfl)
                  simp only [List.getElem_toArray, List.getElem_cons_succ, List.getElem_cons_zero, Act.put, List.setIfInBounds_toArray, List.set_cons_zero, List.set_cons_succ]
                  refine wpHead_done (by kernel_rfl) ?_
                  clear HSM HRC C1 C3 Y6 HPO
                  go_wp2
                  go_ret2
                  obtain ⟨B1', A1', c1', v1', vs1', hI⟩ := HPR.out.sys
                  exact ⟨P, rfl, p, q, x, y, M, N, HPR.out.ex.trans HX57.out, HX57.out.obj HPR.out.row, ⟨B1', A1', c1', v1', vs1', hI.ext HX57.out⟩, HPR.out.PM, HPR.out.new, HPR.out.PN⟩
                exact AllHead.nil
              exact AllHead.nil
            exact AllHead.nil
          exact AllHead.nil
        exact AllHead.nil
      exact AllHead.nil
    exact AllHead.nil
end Go.Proofs.Ytklodimokhndoaa
namespace Go.Proofs.Ytklodimokhndoaa
open Go.RowKit
section
variable {M N : List Nat} {w : World} {p q : Nat} {s : Dk} {g : Lg}
/-- how a call leaves them -/
def Aft (M N : List Nat) (w w' : World) (p q : Nat) (s : Dk) (g : Lg) : Prop := ∃ M' N', Sys M' N' w' p q s g ∧ Turn M w M' w' ∧ (∀ k ∈ N, k ∈ N') ∧ (∀ k ∈ N', k ∈ N ∨ w.heap.size ≤ k)
theorem SysI.aft {w' : World} {s' : Dk} {B B' : List Nat} {A : Option Addr} {c : Nat} {v : Value} {vs : List Value} (h : SysI M N w p q s g B A c v vs) (hd : Disk B' w' p s') (t : Turn B w B' w') : Aft M N w w' p q s' g :=
  ⟨B' ++ M, B' ++ N, ⟨B', A, c, v, vs, h.turn hd t⟩, h.turned t, fun k hk => List.mem_append.2 (.inr hk), fun k hk => by
    rcases List.mem_append.1 hk with hk | hk
    · rcases t.new k hk with h1 | h1
      · exact .inl (h.MN _ (h.BM k h1))
      · exact .inr h1
    · exact .inl hk⟩
theorem wforce_sys (h : Sys M N w p q s g) (hs : s.Ok) {n : Nat} (hf : s.Few n) (hn : n ≤ 100000) : Calls Try.prog 21 #[pt q] w fun e w' => e = .returned (.int .i64 (forceE s g)) ∧ Aft M N w w' p q (forceS s g) g := by
  obtain ⟨B, A, c, v, vs, hI⟩ := h
  exact (wforce_any hI.row hI.disk hs hf hn).mono fun e w' ⟨he, hd, ht⟩ => ⟨he, hI.aft hd ht⟩
theorem wcut_sys (h : Sys M N w p q s g) (hs : s.Ok) (i : Int) : Calls Try.prog 22 #[pt p, .int .i64 i] w fun e w' => e = .returned (.int .i64 (cutE s i)) ∧ Aft M N w w' p q (cutS s i) g := by
  obtain ⟨B, A, c, v, vs, hI⟩ := h
  exact (Cut_all hI.disk hs i).mono fun e w' ⟨he, hd, ht⟩ => ⟨he, hI.aft hd ht⟩
theorem wcrash_sys (h : Sys M N w p q s g) (hs : s.Ok) {n : Nat} (hf : s.Few n) (hn : n ≤ 100000) (C : Cr) (KA : Option Addr) (kc : Nat) (hK : SlM N w KA (bo C.keep)) (hkl : C.keep.length ≤ 9223372036854775807) :
    Calls Try.prog 43 #[pt p, .agg #[.slice KA C.keep.length kc, .int .i64 C.torn, .int .i64 C.at_]] w fun e w' => e = .returned (.int .i64 0) ∧ Aft M N w w' p q (crashed s C) g := by
  obtain ⟨B, A, c, v, vs, hI⟩ := h
  exact (Crash_all hI.disk hs hf (by omega) C KA kc (hK.less fun k hk => hI.MN k (hI.BM k hk)) hkl).mono fun e w' ⟨he, hd, ht⟩ => ⟨he, hI.aft hd ht⟩
theorem wappend_sys (h : Sys M N w p q s g) {n : Nat} (hg : Gd n s g) (hn : n ≤ 100000) (Ar : Option Addr) (cr : Nat) (r : By) (hr : BsM N w Ar r) (hrc : r.length ≤ cr) :
    Calls Try.prog 20 #[pt q, .slice Ar r.length cr] w fun e w' => e = .returned (.int .i64 (appendR s g r).1) ∧ Aft M N w w' p q (appendR s g r).2.1 (appendR s g r).2.2 :=
  (wappend_any h hg.ok hg.few hn hg.fit hg.sp (by have := hg.rl; omega) Ar cr r hr hrc).mono fun e w' ⟨M', N', he, h1, h2, h3, h4⟩ => ⟨he, M', N', h1, h2, h3, h4⟩
theorem Pr.aft {w0 w' : World} {P x y : Nat} {s' : Dk} {g' : Lg} (h : Pr M N w0 w P p q x y s g) (ha : Aft M N w w' p q s' g') : ∃ M' N', Pr M' N' w0 w' P p q x y s' g' := by
  obtain ⟨M', N', h1, h2, h3, h4⟩ := ha
  have hP := obj_lt h.row
  exact ⟨M', N', h.ex.kept h2.kept h.new, h2.kept.heap h.row h.PM, h1, fun hm => by
    rcases h2.new P hm with h5 | h5
    · exact h.PM h5
    · omega, fun k hk => by
    rcases h2.new k hk with h5 | h5
    · exact h.new k h5
    · exact Nat.le_trans h.ex.size h5, h3 P h.PN⟩
theorem Pr.ext {w0 w' : World} {P x y : Nat} (h : Pr M N w0 w P p q x y s g) (hx : Ext w w') : Pr M N w0 w' P p q x y s g :=
  ⟨h.ex.trans hx, hx.obj h.row, h.sys.ext hx, h.PM, h.new, h.PN⟩
theorem Sys.lt (h : Sys M N w p q s g) : ∀ k ∈ N, k < w.heap.size := by
  obtain ⟨B, A, c, v, vs, hI⟩ := h
  exact hI.lt
end
theorem lvA_gd : Gd 5000 lvA.2.1 lvA.2.2 := by unfold lvA; exact openR_gd lvN_ok lvN_few 1 10 (by omega) (by omega) (by omega) (by decide)
theorem lvB_gd : Gd 5300 lvB.2.1 lvB.2.2 := by unfold lvB; exact appendR_gd lvA_gd _
theorem forceS_gd {n : Nat} {s : Dk} {g : Lg} (h : Gd n s g) : Gd (n + 1) (forceS s g) g := by
  unfold forceS
  split
  · exact ⟨h.ok, h.few.mono (by omega), h.fit, h.sp, by have := h.rl; omega, h.rs, h.len⟩
  · exact ⟨flushS_ok h.ok, flushS_few h.few, h.fit, h.sp, by have := h.rl; omega, h.rs, by rw [flushS_len]; exact h.len⟩
theorem lvF_gd : Gd 5301 lvF lvB.2.2 := by unfold lvF; exact forceS_gd lvB_gd
theorem lvD_gd : Gd 5601 lvD.2.1 lvD.2.2 := by unfold lvD; exact appendR_gd lvF_gd _
theorem crashed_len (s : Dk) (C : Cr) : (crashed s C).sure.length = s.sure.length := by simp [crashed, tornL_len]
theorem lvE_ok : lvE.Ok := by unfold lvE; exact crashed_ok lvD_gd.ok _
theorem lvE_few : lvE.Few 5602 := by unfold lvE; exact crashed_few lvD_gd.few _
theorem lvE_down : lvE.down = false := by unfold lvE; unfold crashed; rfl
theorem lvD_len : lvD.2.1.sure.length = 23 := by decide +kernel
theorem lvE_len : lvE.sure.length = 23 := by unfold lvE; rw [crashed_len]; exact lvD_len
theorem lvG_gd : Gd 10602 lvG.2.1 lvG.2.2 := by unfold lvG; exact openR_gd lvE_ok lvE_few 1 10 (by omega) (by omega) (by omega) (by rw [lvE_len]; omega)
set_option maxRecDepth 20000 in
set_option maxHeartbeats 4000000 in
theorem live_any (w0 : World) : Calls Try.prog 12 #[] w0 fun e w' => e = .returned (.bool true) ∧ Ext w0 w' := by
  obtain ⟨f1, f2, f3, f4, f5, f6, f7, f8⟩ := lv_true
  have kc := fun (w : World) (C : Array Value) (n c : Nat) => Lib.run_convert_bytes_const (P := Try.prog) w 46 5 C n c Try.underlying46 Try.underlying5
  have F3 := Lib.hid f3
  have F4 := Lib.hid f4
  have F5 := Lib.hid f5
  have F6 := Lib.hid f6
  have F7 := Lib.hid f7
  have F8 := Lib.hid f8
  clear f1 f2 f3 f4 f5 f6 f7 f8
  go_enter Try.func12, Try.ntmps12
  go_wp2_with fail
  refine (start_any w0).mono ?_
  rintro e w1 ⟨P, p, q, x, y, M, N, rfl, hpr⟩
  have HP1 := Lib.hid hpr
  obtain ⟨r0, r1, -, -, -⟩ := row4_at hpr.row
  clear hpr
  unfold pt at *
  go_wp2_with fail
  have hxa := (Ext.refl w1).alloc (.cells #[.int .u8 111, .int .u8 110, .int .u8 101] 5 (3, 4))
  have HA := wappend_sys (HP1.out.sys.ext hxa) lvA_gd (by omega) (some ⟨w1.heap.size, 0, none⟩) 3 [111, 110, 101] (BsM.new w1 [111, 110, 101] _ rfl 5 (3, 4) N HP1.out.sys.lt) (by simp)
  rw [show (appendR lvA.2.1 lvA.2.2 [111, 110, 101]).1 = 0 from F3.out] at HA
  unfold pt at HA
  refine HA.mono ?_
  rintro e w2 ⟨rfl, ha2⟩
  clear HA r0 r1
  obtain ⟨M2, N2, hp2⟩ := Pr.aft (HP1.out.ext hxa) (show Aft M N _ w2 p q lvB.2.1 lvB.2.2 from ha2)
  have HP2 := Lib.hid hp2
  obtain ⟨r0, r1, -, -, -⟩ := row4_at hp2.row
  clear ha2 hp2 hxa HP1
  have HF := wforce_sys HP2.out.sys lvB_gd.ok lvB_gd.few (by omega)
  rw [F4.out] at HF
  unfold pt at *
  go_wp2_with fail
  refine HF.mono ?_
  rintro e w3 ⟨rfl, ha3⟩
  clear HF r0 r1
  obtain ⟨M3, N3, hp3⟩ := Pr.aft HP2.out (show Aft M2 N2 _ w3 p q lvF lvB.2.2 from ha3)
  have HP3 := Lib.hid hp3
  obtain ⟨r0, r1, -, -, -⟩ := row4_at hp3.row
  clear ha3 hp3 HP2
  unfold pt at *
  go_wp2_with fail
  have hxa := (Ext.refl w3).alloc (.cells #[.int .u8 116, .int .u8 119, .int .u8 111] 5 (3, 4))
  have HA := wappend_sys (HP3.out.sys.ext hxa) lvF_gd (by omega) (some ⟨w3.heap.size, 0, none⟩) 3 [116, 119, 111] (BsM.new w3 [116, 119, 111] _ rfl 5 (3, 4) N3 HP3.out.sys.lt) (by simp)
  rw [show (appendR lvF lvB.2.2 [116, 119, 111]).1 = 0 from F5.out] at HA
  unfold pt at HA
  refine HA.mono ?_
  rintro e w4 ⟨rfl, ha4⟩
  clear HA r0 r1
  obtain ⟨M4, N4, hp4⟩ := Pr.aft (HP3.out.ext hxa) (show Aft M3 N3 _ w4 p q lvD.2.1 lvD.2.2 from ha4)
  have HP4 := Lib.hid hp4
  obtain ⟨r0, r1, -, -, -⟩ := row4_at hp4.row
  clear ha4 hp4 hxa HP3
  unfold pt at *
  go_wp2_with fail
  have HC := wcrash_sys HP4.out.sys lvD_gd.ok lvD_gd.few (by omega) lvC none 0 (SlM.nil _ _ _) (by simp [lvC])
  unfold pt at HC
  refine HC.mono ?_
  rintro e w5 ⟨rfl, ha5⟩
  clear HC r0 r1
  obtain ⟨M5, N5, hp5⟩ := Pr.aft HP4.out (show Aft M4 N4 _ w5 p q lvE lvD.2.2 from ha5)
  have HP5 := Lib.hid hp5
  obtain ⟨r0, -, -, -, -⟩ := row4_at hp5.row
  obtain ⟨B, A, c, v, vs, hI⟩ := hp5.sys
  have hPl := obj_lt hp5.row
  have hql := hI.lt q (hI.MN q hI.qM)
  have HO := wopen_any (B := B) [P, q] hI.disk lvE_ok lvE_few (by omega) 1 21 lvE_down (by omega) (by omega) (by omega) (by rw [lvE_len]; omega) (by intro k hk; simp at hk; omega)
  have HI := Lib.hid hI
  clear ha5 hp5 HP4 hI
  unfold pt at *
  go_wp2_with fail
  refine HO.mono ?_
  intro e w6 hs6
  clear HO r0
  rcases hs6 with ⟨hne, -⟩ | ⟨-, q6, M6, rfl, hsys, ht⟩
  · exact absurd F6.out hne
  have hPB : P ∉ B := fun hm => HP5.out.PM (HI.out.BM P hm)
  have hrow6 : LgRow w6 q p lvD.2.2 A c v := HI.out.row.kept ht.kept HI.out.qB
  have hP6 := ht.kept.heap HP5.out.row hPB
  have hx6 : Ext w0 w6 := HP5.out.ex.kept ht.kept fun k hk => HP5.out.new k (HI.out.BM k hk)
  have HM6 : Hid (∀ k ∈ M6, w0.heap.size ≤ k) := Lib.hid fun k hk => by
    rcases ht.new k hk with h | h
    · exact HP5.out.new k (HI.out.BM k h)
    · exact Nat.le_trans HP5.out.ex.size h
  obtain ⟨B6, A6, c6, v6, vs6, hI6⟩ := hsys
  have HI6 := Lib.hid hI6
  have HROW6 := Lib.hid hrow6
  have HP6 := Lib.hid hP6
  have HX6 := Lib.hid hx6
  have HRC := wrecords_any hI6 (by have := lvG_gd.rl; show lvG.2.2.recs.length ≤ _; omega) (fun r hr => by have := lvG_gd.rs r hr; omega)
  rw [show (openR lvE 1 (21 / 2)).2.2.recs = [[111, 110, 101]] from F7.out] at HRC
  clear ht hI6 hrow6 hP6 hx6 HI HP5 hPB hPl hql
  unfold pt at *
  go_wp2_with fail
  refine HRC.mono ?_
  rintro e w7 ⟨v7, rfl, ho7, hx7⟩
  obtain ⟨A7, c7, rfl⟩ := ho7.form
  clear HRC
  have hx8 : Ext w7 ((w7.alloc (.cells #[.int .u8 111, .int .u8 110, .int .u8 101] 5 (3, 4))).alloc (.cells #[.slice (some ⟨w7.heap.size, 0, none⟩) 3 3] 46)) := ((Ext.refl _).alloc _).alloc _
  have hb8 : BsS ((w7.alloc (.cells #[.int .u8 111, .int .u8 110, .int .u8 101] 5 (3, 4))).alloc (.cells #[.slice (some ⟨w7.heap.size, 0, none⟩) 3 3] 46)) (some ⟨(w7.alloc (.cells #[.int .u8 111, .int .u8 110, .int .u8 101] 5 (3, 4))).heap.size, 0, none⟩) [[111, 110, 101]] :=
    BsS.new1 (l := [111, 110, 101]) (Bs.new w7 [111, 110, 101] _ rfl 5 (3, 4)) 46 (0, 0)
  have hb7 := (ho7.ext hx8).bss
  simp only [World.size_alloc] at hb8
  have HX8 := Lib.hid (hx7.trans hx8)
  go_wp2_with fail
  obtain ⟨w8, hw8⟩ : ∃ w8, ((w7.alloc (.cells #[.int .u8 111, .int .u8 110, .int .u8 101] 5 (3, 4))).alloc (.cells #[.slice (some ⟨w7.heap.size, 0, none⟩) 3 3] 46)) = w8 := ⟨_, rfl⟩
  rw [hw8] at hb8 hb7 HX8 ⊢
  have HSM := RSame_any A7 (some ⟨w7.heap.size + 1, 0, none⟩) c7 1 1 1 [[111, 110, 101]] [[111, 110, 101]] w8 hb7 hb8 rfl rfl (by simp)
  clear hw8 hb7 hb8 ho7 hx8 hx7
  refine HSM.mono ?_
  rintro e w9 ⟨rfl, hx9⟩
  clear HSM
  have hx69 := HX8.out.trans hx9
  obtain ⟨-, r1, -, -, -⟩ := row4_at (hx69.obj HP6.out)
  have HFO := wforce_any (HROW6.out.ext hx69) (HI6.out.disk.ext hx69) lvG_gd.ok lvG_gd.few (by omega)
  rw [show forceE (openR lvE 1 (21 / 2)).2.1 lvD.2.2 = 12 from F8.out] at HFO
  unfold pt at HFO
  go_wp2_with fail
  refine HFO.mono ?_
  rintro e w10 ⟨rfl, hd10, ht10⟩
  go_wp2
  go_ret
  exact ⟨rfl, (HX6.out.trans hx69).kept ht10.kept fun k hk => HM6.out k (HI6.out.BM k hk)⟩
end Go.Proofs.Ytklodimokhndoaa
