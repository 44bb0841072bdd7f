/- The walks of slices.Clone at pages and at writes that wait, and of disk.Fork; the nil disk. Conditions: those of IsDk. -/
import Derived.Test.YtcnikfmcefnmoaaChecked
import Derived.Test.YtcnikfmcefnmoaaDkPlay
namespace Go.Proofs.Ytcnikfmcefnmoaa
open Go.RowKit
attribute [local go_sem] pt
theorem pagesT : ElemOf Try.prog 53 59 64 64 := ElemOf.mk' (z := .agg (bv zpage).toArray) Try.underlying53 (by kernel_rfl) (by simp [Value.cells, zpage]) (by omega)
theorem pcs_one (l : List (List UInt8)) : ∀ u ∈ pcs l, u.oneCell' = true := by
  intro u hu
  simp only [pcs, List.mem_flatten, List.mem_map] at hu
  obtain ⟨_, ⟨x, _, rfl⟩, hu⟩ := hu
  exact bv_one _ u hu
theorem wcs_one (l : List (Nat × List UInt8)) : ∀ u ∈ wcs l, u.oneCell' = true := by
  intro u hu
  simp only [wcs, List.mem_flatten, List.mem_map] at hu
  obtain ⟨_, ⟨x, _, rfl⟩, hu⟩ := hu
  exact wc_one _ u hu
theorem sl_nil_of {w : World} {xs : List Value} (h : Sl w none xs) : xs = [] := by
  cases xs with
  | nil => rfl
  | cons c l => obtain ⟨ad, e, _⟩ := h 0 c rfl; cases e
theorem pclone_any (A : Option Addr) (cap n : Nat) (xs : List Value) (w : World) (h : Sl w A xs) (hl : xs.length = n * 64) (h1 : ∀ u ∈ xs, u.oneCell' = true) (hn : n ≤ 1000000) :
    Calls Try.prog 27 #[.slice A n cap] w fun e w' => ∃ v, e = .returned v ∧ w'.ownsRow w.heap.size 59 64 v n xs ∧ Ext w w' := by
  have hnil := fun w A n c => Lib.run_eql_slice_nil (P := Try.prog) w 53 59 A n c 0 0 Try.underlying53
  cases A with
  | none =>
    obtain rfl := sl_nil_of h
    obtain rfl : n = 0 := by simp at hl; omega
    go_enter Try.func27, Try.ntmps27
    go_wp2
    go_ret
    exact ⟨_, rfl, World.ownsRow_nil _ _ _ _, Ext.refl _⟩
  | some ad =>
    have HL := Lib.hid hl
    clear hl
    go_enter Try.func27, Try.ntmps27
    go_wp2_with (at_builtin; refine unstop ?_)
    refine go_on (wpList_app pagesT (xs := []) (World.ownsRow_made w #[] 0 (Nat.le_refl _) (by simp [maxLen]) rfl) (h.ext ((Ext.refl _).alloc _)) rfl rfl rfl rfl HL.out h1 (by omega) (by omega) (by simp) ?_)
    intro v' w1 hown1 hg1 hor1
    go_wp2
    go_ret
    exact ⟨_, rfl, by simpa using hown1, ((Ext.refl _).alloc _).grown hg1 (by intro k hk; simp [Value.ownBlock] at hk; omega)⟩
theorem wclone_any (A : Option Addr) (cap n : Nat) (xs : List Value) (w : World) (h : Sl w A xs) (hl : xs.length = n * 65) (h1 : ∀ u ∈ xs, u.oneCell' = true) (hn : n ≤ 1000000) :
    Calls Try.prog 28 #[.slice A n cap] w fun e w' => ∃ v, e = .returned v ∧ w'.ownsRow w.heap.size 61 65 v n xs ∧ Ext w w' := by
  have hnil := fun w A n c => Lib.run_eql_slice_nil (P := Try.prog) w 54 61 A n c 0 0 Try.underlying54
  cases A with
  | none =>
    obtain rfl := sl_nil_of h
    obtain rfl : n = 0 := by simp at hl; omega
    go_enter Try.func28, Try.ntmps28
    go_wp2
    go_ret
    exact ⟨_, rfl, World.ownsRow_nil _ _ _ _, Ext.refl _⟩
  | some ad =>
    have HL := Lib.hid hl
    clear hl
    go_enter Try.func28, Try.ntmps28
    go_wp2_with (at_builtin; refine unstop ?_)
    refine go_on (wpList_app writesT (xs := []) (World.ownsRow_made w #[] 0 (Nat.le_refl _) (by simp [maxLen]) rfl) (h.ext ((Ext.refl _).alloc _)) rfl rfl rfl rfl HL.out h1 (by omega) (by omega) (by simp) ?_)
    intro v' w1 hown1 hg1 hor1
    go_wp2
    go_ret
    exact ⟨_, rfl, by simpa using hown1, ((Ext.refl _).alloc _).grown hg1 (by intro k hk; simp [Value.ownBlock] at hk; omega)⟩
section
variable {B : List Nat} {p g cap : Nat} {s : Dk} {v : Value}
theorem fork_made {f g1 n1 b1 b2 : Nat} {A2 : Option Addr} {c2 : Nat} {cs : Array Value} {w W W' : World} (hrow : W.heap[f]? = some (.cells cs 56 (0, 0))) (ho1 : W.ownsRow b1 59 64 (.slice (some ⟨g1, 0, none⟩) s.sure.length n1) s.sure.length (pcs s.sure)) (ho2 : W.ownsRow b2 61 65 (.slice A2 s.waits.length c2) s.waits.length (wcs s.waits))
    (hk : Kept [f] W W') (hr : W'.heap[f]? = some (.cells #[.slice (some ⟨g1, 0, none⟩) s.sure.length n1, .slice A2 s.waits.length c2, .bool s.down, .int .i64 s.cut, .int .i64 s.age] 56 (0, 0))) (hf : w.heap.size ≤ f) (h1 : w.heap.size ≤ b1) (h2 : w.heap.size ≤ b2) (_hx : Ext w W) :
    Disk (f :: g1 :: (Value.slice A2 s.waits.length c2).ownBlock.toList) W' f s ∧ ∀ k ∈ f :: g1 :: (Value.slice A2 s.waits.length c2).ownBlock.toList, w.heap.size ≤ k := by
  have k1 := (ho1.lt g1 rfl)
  have k2 : ∀ k ∈ (Value.slice A2 s.waits.length c2).ownBlock.toList, b2 ≤ k ∧ k < W.heap.size := fun k hk => ho2.lt k (by simpa using hk)
  have hgr : W.grownBy W' (some f) := ⟨hk.os, hk.tape, hk.output, hk.size, fun k hk' hne => hk.block k hk' (by simpa using fun e => hne (by rw [e]))⟩
  have hl := obj_lt hrow
  have hs := hk.size
  refine ⟨⟨g1, n1, _, hr, owns_low (ho1.kept hgr (owns_obj ho1 hrow (by decide))) (Nat.zero_le _), owns_low (ho2.kept hgr (owns_obj ho2 hrow (by decide))) (Nat.zero_le _), by simp, by simp, fun k hk => by simp [hk], fun k hk => ?_⟩, fun k hk => ?_⟩
  · rcases List.mem_cons.1 hk with rfl | hk
    · omega
    · rcases List.mem_cons.1 hk with rfl | hk
      · omega
      · have := k2 k hk; omega
  · rcases List.mem_cons.1 hk with rfl | hk
    · omega
    · rcases List.mem_cons.1 hk with rfl | hk
      · omega
      · have := k2 k hk; omega
set_option maxHeartbeats 2000000 in
theorem Fork_is (w : World) (h : IsDk B w p s g cap v) (hs : s.Ok) (hm : s.waits.length ≤ 1000000) :
    Calls Try.prog 19 #[pt p] w fun e w' => ∃ f B', e = .returned (pt f) ∧ Ext w w' ∧ Disk B' w' f s ∧ ∀ k ∈ B', w.heap.size ≤ k := by
  obtain ⟨C0, C1, C2, C3, C4, _⟩ := h.cells
  have c0 := C0 w (Ext.refl w)
  have c1 := C1 w (Ext.refl w)
  have c2 := C2 w (Ext.refl w)
  have c3 := C3 w (Ext.refl w)
  have c4 := C4 w (Ext.refl w)
  obtain ⟨Av, cv, rfl⟩ := own_form h.own2
  have hx0 := (Ext.refl w).alloc (.cells #[.slice (some ⟨g, 0, none⟩) s.sure.length cap, .slice Av s.waits.length cv, .bool s.down, .int .i64 s.cut, .int .i64 s.age] 56)
  have hr0 := heap_alloc_new w (.cells #[.slice (some ⟨g, 0, none⟩) s.sure.length cap, .slice Av s.waits.length cv, .bool s.down, .int .i64 s.cut, .int .i64 s.age] 56)
  have s1 := (Sl.own h.own1 rfl).ext hx0
  have s2 := (Sl.own h.own2 rfl).ext hx0
  have H1 := fun W (hx : Ext (w.alloc (.cells #[.slice (some ⟨g, 0, none⟩) s.sure.length cap, .slice Av s.waits.length cv, .bool s.down, .int .i64 s.cut, .int .i64 s.age] 56)) W) => pclone_any (some ⟨g, 0, none⟩) cap s.sure.length _ W (s1.ext hx) (pcs_len hs.page) (pcs_one _) (by have := hs.n2; omega)
  have H2 := fun W (hx : Ext (w.alloc (.cells #[.slice (some ⟨g, 0, none⟩) s.sure.length cap, .slice Av s.waits.length cv, .bool s.down, .int .i64 s.cut, .int .i64 s.age] 56)) W) => wclone_any Av cv s.waits.length _ W (s2.ext hx) (wcs_len fun x hx => (hs.wait x hx).1) (wcs_one _) (by omega)
  have C0 := fun W (hx : Ext (w.alloc (.cells #[.slice (some ⟨g, 0, none⟩) s.sure.length cap, .slice Av s.waits.length cv, .bool s.down, .int .i64 s.cut, .int .i64 s.age] 56)) W) => C0 W (hx0.trans hx)
  have C1 := fun W (hx : Ext (w.alloc (.cells #[.slice (some ⟨g, 0, none⟩) s.sure.length cap, .slice Av s.waits.length cv, .bool s.down, .int .i64 s.cut, .int .i64 s.age] 56)) W) => C1 W (hx0.trans hx)
  have HX0 := Lib.hid hx0
  have HR0 := Lib.hid hr0
  have hn1 := hs.n1
  clear h hx0 hr0 s1 s2 C2 C3 C4 hs
  unfold pt
  go_enter Try.func19, Try.ntmps19
  go_wp2_with fail
  generalize (w.alloc (.cells #[.slice (some ⟨g, 0, none⟩) s.sure.length cap, .slice Av s.waits.length cv, .bool s.down, .int .i64 s.cut, .int .i64 s.age] 56)) = w5 at *
  have hxn : Ext w5 w5.drew := (Ext.refl w5).drew
  refine wp_region_phase (S := fun w' => Ext w5 w') 10 (by kernel_rfl) (by kernel_rfl) ?_ (fun hHeld => ?_)
  · exact hxn
  simp only [List.drop_succ_cons, List.drop_zero]
  refine name_head ?_
  intro wr0 hw0
  rw [hw0] at hHeld
  refine wpHead_take (i := 0) (v := ?_) (by rfl) (by kernel_rfl) (by kernel_rfl) (by exact fun _ _ _ h => h) (Or.inl ⟨by rfl, ?_⟩) (by assumption) ?_
  rotate_left
  · intro w hSw
    first | (go_simp; done) | (go_simp; with_reducible rfl)
  simp only [List.getElem_toArray, List.getElem_cons_zero, Act.put, List.setIfInBounds_toArray, List.set_cons_zero, List.set_cons_succ]
  refine wpHead_take (i := 1) (v := ?_) (by rfl) (by kernel_rfl) (by kernel_rfl) (by exact fun _ _ _ h => h) (Or.inl ⟨by rfl, ?_⟩) (by assumption) ?_
  rotate_left
  · intro w hSw
    first | (go_simp; done) | (go_simp; with_reducible rfl)
  simp only [List.getElem_toArray, List.getElem_cons_succ, List.getElem_cons_zero, Act.put, List.setIfInBounds_toArray, List.set_cons_zero, List.set_cons_succ]
  refine wpHead_take (i := 2) (v := ?_) (by rfl) (by kernel_rfl) (by kernel_rfl) (by exact fun _ _ _ h => h) (Or.inl ⟨by rfl, ?_⟩) (by assumption) ?_
  rotate_left
  · intro w hSw
    first | (go_simp; done) | (go_simp; with_reducible rfl)
  simp only [List.getElem_toArray, List.getElem_cons_succ, List.getElem_cons_zero, Act.put, List.setIfInBounds_toArray, List.set_cons_zero, List.set_cons_succ]
  refine wpHead_take (i := 3) (v := ?_) (by rfl) (by kernel_rfl) (by kernel_rfl) (by exact fun _ _ _ h => h) (Or.inl ⟨by rfl, ?_⟩) (by assumption) ?_
  rotate_left
  · intro w hSw
    first | (go_simp; done) | (go_simp; with_reducible rfl)
  simp only [List.getElem_toArray, List.getElem_cons_succ, List.getElem_cons_zero, Act.put, List.setIfInBounds_toArray, List.set_cons_zero, List.set_cons_succ]
  refine wpHead_take (i := 5) (v := ?_) (by rfl) (by kernel_rfl) (by kernel_rfl) (by exact fun _ _ _ h => h) (Or.inl ⟨by rfl, ?_⟩) (by assumption) ?_
  rotate_left
  · intro w hSw
    first | (go_simp; done) | (go_simp; with_reducible rfl)
  simp only [List.getElem_toArray, List.getElem_cons_succ, List.getElem_cons_zero, Act.put, List.setIfInBounds_toArray, List.set_cons_zero, List.set_cons_succ]
  refine wpHead_take (i := 6) (v := ?_) (by rfl) (by kernel_rfl) (by kernel_rfl) (by exact fun _ _ _ h => h) (Or.inl ⟨by rfl, ?_⟩) (by assumption) ?_
  rotate_left
  · intro w hSw
    first | (go_simp; done) | (go_simp; with_reducible rfl)
  simp only [List.getElem_toArray, List.getElem_cons_succ, List.getElem_cons_zero, Act.put, List.setIfInBounds_toArray, List.set_cons_zero, List.set_cons_succ]
  refine wpHead_take (i := 7) (v := ?_) (by rfl) (by kernel_rfl) (by kernel_rfl) (by exact fun _ _ _ h => h) (Or.inl ⟨by rfl, ?_⟩) (by assumption) ?_
  rotate_left
  · intro w hSw
    first | (go_simp; done) | (go_simp; with_reducible rfl)
  simp only [List.getElem_toArray, List.getElem_cons_succ, List.getElem_cons_zero, Act.put, List.setIfInBounds_toArray, List.set_cons_zero, List.set_cons_succ]
  refine wpHead_take (i := 8) (v := ?_) (by rfl) (by kernel_rfl) (by kernel_rfl) (by exact fun _ _ _ h => h) (Or.inl ⟨by rfl, ?_⟩) (by assumption) ?_
  rotate_left
  · intro w hSw
    first | (go_simp; done) | (go_simp; with_reducible rfl)
  simp only [List.getElem_toArray, List.getElem_cons_succ, List.getElem_cons_zero, Act.put, List.setIfInBounds_toArray, List.set_cons_zero, List.set_cons_succ]
  refine wpHead_ready (rs := [4]) (by kernel_rfl) (by simp) (by kernel_rfl) ?_
  refine AllHead.cons (by rfl) (fun K hK => ?_) ?_
  · refine step_call (by rfl) (by kernel_rfl) (H1 _ hHeld) ?_
    rintro e wr4 ⟨v1, rfl, ho1, hx1⟩
    refine ⟨_, rfl, ?_⟩
    have hz1 := hHeld.size
    refine hK.out _ _ ?_ (fun hHeld => ?_)
    · exact hHeld.trans hx1
    clear hK K
    try simp only [List.getElem_toArray, List.getElem_cons_succ, List.getElem_cons_zero, Act.put, List.setIfInBounds_toArray, List.set_cons_zero, List.set_cons_succ]
    refine wpHead_ready (rs := [9]) (by kernel_rfl) (by simp) (by kernel_rfl) ?_
    refine AllHead.cons (by rfl) (fun K hK => ?_) ?_
    · refine step_call (by rfl) (by kernel_rfl) (H2 _ hHeld) ?_
      rintro e wr9 ⟨v2, rfl, ho2, hx2⟩
      refine ⟨_, rfl, ?_⟩
      have hz2 := hHeld.size
      refine hK.out _ _ ?_ (fun hHeld => ?_)
      · exact hHeld.trans hx2
      clear hK K
      try simp only [List.getElem_toArray, List.getElem_cons_succ, List.getElem_cons_zero, Act.put, List.setIfInBounds_toArray, List.set_cons_zero, List.set_cons_succ]
      refine wpHead_done (by kernel_rfl) ?_
      have hrow := hHeld.obj HR0.out
      have hfr := fun j => frozen_of_row _ w.heap.size j _ _ hrow
      have hc0 : wr9.cell? ⟨w.heap.size, 0, none⟩ = some (.slice (some ⟨g, 0, none⟩) s.sure.length cap) := by rw [cell_of_row _ _ 0 _ _ _ hrow]; rfl
      have hc1 : wr9.cell? ⟨w.heap.size, 1, none⟩ = some (.slice Av s.waits.length cv) := by rw [cell_of_row _ _ 1 _ _ _ hrow]; rfl
      have ho1 := owns_ext ho1 hx2
      obtain ⟨g1, n1, rfl, hgb1, hgl1, hgc1, hgm1⟩ := own_some ho1 (by omega)
      obtain ⟨A2, c2, rfl⟩ := own_form ho2
      have hsz := HX0.out.size
      have hkq := ((Kept.refl [w.heap.size] wr9).setCell (p := ⟨w.heap.size, 0, none⟩) (.inl (by simp)) (.slice (some ⟨g1, 0, none⟩) s.sure.length n1)).setCell (p := ⟨w.heap.size, 1, none⟩) (.inl (by simp)) (.slice A2 s.waits.length c2)
      have hrow2 := heap_setCell_same _ w.heap.size 1 _ _ (.slice A2 s.waits.length c2) (heap_setCell_same _ w.heap.size 0 _ _ (.slice (some ⟨g1, 0, none⟩) s.sure.length n1) hrow)
      have hxx : Ext w wr9 := HX0.out.trans hHeld
      have hfin := fork_made hrow ho1 ho2 hkq (by simpa using hrow2) (by omega) (by omega) (by omega) hxx
      have HFIN := Lib.hid hfin
      have HXX := Lib.hid (hxx.kept hkq (by simp))
      clear hrow2 hkq hfin ho1 ho2 hrow
      go_wp2
      go_ret
      exact ⟨_, _, rfl, HXX.out, HFIN.out⟩
    exact AllHead.nil
  exact AllHead.nil
end
end Go.Proofs.Ytcnikfmcefnmoaa
