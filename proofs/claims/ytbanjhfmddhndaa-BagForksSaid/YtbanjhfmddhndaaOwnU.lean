/- The walk of bag.own: a message in new memory. Condition: at most a million bytes. -/
import Derived.Test.YtbanjhfmddhndaaChecked
import Derived.Test.YtbanjhfmddhndaaUnd
import Derived.Deep.OwnRows
import Derived.Laws.CopyOwn
namespace Go.Proofs.Ytbanjhfmddhndaa
open Go.RowKit
theorem made_bv (n : Nat) : (bv (List.replicate n 0)) = (madeCells #[Value.int .u8 0] n).toList := by
  apply List.ext_getElem
  · simp [madeCells]
  · intro j h1 h2
    simp [madeCells, bv, Nat.mod_one]
/-- copy(b, src) onto a new row of the same length -/
theorem run_copyB (W : World) (g c cap ty : Nat) (A : Option Addr) (l : List UInt8) (hg : W.heap[g]? = some (.cells (madeCells #[.int .u8 0] l.length) 5 (0, 0))) (h : Bs W A l) :
    ∃ W', (Builtin.copy_ #[28, 28] ty #[.slice (some ⟨g, 0, none⟩) l.length c, .slice A l.length cap]).run Try.prog W = .ok (.int .i64 l.length) W' ∧ W'.heap[g]? = some (.cells (bv l).toArray 5 (0, 0)) ∧ W.grownBy W' (some g) := by
  cases l with
  | nil =>
    refine ⟨W, ?_, by
      have e0 : madeCells #[Value.int .u8 0] ([] : List UInt8).length = (bv []).toArray := by
        apply Array.toList_inj.1
        exact (made_bv 0).symm
      rw [← e0]
      exact hg, World.grownBy.refl _ _⟩
    exact run_copy_none (P := Try.prog) W 28 28 ty 5 _ A 0 c 0 cap Try.underlying28 (by kernel_rfl) (by simp)
  | cons x l =>
    obtain ⟨ad, rfl, _⟩ := h 0 _ (bv_get (l := x :: l) (k := 0) (by simp))
    have hsz : (madeCells #[Value.int .u8 0] (x :: l).length).size = (bv (x :: l)).length := by simp [madeCells]
    refine ⟨W.setRow g (bv (x :: l)).toArray, ?_, setRow_heap _ _ _ _ _ _ hg, setRow_grown _⟩
    have := run_copy_row (P := Try.prog) W 28 28 ty 5 g 0 (x :: l).length c ad (x :: l).length cap _ 5 (bv (x :: l)) Try.underlying28 (by kernel_rfl) hg (by simp) (fun j v hj => by
      obtain ⟨ad', e, hc⟩ := h j v hj
      cases e
      exact hc) (by rw [hsz]; omega) (bv_one _)
    rw [this]
    have e0 : List.drop (0 + (bv (x :: l)).length) (madeCells #[Value.int .u8 0] (x :: l).length).toList = [] := List.drop_of_length_le (by rw [Array.length_toList, hsz]; omega)
    rw [e0]
    simp [goInt]
theorem ownU_any (f t : Int) (A : Option Addr) (cap : Nat) (l : List UInt8) (M : List Nat) (w : World) (h : BsM M w A l) (hn : l.length ≤ 1000000) :
    Calls Try.prog 24 #[.agg #[.int .i64 f, .int .i64 t, .slice A l.length cap]] w fun e w' => ∃ g, e = .returned (.agg #[.int .i64 f, .int .i64 t, .slice (some ⟨g, 0, none⟩) l.length l.length]) ∧ Own w' w.heap.size (.slice (some ⟨g, 0, none⟩) l.length l.length) l ∧ Ext w w' := by
  have hmk := fun W => run_make_row' (P := Try.prog) 28 5 (.int .u8 0) 1 Try.underlying28 (by kernel_rfl) rfl .i64 .i64 l.length (by omega) (by omega) W
  have hb := h.bs
  go_enter Try.func24, Try.ntmps24
  go_wp2_with fail
  generalize hW3 : ((w.alloc (.cells #[Value.int .i64 f, .int .i64 t, .slice A l.length cap] 30)).alloc (.cells #[Value.int .i64 0, .int .i64 0, .slice none 0 0] 30)).alloc (.cells (madeCells #[Value.int .u8 0] l.length) 5) = W3
  have hx : Ext w W3 := hW3 ▸ (((Ext.refl w).alloc _).alloc _).alloc _
  have hs1 : W3.heap.size = w.heap.size + 3 := by rw [← hW3]; simp
  have h1 : W3.heap[w.heap.size]? = some (.cells #[Value.int .i64 f, .int .i64 t, .slice A l.length cap] 30 (0, 0)) := by
    rw [← hW3, Below.heap_alloc _ _ _ (by simp; omega), Below.heap_alloc _ _ _ (by simp)]
    exact heap_alloc_new _ _
  have h2 : W3.heap[w.heap.size + 1]? = some (.cells #[Value.int .i64 0, .int .i64 0, .slice none 0 0] 30 (0, 0)) := by
    rw [← hW3, Below.heap_alloc _ _ _ (by simp)]
    have := heap_alloc_new (w.alloc (.cells #[Value.int .i64 f, .int .i64 t, .slice A l.length cap] 30)) (.cells #[Value.int .i64 0, .int .i64 0, .slice none 0 0] 30)
    simpa using this
  have h3 : W3.heap[w.heap.size + 1 + 1]? = some (.cells (madeCells #[Value.int .u8 0] l.length) 5 (0, 0)) := by
    rw [← hW3]
    have := heap_alloc_new ((w.alloc (.cells #[Value.int .i64 f, .int .i64 t, .slice A l.length cap] 30)).alloc (.cells #[Value.int .i64 0, .int .i64 0, .slice none 0 0] 30)) (.cells (madeCells #[Value.int .u8 0] l.length) 5)
    simpa using this
  clear hW3
  obtain ⟨W4, hrun, h3', hG⟩ := run_copyB W3 (w.heap.size + 1 + 1) l.length cap 3 A l h3 (hb.ext hx)
  have h1' := (hG.block w.heap.size (by omega) (by simp; omega)).trans h1
  have h2' := (hG.block (w.heap.size + 1) (by omega) (by simp)).trans h2
  have hx' : Ext w W4 := hx.grown hG (by intro k hk; injection hk with hk; omega)
  have c0 := cell_of_row W4 w.heap.size 0 _ _ _ h1'
  have c1 := cell_of_row W4 w.heap.size 1 _ _ _ h1'
  have c2 := cell_of_row W4 w.heap.size 2 _ _ _ h1'
  have d0 := cell_of_row W4 (w.heap.size + 1) 0 _ _ _ h2'
  have d1 := cell_of_row W4 (w.heap.size + 1) 1 _ _ _ h2'
  have d2 := cell_of_row W4 (w.heap.size + 1) 2 _ _ _ h2'
  have f0 := fun j => frozen_of_row W4 w.heap.size j _ _ h1'
  have g0 := fun j => frozen_of_row W4 (w.heap.size + 1) j _ _ h2'
  simp only [List.getElem?_toArray, List.getElem?_cons_zero, List.getElem?_cons_succ] at c0 c1 c2 d0 d1 d2
  rw [hrun]
  go_wp2_with fail
  refine bodyPost_ret (v := .agg #[.int .i64 f, .int .i64 t, .slice (some ⟨w.heap.size + 1 + 1, 0, none⟩) l.length l.length]) (by simp [results, Try.results24, go_sem, d0, d1, d2]) rfl ⟨_, rfl, ?_, ?_⟩
  · refine own_of (xs := bv l) ⟨by simp, .inr ⟨_, _, (bv l).toArray, rfl, by omega, ?_, Nat.le_refl _, by simp [maxLen]; omega, by simp, by rw [Nat.mul_one]; exact List.take_of_length_le (by simp)⟩⟩ rfl
    rw [Below.heap_setCell _ _ _ _ (by simp), Below.heap_setCell _ _ _ _ (by simp), Below.heap_setCell _ _ _ _ (by simp), Below.heap_setCell _ _ _ _ (by simp; omega)]
    exact h3'
  · exact (((hx'.setCell (by simp) _).setCell (by simp) _).setCell (by simp) _).setCell (by simp) _
end Go.Proofs.Ytbanjhfmddhndaa
