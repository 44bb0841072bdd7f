/- bag.Bag in memory; the walks of New, Len, Lost, wrong. Conditions: those of IsBag. -/
import Derived.Test.YtbanjhfmddhndaaChecked
import Derived.Test.YtbanjhfmddhndaaDel
import Derived.Test.YtbanjhfmddhndaaOwnU
namespace Go.Proofs.Ytbanjhfmddhndaa
open Go.RowKit
structure Bg where
  most : Int
  lost : Int
  l : List U
def IsBag (M : List Nat) (w : World) (p : Nat) (b : Bg) : Prop :=
  ∃ A cap, w.heap[p]? = some (.cells #[.int .i64 b.most, .int .i64 b.lost, .slice A b.l.length cap] 54 (0, 0)) ∧ RsM RU 3 M w A b.l
theorem IsBag.kept {M N : List Nat} {w w' : World} {p : Nat} {b : Bg} (h : IsBag M w p b) (k : Kept N w w') (hp : p ∉ N) (hs : ∀ k ∈ N, k ∈ M) : IsBag M w' p b := by
  obtain ⟨A, cap, h1, h2⟩ := h
  exact ⟨A, cap, k.heap h1 hp, h2.kept (k.mono hs)⟩
theorem IsBag.ext {M : List Nat} {w w' : World} {p : Nat} {b : Bg} (h : IsBag M w p b) (k : Ext w w') : IsBag M w' p b :=
  h.kept (N := []) (.of_ext k) (by simp) (by simp)
theorem IsBag.old {M N : List Nat} {w : World} {p : Nat} {b : Bg} (h : IsBag M w p b) (hs : ∀ k ∈ N, k ∈ M ∨ w.heap.size ≤ k) : IsBag N w p b := by
  obtain ⟨A, cap, h1, h2⟩ := h
  exact ⟨A, cap, h1, h2.old hs⟩
theorem IsBag.lt {M : List Nat} {w : World} {p : Nat} {b : Bg} (h : IsBag M w p b) : p < w.heap.size := by
  obtain ⟨A, cap, h1, h2⟩ := h
  exact (Array.getElem?_eq_some_iff.1 h1).1
def pt (p : Nat) : Value := .pointer (some ⟨p, 0, none⟩)
theorem New_ok (n : Int) (w : World) (h1 : 1 ≤ n) (h2 : n ≤ 48) : Calls Try.prog 7 #[.int .i64 n] w fun e w' => e = .returned (.tuple #[pt w.heap.size, .int .i64 0]) ∧ Ext w w' ∧ ∀ M, IsBag M w' w.heap.size ⟨n, 0, []⟩ := by
  go_enter Try.func7, Try.ntmps7
  go_wp2
  all_goals
    refine bodyPost_ret (v := .tuple #[pt w.heap.size, .int .i64 0]) (by simp [results, Try.results7, go_sem, pt]) rfl ?_
    exact ⟨rfl, (Ext.refl _).alloc _, fun M => ⟨none, 0, heap_alloc_new _ _, RsM.nil _ _ _ _ _⟩⟩
theorem New_no (n : Int) (w : World) (h : n < 1 ∨ 48 < n) : Calls Try.prog 7 #[.int .i64 n] w fun e w' => e = .returned (.tuple #[.pointer none, .int .i64 2]) ∧ w' = w := by
  rcases h with h | h
  · go_enter Try.func7, Try.ntmps7
    go_wp2
    refine bodyPost_ret (v := .tuple #[.pointer none, .int .i64 2]) (by simp [results, Try.results7, go_sem]) rfl ?_
    exact ⟨rfl, rfl⟩
  · have h1 : ¬ n < 1 := by omega
    go_enter Try.func7, Try.ntmps7
    go_wp2
    refine bodyPost_ret (v := .tuple #[.pointer none, .int .i64 2]) (by simp [results, Try.results7, go_sem]) rfl ?_
    exact ⟨rfl, rfl⟩
theorem Len_any (p : Nat) (b : Bg) (M : List Nat) (w : World) (h : IsBag M w p b) : Calls Try.prog 15 #[pt p] w fun e w' => e = .returned (.int .i64 b.l.length) ∧ Ext w w' := by
  obtain ⟨A, cap, h1, _⟩ := h
  have c2 := cell_of_row w p 2 _ _ _ h1
  simp only [List.getElem?_toArray, List.getElem?_cons_zero, List.getElem?_cons_succ] at c2
  unfold pt
  go_enter Try.func15, Try.ntmps15
  go_wp2
  go_ret
  exact ⟨rfl, Ext.refl _⟩
theorem Lost_any (p : Nat) (b : Bg) (M : List Nat) (w : World) (h : IsBag M w p b) : Calls Try.prog 16 #[pt p] w fun e w' => e = .returned (.int .i64 b.lost) ∧ Ext w w' := by
  obtain ⟨A, cap, h1, _⟩ := h
  have c1 := cell_of_row w p 1 _ _ _ h1
  simp only [List.getElem?_toArray, List.getElem?_cons_zero, List.getElem?_cons_succ] at c1
  unfold pt
  go_enter Try.func16, Try.ntmps16
  go_wp2
  go_ret
  exact ⟨rfl, Ext.refl _⟩
theorem wrong_any (p : Nat) (i : Int) (b : Bg) (M : List Nat) (w : World) (h : IsBag M w p b) : Calls Try.prog 25 #[pt p, .int .i64 i] w fun e w' => e = .returned (.int .i64 (if 0 ≤ i ∧ i < b.l.length then 0 else 2)) ∧ Ext w w' := by
  obtain ⟨A, cap, h1, _⟩ := h
  have c2 := cell_of_row w p 2 _ _ _ h1
  simp only [List.getElem?_toArray, List.getElem?_cons_zero, List.getElem?_cons_succ] at c2
  unfold pt
  by_cases hi0 : i < 0
  · rw [if_neg (by omega)]
    go_enter Try.func25, Try.ntmps25
    go_wp2
    go_ret
    exact ⟨rfl, Ext.refl _⟩
  · by_cases hi1 : i < b.l.length
    · rw [if_pos (by omega)]
      go_enter Try.func25, Try.ntmps25
      go_wp2
      go_ret
      exact ⟨rfl, Ext.refl _⟩
    · rw [if_neg (by omega)]
      go_enter Try.func25, Try.ntmps25
      go_wp2
      go_ret
      exact ⟨rfl, Ext.refl _⟩
end Go.Proofs.Ytbanjhfmddhndaa
