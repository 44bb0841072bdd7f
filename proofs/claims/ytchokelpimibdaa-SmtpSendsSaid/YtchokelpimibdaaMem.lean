/- What a block of few cells says of its cells, in every world behind it in which that block has not turned. Each holds for every program and world; the conditions are the hypotheses of each theorem. -/
import Derived.Test.YtchokelpimibdaaMut
namespace Go.Proofs.Ytchokelpimibdaa
open Go.RowKit
section
variable {w : World} {p t : Nat} {a b c d e f : Value}
theorem row_at (h : w.heap[p]? = some (.cells #[a] t (0, 0))) : w.cell? ⟨p, 0, none⟩ = some a ∧ (∀ j, w.frozen? ⟨p, j, none⟩ = false) :=
  ⟨by rw [cell_of_row w p 0 _ _ _ h]; rfl, fun j => frozen_of_row w p j _ _ h⟩
theorem row2_at (h : w.heap[p]? = some (.cells #[a, b] t (0, 0))) : w.cell? ⟨p, 0, none⟩ = some a ∧ w.cell? ⟨p, 1, none⟩ = some b ∧ (∀ j, w.frozen? ⟨p, j, none⟩ = false) :=
  ⟨by rw [cell_of_row w p 0 _ _ _ h]; rfl, by rw [cell_of_row w p 1 _ _ _ h]; rfl, fun j => frozen_of_row w p j _ _ h⟩
theorem row3_at (h : w.heap[p]? = some (.cells #[a, b, c] t (0, 0))) : w.cell? ⟨p, 0, none⟩ = some a ∧ w.cell? ⟨p, 1, none⟩ = some b ∧ w.cell? ⟨p, 2, none⟩ = some c ∧ (∀ j, w.frozen? ⟨p, j, none⟩ = false) :=
  ⟨by rw [cell_of_row w p 0 _ _ _ h]; rfl, by rw [cell_of_row w p 1 _ _ _ h]; rfl, by rw [cell_of_row w p 2 _ _ _ h]; rfl, fun j => frozen_of_row w p j _ _ h⟩
theorem row4_at (h : w.heap[p]? = some (.cells #[a, b, c, d] t (0, 0))) : w.cell? ⟨p, 0, none⟩ = some a ∧ w.cell? ⟨p, 1, none⟩ = some b ∧ w.cell? ⟨p, 2, none⟩ = some c ∧ w.cell? ⟨p, 3, none⟩ = some d ∧ (∀ j, w.frozen? ⟨p, j, none⟩ = false) :=
  ⟨by rw [cell_of_row w p 0 _ _ _ h]; rfl, by rw [cell_of_row w p 1 _ _ _ h]; rfl, by rw [cell_of_row w p 2 _ _ _ h]; rfl, by rw [cell_of_row w p 3 _ _ _ h]; rfl, fun j => frozen_of_row w p j _ _ h⟩
theorem row6_at (h : w.heap[p]? = some (.cells #[a, b, c, d, e, f] t (0, 0))) : w.cell? ⟨p, 0, none⟩ = some a ∧ w.cell? ⟨p, 1, none⟩ = some b ∧ w.cell? ⟨p, 2, none⟩ = some c ∧ w.cell? ⟨p, 3, none⟩ = some d ∧ w.cell? ⟨p, 4, none⟩ = some e ∧ w.cell? ⟨p, 5, none⟩ = some f ∧ (∀ j, w.frozen? ⟨p, j, none⟩ = false) :=
  ⟨by rw [cell_of_row w p 0 _ _ _ h]; rfl, by rw [cell_of_row w p 1 _ _ _ h]; rfl, by rw [cell_of_row w p 2 _ _ _ h]; rfl, by rw [cell_of_row w p 3 _ _ _ h]; rfl, by rw [cell_of_row w p 4 _ _ _ h]; rfl, by rw [cell_of_row w p 5 _ _ _ h]; rfl, fun j => frozen_of_row w p j _ _ h⟩
/-- a block in every world behind -/
theorem Ext.row (h : w.heap[p]? = some (.cells #[a] t (0, 0))) {w' : World} (hx : Ext w w') : w'.heap[p]? = some (.cells #[a] t (0, 0)) := (hx.block p (Array.getElem?_eq_some_iff.1 h).1).trans h
theorem Ext.obj {o : Obj} (h : w.heap[p]? = some o) {w' : World} (hx : Ext w w') : w'.heap[p]? = some o := (hx.block p (Array.getElem?_eq_some_iff.1 h).1).trans h
theorem obj_lt {o : Obj} (h : w.heap[p]? = some o) : p < w.heap.size := (Array.getElem?_eq_some_iff.1 h).1
theorem rows3 (h : w.heap[p]? = some (.cells #[a, b, c] t (0, 0))) : (∀ w', Ext w w' → w'.cell? ⟨p, 0, none⟩ = some a) ∧ (∀ w', Ext w w' → w'.cell? ⟨p, 1, none⟩ = some b) ∧ (∀ w', Ext w w' → w'.cell? ⟨p, 2, none⟩ = some c) ∧ (∀ w' j, Ext w w' → w'.frozen? ⟨p, j, none⟩ = false) :=
  ⟨fun _ hx => (row3_at (hx.obj h)).1, fun _ hx => (row3_at (hx.obj h)).2.1, fun _ hx => (row3_at (hx.obj h)).2.2.1, fun _ j hx => (row3_at (hx.obj h)).2.2.2 j⟩
theorem rows4 (h : w.heap[p]? = some (.cells #[a, b, c, d] t (0, 0))) : (∀ w', Ext w w' → w'.cell? ⟨p, 0, none⟩ = some a) ∧ (∀ w', Ext w w' → w'.cell? ⟨p, 1, none⟩ = some b) ∧ (∀ w', Ext w w' → w'.cell? ⟨p, 2, none⟩ = some c) ∧ (∀ w', Ext w w' → w'.cell? ⟨p, 3, none⟩ = some d) ∧ (∀ w' j, Ext w w' → w'.frozen? ⟨p, j, none⟩ = false) :=
  ⟨fun _ hx => (row4_at (hx.obj h)).1, fun _ hx => (row4_at (hx.obj h)).2.1, fun _ hx => (row4_at (hx.obj h)).2.2.1, fun _ hx => (row4_at (hx.obj h)).2.2.2.1, fun _ j hx => (row4_at (hx.obj h)).2.2.2.2 j⟩
end
theorem SlM.new (w : World) (l : List Value) (cs : Array Value) (h : cs = l.toArray) (t : TypeId) (fr : Nat × Nat) (M : List Nat) (hM : ∀ k ∈ M, k < w.heap.size) : SlM M (w.alloc (.cells cs t fr)) (some ⟨w.heap.size, 0, none⟩) l := by
  subst h
  intro k v hk
  obtain ⟨ad, e, hc⟩ := Sl.new w l t fr k v hk
  cases e
  exact ⟨_, rfl, fun hm => Nat.lt_irrefl _ (hM _ hm), hc⟩
theorem BsM.new (w : World) (l : List UInt8) (cs : Array Value) (h : cs = (bv l).toArray) (t : TypeId) (fr : Nat × Nat) (M : List Nat) (hM : ∀ k ∈ M, k < w.heap.size) : BsM M (w.alloc (.cells cs t fr)) (some ⟨w.heap.size, 0, none⟩) l :=
  SlM.new w _ cs h t fr M hM
theorem owns_obj {w : World} {base e size n p t : Nat} {v : Value} {xs : List Value} {cs : Array Value} {fr : Nat × Nat} (h : w.ownsRow base e size v n xs) (hp : w.heap[p]? = some (.cells cs t fr)) (hne : e ≠ t) : v.ownBlock = none ∨ v.ownBlock ≠ some p := by
  rcases owns_type h with h0 | ⟨g, cur, h1, h2⟩
  · exact .inl h0
  · refine .inr ?_
    rw [h1]
    intro e0
    injection e0 with e0
    subst e0
    rw [h2] at hp
    injection hp with hp
    injection hp with _ h3
    exact hne h3
theorem Ext.kept {M : List Nat} {w w1 w2 : World} (h : Ext w w1) (k : Kept M w1 w2) (hm : ∀ k ∈ M, w.heap.size ≤ k) : Ext w w2 := ((Kept.of_ext (M := M) h).trans k).to_ext hm
theorem one_ge {p n : Nat} (h : n ≤ p) : ∀ k ∈ [p], n ≤ k := by intro k hk; simp at hk; omega
theorem one_lt {p n : Nat} (h : p < n) : ∀ k ∈ [p], k < n := by intro k hk; simp at hk; omega
end Go.Proofs.Ytchokelpimibdaa
