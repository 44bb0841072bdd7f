/- Buffers of bytes in memory. Each holds for every program and world; the conditions are the hypotheses of each theorem. -/
import Derived.Test.YtchokelpimibdaaChecked
import Derived.Test.YtchokelpimibdaaStr
import Derived.Test.YtchokelpimibdaaClone
import Derived.Test.YtchokelpimibdaaLn0
namespace Go.Proofs.Ytchokelpimibdaa
open Go.RowKit
def pt (p : Nat) : Value := .pointer (some ⟨p, 0, none⟩)
/-- the buffer at p, of type t, holds l; its row lies in no block of M -/
def IsBuf (t : Nat) (M : List Nat) (w : World) (p : Nat) (l : List UInt8) : Prop :=
  ∃ A c, w.heap[p]? = some (.cells #[.slice A l.length c] t (0, 0)) ∧ BsM M w A l ∧ l.length ≤ c ∧ c ≤ 9223372036854775807
section
variable {t : Nat} {M N : List Nat} {w w' : World} {p : Nat} {l : List UInt8} {v : Value}
theorem IsBuf.kept (h : IsBuf t M w p l) (k : Kept N w w') (hp : p ∉ N) (hs : ∀ k ∈ N, k ∈ M) : IsBuf t M w' p l := by
  obtain ⟨A, c, h1, h2, h3⟩ := h
  exact ⟨A, c, k.heap h1 hp, BsM.kept h2 (k.mono hs), h3⟩
theorem IsBuf.ext (h : IsBuf t M w p l) (k : Ext w w') : IsBuf t M w' p l := h.kept (N := []) (.of_ext k) (by simp) (by simp)
theorem IsBuf.old (h : IsBuf t M w p l) (hs : ∀ k ∈ N, k ∈ M ∨ w.heap.size ≤ k) : IsBuf t N w p l := by
  obtain ⟨A, c, h1, h2, h3⟩ := h
  exact ⟨A, c, h1, SlM.old h2 hs, h3⟩
theorem IsBuf.lt (h : IsBuf t M w p l) : p < w.heap.size := by
  obtain ⟨A, c, h1, _⟩ := h
  exact obj_lt h1
theorem row1_cell (h : w.heap[p]? = some (.cells #[v] t (0, 0))) : (∀ w', Ext w w' → w'.cell? ⟨p, 0, none⟩ = some v) ∧ (∀ w' j, Ext w w' → w'.frozen? ⟨p, j, none⟩ = false) :=
  ⟨fun _ hx => by rw [cell_of_row _ p 0 _ _ _ (hx.obj h)]; rfl, fun _ j hx => frozen_of_row _ p j _ _ (hx.obj h)⟩
/-- its cell turns: another row, of the call's own -/
theorem IsBuf.set {A : Option Addr} {c n : Nat} {v : Value} {l' : List UInt8} (h : w.heap[p]? = some (.cells #[v] t (0, 0))) (hp : p ∈ M) (hb : BsM M w A l') (hn : n = l'.length) (hc : l'.length ≤ c) (hm : c ≤ 9223372036854775807) :
    IsBuf t M (w.setCell ⟨p, 0, none⟩ (.slice A n c)) p l' ∧ Kept [p] w (w.setCell ⟨p, 0, none⟩ (.slice A n c)) := by
  subst hn
  have hk : Kept [p] w (w.setCell ⟨p, 0, none⟩ (.slice A l'.length c)) := (Kept.refl _ _).setCell (.inl (by simp)) _
  exact ⟨⟨A, c, by simpa using heap_setCell_same w p 0 _ _ (.slice A l'.length c) h, BsM.kept hb (hk.mono (by simpa using hp)), hc, hm⟩, hk⟩
end
/-- a slice by its end and its capacity: s[:h:h] -/
theorem cutB_hm {P : Program} {t e : Nat} (ht : P.underlying t = some (.slice e)) (hz : ∀ w, (Go.sizeOf e).run P w = .ok 1 w) (A : Option Addr) (n cap : Nat) (b : List UInt8) (h : Nat) {hi mi : Int} (eh : hi = h) (em : mi = h) (en : b.length = n) (hn : n ≤ cap) (hh : h ≤ n) :
    ∃ A', (∀ W, (Instr.slice t (.slice A n cap) none (some (.int .i64 hi)) (some (.int .i64 mi))).run P W = .ok (.slice A' h h) W) ∧ (∀ w, Bs w A b → Bs w A' (b.take h)) := by
  subst eh em
  refine ⟨if h = 0 then A else A.map (·.add 0), fun W => ?_, fun w hb => ?_⟩
  · have ht' : P.underlying t = some (.slice (P.elem t)) := by simp [Program.elem, ht]
    have he : P.elem t = e := by simp [Program.elem, ht]
    rw [run_slice_hm W t _ _ _ ht' .i64 .i64 _ _ (by omega) (by omega) (by omega), he, hz]
    simp [Result.andThen, sliced]
  · subst en
    unfold Bs
    rw [bv_take]
    by_cases hc : h = 0
    · rw [if_pos hc]; exact Sl.take hb h
    · rw [if_neg hc]
      have := (Sl.add hb 0).take h
      simpa using this
end Go.Proofs.Ytchokelpimibdaa
