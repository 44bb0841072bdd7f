/- The walks of both Scans: they answer the same. Conditions: the lengths named. -/
import Derived.Test.YtklodimokhndoaaC0
namespace Go.Proofs.Ytklodimokhndoaa
open Go.RowKit
def scanF (b : List UInt8) : Nat → Nat → List (List UInt8) × Nat
  | 0, at_ => ([], at_)
  | f + 1, at_ => if (oneL b at_).2.2 = 0 then ((oneL b at_).1 :: (scanF b f (oneL b at_).2.1.toNat).1, (scanF b f (oneL b at_).2.1.toNat).2) else ([], at_)
def scanL (b : List UInt8) : List (List UInt8) × Nat := scanF b (b.length + 1) 0
theorem oneL_next (b : List UInt8) (k : Nat) (h : (oneL b k).2.2 = 0) : ∃ n : Nat, (oneL b k).2.1 = (n : Int) ∧ k + 7 ≤ n ∧ n ≤ b.length := by
  unfold oneL at h ⊢
  split at h
  · simp at h
  split at h
  · simp at h
  split at h
  · simp at h
  split at h
  · simp at h
  split at h
  · simp at h
  rename_i h1 h2 h3 h4 h5
  rw [if_neg h1, if_neg h2, if_neg h3, if_neg h4, if_neg h5]
  refine ⟨k + 6 + numL ((b.drop (k : Int).toNat).take 2), by simp, by omega, ?_⟩
  simp only [List.length_drop] at h2 h4
  omega
/-- what a scan's loop has gathered when it is at a place -/
def ScanAt (b : List UInt8) (outs : List (List UInt8)) (k : Nat) : Prop :=
  k ≤ b.length ∧ outs.length ≤ k ∧ ∃ f, b.length - k < f ∧ scanL b = (outs ++ (scanF b f k).1, (scanF b f k).2)
theorem ScanAt.start (b : List UInt8) : ScanAt b [] 0 := ⟨by omega, by simp, b.length + 1, by omega, by simp [scanL]⟩
theorem ScanAt.stop {b : List UInt8} {outs : List (List UInt8)} {k : Nat} (h : ScanAt b outs k) (he : (oneL b k).2.2 ≠ 0) : scanL b = (outs, k) := by
  obtain ⟨_, _, f, hf, e⟩ := h
  cases f with
  | zero => omega
  | succ f => rw [e]; simp [scanF, he]
theorem ScanAt.step {b : List UInt8} {outs : List (List UInt8)} {k : Nat} (h : ScanAt b outs k) (he : (oneL b k).2.2 = 0) :
    ∃ n : Nat, (oneL b k).2.1 = (n : Int) ∧ k < n ∧ n ≤ b.length ∧ ScanAt b (outs ++ [(oneL b k).1]) n := by
  obtain ⟨h1, h2, f, hf, e⟩ := h
  obtain ⟨n, hn, h3, h4⟩ := oneL_next b k he
  refine ⟨n, hn, by omega, h4, h4, by simp; omega, ?_⟩
  cases f with
  | zero => omega
  | succ f => exact ⟨f, by omega, by rw [e]; simp [scanF, he, hn]⟩
def ScanSays (b : List UInt8) (w : World) (e : Ending) (w' : World) : Prop := ∃ v, e = .returned (.tuple #[v, .int .i64 ((scanL b).2 : Nat)]) ∧ OwnS w' w.heap.size v (scanL b).1 ∧ Ext w w'
theorem ScanSays.mk {b : List UInt8} {w w' : World} {outs : List (List UInt8)} {k : Nat} {v : Value} (h : scanL b = (outs, k)) (ho : OwnS w' w.heap.size v outs) (hx : Ext w w') : ScanSays b w (.returned (.tuple #[v, .int .i64 (k : Nat)])) w' := by
  refine ⟨v, ?_, ?_, hx⟩
  · rw [h]
  · rw [h]; exact ho
theorem bytessScT : ElemOf Try.prog 47 46 1 24 := ElemOf.mk' (z := .slice none 0 0) Try.underlying47 (by kernel_rfl) rfl (by omega)
end Go.Proofs.Ytklodimokhndoaa
