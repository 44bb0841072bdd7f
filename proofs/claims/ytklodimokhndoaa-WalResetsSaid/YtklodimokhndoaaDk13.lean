/- What was flushed is sure, in plain words: whatever is written elsewhere, and whatever becomes of that. Conditions: the hypotheses of each theorem. -/
import Derived.Test.YtklodimokhndoaaDk12
namespace Go.Proofs.Ytklodimokhndoaa
open Go.RowKit
structure Keeps (s : Dk) (i : Nat) (q : List UInt8) : Prop where
  sure : s.sure[i]? = some q
  wait : ∀ x ∈ s.waits, x.1 ≠ i
theorem laid_other (i : Nat) : ∀ (ws : List (Nat × List UInt8)) (l : List (List UInt8)), (∀ x ∈ ws, x.1 ≠ i) → (laid l ws)[i]? = l[i]?
  | [], _, _ => rfl
  | x :: ws, l, h => by
    show (laid (l.set x.1 x.2) ws)[i]? = _
    rw [laid_other i ws _ (fun y hy => h y (by simp [hy])), List.getElem?_set_ne (h x (by simp))]
theorem tornL_other (C : Cr) (i : Nat) : ∀ (ws : List (Nat × List UInt8)) (k : Nat) (l : List (List UInt8)), (∀ x ∈ ws, x.1 ≠ i) → (tornL C k ws l)[i]? = l[i]?
  | [], _, _, _ => rfl
  | x :: ws, k, l, h => by
    simp only [tornL]
    rw [tornL_other C i ws _ _ (fun y hy => h y (by simp [hy])), List.getElem?_set_ne (h x (by simp))]
section
variable {s : Dk} {i : Nat} {q : List UInt8}
theorem Keeps.spent (h : Keeps s i q) : Keeps (spent s) i q := ⟨by rw [spent_sure]; exact h.sure, by rw [spent_waits]; exact h.wait⟩
theorem Keeps.write (h : Keeps s i q) (k : Int) (hk : k ≠ i) (l : List UInt8) : Keeps (writeS s k l) i q := by
  unfold writeS
  split
  · exact h
  · rename_i h1
    split
    · exact h
    · split
      · exact h.spent
      · have h0 := wrong_in (Decidable.not_not.1 h1)
        refine ⟨h.spent.sure, fun x hx => ?_⟩
        simp only [wrote, List.mem_append, List.mem_singleton] at hx
        rcases hx with hx | rfl
        · exact h.spent.wait x hx
        · simp only
          omega
theorem Keeps.flush (h : Keeps s i q) : Keeps (flushS s) i q := by
  unfold flushS
  split
  · exact h
  · split
    · exact h.spent
    · exact ⟨by simp only [flushed]; rw [laid_other i _ _ h.wait]; exact h.sure, fun x hx => absurd hx (by simp [flushed])⟩
theorem Keeps.cut (h : Keeps s i q) (n : Int) : Keeps (cutS s n) i q := by
  unfold cutS
  split
  · exact h
  · exact ⟨h.sure, h.wait⟩
theorem Keeps.crash (h : Keeps s i q) (C : Cr) : Keeps (crashed s C) i q :=
  ⟨by simp only [crashed]; rw [tornL_other C i _ _ _ h.wait]; exact h.sure, fun x hx => absurd hx (by simp [crashed])⟩
/-- behind a crash it is read -/
theorem Keeps.read (h : Keeps s i q) (C : Cr) : wrongE (crashed s C) i true = 0 ∧ readL (crashed s C) i = q := by
  have hk := (h.crash C).sure
  have hi := (List.getElem?_eq_some_iff.1 hk).1
  have h0 : wrongE (crashed s C) i true = 0 := by unfold wrongE; rw [if_neg (by simp [crashed]), if_pos (by omega)]
  refine ⟨h0, ?_⟩
  unfold readL
  rw [h0, if_neg (by simp)]
  unfold readS
  rw [List.getD_eq_getElem?_getD, Int.toNat_natCast, hk]
  simp [crashed]
end
theorem last_start (i : Nat) (hi : i < 8) (l : List UInt8) (hl : l.length ≤ 64) : writeE (newD 8) i l = 0 ∧ flushE (writeS (newD 8) i l) = 0 ∧ Keeps (flushS (writeS (newD 8) i l)) i (padL l) := by
  have hlen : (newD 8).sure.length = 8 := by simp [newD]
  have h0 : wrongE (newD 8) i true = 0 := by unfold wrongE; rw [if_neg (by simp [newD]), if_pos (by omega)]
  obtain ⟨e1, e2⟩ := write_eq h0 hl
  have e3 : spent (newD 8) = newD 8 := spent_zero rfl
  rw [e3] at e1 e2
  simp only [newD, Bool.false_eq_true, if_false] at e1 e2
  rw [show (⟨List.replicate 8 zpage, [], false, 0, 0⟩ : Dk) = newD 8 from rfl] at e1 e2
  have e4 : wrote (newD 8) (i : Int).toNat l = ⟨(newD 8).sure, [(i, padL l)], false, 0, 0⟩ := by unfold wrote; rw [e3]; rfl
  rw [e4] at e2
  rw [e1, e2]
  refine ⟨rfl, ?_, ?_⟩
  · obtain ⟨f1, f2⟩ := flush_eq (s := ⟨(newD 8).sure, [(i, padL l)], false, 0, 0⟩) rfl
    rw [f1]
    rfl
  · obtain ⟨f1, f2⟩ := flush_eq (s := ⟨(newD 8).sure, [(i, padL l)], false, 0, 0⟩) rfl
    rw [f2]
    refine ⟨?_, fun x hx => absurd hx (by simp [flushed, spent])⟩
    show ((newD 8).sure.set i (padL l))[i]? = _
    rw [List.getElem?_set_self (by omega)]
end Go.Proofs.Ytklodimokhndoaa
