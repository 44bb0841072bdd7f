/- The walk of the reference's Number. Conditions: the text is at most 2^43 bytes long, and the library's two tables are laid. -/
import Derived.Test.YtkjklpalpodbgaaDoorLet
import Derived.Test.YtkjklpalpodbgaaDoorText5
import Derived.Lib.TrimAscii
namespace Go.Proofs.YtkjklpalpodbgaaDoor
open Go.RowKit
/-- the letters ahead of place i are one byte each -/
structure Ahead (l : List UInt8) (i : Nat) : Prop where
  le : i ≤ l.length
  eq : lets l = (l.take i).map (fun c => [c]) ++ lets (l.drop i)
  ok : ∀ j, j < i → badAt l j = false
theorem Ahead.zero (l : List UInt8) : Ahead l 0 := ⟨by omega, by simp, by omega⟩
theorem Ahead.lt {l : List UInt8} {i : Nat} (h : Ahead l i) : i < (lets l).length ↔ i < l.length := by
  have hl := congrArg List.length h.eq
  simp only [List.length_append, List.length_map, List.length_take] at hl
  have hle := h.le
  constructor
  · intro h1
    rcases Nat.lt_or_ge i l.length with h2 | h2
    · exact h2
    · have : l.drop i = [] := List.drop_eq_nil_of_le h2
      rw [this, lets_nil] at hl
      simp at hl
      omega
  · intro h1
    have hne : l.drop i ≠ [] := by intro e; have := congrArg List.length e; simp at this; omega
    rw [lets_step _ hne] at hl
    simp at hl
    omega
/-- the letter at place i -/
theorem Ahead.here {l : List UInt8} {i : Nat} (h : Ahead l i) (hi : i < l.length) :
    ∃ b c, (lets l)[i]? = some b ∧ l[i]? = some c ∧ b[0]? = some c ∧ (b.length ≠ 1 → badAt l i = true) ∧ (badAt l i = false → Ahead l (i + 1)) ∧ (0 < i → ∃ d, (lets l)[0]? = some [d] ∧ l[0]? = some d) := by
  have hne : l.drop i ≠ [] := by intro e; have := congrArg List.length e; simp at this; omega
  have hp := decL_pos _ hne
  have hle := Lib.decodeL_le _ hne
  have hst := lets_step _ hne
  have hd : l.drop i = l[i] :: l.drop (i + 1) := List.drop_eq_getElem_cons hi
  have hasc : l[i].toNat < 128 → (Lib.decodeL (l.drop i)).2 = 1 := by
    intro ha
    rw [hd, Lib.decodeL_ascii _ _ ha]
  have hgi : l[i]? = some l[i] := List.getElem?_eq_getElem hi
  have hlen : ((l.take i).map fun c => [c]).length = i := by simp; omega
  refine ⟨(l.drop i).take (Lib.decodeL (l.drop i)).2, l[i], ?_, hgi, ?_, ?_, ?_, ?_⟩
  · rw [h.eq, List.getElem?_append_right (by omega), hlen, Nat.sub_self, hst]
    rfl
  · rw [List.getElem?_take_of_lt (by omega), hd]
    rfl
  · intro hb
    apply badAt_no hgi
    intro hdg
    apply hb
    have := hasc (by omega)
    simp only [List.length_take, List.length_drop] at hle ⊢
    omega
  · intro hb
    have hdg := ((show badAt l i = false from hb))
    have hok : digit l[i] = true := by
      unfold badAt at hdg
      rw [hgi] at hdg
      simp only [Option.map_some, Option.getD_some, Bool.or_eq_false_iff, Bool.not_eq_false'] at hdg
      exact hdg.1
    unfold digit at hok
    simp only [decide_eq_true_eq] at hok
    have hW := hasc (by omega)
    refine ⟨by omega, ?_, fun j hj => ?_⟩
    · have h1 : (l.take (i + 1)).map (fun c => [c]) = (l.take i).map (fun c => [c]) ++ [[l[i]]] := by rw [List.take_succ_eq_append_getElem hi, List.map_append]; rfl
      have h2 : (l.drop i).take 1 = [l[i]] := by rw [hd]; rfl
      rw [h.eq, hst, hW, h1, h2, List.drop_drop, List.append_assoc]
      rfl
    · rcases Nat.lt_or_ge j i with h1 | h1
      · exact h.ok j h1
      · have : j = i := by omega
        rw [this]; exact hb
  · intro h0
    cases l with
    | nil => simp at hi
    | cons d l =>
      refine ⟨d, ?_, rfl⟩
      rw [h.eq]
      obtain ⟨i, rfl⟩ : ∃ m, i = m + 1 := ⟨i - 1, by omega⟩
      simp
theorem satV_take_le (l : List UInt8) : ∀ k, satV (l.take k) > 4294967295 → satV l > 4294967295 := by
  intro k h
  have e : l = l.take k ++ l.drop k := (List.take_append_drop k l).symm
  rw [e]
  unfold satV at *
  rw [List.foldl_append]
  generalize List.foldl stepV 0 (l.take k) = acc at *
  induction l.drop k generalizing acc with
  | nil => exact h
  | cons c r ih =>
    rw [List.foldl_cons]
    apply ih
    unfold stepV
    omega
end Go.Proofs.YtkjklpalpodbgaaDoor
