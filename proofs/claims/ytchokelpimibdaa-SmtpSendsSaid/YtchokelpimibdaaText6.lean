/- The walks of text.plain and text.width; a text's letters. Conditions: the lengths named in each theorem. -/
import Derived.Test.YtchokelpimibdaaText3
import Derived.Lib.MapLaws
import Derived.Lib.RuneCountTail
namespace Go.Proofs.Ytchokelpimibdaa
open Go.RowKit
def plainB (c w : Int) : Bool := decide (32 ≤ c ∧ c ≠ 127 ∧ (c ≠ 65533 ∨ w = 3))
theorem dec_at (s : ByteArray) (pos : Nat) : Utf8.decode s pos = Lib.decodeL ((tl s).drop pos) := (Lib.decodeL_drop s pos).symm
theorem dec_pos (s : ByteArray) (pos : Nat) (h : pos < s.size) : 1 ≤ (Utf8.decode s pos).2 := Lib.decode_width_pos s pos h
theorem dec_le (s : ByteArray) (pos : Nat) (h : pos < s.size) : pos + (Utf8.decode s pos).2 ≤ s.size := by
  rw [dec_at]
  have := Lib.decodeL_le ((tl s).drop pos) (by
    intro e
    have := congrArg List.length e
    simp at this
    omega)
  simp at this
  omega
def letF : Nat → List UInt8 → List (Nat × List UInt8)
  | 0, _ => []
  | _ + 1, [] => []
  | f + 1, c :: l => ((Lib.decodeL (c :: l)).1, (c :: l).take (Lib.decodeL (c :: l)).2) :: letF f ((c :: l).drop (Lib.decodeL (c :: l)).2)
def letL (l : List UInt8) : List (Nat × List UInt8) := letF l.length l
theorem decL_pos (l : List UInt8) (h : l ≠ []) : 1 ≤ (Lib.decodeL l).2 := by
  have := dec_pos (st l) 0 (by simp [st_size]; exact List.length_pos_iff.2 h)
  rw [dec_at] at this
  simpa using this
theorem letF_fuel : ∀ (f g : Nat) (l : List UInt8), l.length ≤ f → l.length ≤ g → letF f l = letF g l := by
  intro f
  induction f with
  | zero =>
    intro g l h _
    have : l = [] := List.eq_nil_of_length_eq_zero (by omega)
    subst this
    cases g <;> rfl
  | succ f ih =>
    intro g l h1 h2
    cases l with
    | nil => cases g <;> rfl
    | cons c l =>
      cases g with
      | zero => simp at h2
      | succ g =>
        simp only [letF]
        have hp := decL_pos (c :: l) (by simp)
        rw [ih g _ (by simp only [List.length_drop, List.length_cons] at *; omega) (by simp only [List.length_drop, List.length_cons] at *; omega)]
theorem letL_nil : letL [] = [] := rfl
theorem letL_step (l : List UInt8) (h : l ≠ []) : letL l = ((Lib.decodeL l).1, l.take (Lib.decodeL l).2) :: letL (l.drop (Lib.decodeL l).2) := by
  cases l with
  | nil => exact absurd rfl h
  | cons c l =>
    have hp := decL_pos (c :: l) (by simp)
    unfold letL
    simp only [List.length_cons, letF]
    rw [letF_fuel l.length _ _ (by simp only [List.length_drop, List.length_cons]; omega) (Nat.le_refl _)]
end Go.Proofs.Ytchokelpimibdaa
