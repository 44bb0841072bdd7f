/- What is cut off bytes that are read one behind the other (none: they ended). Plain definitions; no program. -/
import Derived.Test.YtijopcdjlpafdaaC0
namespace Go.Proofs.Ytijopcdjlpafdaa
open Go.RowKit
def cutV (n : Nat) : Option By → By
 | none => []
 | some l => if l.length < n then [] else l.take n
def cutQ (n : Nat) : Option By → Option By
 | none => none
 | some l => if l.length < n then none else some (l.drop n)
theorem cutV_le (n : Nat) (q : Option By) : (cutV n q).length ≤ n := by
 cases q with
 | none => simp [cutV]
 | some l =>
  unfold cutV
  simp only
  split
  ·simp
  ·rw [List.length_take]; omega
end Go.Proofs.Ytijopcdjlpafdaa
