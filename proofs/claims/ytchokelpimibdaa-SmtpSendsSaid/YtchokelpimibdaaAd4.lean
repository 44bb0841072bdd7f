/- The walk of addr.Print. Conditions: the bounds named. -/
import Derived.Test.YtchokelpimibdaaAd3
import Derived.Test.YtchokelpimibdaaText8
import Derived.Deep.RegionHeld3
import Derived.Test.YtchokelpimibdaaStep
import Derived.Deep.QuietTactic
import Derived.BigQuiet
namespace Go.Proofs.Ytchokelpimibdaa
open Go.RowKit
def badLet (d : Nat × List UInt8) : Bool := decide (d.1 < 32 ∨ 126 < d.1)
def printT (lo dm : List UInt8) : List UInt8 × Nat :=
  if (letL lo).any badLet = true then ([], 4)
  else if lo = [] ∨ dm ≠ lowL dm ∨ ((parseT (97 :: 64 :: dm)).2.2.2 ≠ 0 ∧ (parseT (97 :: 64 :: dm)).2.2.2 ≠ 6) then ([], 4)
  else if 64 < lo.length ∨ 255 < dm.length then ([], 6)
  else if bareT lo = true then (lo ++ 64 :: dm, 0)
  else ((quoteT lo).1 ++ 64 :: dm, 0)
def PrSays (lo dm : List UInt8) (w : World) (e : Ending) (w' : World) : Prop := e = .returned (.tuple #[.string (st (printT lo dm).1), .int .i64 ((printT lo dm).2 : Nat)]) ∧ Ext w w'
theorem rows2 {w : World} {p t : Nat} {a b : Value} (h : w.heap[p]? = some (.cells #[a, b] t (0, 0))) : (∀ w', Ext w w' → w'.cell? ⟨p, 0, none⟩ = some a) ∧ (∀ w', Ext w w' → w'.cell? ⟨p, 1, none⟩ = some b) ∧ (∀ w' j, Ext w w' → w'.frozen? ⟨p, j, none⟩ = false) :=
  ⟨fun _ hx => (row2_at (hx.obj h)).1, fun _ hx => (row2_at (hx.obj h)).2.1, fun _ j hx => (row2_at (hx.obj h)).2.2 j⟩
theorem quoteT_len (l : List UInt8) : (quoteT l).1.length ≤ 5130 := by
  have h := outL_len (letL l)
  have h2 := lets_len' l
  unfold quoteT
  split
  · simp
  · split
    · simp
    · simp only [List.length_append, List.length_cons, List.length_nil]; omega
end Go.Proofs.Ytchokelpimibdaa
