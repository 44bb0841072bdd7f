/-
  No cell of these rows narrows 'for every input' (looked for: loops, veiled, ifaces, maps, wideKeys, modest, calm, conditions, laid).
  DERIVED. THE GIVEN ROWS OF THIS SEAT. 4 by the template 'for every input the law returns true; each argument reads behind the call as it read before'; 0 by the template 'total and deterministic' (their statements: YtijopcdjlpafdaaTotals.lean).
  GIVEN WITH THE SEED: the statements are not yours to turn. If you find one false, say at which input.
  Laid BY PROGRAM, IN A SANDBOX (cutbox-rows.mjs): the forced cells as the released guide's own fill.sh prints them over the translation e63004dd913be58a… (all of the seat's roots in one cut). By AI agents, Wed Nov 11 2026. No macro, syntax, notation, axiom, sorry.
-/
import Derived.Test.YtijopcdjlpafdaaChecked
import GoSem.Claim
import GoSem.ClaimJoined
import GoSem.ClaimMapViews
import Derived.JoinedTies
import Derived.KernelRfl
namespace Go.Proofs.Ytijopcdjlpafdaa
/- THE CELL 'sum', in the pinned program and in every row, IS THE sha256 OF THE DUMP (.gsa) THAT YtijopcdjlpafdaaProg.lean LOADS. Nothing in Lean hashes anything: it is a label: what it is worth is what the hold of that sum in a sandbox is worth. -/
noncomputable def Try.pinned : Pinned := { name := "ytijopcdjlpafdaa", sum := "e63004dd913be58a165a4a6288852b121a654f9be7f8a2c412e75c476d1f74f5", checked := Try.checked }
namespace Rows
def none {H : Type} : Left H := { results := [], args := [] }

/-- 'pigeonholelaw12.CoordTxs': WHATEVER THE INPUT: true; the input reads as it did. -/
def coordTxsSpec : ChangeSpec := { name := "coordTxs", fn := fun _ => fun
  | [d1, d2] => { results := [.lit (.bool true)], args := [d1, d2] }
  | _ => none }
def coordTxsRow : OpenClaim := { program := "ytijopcdjlpafdaa", sum := "e63004dd913be58a165a4a6288852b121a654f9be7f8a2c412e75c476d1f74f5", func := "pigeonhole/pigeonholelaw12.CoordTxs", spec := "coordTxs", unfollowed := true, recurses := true, apart := false }
def CoordTxsSaid : Prop := coordTxsRow.holds Try.pinned (OpenSpec.ofChange coordTxsSpec)

/-- ITS FALSE NEIGHBOUR: 'it returns false'. Refute it at one input. -/
def coordTxsWrong : ChangeSpec := { name := "coordTxs", fn := fun _ => fun
  | [d1, d2] => { results := [.lit (.bool false)], args := [d1, d2] }
  | _ => none }
def CoordTxsWrongFalsely : Prop := coordTxsRow.holds Try.pinned (OpenSpec.ofChange coordTxsWrong)

/-- 'pigeonholelaw12.CoordAgrees': WHATEVER THE INPUT: true; the input reads as it did. -/
def coordAgreesSpec : ChangeSpec := { name := "coordAgrees", fn := fun _ => fun
  | [d] => { results := [.lit (.bool true)], args := [d] }
  | _ => none }
def coordAgreesRow : OpenClaim := { program := "ytijopcdjlpafdaa", sum := "e63004dd913be58a165a4a6288852b121a654f9be7f8a2c412e75c476d1f74f5", func := "pigeonhole/pigeonholelaw12.CoordAgrees", spec := "coordAgrees", unfollowed := true, recurses := true, apart := false }
def CoordAgreesSaid : Prop := coordAgreesRow.holds Try.pinned (OpenSpec.ofChange coordAgreesSpec)

/-- ITS FALSE NEIGHBOUR: 'it returns false'. Refute it at one input. -/
def coordAgreesWrong : ChangeSpec := { name := "coordAgrees", fn := fun _ => fun
  | [d] => { results := [.lit (.bool false)], args := [d] }
  | _ => none }
def CoordAgreesWrongFalsely : Prop := coordAgreesRow.holds Try.pinned (OpenSpec.ofChange coordAgreesWrong)

/-- 'pigeonholelaw12.CoordAgain': WHATEVER THE INPUT: true; the input reads as it did. -/
def coordAgainSpec : ChangeSpec := { name := "coordAgain", fn := fun _ => fun
  | [d] => { results := [.lit (.bool true)], args := [d] }
  | _ => none }
def coordAgainRow : OpenClaim := { program := "ytijopcdjlpafdaa", sum := "e63004dd913be58a165a4a6288852b121a654f9be7f8a2c412e75c476d1f74f5", func := "pigeonhole/pigeonholelaw12.CoordAgain", spec := "coordAgain", unfollowed := true, recurses := true, apart := false }
def CoordAgainSaid : Prop := coordAgainRow.holds Try.pinned (OpenSpec.ofChange coordAgainSpec)

/-- ITS FALSE NEIGHBOUR: 'it returns false'. Refute it at one input. -/
def coordAgainWrong : ChangeSpec := { name := "coordAgain", fn := fun _ => fun
  | [d] => { results := [.lit (.bool false)], args := [d] }
  | _ => none }
def CoordAgainWrongFalsely : Prop := coordAgainRow.holds Try.pinned (OpenSpec.ofChange coordAgainWrong)

/-- 'pigeonholelaw12.CoordForks': WHATEVER THE INPUT: true; the input reads as it did. -/
def coordForksSpec : ChangeSpec := { name := "coordForks", fn := fun _ => fun
  | [d1, d2, d3] => { results := [.lit (.bool true)], args := [d1, d2, d3] }
  | _ => none }
def coordForksRow : OpenClaim := { program := "ytijopcdjlpafdaa", sum := "e63004dd913be58a165a4a6288852b121a654f9be7f8a2c412e75c476d1f74f5", func := "pigeonhole/pigeonholelaw12.CoordForks", spec := "coordForks", unfollowed := true, recurses := true, apart := false }
def CoordForksSaid : Prop := coordForksRow.holds Try.pinned (OpenSpec.ofChange coordForksSpec)

/-- ITS FALSE NEIGHBOUR: 'it returns false'. Refute it at one input. -/
def coordForksWrong : ChangeSpec := { name := "coordForks", fn := fun _ => fun
  | [d1, d2, d3] => { results := [.lit (.bool false)], args := [d1, d2, d3] }
  | _ => none }
def CoordForksWrongFalsely : Prop := coordForksRow.holds Try.pinned (OpenSpec.ofChange coordForksWrong)

/- THE SECOND FORM. 'bulk': how many values and letters a reading holds, each counted each time it is reached (what is shared counts as often as it is met; a slice's spare places count too). A statement '..UptoSaid' is the law's where the arguments, and the package variables that the reading takes, are together of bulk at most 1048576: NARROWER than '..Said'. Prove '..Said' where nothing that the law and all that it calls make is longer than what came in: it says more and counts as full. Else prove '..UptoSaid'. A law counts once. -/
mutual
def uptoBulk {H : Type} : DataW H → Nat
  | .lit (.string bytes) => bytes.length + 1
  | .lit _ => 1
  | .nil => 1
  | .ptr d => uptoBulk d + 1
  | .slice elems spare => uptoBulkAll elems + uptoBulkAll spare + 1
  | .agg parts => uptoBulkAll parts + 1
  | .iface _ d => uptoBulk d + 1
  | .map entries => uptoBulkEntries entries + 1
  | .held _ => 1
def uptoBulkAll {H : Type} : List (DataW H) → Nat
  | [] => 0
  | d :: r => uptoBulk d + uptoBulkAll r
def uptoBulkEntries {H : Type} : List (Lit × DataW H) → Nat
  | [] => 0
  | x :: r => uptoBulkEntry x + uptoBulkEntries r
def uptoBulkEntry {H : Type} : Lit × DataW H → Nat
  | (.string bytes, d) => bytes.length + uptoBulk d + 1
  | (_, d) => uptoBulk d + 1
 end
def uptoSmall : (H : Type) → List (DataW H) → Bool := fun _ ds => decide (uptoBulkAll ds ≤ 1048576)
def OpenSpec.upto (s : _root_.Go.ChangeSpec) : _root_.Go.OpenSpec := { _root_.Go.OpenSpec.ofChange s with cond := some uptoSmall }

/-- 'pigeonholelaw12.CoordTxs', WHERE WHAT IT READS IS OF BULK AT MOST 1048576: true; the input reads as it did. -/
def coordTxsUptoRow : OpenClaim := { program := "ytijopcdjlpafdaa", sum := "e63004dd913be58a165a4a6288852b121a654f9be7f8a2c412e75c476d1f74f5", func := "pigeonhole/pigeonholelaw12.CoordTxs", spec := "coordTxs", unfollowed := true, recurses := true, apart := false, narrowed := true }
def CoordTxsUptoSaid : Prop := coordTxsUptoRow.holds Try.pinned (OpenSpec.upto coordTxsSpec)

/-- 'pigeonholelaw12.CoordAgrees', WHERE WHAT IT READS IS OF BULK AT MOST 1048576: true; the input reads as it did. -/
def coordAgreesUptoRow : OpenClaim := { program := "ytijopcdjlpafdaa", sum := "e63004dd913be58a165a4a6288852b121a654f9be7f8a2c412e75c476d1f74f5", func := "pigeonhole/pigeonholelaw12.CoordAgrees", spec := "coordAgrees", unfollowed := true, recurses := true, apart := false, narrowed := true }
def CoordAgreesUptoSaid : Prop := coordAgreesUptoRow.holds Try.pinned (OpenSpec.upto coordAgreesSpec)

/-- 'pigeonholelaw12.CoordAgain', WHERE WHAT IT READS IS OF BULK AT MOST 1048576: true; the input reads as it did. -/
def coordAgainUptoRow : OpenClaim := { program := "ytijopcdjlpafdaa", sum := "e63004dd913be58a165a4a6288852b121a654f9be7f8a2c412e75c476d1f74f5", func := "pigeonhole/pigeonholelaw12.CoordAgain", spec := "coordAgain", unfollowed := true, recurses := true, apart := false, narrowed := true }
def CoordAgainUptoSaid : Prop := coordAgainUptoRow.holds Try.pinned (OpenSpec.upto coordAgainSpec)

/-- 'pigeonholelaw12.CoordForks', WHERE WHAT IT READS IS OF BULK AT MOST 1048576: true; the input reads as it did. -/
def coordForksUptoRow : OpenClaim := { program := "ytijopcdjlpafdaa", sum := "e63004dd913be58a165a4a6288852b121a654f9be7f8a2c412e75c476d1f74f5", func := "pigeonhole/pigeonholelaw12.CoordForks", spec := "coordForks", unfollowed := true, recurses := true, apart := false, narrowed := true }
def CoordForksUptoSaid : Prop := coordForksUptoRow.holds Try.pinned (OpenSpec.upto coordForksSpec)

end Rows
end Go.Proofs.Ytijopcdjlpafdaa
