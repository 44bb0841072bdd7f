/-
  No cell of these rows narrows 'for every input' (looked for: loops, veiled, ifaces, maps, wideKeys, modest, calm, conditions, laid).
  DERIVED. THE GIVEN ROWS OF THIS SEAT. 6 by the template 'for every input the law returns true; each argument reads behind the call as it read before'; 0 by the template 'total and deterministic' (their statements: YtlfieggioomoiaaTotals.lean).
  GIVEN WITH THE SEED: the statements are not yours to turn. If you find one false, say at which input.
  Laid BY PROGRAM, IN A SANDBOX (cutbox-rows.mjs): the forced cells as the released guide's own fill.sh prints them over the translation f2dea9646cc0e516… (all of the seat's roots in one cut). By AI agents, Wed Nov 11 2026. No macro, syntax, notation, axiom, sorry.
-/
import Derived.Test.YtlfieggioomoiaaChecked
import GoSem.Claim
import GoSem.ClaimJoined
import GoSem.ClaimMapViews
import Derived.JoinedTies
import Derived.KernelRfl
namespace Go.Proofs.Ytlfieggioomoiaa
/- THE CELL 'sum', in the pinned program and in every row, IS THE sha256 OF THE DUMP (.gsa) THAT YtlfieggioomoiaaProg.lean LOADS. Nothing in Lean hashes anything: it is a label: what it is worth is what the hold of that sum in a sandbox is worth. -/
noncomputable def Try.pinned : Pinned := { name := "ytlfieggioomoiaa", sum := "f2dea9646cc0e51667e3cc6823613ca64f9cc737c1b370b6235e1ca7e8b76522", checked := Try.checked }
namespace Rows
def none {H : Type} : Left H := { results := [], args := [] }

/-- 'pigeonholelaw02.LinesPieces': WHATEVER THE INPUT: true; the input reads as it did. -/
def linesPiecesSpec : ChangeSpec := { name := "linesPieces", fn := fun _ => fun
  | [d] => { results := [.lit (.bool true)], args := [d] }
  | _ => none }
def linesPiecesRow : OpenClaim := { program := "ytlfieggioomoiaa", sum := "f2dea9646cc0e51667e3cc6823613ca64f9cc737c1b370b6235e1ca7e8b76522", func := "pigeonhole/pigeonholelaw02.LinesPieces", spec := "linesPieces", inPlace := ["internal/bytealg.IndexByte", "internal/bytealg.Index"], named := ["internal/bytealg.MaxLen"], apart := false }
def LinesPiecesSaid : Prop := linesPiecesRow.holds Try.pinned (OpenSpec.ofChange linesPiecesSpec)

/-- ITS FALSE NEIGHBOUR: 'it returns false'. Refute it at one input. -/
def linesPiecesWrong : ChangeSpec := { name := "linesPieces", fn := fun _ => fun
  | [d] => { results := [.lit (.bool false)], args := [d] }
  | _ => none }
def LinesPiecesWrongFalsely : Prop := linesPiecesRow.holds Try.pinned (OpenSpec.ofChange linesPiecesWrong)

/-- 'pigeonholelaw02.LinesStuffs': WHATEVER THE INPUT: true; the input reads as it did. -/
def linesStuffsSpec : ChangeSpec := { name := "linesStuffs", fn := fun _ => fun
  | [d] => { results := [.lit (.bool true)], args := [d] }
  | _ => none }
def linesStuffsRow : OpenClaim := { program := "ytlfieggioomoiaa", sum := "f2dea9646cc0e51667e3cc6823613ca64f9cc737c1b370b6235e1ca7e8b76522", func := "pigeonhole/pigeonholelaw02.LinesStuffs", spec := "linesStuffs", inPlace := ["internal/bytealg.IndexByte", "internal/bytealg.Index"], named := ["internal/bytealg.MaxLen"], apart := false }
def LinesStuffsSaid : Prop := linesStuffsRow.holds Try.pinned (OpenSpec.ofChange linesStuffsSpec)

/-- ITS FALSE NEIGHBOUR: 'it returns false'. Refute it at one input. -/
def linesStuffsWrong : ChangeSpec := { name := "linesStuffs", fn := fun _ => fun
  | [d] => { results := [.lit (.bool false)], args := [d] }
  | _ => none }
def LinesStuffsWrongFalsely : Prop := linesStuffsRow.holds Try.pinned (OpenSpec.ofChange linesStuffsWrong)

/-- 'pigeonholelaw02.LinesBack': WHATEVER THE INPUT: true; the input reads as it did. -/
def linesBackSpec : ChangeSpec := { name := "linesBack", fn := fun _ => fun
  | [d1, d2] => { results := [.lit (.bool true)], args := [d1, d2] }
  | _ => none }
def linesBackRow : OpenClaim := { program := "ytlfieggioomoiaa", sum := "f2dea9646cc0e51667e3cc6823613ca64f9cc737c1b370b6235e1ca7e8b76522", func := "pigeonhole/pigeonholelaw02.LinesBack", spec := "linesBack", inPlace := ["internal/bytealg.IndexByte", "internal/bytealg.Index"], named := ["internal/bytealg.MaxLen"], apart := false }
def LinesBackSaid : Prop := linesBackRow.holds Try.pinned (OpenSpec.ofChange linesBackSpec)

/-- ITS FALSE NEIGHBOUR: 'it returns false'. Refute it at one input. -/
def linesBackWrong : ChangeSpec := { name := "linesBack", fn := fun _ => fun
  | [d1, d2] => { results := [.lit (.bool false)], args := [d1, d2] }
  | _ => none }
def LinesBackWrongFalsely : Prop := linesBackRow.holds Try.pinned (OpenSpec.ofChange linesBackWrong)

/-- 'pigeonholelaw02.LinesPlays': WHATEVER THE INPUT: true; the input reads as it did. -/
def linesPlaysSpec : ChangeSpec := { name := "linesPlays", fn := fun _ => fun
  | [d] => { results := [.lit (.bool true)], args := [d] }
  | _ => none }
def linesPlaysRow : OpenClaim := { program := "ytlfieggioomoiaa", sum := "f2dea9646cc0e51667e3cc6823613ca64f9cc737c1b370b6235e1ca7e8b76522", func := "pigeonhole/pigeonholelaw02.LinesPlays", spec := "linesPlays", inPlace := ["internal/bytealg.IndexByte", "internal/bytealg.Index"], named := ["internal/bytealg.MaxLen"], apart := false }
def LinesPlaysSaid : Prop := linesPlaysRow.holds Try.pinned (OpenSpec.ofChange linesPlaysSpec)

/-- ITS FALSE NEIGHBOUR: 'it returns false'. Refute it at one input. -/
def linesPlaysWrong : ChangeSpec := { name := "linesPlays", fn := fun _ => fun
  | [d] => { results := [.lit (.bool false)], args := [d] }
  | _ => none }
def LinesPlaysWrongFalsely : Prop := linesPlaysRow.holds Try.pinned (OpenSpec.ofChange linesPlaysWrong)

/-- 'pigeonholelaw02.LinesWhole': WHATEVER THE INPUT: true; the input reads as it did. -/
def linesWholeSpec : ChangeSpec := { name := "linesWhole", fn := fun _ => fun
  | [d] => { results := [.lit (.bool true)], args := [d] }
  | _ => none }
def linesWholeRow : OpenClaim := { program := "ytlfieggioomoiaa", sum := "f2dea9646cc0e51667e3cc6823613ca64f9cc737c1b370b6235e1ca7e8b76522", func := "pigeonhole/pigeonholelaw02.LinesWhole", spec := "linesWhole", inPlace := ["internal/bytealg.IndexByte", "internal/bytealg.Index"], named := ["internal/bytealg.MaxLen"], apart := false }
def LinesWholeSaid : Prop := linesWholeRow.holds Try.pinned (OpenSpec.ofChange linesWholeSpec)

/-- ITS FALSE NEIGHBOUR: 'it returns false'. Refute it at one input. -/
def linesWholeWrong : ChangeSpec := { name := "linesWhole", fn := fun _ => fun
  | [d] => { results := [.lit (.bool false)], args := [d] }
  | _ => none }
def LinesWholeWrongFalsely : Prop := linesWholeRow.holds Try.pinned (OpenSpec.ofChange linesWholeWrong)

/-- 'pigeonholelaw02.LinesForks': WHATEVER THE INPUT: true; the input reads as it did. -/
def linesForksSpec : ChangeSpec := { name := "linesForks", fn := fun _ => fun
  | [d1, d2, d3] => { results := [.lit (.bool true)], args := [d1, d2, d3] }
  | _ => none }
def linesForksRow : OpenClaim := { program := "ytlfieggioomoiaa", sum := "f2dea9646cc0e51667e3cc6823613ca64f9cc737c1b370b6235e1ca7e8b76522", func := "pigeonhole/pigeonholelaw02.LinesForks", spec := "linesForks", inPlace := ["internal/bytealg.IndexByte", "internal/bytealg.Index"], named := ["internal/bytealg.MaxLen"], apart := false }
def LinesForksSaid : Prop := linesForksRow.holds Try.pinned (OpenSpec.ofChange linesForksSpec)

/-- ITS FALSE NEIGHBOUR: 'it returns false'. Refute it at one input. -/
def linesForksWrong : ChangeSpec := { name := "linesForks", fn := fun _ => fun
  | [d1, d2, d3] => { results := [.lit (.bool false)], args := [d1, d2, d3] }
  | _ => none }
def LinesForksWrongFalsely : Prop := linesForksRow.holds Try.pinned (OpenSpec.ofChange linesForksWrong)

/- THE SECOND FORM. 'bulk': how many values and letters a reading holds, each counted each time it is reached (what is shared counts as often as it is met; a slice's spare places count too). A statement '..UptoSaid' is the law's where the arguments, and the package variables that the reading takes, are together of bulk at most 1048576: NARROWER than '..Said'. Prove '..Said' where nothing that the law and all that it calls make is longer than what came in: it says more and counts as full. Else prove '..UptoSaid'. A law counts once. -/
mutual
def uptoBulk {H : Type} : DataW H → Nat
  | .lit (.string bytes) => bytes.length + 1
  | .lit _ => 1
  | .nil => 1
  | .ptr d => uptoBulk d + 1
  | .slice elems spare => uptoBulkAll elems + uptoBulkAll spare + 1
  | .agg parts => uptoBulkAll parts + 1
  | .iface _ d => uptoBulk d + 1
  | .map entries => uptoBulkEntries entries + 1
  | .held _ => 1
def uptoBulkAll {H : Type} : List (DataW H) → Nat
  | [] => 0
  | d :: r => uptoBulk d + uptoBulkAll r
def uptoBulkEntries {H : Type} : List (Lit × DataW H) → Nat
  | [] => 0
  | x :: r => uptoBulkEntry x + uptoBulkEntries r
def uptoBulkEntry {H : Type} : Lit × DataW H → Nat
  | (.string bytes, d) => bytes.length + uptoBulk d + 1
  | (_, d) => uptoBulk d + 1
 end
def uptoSmall : (H : Type) → List (DataW H) → Bool := fun _ ds => decide (uptoBulkAll ds ≤ 1048576)
def OpenSpec.upto (s : _root_.Go.ChangeSpec) : _root_.Go.OpenSpec := { _root_.Go.OpenSpec.ofChange s with cond := some uptoSmall }

/-- 'pigeonholelaw02.LinesPieces', WHERE WHAT IT READS IS OF BULK AT MOST 1048576: true; the input reads as it did. -/
def linesPiecesUptoRow : OpenClaim := { program := "ytlfieggioomoiaa", sum := "f2dea9646cc0e51667e3cc6823613ca64f9cc737c1b370b6235e1ca7e8b76522", func := "pigeonhole/pigeonholelaw02.LinesPieces", spec := "linesPieces", inPlace := ["internal/bytealg.IndexByte", "internal/bytealg.Index"], named := ["internal/bytealg.MaxLen"], apart := false, narrowed := true }
def LinesPiecesUptoSaid : Prop := linesPiecesUptoRow.holds Try.pinned (OpenSpec.upto linesPiecesSpec)

/-- 'pigeonholelaw02.LinesStuffs', WHERE WHAT IT READS IS OF BULK AT MOST 1048576: true; the input reads as it did. -/
def linesStuffsUptoRow : OpenClaim := { program := "ytlfieggioomoiaa", sum := "f2dea9646cc0e51667e3cc6823613ca64f9cc737c1b370b6235e1ca7e8b76522", func := "pigeonhole/pigeonholelaw02.LinesStuffs", spec := "linesStuffs", inPlace := ["internal/bytealg.IndexByte", "internal/bytealg.Index"], named := ["internal/bytealg.MaxLen"], apart := false, narrowed := true }
def LinesStuffsUptoSaid : Prop := linesStuffsUptoRow.holds Try.pinned (OpenSpec.upto linesStuffsSpec)

/-- 'pigeonholelaw02.LinesBack', WHERE WHAT IT READS IS OF BULK AT MOST 1048576: true; the input reads as it did. -/
def linesBackUptoRow : OpenClaim := { program := "ytlfieggioomoiaa", sum := "f2dea9646cc0e51667e3cc6823613ca64f9cc737c1b370b6235e1ca7e8b76522", func := "pigeonhole/pigeonholelaw02.LinesBack", spec := "linesBack", inPlace := ["internal/bytealg.IndexByte", "internal/bytealg.Index"], named := ["internal/bytealg.MaxLen"], apart := false, narrowed := true }
def LinesBackUptoSaid : Prop := linesBackUptoRow.holds Try.pinned (OpenSpec.upto linesBackSpec)

/-- 'pigeonholelaw02.LinesPlays', WHERE WHAT IT READS IS OF BULK AT MOST 1048576: true; the input reads as it did. -/
def linesPlaysUptoRow : OpenClaim := { program := "ytlfieggioomoiaa", sum := "f2dea9646cc0e51667e3cc6823613ca64f9cc737c1b370b6235e1ca7e8b76522", func := "pigeonhole/pigeonholelaw02.LinesPlays", spec := "linesPlays", inPlace := ["internal/bytealg.IndexByte", "internal/bytealg.Index"], named := ["internal/bytealg.MaxLen"], apart := false, narrowed := true }
def LinesPlaysUptoSaid : Prop := linesPlaysUptoRow.holds Try.pinned (OpenSpec.upto linesPlaysSpec)

/-- 'pigeonholelaw02.LinesWhole', WHERE WHAT IT READS IS OF BULK AT MOST 1048576: true; the input reads as it did. -/
def linesWholeUptoRow : OpenClaim := { program := "ytlfieggioomoiaa", sum := "f2dea9646cc0e51667e3cc6823613ca64f9cc737c1b370b6235e1ca7e8b76522", func := "pigeonhole/pigeonholelaw02.LinesWhole", spec := "linesWhole", inPlace := ["internal/bytealg.IndexByte", "internal/bytealg.Index"], named := ["internal/bytealg.MaxLen"], apart := false, narrowed := true }
def LinesWholeUptoSaid : Prop := linesWholeUptoRow.holds Try.pinned (OpenSpec.upto linesWholeSpec)

/-- 'pigeonholelaw02.LinesForks', WHERE WHAT IT READS IS OF BULK AT MOST 1048576: true; the input reads as it did. -/
def linesForksUptoRow : OpenClaim := { program := "ytlfieggioomoiaa", sum := "f2dea9646cc0e51667e3cc6823613ca64f9cc737c1b370b6235e1ca7e8b76522", func := "pigeonhole/pigeonholelaw02.LinesForks", spec := "linesForks", inPlace := ["internal/bytealg.IndexByte", "internal/bytealg.Index"], named := ["internal/bytealg.MaxLen"], apart := false, narrowed := true }
def LinesForksUptoSaid : Prop := linesForksUptoRow.holds Try.pinned (OpenSpec.upto linesForksSpec)

end Rows
end Go.Proofs.Ytlfieggioomoiaa
