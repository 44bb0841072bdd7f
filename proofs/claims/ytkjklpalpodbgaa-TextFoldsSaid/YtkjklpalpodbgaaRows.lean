/-
  No cell of these rows narrows 'for every input' (looked for: loops, veiled, ifaces, maps, wideKeys, modest, calm, conditions, laid).
  DERIVED. THE GIVEN ROWS OF THIS SEAT. 6 by the template 'for every input the law returns true; each argument reads behind the call as it read before'; 0 by the template 'total and deterministic' (their statements: YtkjklpalpodbgaaTotals.lean).
  GIVEN WITH THE SEED: the statements are not yours to turn. If you find one false, say at which input.
  Laid BY PROGRAM, IN A SANDBOX (cutbox-rows.mjs): the forced cells as the released guide's own fill.sh prints them over the translation df4cb1fdd5bd89a8… (all of the seat's roots in one cut). By AI agents, Wed Nov 11 2026. No macro, syntax, notation, axiom, sorry.
-/
import Derived.Test.YtkjklpalpodbgaaChecked
import GoSem.Claim
import GoSem.ClaimJoined
import GoSem.ClaimMapViews
import Derived.JoinedTies
import Derived.KernelRfl
namespace Go.Proofs.Ytkjklpalpodbgaa
/- THE CELL 'sum', in the pinned program and in every row, IS THE sha256 OF THE DUMP (.gsa) THAT YtkjklpalpodbgaaProg.lean LOADS. Nothing in Lean hashes anything: it is a label: what it is worth is what the hold of that sum in a sandbox is worth. -/
noncomputable def Try.pinned : Pinned := { name := "ytkjklpalpodbgaa", sum := "df4cb1fdd5bd89a8ab5813a2b5065cf8e803aaadca1dd904c4ee0aaf819410da", checked := Try.checked }
namespace Rows
def none {H : Type} : Left H := { results := [], args := [] }

/-- 'pigeonholelaw01.TextLowers': WHATEVER THE INPUT: true; the input reads as it did. -/
def textLowersSpec : ChangeSpec := { name := "textLowers", fn := fun _ => fun
  | [d1, d2] => { results := [.lit (.bool true)], args := [d1, d2] }
  | _ => none }
def textLowersRow : OpenClaim := { program := "ytkjklpalpodbgaa", sum := "df4cb1fdd5bd89a8ab5813a2b5065cf8e803aaadca1dd904c4ee0aaf819410da", func := "pigeonhole/pigeonholelaw01.TextLowers", spec := "textLowers", inPlace := ["internal/abi.NoEscape"], apart := false }
def TextLowersSaid : Prop := textLowersRow.holds Try.pinned (OpenSpec.ofChange textLowersSpec)

/-- ITS FALSE NEIGHBOUR: 'it returns false'. Refute it at one input. -/
def textLowersWrong : ChangeSpec := { name := "textLowers", fn := fun _ => fun
  | [d1, d2] => { results := [.lit (.bool false)], args := [d1, d2] }
  | _ => none }
def TextLowersWrongFalsely : Prop := textLowersRow.holds Try.pinned (OpenSpec.ofChange textLowersWrong)

/-- 'pigeonholelaw01.TextFolds': WHATEVER THE INPUT: true; the input reads as it did. -/
def textFoldsSpec : ChangeSpec := { name := "textFolds", fn := fun _ => fun
  | [d1, d2] => { results := [.lit (.bool true)], args := [d1, d2] }
  | _ => none }
def textFoldsRow : OpenClaim := { program := "ytkjklpalpodbgaa", sum := "df4cb1fdd5bd89a8ab5813a2b5065cf8e803aaadca1dd904c4ee0aaf819410da", func := "pigeonhole/pigeonholelaw01.TextFolds", spec := "textFolds", inPlace := ["internal/abi.NoEscape"], apart := false }
def TextFoldsSaid : Prop := textFoldsRow.holds Try.pinned (OpenSpec.ofChange textFoldsSpec)

/-- ITS FALSE NEIGHBOUR: 'it returns false'. Refute it at one input. -/
def textFoldsWrong : ChangeSpec := { name := "textFolds", fn := fun _ => fun
  | [d1, d2] => { results := [.lit (.bool false)], args := [d1, d2] }
  | _ => none }
def TextFoldsWrongFalsely : Prop := textFoldsRow.holds Try.pinned (OpenSpec.ofChange textFoldsWrong)

/-- 'pigeonholelaw01.TextAtoms': WHATEVER THE INPUT: true; the input reads as it did. -/
def textAtomsSpec : ChangeSpec := { name := "textAtoms", fn := fun _ => fun
  | [d] => { results := [.lit (.bool true)], args := [d] }
  | _ => none }
def textAtomsRow : OpenClaim := { program := "ytkjklpalpodbgaa", sum := "df4cb1fdd5bd89a8ab5813a2b5065cf8e803aaadca1dd904c4ee0aaf819410da", func := "pigeonhole/pigeonholelaw01.TextAtoms", spec := "textAtoms", inPlace := ["internal/abi.NoEscape"], apart := false }
def TextAtomsSaid : Prop := textAtomsRow.holds Try.pinned (OpenSpec.ofChange textAtomsSpec)

/-- ITS FALSE NEIGHBOUR: 'it returns false'. Refute it at one input. -/
def textAtomsWrong : ChangeSpec := { name := "textAtoms", fn := fun _ => fun
  | [d] => { results := [.lit (.bool false)], args := [d] }
  | _ => none }
def TextAtomsWrongFalsely : Prop := textAtomsRow.holds Try.pinned (OpenSpec.ofChange textAtomsWrong)

/-- 'pigeonholelaw01.TextQuoteBack': WHATEVER THE INPUT: true; the input reads as it did. -/
def textQuoteBackSpec : ChangeSpec := { name := "textQuoteBack", fn := fun _ => fun
  | [d1, d2] => { results := [.lit (.bool true)], args := [d1, d2] }
  | _ => none }
def textQuoteBackRow : OpenClaim := { program := "ytkjklpalpodbgaa", sum := "df4cb1fdd5bd89a8ab5813a2b5065cf8e803aaadca1dd904c4ee0aaf819410da", func := "pigeonhole/pigeonholelaw01.TextQuoteBack", spec := "textQuoteBack", inPlace := ["internal/abi.NoEscape"], apart := false }
def TextQuoteBackSaid : Prop := textQuoteBackRow.holds Try.pinned (OpenSpec.ofChange textQuoteBackSpec)

/-- ITS FALSE NEIGHBOUR: 'it returns false'. Refute it at one input. -/
def textQuoteBackWrong : ChangeSpec := { name := "textQuoteBack", fn := fun _ => fun
  | [d1, d2] => { results := [.lit (.bool false)], args := [d1, d2] }
  | _ => none }
def TextQuoteBackWrongFalsely : Prop := textQuoteBackRow.holds Try.pinned (OpenSpec.ofChange textQuoteBackWrong)

/-- 'pigeonholelaw01.TextWords': WHATEVER THE INPUT: true; the input reads as it did. -/
def textWordsSpec : ChangeSpec := { name := "textWords", fn := fun _ => fun
  | [d] => { results := [.lit (.bool true)], args := [d] }
  | _ => none }
def textWordsRow : OpenClaim := { program := "ytkjklpalpodbgaa", sum := "df4cb1fdd5bd89a8ab5813a2b5065cf8e803aaadca1dd904c4ee0aaf819410da", func := "pigeonhole/pigeonholelaw01.TextWords", spec := "textWords", inPlace := ["internal/abi.NoEscape"], apart := false }
def TextWordsSaid : Prop := textWordsRow.holds Try.pinned (OpenSpec.ofChange textWordsSpec)

/-- ITS FALSE NEIGHBOUR: 'it returns false'. Refute it at one input. -/
def textWordsWrong : ChangeSpec := { name := "textWords", fn := fun _ => fun
  | [d] => { results := [.lit (.bool false)], args := [d] }
  | _ => none }
def TextWordsWrongFalsely : Prop := textWordsRow.holds Try.pinned (OpenSpec.ofChange textWordsWrong)

/-- 'pigeonholelaw01.TextNumberBack': WHATEVER THE INPUT: true; the input reads as it did. -/
def textNumberBackSpec : ChangeSpec := { name := "textNumberBack", fn := fun _ => fun
  | [d1, d2] => { results := [.lit (.bool true)], args := [d1, d2] }
  | _ => none }
def textNumberBackRow : OpenClaim := { program := "ytkjklpalpodbgaa", sum := "df4cb1fdd5bd89a8ab5813a2b5065cf8e803aaadca1dd904c4ee0aaf819410da", func := "pigeonhole/pigeonholelaw01.TextNumberBack", spec := "textNumberBack", inPlace := ["internal/abi.NoEscape"], apart := false }
def TextNumberBackSaid : Prop := textNumberBackRow.holds Try.pinned (OpenSpec.ofChange textNumberBackSpec)

/-- ITS FALSE NEIGHBOUR: 'it returns false'. Refute it at one input. -/
def textNumberBackWrong : ChangeSpec := { name := "textNumberBack", fn := fun _ => fun
  | [d1, d2] => { results := [.lit (.bool false)], args := [d1, d2] }
  | _ => none }
def TextNumberBackWrongFalsely : Prop := textNumberBackRow.holds Try.pinned (OpenSpec.ofChange textNumberBackWrong)

/- THE SECOND FORM. 'bulk': how many values and letters a reading holds, each counted each time it is reached (what is shared counts as often as it is met; a slice's spare places count too). A statement '..UptoSaid' is the law's where the arguments, and the package variables that the reading takes, are together of bulk at most 1048576: NARROWER than '..Said'. Prove '..Said' where nothing that the law and all that it calls make is longer than what came in: it says more and counts as full. Else prove '..UptoSaid'. A law counts once. -/
mutual
def uptoBulk {H : Type} : DataW H → Nat
  | .lit (.string bytes) => bytes.length + 1
  | .lit _ => 1
  | .nil => 1
  | .ptr d => uptoBulk d + 1
  | .slice elems spare => uptoBulkAll elems + uptoBulkAll spare + 1
  | .agg parts => uptoBulkAll parts + 1
  | .iface _ d => uptoBulk d + 1
  | .map entries => uptoBulkEntries entries + 1
  | .held _ => 1
def uptoBulkAll {H : Type} : List (DataW H) → Nat
  | [] => 0
  | d :: r => uptoBulk d + uptoBulkAll r
def uptoBulkEntries {H : Type} : List (Lit × DataW H) → Nat
  | [] => 0
  | x :: r => uptoBulkEntry x + uptoBulkEntries r
def uptoBulkEntry {H : Type} : Lit × DataW H → Nat
  | (.string bytes, d) => bytes.length + uptoBulk d + 1
  | (_, d) => uptoBulk d + 1
 end
def uptoSmall : (H : Type) → List (DataW H) → Bool := fun _ ds => decide (uptoBulkAll ds ≤ 1048576)
def OpenSpec.upto (s : _root_.Go.ChangeSpec) : _root_.Go.OpenSpec := { _root_.Go.OpenSpec.ofChange s with cond := some uptoSmall }

/-- 'pigeonholelaw01.TextLowers', WHERE WHAT IT READS IS OF BULK AT MOST 1048576: true; the input reads as it did. -/
def textLowersUptoRow : OpenClaim := { program := "ytkjklpalpodbgaa", sum := "df4cb1fdd5bd89a8ab5813a2b5065cf8e803aaadca1dd904c4ee0aaf819410da", func := "pigeonhole/pigeonholelaw01.TextLowers", spec := "textLowers", inPlace := ["internal/abi.NoEscape"], apart := false, narrowed := true }
def TextLowersUptoSaid : Prop := textLowersUptoRow.holds Try.pinned (OpenSpec.upto textLowersSpec)

/-- 'pigeonholelaw01.TextFolds', WHERE WHAT IT READS IS OF BULK AT MOST 1048576: true; the input reads as it did. -/
def textFoldsUptoRow : OpenClaim := { program := "ytkjklpalpodbgaa", sum := "df4cb1fdd5bd89a8ab5813a2b5065cf8e803aaadca1dd904c4ee0aaf819410da", func := "pigeonhole/pigeonholelaw01.TextFolds", spec := "textFolds", inPlace := ["internal/abi.NoEscape"], apart := false, narrowed := true }
def TextFoldsUptoSaid : Prop := textFoldsUptoRow.holds Try.pinned (OpenSpec.upto textFoldsSpec)

/-- 'pigeonholelaw01.TextAtoms', WHERE WHAT IT READS IS OF BULK AT MOST 1048576: true; the input reads as it did. -/
def textAtomsUptoRow : OpenClaim := { program := "ytkjklpalpodbgaa", sum := "df4cb1fdd5bd89a8ab5813a2b5065cf8e803aaadca1dd904c4ee0aaf819410da", func := "pigeonhole/pigeonholelaw01.TextAtoms", spec := "textAtoms", inPlace := ["internal/abi.NoEscape"], apart := false, narrowed := true }
def TextAtomsUptoSaid : Prop := textAtomsUptoRow.holds Try.pinned (OpenSpec.upto textAtomsSpec)

/-- 'pigeonholelaw01.TextQuoteBack', WHERE WHAT IT READS IS OF BULK AT MOST 1048576: true; the input reads as it did. -/
def textQuoteBackUptoRow : OpenClaim := { program := "ytkjklpalpodbgaa", sum := "df4cb1fdd5bd89a8ab5813a2b5065cf8e803aaadca1dd904c4ee0aaf819410da", func := "pigeonhole/pigeonholelaw01.TextQuoteBack", spec := "textQuoteBack", inPlace := ["internal/abi.NoEscape"], apart := false, narrowed := true }
def TextQuoteBackUptoSaid : Prop := textQuoteBackUptoRow.holds Try.pinned (OpenSpec.upto textQuoteBackSpec)

/-- 'pigeonholelaw01.TextWords', WHERE WHAT IT READS IS OF BULK AT MOST 1048576: true; the input reads as it did. -/
def textWordsUptoRow : OpenClaim := { program := "ytkjklpalpodbgaa", sum := "df4cb1fdd5bd89a8ab5813a2b5065cf8e803aaadca1dd904c4ee0aaf819410da", func := "pigeonhole/pigeonholelaw01.TextWords", spec := "textWords", inPlace := ["internal/abi.NoEscape"], apart := false, narrowed := true }
def TextWordsUptoSaid : Prop := textWordsUptoRow.holds Try.pinned (OpenSpec.upto textWordsSpec)

/-- 'pigeonholelaw01.TextNumberBack', WHERE WHAT IT READS IS OF BULK AT MOST 1048576: true; the input reads as it did. -/
def textNumberBackUptoRow : OpenClaim := { program := "ytkjklpalpodbgaa", sum := "df4cb1fdd5bd89a8ab5813a2b5065cf8e803aaadca1dd904c4ee0aaf819410da", func := "pigeonhole/pigeonholelaw01.TextNumberBack", spec := "textNumberBack", inPlace := ["internal/abi.NoEscape"], apart := false, narrowed := true }
def TextNumberBackUptoSaid : Prop := textNumberBackUptoRow.holds Try.pinned (OpenSpec.upto textNumberBackSpec)

end Rows
end Go.Proofs.Ytkjklpalpodbgaa
