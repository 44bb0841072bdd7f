/-
  NARROWER THAN 'FOR EVERY INPUT', by the rows' own cells (each row's printed sentence says how): DeedNames: laid · DeedChecks: laid · DeedPuts: laid · DeedTakes: laid · DeedUsers: laid.
  DERIVED. THE GIVEN ROWS OF THIS SEAT. 5 by the template 'for every input the law returns true; each argument reads behind the call as it read before'; 0 by the template 'total and deterministic' (their statements: YtameamfaaenboaaDoorTotals.lean).
  GIVEN WITH THE SEED: the statements are not yours to turn. If you find one false, say at which input.
  Laid BY PROGRAM, IN A SANDBOX (cutbox-rows.mjs): the forced cells as the released guide's own fill.sh prints them over the translation 3b6f43f6ed1a0d67… (all of the seat's roots in one cut). By AI agents, Wed Nov 11 2026. No macro, syntax, notation, axiom, sorry.
-/
import Derived.Test.YtameamfaaenboaaDoorChecked
import GoSem.PinnedTables
import GoSem.Claim
import GoSem.ClaimJoined
import GoSem.ClaimMapViews
import Derived.JoinedTies
import Derived.KernelRfl
namespace Go.Proofs.YtameamfaaenboaaDoor
/- THE CELL 'sum', in the pinned program and in every row, IS THE sha256 OF THE DUMP (.gsa) THAT YtameamfaaenboaaDoorProg.lean LOADS. Nothing in Lean hashes anything: it is a label: what it is worth is what the hold of that sum in a sandbox is worth. -/
noncomputable def Tryd.pinned : Pinned := { name := "ytameamfaaenboaadoor", sum := "3b6f43f6ed1a0d674858d771fc6a6eff62e2f799ceee02e639921ea1d4781a51", checked := Tryd.checked }
namespace Rows
def none {H : Type} : Left H := { results := [], args := [] }

/- WHAT THE LISTED PACKAGE-LEVEL VARIABLES READ AS WHEN THE CALL BEGINS. Each datum BY PROGRAM (the guide's laid-datum.mjs) off the statement by which the dump's own 'gosem.cut.vars' lays the variable. In a bare row this is a premise. The card (YtameamfaaenboaaDoorCards.lean) ties it to the program's text. -/
def laid_unicode_utf8_acceptRanges {H : Type} : DataW H := .agg [.agg [.lit (.int .u8 128), .lit (.int .u8 191)], .agg [.lit (.int .u8 160), .lit (.int .u8 191)], .agg [.lit (.int .u8 128), .lit (.int .u8 159)], .agg [.lit (.int .u8 144), .lit (.int .u8 191)], .agg [.lit (.int .u8 128), .lit (.int .u8 143)], .agg [.lit (.int .u8 0), .lit (.int .u8 0)], .agg [.lit (.int .u8 0), .lit (.int .u8 0)], .agg [.lit (.int .u8 0), .lit (.int .u8 0)], .agg [.lit (.int .u8 0), .lit (.int .u8 0)], .agg [.lit (.int .u8 0), .lit (.int .u8 0)], .agg [.lit (.int .u8 0), .lit (.int .u8 0)], .agg [.lit (.int .u8 0), .lit (.int .u8 0)], .agg [.lit (.int .u8 0), .lit (.int .u8 0)], .agg [.lit (.int .u8 0), .lit (.int .u8 0)], .agg [.lit (.int .u8 0), .lit (.int .u8 0)], .agg [.lit (.int .u8 0), .lit (.int .u8 0)]]
/-- One of Go's own tables, pinned by name: the form's constant. -/
def laid_unicode_utf8_first : DataW Unit := Go.Pinned.utf8First

/-- 'pigeonholelaw09.DeedNames': WHATEVER THE INPUT: true; the input reads as it did. -/
def deedNamesSpec : ChangeSpec := { name := "deedNames", fn := fun _ => fun
  | [d] => { results := [.lit (.bool true)], args := [d] }
  | _ => none }
def deedNamesRow : OpenClaim := { program := "ytameamfaaenboaadoor", sum := "3b6f43f6ed1a0d674858d771fc6a6eff62e2f799ceee02e639921ea1d4781a51", func := "pigeonhole/pigeonholelaw09.DeedNames", spec := "deedNames", inPlace := ["internal/abi.NoEscape"], unfollowed := true, recurses := true, named := ["unicode/utf8.first", "unicode/utf8.acceptRanges"], apart := false, laid := [("unicode/utf8.acceptRanges", laid_unicode_utf8_acceptRanges), ("unicode/utf8.first", laid_unicode_utf8_first)] }
def DeedNamesSaid : Prop := deedNamesRow.holds Tryd.pinned (OpenSpec.ofChange deedNamesSpec)

/-- ITS FALSE NEIGHBOUR: 'it returns false'. Refute it at one input. -/
def deedNamesWrong : ChangeSpec := { name := "deedNames", fn := fun _ => fun
  | [d] => { results := [.lit (.bool false)], args := [d] }
  | _ => none }
def DeedNamesWrongFalsely : Prop := deedNamesRow.holds Tryd.pinned (OpenSpec.ofChange deedNamesWrong)

/-- 'pigeonholelaw09.DeedChecks': WHATEVER THE INPUT: true; the input reads as it did. -/
def deedChecksSpec : ChangeSpec := { name := "deedChecks", fn := fun _ => fun
  | [d] => { results := [.lit (.bool true)], args := [d] }
  | _ => none }
def deedChecksRow : OpenClaim := { program := "ytameamfaaenboaadoor", sum := "3b6f43f6ed1a0d674858d771fc6a6eff62e2f799ceee02e639921ea1d4781a51", func := "pigeonhole/pigeonholelaw09.DeedChecks", spec := "deedChecks", inPlace := ["internal/abi.NoEscape"], unfollowed := true, recurses := true, named := ["unicode/utf8.first", "unicode/utf8.acceptRanges"], apart := false, laid := [("unicode/utf8.acceptRanges", laid_unicode_utf8_acceptRanges), ("unicode/utf8.first", laid_unicode_utf8_first)] }
def DeedChecksSaid : Prop := deedChecksRow.holds Tryd.pinned (OpenSpec.ofChange deedChecksSpec)

/-- ITS FALSE NEIGHBOUR: 'it returns false'. Refute it at one input. -/
def deedChecksWrong : ChangeSpec := { name := "deedChecks", fn := fun _ => fun
  | [d] => { results := [.lit (.bool false)], args := [d] }
  | _ => none }
def DeedChecksWrongFalsely : Prop := deedChecksRow.holds Tryd.pinned (OpenSpec.ofChange deedChecksWrong)

/-- 'pigeonholelaw09.DeedPuts': WHATEVER THE INPUT: true; the input reads as it did. -/
def deedPutsSpec : ChangeSpec := { name := "deedPuts", fn := fun _ => fun
  | [d] => { results := [.lit (.bool true)], args := [d] }
  | _ => none }
def deedPutsRow : OpenClaim := { program := "ytameamfaaenboaadoor", sum := "3b6f43f6ed1a0d674858d771fc6a6eff62e2f799ceee02e639921ea1d4781a51", func := "pigeonhole/pigeonholelaw09.DeedPuts", spec := "deedPuts", inPlace := ["internal/abi.NoEscape"], unfollowed := true, recurses := true, named := ["unicode/utf8.first", "unicode/utf8.acceptRanges"], apart := false, laid := [("unicode/utf8.acceptRanges", laid_unicode_utf8_acceptRanges), ("unicode/utf8.first", laid_unicode_utf8_first)] }
def DeedPutsSaid : Prop := deedPutsRow.holds Tryd.pinned (OpenSpec.ofChange deedPutsSpec)

/-- ITS FALSE NEIGHBOUR: 'it returns false'. Refute it at one input. -/
def deedPutsWrong : ChangeSpec := { name := "deedPuts", fn := fun _ => fun
  | [d] => { results := [.lit (.bool false)], args := [d] }
  | _ => none }
def DeedPutsWrongFalsely : Prop := deedPutsRow.holds Tryd.pinned (OpenSpec.ofChange deedPutsWrong)

/-- 'pigeonholelaw09.DeedTakes': WHATEVER THE INPUT: true; the input reads as it did. -/
def deedTakesSpec : ChangeSpec := { name := "deedTakes", fn := fun _ => fun
  | [d] => { results := [.lit (.bool true)], args := [d] }
  | _ => none }
def deedTakesRow : OpenClaim := { program := "ytameamfaaenboaadoor", sum := "3b6f43f6ed1a0d674858d771fc6a6eff62e2f799ceee02e639921ea1d4781a51", func := "pigeonhole/pigeonholelaw09.DeedTakes", spec := "deedTakes", inPlace := ["internal/abi.NoEscape"], unfollowed := true, recurses := true, named := ["unicode/utf8.first", "unicode/utf8.acceptRanges"], apart := false, laid := [("unicode/utf8.acceptRanges", laid_unicode_utf8_acceptRanges), ("unicode/utf8.first", laid_unicode_utf8_first)] }
def DeedTakesSaid : Prop := deedTakesRow.holds Tryd.pinned (OpenSpec.ofChange deedTakesSpec)

/-- ITS FALSE NEIGHBOUR: 'it returns false'. Refute it at one input. -/
def deedTakesWrong : ChangeSpec := { name := "deedTakes", fn := fun _ => fun
  | [d] => { results := [.lit (.bool false)], args := [d] }
  | _ => none }
def DeedTakesWrongFalsely : Prop := deedTakesRow.holds Tryd.pinned (OpenSpec.ofChange deedTakesWrong)

/-- 'pigeonholelaw09.DeedUsers': WHATEVER THE INPUT: true; the input reads as it did. -/
def deedUsersSpec : ChangeSpec := { name := "deedUsers", fn := fun _ => fun
  | [d1, d2] => { results := [.lit (.bool true)], args := [d1, d2] }
  | _ => none }
def deedUsersRow : OpenClaim := { program := "ytameamfaaenboaadoor", sum := "3b6f43f6ed1a0d674858d771fc6a6eff62e2f799ceee02e639921ea1d4781a51", func := "pigeonhole/pigeonholelaw09.DeedUsers", spec := "deedUsers", inPlace := ["internal/abi.NoEscape"], unfollowed := true, recurses := true, named := ["unicode/utf8.first", "unicode/utf8.acceptRanges"], apart := false, laid := [("unicode/utf8.acceptRanges", laid_unicode_utf8_acceptRanges), ("unicode/utf8.first", laid_unicode_utf8_first)] }
def DeedUsersSaid : Prop := deedUsersRow.holds Tryd.pinned (OpenSpec.ofChange deedUsersSpec)

/-- ITS FALSE NEIGHBOUR: 'it returns false'. Refute it at one input. -/
def deedUsersWrong : ChangeSpec := { name := "deedUsers", fn := fun _ => fun
  | [d1, d2] => { results := [.lit (.bool false)], args := [d1, d2] }
  | _ => none }
def DeedUsersWrongFalsely : Prop := deedUsersRow.holds Tryd.pinned (OpenSpec.ofChange deedUsersWrong)

/- THE SECOND FORM. 'bulk': how many values and letters a reading holds, each counted each time it is reached (what is shared counts as often as it is met; a slice's spare places count too). A statement '..UptoSaid' is the law's where the arguments, and the package variables that the reading takes, are together of bulk at most 1048576: NARROWER than '..Said'. Prove '..Said' where nothing that the law and all that it calls make is longer than what came in: it says more and counts as full. Else prove '..UptoSaid'. A law counts once. -/
mutual
def uptoBulk {H : Type} : DataW H → Nat
  | .lit (.string bytes) => bytes.length + 1
  | .lit _ => 1
  | .nil => 1
  | .ptr d => uptoBulk d + 1
  | .slice elems spare => uptoBulkAll elems + uptoBulkAll spare + 1
  | .agg parts => uptoBulkAll parts + 1
  | .iface _ d => uptoBulk d + 1
  | .map entries => uptoBulkEntries entries + 1
  | .held _ => 1
def uptoBulkAll {H : Type} : List (DataW H) → Nat
  | [] => 0
  | d :: r => uptoBulk d + uptoBulkAll r
def uptoBulkEntries {H : Type} : List (Lit × DataW H) → Nat
  | [] => 0
  | x :: r => uptoBulkEntry x + uptoBulkEntries r
def uptoBulkEntry {H : Type} : Lit × DataW H → Nat
  | (.string bytes, d) => bytes.length + uptoBulk d + 1
  | (_, d) => uptoBulk d + 1
 end
def uptoSmall : (H : Type) → List (DataW H) → Bool := fun _ ds => decide (uptoBulkAll ds ≤ 1048576)
def OpenSpec.upto (s : _root_.Go.ChangeSpec) : _root_.Go.OpenSpec := { _root_.Go.OpenSpec.ofChange s with cond := some uptoSmall }

/-- 'pigeonholelaw09.DeedNames', WHERE WHAT IT READS IS OF BULK AT MOST 1048576: true; the input reads as it did. -/
def deedNamesUptoRow : OpenClaim := { program := "ytameamfaaenboaadoor", sum := "3b6f43f6ed1a0d674858d771fc6a6eff62e2f799ceee02e639921ea1d4781a51", func := "pigeonhole/pigeonholelaw09.DeedNames", spec := "deedNames", inPlace := ["internal/abi.NoEscape"], unfollowed := true, recurses := true, named := ["unicode/utf8.first", "unicode/utf8.acceptRanges"], apart := false, laid := [("unicode/utf8.acceptRanges", laid_unicode_utf8_acceptRanges), ("unicode/utf8.first", laid_unicode_utf8_first)], narrowed := true }
def DeedNamesUptoSaid : Prop := deedNamesUptoRow.holds Tryd.pinned (OpenSpec.upto deedNamesSpec)

/-- 'pigeonholelaw09.DeedChecks', WHERE WHAT IT READS IS OF BULK AT MOST 1048576: true; the input reads as it did. -/
def deedChecksUptoRow : OpenClaim := { program := "ytameamfaaenboaadoor", sum := "3b6f43f6ed1a0d674858d771fc6a6eff62e2f799ceee02e639921ea1d4781a51", func := "pigeonhole/pigeonholelaw09.DeedChecks", spec := "deedChecks", inPlace := ["internal/abi.NoEscape"], unfollowed := true, recurses := true, named := ["unicode/utf8.first", "unicode/utf8.acceptRanges"], apart := false, laid := [("unicode/utf8.acceptRanges", laid_unicode_utf8_acceptRanges), ("unicode/utf8.first", laid_unicode_utf8_first)], narrowed := true }
def DeedChecksUptoSaid : Prop := deedChecksUptoRow.holds Tryd.pinned (OpenSpec.upto deedChecksSpec)

/-- 'pigeonholelaw09.DeedPuts', WHERE WHAT IT READS IS OF BULK AT MOST 1048576: true; the input reads as it did. -/
def deedPutsUptoRow : OpenClaim := { program := "ytameamfaaenboaadoor", sum := "3b6f43f6ed1a0d674858d771fc6a6eff62e2f799ceee02e639921ea1d4781a51", func := "pigeonhole/pigeonholelaw09.DeedPuts", spec := "deedPuts", inPlace := ["internal/abi.NoEscape"], unfollowed := true, recurses := true, named := ["unicode/utf8.first", "unicode/utf8.acceptRanges"], apart := false, laid := [("unicode/utf8.acceptRanges", laid_unicode_utf8_acceptRanges), ("unicode/utf8.first", laid_unicode_utf8_first)], narrowed := true }
def DeedPutsUptoSaid : Prop := deedPutsUptoRow.holds Tryd.pinned (OpenSpec.upto deedPutsSpec)

/-- 'pigeonholelaw09.DeedTakes', WHERE WHAT IT READS IS OF BULK AT MOST 1048576: true; the input reads as it did. -/
def deedTakesUptoRow : OpenClaim := { program := "ytameamfaaenboaadoor", sum := "3b6f43f6ed1a0d674858d771fc6a6eff62e2f799ceee02e639921ea1d4781a51", func := "pigeonhole/pigeonholelaw09.DeedTakes", spec := "deedTakes", inPlace := ["internal/abi.NoEscape"], unfollowed := true, recurses := true, named := ["unicode/utf8.first", "unicode/utf8.acceptRanges"], apart := false, laid := [("unicode/utf8.acceptRanges", laid_unicode_utf8_acceptRanges), ("unicode/utf8.first", laid_unicode_utf8_first)], narrowed := true }
def DeedTakesUptoSaid : Prop := deedTakesUptoRow.holds Tryd.pinned (OpenSpec.upto deedTakesSpec)

/-- 'pigeonholelaw09.DeedUsers', WHERE WHAT IT READS IS OF BULK AT MOST 1048576: true; the input reads as it did. -/
def deedUsersUptoRow : OpenClaim := { program := "ytameamfaaenboaadoor", sum := "3b6f43f6ed1a0d674858d771fc6a6eff62e2f799ceee02e639921ea1d4781a51", func := "pigeonhole/pigeonholelaw09.DeedUsers", spec := "deedUsers", inPlace := ["internal/abi.NoEscape"], unfollowed := true, recurses := true, named := ["unicode/utf8.first", "unicode/utf8.acceptRanges"], apart := false, laid := [("unicode/utf8.acceptRanges", laid_unicode_utf8_acceptRanges), ("unicode/utf8.first", laid_unicode_utf8_first)], narrowed := true }
def DeedUsersUptoSaid : Prop := deedUsersUptoRow.holds Tryd.pinned (OpenSpec.upto deedUsersSpec)

end Rows
end Go.Proofs.YtameamfaaenboaaDoor
