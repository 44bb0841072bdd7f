/-
  DERIVED. GIVEN WITH THE SEED: THE CARDS: each row of YtameamfaaenboaaDoorRows.lean that lists a variable, with what it lists TIED to the program's text (the seventh form; the later family's looks); each row that meets fmt, with fmt's text TOLD by the authors' own Lean function (tested against real Go, not proved from fmt's source: count such statements apart). THE CARD IS WHAT COUNTS. Prove the row's statement (the work); the ties are given (YtameamfaaenboaaDoorTie.lean); close each card by the builder's one call (the guide's Derived/Test/ToyasCard.lean, 'card_holds'). Laid BY PROGRAM, IN A SANDBOX (cutbox-door.mjs). By AI agents, Wed Nov 11 2026. No macro, syntax, notation, axiom, sorry.
-/
import Derived.Test.YtameamfaaenboaaDoorRows
import GoSem.ClaimSeven
namespace Go.Proofs.YtameamfaaenboaaDoor
namespace Rows

/-- THE TIED CARD OF 'pigeonholelaw09.DeedNames'. -/
def deedNamesCard : Claim7 := { stood := { row := deedNamesRow, standIns := [], harness := (true, "2ea851c09e26f5b316c5259c007c9207cf84eb7315b6e149a51a1f7713f2e940"), looks := true }, kinds := [], alts := [], laidByText := true, laidKinds := [.data, .pinned], laidTests := true, laidLooks := .later }
def DeedNamesCardSaid : Prop := Claim7.holds Tryd.pinned (.plain (OpenSpec.ofChange deedNamesSpec)) deedNamesCard

/-- THE TIED CARD OF 'pigeonholelaw09.DeedChecks'. -/
def deedChecksCard : Claim7 := { stood := { row := deedChecksRow, standIns := [], harness := (true, "2ea851c09e26f5b316c5259c007c9207cf84eb7315b6e149a51a1f7713f2e940"), looks := true }, kinds := [], alts := [], laidByText := true, laidKinds := [.data, .pinned], laidTests := true, laidLooks := .later }
def DeedChecksCardSaid : Prop := Claim7.holds Tryd.pinned (.plain (OpenSpec.ofChange deedChecksSpec)) deedChecksCard

/-- THE TIED CARD OF 'pigeonholelaw09.DeedPuts'. -/
def deedPutsCard : Claim7 := { stood := { row := deedPutsRow, standIns := [], harness := (true, "2ea851c09e26f5b316c5259c007c9207cf84eb7315b6e149a51a1f7713f2e940"), looks := true }, kinds := [], alts := [], laidByText := true, laidKinds := [.data, .pinned], laidTests := true, laidLooks := .later }
def DeedPutsCardSaid : Prop := Claim7.holds Tryd.pinned (.plain (OpenSpec.ofChange deedPutsSpec)) deedPutsCard

/-- THE TIED CARD OF 'pigeonholelaw09.DeedTakes'. -/
def deedTakesCard : Claim7 := { stood := { row := deedTakesRow, standIns := [], harness := (true, "2ea851c09e26f5b316c5259c007c9207cf84eb7315b6e149a51a1f7713f2e940"), looks := true }, kinds := [], alts := [], laidByText := true, laidKinds := [.data, .pinned], laidTests := true, laidLooks := .later }
def DeedTakesCardSaid : Prop := Claim7.holds Tryd.pinned (.plain (OpenSpec.ofChange deedTakesSpec)) deedTakesCard

/-- THE TIED CARD OF 'pigeonholelaw09.DeedUsers'. -/
def deedUsersCard : Claim7 := { stood := { row := deedUsersRow, standIns := [], harness := (true, "2ea851c09e26f5b316c5259c007c9207cf84eb7315b6e149a51a1f7713f2e940"), looks := true }, kinds := [], alts := [], laidByText := true, laidKinds := [.data, .pinned], laidTests := true, laidLooks := .later }
def DeedUsersCardSaid : Prop := Claim7.holds Tryd.pinned (.plain (OpenSpec.ofChange deedUsersSpec)) deedUsersCard

/-- THE SECOND FORM's CARD OF 'pigeonholelaw09.DeedNames'. -/
def deedNamesUptoCard : Claim7 := { stood := { row := deedNamesUptoRow, standIns := [], harness := (true, "2ea851c09e26f5b316c5259c007c9207cf84eb7315b6e149a51a1f7713f2e940"), looks := true }, kinds := [], alts := [], laidByText := true, laidKinds := [.data, .pinned], laidTests := true, laidLooks := .later }
def DeedNamesUptoCardSaid : Prop := Claim7.holds Tryd.pinned (.plain (OpenSpec.upto deedNamesSpec)) deedNamesUptoCard

/-- THE SECOND FORM's CARD OF 'pigeonholelaw09.DeedChecks'. -/
def deedChecksUptoCard : Claim7 := { stood := { row := deedChecksUptoRow, standIns := [], harness := (true, "2ea851c09e26f5b316c5259c007c9207cf84eb7315b6e149a51a1f7713f2e940"), looks := true }, kinds := [], alts := [], laidByText := true, laidKinds := [.data, .pinned], laidTests := true, laidLooks := .later }
def DeedChecksUptoCardSaid : Prop := Claim7.holds Tryd.pinned (.plain (OpenSpec.upto deedChecksSpec)) deedChecksUptoCard

/-- THE SECOND FORM's CARD OF 'pigeonholelaw09.DeedPuts'. -/
def deedPutsUptoCard : Claim7 := { stood := { row := deedPutsUptoRow, standIns := [], harness := (true, "2ea851c09e26f5b316c5259c007c9207cf84eb7315b6e149a51a1f7713f2e940"), looks := true }, kinds := [], alts := [], laidByText := true, laidKinds := [.data, .pinned], laidTests := true, laidLooks := .later }
def DeedPutsUptoCardSaid : Prop := Claim7.holds Tryd.pinned (.plain (OpenSpec.upto deedPutsSpec)) deedPutsUptoCard

/-- THE SECOND FORM's CARD OF 'pigeonholelaw09.DeedTakes'. -/
def deedTakesUptoCard : Claim7 := { stood := { row := deedTakesUptoRow, standIns := [], harness := (true, "2ea851c09e26f5b316c5259c007c9207cf84eb7315b6e149a51a1f7713f2e940"), looks := true }, kinds := [], alts := [], laidByText := true, laidKinds := [.data, .pinned], laidTests := true, laidLooks := .later }
def DeedTakesUptoCardSaid : Prop := Claim7.holds Tryd.pinned (.plain (OpenSpec.upto deedTakesSpec)) deedTakesUptoCard

/-- THE SECOND FORM's CARD OF 'pigeonholelaw09.DeedUsers'. -/
def deedUsersUptoCard : Claim7 := { stood := { row := deedUsersUptoRow, standIns := [], harness := (true, "2ea851c09e26f5b316c5259c007c9207cf84eb7315b6e149a51a1f7713f2e940"), looks := true }, kinds := [], alts := [], laidByText := true, laidKinds := [.data, .pinned], laidTests := true, laidLooks := .later }
def DeedUsersUptoCardSaid : Prop := Claim7.holds Tryd.pinned (.plain (OpenSpec.upto deedUsersSpec)) deedUsersUptoCard
end Rows
end Go.Proofs.YtameamfaaenboaaDoor
