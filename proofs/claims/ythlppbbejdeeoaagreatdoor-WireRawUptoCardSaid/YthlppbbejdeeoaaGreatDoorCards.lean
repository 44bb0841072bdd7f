/-
  DERIVED. GIVEN WITH THE SEED: THE CARDS: each row of YthlppbbejdeeoaaGreatDoorRows.lean that lists a variable, with what it lists TIED to the program's text (the seventh form; the later family's looks); each row that meets fmt, with fmt's text TOLD by the authors' own Lean function (tested against real Go, not proved from fmt's source: count such statements apart). THE CARD IS WHAT COUNTS. Prove the row's statement (the work); the ties are given (YthlppbbejdeeoaaGreatDoorTie.lean); close each card by the builder's one call (the guide's Derived/Test/ToyasCard.lean, 'card_holds'). Laid BY PROGRAM, IN A SANDBOX (cutbox-door.mjs). By AI agents, Wed Nov 11 2026. No macro, syntax, notation, axiom, sorry.
-/
import Derived.Test.YthlppbbejdeeoaaGreatDoorRows
import GoSem.ClaimSeven
namespace Go.Proofs.YthlppbbejdeeoaaGreatDoor
namespace Rows

/-- THE TIED CARD OF 'pigeonholelaw13.WireTakes'. -/
def wireTakesCard : Claim7 := { stood := { row := wireTakesRow, standIns := [], harness := (true, "b9101ebfe919a51e498a0ad8722c3657b75c2bc2c19b4d67c221cb504fb6a819"), looks := true }, kinds := [], alts := [], laidByText := true, laidKinds := [.data, .pinned], laidTests := true, laidLooks := .later }
def WireTakesCardSaid : Prop := Claim7.holds Tryz.pinned (.plain (OpenSpec.ofChange wireTakesSpec)) wireTakesCard

/-- THE TIED CARD OF 'pigeonholelaw13.WireRaw'. -/
def wireRawCard : Claim7 := { stood := { row := wireRawRow, standIns := [], harness := (true, "b9101ebfe919a51e498a0ad8722c3657b75c2bc2c19b4d67c221cb504fb6a819"), looks := true }, kinds := [], alts := [], laidByText := true, laidKinds := [.data, .pinned], laidTests := true, laidLooks := .later }
def WireRawCardSaid : Prop := Claim7.holds Tryz.pinned (.plain (OpenSpec.ofChange wireRawSpec)) wireRawCard

/-- THE TIED CARD OF 'pigeonholelaw13.WireChecks'. -/
def wireChecksCard : Claim7 := { stood := { row := wireChecksRow, standIns := [], harness := (true, "b9101ebfe919a51e498a0ad8722c3657b75c2bc2c19b4d67c221cb504fb6a819"), looks := true }, kinds := [], alts := [], laidByText := true, laidKinds := [.data, .pinned], laidTests := true, laidLooks := .later }
def WireChecksCardSaid : Prop := Claim7.holds Tryz.pinned (.plain (OpenSpec.ofChange wireChecksSpec)) wireChecksCard

/-- THE TIED CARD OF 'pigeonholelaw13.WirePuts'. -/
def wirePutsCard : Claim7 := { stood := { row := wirePutsRow, standIns := [], harness := (true, "b9101ebfe919a51e498a0ad8722c3657b75c2bc2c19b4d67c221cb504fb6a819"), looks := true }, kinds := [], alts := [], laidByText := true, laidKinds := [.data, .pinned], laidTests := true, laidLooks := .later }
def WirePutsCardSaid : Prop := Claim7.holds Tryz.pinned (.plain (OpenSpec.ofChange wirePutsSpec)) wirePutsCard

/-- THE SECOND FORM's CARD OF 'pigeonholelaw13.WireTakes'. -/
def wireTakesUptoCard : Claim7 := { stood := { row := wireTakesUptoRow, standIns := [], harness := (true, "b9101ebfe919a51e498a0ad8722c3657b75c2bc2c19b4d67c221cb504fb6a819"), looks := true }, kinds := [], alts := [], laidByText := true, laidKinds := [.data, .pinned], laidTests := true, laidLooks := .later }
def WireTakesUptoCardSaid : Prop := Claim7.holds Tryz.pinned (.plain (OpenSpec.upto wireTakesSpec)) wireTakesUptoCard

/-- THE SECOND FORM's CARD OF 'pigeonholelaw13.WireRaw'. -/
def wireRawUptoCard : Claim7 := { stood := { row := wireRawUptoRow, standIns := [], harness := (true, "b9101ebfe919a51e498a0ad8722c3657b75c2bc2c19b4d67c221cb504fb6a819"), looks := true }, kinds := [], alts := [], laidByText := true, laidKinds := [.data, .pinned], laidTests := true, laidLooks := .later }
def WireRawUptoCardSaid : Prop := Claim7.holds Tryz.pinned (.plain (OpenSpec.upto wireRawSpec)) wireRawUptoCard

/-- THE SECOND FORM's CARD OF 'pigeonholelaw13.WireChecks'. -/
def wireChecksUptoCard : Claim7 := { stood := { row := wireChecksUptoRow, standIns := [], harness := (true, "b9101ebfe919a51e498a0ad8722c3657b75c2bc2c19b4d67c221cb504fb6a819"), looks := true }, kinds := [], alts := [], laidByText := true, laidKinds := [.data, .pinned], laidTests := true, laidLooks := .later }
def WireChecksUptoCardSaid : Prop := Claim7.holds Tryz.pinned (.plain (OpenSpec.upto wireChecksSpec)) wireChecksUptoCard

/-- THE SECOND FORM's CARD OF 'pigeonholelaw13.WirePuts'. -/
def wirePutsUptoCard : Claim7 := { stood := { row := wirePutsUptoRow, standIns := [], harness := (true, "b9101ebfe919a51e498a0ad8722c3657b75c2bc2c19b4d67c221cb504fb6a819"), looks := true }, kinds := [], alts := [], laidByText := true, laidKinds := [.data, .pinned], laidTests := true, laidLooks := .later }
def WirePutsUptoCardSaid : Prop := Claim7.holds Tryz.pinned (.plain (OpenSpec.upto wirePutsSpec)) wirePutsUptoCard
end Rows
end Go.Proofs.YthlppbbejdeeoaaGreatDoor
