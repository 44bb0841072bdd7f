/-
  DERIVED. GIVEN WITH THE SEED: THE CARDS: each row of YtigkmlhkfpdajaaDoorRows.lean that lists a variable, with what it lists TIED to the program's text (the seventh form; the later family's looks); each row that meets fmt, with fmt's text TOLD by the authors' own Lean function (tested against real Go, not proved from fmt's source: count such statements apart). THE CARD IS WHAT COUNTS. Prove the row's statement (the work); the ties are given (YtigkmlhkfpdajaaDoorTie.lean); close each card by the builder's one call (the guide's Derived/Test/ToyasCard.lean, 'card_holds'). Laid BY PROGRAM, IN A SANDBOX (cutbox-door.mjs). By AI agents, Wed Nov 11 2026. No macro, syntax, notation, axiom, sorry.
-/
import Derived.Test.YtigkmlhkfpdajaaDoorRows
import GoSem.ClaimSeven
namespace Go.Proofs.YtigkmlhkfpdajaaDoor
namespace Rows

/-- THE TIED CARD OF 'pigeonholelaw03.AddrParses'. -/
def addrParsesCard : Claim7 := { stood := { row := addrParsesRow, standIns := [], harness := (true, "11fb15917108a11873250a7a1b544d256336d35e303f80fdf5f52d2fec38862d"), looks := false }, kinds := [], alts := [], laidByText := true, laidKinds := [.data, .pinned], laidTests := true, laidLooks := .later }
def AddrParsesCardSaid : Prop := Claim7.holds Tryd.pinned (.plain (OpenSpec.ofChange addrParsesSpec)) addrParsesCard

/-- THE TIED CARD OF 'pigeonholelaw03.AddrGoes'. -/
def addrGoesCard : Claim7 := { stood := { row := addrGoesRow, standIns := [], harness := (true, "11fb15917108a11873250a7a1b544d256336d35e303f80fdf5f52d2fec38862d"), looks := false }, kinds := [], alts := [], laidByText := true, laidKinds := [.data, .pinned], laidTests := true, laidLooks := .later }
def AddrGoesCardSaid : Prop := Claim7.holds Tryd.pinned (.plain (OpenSpec.ofChange addrGoesSpec)) addrGoesCard

/-- THE TIED CARD OF 'pigeonholelaw03.AddrPaths'. -/
def addrPathsCard : Claim7 := { stood := { row := addrPathsRow, standIns := [], harness := (true, "11fb15917108a11873250a7a1b544d256336d35e303f80fdf5f52d2fec38862d"), looks := false }, kinds := [], alts := [], laidByText := true, laidKinds := [.data, .pinned], laidTests := true, laidLooks := .later }
def AddrPathsCardSaid : Prop := Claim7.holds Tryd.pinned (.plain (OpenSpec.ofChange addrPathsSpec)) addrPathsCard

/-- THE TIED CARD OF 'pigeonholelaw03.AddrPrints'. -/
def addrPrintsCard : Claim7 := { stood := { row := addrPrintsRow, standIns := [], harness := (true, "11fb15917108a11873250a7a1b544d256336d35e303f80fdf5f52d2fec38862d"), looks := false }, kinds := [], alts := [], laidByText := true, laidKinds := [.data, .pinned], laidTests := true, laidLooks := .later }
def AddrPrintsCardSaid : Prop := Claim7.holds Tryd.pinned (.plain (OpenSpec.ofChange addrPrintsSpec)) addrPrintsCard

/-- THE SECOND FORM's CARD OF 'pigeonholelaw03.AddrParses'. -/
def addrParsesUptoCard : Claim7 := { stood := { row := addrParsesUptoRow, standIns := [], harness := (true, "11fb15917108a11873250a7a1b544d256336d35e303f80fdf5f52d2fec38862d"), looks := false }, kinds := [], alts := [], laidByText := true, laidKinds := [.data, .pinned], laidTests := true, laidLooks := .later }
def AddrParsesUptoCardSaid : Prop := Claim7.holds Tryd.pinned (.plain (OpenSpec.upto addrParsesSpec)) addrParsesUptoCard

/-- THE SECOND FORM's CARD OF 'pigeonholelaw03.AddrGoes'. -/
def addrGoesUptoCard : Claim7 := { stood := { row := addrGoesUptoRow, standIns := [], harness := (true, "11fb15917108a11873250a7a1b544d256336d35e303f80fdf5f52d2fec38862d"), looks := false }, kinds := [], alts := [], laidByText := true, laidKinds := [.data, .pinned], laidTests := true, laidLooks := .later }
def AddrGoesUptoCardSaid : Prop := Claim7.holds Tryd.pinned (.plain (OpenSpec.upto addrGoesSpec)) addrGoesUptoCard

/-- THE SECOND FORM's CARD OF 'pigeonholelaw03.AddrPaths'. -/
def addrPathsUptoCard : Claim7 := { stood := { row := addrPathsUptoRow, standIns := [], harness := (true, "11fb15917108a11873250a7a1b544d256336d35e303f80fdf5f52d2fec38862d"), looks := false }, kinds := [], alts := [], laidByText := true, laidKinds := [.data, .pinned], laidTests := true, laidLooks := .later }
def AddrPathsUptoCardSaid : Prop := Claim7.holds Tryd.pinned (.plain (OpenSpec.upto addrPathsSpec)) addrPathsUptoCard

/-- THE SECOND FORM's CARD OF 'pigeonholelaw03.AddrPrints'. -/
def addrPrintsUptoCard : Claim7 := { stood := { row := addrPrintsUptoRow, standIns := [], harness := (true, "11fb15917108a11873250a7a1b544d256336d35e303f80fdf5f52d2fec38862d"), looks := false }, kinds := [], alts := [], laidByText := true, laidKinds := [.data, .pinned], laidTests := true, laidLooks := .later }
def AddrPrintsUptoCardSaid : Prop := Claim7.holds Tryd.pinned (.plain (OpenSpec.upto addrPrintsSpec)) addrPrintsUptoCard
end Rows
end Go.Proofs.YtigkmlhkfpdajaaDoor
