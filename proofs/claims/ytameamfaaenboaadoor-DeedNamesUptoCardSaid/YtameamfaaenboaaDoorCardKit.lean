/- For a card whose row lists unicode/utf8's two tables: a world that holds them, and what the list gives. Conditions: the hypotheses of each theorem. -/
import Derived.Test.YtameamfaaenboaaDoorRow
import Derived.Test.YtameamfaaenboaaDoorLet
import Derived.Test.YtameamfaaenboaaDoorCards
import Derived.Test.YtameamfaaenboaaDoorTie
import Derived.Deep.DeepHandedRow
import Derived.Lib.LaidU8
namespace Go.Proofs.YtameamfaaenboaaDoor
open Go.ChangeShapes Go.WideShapes Go.ChangeAt Go.RowKit
open Go.ChangeMaps (open_string shut_string)
set_option maxRecDepth 20000 in
theorem open_strB {H : Type} {enc : TypeId × Value → H} {W : World} {base b : Nat} {held : Bool} {v : Value} {d : DataW H} {p : List MemPlace} {spare : Nat → Bool} (hv : Value.okWide Tryd.prog W .any b 9 v) (h : DataW.Trod enc Tryd.prog W base spare held 9 v d p) :
    ∃ s : ByteArray, v = .string s ∧ s.size ≤ Rows.uptoBulk d := by
  obtain ⟨s, rfl, rfl, rfl, hm⟩ := open_string Tryd.underlying9 hv h
  have hl : s.data.toList.length = s.size := by unfold ByteArray.size; simp
  exact ⟨s, rfl, by simp only [Rows.uptoBulk]; omega⟩
set_option maxRecDepth 20000 in
theorem first_eq : Rows.laid_unicode_utf8_first = Lib.firstData := by kernel_rfl
set_option maxRecDepth 20000 in
theorem accept_eq : (Rows.laid_unicode_utf8_acceptRanges : DataW Unit) = Lib.acceptData := by kernel_rfl
set_option maxRecDepth 20000 in
/-- the two tables, as each row of this seat lists them -/
theorem tabs_laid {W : World} (l : List (String × DataW Unit)) (hl : l = Rows.deedNamesUptoRow.laid) (h : laidMetH Tryd.prog l W) : Tabs W := by
  subst hl
  have hL : laidMet Tryd.prog Rows.deedNamesUptoRow.laid W := h
  exact utf8Tabs_of_reads (ρ := Tryd.lays197_ren) { Tryd.lays197 with } ⟨by kernel_rfl, by kernel_rfl, by kernel_rfl, by kernel_rfl, by kernel_rfl, by kernel_rfl, by kernel_rfl⟩ (Lib.laidMet.reads hL (by rw [← first_eq]; exact .tail _ (.head _))) (Lib.laidMet.reads hL (by rw [← accept_eq]; exact .head _))
/-- the settled world, the two tables holding what their initialisers lay -/
noncomputable def laidWorld (os : Os) : World :=
  let w0 := World.holding Tryd.prog os ⟨#[], #[], []⟩
  let put (h : Array Obj) (g : Nat) (cs : Array Value) : Array Obj := h.modify g fun
    | .cells _ t frozen => .cells cs t frozen
    | o => o
  let h1 := put w0.heap 0 (Lib.firstTab.map fun z => Value.int .u8 z).toArray
  let h2 := put h1 1 ((List.range 16).flatMap fun i => [Value.int .u8 (Lib.accLo i), Value.int .u8 (Lib.accHi i)]).toArray
  { w0 with heap := h2 }
set_option maxRecDepth 20000 in
theorem tabs_met (os : Os) (args : Array Value) : laidMet Tryd.prog Rows.deedNamesUptoRow.laid ((laidWorld os).forCall (fun _ _ => 0) ⟨#[], args, []⟩).memory :=
  laidMet_of_run' 8 (by kernel_rfl) (by kernel_rfl)
end Go.Proofs.YtameamfaaenboaaDoor
