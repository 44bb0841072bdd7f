/- The walks of the law's live, and of TextLowers, TextAtoms, TextWords: each answers true. Conditions: the lengths named in each theorem. -/
import Derived.Test.YtkjklpalpodbgaaDoorText2
import Derived.Test.YtkjklpalpodbgaaDoorText3
import Derived.Test.YtkjklpalpodbgaaDoorText5
import Derived.Test.YtkjklpalpodbgaaDoorText8
import Derived.Test.YtkjklpalpodbgaaDoorText10
namespace Go.Proofs.YtkjklpalpodbgaaDoor
open Go.RowKit
theorem live_n : numberL [52, 48, 55] = (407, 0, 0) := by decide +kernel
theorem live_u : unqT [34, 97, 92, 34, 98, 34, 32, 99] = ([97, 34, 98], 6, 0) := by decide +kernel
theorem live_q : quoteT [195, 164] = ([34, 195, 164, 34], 0, 0) := by decide +kernel
theorem live_a : atomL [97] = true := by decide +kernel
theorem live_s : decide (lowL [97, 66] = lowL [65, 98]) = true := by decide +kernel
theorem live_any (w : World) : Calls Tryd.prog 10 #[] w fun e w' => e = .returned (.bool true) ∧ Ext w w' := by
  go_enter Tryd.func10, Tryd.ntmps10
  go_wp2_with fail
  refine (Number_any ⟨#[52, 48, 55]⟩ _ (by decide)).mono ?_
  rintro e w1 ⟨he, hx1⟩
  rw [show tl ⟨#[52, 48, 55]⟩ = [52, 48, 55] from rfl, live_n] at he
  subst he
  dsimp only
  go_wp2_with fail
  refine (Unquote_any ⟨#[34, 97, 92, 34, 98, 34, 32, 99]⟩ _ (by decide)).mono ?_
  rintro e w2 ⟨he, hx2⟩
  rw [show tl ⟨#[34, 97, 92, 34, 98, 34, 32, 99]⟩ = [34, 97, 92, 34, 98, 34, 32, 99] from rfl, live_u] at he
  subst he
  dsimp only
  go_wp2_with fail
  refine (Quote_any ⟨#[195, 164]⟩ _ (by decide)).mono ?_
  rintro e w3 ⟨he, hx3⟩
  rw [show tl ⟨#[195, 164]⟩ = [195, 164] from rfl, live_q] at he
  subst he
  dsimp only
  go_wp2_with fail
  refine (Atom_any ⟨#[97]⟩ _ (by decide)).mono ?_
  rintro e w4 ⟨he, hx4⟩
  rw [show tl ⟨#[97]⟩ = [97] from rfl, live_a] at he
  subst he
  go_wp2_with fail
  refine (Same_any ⟨#[97, 66]⟩ ⟨#[65, 98]⟩ _ (by decide) (by decide)).mono ?_
  rintro e w5 ⟨he, hx5⟩
  rw [show tl ⟨#[97, 66]⟩ = [97, 66] from rfl, show tl ⟨#[65, 98]⟩ = [65, 98] from rfl, live_s] at he
  subst he
  go_wp2
  go_ret
  exact ⟨rfl, hx1.trans (hx2.trans (hx3.trans (hx4.trans hx5)))⟩
end Go.Proofs.YtkjklpalpodbgaaDoor
