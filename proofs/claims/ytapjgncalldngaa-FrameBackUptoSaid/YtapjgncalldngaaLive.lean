/- The walk of the law's live: it answers true. No condition. -/
import Derived.Test.YtapjgncalldngaaSame
import Derived.Lib.SlBytesConst
namespace Go.Proofs.Ytapjgncalldngaa
open Go.RowKit
theorem live_pack : (packL [97]).length = 7 ∧ oneL (packL [97]) 0 = ([97], 7, 0) := by decide +kernel
theorem live_sum : crcF [[49, 50, 51, 52, 53, 54, 55, 56, 57]] = 3421780262 := by decide +kernel
theorem live_last : (packL [97])[6]? = some 97 := by decide +kernel
set_option maxHeartbeats 1000000 in
theorem live_any (w : World) : Calls Try.prog 9 #[] w fun e w' => e = .returned (.bool true) ∧ Ext w w' := by
  have kc := fun (w : World) (C : Array Value) (n c : Nat) => Lib.run_convert_bytes_const (P := Try.prog) w 22 5 C n c Try.underlying22 Try.underlying5
  go_enter Try.func9, Try.ntmps9
  go_wp2_with fail
  refine (Pack_ok _ 1 1 [97] _ (Bs.new w [97] _ rfl _ _) rfl (by simp) (by simp)).mono ?_
  rintro e w1 ⟨v1, rfl, ho1, hx1⟩
  have hx1' : Ext w w1 := ((Ext.refl w).alloc _).trans hx1
  obtain ⟨A1, c1, rfl⟩ := ho1.form
  have hpl := live_pack.1
  rw [hpl]
  have hcap : 7 ≤ c1 ∧ c1 ≤ 9223372036854775807 := by have := ho1.cap; rw [hpl] at this; exact this
  obtain ⟨ad, rfl, hcell⟩ := Bs.at_ ho1.bs (k := 6) (by omega)
  have h97 : (packL [97])[6] = 97 := by
    have := live_last
    rwa [List.getElem?_eq_getElem (by omega), Option.some_inj] at this
  rw [h97] at hcell
  have hb1 := ho1.bs
  go_wp2_with fail
  refine (One_any (some ad) c1 7 (packL [97]) 0 w1 hb1 hpl.symm (by rw [hpl]; exact hcap.1) hcap.2).mono ?_
  rintro e w2 ⟨v2, rfl, ho2, hx2⟩
  rw [live_pack.2] at ho2 ⊢
  dsimp only at ho2 ⊢
  obtain ⟨A2, c2, rfl⟩ := ho2.form
  go_wp2_with fail
  refine (Sum_any _ 9 9 [49, 50, 51, 52, 53, 54, 55, 56, 57] _ (Bs.new w2 _ _ rfl _ _) (by simp) rfl).mono ?_
  rintro e w3 ⟨rfl, hx3⟩
  have hx3' : Ext w2 w3 := ((Ext.refl w2).alloc _).trans hx3
  have hcc := hcell w3 (hx2.trans hx3')
  rw [add_pos'] at hcc
  have s1 := run_str (P := Try.prog) Try.underlying22 Try.underlying5 Try.underlying9 (ho2.bs.ext hx3') 1 c2 rfl
  rw [live_sum]
  go_wp2
  go_ret
  exact ⟨rfl, hx1'.trans (hx2.trans hx3')⟩
end Go.Proofs.Ytapjgncalldngaa
