/- The walk of the law DeedNames. Conditions: that of Check (CheckLaw), the bound named, and the library's two tables. -/
import Derived.Test.YtameamfaaenboaaDoorDd18
import Derived.Test.YtameamfaaenboaaDoorRDd0
namespace Go.Proofs.YtameamfaaenboaaDoor
open Go.RowKit
set_option maxRecDepth 20000 in
set_option maxHeartbeats 4000000 in
theorem DeedNames_any (HCK : CheckLaw) (a : ByteArray) (w : World) (ha : a.size ≤ 8796093022000) (hT : Tabs w) : Calls Tryd.prog 3 #[.string a] w (Yes w) := by
  obtain ⟨l, rfl⟩ : ∃ l, a = st l := ⟨tl a, (st_tl a).symm⟩
  rw [st_size] at ha
  have H1 := fun W => RightUser_any (st l) W (by rw [st_size]; omega)
  rw [tl_st] at H1
  have H2 := fun W => RRightUser_any l W ha
  have H3 := fun W => RightBox_any l W (by omega)
  have H4 := fun W (hx : Ext w W) => RRightBox_any l W ha (hT.ext hx)
  have H5 := fun W => Fold_any l W (by omega)
  have H6 := fun W => RFold_any l W ha
  generalize rightU l = x1 at *
  generalize rightB l = x2 at *
  generalize foldB l = x3 at *
  go_enter Tryd.func3, Tryd.ntmps3
  go_wp2_with fail
  refine (dlive_any HCK w).mono ?_
  rintro e w1 ⟨rfl, hx1⟩
  go_wp2_with fail
  refine (H1 w1).mono ?_
  rintro e w2 ⟨rfl, hx2⟩
  have hx2 := hx1.trans hx2
  go_wp2_with fail
  refine (H2 w2).mono ?_
  rintro e w3 ⟨rfl, hx3⟩
  have hx3 := hx2.trans hx3
  go_wp2_with fail
  refine (H3 w3).mono ?_
  rintro e w4 ⟨rfl, hx4⟩
  have hx4 := hx3.trans hx4
  go_wp2_with fail
  refine (H4 w4 hx4).mono ?_
  rintro e w5 ⟨rfl, hx5⟩
  have hx5 := hx4.trans hx5
  go_wp2_with fail
  refine (H5 w5).mono ?_
  rintro e w6 ⟨rfl, hx6⟩
  have hx6 := hx5.trans hx6
  go_wp2_with fail
  refine (H6 w6).mono ?_
  rintro e w7 ⟨rfl, hx7⟩
  have hx7 := hx6.trans hx7
  go_wp2
  go_ret
  exact ⟨rfl, hx7⟩
end Go.Proofs.YtameamfaaenboaaDoor
