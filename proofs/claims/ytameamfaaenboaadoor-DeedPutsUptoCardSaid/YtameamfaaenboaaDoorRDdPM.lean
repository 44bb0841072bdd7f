/- The walk of the law DeedPuts. Conditions: that of Check (CheckLaw), the bounds named, and the library's two tables. -/
import Derived.Test.YtameamfaaenboaaDoorC6
import Derived.Test.YtameamfaaenboaaDoorRDd8M
namespace Go.Proofs.YtameamfaaenboaaDoor
open Go.RowKit
set_option maxRecDepth 20000 in
set_option maxHeartbeats 4000000 in
theorem DeedPuts_any (HCK : CheckLaw) (ds : List Dd) (A : Option Addr) (c : Nat) (w : World) (h : RsM RDdB 10 [] w A ds) (hl : ds.length ≤ 1048576) (hT : Tabs w) :
    Calls Tryd.prog 5 #[.slice A ds.length c] w (Yes w) := by
  have HP := PutAll_any HCK ds A c w (RDdB.weak h) (by omega)
  have HR := fun W (hx : Ext w W) => RPutAll_any ds A c W (h.kept (.of_ext hx)) hl (hT.ext hx)
  clear h hT
  generalize putAllT ds = r at *
  obtain ⟨l, k⟩ := r
  go_enter Tryd.func5, Tryd.ntmps5
  go_wp2_with fail
  refine HP.mono ?_
  rintro e w1 ⟨hx1, v1, rfl, hown1⟩
  obtain ⟨A1, c1, rfl⟩ := hown1.form
  have HR1 := HR w1 hx1
  clear HP HR
  go_wp2_with fail
  refine HR1.mono ?_
  rintro e w2 ⟨hx2, v2, rfl, hown2⟩
  obtain ⟨A2, c2, rfl⟩ := hown2.form
  have hx02 := hx1.trans hx2
  clear HR1
  go_wp2_with fail
  refine (dlive_any HCK w2).mono ?_
  rintro e w3 ⟨rfl, hx3⟩
  have hx03 := hx02.trans hx3
  have s1 := run_str (P := Tryd.prog) Tryd.underlying26 Tryd.underlying5 Tryd.underlying9 hown1.bs l.length c1 rfl w3 (hx2.trans hx3)
  have s2 := run_str (P := Tryd.prog) Tryd.underlying26 Tryd.underlying5 Tryd.underlying9 hown2.bs l.length c2 rfl w3 hx3
  clear hown1 hown2 hx02 hx1 hx2
  go_wp2
  go_ret
  exact ⟨rfl, hx03⟩
end Go.Proofs.YtameamfaaenboaaDoor
