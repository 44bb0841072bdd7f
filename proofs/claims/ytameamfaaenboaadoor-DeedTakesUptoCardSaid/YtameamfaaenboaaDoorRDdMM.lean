/- The walk of the law DeedTakes. Conditions: that of Check (CheckLaw), the bounds named, and the library's two tables. -/
import Derived.Test.YtameamfaaenboaaDoorC6
import Derived.Test.YtameamfaaenboaaDoorRDdTM
namespace Go.Proofs.YtameamfaaenboaaDoor
open Go.RowKit
/-- what is told of the bytes of deeds -/
def tadU (l : By) : List Dd × Nat := match takeAllT l with | .inl k => ([], k) | .inr ds => (ds, 0)
theorem tadU_len (l : By) : (tadU l).1.length ≤ 12 := by
  unfold tadU
  cases htk : takeAllT l with
  | inl k => simp
  | inr ds => exact (takeAllT_ok htk).2.2.2.1
theorem TASays.uni {l : By} {w w' : World} {e : Ending} (h : TASays l w e w') : Ext w w' ∧ ∃ A c, e = .returned (.tuple #[.slice A (tadU l).1.length c, .int .i64 ((tadU l).2 : Nat)]) ∧ RsM RDd 10 [] w' A (tadU l).1 := by
  obtain ⟨hx, h⟩ := h
  refine ⟨hx, ?_⟩
  unfold tadU
  cases htk : takeAllT l with
  | inl k => rw [htk] at h; exact ⟨none, 0, h, RsM.nil _ _ _ _ _⟩
  | inr ds =>
    rw [htk] at h
    obtain ⟨v, rfl, ho⟩ := h
    obtain ⟨A, c, rfl⟩ := OwnG.form ho
    exact ⟨A, c, rfl, OwnDs.rsm ho (takeAllT_ok htk).2.1⟩
set_option maxRecDepth 20000 in
set_option maxHeartbeats 4000000 in
theorem DeedTakes_any (HCK : CheckLaw) (l : By) (B : Option Addr) (cb : Nat) (w : World) (hb : Bs w B l) (hlc : l.length ≤ cb) (hT : Tabs w) :
    Calls Tryd.prog 6 #[.slice B l.length cb] w (Yes w) := by
  have HT1 := TakeAll_any HCK B cb l w hb hlc
  have HT2 := fun W (hx : Ext w W) => RTakeAll_any B cb l W (hb.ext hx) hlc (hT.ext hx)
  have hlen := tadU_len l
  clear hb hT
  go_enter Tryd.func6, Tryd.ntmps6
  go_wp2_with fail
  refine HT1.mono ?_
  rintro e w1 hs1
  obtain ⟨hx1, A1, c1, rfl, hr1⟩ := hs1.uni
  have HR := HT2 w1 hx1
  clear HT1 HT2 hs1
  go_wp2_with fail
  refine HR.mono ?_
  rintro e w2 hs2
  obtain ⟨hx2, A2, c2, rfl, hr2⟩ := hs2.uni
  have hx02 := hx1.trans hx2
  have HS := fun W (hx : Ext w2 W) => DSameAll_any (tadU l).1 A1 A2 c1 c2 W (hr1.kept (.of_ext (hx2.trans hx))) (hr2.kept (.of_ext hx)) (by omega)
  clear HR hs2 hr1 hr2 hlen hx1 hx2
  generalize (tadU l).2 = k at *
  generalize (tadU l).1 = ds at *
  go_wp2_with fail
  refine (dlive_any HCK w2).mono ?_
  rintro e w3 ⟨rfl, hx3⟩
  have HS3 := HS w3 hx3
  have hx03 := hx02.trans hx3
  clear HS
  go_wp2_with fail
  refine HS3.mono ?_
  rintro e w4 ⟨rfl, hx4⟩
  have hx04 := hx03.trans hx4
  clear HS3
  go_wp2
  go_ret
  exact ⟨rfl, hx04⟩
end Go.Proofs.YtameamfaaenboaaDoor
