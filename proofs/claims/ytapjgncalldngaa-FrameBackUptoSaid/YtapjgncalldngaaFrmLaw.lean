/- The walks of the laws FrameSums, FramePacks, FrameOnes, FrameScans: each answers true and turns nothing that was there. Conditions: the lengths named in each theorem. -/
import Derived.Test.YtapjgncalldngaaLive
namespace Go.Proofs.Ytapjgncalldngaa
open Go.RowKit
set_option maxHeartbeats 400000 in
theorem sums_any (A : Option Addr) (cap n : Nat) (l : List UInt8) (w : World) (h : Bs w A l) (hl : n = l.length) (hb : l.length ≤ 140737488355328) : Calls Try.prog 3 #[.slice A n cap] w (Yes w) := by
  subst hl
  go_enter Try.func3, Try.ntmps3
  go_wp2_with fail
  refine (live_any w).mono ?_
  rintro e w1 ⟨rfl, hx1⟩
  go_wp2_with fail
  refine (Sum_any A cap _ l w1 (h.ext hx1) hb rfl).mono ?_
  rintro e w2 ⟨rfl, hx2⟩
  go_wp2_with fail
  refine (RSum_any A cap _ l w2 (h.ext (hx1.trans hx2)) hb rfl).mono ?_
  rintro e w3 ⟨rfl, rfl⟩
  go_wp2
  go_ret
  exact Yes.mk' rfl (hx1.trans hx2)
def packE (l : List UInt8) : Int := if l.length = 0 then 2 else if 2000 < l.length then 6 else 0
def packO (l : List UInt8) : List UInt8 := if l.length = 0 then [] else if 2000 < l.length then [] else packL l
/-- the two Packs tell the same: what both say -/
def PackSays (l : List UInt8) (w : World) (e : Ending) (w' : World) : Prop :=
  ∃ v, e = .returned (.tuple #[v, .int .i64 (packE l)]) ∧ Own w' w.heap.size v (packO l) ∧ Ext w w'
theorem Pack_any (A : Option Addr) (cap n : Nat) (l : List UInt8) (w : World) (h : Bs w A l) (hl : n = l.length) : Calls Try.prog 12 #[.slice A n cap] w (PackSays l w) := by
  unfold PackSays packE packO
  by_cases h1 : l.length = 0
  · rw [if_pos h1, if_pos h1]
    exact (Pack_arg A cap n l w hl h1).mono fun e w' ⟨he, hw⟩ => ⟨_, he, Own.nil _ _, hw ▸ Ext.refl _⟩
  · rw [if_neg h1, if_neg h1]
    by_cases h2 : 2000 < l.length
    · rw [if_pos h2, if_pos h2]
      exact (Pack_limit A cap n l w hl h2).mono fun e w' ⟨he, hw⟩ => ⟨_, he, Own.nil _ _, hw ▸ Ext.refl _⟩
    · rw [if_neg h2, if_neg h2]
      exact Pack_ok A cap n l w h hl (by omega) (by omega)
theorem RPack_any (A : Option Addr) (cap n : Nat) (l : List UInt8) (w : World) (h : Bs w A l) (hl : n = l.length) : Calls Try.prog 13 #[.slice A n cap] w (PackSays l w) := by
  unfold PackSays packE packO
  by_cases h1 : l.length = 0
  · rw [if_pos h1, if_pos h1]
    exact (RPack_arg A cap n l w hl h1).mono fun e w' ⟨he, hw⟩ => ⟨_, he, Own.nil _ _, hw ▸ Ext.refl _⟩
  · rw [if_neg h1, if_neg h1]
    by_cases h2 : 2000 < l.length
    · rw [if_pos h2, if_pos h2]
      exact (RPack_limit A cap n l w hl h2).mono fun e w' ⟨he, hw⟩ => ⟨_, he, Own.nil _ _, hw ▸ Ext.refl _⟩
    · rw [if_neg h2, if_neg h2]
      exact RPack_ok A cap n l w h hl (by omega) (by omega)
set_option maxHeartbeats 400000 in
theorem packs_any (A : Option Addr) (cap n : Nat) (l : List UInt8) (w : World) (h : Bs w A l) (hl : n = l.length) : Calls Try.prog 4 #[.slice A n cap] w (Yes w) := by
  subst hl
  go_enter Try.func4, Try.ntmps4
  go_wp2_with fail
  refine (Pack_any A cap _ l w h rfl).mono ?_
  rintro e w1 ⟨v1, rfl, ho1, hx1⟩
  obtain ⟨A1, c1, rfl⟩ := ho1.form
  go_wp2_with fail
  refine (RPack_any A cap _ l w1 (h.ext hx1) rfl).mono ?_
  rintro e w2 ⟨v2, rfl, ho2, hx2⟩
  obtain ⟨A2, c2, rfl⟩ := ho2.form
  go_wp2_with fail
  refine (live_any w2).mono ?_
  rintro e w3 ⟨rfl, hx3⟩
  have s1 := run_str (P := Try.prog) Try.underlying22 Try.underlying5 Try.underlying9 (ho1.bs.ext (hx2.trans hx3)) _ c1 rfl
  have s2 := run_str (P := Try.prog) Try.underlying22 Try.underlying5 Try.underlying9 (ho2.bs.ext hx3) _ c2 rfl
  go_wp2
  go_ret
  exact Yes.mk' (by simp) (hx1.trans (hx2.trans hx3))
set_option maxHeartbeats 400000 in
theorem ones_any (A : Option Addr) (cap n : Nat) (l : List UInt8) (at_ : Int) (w : World) (h : Bs w A l) (hl : n = l.length) (hc : l.length ≤ cap) (hm : cap ≤ 9223372036854775807) (hb : l.length ≤ 140737488355328) :
    Calls Try.prog 5 #[.slice A n cap, .int .i64 at_] w (Yes w) := by
  subst hl
  go_enter Try.func5, Try.ntmps5
  go_wp2_with fail
  refine (One_any A cap _ l at_ w h rfl hc hm).mono ?_
  rintro e w1 ⟨v1, rfl, ho1, hx1⟩
  obtain ⟨A1, c1, rfl⟩ := ho1.form
  go_wp2_with fail
  refine (ROne_any A cap _ l at_ w1 (h.ext hx1) rfl hc hb).mono ?_
  rintro e w2 ⟨v2, rfl, ho2, hx2⟩
  obtain ⟨A2, c2, rfl⟩ := ho2.form
  go_wp2_with fail
  refine (live_any w2).mono ?_
  rintro e w3 ⟨rfl, hx3⟩
  have s1 := run_str (P := Try.prog) Try.underlying22 Try.underlying5 Try.underlying9 (ho1.bs.ext (hx2.trans hx3)) _ c1 rfl
  have s2 := run_str (P := Try.prog) Try.underlying22 Try.underlying5 Try.underlying9 (ho2.bs.ext hx3) _ c2 rfl
  go_wp2
  go_ret
  exact Yes.mk' (by simp) (hx1.trans (hx2.trans hx3))
set_option maxHeartbeats 400000 in
theorem scans_any (A : Option Addr) (cap n : Nat) (l : List UInt8) (w : World) (h : Bs w A l) (hl : n = l.length) (hc : l.length ≤ cap) (hm : cap ≤ 9223372036854775807) (hb : l.length ≤ 4398046511104) :
    Calls Try.prog 7 #[.slice A n cap] w (Yes w) := by
  subst hl
  go_enter Try.func7, Try.ntmps7
  go_wp2_with fail
  refine (Scan_any A cap _ l w h rfl hc hm hb).mono ?_
  rintro e w1 ⟨v1, rfl, ho1, hx1⟩
  obtain ⟨A1, c1, rfl⟩ := ho1.form
  go_wp2_with fail
  refine (RScan_any A cap _ l w1 (h.ext hx1) rfl hc hb).mono ?_
  rintro e w2 ⟨v2, rfl, ho2, hx2⟩
  obtain ⟨A2, c2, rfl⟩ := ho2.form
  go_wp2_with fail
  refine (live_any w2).mono ?_
  rintro e w3 ⟨rfl, hx3⟩
  have hlen : (scanL l).1.length ≤ 9223372036854775807 := by have := ho1.cap; omega
  go_wp2_with fail
  refine (RSame_any A1 A2 c1 c2 _ _ _ _ w3 (ho1.ext (hx2.trans hx3)).bss (ho2.ext hx3).bss rfl rfl hlen).mono ?_
  rintro e w4 ⟨rfl, hx4⟩
  have hd := Lib.hid (show decide ((scanL l).1 = (scanL l).1) = true from decide_eq_true rfl)
  rw [hd.out]
  go_wp2
  go_ret
  exact Yes.mk' (by simp) (hx1.trans (hx2.trans (hx3.trans hx4)))
end Go.Proofs.Ytapjgncalldngaa
