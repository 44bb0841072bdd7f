/- The walks of the log's Force, Left, Room. Conditions: the hypotheses of each theorem. -/
import Derived.Test.YtklodimokhndoaaWb0
namespace Go.Proofs.Ytklodimokhndoaa
open Go.RowKit
def forceE (s : Dk) (g : Lg) : Int := if g.age ≠ s.age then 12 else flushE s
def forceS (s : Dk) (g : Lg) : Dk := if g.age ≠ s.age then s else flushS s
theorem wforce_nil (w : World) : Calls Try.prog 21 #[.pointer none] w fun e w' => e = .returned (.int .i64 1) ∧ Ext w w' := by
  go_enter Try.func21, Try.ntmps21
  go_wp2
  go_ret
  exact ⟨rfl, Ext.refl _⟩
set_option maxHeartbeats 1000000 in
theorem wforce_any {B : List Nat} {w : World} {q p : Nat} {g : Lg} {A : Option Addr} {c : Nat} {v : Value} {s : Dk} {n : Nat} (h : LgRow w q p g A c v) (hD : Disk B w p s) (hs : s.Ok) (hf : s.Few n) (hn : n ≤ 100000) :
    Calls Try.prog 21 #[pt q] w fun e w' => e = .returned (.int .i64 (forceE s g)) ∧ Disk B w' p (forceS s g) ∧ Turn B w B w' := by
  obtain ⟨c0, c1, -⟩ := h.cell
  have HAG := fun W (hx : Ext w W) => Age_all (hD.ext hx)
  have HFL := fun W (hx : Ext w W) => Flush_any (hD.ext hx) hs hf (by omega)
  have HG : Hid (forceE s g = if g.age ≠ s.age then 12 else flushE s) := Lib.hid rfl
  have HS : Hid (forceS s g = if g.age ≠ s.age then s else flushS s) := Lib.hid rfl
  have HD := Lib.hid hD
  clear h hD
  generalize s.age = sa at *
  generalize g.age = ga at *
  have hxd : Ext w w.drew := (Ext.refl _).drew
  unfold pt at *
  go_enter Try.func21, Try.ntmps21
  by_cases h1 : ga ≠ sa
  · have d1 : ((ga : Int) != (sa : Int)) = true := by simp; omega
    have HV := Lib.hid (HG.out.trans (if_pos h1))
    have HVS := Lib.hid (HS.out.trans (if_pos h1))
    clear HG h1 HFL
    go_wp2_with fail
    go_region_held3 (fun W => Ext w W) (first | exact hxd | assumption) ((first
      | (go_at_call 28; refine (HAG _ (by first | assumption | exact hxd)).mono ?_; rintro e w3 ⟨rfl, hx3'⟩; have hx3 : Ext w w3 := Ext.trans (by first | assumption | exact hxd) hx3'; clear hx3')))
    all_goals
      go_wp2
      go_ret
      exact ⟨by rw [HV.out]; rfl, by rw [HVS.out]; exact HD.out.ext hx3, .of_ext hx3⟩
  · have d1 : ((ga : Int) != (sa : Int)) = false := by simp; omega
    have HV := Lib.hid (HG.out.trans (if_neg h1))
    have HVS := Lib.hid (HS.out.trans (if_neg h1))
    clear h1 HG
    go_wp2_with fail
    go_region_held3 (fun W => Ext w W) (first | exact hxd | assumption) ((first
      | (go_at_call 28; refine (HAG _ (by first | assumption | exact hxd)).mono ?_; rintro e w3 ⟨rfl, hx3'⟩; have hx3 : Ext w w3 := Ext.trans (by first | assumption | exact hxd) hx3'; clear hx3')))
    all_goals
      clear HAG
      go_wp2_with fail
      refine (HFL _ hx3).mono ?_
      rintro e w4 ⟨rfl, hd4, ht4⟩
      clear HFL
      go_wp2
      go_ret
      exact ⟨by rw [HV.out]; rfl, by rw [HVS.out]; exact hd4, (Turn.of_ext hx3).trans ht4⟩
theorem wleft_nil (w : World) : Calls Try.prog 24 #[.pointer none] w fun e w' => e = .returned (.int .i64 0) ∧ Ext w w' := by
  go_enter Try.func24, Try.ntmps24
  go_wp2
  go_ret
  exact ⟨rfl, Ext.refl _⟩
theorem wRoom_nil (w : World) : Calls Try.prog 13 #[.pointer none] w fun e w' => e = .returned (.int .i64 0) ∧ Ext w w' := by
  go_enter Try.func13, Try.ntmps13
  go_wp2
  go_ret
  exact ⟨rfl, Ext.refl _⟩
/-- how many bytes a record may have: behind L bytes of a space of N -/
def roomF (L N : Nat) : Nat := min (N - skipF L - 3 * ((N - skipF L + 63) / 64)) 2000
set_option maxHeartbeats 1000000 in
theorem wRoom_any {w : World} {q p : Nat} {g : Lg} {A : Option Addr} {c : Nat} {v : Value} (h : LgRow w q p g A c v) (h1 : 1 ≤ g.size) (h2 : g.size ≤ 256) (hl : skipF g.space.length ≤ (g.size - 1) * 64) :
    Calls Try.prog 13 #[pt q] w fun e w' => e = .returned (.int .i64 (roomF g.space.length ((g.size - 1) * 64) : Nat)) ∧ Ext w w' := by
  have HR := wroom_any h h1 h2
  have hge := skipF_ge g.space.length
  have HK := wskip_any g.space.length w (by omega)
  obtain ⟨-, -, -, -, -, -, c6, -⟩ := h.cell
  have c6 := c6 w (Ext.refl _)
  have HRM : Hid (roomF g.space.length ((g.size - 1) * 64) = min ((g.size - 1) * 64 - skipF g.space.length - 3 * (((g.size - 1) * 64 - skipF g.space.length + 63) / 64)) 2000) := Lib.hid rfl
  clear h
  generalize hN : (g.size - 1) * 64 = N at *
  generalize skipF g.space.length = a at *
  have hN2 : N ≤ 20000 := by omega
  clear hN
  have w1 : IntKind.i64.wrap ((N : Int) - (a : Int)) = ((N - a : Nat) : Int) := by rw [wrapI _ (by omega) (by omega)]; omega
  have w2 : IntKind.i64.wrap (((N - a : Nat) : Int) + 64) = ((N - a + 64 : Nat) : Int) := by rw [wrapI _ (by omega) (by omega)]; omega
  have w3 : IntKind.i64.wrap (((N - a + 64 : Nat) : Int) - 1) = ((N - a + 63 : Nat) : Int) := by rw [wrapI _ (by omega) (by omega)]; omega
  have w4 : ((N - a + 63 : Nat) : Int) / 64 = (((N - a + 63) / 64 : Nat) : Int) := by omega
  generalize hpp : (N - a + 63) / 64 = pp at *
  have hpb : pp ≤ 20000 := by omega
  have w5 : IntKind.i64.wrap (3 * (pp : Int)) = 3 * (pp : Int) := wrapI _ (by omega) (by omega)
  have w6 : IntKind.i64.wrap (((N - a : Nat) : Int) - 3 * (pp : Int)) = ((N - a : Nat) : Int) - 3 * (pp : Int) := wrapI _ (by omega) (by omega)
  clear hpp
  generalize hd : N - a = d at *
  generalize d + 64 = d4 at *
  generalize d + 63 = d3 at *
  unfold pt at *
  go_enter Try.func13, Try.ntmps13
  go_wp2_with fail
  refine HK.mono ?_
  rintro e w' ⟨rfl, rfl⟩
  clear HK
  go_wp2_with fail
  refine HR.mono ?_
  rintro e w' ⟨rfl, rfl⟩
  go_wp2_with fail
  refine HR.mono ?_
  rintro e w' ⟨rfl, rfl⟩
  clear HR
  go_wp2
  go_ret
  refine ⟨?_, Ext.refl _⟩
  rw [HRM.out]
  exact ret_int (by omega)
end Go.Proofs.Ytklodimokhndoaa
