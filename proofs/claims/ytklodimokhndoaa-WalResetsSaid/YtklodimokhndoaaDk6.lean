/- The walks of disk.Write where it does not write, of Read and Sure where they read nothing, and of Flush. Conditions: those of IsDk. -/
import Derived.Test.YtklodimokhndoaaChecked
import Derived.Test.YtklodimokhndoaaDk5
namespace Go.Proofs.Ytklodimokhndoaa
open Go.RowKit
section
variable {B : List Nat} {p g cap : Nat} {s : Dk} {v : Value}
theorem Write_no (w : World) (h : IsDk B w p s g cap v) (i : Int) (b : Value) (hn : wrongE s i true ≠ 0) : Calls Try.prog 51 #[pt p, .int .i64 i, b] w fun e w' => e = .returned (.int .i64 (wrongE s i true)) ∧ Ext w w' := by
  have HW := wrong_any w h i true
  generalize wrongE s i true = er at *
  have hb : (er != 0) = true := by simpa using hn
  clear h hn
  unfold pt at *
  go_enter Try.func51, Try.ntmps51
  go_wp2_with fail
  refine HW.mono ?_
  rintro e w1 ⟨rfl, hx⟩
  go_wp2
  go_ret
  exact ⟨rfl, hx⟩
theorem Write_long (w : World) (h : IsDk B w p s g cap v) (i : Int) (A : Option Addr) (n c : Nat) (h0 : wrongE s i true = 0) (hn : 64 < n) : Calls Try.prog 51 #[pt p, .int .i64 i, .slice A n c] w fun e w' => e = .returned (.int .i64 6) ∧ Ext w w' := by
  have HW := wrong_any w h i true
  rw [h0] at HW
  have hll : (64 : Int) < (n : Int) := by omega
  clear h hn h0
  unfold pt at *
  go_enter Try.func51, Try.ntmps51
  go_wp2_with fail
  refine HW.mono ?_
  rintro e w1 ⟨rfl, hx⟩
  go_wp2
  go_ret
  exact ⟨rfl, hx⟩
theorem Write_off (w : World) (h : IsDk B w p s g cap v) (hd : s.down = false) (hc : s.cut ≤ 9223372036854775807) (i : Int) (A : Option Addr) (n c : Nat) (h0 : wrongE s i true = 0) (hn : n ≤ 64) (hsp : (spent s).down = true) :
    Calls Try.prog 51 #[pt p, .int .i64 i, .slice A n c] w fun e w' => e = .returned (.int .i64 7) ∧ Kept [p] w w' ∧ IsDk B w' p (spent s) g cap v := by
  have HW := wrong_any w h i true
  have HS := fun W (hx : Ext w W) => spend_any W (h.ext hx) hd hc
  rw [h0] at HW
  rw [hsp] at HS
  have hll : ¬ (64 : Int) < (n : Int) := by omega
  clear h hn h0 hd hc hsp
  unfold pt at *
  go_enter Try.func51, Try.ntmps51
  go_wp2_with fail
  refine HW.mono ?_
  rintro e w1 ⟨rfl, hx⟩
  go_wp2_with fail
  refine (HS w1 hx).mono ?_
  rintro e w2 ⟨rfl, hk2, h2⟩
  have H2 := Lib.hid h2
  clear h2 HS
  go_wp2
  go_ret
  exact ⟨rfl, (Kept.of_ext hx).trans hk2, H2.out⟩
theorem Read_no (w : World) (h : IsDk B w p s g cap v) (i : Int) (hn : wrongE s i true ≠ 0) : Calls Try.prog 27 #[pt p, .int .i64 i] w fun e w' => e = .returned (.tuple #[.slice none 0 0, .int .i64 (wrongE s i true)]) ∧ Ext w w' := by
  have HW := wrong_any w h i true
  generalize wrongE s i true = er at *
  have hb : (er != 0) = true := by simpa using hn
  clear h hn
  unfold pt at *
  go_enter Try.func27, Try.ntmps27
  go_wp2_with fail
  refine HW.mono ?_
  rintro e w1 ⟨rfl, hx⟩
  go_wp2
  go_ret2
  exact ⟨rfl, hx⟩
theorem Flush_no (w : World) (h : IsDk B w p s g cap v) (hd : s.down = true) : Calls Try.prog 52 #[pt p] w fun e w' => e = .returned (.int .i64 7) ∧ Ext w w' := by
  have HW := wrong_any w h 0 true
  rw [show wrongE s 0 true = 7 by unfold wrongE; rw [if_pos ⟨rfl, hd⟩]] at HW
  clear h hd
  unfold pt at *
  go_enter Try.func52, Try.ntmps52
  go_wp2_with fail
  refine HW.mono ?_
  rintro e w1 ⟨rfl, hx⟩
  go_wp2
  go_ret
  exact ⟨rfl, hx⟩
theorem wrong_zero (hs : s.Ok) (hd : s.down = false) : wrongE s 0 true = 0 := by
  have := hs.n1
  unfold wrongE
  rw [if_neg (by simp [hd]), if_pos (by omega)]
theorem Flush_off (w : World) (h : IsDk B w p s g cap v) (hs : s.Ok) (hd : s.down = false) (hc : s.cut ≤ 9223372036854775807) (hsp : (spent s).down = true) :
    Calls Try.prog 52 #[pt p] w fun e w' => e = .returned (.int .i64 7) ∧ Kept [p] w w' ∧ IsDk B w' p (spent s) g cap v := by
  have HW := wrong_any w h 0 true
  have HS := fun W (hx : Ext w W) => spend_any W (h.ext hx) hd hc
  rw [wrong_zero hs hd] at HW
  rw [hsp] at HS
  clear h hd hc hsp hs
  unfold pt at *
  go_enter Try.func52, Try.ntmps52
  go_wp2_with fail
  refine HW.mono ?_
  rintro e w1 ⟨rfl, hx⟩
  go_wp2_with fail
  refine (HS w1 hx).mono ?_
  rintro e w2 ⟨rfl, hk2, h2⟩
  have H2 := Lib.hid h2
  clear h2 HS
  go_wp2
  go_ret
  exact ⟨rfl, (Kept.of_ext hx).trans hk2, H2.out⟩
end
end Go.Proofs.Ytklodimokhndoaa
