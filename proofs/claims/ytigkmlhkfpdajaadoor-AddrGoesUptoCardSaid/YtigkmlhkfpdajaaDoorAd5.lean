/- The walk of the law's live: it answers true. No condition. -/
import Derived.Test.YtigkmlhkfpdajaaDoorAd4
namespace Go.Proofs.YtigkmlhkfpdajaaDoor
open Go.RowKit
def bobIn : List UInt8 := [66, 111, 98, 46, 120, 64, 77, 97, 105, 108, 46, 69, 120, 97, 109, 112, 108, 101]
def bobL : List UInt8 := [66, 111, 98, 46, 120]
def bobD : List UInt8 := [109, 97, 105, 108, 46, 101, 120, 97, 109, 112, 108, 101]
theorem live_p1 : parseT bobIn = (bobL, bobD, 0, 0) := by decide +kernel
theorem live_p2 : parseT [97, 46, 46, 98, 64, 99] = ([], [], 2, 4) := by decide +kernel
theorem live_p3 : printT [97, 32, 98] [99] = ([34, 97, 32, 98, 34, 64, 99], 0) := by decide +kernel
theorem live_u : lowL bobL = [98, 111, 98, 46, 120] := by decide +kernel
theorem live_any (w : World) : Calls Tryd.prog 9 #[] w fun e w' => e = .returned (.bool true) ∧ Ext w w' := by
  have H1 := Parse_any (st bobIn) w (by decide)
  have H2 := fun w => Parse_any ⟨#[97, 46, 46, 98, 64, 99]⟩ w (by decide)
  have H3 := fun w => Print_any [97, 32, 98] [99] w (by decide) (by decide)
  have H4 := fun w => AUser_any bobL bobD w (by decide)
  unfold PSays at H1 H2
  unfold PrSays at H3
  rw [tl_st, live_p1] at H1
  rw [show tl ⟨#[97, 46, 46, 98, 64, 99]⟩ = [97, 46, 46, 98, 64, 99] from rfl, live_p2] at H2
  rw [live_p3] at H3
  rw [live_u] at H4
  dsimp only at H1 H2 H3
  go_enter Tryd.func9, Tryd.ntmps9
  go_wp2_with fail
  refine H1.mono ?_
  rintro e w1 ⟨rfl, hx1⟩
  go_wp2_with (first | (with_reducible refine stop_alloc 23 ?_) | (with_reducible refine stop_store 23 ?_) | (with_reducible refine stop_load 23 ?_))
  refine go_on (wpList_alloc_ rfl rfl addr_info ?_)
  go_wp2_with (first | (with_reducible refine stop_alloc 23 ?_) | (with_reducible refine stop_store 23 ?_) | (with_reducible refine stop_load 23 ?_))
  refine go_on (wpList_store_whole rfl rfl rfl rfl (heap_alloc_new w1 _) (by kernel_rfl) rfl (by simp [Value.oneCell']) ?_)
  intro w2 hrow hk2 hz2
  have hx2 : Ext w w2 := (hx1.alloc _).kept hk2 (one_ge hx1.size)
  have HR := Lib.hid hrow
  clear hrow hk2 hz2 H1
  generalize w1.heap.size = g1 at *
  go_wp2_with (first | fail | (with_reducible refine stop_alloc 23 ?_))
  refine (H2 _).mono ?_
  rintro e w3 ⟨rfl, hx3⟩
  go_wp2_with (first | (with_reducible refine stop_alloc 23 ?_) | (with_reducible refine stop_store 23 ?_) | (with_reducible refine stop_load 23 ?_))
  refine go_on (wpList_alloc_ rfl rfl addr_info ?_)
  go_wp2_with (first | (with_reducible refine stop_alloc 23 ?_) | (with_reducible refine stop_store 23 ?_) | (with_reducible refine stop_load 23 ?_))
  refine go_on (wpList_store_whole rfl rfl rfl rfl (heap_alloc_new w3 _) (by kernel_rfl) rfl (by simp [Value.oneCell']) ?_)
  intro w4 hrow4 hk4 hz4
  have hx4 : Ext w2 w4 := (hx3.alloc _).kept hk4 (one_ge hx3.size)
  clear hrow4 hk4 hz4 H2
  generalize w3.heap.size = g3 at *
  go_wp2_with fail
  refine (H3 _).mono ?_
  rintro e w5 ⟨rfl, hx5⟩
  have hx25 := hx4.trans hx5
  have HR5 := Lib.hid (hx25.obj HR.out)
  have hxa := hx2.trans hx25
  clear hx5 hx4 hx3 hx1 hx2 hx25 HR H3
  go_wp2_with (first | (with_reducible refine stop_alloc 23 ?_) | (with_reducible refine stop_store 23 ?_) | (with_reducible refine stop_load 23 ?_))
  refine go_on (wpList_load_row rfl 23 _ rfl g1 rfl 23 _ (0, 0) _ HR5.out Tryd.underlying23 rfl (by kernel_rfl) ?_)
  go_wp2_with (first | (with_reducible refine stop_alloc 23 ?_) | (with_reducible refine stop_store 23 ?_) | (with_reducible refine stop_load 23 ?_))
  refine go_on (wpList_load_rowG rfl 23 _ rfl g1 rfl 23 _ (0, 0) _ HR5.out Tryd.underlying23 rfl (by kernel_rfl) ?_)
  go_wp2_with fail
  refine (H4 _).mono ?_
  rintro e w6 ⟨rfl, hx6⟩
  go_wp2
  go_ret
  exact ⟨by first | rfl | decide, hxa.trans hx6⟩
end Go.Proofs.YtigkmlhkfpdajaaDoor
