/- The walk of the law's live. It answers true. -/
import Derived.Test.YtcnikfmcefnmoaaChecked
import Derived.Lib.SlBytesConst
import Derived.Test.YtcnikfmcefnmoaaDk9
namespace Go.Proofs.Ytcnikfmcefnmoaa
open Go.RowKit
attribute [local go_sem] pt
theorem Disk.ext {B : List Nat} {w w' : World} {p : Nat} {s : Dk} (h : Disk B w p s) (hx : Ext w w') : Disk B w' p s := by
  obtain ⟨g, cap, v, h⟩ := h
  exact ⟨g, cap, v, h.ext hx⟩
theorem Disk.lt {B : List Nat} {w : World} {p : Nat} {s : Dk} (h : Disk B w p s) : ∀ k ∈ B, k < w.heap.size := by
  obtain ⟨g, cap, v, h⟩ := h
  exact h.lt
theorem Down_all {B : List Nat} {w : World} {p : Nat} {s : Dk} (h : Disk B w p s) : Calls Try.prog 16 #[pt p] w fun e w' => e = .returned (.bool s.down) ∧ Ext w w' := by
  obtain ⟨g, cap, v, h⟩ := h
  exact Down_any w h
theorem Age_all {B : List Nat} {w : World} {p : Nat} {s : Dk} (h : Disk B w p s) : Calls Try.prog 23 #[pt p] w fun e w' => e = .returned (.int .i64 s.age) ∧ Ext w w' := by
  obtain ⟨g, cap, v, h⟩ := h
  exact Age_any w h
theorem Waits_all {B : List Nat} {w : World} {p : Nat} {s : Dk} (h : Disk B w p s) : Calls Try.prog 17 #[pt p] w fun e w' => e = .returned (.int .i64 s.waits.length) ∧ Ext w w' := by
  obtain ⟨g, cap, v, h⟩ := h
  exact Waits_any w h
theorem newD_few (n : Nat) : (newD n).Few 0 := ⟨by simp [newD], by simp [newD], by simp [newD]⟩
def lv1 : Dk := writeS (newD 2) 0 [97]
def lv2 : Dk := flushS lv1
def lv3 : Dk := writeS lv2 0 [98]
def lvC : Cr := ⟨[], -1, 0⟩
def lv4 : Dk := crashed lv3 lvC
theorem lv_facts : writeE (newD 2) 0 [97] = 0 ∧ lv1.waits.length = 1 ∧ flushE lv1 = 0 ∧ writeE lv2 0 [98] = 0 ∧ wrongE lv4 0 true = 0 ∧ readL lv4 0 = padL [97] ∧ lv4.age = 1 := by decide +kernel
theorem lv_ok : lv1.Ok ∧ lv2.Ok ∧ lv3.Ok ∧ lv4.Ok := by
  have h1 : lv1.Ok := writeS_ok (newD_ok (by omega) (by omega)) _ _
  have h2 : lv2.Ok := flushS_ok h1
  have h3 : lv3.Ok := writeS_ok h2 _ _
  exact ⟨h1, h2, h3, crashed_ok h3 _⟩
theorem lv_few : lv1.Few 1 ∧ lv2.Few 2 ∧ lv3.Few 3 ∧ lv4.Few 4 := by
  have h1 : lv1.Few 1 := writeS_few (newD_few 2) _ _
  have h2 : lv2.Few 2 := flushS_few h1
  have h3 : lv3.Few 3 := writeS_few h2 _ _
  exact ⟨h1, h2, h3, crashed_few h3 _⟩
set_option maxHeartbeats 1000000 in
theorem live_any (w : World) : Calls Try.prog 9 #[] w fun e w' => e = .returned (.bool true) ∧ Ext w w' := by
  obtain ⟨f1, f2, f3, f4, f5, f6, f7⟩ := lv_facts
  obtain ⟨k1, k2, k3, k4⟩ := lv_ok
  obtain ⟨m1, m2, m3, m4⟩ := lv_few
  have kc := fun (w : World) (C : Array Value) (n c : Nat) => Lib.run_convert_bytes_const (P := Try.prog) w 22 5 C n c Try.underlying22 Try.underlying5
  go_enter Try.func9, Try.ntmps9
  go_wp2_with fail
  refine (New_ok 2 _ (by omega) (by omega)).mono ?_
  rintro e w1 ⟨p, B1, rfl, hx1, hd1, hB1⟩
  go_wp2_with fail
  have hxa := (Ext.refl w1).alloc (.cells #[.int .u8 97] 5 (1, 2))
  refine (Write_any (hd1.ext hxa) (newD_ok (by omega) (by omega)) (newD_few 2) (by omega) 0 _ 1 [97] (BsM.new w1 [97] _ rfl 5 (1, 2) B1 hd1.lt)).mono ?_
  rintro e w2 ⟨B2, rfl, hd2, ht2⟩
  obtain ⟨hx2, hB2⟩ := ht2.to_ext (hx1.trans hxa) hB1
  have hd2 : Disk B2 w2 p lv1 := hd2
  rw [f1]
  clear ht2 hd1 hx1 hxa f1
  go_wp2_with fail
  refine (Waits_all hd2).mono ?_
  rintro e w3 ⟨rfl, hx3⟩
  rw [f2]
  go_wp2_with fail
  refine (Flush_any (hd2.ext hx3) k1 m1 (by omega)).mono ?_
  rintro e w4 ⟨rfl, hd4, ht4⟩
  obtain ⟨hx4, hB4⟩ := ht4.to_ext (hx2.trans hx3) hB2
  have hd4 : Disk B2 w4 p lv2 := hd4
  rw [f3]
  clear ht4 hd2 hx2 hx3 f2 f3
  go_wp2_with fail
  have hxa := (Ext.refl w4).alloc (.cells #[.int .u8 98] 5 (1, 2))
  refine (Write_any (hd4.ext hxa) k2 m2 (by omega) 0 _ 1 [98] (BsM.new w4 [98] _ rfl 5 (1, 2) B2 hd4.lt)).mono ?_
  rintro e w5 ⟨B5, rfl, hd5, ht5⟩
  obtain ⟨hx5, hB5⟩ := ht5.to_ext (hx4.trans hxa) hB4
  have hd5 : Disk B5 w5 p lv3 := hd5
  rw [f4]
  clear ht5 hd4 hx4 hxa f4
  go_wp2_with fail
  refine (Crash_all hd5 k3 m3 (by omega) lvC none 0 (SlM.nil _ _ _) (by simp [lvC])).mono ?_
  rintro e w6 ⟨rfl, hd6, ht6⟩
  obtain ⟨hx6, hB6⟩ := ht6.to_ext hx5 hB5
  have hd6 : Disk B5 w6 p lv4 := hd6
  clear ht6 hd5 hx5
  go_wp2_with fail
  refine (Read_any hd6 k4 m4 (by omega) 0).mono ?_
  rintro e w7 ⟨A, c, rfl, hf7, hx7, hc7, -⟩
  rw [f5, f6]
  rw [f6] at hf7 hc7
  have hl : (padL [97]).length = 64 := by decide
  rcases hf7 with ⟨rfl, h0⟩ | ⟨g, rfl, h1, h2, h3⟩
  · rw [h0] at hl; cases hl
  · have hc0 : w7.cell? ⟨g, 0, none⟩ = some (.int .u8 97) := by rw [cell_of_row w7 g 0 _ _ _ h3]; rfl
    rw [hl]
    rw [hl] at hc7
    clear h1 h2 h3 hl
    go_wp2_with fail
    refine (Age_all (hd6.ext hx7)).mono ?_
    rintro e w8 ⟨rfl, hx8⟩
    rw [f7]
    go_wp2
    go_ret
    exact ⟨rfl, (hx6.trans hx7).trans hx8⟩
end Go.Proofs.Ytcnikfmcefnmoaa
