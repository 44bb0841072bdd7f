/- The walk of the law's live: it answers true. No condition. -/
import Derived.Test.YtbanjhfmddhndaaBag9
import Derived.Lib.SlBytesConst
namespace Go.Proofs.Ytbanjhfmddhndaa
open Go.RowKit
attribute [local go_sem] pt uv
set_option maxHeartbeats 1000000 in
theorem live_any (w : World) : Calls Try.prog 13 #[] w fun e w' => e = .returned (.bool true) ∧ Ext w w' := by
  have kc := fun (w : World) (C : Array Value) (n c : Nat) => Lib.run_convert_bytes_const (P := Try.prog) w 28 5 C n c Try.underlying28 Try.underlying5
  go_enter Try.func13, Try.ntmps13
  go_wp2_with fail
  refine (New_ok 2 _ (by omega) (by omega)).mono ?_
  rintro e w1 ⟨rfl, hx1, hb1⟩
  have hp1 : w.heap.size < w1.heap.size := (hb1 []).lt
  unfold pt
  go_wp2_with fail
  have hxa := (Ext.refl w1).alloc (.cells #[.int .u8 120] 5 (1, 2))
  have HA := Add_any w.heap.size ⟨1, 2, [120]⟩ (some ⟨w1.heap.size, 0, none⟩) 1 ⟨2, 0, []⟩ [w.heap.size] _ ((hb1 _).ext hxa) (one_lt (by have := hxa.size; omega)) (by simp) ⟨by simp, by simp, by simp, by simp⟩ (BsM.new w1 [120] _ rfl _ _ _ (one_lt hp1)).bs
  refine HA.mono ?_
  rintro e w2 ⟨rfl, hk2, hb2⟩
  have e2 : addE ⟨2, 0, []⟩ ⟨1, 2, [120]⟩ = 0 := by decide
  have e3 : addB ⟨2, 0, []⟩ ⟨1, 2, [120]⟩ = ⟨2, 0, [⟨1, 2, [120]⟩]⟩ := by rfl
  rw [e3] at hb2
  rw [e2]
  clear e2 e3 HA
  have hp2 : w.heap.size < w2.heap.size := hb2.lt
  have hx2 : Ext w w2 := (hx1.trans hxa).kept hk2 (one_ge (Nat.le_refl _))
  have hs : Small ⟨2, 0, [⟨1, 2, [120]⟩]⟩ := ⟨by simp, by simp, by simp, by simp⟩
  go_wp2_with fail
  refine (Take_any w.heap.size 0 true ⟨2, 0, [⟨1, 2, [120]⟩]⟩ [w.heap.size] w2 hb2 (one_lt hp2) (by simp) hs).mono ?_
  rintro e w3 ⟨A, c, rfl, ho, hk3, hb3⟩
  have e2 : takeE ⟨2, 0, [⟨1, 2, [120]⟩]⟩ 0 = 0 := by rfl
  have e3 : takeB ⟨2, 0, [⟨1, 2, [120]⟩]⟩ 0 true = ⟨2, 0, [⟨1, 2, [120]⟩]⟩ := by rfl
  have e4 : takeU ⟨2, 0, [⟨1, 2, [120]⟩]⟩ 0 = ⟨1, 2, [120]⟩ := by rfl
  rw [e3, e4] at hb3
  rw [e4] at ho
  rw [e2, e4]
  clear e2 e3 e4
  have hx3 : Ext w w3 := hx2.kept hk3 (one_ge (Nat.le_refl _))
  have s0 := run_str (P := Try.prog) Try.underlying28 Try.underlying5 Try.underlying9 ho.bs 1 c rfl
  go_wp2_with fail
  have hx3a := (Ext.refl w3).alloc (.cells #[.int .i64 1, .int .i64 2, .slice A 1 c] 30)
  refine (First_any w.heap.size 2 ⟨2, 0, [⟨1, 2, [120]⟩]⟩ _ _ (hb3.ext hx3a) (by simp)).mono ?_
  rintro e w4 ⟨he, hx4⟩
  have he' : e = .returned (.tuple #[.int .i64 0, .bool true]) := he
  subst he'
  clear he
  obtain ⟨r0, r1, r2, r3⟩ := rows3 (heap_alloc_new w3 (.cells #[.int .i64 1, .int .i64 2, .slice A 1 c] 30))
  have t0 := s0 _ (hx3a.trans hx4)
  go_wp2_with fail
  refine (Len_any w.heap.size ⟨2, 0, [⟨1, 2, [120]⟩]⟩ _ _ (hb3.ext (hx3a.trans hx4))).mono ?_
  rintro e w5 ⟨rfl, hx5⟩
  go_wp2_with fail
  go_ret
  exact ⟨by simp, hx3.trans (hx3a.trans (hx4.trans hx5))⟩
end Go.Proofs.Ytbanjhfmddhndaa
