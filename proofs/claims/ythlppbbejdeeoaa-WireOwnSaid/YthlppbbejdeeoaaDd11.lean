/- The walks of slices.Index and slices.Contains at api.Do, and of deed.Check's closure. Conditions: the hypotheses of each theorem. -/
import Derived.Test.YthlppbbejdeeoaaDd10
namespace Go.Proofs.Ythlppbbejdeeoaa
open Go.RowKit
def doV (ls : List Int) : List Value := ls.map (.int .i64 ·)
theorem doV_get {ls : List Int} {k : Nat} (h : k < ls.length) : (doV ls)[k]? = some (.int .i64 ls[k]) := by simp [doV, h]
theorem Index_any (ls : List Int) (v : Int) (A : Option Addr) (cap : Nat) (w : World) (h : Sl w A (doV ls)) (hl : ls.length ≤ 1000) :
    Calls Try.prog 62 #[.slice A ls.length cap, .int .i64 v] w fun e w' => (∃ i : Int, e = .returned (.int .i64 i) ∧ decide (0 ≤ i) = decide (v ∈ ls)) ∧ w = w' := by
  go_enter Try.func62, Try.ntmps62
  go_wp2
  go_loop [8] (fun i => ∃ k : Nat, k ≤ ls.length ∧ i = .int .i64 k ∧ v ∉ ls.take k) (fun i => ls.length - (intOf i).toNat)
  case atStart => exact ⟨0, by omega, rfl, by simp⟩
  case round =>
    obtain ⟨k, hk, rfl, hno⟩ := hrel
    by_cases hlt : k < ls.length
    · obtain ⟨ad, rfl, hc⟩ := Sl.now h (doV_get hlt)
      have hlt2 : (k : Int) < ls.length := by omega
      have HT := Lib.hid (List.take_succ_eq_append_getElem hlt)
      have HM : Hid (ls[k] ∈ ls) := Lib.hid (List.getElem_mem hlt)
      have HNO := Lib.hid hno
      clear hno
      generalize ls[k] = x at *
      by_cases hv : v = x
      · subst hv
        go_wp2
        go_ret
        exact ⟨⟨_, rfl, by simp [HM.out]⟩, rfl⟩
      · have hv2 : (v == x) = false := by simpa using hv
        have HV := Lib.hid hv
        clear hv
        go_wp2
        go_round
        case rel => exact ⟨k + 1, by omega, by go_num, by rw [HT.out]; simp [HNO.out, HV.out]⟩
        case measure => simp [intOf]; omega
    · have HNO : Hid (v ∉ ls) := Lib.hid (by rw [List.take_of_length_le (by omega)] at hno; exact hno)
      clear hno
      go_wp2
      go_ret
      exact ⟨⟨_, rfl, by simp [HNO.out]⟩, rfl⟩
theorem Contains_any (ls : List Int) (v : Int) (A : Option Addr) (cap : Nat) (w : World) (h : Sl w A (doV ls)) (hl : ls.length ≤ 1000) :
    Calls Try.prog 52 #[.slice A ls.length cap, .int .i64 v] w fun e w' => e = .returned (.bool (decide (v ∈ ls))) ∧ w = w' := by
  have HI := Index_any ls v A cap w h hl
  generalize decide (v ∈ ls) = b at *
  go_enter Try.func52, Try.ntmps52
  go_wp2_with fail
  refine HI.mono ?_
  rintro e w1 ⟨⟨i, rfl, hi⟩, rfl⟩
  have HB := Lib.hid hi
  clear hi HI
  go_wp2
  go_ret
  exact ⟨by rw [← HB.out]; rfl, rfl⟩
theorem call_Check1 (args : Array Value) (w : World) : (callFunc 51 args).run Try.prog w = .ok (.enter 51 args) w := by
  go_simp
theorem Check1_any (ls : List Int) (g : Nat) (o : Int) (A : Option Addr) (cap n : Nat) (w : World) (h : Sl w A (doV ls)) (hl : ls.length ≤ 1000) (hg : w.cell? ⟨g, 0, none⟩ = some (.int .i64 o)) (hn : n = ls.length) :
    Calls Try.prog 51 #[.slice A n cap, .pointer (some ⟨g, 0, none⟩)] w fun e w' => e = .returned (.bool (decide (o ∈ ls))) ∧ w = w' := by
  subst hn
  have HC := Contains_any ls o A cap w h hl
  generalize decide (o ∈ ls) = b at *
  go_enter Try.func51, Try.ntmps51
  go_wp2_with fail
  refine HC.mono ?_
  rintro e w1 ⟨rfl, rfl⟩
  go_wp2
  go_ret
  exact ⟨rfl, rfl⟩
end Go.Proofs.Ythlppbbejdeeoaa
