/- The walk of bag.Add. Conditions: those of IsBag; the bag's own block is older than the call. -/
import Derived.Test.YtbanjhfmddhndaaChecked
import Derived.Test.YtbanjhfmddhndaaBag5
namespace Go.Proofs.Ytbanjhfmddhndaa
open Go.RowKit
def addOk (u : U) : Prop := (0 ≤ u.from_ ∧ u.from_ < 8) ∧ (0 ≤ u.to_ ∧ u.to_ < 8) ∧ u.by_.length ≠ 0 ∧ u.by_.length ≤ 2006
def uv (u : U) (A : Option Addr) (cap : Nat) : Value := .agg #[.int .i64 u.from_, .int .i64 u.to_, .slice A u.by_.length cap]
theorem Add_arg (p : Nat) (u : U) (A : Option Addr) (cap : Nat) (w : World) (h : ¬ addOk u) :
    Calls Try.prog 10 #[pt p, uv u A cap] w fun e w' => e = .returned (.int .i64 2) ∧ Ext w w' := by
  unfold addOk at h
  have HN := fun n w => node_any n w
  have hx0 := (Ext.refl w).alloc (.cells #[.int .i64 u.from_, .int .i64 u.to_, .slice A u.by_.length cap] 30)
  unfold pt uv
  by_cases c1 : 0 ≤ u.from_ ∧ u.from_ < 8
  · have H1 := HN u.from_
    simp only [decide_eq_true c1] at H1
    by_cases c2 : 0 ≤ u.to_ ∧ u.to_ < 8
    · have H2 := HN u.to_
      simp only [decide_eq_true c2] at H2
      by_cases c3 : u.by_.length = 0
      · have d3 : ((u.by_.length : Int) == 0) = true := by simp [c3]
        have HH := Lib.hid h
        clear h c3 c1 c2
        go_enter Try.func10, Try.ntmps10
        go_wp2_with fail
        refine (H1 _).mono ?_
        rintro e w1 ⟨rfl, rfl⟩
        go_wp2_with fail
        refine (H2 _).mono ?_
        rintro e w1 ⟨rfl, rfl⟩
        go_wp2
        go_ret
        exact ⟨rfl, hx0⟩
      · have d3 : ((u.by_.length : Int) == 0) = false := by simp; exact fun e => c3 (by rw [e]; rfl)
        have d4 : (2006 : Int) < (u.by_.length : Int) := by
          have : ¬ u.by_.length ≤ 2006 := fun hh => h ⟨c1, c2, c3, hh⟩
          omega
        clear h c1 c2 c3
        go_enter Try.func10, Try.ntmps10
        go_wp2_with fail
        refine (H1 _).mono ?_
        rintro e w1 ⟨rfl, rfl⟩
        go_wp2_with fail
        refine (H2 _).mono ?_
        rintro e w1 ⟨rfl, rfl⟩
        go_wp2
        go_ret
        exact ⟨rfl, hx0⟩
    · have H2 := HN u.to_
      simp only [decide_eq_false c2] at H2
      clear h c1 c2
      go_enter Try.func10, Try.ntmps10
      go_wp2_with fail
      refine (H1 _).mono ?_
      rintro e w1 ⟨rfl, rfl⟩
      go_wp2_with fail
      refine (H2 _).mono ?_
      rintro e w1 ⟨rfl, rfl⟩
      go_wp2
      go_ret
      exact ⟨rfl, hx0⟩
  · have H1 := HN u.from_
    simp only [decide_eq_false c1] at H1
    clear h c1
    go_enter Try.func10, Try.ntmps10
    go_wp2_with fail
    refine (H1 _).mono ?_
    rintro e w1 ⟨rfl, rfl⟩
    go_wp2
    go_ret
    exact ⟨rfl, hx0⟩
end Go.Proofs.Ytbanjhfmddhndaa
