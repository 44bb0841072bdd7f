/- The walk of the log's Open, where there is none. Conditions: the hypotheses of each theorem. -/
import Derived.Test.YtklodimokhndoaaWb3
namespace Go.Proofs.Ytklodimokhndoaa
open Go.RowKit
theorem wopen_nil (a b : Int) (w : World) : Calls Try.prog 10 #[.pointer none, .int .i64 a, .int .i64 b] w fun e w' => e = .returned (.tuple #[.pointer none, .int .i64 1]) ∧ Ext w w' := by
  go_enter Try.func10, Try.ntmps10
  go_wp2
  go_ret2
  exact ⟨rfl, Ext.refl _⟩
/-- what is wrong with an opening -/
def openE (s : Dk) (a b : Int) : Int := if s.down = true then 7 else if a < 0 ∨ b < 4 ∨ 512 < b ∨ 512 < a then 2 else if a + b ≤ s.sure.length then 0 else 2
set_option maxRecDepth 20000 in
set_option maxHeartbeats 1000000 in
theorem wopen_bad {B : List Nat} {w : World} {p : Nat} {s : Dk} (hD : Disk B w p s) (hs : s.Ok) {n : Nat} (hf : s.Few n) (hn : n ≤ 100000) (a b : Int) (he : openE s a b ≠ 0) :
    Calls Try.prog 10 #[pt p, .int .i64 a, .int .i64 b] w fun e w' => e = .returned (.tuple #[.pointer none, .int .i64 (openE s a b)]) ∧ Ext w w' := by
  have HDN := Down_all hD
  have HE : Hid (openE s a b = if s.down = true then 7 else if a < 0 ∨ b < 4 ∨ 512 < b ∨ 512 < a then 2 else if a + b ≤ s.sure.length then 0 else 2) := Lib.hid rfl
  have HRD := fun W (hx : Ext w W) i => Read_any (hD.ext hx) hs hf (by omega) i
  have HNE := Lib.hid he
  have hz2 := hs.n2
  clear hD he hf hs
  unfold pt at *
  go_enter Try.func10, Try.ntmps10
  go_wp2_with fail
  refine HDN.mono ?_
  rintro e w1 ⟨rfl, hx1⟩
  clear HDN
  by_cases hd : s.down = true
  · rw [hd]
    have HV := Lib.hid (HE.out.trans (if_pos hd))
    clear HE hd HRD HNE
    go_wp2
    go_ret2
    exact ⟨by rw [HV.out]; rfl, hx1⟩
  · have hdf : s.down = false := by simpa using hd
    rw [if_neg hd] at HE
    clear hd
    rw [hdf]
    have HDF := Lib.hid hdf
    clear hdf
    by_cases h1 : a < 0
    · have HV := Lib.hid (HE.out.trans (if_pos (.inl h1)))
      clear HE HRD HNE
      go_wp2
      go_ret2
      exact ⟨by rw [HV.out]; rfl, hx1⟩
    · by_cases h2 : b < 4
      · have HV := Lib.hid (HE.out.trans (if_pos (.inr (.inl h2))))
        clear HE HRD HNE
        go_wp2
        go_ret2
        exact ⟨by rw [HV.out]; rfl, hx1⟩
      · by_cases h3 : 512 < b
        · have HV := Lib.hid (HE.out.trans (if_pos (.inr (.inr (.inl h3)))))
          clear HE HRD HNE
          go_wp2
          go_ret2
          exact ⟨by rw [HV.out]; rfl, hx1⟩
        · by_cases h4 : 512 < a
          · have HV := Lib.hid (HE.out.trans (if_pos (.inr (.inr (.inr h4)))))
            clear HE HRD HNE
            go_wp2
            go_ret2
            exact ⟨by rw [HV.out]; rfl, hx1⟩
          · rw [if_neg (by omega)] at HE
            have h5 : ¬ a + b ≤ s.sure.length := fun h => HNE.out (by rw [HE.out, if_pos h])
            have HV := Lib.hid (HE.out.trans (if_neg h5))
            have wr : wrongE s (a + b - 1) true = 2 := by
              unfold wrongE
              rw [if_neg (by simp [HDF.out]), if_neg (by omega)]
            have w1' : IntKind.i64.wrap (a + b) = a + b := wrapI _ (by omega) (by omega)
            have w2' : IntKind.i64.wrap (a + b - 1) = a + b - 1 := wrapI _ (by omega) (by omega)
            have HR := HRD w1 hx1 (a + b - 1)
            rw [wr] at HR
            clear HE HRD HNE wr
            go_wp2_with fail
            refine HR.mono ?_
            rintro e w2 ⟨A, c, rfl, -, hx2, -⟩
            go_wp2
            go_ret2
            exact ⟨by rw [HV.out]; rfl, hx1.trans hx2⟩
end Go.Proofs.Ytklodimokhndoaa
