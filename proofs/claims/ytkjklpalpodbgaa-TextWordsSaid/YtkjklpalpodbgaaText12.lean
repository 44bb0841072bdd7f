/- The walk of TextWords: it answers true. Condition: the length named in the theorem. -/
import Derived.Test.YtkjklpalpodbgaaText11
namespace Go.Proofs.Ytkjklpalpodbgaa
open Go.RowKit
theorem word_cases (l : List UInt8) : ((wordL l).1 ++ [32] ++ (wordL l).2 = l) ∨ ((wordL l).1 = l ∧ (wordL l).2 = []) := by
  unfold wordL
  induction l with
  | nil => right; simp
  | cons c l ih =>
    by_cases hc : c = 32
    · left; subst hc; simp
    · simp only [List.takeWhile_cons, List.dropWhile_cons, show (c != 32) = true from by simpa using hc, if_true]
      rcases ih with ih | ⟨h1, h2⟩
      · left; simpa using ih
      · right; exact ⟨by simpa using h1, h2⟩
theorem word_len (l : List UInt8) : (wordL l).1.length + (wordL l).2.length ≤ l.length := by
  rcases word_cases l with h | ⟨h1, h2⟩
  · have := congrArg List.length h
    simp at this
    omega
  · rw [h1, h2]; simp
theorem TextWords_l (l : List UInt8) (w : World) (ha : l.length ≤ 140737488351232) : Calls Try.prog 7 #[.string (st l)] w fun e w' => e = .returned (.bool true) ∧ Ext w w' := by
  have hW1 := fun wz => Word_any (st l) wz (by rw [st_size]; omega)
  have hW2 := fun wz => RWord_any (st l) wz (by rw [st_size]; omega)
  rw [tl_st] at hW1 hW2
  have hlen := word_len l
  have hcs := word_cases l
  unfold WordSays at hW1 hW2
  generalize (wordL l).1 = A at *
  generalize (wordL l).2 = B at *
  have hc1 : ¬ 9223372036854775807 < A.length + 1 := by omega
  have hc2 : ¬ 9223372036854775807 < A.length + 1 + B.length := by omega
  have HCS := Lib.hid hcs
  have HLEN := Lib.hid hlen
  clear hcs hlen
  go_enter Try.func7, Try.ntmps7
  go_wp2_with fail
  refine (hW1 _).mono ?_
  rintro e w1 ⟨rfl, hx1⟩
  go_wp2_with fail
  refine (hW2 _).mono ?_
  rintro e w2 ⟨rfl, hx2⟩
  go_wp2_with fail
  refine (live_any _).mono ?_
  rintro e w3 ⟨rfl, hx3⟩
  clear hW1 hW2
  have hcat : (st A ++ { data := #[32] } ++ st B).toList = A ++ [32] ++ B := by
    rw [ByteArray.toList_eq]
    simp [st]
  rcases HCS.out with h | ⟨h1, h2⟩
  · rw [h] at hcat
    clear h HCS
    go_wp2
    go_ret
    exact ⟨ret_bool (by simp), hx1.trans (hx2.trans hx3)⟩
  · subst h1 h2
    have hne : ¬ (st A ++ { data := #[32] } ++ st []).toList = A := by rw [hcat]; simp
    clear hcat HCS
    go_wp2
    go_ret
    exact ⟨ret_bool (by simp), hx1.trans (hx2.trans hx3)⟩
theorem TextWords_any (a : ByteArray) (w : World) (ha : a.size ≤ 140737488351232) : Calls Try.prog 7 #[.string a] w fun e w' => e = .returned (.bool true) ∧ Ext w w' := by
  have := TextWords_l (tl a) w (by rw [tl_length]; exact ha)
  rwa [st_tl] at this
end Go.Proofs.Ytkjklpalpodbgaa
