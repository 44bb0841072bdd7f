/- The walk of TextNumberBack: it answers true. Condition: the length named in the theorem. -/
import Derived.Test.YtkjklpalpodbgaaText13
namespace Go.Proofs.Ytkjklpalpodbgaa
open Go.RowKit
theorem decL_short (n : Nat) : (st (decL n)).size ≤ 140737488355328 := by
  rw [st_size]
  have := decL_len n
  omega
theorem NumberText_yes (n : Nat) (w : World) (h : n ≤ 4294967295) : Calls Try.prog 19 #[.int .i64 (n : Int)] w fun e w' => e = .returned (.tuple #[.string (st (decL n)), .int .i64 0]) ∧ Ext w w' := by
  refine (NumberText_any n w).mono ?_
  rintro e w' ⟨he, hx⟩
  unfold numT numE at he
  rw [if_pos ⟨by omega, by omega⟩, if_pos ⟨by omega, by omega⟩] at he
  exact ⟨by simpa using he, hx⟩
theorem NumberText_non (n : Int) (w : World) (h : ¬ (0 ≤ n ∧ n ≤ 4294967295)) : Calls Try.prog 19 #[.int .i64 n] w fun e w' => e = .returned (.tuple #[.string (st []), .int .i64 6]) ∧ Ext w w' := by
  refine (NumberText_any n w).mono ?_
  rintro e w' ⟨he, hx⟩
  unfold numT numE at he
  rw [if_neg h, if_neg h] at he
  exact ⟨he, hx⟩
theorem Number_dec (n : Nat) (w : World) (h : n ≤ 4294967295) : Calls Try.prog 20 #[.string (st (decL n))] w fun e w' => e = .returned (.tuple #[.int .i64 (n : Int), .int .i64 0, .int .i64 0]) ∧ Ext w w' := by
  refine (Number_any _ w (decL_short n)).mono ?_
  rintro e w' ⟨he, hx⟩
  rw [tl_st, numberL_decL n h] at he
  exact ⟨he, hx⟩
/-- the second half: what a text's number is as a text -/
theorem back_num (l : List UInt8) (w : World) (hl : l.length ≤ 140737488351232) : ∃ (v : Nat) (at_ er : Int) (m : List UInt8), (er = 0 → m = l) ∧ m = decL v ∧ v ≤ 4294967295 ∧
    Calls Try.prog 20 #[.string (st l)] w fun e w' => e = .returned (.tuple #[.int .i64 (v : Int), .int .i64 at_, .int .i64 er]) ∧ Ext w w' := by
  have hr := numberL_range l
  have hN := Number_any (st l) w (by rw [st_size]; omega)
  rw [tl_st] at hN
  refine ⟨(numberL l).1.toNat, (numberL l).2.1, (numberL l).2.2, _, ?_, rfl, by omega, ?_⟩
  · intro h0
    obtain ⟨v, hv, _, hd⟩ := numberL_back h0
    rw [hv]
    exact hd
  · refine hN.mono ?_
    rintro e w' ⟨he, hx⟩
    rw [Int.toNat_of_nonneg hr.1]
    exact ⟨he, hx⟩
set_option maxHeartbeats 400000 in
theorem TextNumberBack_l (n : Int) (l : List UInt8) (w : World) (hl : l.length ≤ 140737488351232) : Calls Try.prog 8 #[.int .i64 n, .string (st l)] w fun e w' => e = .returned (.bool true) ∧ Ext w w' := by
  have half : ∀ wz, Ext w wz → ∃ (v : Nat) (at_ er : Int) (m : List UInt8), Hid (er = 0 → m = l) ∧ Hid (m = decL v) ∧ v ≤ 4294967295 ∧
    Calls Try.prog 20 #[.string (st l)] wz fun e w' => e = .returned (.tuple #[.int .i64 (v : Int), .int .i64 at_, .int .i64 er]) ∧ Ext w w' := by
    intro wz hx
    obtain ⟨v, a, er, m, h1, h2, h3, h4⟩ := back_num l wz hl
    exact ⟨v, a, er, m, Lib.hid h1, Lib.hid h2, h3, h4.mono fun e w' ⟨h5, h6⟩ => ⟨h5, hx.trans h6⟩⟩
  have HALF := Lib.hid half
  clear half
  by_cases h : 0 ≤ n ∧ n ≤ 4294967295
  · obtain ⟨k, rfl⟩ : ∃ k : Nat, n = k := ⟨n.toNat, by omega⟩
    have hk : k ≤ 4294967295 := by omega
    clear h
    go_enter Try.func8, Try.ntmps8
    go_wp2_with fail
    refine (NumberText_yes k _ hk).mono ?_
    rintro e w1 ⟨rfl, hx1⟩
    go_wp2_with fail
    refine (Number_dec k _ hk).mono ?_
    rintro e w2 ⟨rfl, hx2⟩
    obtain ⟨v, at_, er, m, HM, HD, hv, hC⟩ := HALF.out w2 (hx1.trans hx2)
    go_wp2_with fail
    refine hC.mono ?_
    rintro e w3 ⟨rfl, hx3⟩
    clear hC
    go_wp2_with fail
    refine (NumberText_yes v _ hv).mono ?_
    rintro e w4 ⟨rfl, hx4⟩
    rw [← HD.out]
    go_wp2_with fail
    refine (live_any _).mono ?_
    rintro e w5 ⟨rfl, hx5⟩
    have hxx := hx3.trans (hx4.trans hx5)
    by_cases h0 : er = 0
    · have hm := HM.out h0
      subst h0
      rw [hm]
      clear HM HD hm
      go_wp2
      go_ret
      exact ⟨rfl, hxx⟩
    · have h1 : (er == 0) = false := beq_eq_false_iff_ne.2 h0
      have h2 : (er != 0) = true := by simpa using h0
      clear h0 HM HD
      go_wp2
      go_ret
      exact ⟨rfl, hxx⟩
  · go_enter Try.func8, Try.ntmps8
    go_wp2_with fail
    refine (NumberText_non n _ h).mono ?_
    rintro e w1 ⟨rfl, hx1⟩
    obtain ⟨v, at_, er, m, HM, HD, hv, hC⟩ := HALF.out w1 hx1
    clear h
    go_wp2_with fail
    refine hC.mono ?_
    rintro e w3 ⟨rfl, hx3⟩
    clear hC
    go_wp2_with fail
    refine (NumberText_yes v _ hv).mono ?_
    rintro e w4 ⟨rfl, hx4⟩
    rw [← HD.out]
    go_wp2_with fail
    refine (live_any _).mono ?_
    rintro e w5 ⟨rfl, hx5⟩
    have hxx := hx3.trans (hx4.trans hx5)
    by_cases h0 : er = 0
    · have hm := HM.out h0
      subst h0
      rw [hm]
      clear HM HD hm
      go_wp2
      go_ret
      exact ⟨rfl, hxx⟩
    · have h1 : (er == 0) = false := beq_eq_false_iff_ne.2 h0
      have h2 : (er != 0) = true := by simpa using h0
      clear h0 HM HD
      go_wp2
      go_ret
      exact ⟨rfl, hxx⟩
theorem TextNumberBack_any (n : Int) (a : ByteArray) (w : World) (ha : a.size ≤ 140737488351232) : Calls Try.prog 8 #[.int .i64 n, .string a] w fun e w' => e = .returned (.bool true) ∧ Ext w w' := by
  have := TextNumberBack_l n (tl a) w (by rw [tl_length]; exact ha)
  rwa [st_tl] at this
end Go.Proofs.Ytkjklpalpodbgaa
