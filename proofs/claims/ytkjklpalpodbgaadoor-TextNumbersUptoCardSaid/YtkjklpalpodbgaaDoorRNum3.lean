/- The walks of the reference's NumberText and of TextNumbers. Conditions: the text is at most 2^43 bytes long, and the library's two tables are laid. -/
import Derived.Test.YtkjklpalpodbgaaDoorRNum2
import Derived.Test.YtkjklpalpodbgaaDoorText11
namespace Go.Proofs.YtkjklpalpodbgaaDoor
open Go.RowKit
theorem decL_big (m : Nat) (h : 9 < m) (hm : m ≤ 4294967295) : decL m = decL (m / 10) ++ [digB m] := by
  conv => lhs; unfold decL
  rw [dec0_step _ (by omega) (by omega)]
  rfl
theorem decL_small (m : Nat) (h : m ≤ 9) : decL m = [digB m] := by
  unfold decL
  rw [show m / 10 = 0 by omega]
  rfl
set_option maxHeartbeats 400000 in
theorem RNumberText_any (n : Int) (w : World) : Calls Tryd.prog 9 #[.int .i64 n] w (NTSays n w) := by
  by_cases h : 0 ≤ n ∧ n ≤ 4294967295
  · obtain ⟨k, rfl⟩ : ∃ k : Nat, n = k := ⟨n.toNat, by omega⟩
    have h1 : ¬ (k : Int) < 0 := by omega
    have h2 : (k : Int) ≤ 4294967295 := by omega
    have HK : Hid (k ≤ 4294967295) := Lib.hid (by omega)
    clear h
    go_enter Tryd.func9, Tryd.ntmps9
    go_wp2
    go_loopw [0, 4] (fun a o wr => ∃ (m : Nat) (l : List UInt8), a = .int .i64 m ∧ m ≤ 4294967295 ∧ o = .string (st l) ∧ Ext w wr ∧ decL k = decL m ++ l) (fun a _ _ => (intOf a).toNat)
    case atStart => exact ⟨k, [], rfl, by omega, rfl, Ext.refl w, by simp⟩
    case round =>
      obtain ⟨m, l, rfl, hm, rfl, hx, hl⟩ := hrel
      have hlen : l.length ≤ 21 := by have := decL_len k; rw [hl, List.length_append] at this; omega
      have HL := Lib.hid hl
      clear hl
      have hc1 : ¬ 9223372036854775807 < 1 + l.length := by omega
      by_cases h9 : 9 < m
      · have h9' : (9 : Int) < (m : Int) := by omega
        have hdv := digB_val m
        have hcv := conv_str (Bs.new wr [digB m] #[.int .u8 ((digB m).toNat : Int)] rfl 5 (0, 0)) 1 1 rfl
        rw [hdv] at hcv
        have HB := Lib.hid (decL_big m h9 hm)
        clear hdv
        go_wp2
        go_roundw
        case rel => exact ⟨m / 10, digB m :: l, congrArg (Value.int .i64) (by omega), by omega, rfl, hx.alloc _, by rw [HL.out, HB.out]; simp⟩
        case measure => simp [intOf]; omega
      · have h9' : ¬ (9 : Int) < (m : Int) := by omega
        have hdv := digB_val m
        have hm10 : (m : Int) % 10 = m := by omega
        have hcv := conv_str (Bs.new wr [digB m] #[.int .u8 ((digB m).toNat : Int)] rfl 5 (0, 0)) 1 1 rfl
        rw [hdv, hm10] at hcv
        have HQ : Hid (∀ W, Ext w W → NTSays k w (.returned (.tuple #[.string (st ([digB m] ++ l)), .int .i64 0])) W) := Lib.hid (fun W hx => NTSays.yes HK.out (by rw [HL.out, decL_small m (by omega)]) hx)
        clear hdv hm10
        go_wp2
        go_ret2
        have := HQ.out _ (hx.alloc (.cells #[.int .u8 (48 + (m : Int))] 5))
        simpa [st_append] using this
  · have HQ : Hid (∀ W, Ext w W → NTSays n w (.returned (.tuple #[.string ⟨#[]⟩, .int .i64 6])) W) := Lib.hid (fun W hx => NTSays.no h hx)
    by_cases h1 : n < 0
    · clear h
      go_enter Tryd.func9, Tryd.ntmps9
      go_wp2
      go_ret2
      exact HQ.out _ (Ext.refl _)
    · have h2 : 4294967295 < n := by omega
      clear h
      go_enter Tryd.func9, Tryd.ntmps9
      go_wp2
      go_ret2
      exact HQ.out _ (Ext.refl _)
theorem TextNumbers_l (l : List UInt8) (n : Int) (w : World) (hs : l.length ≤ 8796093022000) (hT : Tabs w) : Calls Tryd.prog 3 #[.string (st l), .int .i64 n] w fun e w' => e = .returned (.bool true) ∧ Ext w w' := by
  have hN1 := Number_any (st l) w (by rw [st_size]; omega)
  have hN2 := fun wz (hx : Ext w wz) => RNumber_any l wz hs (hT.ext hx)
  have hN3 := fun wz => NumberText_any n wz
  have hN4 := fun wz => RNumberText_any n wz
  rw [tl_st] at hN1
  unfold NSays at hN1 hN2
  unfold NTSays at hN3 hN4
  generalize numberL l = q at *
  generalize numT n = q2 at *
  generalize numE n = q3 at *
  obtain ⟨qa, qb, qc⟩ := q
  dsimp only at hN1 hN2
  clear hT hs
  go_enter Tryd.func3, Tryd.ntmps3
  go_wp2_with fail
  refine hN1.mono ?_
  rintro e w1 ⟨rfl, hx1⟩
  go_wp2_with fail
  refine (hN2 _ hx1).mono ?_
  rintro e w2 ⟨rfl, hx2⟩
  go_wp2_with fail
  refine (hN3 _).mono ?_
  rintro e w3 ⟨rfl, hx3⟩
  go_wp2_with fail
  refine (hN4 _).mono ?_
  rintro e w4 ⟨rfl, hx4⟩
  go_wp2_with fail
  refine (live_any _).mono ?_
  rintro e w5 ⟨rfl, hx5⟩
  go_wp2
  go_ret
  exact ⟨rfl, hx1.trans (hx2.trans (hx3.trans (hx4.trans hx5)))⟩
theorem TextNumbers_any (a : ByteArray) (n : Int) (w : World) (ha : a.size ≤ 8796093022000) (hT : Tabs w) : Calls Tryd.prog 3 #[.string a, .int .i64 n] w fun e w' => e = .returned (.bool true) ∧ Ext w w' := by
  have := TextNumbers_l (tl a) n w (by rw [tl_length]; exact ha) hT
  rwa [st_tl] at this
end Go.Proofs.YtkjklpalpodbgaaDoor
