/- The walks of addr.alnum, local, next, letters, Same, User. Conditions: the bounds named. -/
import Derived.Test.YtchokelpimibdaaChecked
import Derived.Test.YtchokelpimibdaaShelf
import Derived.Test.YtchokelpimibdaaAd0
import Derived.Lib.IndexAny
namespace Go.Proofs.Ytchokelpimibdaa
open Go.RowKit
theorem alnum_any (c : Nat) (w : World) : Calls Try.prog 50 #[.int .i32 c] w fun e w' => e = .returned (.bool (alnumB c)) ∧ w = w' := by
  by_cases h1 : (97 : Int) ≤ c
  all_goals by_cases h2 : (c : Int) ≤ 122
  all_goals by_cases h3 : (65 : Int) ≤ c
  all_goals by_cases h4 : (c : Int) ≤ 90
  all_goals by_cases h5 : (48 : Int) ≤ c
  all_goals by_cases h6 : (c : Int) ≤ 57
  all_goals try omega
  all_goals
    go_enter Try.func50, Try.ntmps50
    go_wp2
    go_ret
    exact ⟨by simp [alnumB]; omega, rfl⟩
theorem sign_index (c : Nat) : (0 ≤ Lib.indexByte signsL (UInt8.ofNat c)) ↔ signB c = true := by
  have := Lib.contains_iff_indexByte signsL (UInt8.ofNat c)
  unfold signB
  rw [this]
  simp
set_option maxRecDepth 20000 in
theorem local_any (c : Nat) (hc : c ≤ 1114111) (w : World) : Calls Try.prog 49 #[.int .i32 c] w fun e w' => e = .returned (.bool (localB c)) ∧ w = w' := by
  have HA := alnum_any c w
  cases hal : alnumB c with
  | true =>
    have he : Hid (localB c = true) := Lib.hid (by unfold localB; rw [hal]; rfl)
    rw [hal] at HA
    clear hal
    go_enter Try.func49, Try.ntmps49
    go_wp2_with fail
    refine HA.mono ?_
    rintro e w1 ⟨rfl, rfl⟩
    go_wp2
    go_ret
    exact ⟨by rw [he.out]; rfl, rfl⟩
  | false =>
    rw [hal] at HA
    by_cases h1 : (c : Int) < 127
    · by_cases h2 : (32 : Int) < c
      · have hc8 : c < 256 := by omega
        have HI := Try.strings_IndexByte ⟨signsL.toArray⟩ (c : Int) w
        rw [show ((c : Int).toNat.toUInt8) = UInt8.ofNat c by simp] at HI
        have hsg := sign_index c
        have he : Hid (localB c = signB c) := Lib.hid (by unfold localB; rw [hal]; simp; intro _; omega)
        have hcv : IntKind.u8.wrap (c : Int) = (c : Int) := IntWalk.u8_in _ (by omega)
        clear hal
        generalize hz : Lib.indexByte signsL (UInt8.ofNat c) = z at *
        have HZ := Lib.hid hz
        clear hz
        unfold signsL at HI
        by_cases h0 : 0 ≤ z
        · have he2 : Hid (signB c = true) := Lib.hid (hsg.1 h0)
          clear hsg
          go_enter Try.func49, Try.ntmps49
          go_wp2_with fail
          refine HA.mono ?_
          rintro e w1 ⟨rfl, rfl⟩
          go_wp2_with fail
          refine HI.mono ?_
          rintro e w1 ⟨rfl, hw⟩
          obtain rfl := hw
          go_wp2
          go_ret
          exact ⟨by rw [he.out, he2.out]; first | rfl | (simp; omega), rfl⟩
        · have he2 : Hid (signB c = false) := Lib.hid (by
            cases hb : signB c with
            | false => rfl
            | true => exact absurd (hsg.2 hb) h0)
          clear hsg
          go_enter Try.func49, Try.ntmps49
          go_wp2_with fail
          refine HA.mono ?_
          rintro e w1 ⟨rfl, rfl⟩
          go_wp2_with fail
          refine HI.mono ?_
          rintro e w1 ⟨rfl, hw⟩
          obtain rfl := hw
          go_wp2
          go_ret
          exact ⟨by rw [he.out, he2.out]; first | rfl | (simp; omega), rfl⟩
      · have he : Hid (localB c = false) := Lib.hid (by unfold localB; rw [hal]; simp; omega)
        clear hal
        go_enter Try.func49, Try.ntmps49
        go_wp2_with fail
        refine HA.mono ?_
        rintro e w1 ⟨rfl, rfl⟩
        go_wp2
        go_ret
        exact ⟨by rw [he.out]; rfl, rfl⟩
    · have he : Hid (localB c = false) := Lib.hid (by unfold localB; rw [hal]; simp; omega)
      clear hal
      go_enter Try.func49, Try.ntmps49
      go_wp2_with fail
      refine HA.mono ?_
      rintro e w1 ⟨rfl, rfl⟩
      go_wp2
      go_ret
      exact ⟨by rw [he.out]; rfl, rfl⟩
set_option maxRecDepth 20000 in
theorem next_any (s c n : Nat) (hs : s ≤ 6) (hc : c ≤ 1114111) (w : World) : Calls Try.prog 34 #[.int .i64 s, .int .i32 c, .int .i64 n] w fun e w' => e = .returned (.tuple #[.int .i64 ((nextS s c n).1 : Nat), .bool (nextS s c n).2]) ∧ w = w' := by
  have HL := local_any c hc w
  have HA := alnum_any c w
  have hcase : c = 46 ∨ c = 64 ∨ c = 45 ∨ (c ≠ 46 ∧ c ≠ 64 ∧ c ≠ 45) := by omega
  have hs' : s = 0 ∨ s = 1 ∨ s = 2 ∨ s = 3 ∨ s = 4 ∨ s = 5 ∨ s = 6 := by omega
  have hn : (n : Int) < 62 ∨ (62 ≤ (n : Int) ∧ (n : Int) < 63) ∨ 63 ≤ (n : Int) := by omega
  rcases hs' with rfl | rfl | rfl | rfl | rfl | rfl | rfl
  · have HE : Hid (nextS 0 c n = (1, localB c)) := Lib.hid (by simp [nextS])
    clear hcase hn
    generalize localB c = b at *
    go_enter Try.func34, Try.ntmps34
    go_wp2_with fail
    refine HL.mono ?_
    rintro e w1 ⟨rfl, rfl⟩
    go_wp2
    go_ret2
    exact ⟨by rw [HE.out]; first | rfl | (simp; omega), rfl⟩
  · rcases hcase with rfl | rfl | h
    · have HE : Hid (nextS 1 46 n = (2, true)) := Lib.hid (by simp [nextS])
      clear hn
      go_enter Try.func34, Try.ntmps34
      go_wp2
      go_ret2
      exact ⟨by rw [HE.out]; first | rfl | (simp; omega), rfl⟩
    · have HE : Hid (nextS 1 64 n = (6, true)) := Lib.hid (by simp [nextS])
      clear hn
      go_enter Try.func34, Try.ntmps34
      go_wp2
      go_ret2
      exact ⟨by rw [HE.out]; first | rfl | (simp; omega), rfl⟩
    · have h1 : ((c : Int) == 46) = false := beq_eq_false_iff_ne.2 (by omega)
      have h2 : ((c : Int) == 64) = false := beq_eq_false_iff_ne.2 (by omega)
      have HE : Hid (nextS 1 c n = (1, localB c)) := Lib.hid (by unfold nextS; rw [if_neg (by omega), if_pos rfl, if_neg (by omega), if_neg (by omega)])
      clear hn h
      generalize localB c = b at *
      go_enter Try.func34, Try.ntmps34
      go_wp2_with fail
      refine HL.mono ?_
      rintro e w1 ⟨rfl, rfl⟩
      go_wp2
      go_ret2
      exact ⟨by rw [HE.out]; first | rfl | (simp; omega), rfl⟩
  · have HE : Hid (nextS 2 c n = (1, localB c)) := Lib.hid (by simp [nextS])
    clear hcase hn
    generalize localB c = b at *
    go_enter Try.func34, Try.ntmps34
    go_wp2_with fail
    refine HL.mono ?_
    rintro e w1 ⟨rfl, rfl⟩
    go_wp2
    go_ret2
    exact ⟨by rw [HE.out]; first | rfl | (simp; omega), rfl⟩
  · by_cases h : c = 64
    · subst h
      have HE : Hid (nextS 3 64 n = (6, true)) := Lib.hid (by simp [nextS])
      clear hn hcase
      go_enter Try.func34, Try.ntmps34
      go_wp2
      go_ret2
      exact ⟨by rw [HE.out]; first | rfl | (simp; omega), rfl⟩
    · have h2 : ((c : Int) == 64) = false := beq_eq_false_iff_ne.2 (by omega)
      have HE : Hid (nextS 3 c n = (6, false)) := Lib.hid (by simp [nextS, h])
      clear hn hcase h
      go_enter Try.func34, Try.ntmps34
      go_wp2
      go_ret2
      exact ⟨by rw [HE.out]; first | rfl | (simp; omega), rfl⟩
  · by_cases h46 : c = 46
    · subst h46
      have HE : Hid (nextS 4 46 n = (6, true)) := Lib.hid (by simp [nextS])
      clear hn hcase
      go_enter Try.func34, Try.ntmps34
      go_wp2
      go_ret2
      exact ⟨by rw [HE.out]; first | rfl | (simp; omega), rfl⟩
    · have t46 : ((c : Int) == 46) = false := beq_eq_false_iff_ne.2 (by omega)
      by_cases h45 : c = 45
      · subst h45
        by_cases h62 : (n : Int) < 62
        · have HE : Hid (nextS 4 45 n = (5, true)) := Lib.hid (by simp [nextS]; omega)
          clear hn hcase
          go_enter Try.func34, Try.ntmps34
          go_wp2
          go_ret2
          exact ⟨by rw [HE.out]; first | rfl | (simp; omega), rfl⟩
        · have HE : Hid (nextS 4 45 n = (5, false)) := Lib.hid (by simp [nextS]; omega)
          clear hn hcase
          go_enter Try.func34, Try.ntmps34
          go_wp2
          go_ret2
          exact ⟨by rw [HE.out]; first | rfl | (simp; omega), rfl⟩
      · have t45 : ((c : Int) == 45) = false := beq_eq_false_iff_ne.2 (by omega)
        have HE0 : Hid (nextS 4 c n = (4, alnumB c && decide (n < 63))) := Lib.hid (by simp [nextS, h46, h45])
        clear hn hcase
        generalize alnumB c = b at *
        by_cases h63 : (n : Int) < 63
        · have HE : Hid (nextS 4 c n = (4, b)) := Lib.hid (by rw [HE0.out, decide_eq_true (show n < 63 by omega)]; simp)
          cases b
          all_goals
            go_enter Try.func34, Try.ntmps34
            go_wp2_with fail
            refine HA.mono ?_
            rintro e w1 ⟨rfl, rfl⟩
            go_wp2
            go_ret2
            exact ⟨by rw [HE.out]; first | rfl | (simp; omega), rfl⟩
        · have HE : Hid (nextS 4 c n = (4, false)) := Lib.hid (by rw [HE0.out, decide_eq_false (show ¬ n < 63 by omega)]; simp)
          cases b
          all_goals
            go_enter Try.func34, Try.ntmps34
            go_wp2_with fail
            refine HA.mono ?_
            rintro e w1 ⟨rfl, rfl⟩
            go_wp2
            go_ret2
            exact ⟨by rw [HE.out]; first | rfl | (simp; omega), rfl⟩
  · by_cases h46 : c = 46
    · subst h46
      have HE : Hid (nextS 5 46 n = (6, false)) := Lib.hid (by simp [nextS])
      clear hn hcase
      go_enter Try.func34, Try.ntmps34
      go_wp2
      go_ret2
      exact ⟨by rw [HE.out]; first | rfl | (simp; omega), rfl⟩
    · have t46 : ((c : Int) == 46) = false := beq_eq_false_iff_ne.2 (by omega)
      by_cases h45 : c = 45
      · subst h45
        by_cases h62 : (n : Int) < 62
        · have HE : Hid (nextS 5 45 n = (5, true)) := Lib.hid (by simp [nextS]; omega)
          clear hn hcase
          go_enter Try.func34, Try.ntmps34
          go_wp2
          go_ret2
          exact ⟨by rw [HE.out]; first | rfl | (simp; omega), rfl⟩
        · have HE : Hid (nextS 5 45 n = (5, false)) := Lib.hid (by simp [nextS]; omega)
          clear hn hcase
          go_enter Try.func34, Try.ntmps34
          go_wp2
          go_ret2
          exact ⟨by rw [HE.out]; first | rfl | (simp; omega), rfl⟩
      · have t45 : ((c : Int) == 45) = false := beq_eq_false_iff_ne.2 (by omega)
        have HE0 : Hid (nextS 5 c n = (4, alnumB c && decide (n < 63))) := Lib.hid (by simp [nextS, h46, h45])
        clear hn hcase
        generalize alnumB c = b at *
        by_cases h63 : (n : Int) < 63
        · have HE : Hid (nextS 5 c n = (4, b)) := Lib.hid (by rw [HE0.out, decide_eq_true (show n < 63 by omega)]; simp)
          cases b
          all_goals
            go_enter Try.func34, Try.ntmps34
            go_wp2_with fail
            refine HA.mono ?_
            rintro e w1 ⟨rfl, rfl⟩
            go_wp2
            go_ret2
            exact ⟨by rw [HE.out]; first | rfl | (simp; omega), rfl⟩
        · have HE : Hid (nextS 5 c n = (4, false)) := Lib.hid (by rw [HE0.out, decide_eq_false (show ¬ n < 63 by omega)]; simp)
          cases b
          all_goals
            go_enter Try.func34, Try.ntmps34
            go_wp2_with fail
            refine HA.mono ?_
            rintro e w1 ⟨rfl, rfl⟩
            go_wp2
            go_ret2
            exact ⟨by rw [HE.out]; first | rfl | (simp; omega), rfl⟩
  · have HE : Hid (nextS 6 c n = (4, alnumB c)) := Lib.hid (by simp [nextS])
    clear hcase hn
    generalize alnumB c = b at *
    go_enter Try.func34, Try.ntmps34
    go_wp2_with fail
    refine HA.mono ?_
    rintro e w1 ⟨rfl, rfl⟩
    go_wp2
    go_ret2
    exact ⟨by rw [HE.out]; first | rfl | (simp; omega), rfl⟩
theorem letters_any (s : ByteArray) (w : World) (hs : s.size ≤ 140737488355328) : Calls Try.prog 33 #[.string s] w fun e w' => e = .returned (.int .i64 (letL (tl s)).length) ∧ Ext w w' := by
  have hit0 : It (w.iter s 0) w.heap.size s 0 := World.iter_heap w s 0
  have hxi : Ext w (w.iter s 0) := (Ext.refl w).alloc _
  go_enter Try.func33, Try.ntmps33
  go_wp2
  go_loopw [3] (fun n wr => ∃ pos ds, n = .int .i64 (ds.length : Nat) ∧ At (tl s) pos ds ∧ It wr w.heap.size s pos ∧ Ext w wr) (fun _ wr => s.size - wr.iterPos w.heap.size)
  case atStart => exact ⟨0, [], rfl, At.zero _, hit0, hxi⟩
  case round =>
    obtain ⟨pos, ds, rfl, hat, hit, hx⟩ := hrel
    clear hit0 hxi
    have HPOS := Lib.hid (iterPos_of hit)
    have hnum := hat.num
    have hle : pos ≤ s.size := by have := hat.le; simpa using this
    by_cases hlt : pos < s.size
    · have hnx := hit.next hlt
      have hit2 := hit.at_ (pos + (Utf8.decode s pos).2)
      have hx2 := hx.iterAt (pos := pos + (Utf8.decode s pos).2) (s := s) (Nat.le_refl w.heap.size)
      obtain ⟨bb, hbl, hspl, hat2⟩ := hat.here hlt
      have hp1 := dec_pos s pos hlt
      have HAT2 := Lib.hid hat2
      have HPOS2 := Lib.hid (iterPos_of hit2)
      clear hat hat2 hspl hbl
      generalize (Utf8.decode s pos).1 = c at *
      generalize (Utf8.decode s pos).2 = W at *
      go_wp2
      go_roundw
      case rel => exact ⟨pos + W, ds ++ [(c, bb)], by simp, HAT2.out, hit2, hx2⟩
      case measure => rw [HPOS2.out, HPOS.out]; omega
    · have hst := hit.stop hlt
      have HD := Lib.hid (hat.done hlt)
      clear hat
      go_wp2
      go_ret
      rw [HD.out]
      exact ⟨rfl, hx⟩
theorem AUser_any (a b : List UInt8) (w : World) (ha : a.length ≤ 140737488355328) :
    Calls Try.prog 54 #[.agg #[.string (st a), .string (st b)]] w fun e w' => e = .returned (.string (st (lowL a))) ∧ Ext w w' := by
  have hx0 := (Ext.refl w).alloc (.cells #[.string (st a), .string (st b)] 35)
  have HL := Lower_any (st a) (w.alloc (.cells #[.string (st a), .string (st b)] 35)) (by rw [st_size]; exact ha)
  rw [tl_st] at HL
  generalize lowL a = la at *
  go_enter Try.func54, Try.ntmps54
  go_wp2_with fail
  refine HL.mono ?_
  rintro e w1 ⟨rfl, hx1⟩
  go_wp2
  go_ret
  exact ⟨rfl, hx0.trans hx1⟩
end Go.Proofs.Ytchokelpimibdaa
