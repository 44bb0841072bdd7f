/- What a right user is, and the walk of deed.RightUser. Condition: the bound named. -/
import Derived.Test.YtchokelpimibdaaSm0
import Derived.Test.YtchokelpimibdaaText7
namespace Go.Proofs.Ytchokelpimibdaa
open Go.RowKit
theorem toList_tl (s : ByteArray) : s.toList = tl s := by rw [ByteArray.toList_eq]; rfl
theorem userC_cases (c : Nat) : (97 ≤ c ∧ c ≤ 122 ∧ userC c = true) ∨ (122 < c ∧ userC c = false) ∨ (48 ≤ c ∧ c ≤ 57 ∧ userC c = true) ∨ (57 < c ∧ c < 97 ∧ c ≠ 95 ∧ userC c = false) ∨ (c = 95 ∧ userC c = true) ∨ (c < 48 ∧ c ≠ 46 ∧ c ≠ 45 ∧ userC c = false) ∨ (c = 46 ∧ userC c = true) ∨ (c = 45 ∧ userC c = true) := by
  unfold userC
  by_cases h1 : c = 46
  · subst h1; simp
  by_cases h2 : c = 45
  · subst h2; simp
  by_cases h3 : c = 95
  · subst h3; simp
  simp only [h1, h2, h3, decide_false, Bool.or_false, Bool.or_eq_true, Bool.or_eq_false_iff, decide_eq_true_eq, decide_eq_false_iff_not, not_false_eq_true, true_and, false_and, or_false, false_or, ne_eq]
  omega
set_option maxHeartbeats 4000000 in
theorem RightUser_any (s : ByteArray) (w : World) (hs : s.size ≤ 140737488355328) : Calls Try.prog 56 #[.string s] w fun e w' => e = .returned (.bool (rightU (tl s))) ∧ Ext w w' := by
  have hit0 : It (w.iter s 0) w.heap.size s 0 := World.iter_heap w s 0
  have hxi : Ext w (w.iter s 0) := (Ext.refl w).alloc _
  go_enter Try.func56, Try.ntmps56
  go_wp2
  go_loopw [] (fun wr => ∃ pos ds, ds.all (fun d => userC d.1) = true ∧ At (tl s) pos ds ∧ It wr w.heap.size s pos ∧ Ext w wr) (fun wr => s.size - wr.iterPos w.heap.size)
  case atStart => exact ⟨0, [], rfl, At.zero _, hit0, hxi⟩
  case round =>
    obtain ⟨pos, ds, hall, hat, hit, hx⟩ := hrel
    clear hit0 hxi
    have HALL := Lib.hid hall
    have HPOS := Lib.hid (iterPos_of hit)
    have hle : pos ≤ s.size := by have := hat.le; simpa using this
    clear hall
    by_cases hlt : pos < s.size
    · have hnx := hit.next hlt
      have hit2 := hit.at_ (pos + (Utf8.decode s pos).2)
      have hx2 := hx.iterAt (pos := pos + (Utf8.decode s pos).2) (s := s) (Nat.le_refl w.heap.size)
      obtain ⟨bb, hbl, hspl, hat2⟩ := hat.here hlt
      have hp1 := dec_pos s pos hlt
      have HAT2 := Lib.hid hat2
      have HPOS2 := Lib.hid (iterPos_of hit2)
      have HBAD : Hid (userC (Utf8.decode s pos).1 = false → rightU (tl s) = false) := Lib.hid (fun hb => by
        unfold rightU
        rw [hspl, List.all_append, List.all_cons, hb]
        simp)
      clear hat hat2 hspl hbl
      generalize (Utf8.decode s pos).1 = c at *
      generalize (Utf8.decode s pos).2 = W at *
      rcases userC_cases c with ⟨h1, h2, h3⟩ | ⟨h1, h3⟩ | ⟨h1, h2, h3⟩ | ⟨h1, h2, h4, h3⟩ | ⟨h1, h3⟩ | ⟨h1, h2, h4, h3⟩ | ⟨h1, h3⟩ | ⟨h1, h3⟩
      all_goals have HC := Lib.hid h3
      all_goals clear h3
      · have k1 : (97 : Int) ≤ (c : Int) := by omega
        have k2 : (c : Int) ≤ 122 := by omega
        go_wp2
        go_roundw
        case rel => exact ⟨pos + W, ds ++ [(c, bb)], by rw [List.all_append, HALL.out]; simpa using HC.out, HAT2.out, hit2, hx2⟩
        case measure => rw [HPOS2.out, HPOS.out]; omega
      · have k1 : (97 : Int) ≤ (c : Int) := by omega
        have k2 : ¬ (c : Int) ≤ 122 := by omega
        have k3 : (48 : Int) ≤ (c : Int) := by omega
        have k4 : ¬ (c : Int) ≤ 57 := by omega
        have k5 : ((c : Int) == 46) = false := beq_eq_false_iff_ne.2 (by omega)
        have k6 : ((c : Int) == 45) = false := beq_eq_false_iff_ne.2 (by omega)
        have k7 : ((c : Int) == 95) = false := beq_eq_false_iff_ne.2 (by omega)
        go_wp2
        go_ret
        exact ⟨by rw [HBAD.out HC.out]; rfl, hx2⟩
      · have k1 : ¬ (97 : Int) ≤ (c : Int) := by omega
        have k3 : (48 : Int) ≤ (c : Int) := by omega
        have k4 : (c : Int) ≤ 57 := by omega
        go_wp2
        go_roundw
        case rel => exact ⟨pos + W, ds ++ [(c, bb)], by rw [List.all_append, HALL.out]; simpa using HC.out, HAT2.out, hit2, hx2⟩
        case measure => rw [HPOS2.out, HPOS.out]; omega
      · have k1 : ¬ (97 : Int) ≤ (c : Int) := by omega
        have k3 : (48 : Int) ≤ (c : Int) := by omega
        have k4 : ¬ (c : Int) ≤ 57 := by omega
        have k5 : ((c : Int) == 46) = false := beq_eq_false_iff_ne.2 (by omega)
        have k6 : ((c : Int) == 45) = false := beq_eq_false_iff_ne.2 (by omega)
        have k7 : ((c : Int) == 95) = false := beq_eq_false_iff_ne.2 (by omega)
        go_wp2
        go_ret
        exact ⟨by rw [HBAD.out HC.out]; rfl, hx2⟩
      · subst h1
        go_wp2
        go_roundw
        case rel => exact ⟨pos + W, ds ++ [(95, bb)], by rw [List.all_append, HALL.out]; simpa using HC.out, HAT2.out, hit2, hx2⟩
        case measure => rw [HPOS2.out, HPOS.out]; omega
      · have k1 : ¬ (97 : Int) ≤ (c : Int) := by omega
        have k3 : ¬ (48 : Int) ≤ (c : Int) := by omega
        have k5 : ((c : Int) == 46) = false := beq_eq_false_iff_ne.2 (by omega)
        have k6 : ((c : Int) == 45) = false := beq_eq_false_iff_ne.2 (by omega)
        have k7 : ((c : Int) == 95) = false := beq_eq_false_iff_ne.2 (by omega)
        go_wp2
        go_ret
        exact ⟨by rw [HBAD.out HC.out]; rfl, hx2⟩
      · subst h1
        go_wp2
        go_roundw
        case rel => exact ⟨pos + W, ds ++ [(46, bb)], by rw [List.all_append, HALL.out]; simpa using HC.out, HAT2.out, hit2, hx2⟩
        case measure => rw [HPOS2.out, HPOS.out]; omega
      · subst h1
        go_wp2
        go_roundw
        case rel => exact ⟨pos + W, ds ++ [(45, bb)], by rw [List.all_append, HALL.out]; simpa using HC.out, HAT2.out, hit2, hx2⟩
        case measure => rw [HPOS2.out, HPOS.out]; omega
    · have hst := hit.stop hlt
      have HD := Lib.hid (hat.done hlt)
      have HR : Hid (rightU (tl s) = (decide (tl s ≠ []) && decide (s.size ≤ 24))) := Lib.hid (by unfold rightU; rw [HD.out, HALL.out, tl_length]; simp)
      clear hat
      by_cases h0 : s = ⟨#[]⟩
      · subst h0
        go_wp2
        go_ret
        exact ⟨by rw [HR.out]; rfl, hx⟩
      · have HNE : Hid (tl s ≠ []) := Lib.hid (fun e => h0 (by rw [← st_tl s, e]; rfl))
        have k0 : s.toList.isEmpty = false := by
          rw [toList_tl]
          cases h : tl s with
          | nil => exact absurd h HNE.out
          | cons a l => rfl
        clear h0
        by_cases h24 : (s.size : Int) ≤ 24
        all_goals
          go_wp2
          go_ret
          exact ⟨by rw [HR.out]; have := HNE.out; simp [this]; omega, hx⟩
end Go.Proofs.Ytchokelpimibdaa
