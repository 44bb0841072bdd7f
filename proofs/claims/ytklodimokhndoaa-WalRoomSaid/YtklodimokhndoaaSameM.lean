/- The walk of the reference's Same: are two lists of bytes the same. No condition but that the lists have a length of an int. -/
import Derived.Test.YtklodimokhndoaaScanM
namespace Go.Proofs.Ytklodimokhndoaa
open Go.RowKit
theorem take_ext {α : Type} (a b : List α) (k : Nat) (ha : k < a.length) (hb : k < b.length) (h : a.take k = b.take k) (he : a[k] = b[k]) : a.take (k + 1) = b.take (k + 1) := by
  rw [List.take_succ_eq_append_getElem ha, List.take_succ_eq_append_getElem hb, h, he]
set_option maxHeartbeats 1000000 in
theorem RSame_any (A B : Option Addr) (ca cb n m : Nat) (ls ms : List (List UInt8)) (w : World) (hA : BsS w A ls) (hB : BsS w B ms) (hn : n = ls.length) (hm : m = ms.length) (hb1 : ls.length ≤ 9223372036854775807) :
    Calls Try.prog 19 #[.slice A n ca, .slice B m cb] w fun e w' => e = .returned (.bool (decide (ls = ms))) ∧ Ext w w' := by
  subst hn hm
  by_cases hl : ls.length = ms.length
  · have h0 : ((ls.length : Int) != (ms.length : Int)) = false := by rw [hl]; exact bne_self_eq_false _
    go_enter Try.func19, Try.ntmps19
    go_wp2
    go_loopw [5] (fun i wr => ∃ k : Nat, k ≤ ls.length ∧ i = .int .i64 k ∧ Ext w wr ∧ ls.take k = ms.take k) (fun i _ => ls.length - (intOf i).toNat)
    case atStart => exact ⟨0, by omega, rfl, Ext.refl _, by simp⟩
    case round =>
      obtain ⟨k, hk, rfl, hx, ht⟩ := hrel
      have HT := Lib.hid ht
      have HL := Lib.hid hl
      clear ht h0 hl
      by_cases hlt : k < ls.length
      · obtain ⟨a1, A1, c1, rfl, e1, b1⟩ := hA.at_ hlt
        obtain ⟨a2, A2, c2, rfl, e2, b2⟩ := hB.at_ (k := k) (by rw [← HL.out]; exact hlt)
        have s1 := run_str (P := Try.prog) Try.underlying46 Try.underlying5 Try.underlying9 b1 _ c1 rfl
        have s2 := run_str (P := Try.prog) Try.underlying46 Try.underlying5 Try.underlying9 b2 _ c2 rfl
        have hk0 : (0 : Int) ≤ (k : Int) := by omega
        have hk1 : (k : Int) < (ls.length : Int) := by omega
        have hk2 : (k : Int) < (ms.length : Int) := by have := HL.out; omega
        have htx := fun he => take_ext ls ms k hlt (by rw [← HL.out]; exact hlt) HT.out he
        have hno : ls[k] ≠ ms[k]'(by rw [← HL.out]; exact hlt) → ls ≠ ms := by intro h e; subst e; exact h rfl
        generalize hl1 : ls[k] = l1 at *
        generalize hl2 : ms[k]'(by rw [← HL.out]; exact hlt) = l2 at *
        have HX := Lib.hid htx
        have HNO := Lib.hid hno
        clear htx hl1 hl2 hno
        by_cases he : l1 = l2
        · have h1 : (l1 == l2) = true := by rw [he]; exact beq_self_eq_true _
          have HX' := Lib.hid (HX.out he)
          clear he
          go_wp2_with fail
          go_quiet (fail)
          go_wp2
          go_roundw
          case rel => exact ⟨k + 1, by omega, by go_num, hx.drewN _, HX'.out⟩
          case measure => simp [intOf]; omega
        · have h1 : (l1 == l2) = false := beq_eq_false_iff_ne.2 he
          have hf := Lib.hid (decide_eq_false (HNO.out he))
          clear he
          go_wp2_with fail
          go_quiet (fail)
          go_wp2
          go_ret
          exact ⟨ret_bool hf.out.symm, hx.drewN _⟩
      · have hk1 : ¬ (k : Int) < (ls.length : Int) := by omega
        have hf0 : decide (ls = ms) = true := by
          have h1 := HT.out
          rw [List.take_of_length_le (by omega), List.take_of_length_le (by rw [← HL.out]; omega)] at h1
          exact decide_eq_true h1
        have hf := Lib.hid hf0
        clear hf0
        go_wp2
        go_ret
        exact ⟨ret_bool hf.out.symm, hx⟩
  · have h0 : ((ls.length : Int) != (ms.length : Int)) = true := by rw [bne_iff_ne]; omega
    have hf := Lib.hid (decide_eq_false (fun e : ls = ms => hl (by rw [e])))
    clear hl
    go_enter Try.func19, Try.ntmps19
    go_wp2
    go_ret
    exact ⟨ret_bool hf.out.symm, Ext.refl _⟩
end Go.Proofs.Ytklodimokhndoaa
