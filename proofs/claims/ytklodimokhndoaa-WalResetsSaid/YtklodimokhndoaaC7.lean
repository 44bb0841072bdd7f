/- The walks of both Scans: they answer the same. Conditions: the lengths named. The walk of the reference's Same: are two lists of bytes the same. No condition but that the lists have a length of an int. -/
import Derived.Test.YtklodimokhndoaaC0
namespace Go.Proofs.Ytklodimokhndoaa
open Go.RowKit
def scanF (b : List UInt8) : Nat → Nat → List (List UInt8) × Nat
  | 0, at_ => ([], at_)
  | f + 1, at_ => if (oneL b at_).2.2 = 0 then ((oneL b at_).1 :: (scanF b f (oneL b at_).2.1.toNat).1, (scanF b f (oneL b at_).2.1.toNat).2) else ([], at_)
def scanL (b : List UInt8) : List (List UInt8) × Nat := scanF b (b.length + 1) 0
theorem oneL_next (b : List UInt8) (k : Nat) (h : (oneL b k).2.2 = 0) : ∃ n : Nat, (oneL b k).2.1 = (n : Int) ∧ k + 7 ≤ n ∧ n ≤ b.length := by
  unfold oneL at h ⊢
  split at h
  · simp at h
  split at h
  · simp at h
  split at h
  · simp at h
  split at h
  · simp at h
  split at h
  · simp at h
  rename_i h1 h2 h3 h4 h5
  rw [if_neg h1, if_neg h2, if_neg h3, if_neg h4, if_neg h5]
  refine ⟨k + 6 + numL ((b.drop (k : Int).toNat).take 2), by simp, by omega, ?_⟩
  simp only [List.length_drop] at h2 h4
  omega
/-- what a scan's loop has gathered when it is at a place -/
def ScanAt (b : List UInt8) (outs : List (List UInt8)) (k : Nat) : Prop :=
  k ≤ b.length ∧ outs.length ≤ k ∧ ∃ f, b.length - k < f ∧ scanL b = (outs ++ (scanF b f k).1, (scanF b f k).2)
theorem ScanAt.start (b : List UInt8) : ScanAt b [] 0 := ⟨by omega, by simp, b.length + 1, by omega, by simp [scanL]⟩
theorem ScanAt.stop {b : List UInt8} {outs : List (List UInt8)} {k : Nat} (h : ScanAt b outs k) (he : (oneL b k).2.2 ≠ 0) : scanL b = (outs, k) := by
  obtain ⟨_, _, f, hf, e⟩ := h
  cases f with
  | zero => omega
  | succ f => rw [e]; simp [scanF, he]
theorem ScanAt.step {b : List UInt8} {outs : List (List UInt8)} {k : Nat} (h : ScanAt b outs k) (he : (oneL b k).2.2 = 0) :
    ∃ n : Nat, (oneL b k).2.1 = (n : Int) ∧ k < n ∧ n ≤ b.length ∧ ScanAt b (outs ++ [(oneL b k).1]) n := by
  obtain ⟨h1, h2, f, hf, e⟩ := h
  obtain ⟨n, hn, h3, h4⟩ := oneL_next b k he
  refine ⟨n, hn, by omega, h4, h4, by simp; omega, ?_⟩
  cases f with
  | zero => omega
  | succ f => exact ⟨f, by omega, by rw [e]; simp [scanF, he, hn]⟩
def ScanSays (b : List UInt8) (w : World) (e : Ending) (w' : World) : Prop := ∃ v, e = .returned (.tuple #[v, .int .i64 ((scanL b).2 : Nat)]) ∧ OwnS w' w.heap.size v (scanL b).1 ∧ Ext w w'
theorem ScanSays.mk {b : List UInt8} {w w' : World} {outs : List (List UInt8)} {k : Nat} {v : Value} (h : scanL b = (outs, k)) (ho : OwnS w' w.heap.size v outs) (hx : Ext w w') : ScanSays b w (.returned (.tuple #[v, .int .i64 (k : Nat)])) w' := by
  refine ⟨v, ?_, ?_, hx⟩
  · rw [h]
  · rw [h]; exact ho
theorem bytessScT : ElemOf Try.prog 47 46 1 24 := ElemOf.mk' (z := .slice none 0 0) Try.underlying47 (by kernel_rfl) rfl (by omega)
end Go.Proofs.Ytklodimokhndoaa
namespace Go.Proofs.Ytklodimokhndoaa
open Go.RowKit
theorem take_ext {α : Type} (a b : List α) (k : Nat) (ha : k < a.length) (hb : k < b.length) (h : a.take k = b.take k) (he : a[k] = b[k]) : a.take (k + 1) = b.take (k + 1) := by
  rw [List.take_succ_eq_append_getElem ha, List.take_succ_eq_append_getElem hb, h, he]
set_option maxHeartbeats 1000000 in
theorem RSame_any (A B : Option Addr) (ca cb n m : Nat) (ls ms : List (List UInt8)) (w : World) (hA : BsS w A ls) (hB : BsS w B ms) (hn : n = ls.length) (hm : m = ms.length) (hb1 : ls.length ≤ 9223372036854775807) :
    Calls Try.prog 19 #[.slice A n ca, .slice B m cb] w fun e w' => e = .returned (.bool (decide (ls = ms))) ∧ Ext w w' := by
  subst hn hm
  by_cases hl : ls.length = ms.length
  · have h0 : ((ls.length : Int) != (ms.length : Int)) = false := by rw [hl]; exact bne_self_eq_false _
    go_enter Try.func19, Try.ntmps19
    go_wp2
    go_loopw [5] (fun i wr => ∃ k : Nat, k ≤ ls.length ∧ i = .int .i64 k ∧ Ext w wr ∧ ls.take k = ms.take k) (fun i _ => ls.length - (intOf i).toNat)
    case atStart => exact ⟨0, by omega, rfl, Ext.refl _, by simp⟩
    case round =>
      obtain ⟨k, hk, rfl, hx, ht⟩ := hrel
      have HT := Lib.hid ht
      have HL := Lib.hid hl
      clear ht h0 hl
      by_cases hlt : k < ls.length
      · obtain ⟨a1, A1, c1, rfl, e1, b1⟩ := hA.at_ hlt
        obtain ⟨a2, A2, c2, rfl, e2, b2⟩ := hB.at_ (k := k) (by rw [← HL.out]; exact hlt)
        have s1 := run_str (P := Try.prog) Try.underlying46 Try.underlying5 Try.underlying9 b1 _ c1 rfl
        have s2 := run_str (P := Try.prog) Try.underlying46 Try.underlying5 Try.underlying9 b2 _ c2 rfl
        have hk0 : (0 : Int) ≤ (k : Int) := by omega
        have hk1 : (k : Int) < (ls.length : Int) := by omega
        have hk2 : (k : Int) < (ms.length : Int) := by have := HL.out; omega
        have htx := fun he => take_ext ls ms k hlt (by rw [← HL.out]; exact hlt) HT.out he
        have hno : ls[k] ≠ ms[k]'(by rw [← HL.out]; exact hlt) → ls ≠ ms := by intro h e; subst e; exact h rfl
        generalize hl1 : ls[k] = l1 at *
        generalize hl2 : ms[k]'(by rw [← HL.out]; exact hlt) = l2 at *
        have HX := Lib.hid htx
        have HNO := Lib.hid hno
        clear htx hl1 hl2 hno
        by_cases he : l1 = l2
        · have h1 : (l1 == l2) = true := by rw [he]; exact beq_self_eq_true _
          have HX' := Lib.hid (HX.out he)
          clear he
          go_wp2_with fail
          go_quiet (fail)
          go_wp2
          go_roundw
          case rel => exact ⟨k + 1, by omega, by go_num, hx.drewN _, HX'.out⟩
          case measure => simp [intOf]; omega
        · have h1 : (l1 == l2) = false := beq_eq_false_iff_ne.2 he
          have hf := Lib.hid (decide_eq_false (HNO.out he))
          clear he
          go_wp2_with fail
          go_quiet (fail)
          go_wp2
          go_ret
          exact ⟨ret_bool hf.out.symm, hx.drewN _⟩
      · have hk1 : ¬ (k : Int) < (ls.length : Int) := by omega
        have hf0 : decide (ls = ms) = true := by
          have h1 := HT.out
          rw [List.take_of_length_le (by omega), List.take_of_length_le (by rw [← HL.out]; omega)] at h1
          exact decide_eq_true h1
        have hf := Lib.hid hf0
        clear hf0
        go_wp2
        go_ret
        exact ⟨ret_bool hf.out.symm, hx⟩
  · have h0 : ((ls.length : Int) != (ms.length : Int)) = true := by rw [bne_iff_ne]; omega
    have hf := Lib.hid (decide_eq_false (fun e : ls = ms => hl (by rw [e])))
    clear hl
    go_enter Try.func19, Try.ntmps19
    go_wp2
    go_ret
    exact ⟨ret_bool hf.out.symm, Ext.refl _⟩
end Go.Proofs.Ytklodimokhndoaa
