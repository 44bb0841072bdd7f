/- The walk of DiskCuts. It answers true. -/
import Derived.Test.YtklodimokhndoaaChecked
import Derived.Test.YtklodimokhndoaaDk11
namespace Go.Proofs.Ytklodimokhndoaa
open Go.RowKit
attribute [local go_sem] pt
/-- where DiskCuts stands -/
structure CutAt (n done : Nat) (s : Dk) : Prop where
  k : (n = 0 ∧ s.down = false ∧ s.cut = 0) ∨ (0 < n ∧ s.down = false ∧ s.cut + done = n ∧ 1 ≤ s.cut) ∨ (0 < n ∧ s.down = true ∧ done + 1 = n)
theorem spent_cut {s : Dk} (h : s.cut ≠ 0) : (spent s).cut = s.cut - 1 ∧ (spent s).down = decide (s.cut = 1) := by unfold spent; rw [if_neg h]; exact ⟨rfl, rfl⟩
theorem spent_zero {s : Dk} (h : s.cut = 0) : spent s = s := by unfold spent; rw [if_pos h]
theorem write_eq {s : Dk} {i : Int} {l : List UInt8} (hw : wrongE s i true = 0) (hl : l.length ≤ 64) : writeE s i l = (if (spent s).down = true then 7 else 0) ∧ writeS s i l = if (spent s).down = true then spent s else wrote s i.toNat l := by
  have : ¬ 64 < l.length := by omega
  simp [writeE, writeS, hw, this]
theorem flush_eq {s : Dk} (hd : s.down = false) : flushE s = (if (spent s).down = true then 7 else 0) ∧ flushS s = if (spent s).down = true then spent s else flushed s := by
  simp [flushE, flushS, hd]
/-- a write: done, or not -/
theorem cut_write {n done : Nat} {s : Dk} (h : CutAt n done s) (hs : s.sure.length = 4) (i : Nat) (hi : i < 4) (l : List UInt8) (hl : l.length ≤ 64) :
    (writeE s i l = 7 ∧ 0 < n ∧ done + 1 = n ∧ (writeS s i l).down = true) ∨ (writeE s i l = 0 ∧ CutAt n (done + 1) (writeS s i l) ∧ (writeS s i l).down = false ∧ (0 < n → done + 2 ≤ n)) := by
  have hw : wrongE s i true = if s.down = true then 7 else 0 := by
    unfold wrongE
    by_cases hd : s.down = true
    · rw [if_pos ⟨rfl, hd⟩, if_pos hd]
    · rw [if_neg (by simp [hd]), if_pos (by omega), if_neg hd]
  rcases h.k with ⟨h1, h2, h3⟩ | ⟨h1, h2, h3, h4⟩ | ⟨h1, h2, h3⟩
  · rw [h2] at hw
    simp only [Bool.false_eq_true, if_false] at hw
    have e : spent s = s := spent_zero h3
    obtain ⟨q1, q2⟩ := write_eq hw hl
    rw [q1, q2, e, h2]
    refine .inr ⟨rfl, ⟨.inl ⟨h1, ?_, ?_⟩⟩, ?_, by omega⟩ <;> simp [wrote, e, h2, h3]
  · rw [h2] at hw
    simp only [Bool.false_eq_true, if_false] at hw
    obtain ⟨e1, e2⟩ := spent_cut (s := s) (by omega)
    obtain ⟨q1, q2⟩ := write_eq hw hl
    by_cases hc : s.cut = 1
    · rw [decide_eq_true hc] at e2
      rw [q1, q2, e2]
      exact .inl ⟨rfl, h1, by omega, by simp [e2]⟩
    · rw [decide_eq_false hc] at e2
      rw [q1, q2, e2]
      exact .inr ⟨rfl, ⟨.inr (.inl ⟨h1, by simp [wrote, e2], by simp [wrote]; omega, by simp [wrote]; omega⟩)⟩, by simp [wrote, e2], by omega⟩
  · rw [if_pos h2] at hw
    have q : writeE s i l = 7 ∧ writeS s i l = s := by simp [writeE, writeS, hw]
    rw [q.1, q.2]
    exact .inl ⟨rfl, h1, h3, h2⟩
theorem cut_flush {n done : Nat} {s : Dk} (h : CutAt n done s) (hd : s.down = false) :
    (flushE s = 7 ∧ 0 < n ∧ done + 1 = n ∧ (flushS s).down = true) ∨ (flushE s = 0 ∧ CutAt n (done + 1) (flushS s) ∧ (flushS s).down = false ∧ (0 < n → done + 2 ≤ n)) := by
  obtain ⟨q1, q2⟩ := flush_eq hd
  rcases h.k with ⟨h1, h2, h3⟩ | ⟨h1, h2, h3, h4⟩ | ⟨h1, h2, h3⟩
  · have e : spent s = s := spent_zero h3
    rw [q1, q2, e, h2]
    refine .inr ⟨rfl, ⟨.inl ⟨h1, ?_, ?_⟩⟩, ?_, by omega⟩ <;> simp [flushed, e, h2, h3]
  · obtain ⟨e1, e2⟩ := spent_cut (s := s) (by omega)
    by_cases hc : s.cut = 1
    · rw [decide_eq_true hc] at e2
      rw [q1, q2, e2]
      exact .inl ⟨rfl, h1, by omega, by simp [e2]⟩
    · rw [decide_eq_false hc] at e2
      rw [q1, q2, e2]
      exact .inr ⟨rfl, ⟨.inr (.inl ⟨h1, by simp [flushed, e2], by simp [flushed]; omega, by simp [flushed]; omega⟩)⟩, by simp [flushed, e2], by omega⟩
  · rw [hd] at h2; cases h2
theorem cut_down {n done : Nat} {s : Dk} (h0 : 0 < n) (h1 : done + 1 = n) (hd : s.down = true) : CutAt n done s := ⟨.inr (.inr ⟨h0, hd, h1⟩)⟩
theorem cut_le {n done : Nat} {s : Dk} (h : CutAt n done s) : n = 0 ∨ done + 1 ≤ n := by
  rcases h.k with ⟨h1, h2, h3⟩ | ⟨h1, h2, h3, h4⟩ | ⟨h1, h2, h3⟩ <;> omega
theorem writeS_len (s : Dk) (i : Int) (l : List UInt8) : (writeS s i l).sure.length = s.sure.length := by
  unfold writeS
  split
  · rfl
  · split
    · rfl
    · split
      · rw [spent_sure]
      · simp only [wrote]; rw [spent_sure]
theorem flushS_len (s : Dk) : (flushS s).sure.length = s.sure.length := by
  unfold flushS
  split
  · rfl
  · split
    · rw [spent_sure]
    · simp only [flushed]; rw [laid_len]
end Go.Proofs.Ytklodimokhndoaa
