/- What the disk's calls answer, whatever is asked. Conditions: those of Disk; the disk is small. -/
import Derived.Test.YtklodimokhndoaaChecked
import Derived.Test.YtklodimokhndoaaDk8
namespace Go.Proofs.Ytklodimokhndoaa
open Go.RowKit
/-- a disk on which at most n deeds were done -/
structure Dk.Few (s : Dk) (n : Nat) : Prop where
  waits : s.waits.length ≤ n
  age : s.age ≤ n
  cut : s.cut ≤ 9223372036854775807
theorem Dk.Few.mono {s : Dk} {n m : Nat} (h : s.Few n) (hm : n ≤ m) : s.Few m := ⟨Nat.le_trans h.waits hm, Nat.le_trans h.age hm, h.cut⟩
theorem spent_few {s : Dk} {n : Nat} (h : s.Few n) : (spent s).Few n := by
  refine ⟨by rw [spent_waits]; exact h.waits, by rw [spent_age]; exact h.age, ?_⟩
  unfold spent
  split
  · exact h.cut
  · have := h.cut; simp only; omega
theorem spent_ok {s : Dk} (h : s.Ok) : (spent s).Ok := Dk.Ok.mk (by rw [spent_sure]; exact h.page) (by rw [spent_sure, spent_waits]; exact h.wait) (by rw [spent_sure]; exact h.n1) (by rw [spent_sure]; exact h.n2)
def writeE (s : Dk) (i : Int) (l : List UInt8) : Int := if wrongE s i true ≠ 0 then wrongE s i true else if 64 < l.length then 6 else if (spent s).down = true then 7 else 0
def writeS (s : Dk) (i : Int) (l : List UInt8) : Dk := if wrongE s i true ≠ 0 then s else if 64 < l.length then s else if (spent s).down = true then spent s else wrote s i.toNat l
def flushE (s : Dk) : Int := if s.down = true then 7 else if (spent s).down = true then 7 else 0
def flushS (s : Dk) : Dk := if s.down = true then s else if (spent s).down = true then spent s else flushed s
def cutE (s : Dk) (n : Int) : Int := if s.down = true then 7 else if n < 0 then 2 else 0
def cutS (s : Dk) (n : Int) : Dk := if s.down = true ∨ n < 0 then s else ⟨s.sure, s.waits, s.down, n.toNat, s.age⟩
def readL (s : Dk) (i : Int) : List UInt8 := if wrongE s i true ≠ 0 then [] else readS s i.toNat
def sureL (s : Dk) (i : Int) : List UInt8 := if wrongE s i false ≠ 0 then [] else s.sure.getD i.toNat []
theorem wrong_in {s : Dk} {i : Int} {b : Bool} (h : wrongE s i b = 0) : (b = true → s.down = false) ∧ 0 ≤ i ∧ i < s.sure.length := by
  unfold wrongE at h
  split at h
  · cases h
  · rename_i h1
    split at h
    · rename_i h2
      refine ⟨fun hb => ?_, h2⟩
      subst hb
      simpa using h1
    · cases h
theorem writeS_ok {s : Dk} (h : s.Ok) (i : Int) (l : List UInt8) : (writeS s i l).Ok := by
  unfold writeS
  split
  · exact h
  · rename_i h1
    split
    · exact h
    · rename_i h2
      split
      · exact spent_ok h
      · have h0 := wrong_in (Decidable.not_not.1 h1)
        refine Dk.Ok.mk (by simpa [wrote] using (spent_ok h).page) (fun x hx => ?_) (by simpa [wrote] using (spent_ok h).n1) (by simpa [wrote] using (spent_ok h).n2)
        simp only [wrote, List.mem_append, List.mem_singleton] at hx
        rcases hx with hx | rfl
        · exact (spent_ok h).wait x hx
        · refine ⟨padL_len (by omega), ?_⟩
          simp only [wrote]
          rw [spent_sure]
          omega
theorem writeS_few {s : Dk} {n : Nat} (h : s.Few n) (i : Int) (l : List UInt8) : (writeS s i l).Few (n + 1) := by
  unfold writeS
  split
  · exact h.mono (by omega)
  · split
    · exact h.mono (by omega)
    · split
      · exact (spent_few h).mono (by omega)
      · have := spent_few h
        exact ⟨by simp [wrote]; exact this.waits, by simp [wrote]; have := this.age; omega, this.cut⟩
theorem flushS_ok {s : Dk} (h : s.Ok) : (flushS s).Ok := by
  unfold flushS
  split
  · exact h
  · split
    · exact spent_ok h
    · exact flushed_ok h
theorem flushS_few {s : Dk} {n : Nat} (h : s.Few n) : (flushS s).Few (n + 1) := by
  unfold flushS
  split
  · exact h.mono (by omega)
  · split
    · exact (spent_few h).mono (by omega)
    · exact ⟨by simp [flushed], by have := h.age; simp only [flushed]; omega, (spent_few h).cut⟩
theorem cutS_ok {s : Dk} (h : s.Ok) (n : Int) : (cutS s n).Ok := by
  unfold cutS
  split
  · exact h
  · exact Dk.Ok.mk h.page h.wait h.n1 h.n2
theorem cutS_few {s : Dk} {k : Nat} (h : s.Few k) {n : Int} (hn : n ≤ 9223372036854775807) : (cutS s n).Few (k + 1) := by
  unfold cutS
  split
  · exact h.mono (by omega)
  · exact ⟨by have := h.waits; simp only; omega, by have := h.age; simp only; omega, by simp only; omega⟩
theorem crashed_few {s : Dk} {k : Nat} (h : s.Few k) (C : Cr) : (crashed s C).Few (k + 1) := ⟨by simp [crashed], by have := h.age; simp only [crashed]; omega, by simp [crashed]⟩
section
variable {B : List Nat} {w : World} {p : Nat} {s : Dk} {n : Nat}
theorem Write_any (h : Disk B w p s) (hs : s.Ok) (hf : s.Few n) (hn : n ≤ 1000000) (i : Int) (A : Option Addr) (c : Nat) (l : List UInt8) (hb : BsM B w A l) :
    Calls Try.prog 51 #[pt p, .int .i64 i, .slice A l.length c] w fun e w' => ∃ B', e = .returned (.int .i64 (writeE s i l)) ∧ Disk B' w' p (writeS s i l) ∧ Turn B w B' w' := by
  obtain ⟨g, cap, v, h⟩ := h
  unfold writeE writeS
  by_cases h1 : wrongE s i true ≠ 0
  · simp only [if_pos h1]
    exact (Write_no w h i _ h1).mono fun e w' ⟨he, hx⟩ => ⟨B, he, ⟨g, cap, v, h.ext hx⟩, .of_ext hx⟩
  · simp only [if_neg h1]
    have h1 := Decidable.not_not.1 h1
    by_cases h2 : 64 < l.length
    · simp only [if_pos h2]
      exact (Write_long w h i A _ c h1 h2).mono fun e w' ⟨he, hx⟩ => ⟨B, he, ⟨g, cap, v, h.ext hx⟩, .of_ext hx⟩
    · simp only [if_neg h2]
      obtain ⟨h3, h4, h5⟩ := wrong_in h1
      by_cases h6 : (spent s).down = true
      · simp only [if_pos h6]
        exact (Write_off w h (h3 rfl) hf.cut i A _ c h1 (by omega) h6).mono fun e w' ⟨he, hk, hd⟩ => ⟨B, he, ⟨g, cap, v, hd⟩, .of_kept (hk.mono h.sub.1)⟩
      · simp only [if_neg h6]
        obtain ⟨k, rfl⟩ : ∃ k : Nat, i = k := ⟨i.toNat, by omega⟩
        exact Write_ok w h hs (h3 rfl) k (by omega) (by have := hf.waits; omega) hf.cut A c l (by omega) hb (by simpa using h6)
theorem Flush_any (h : Disk B w p s) (hs : s.Ok) (hf : s.Few n) (hn : n ≤ 1000000) :
    Calls Try.prog 52 #[pt p] w fun e w' => e = .returned (.int .i64 (flushE s)) ∧ Disk B w' p (flushS s) ∧ Turn B w B w' := by
  obtain ⟨g, cap, v, h⟩ := h
  unfold flushE flushS
  by_cases h1 : s.down = true
  · simp only [if_pos h1]
    exact (Flush_no w h h1).mono fun e w' ⟨he, hx⟩ => ⟨he, ⟨g, cap, v, h.ext hx⟩, .of_ext hx⟩
  · simp only [if_neg h1]
    have h1 : s.down = false := by simpa using h1
    by_cases h6 : (spent s).down = true
    · simp only [if_pos h6]
      exact (Flush_off w h hs h1 hf.cut h6).mono fun e w' ⟨he, hk, hd⟩ => ⟨he, ⟨g, cap, v, hd⟩, .of_kept (hk.mono h.sub.1)⟩
    · simp only [if_neg h6]
      exact (Flush_ok w h hs h1 hf.cut (by have := hf.waits; omega) (by simpa using h6)).mono fun e w' ⟨he, hk, hd⟩ => ⟨he, ⟨g, cap, _, hd⟩, .of_kept hk⟩
theorem Cut_all (h : Disk B w p s) (hs : s.Ok) (i : Int) : Calls Try.prog 22 #[pt p, .int .i64 i] w fun e w' => e = .returned (.int .i64 (cutE s i)) ∧ Disk B w' p (cutS s i) ∧ Turn B w B w' := by
  obtain ⟨g, cap, v, h⟩ := h
  exact (Cut_any w h hs.n1 i).mono fun e w' ⟨he, hk, hd⟩ => ⟨he, ⟨g, cap, v, hd⟩, .of_kept (hk.mono h.sub.1)⟩
theorem Crash_all (h : Disk B w p s) (hs : s.Ok) (hf : s.Few n) (hn : n ≤ 1000000) (C : Cr) (KA : Option Addr) (kc : Nat) (hK : SlM B w KA (bo C.keep)) (hkl : C.keep.length ≤ 9223372036854775807) :
    Calls Try.prog 43 #[pt p, .agg #[.slice KA C.keep.length kc, .int .i64 C.torn, .int .i64 C.at_]] w fun e w' => e = .returned (.int .i64 0) ∧ Disk B w' p (crashed s C) ∧ Turn B w B w' := by
  obtain ⟨g, cap, v, h⟩ := h
  exact (Crash_any w h hs (by have := hf.waits; omega) (by have := hf.age; omega) C KA kc hK hkl).mono fun e w' ⟨he, hk, hd⟩ => ⟨he, ⟨g, cap, _, hd⟩, .of_kept hk⟩
/-- a page of the call's own that reads as l, or nothing -/
def Fresh (w w' : World) (A : Option Addr) (l : List UInt8) : Prop := (A = none ∧ l = []) ∨ ∃ g, A = some ⟨g, 0, none⟩ ∧ w.heap.size ≤ g ∧ l.length = 64 ∧ w'.heap[g]? = some (.cells (bv l).toArray 104 (0, 0))
theorem Fresh.ext {w w' w'' : World} {A : Option Addr} {l : List UInt8} (h : Fresh w w' A l) (hx : Ext w' w'') : Fresh w w'' A l := by
  rcases h with h | ⟨g, h1, h2, h3, h4⟩
  · exact .inl h
  · exact .inr ⟨g, h1, h2, h3, hx.obj h4⟩
theorem Fresh.bsM {w w' : World} {A : Option Addr} {l : List UInt8} (h : Fresh w w' A l) {M : List Nat} (hM : ∀ k ∈ M, k < w.heap.size) : BsM M w' A l := by
  rcases h with ⟨rfl, rfl⟩ | ⟨g, rfl, h2, h3, h4⟩
  · exact SlM.nil _ _ _
  · intro k v hk
    refine ⟨_, rfl, fun hm => ?_, ?_⟩
    · have := hM _ hm
      simp only at this
      omega
    · have : (⟨g, 0, none⟩ : Addr).add k = ⟨g, k, none⟩ := by unfold Addr.add; split <;> simp_all
      rw [this, cell_of_row w' g k _ _ _ h4]
      simpa using hk
theorem Read_any (h : Disk B w p s) (hs : s.Ok) (hf : s.Few n) (hn : n ≤ 1000000) (i : Int) :
    Calls Try.prog 27 #[pt p, .int .i64 i] w fun e w' => ∃ A c, e = .returned (.tuple #[.slice A (readL s i).length c, .int .i64 (wrongE s i true)]) ∧ Fresh w w' A (readL s i) ∧ Ext w w' ∧ (readL s i).length ≤ c ∧ c ≤ 64 := by
  obtain ⟨g, cap, v, h⟩ := h
  unfold readL
  by_cases h1 : wrongE s i true ≠ 0
  · simp only [if_pos h1]
    exact (Read_no w h i h1).mono fun e w' ⟨he, hx⟩ => ⟨none, 0, he, .inl ⟨rfl, rfl⟩, hx, by simp, by omega⟩
  · simp only [if_neg h1]
    have h1 := Decidable.not_not.1 h1
    obtain ⟨h3, h4, h5⟩ := wrong_in h1
    obtain ⟨k, rfl⟩ : ∃ k : Nat, i = k := ⟨i.toNat, by omega⟩
    rw [h1]
    have hl : (readS s k).length = 64 := by have := readS_len hs (i := k) (by omega) s.waits.length; rwa [List.take_length] at this
    rw [Int.toNat_natCast, hl]
    exact (Read_ok w h hs (h3 rfl) k (by omega) (by have := hf.waits; omega)).mono fun e w' ⟨g', he, hx, hg, hr⟩ => ⟨_, 64, he, .inr ⟨g', rfl, hg, hl, hr⟩, hx, by omega, by omega⟩
end
end Go.Proofs.Ytklodimokhndoaa
