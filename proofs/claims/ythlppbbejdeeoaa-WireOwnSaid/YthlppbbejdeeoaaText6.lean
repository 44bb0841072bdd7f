/- The walks of text.plain and text.width; a text's letters. Conditions: the lengths named in each theorem. -/
import Derived.Test.YthlppbbejdeeoaaText3
import Derived.Lib.MapLaws
import Derived.Lib.RuneCountTail
namespace Go.Proofs.Ythlppbbejdeeoaa
open Go.RowKit
def plainB (c w : Int) : Bool := decide (32 ≤ c ∧ c ≠ 127 ∧ (c ≠ 65533 ∨ w = 3))
theorem plain_any (c n : Int) (w : World) : Calls Try.prog 68 #[.int .i32 c, .int .i64 n] w fun e w' => e = .returned (.bool (plainB c n)) ∧ w = w' := by
  unfold plainB
  by_cases h1 : 32 ≤ c
  · by_cases h2 : c = 127
    · have e2 : (c != 127) = false := by rw [h2]; rfl
      have HR : Hid (decide (32 ≤ c ∧ c ≠ 127 ∧ (c ≠ 65533 ∨ n = 3)) = false) := Lib.hid (decide_eq_false (by omega))
      rw [HR.out]
      clear h2
      go_enter Try.func68, Try.ntmps68
      go_wp2
      go_ret
      exact ⟨rfl, rfl⟩
    · have e2 : (c != 127) = true := by simpa using h2
      by_cases h3 : c = 65533
      · have e3 : (c != 65533) = false := by rw [h3]; rfl
        by_cases h4 : n = 3
        · have e4 : (n == 3) = true := by rw [h4]; rfl
          have HR : Hid (decide (32 ≤ c ∧ c ≠ 127 ∧ (c ≠ 65533 ∨ n = 3)) = true) := Lib.hid (decide_eq_true (by omega))
          rw [HR.out]
          clear h2 h3 h4
          go_enter Try.func68, Try.ntmps68
          go_wp2
          go_ret
          exact ⟨rfl, rfl⟩
        · have e4 : (n == 3) = false := beq_eq_false_iff_ne.2 h4
          have HR : Hid (decide (32 ≤ c ∧ c ≠ 127 ∧ (c ≠ 65533 ∨ n = 3)) = false) := Lib.hid (decide_eq_false (by omega))
          rw [HR.out]
          clear h2 h3 h4
          go_enter Try.func68, Try.ntmps68
          go_wp2
          go_ret
          exact ⟨rfl, rfl⟩
      · have e3 : (c != 65533) = true := by simpa using h3
        have HR : Hid (decide (32 ≤ c ∧ c ≠ 127 ∧ (c ≠ 65533 ∨ n = 3)) = true) := Lib.hid (decide_eq_true (by omega))
        rw [HR.out]
        clear h2 h3
        go_enter Try.func68, Try.ntmps68
        go_wp2
        go_ret
        exact ⟨rfl, rfl⟩
  · have HR : Hid (decide (32 ≤ c ∧ c ≠ 127 ∧ (c ≠ 65533 ∨ n = 3)) = false) := Lib.hid (decide_eq_false (by omega))
    rw [HR.out]
    have h1' : c < 32 := by omega
    go_enter Try.func68, Try.ntmps68
    go_wp2
    go_ret
    exact ⟨rfl, rfl⟩
theorem dec_at (s : ByteArray) (pos : Nat) : Utf8.decode s pos = Lib.decodeL ((tl s).drop pos) := (Lib.decodeL_drop s pos).symm
theorem dec_pos (s : ByteArray) (pos : Nat) (h : pos < s.size) : 1 ≤ (Utf8.decode s pos).2 := Lib.decode_width_pos s pos h
theorem dec_le (s : ByteArray) (pos : Nat) (h : pos < s.size) : pos + (Utf8.decode s pos).2 ≤ s.size := by
  rw [dec_at]
  have := Lib.decodeL_le ((tl s).drop pos) (by
    intro e
    have := congrArg List.length e
    simp at this
    omega)
  simp at this
  omega
set_option maxHeartbeats 400000 in
theorem width_any (s : ByteArray) (k : Nat) (w : World) (hs : s.size ≤ 140737488355328) (hk : k < s.size) : Calls Try.prog 69 #[.string s, .int .i64 k] w fun e w' => e = .returned (.int .i64 ((Utf8.decode s k).2 : Nat)) ∧ Ext w w' := by
  have hw1 := dec_pos s k hk
  have hw2 := dec_le s k hk
  have ht := Lib.tail_decode s k 0
  have hsz := Lib.tail_size s k
  rw [Nat.add_zero] at ht
  have h0 : (0 : Int) ≤ (k : Int) := by omega
  have h1 : (k : Int) ≤ s.size := by omega
  obtain ⟨t, hT⟩ : ∃ t, t = s.extract k s.size := ⟨_, rfl⟩
  have hit0 : It (w.iter t 0) w.heap.size t 0 := World.iter_heap w _ 0
  have hx0 : Ext w (w.iter t 0) := (Ext.refl w).alloc _
  rw [← hT] at ht hsz
  have hts1 : t.size ≤ s.size - k := by omega
  have hts2 : s.size - k ≤ t.size := by omega
  have HT := Lib.hid hT
  have HD := Lib.hid ht
  generalize hWd : (Utf8.decode s k).2 = W at *
  have HW := Lib.hid hWd
  clear ht hsz hWd
  go_enter Try.func69, Try.ntmps69
  go_wp2
  rw [← hT]
  clear hT
  go_loopw [] (fun wr => ∃ pos : Nat, (pos = 0 ∨ pos = W) ∧ It wr w.heap.size t pos ∧ Ext w wr) (fun wr => t.size + 1 - wr.iterPos w.heap.size)
  case atStart => exact ⟨0, .inl rfl, hit0, hx0⟩
  case round =>
    obtain ⟨pos, hpos, hit, hx⟩ := hrel
    clear hit0 hx0
    have HPOS := Lib.hid (iterPos_of hit)
    rcases hpos with rfl | rfl
    · have hlt : 0 < t.size := by omega
      have hnx := hit.next hlt
      have hit2 := hit.at_ (0 + (Utf8.decode t 0).2)
      have hx2 := hx.iterAt (pos := 0 + (Utf8.decode t 0).2) (s := t) (Nat.le_refl w.heap.size)
      have hW2 : 0 + (Utf8.decode t 0).2 = W := by rw [HD.out, Nat.zero_add]; exact HW.out
      rw [hW2] at hnx hit2 hx2
      have HPOS2 := Lib.hid (iterPos_of hit2)
      clear hW2
      go_wp2
      go_roundw
      case rel => exact ⟨W, .inr rfl, hit2, hx2⟩
      case measure => rw [HPOS2.out, HPOS.out]; omega
    · by_cases hlt : pos < t.size
      · have hnx := hit.next hlt
        have hx2 := hx.iterAt (pos := pos + (Utf8.decode t pos).2) (s := t) (Nat.le_refl w.heap.size)
        have h2 : (0 : Int) < (pos : Int) := by omega
        go_wp2
        go_ret
        exact ⟨rfl, hx2⟩
      · have hst := hit.stop hlt
        go_wp2
        go_ret
        exact ⟨ret_int (by omega), hx⟩
/-! ## letters: what decodes, and its bytes -/
def letF : Nat → List UInt8 → List (Nat × List UInt8)
  | 0, _ => []
  | _ + 1, [] => []
  | f + 1, c :: l => ((Lib.decodeL (c :: l)).1, (c :: l).take (Lib.decodeL (c :: l)).2) :: letF f ((c :: l).drop (Lib.decodeL (c :: l)).2)
def letL (l : List UInt8) : List (Nat × List UInt8) := letF l.length l
theorem decL_pos (l : List UInt8) (h : l ≠ []) : 1 ≤ (Lib.decodeL l).2 := by
  have := dec_pos (st l) 0 (by simp [st_size]; exact List.length_pos_iff.2 h)
  rw [dec_at] at this
  simpa using this
theorem letF_fuel : ∀ (f g : Nat) (l : List UInt8), l.length ≤ f → l.length ≤ g → letF f l = letF g l := by
  intro f
  induction f with
  | zero =>
    intro g l h _
    have : l = [] := List.eq_nil_of_length_eq_zero (by omega)
    subst this
    cases g <;> rfl
  | succ f ih =>
    intro g l h1 h2
    cases l with
    | nil => cases g <;> rfl
    | cons c l =>
      cases g with
      | zero => simp at h2
      | succ g =>
        simp only [letF]
        have hp := decL_pos (c :: l) (by simp)
        rw [ih g _ (by simp only [List.length_drop, List.length_cons] at *; omega) (by simp only [List.length_drop, List.length_cons] at *; omega)]
theorem letL_nil : letL [] = [] := rfl
theorem letL_step (l : List UInt8) (h : l ≠ []) : letL l = ((Lib.decodeL l).1, l.take (Lib.decodeL l).2) :: letL (l.drop (Lib.decodeL l).2) := by
  cases l with
  | nil => exact absurd rfl h
  | cons c l =>
    have hp := decL_pos (c :: l) (by simp)
    unfold letL
    simp only [List.length_cons, letF]
    rw [letF_fuel l.length _ _ (by simp only [List.length_drop, List.length_cons]; omega) (Nat.le_refl _)]
end Go.Proofs.Ythlppbbejdeeoaa
