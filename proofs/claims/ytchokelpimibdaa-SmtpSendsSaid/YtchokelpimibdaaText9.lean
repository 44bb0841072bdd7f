/- What text.Unquote tells; a rune's bytes. Conditions: the hypotheses of each theorem. -/
import Derived.Test.YtchokelpimibdaaText7
import Derived.Laws.Runes
import Derived.Lib.AppendStr
namespace Go.Proofs.Ytchokelpimibdaa
open Go.RowKit
def validN (r : Nat) : Prop := r < 55296 ∨ (57343 < r ∧ r ≤ 1114111)
theorem dec_valid (s : ByteArray) (k : Nat) : validN (Utf8.decode s k).1 := by
  have h := Lib.decodeN_valid (s.size - k) (s.get! k).toNat (s.get! (k + 1)).toNat (s.get! (k + 2)).toNat (s.get! (k + 3)).toNat (UInt8.toNat_lt _)
  rw [← Lib.decode_at] at h
  exact h
theorem ofadd (a b : Nat) (z : Int) (h : z.toNat = a + b) : UInt8.ofNat a + UInt8.ofNat b = UInt8.ofNat z.toNat := by rw [h, UInt8.ofNat_add]
theorem runU (r : Nat) (h : validN r) : Utf8.encode (r : Int) = st (runE r) := by
  unfold validN at h
  have hv : Utf8.valid (r : Int) = true := by
    rw [validRune_eq]
    unfold validRune
    simp only [decide_eq_true_eq]
    omega
  apply ByteArray.ext
  unfold Utf8.encode runE Lib.encodeRune
  simp only [hv, if_true, Int.toNat_natCast]
  by_cases h1 : r < 128
  · rw [Lib.encodeRuneZ_one (by omega) (by omega), if_pos h1]
    simp [st]
  · by_cases h2 : r < 2048
    · rw [Lib.encodeRuneZ_two (by omega) (by omega), if_neg h1, if_pos h2]
      simp [st]
      exact ⟨ofadd 192 _ _ (by omega), ofadd 128 _ _ (by omega)⟩
    · by_cases h3 : r < 65536
      · rw [Lib.encodeRuneZ_three (by omega), if_neg h1, if_neg h2, if_pos h3]
        simp [st]
        exact ⟨ofadd 224 _ _ (by omega), ofadd 128 _ _ (by omega), ofadd 128 _ _ (by omega)⟩
      · rw [Lib.encodeRuneZ_four (by omega) (by omega), if_neg h1, if_neg h2, if_neg h3]
        simp [st]
        exact ⟨ofadd 240 _ _ (by omega), ofadd 128 _ _ (by omega), ofadd 128 _ _ (by omega), ofadd 128 _ _ (by omega)⟩
/-- the bytes of a plain letter are those of its rune -/
theorem plain_bytes (s : ByteArray) (pos : Nat) (hp : pos < s.size) (h : plainB ((Utf8.decode s pos).1 : Int) ((Utf8.decode s pos).2 : Nat) = true) : runE (Utf8.decode s pos).1 = ((tl s).drop pos).take (Utf8.decode s pos).2 := by
  have hne : (tl s).drop pos ≠ [] := by
    intro e
    have := congrArg List.length e
    simp at this
    omega
  unfold plainB at h
  simp only [decide_eq_true_eq] at h
  have := Lib.encode_decode ((tl s).drop pos) hne (by rw [← dec_at]; omega)
  rw [← dec_at] at this
  exact this
theorem plain_len (s : ByteArray) (pos : Nat) (hp : pos < s.size) (h : plainB ((Utf8.decode s pos).1 : Int) ((Utf8.decode s pos).2 : Nat) = true) : (runE (Utf8.decode s pos).1).length = (Utf8.decode s pos).2 := by
  rw [plain_bytes s pos hp h]
  have := dec_le s pos hp
  simp
  omega
/-! ## what Unquote tells -/
def unqF : List (Nat × List UInt8) → Nat → Bool → List UInt8 → Nat → List UInt8 × Nat × Nat
  | [], place, _, _, _ => ([], place, 3)
  | (c, b) :: ds, place, sign, out, at_ =>
    if (place = 0 ∧ c ≠ 34) ∨ (sign = true ∧ c ≠ 34 ∧ c ≠ 92) ∨ plnL (c, b) = false then ([], place, 4)
    else if place = 0 then unqF ds (place + 1) sign out (at_ + b.length)
    else if sign = false ∧ c = 92 then unqF ds (place + 1) true out (at_ + b.length)
    else if sign = false ∧ c = 34 then (if 1024 < out.length then ([], 0, 6) else (out, at_ + 1, 0))
    else unqF ds (place + 1) false (out ++ runE c) (at_ + b.length)
def unqT (l : List UInt8) : List UInt8 × Nat × Nat := unqF (letL l) 0 false [] 0
def USays (l : List UInt8) (w : World) (e : Ending) (w' : World) : Prop := e = .returned (.tuple #[.string (st (unqT l).1), .int .i64 ((unqT l).2.1 : Nat), .int .i64 ((unqT l).2.2 : Nat)]) ∧ Ext w w'
/-- where Unquote stands -/
structure UAt (l : List UInt8) (pos place : Nat) (sign : Bool) (out : List UInt8) : Prop where
  le : pos ≤ l.length
  num : place ≤ pos
  len : out.length ≤ pos
  eq : unqT l = unqF (letL (l.drop pos)) place sign out pos
  sg : place = 0 → sign = false
theorem UAt.zero (l : List UInt8) : UAt l 0 0 false [] := ⟨by omega, by omega, by simp, by simp [unqT], fun _ => rfl⟩
theorem UAt.done {s : ByteArray} {w w' : World} {pos place : Nat} {sign : Bool} {out : List UInt8} (h : UAt (tl s) pos place sign out) (hp : ¬ pos < s.size) (hx : Ext w w') : USays (tl s) w (.returned (.tuple #[.string ⟨#[]⟩, .int .i64 (place : Nat), .int .i64 3])) w' := by
  have e : (tl s).drop pos = [] := List.drop_eq_nil_of_le (by simp; omega)
  unfold USays
  rw [h.eq, e, letL_nil]
  exact ⟨rfl, hx⟩
/-- the letter that stands here -/
theorem UAt.step {s : ByteArray} {pos place : Nat} {sign : Bool} {out : List UInt8} (h : UAt (tl s) pos place sign out) (hp : pos < s.size) {c W : Nat} (hc : (Utf8.decode s pos).1 = c) (hW : (Utf8.decode s pos).2 = W) :
    ∃ b, b.length = W ∧ pos + W ≤ (tl s).length ∧ unqT (tl s) = unqF ((c, b) :: letL ((tl s).drop (pos + W))) place sign out pos := by
  subst hc hW
  have h2 := dec_le s pos hp
  have hne : (tl s).drop pos ≠ [] := by
    intro e
    have := congrArg List.length e
    simp at this
    omega
  have hs := letL_step _ hne
  rw [← dec_at s pos, List.drop_drop] at hs
  refine ⟨((tl s).drop pos).take (Utf8.decode s pos).2, by simp; omega, by simpa using h2, by rw [h.eq, hs]⟩
section
variable {s : ByteArray} {pos place c W : Nat} {sign : Bool} {out : List UInt8} {w w' : World}
theorem UAt.bad (h : UAt (tl s) pos place sign out) (hp : pos < s.size) (hc : (Utf8.decode s pos).1 = c) (hW : (Utf8.decode s pos).2 = W)
    (hb : (place = 0 ∧ c ≠ 34) ∨ (sign = true ∧ c ≠ 34 ∧ c ≠ 92) ∨ plainB (c : Int) (W : Nat) = false) (hx : Ext w w') : USays (tl s) w (.returned (.tuple #[.string ⟨#[]⟩, .int .i64 (place : Nat), .int .i64 4])) w' := by
  obtain ⟨b, hb1, hb2, hb3⟩ := h.step hp hc hW
  unfold USays
  rw [hb3]
  unfold unqF
  rw [if_pos (by unfold plnL; rw [hb1]; exact hb)]
  exact ⟨rfl, hx⟩
theorem UAt.first (h : UAt (tl s) pos 0 sign out) (hp : pos < s.size) (hc : (Utf8.decode s pos).1 = c) (hW : (Utf8.decode s pos).2 = W) (h1 : 1 ≤ W)
    (hc34 : c = 34) (hs : sign = false) (hpl : plainB (c : Int) (W : Nat) = true) : UAt (tl s) (pos + W) 1 sign out := by
  obtain ⟨b, hb1, hb2, hb3⟩ := h.step hp hc hW
  have hnum := h.num
  have hlen := h.len
  refine ⟨hb2, by omega, by omega, ?_, by omega⟩
  rw [hb3]
  conv => lhs; unfold unqF
  rw [if_neg (by unfold plnL; rw [hb1, hpl, hs]; simp [hc34]), if_pos rfl, hb1]
theorem UAt.esc (h : UAt (tl s) pos place sign out) (hp : pos < s.size) (hc : (Utf8.decode s pos).1 = c) (hW : (Utf8.decode s pos).2 = W) (h1 : 1 ≤ W)
    (h0 : place ≠ 0) (hc92 : c = 92) (hs : sign = false) (hpl : plainB (c : Int) (W : Nat) = true) : UAt (tl s) (pos + W) (place + 1) true out := by
  obtain ⟨b, hb1, hb2, hb3⟩ := h.step hp hc hW
  have hnum := h.num
  have hlen := h.len
  refine ⟨hb2, by omega, by omega, ?_, by omega⟩
  rw [hb3]
  conv => lhs; unfold unqF
  rw [if_neg (by unfold plnL; rw [hb1, hpl, hs]; simp [h0]), if_neg h0, if_pos ⟨hs, hc92⟩, hb1]
theorem UAt.more (h : UAt (tl s) pos place sign out) (hp : pos < s.size) (hc : (Utf8.decode s pos).1 = c) (hW : (Utf8.decode s pos).2 = W) (h1 : 1 ≤ W)
    (h0 : place ≠ 0) (hs : (sign = false ∧ c ≠ 34 ∧ c ≠ 92) ∨ (sign = true ∧ (c = 34 ∨ c = 92))) (hpl : plainB (c : Int) (W : Nat) = true) : UAt (tl s) (pos + W) (place + 1) false (out ++ runE c) := by
  obtain ⟨b, hb1, hb2, hb3⟩ := h.step hp hc hW
  have hnum := h.num
  have hlen := h.len
  have hl : (runE c).length = W := by
    subst hc hW
    exact plain_len s pos hp hpl
  refine ⟨hb2, by omega, by simp; omega, ?_, by omega⟩
  rw [hb3]
  conv => lhs; unfold unqF
  rw [if_neg (by unfold plnL; rw [hb1, hpl]; rcases hs with ⟨hs, h2, h3⟩ | ⟨hs, h2 | h2⟩ <;> simp [h0, hs, h2]), if_neg h0, if_neg (by rcases hs with ⟨hs, h2, h3⟩ | ⟨hs, h2⟩ <;> simp [hs]; exact h3), if_neg (by rcases hs with ⟨hs, h2, h3⟩ | ⟨hs, h2⟩ <;> simp [hs]; exact h2), hb1]
theorem UAt.end_ (h : UAt (tl s) pos place sign out) (hp : pos < s.size) (hc : (Utf8.decode s pos).1 = c) (hW : (Utf8.decode s pos).2 = W)
    (h0 : place ≠ 0) (hs : sign = false) (hc34 : c = 34) (hpl : plainB (c : Int) (W : Nat) = true) : unqT (tl s) = if 1024 < out.length then ([], 0, 6) else (out, pos + 1, 0) := by
  obtain ⟨b, hb1, hb2, hb3⟩ := h.step hp hc hW
  rw [hb3]
  unfold unqF
  rw [if_neg (by unfold plnL; rw [hb1, hpl, hs]; simp [hc34]), if_neg h0, if_neg (by simp [hc34]), if_pos ⟨hs, hc34⟩]
theorem UAt.long (h : UAt (tl s) pos place sign out) (hp : pos < s.size) (hc : (Utf8.decode s pos).1 = c) (hW : (Utf8.decode s pos).2 = W)
    (h0 : place ≠ 0) (hs : sign = false) (hc34 : c = 34) (hpl : plainB (c : Int) (W : Nat) = true) (hl : 1024 < out.length) (hx : Ext w w') : USays (tl s) w (.returned (.tuple #[.string ⟨#[]⟩, .int .i64 0, .int .i64 6])) w' := by
  unfold USays
  rw [h.end_ hp hc hW h0 hs hc34 hpl, if_pos hl]
  exact ⟨rfl, hx⟩
theorem UAt.fin (h : UAt (tl s) pos place sign out) (hp : pos < s.size) (hc : (Utf8.decode s pos).1 = c) (hW : (Utf8.decode s pos).2 = W)
    (h0 : place ≠ 0) (hs : sign = false) (hc34 : c = 34) (hpl : plainB (c : Int) (W : Nat) = true) (hl : ¬ 1024 < out.length) (hx : Ext w w') : USays (tl s) w (.returned (.tuple #[.string (st out), .int .i64 ((pos + 1 : Nat) : Int), .int .i64 0])) w' := by
  unfold USays
  rw [h.end_ hp hc hW h0 hs hc34 hpl, if_neg hl]
  exact ⟨rfl, hx⟩
end
theorem It.grown {w w' : World} {g pos base : Nat} {s : ByteArray} {v : Value} {l : List UInt8} (h : It w g s pos) (ho : Own w base v l) (hg : w.grownBy w' v.ownBlock) : It w' g s pos := by
  have hlt : g < w.heap.size := (Array.getElem?_eq_some_iff.1 h).1
  unfold It
  rw [hg.block g hlt ?_]
  · exact h
  · intro e
    rcases ho.2 with ⟨rfl, _⟩ | ⟨g', cap, cur, rfl, _, hgg, _⟩
    · simp [Value.ownBlock] at e
    · simp only [Value.ownBlock, Option.some.injEq] at e
      subst e
      unfold It at h
      rw [h] at hgg
      cases hgg
theorem strCells_bv (s : ByteArray) : Lib.strCells s = bv (tl s) := rfl
theorem Own.strs {w : World} {base n : Nat} {v : Value} {l : List UInt8} {m : List UInt8} (h : w.ownsRow base 5 1 v n (bv l ++ Lib.strCells (st m))) (hn : n = l.length + m.length) : Own w base v (l ++ m) := by
  unfold Own
  rw [bv_append, List.length_append, ← hn]
  rw [strCells_bv, tl_st] at h
  exact h
theorem own_iter {w : World} {base g pos : Nat} {v : Value} {l : List UInt8} {s : ByteArray} (h : Own w base v l) (hit : It w g s pos) (pos' : Nat) : Own (w.iterAt g s pos') base v l := by
  refine h.kept (row := some g) ⟨rfl, rfl, rfl, by rw [Lib.iterAt_size]; exact Nat.le_refl _, fun k _ hk => Lib.iterAt_other w g k s pos' (fun e => hk (by rw [e]))⟩ ?_
  rcases h.2 with ⟨rfl, _⟩ | ⟨g', cap, cur, rfl, _, hgg, _⟩
  · left; rfl
  · right
    simp only [Value.ownBlock, ne_eq, Option.some.injEq]
    intro e
    subst e
    unfold It at hit
    rw [hit] at hgg
    cases hgg
theorem own_ext_grown {w0 w w' : World} {v : Value} {l : List UInt8} (hx : Ext w0 w) (h : Own w w0.heap.size v l) (hg : w.grownBy w' v.ownBlock) : Ext w0 w' := Below.grown hx hg hx.size (fun k hk => (h.lt k hk).1)
end Go.Proofs.Ytchokelpimibdaa
