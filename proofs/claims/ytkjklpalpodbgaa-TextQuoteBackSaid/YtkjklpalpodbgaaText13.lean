/- Plain laws: a number's text is a number's, and back. Conditions: the hypotheses of each theorem. -/
import Derived.Test.YtkjklpalpodbgaaText11
namespace Go.Proofs.Ytkjklpalpodbgaa
open Go.RowKit
theorem digit_digB (n : Nat) : digit (digB n) = true := by
  have := digB_val n
  unfold digit
  simp only [decide_eq_true_eq]
  omega
theorem satV_snoc (l : List UInt8) (c : UInt8) : satV (l ++ [c]) = stepV (satV l) c := by unfold satV; rw [List.foldl_append]; rfl
theorem stepV_dig (n m : Nat) (h : n ≤ 4294967296) (hm : m = n / 10) : stepV m (digB n) = n := by
  have := digB_val n
  unfold stepV
  omega
theorem satV_dec0 : ∀ (f n : Nat), n < 10 ^ f → n ≤ 4294967296 → satV (dec0 f n) = n := by
  intro f
  induction f with
  | zero => intro n h _; have : n = 0 := by simpa using h
            subst this; rfl
  | succ f ih =>
    intro n h h2
    simp only [dec0]
    split
    · next h0 => rw [h0]; rfl
    · rw [satV_snoc, ih (n / 10) (by rw [Nat.pow_succ] at h; omega) (by omega)]
      exact stepV_dig n _ h2 rfl
theorem satV_decL (n : Nat) (h : n ≤ 4294967296) : satV (decL n) = n := by
  unfold decL
  rw [satV_snoc, satV_dec0 20 (n / 10) (by omega) (by omega)]
  exact stepV_dig n _ h rfl
theorem dec0_digits : ∀ (f n : Nat), ∀ c ∈ dec0 f n, digit c = true := by
  intro f
  induction f with
  | zero => intro n c h; simp [dec0] at h
  | succ f ih =>
    intro n c h
    simp only [dec0] at h
    split at h
    · simp at h
    · simp only [List.mem_append, List.mem_singleton] at h
      rcases h with h | rfl
      · exact ih _ _ h
      · exact digit_digB n
theorem decL_digits (n : Nat) : ∀ c ∈ decL n, digit c = true := by
  intro c h
  unfold decL at h
  simp only [List.mem_append, List.mem_singleton] at h
  rcases h with h | rfl
  · exact dec0_digits _ _ _ h
  · exact digit_digB n
theorem dec0_head : ∀ (f n : Nat), n < 10 ^ f → n ≠ 0 → ∃ c, (dec0 f n)[0]? = some c ∧ c ≠ 48 := by
  intro f
  induction f with
  | zero => intro n h h0; simp at h; omega
  | succ f ih =>
    intro n h h0
    simp only [dec0, if_neg h0]
    by_cases h1 : n / 10 = 0
    · have e : dec0 f (n / 10) = [] := by rw [h1]; cases f <;> simp [dec0]
      rw [e]
      refine ⟨_, rfl, fun e => ?_⟩
      have := digB_val n
      rw [e] at this
      have h48 : ((48 : UInt8).toNat : Int) = 48 := rfl
      omega
    · obtain ⟨c, hc, hne⟩ := ih (n / 10) (by rw [Nat.pow_succ] at h; omega) h1
      exact ⟨c, by rw [List.getElem?_append_left (List.getElem?_eq_some_iff.1 hc).1]; exact hc, hne⟩
theorem badAt_iff (l : List UInt8) (j : Nat) (hj : j < l.length) : badAt l j = false ↔ digit l[j] = true ∧ (j = 0 ∨ l[0]? ≠ some 48) := by
  unfold badAt
  rw [List.getElem?_eq_getElem hj]
  simp only [Option.map_some, Option.getD_some, Bool.or_eq_false_iff, Bool.not_eq_false', Bool.and_eq_false_iff, decide_eq_false_iff_not, beq_eq_false_iff_ne]
  constructor
  · rintro ⟨h1, h2⟩
    exact ⟨h1, h2.imp (by omega) id⟩
  · rintro ⟨h1, h2⟩
    exact ⟨h1, h2.imp (by omega) id⟩
/-- a text is a number just if it is all digits, without a 0 ahead -/
def okN (l : List UInt8) : Prop := (∀ c ∈ l, digit c = true) ∧ (l.length ≤ 1 ∨ l[0]? ≠ some 48)
theorem okN_none {l : List UInt8} (h : okN l) : firstBad l = none := firstBad_none fun j hj => (badAt_iff l j hj).2 ⟨h.1 _ (List.getElem_mem hj), by
  rcases h.2 with h2 | h2
  · left; omega
  · exact .inr h2⟩
theorem okN_of {l : List UInt8} (h : firstBad l = none) : okN l := by
  unfold firstBad at h
  rw [List.find?_eq_none] at h
  have h2 : ∀ j (hj : j < l.length), digit l[j] = true ∧ (j = 0 ∨ l[0]? ≠ some 48) := fun j hj => (badAt_iff l j hj).1 (by simpa using h j (by simpa using hj))
  refine ⟨fun c hc => ?_, ?_⟩
  · obtain ⟨j, hj, rfl⟩ := List.getElem_of_mem hc
    exact (h2 j hj).1
  · by_cases h3 : l.length ≤ 1
    · exact .inl h3
    · have := (h2 1 (by omega)).2
      right
      rcases this with h4 | h4
      · omega
      · exact h4
theorem okN_decL (n : Nat) (h : n ≤ 4294967296) : okN (decL n) := by
  refine ⟨decL_digits n, ?_⟩
  unfold decL
  by_cases h1 : n / 10 = 0
  · left; rw [h1]; simp [dec0]
  · right
    obtain ⟨c, hc, hne⟩ := dec0_head 20 (n / 10) (by omega) h1
    rw [List.getElem?_append_left (List.getElem?_eq_some_iff.1 hc).1, hc]
    simpa using hne
theorem numberL_decL (n : Nat) (h : n ≤ 4294967295) : numberL (decL n) = ((n : Int), 0, 0) := by
  unfold numberL
  rw [if_neg (by unfold decL; simp), okN_none (okN_decL n (by omega))]
  simp only
  rw [satV_decL n (by omega), if_neg (by omega)]
theorem satV_pos {l : List UInt8} : ∀ (acc : Nat), 1 ≤ acc → 1 ≤ l.foldl stepV acc := by
  induction l with
  | nil => intro acc h; exact h
  | cons c l ih =>
    intro acc h
    rw [List.foldl_cons]
    apply ih
    unfold stepV
    omega
theorem satV_head {l : List UInt8} (h : okN l) (h0 : l ≠ []) (hne : l[0]? ≠ some 48) : 1 ≤ satV l := by
  cases l with
  | nil => exact absurd rfl h0
  | cons c l =>
    unfold satV
    rw [List.foldl_cons]
    apply satV_pos
    have hd := h.1 c (by simp)
    unfold digit at hd
    simp only [decide_eq_true_eq] at hd
    have hc : c.toNat ≠ 48 := fun e => hne (by simp; exact UInt8.toNat_inj.1 e)
    unfold stepV
    omega
theorem okN_init {r : List UInt8} {c : UInt8} (h : okN (r ++ [c])) : okN r ∧ (r = [] ∨ r[0]? ≠ some 48) := by
  have h1 : ∀ x ∈ r, digit x = true := fun x hx => h.1 x (by simp [hx])
  cases r with
  | nil => exact ⟨⟨h1, .inl (by simp)⟩, .inl rfl⟩
  | cons a r =>
    have : (a :: r)[0]? ≠ some 48 := by
      rcases h.2 with h2 | h2
      · simp at h2
      · simpa using h2
    exact ⟨⟨h1, .inr this⟩, .inr this⟩
theorem decL_satV : ∀ (k : Nat) (l : List UInt8), l.length = k → okN l → l ≠ [] → satV l ≤ 4294967295 → decL (satV l) = l := by
  intro k
  induction k with
  | zero => intro l h _ h0; exact absurd (List.eq_nil_of_length_eq_zero h) h0
  | succ k ih =>
    intro l hl hok h0 hv
    rcases List.eq_nil_or_concat l with h | ⟨r, c, h⟩
    · exact absurd h h0
    · rw [List.concat_eq_append] at h
      subst h
      obtain ⟨hr, hh⟩ := okN_init hok
      have hd := hok.1 c (by simp)
      unfold digit at hd
      simp only [decide_eq_true_eq] at hd
      rw [satV_snoc] at hv ⊢
      have hs : stepV (satV r) c = satV r * 10 + (c.toNat - 48) := by unfold stepV at *; omega
      rw [hs] at hv ⊢
      have h10 : (satV r * 10 + (c.toNat - 48)) / 10 = satV r := by omega
      have hdg : digB (satV r * 10 + (c.toNat - 48)) = c := by
        apply UInt8.toNat_inj.1
        have := digB_val (satV r * 10 + (c.toNat - 48))
        omega
      unfold decL
      rw [h10, hdg]
      congr 1
      by_cases hr0 : r = []
      · subst hr0; rfl
      · have hp := satV_head hr hr0 (hh.resolve_left hr0)
        rw [dec0_step _ (by omega) (by omega)]
        have := ih r (by simp at hl; omega) hr hr0 (by omega)
        unfold decL at this
        exact this
theorem numberL_back {l : List UInt8} (h : (numberL l).2.2 = 0) : ∃ v : Nat, numberL l = ((v : Int), 0, 0) ∧ v ≤ 4294967295 ∧ decL v = l := by
  unfold numberL at *
  by_cases h0 : l = []
  · rw [if_pos h0] at h; exact absurd h (by decide)
  · rw [if_neg h0] at h ⊢
    cases hb : firstBad l with
    | some k => rw [hb] at h; exact absurd h (by simp)
    | none =>
      rw [hb] at h
      simp only at h ⊢
      by_cases hv : 4294967295 < satV l
      · rw [if_pos hv] at h; exact absurd h (by simp)
      · rw [if_neg hv] at h ⊢
        exact ⟨satV l, rfl, by omega, decL_satV _ l rfl (okN_of hb) h0 (by omega)⟩
theorem numberL_range (l : List UInt8) : 0 ≤ (numberL l).1 ∧ (numberL l).1 ≤ 4294967295 := by
  unfold numberL
  split
  · simp
  · split
    · simp
    · split
      · simp
      · constructor <;> simp <;> omega
end Go.Proofs.Ytkjklpalpodbgaa
