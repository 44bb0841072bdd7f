/- Plain laws: unquote of quote is the text. Conditions: the hypotheses of each theorem. -/
import Derived.Test.YtameamfaaenboaaDoorText9
import Derived.Lib.TrimAscii
namespace Go.Proofs.YtameamfaaenboaaDoor
open Go.RowKit
theorem dec_enc (c : Nat) (hv : validN c) (rest : List UInt8) : Lib.decodeL (runE c ++ rest) = (c, (runE c).length) := by
  unfold validN at hv
  rw [Lib.decodeL_N]
  unfold runE Lib.encodeRune
  by_cases h1 : c ≤ 127
  · rw [Lib.encodeRuneZ_one (by omega) (by omega)]
    simp only [List.map_cons, List.map_nil, List.cons_append, List.nil_append, List.length_cons, List.length_nil, List.getD_cons_zero]
    unfold Lib.decodeN
    have e0 : (Int.toNat (c : Int)).toUInt8.toNat = c := by rw [Nat.toUInt8_eq, UInt8.toNat_ofNat']; omega
    rw [e0, if_pos (by omega)]
  · by_cases h2 : c ≤ 2047
    · rw [Lib.encodeRuneZ_two (by omega) (by omega)]
      simp only [List.map_cons, List.map_nil, List.cons_append, List.nil_append, List.length_cons, List.length_nil, List.getD_cons_zero, List.getD_cons_succ]
      unfold Lib.decodeN
      have e0 : (Int.toNat (192 + (c : Int) / 64)).toUInt8.toNat = 192 + c / 64 := by rw [Nat.toUInt8_eq, UInt8.toNat_ofNat']; omega
      have e1 : (Int.toNat (128 + (c : Int) % 64)).toUInt8.toNat = 128 + c % 64 := by rw [Nat.toUInt8_eq, UInt8.toNat_ofNat']; omega
      rw [e0, e1, if_neg (by omega), if_pos (by omega), if_pos (by omega)]
      congr 1
      omega
    · by_cases h3 : c ≤ 65535
      · rw [Lib.encodeRuneZ_three (by omega)]
        simp only [List.map_cons, List.map_nil, List.cons_append, List.nil_append, List.length_cons, List.length_nil, List.getD_cons_zero, List.getD_cons_succ]
        unfold Lib.decodeN
        have e0 : (Int.toNat (224 + (c : Int) / 4096)).toUInt8.toNat = 224 + c / 4096 := by rw [Nat.toUInt8_eq, UInt8.toNat_ofNat']; omega
        have e1 : (Int.toNat (128 + (c : Int) / 64 % 64)).toUInt8.toNat = 128 + c / 64 % 64 := by rw [Nat.toUInt8_eq, UInt8.toNat_ofNat']; omega
        have e2 : (Int.toNat (128 + (c : Int) % 64)).toUInt8.toNat = 128 + c % 64 := by rw [Nat.toUInt8_eq, UInt8.toNat_ofNat']; omega
        rw [e0, e1, e2, if_neg (by omega), if_neg (by omega), if_pos (by omega), if_pos (by omega)]
        congr 1
        omega
      · rw [Lib.encodeRuneZ_four (by omega) (by omega)]
        simp only [List.map_cons, List.map_nil, List.cons_append, List.nil_append, List.length_cons, List.length_nil, List.getD_cons_zero, List.getD_cons_succ]
        unfold Lib.decodeN
        have e0 : (Int.toNat (240 + (c : Int) / 262144)).toUInt8.toNat = 240 + c / 262144 := by rw [Nat.toUInt8_eq, UInt8.toNat_ofNat']; omega
        have e1 : (Int.toNat (128 + (c : Int) / 4096 % 64)).toUInt8.toNat = 128 + c / 4096 % 64 := by rw [Nat.toUInt8_eq, UInt8.toNat_ofNat']; omega
        have e2 : (Int.toNat (128 + (c : Int) / 64 % 64)).toUInt8.toNat = 128 + c / 64 % 64 := by rw [Nat.toUInt8_eq, UInt8.toNat_ofNat']; omega
        have e3 : (Int.toNat (128 + (c : Int) % 64)).toUInt8.toNat = 128 + c % 64 := by rw [Nat.toUInt8_eq, UInt8.toNat_ofNat']; omega
        rw [e0, e1, e2, e3, if_neg (by omega), if_neg (by omega), if_neg (by omega), if_pos (by omega), if_pos (by omega)]
        congr 1
        omega
theorem runE_ne (c : Nat) : runE c ≠ [] := by
  have := (Lib.runeCells_le (c : Int)).1
  rw [Lib.runeCells_length] at this
  intro e
  unfold runE at e
  rw [e] at this
  simp at this
theorem letL_rune (c : Nat) (hv : validN c) (rest : List UInt8) : letL (runE c ++ rest) = (c, runE c) :: letL rest := by
  rw [letL_step _ (by simp [runE_ne]), dec_enc c hv rest]
  simp
theorem letL_asc (b : UInt8) (rest : List UInt8) (h : b.toNat < 128) : letL (b :: rest) = (b.toNat, [b]) :: letL rest := by
  rw [letL_step _ (by simp), Lib.decodeL_ascii b rest h]
  simp
/-- what is known of a plain letter -/
def goodD (d : Nat × List UInt8) : Prop := validN d.1 ∧ d.2 = runE d.1 ∧ plnL d = true
theorem letL_good : ∀ (k : Nat) (l : List UInt8), l.length ≤ k → ((letL l).flatMap (fun d => d.2) = l) ∧ ∀ d ∈ letL l, plnL d = true → goodD d := by
  intro k
  induction k with
  | zero =>
    intro l h
    have : l = [] := List.eq_nil_of_length_eq_zero (by omega)
    subst this
    exact ⟨rfl, by intro d hd; simp [letL_nil] at hd⟩
  | succ k ih =>
    intro l h
    by_cases hne : l = []
    · subst hne; exact ⟨rfl, by intro d hd; simp [letL_nil] at hd⟩
    · have hp := decL_pos l hne
      have hle := Lib.decodeL_le l hne
      have hlp := List.length_pos_iff.2 hne
      obtain ⟨h1, h2⟩ := ih (l.drop (Lib.decodeL l).2) (by simp; omega)
      rw [letL_step l hne]
      refine ⟨?_, ?_⟩
      · rw [List.flatMap_cons, h1]
        exact List.take_append_drop _ l
      · intro d hd hpl
        rw [List.mem_cons] at hd
        rcases hd with rfl | hd
        · have hdv := dec_valid (st l) 0
          have hd0 : Utf8.decode (st l) 0 = Lib.decodeL l := by rw [dec_at]; simp
          have hw : (l.take (Lib.decodeL l).2).length = (Lib.decodeL l).2 := by simp; omega
          rw [hd0] at hdv
          refine ⟨hdv, ?_, hpl⟩
          unfold plnL plainB at hpl
          simp only [hw, decide_eq_true_eq] at hpl
          have := Lib.encode_decode l hne (by omega)
          exact this.symm
        · exact h2 d hd hpl
theorem pln34 : plnL (34, [34]) = true := by decide
theorem pln92 : plnL (92, [92]) = true := by decide
theorem pln_run {c : Nat} {b : List UInt8} (h : goodD (c, b)) : plnL (c, runE c) = true := by
  have h2 := h.2.1
  simp only at h2
  rw [← h2]
  exact h.2.2
theorem unq_tail : ∀ (ds : List (Nat × List UInt8)) (behind : List UInt8) (place : Nat) (out : List UInt8) (pos : Nat), place ≠ 0 → (∀ d ∈ ds, goodD d) →
    unqF (letL (outL ds ++ (34 :: behind))) place false out pos = if 1024 < (out ++ ds.flatMap fun d => d.2).length then ([], 0, 6) else (out ++ ds.flatMap fun d => d.2, pos + (outL ds).length + 1, 0) := by
  intro ds
  induction ds with
  | nil =>
    intro behind place out pos hp _
    rw [show outL [] ++ (34 :: behind) = 34 :: behind from rfl, letL_asc 34 behind (by decide)]
    rw [show ((34 : UInt8).toNat) = 34 from rfl]
    unfold unqF
    rw [if_neg (by rw [pln34]; simp), if_neg hp, if_neg (by simp), if_pos (by simp)]
    simp [outL]
  | cons d ds ih =>
    intro behind place out pos hp hg
    obtain ⟨c, b⟩ := d
    have hgd := hg (c, b) (by simp)
    have hrest : ∀ d ∈ ds, goodD d := fun d hd => hg d (by simp [hd])
    have hb : b = runE c := hgd.2.1
    have e1 : outL ((c, b) :: ds) ++ (34 :: behind) = escL c ++ (outL ds ++ (34 :: behind)) := by simp [outL]
    have e2 : (outL ((c, b) :: ds)).length = (escL c).length + (outL ds).length := by simp [outL]
    have e3 : out ++ ((c, b) :: ds).flatMap (fun d => d.2) = (out ++ runE c) ++ ds.flatMap (fun d => d.2) := by simp [hb]
    rw [e1, e2, e3]
    by_cases hc : c = 34 ∨ c = 92
    · have he : escL c = 92 :: runE c := by unfold escL; rw [if_pos hc]
      rw [he, List.cons_append, letL_asc 92 _ (by decide), letL_rune c hgd.1, show ((92 : UInt8).toNat) = 92 from rfl]
      unfold unqF
      rw [if_neg (by rw [pln92]; simp [hp]), if_neg hp, if_pos (by simp)]
      unfold unqF
      rw [if_neg (by rw [pln_run hgd]; rcases hc with hc | hc <;> simp [hc]), if_neg (by omega), if_neg (by simp), if_neg (by simp)]
      rw [ih behind _ _ _ (by omega) hrest]
      congr 2
      · simp; omega
    · have he : escL c = runE c := by unfold escL; rw [if_neg hc]
      rw [he, letL_rune c hgd.1]
      unfold unqF
      rw [if_neg (by rw [pln_run hgd]; simp [hp]), if_neg hp, if_neg (by simp; omega), if_neg (by simp; omega)]
      rw [ih behind _ _ _ (by omega) hrest]
      congr 2
      · simp; omega
theorem quote_ok {l : List UInt8} (h : (quoteT l).2.2 = 0) : l.length ≤ 1024 ∧ quoteT l = (34 :: outL (letL l) ++ [34], 0, 0) ∧ ∀ d ∈ letL l, goodD d := by
  unfold quoteT at *
  by_cases h1 : 1024 < l.length
  · rw [if_pos h1] at h; exact absurd h (by decide)
  · rw [if_neg h1] at h ⊢
    cases hf : (letL l).findIdx? (fun d => !plnL d) with
    | some k => rw [hf] at h; exact absurd h (by simp)
    | none =>
      refine ⟨by omega, rfl, fun d hd => (letL_good _ l (Nat.le_refl _)).2 d hd ?_⟩
      rw [List.findIdx?_eq_none_iff] at hf
      simpa using hf d hd
theorem quote_bad {l : List UInt8} (h : (quoteT l).2.2 ≠ 0) : (quoteT l).1 = [] := by
  unfold quoteT at *
  split
  · rfl
  · next h1 =>
    rw [if_neg h1] at h
    split
    · rfl
    · next hf => rw [hf] at h; exact absurd rfl h
theorem unq_quote {l : List UInt8} (behind : List UInt8) (h : (quoteT l).2.2 = 0) : unqT ((quoteT l).1 ++ behind) = (l, (quoteT l).1.length, 0) := by
  obtain ⟨h1, h2, h3⟩ := quote_ok h
  rw [h2]
  have hfl := (letL_good _ l (Nat.le_refl _)).1
  unfold unqT
  rw [show (34 :: outL (letL l) ++ [34] : List UInt8) ++ behind = 34 :: (outL (letL l) ++ (34 :: behind)) by simp, letL_asc 34 _ (by decide), show ((34 : UInt8).toNat) = 34 from rfl]
  unfold unqF
  rw [if_neg (by rw [pln34]; simp), if_pos rfl]
  rw [unq_tail _ _ _ _ _ (by omega) h3]
  rw [List.nil_append, hfl, if_neg (by omega)]
  simp
  omega
theorem outL_two : ∀ ds, (∀ d ∈ ds, goodD d) → (outL ds).length ≤ 2 * (ds.flatMap fun d => d.2).length := by
  intro ds
  induction ds with
  | nil => intro _; simp [outL]
  | cons d ds ih =>
    intro h
    have h1 := ih fun d hd => h d (by simp [hd])
    have hd := (h d (by simp)).2.1
    have hp := List.length_pos_iff.2 (runE_ne d.1)
    have he : (escL d.1).length ≤ 1 + (runE d.1).length := by unfold escL; split <;> simp; omega
    unfold outL at *
    simp only [List.flatMap_cons, List.length_append]
    rw [hd]
    omega
theorem quote_len (l : List UInt8) : (quoteT l).1.length ≤ 2050 := by
  by_cases h : (quoteT l).2.2 = 0
  · obtain ⟨h1, h2, h3⟩ := quote_ok h
    rw [h2]
    have := outL_two _ h3
    rw [(letL_good _ l (Nat.le_refl _)).1] at this
    simp
    omega
  · rw [quote_bad h]; simp
def letOk (d : Nat × List UInt8) : Prop := (d.1 = 65533 ∧ ∃ x : UInt8, d.2 = [x] ∧ 128 ≤ x.toNat) ∨ (validN d.1 ∧ d.2 = runE d.1)
theorem lone_bad (x : UInt8) (h : 128 ≤ x.toNat) : Lib.decodeL [x] = (65533, 1) := by
  rw [Lib.decodeL_N]
  have hx := x.toNat_lt
  unfold Lib.decodeN
  simp only [List.length_cons, List.length_nil, List.getD_cons_zero]
  rw [if_neg (by omega), if_neg (by omega), if_neg (by omega), if_neg (by omega)]
theorem letL_ok : ∀ (k : Nat) (l : List UInt8), l.length ≤ k → ∀ d ∈ letL l, letOk d := by
  intro k
  induction k with
  | zero =>
    intro l h d hd
    have : l = [] := List.eq_nil_of_length_eq_zero (by omega)
    subst this
    simp [letL_nil] at hd
  | succ k ih =>
    intro l h d hd
    by_cases hne : l = []
    · subst hne; simp [letL_nil] at hd
    · have hp := decL_pos l hne
      have hle := Lib.decodeL_le l hne
      have hlp := List.length_pos_iff.2 hne
      rw [letL_step l hne, List.mem_cons] at hd
      rcases hd with rfl | hd
      · by_cases hb : (Lib.decodeL l).1 = 65533 ∧ (Lib.decodeL l).2 = 1
        · left
          refine ⟨hb.1, ?_⟩
          cases l with
          | nil => exact absurd rfl hne
          | cons x r =>
            refine ⟨x, by rw [hb.2]; rfl, ?_⟩
            rcases Nat.lt_or_ge x.toNat 128 with h1 | h1
            · have := Lib.decodeL_ascii x r h1
              rw [this] at hb
              have := hb.1
              simp only at this
              omega
            · exact h1
        · right
          have hdv := dec_valid (st l) 0
          have hd0 : Utf8.decode (st l) 0 = Lib.decodeL l := by rw [dec_at]; simp
          rw [hd0] at hdv
          exact ⟨hdv, (Lib.encode_decode l hne hb).symm⟩
      · exact ih (l.drop (Lib.decodeL l).2) (by simp; omega) d hd
end Go.Proofs.YtameamfaaenboaaDoor
