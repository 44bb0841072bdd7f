/- Plain laws: unquote of quote is the text. Conditions: the hypotheses of each theorem. Plain laws: parse of print is the address; what is taken is printed, and taken again. Conditions: the hypotheses of each theorem. What a path that is taken looks like; paths that are the same but for great and small letters have the same user. No program. Conditions: the hypotheses of each theorem. What a session answers to the lines of an order; what stands behind each of them; what a body is that is sent. No program. Conditions: the hypotheses of each theorem. The walk of Waits; an append onto a literal's row; what the walk of SmtpSends leans on. Conditions: the hypotheses of each theorem. -/
import Derived.Test.YtchokelpimibdaaText9
import Derived.Lib.TrimAscii
import Derived.Test.YtchokelpimibdaaAd4
import Derived.Test.YtchokelpimibdaaAd7
import Derived.Test.YtchokelpimibdaaSm14
import Derived.ArgAppend
namespace Go.Proofs.Ytchokelpimibdaa
open Go.RowKit
theorem dec_enc (c : Nat) (hv : validN c) (rest : List UInt8) : Lib.decodeL (runE c ++ rest) = (c, (runE c).length) := by
  unfold validN at hv
  rw [Lib.decodeL_N]
  unfold runE Lib.encodeRune
  by_cases h1 : c ≤ 127
  · rw [Lib.encodeRuneZ_one (by omega) (by omega)]
    simp only [List.map_cons, List.map_nil, List.cons_append, List.nil_append, List.length_cons, List.length_nil, List.getD_cons_zero]
    unfold Lib.decodeN
    have e0 : (Int.toNat (c : Int)).toUInt8.toNat = c := by rw [Nat.toUInt8_eq, UInt8.toNat_ofNat']; omega
    rw [e0, if_pos (by omega)]
  · by_cases h2 : c ≤ 2047
    · rw [Lib.encodeRuneZ_two (by omega) (by omega)]
      simp only [List.map_cons, List.map_nil, List.cons_append, List.nil_append, List.length_cons, List.length_nil, List.getD_cons_zero, List.getD_cons_succ]
      unfold Lib.decodeN
      have e0 : (Int.toNat (192 + (c : Int) / 64)).toUInt8.toNat = 192 + c / 64 := by rw [Nat.toUInt8_eq, UInt8.toNat_ofNat']; omega
      have e1 : (Int.toNat (128 + (c : Int) % 64)).toUInt8.toNat = 128 + c % 64 := by rw [Nat.toUInt8_eq, UInt8.toNat_ofNat']; omega
      rw [e0, e1, if_neg (by omega), if_pos (by omega), if_pos (by omega)]
      congr 1
      omega
    · by_cases h3 : c ≤ 65535
      · rw [Lib.encodeRuneZ_three (by omega)]
        simp only [List.map_cons, List.map_nil, List.cons_append, List.nil_append, List.length_cons, List.length_nil, List.getD_cons_zero, List.getD_cons_succ]
        unfold Lib.decodeN
        have e0 : (Int.toNat (224 + (c : Int) / 4096)).toUInt8.toNat = 224 + c / 4096 := by rw [Nat.toUInt8_eq, UInt8.toNat_ofNat']; omega
        have e1 : (Int.toNat (128 + (c : Int) / 64 % 64)).toUInt8.toNat = 128 + c / 64 % 64 := by rw [Nat.toUInt8_eq, UInt8.toNat_ofNat']; omega
        have e2 : (Int.toNat (128 + (c : Int) % 64)).toUInt8.toNat = 128 + c % 64 := by rw [Nat.toUInt8_eq, UInt8.toNat_ofNat']; omega
        rw [e0, e1, e2, if_neg (by omega), if_neg (by omega), if_pos (by omega), if_pos (by omega)]
        congr 1
        omega
      · rw [Lib.encodeRuneZ_four (by omega) (by omega)]
        simp only [List.map_cons, List.map_nil, List.cons_append, List.nil_append, List.length_cons, List.length_nil, List.getD_cons_zero, List.getD_cons_succ]
        unfold Lib.decodeN
        have e0 : (Int.toNat (240 + (c : Int) / 262144)).toUInt8.toNat = 240 + c / 262144 := by rw [Nat.toUInt8_eq, UInt8.toNat_ofNat']; omega
        have e1 : (Int.toNat (128 + (c : Int) / 4096 % 64)).toUInt8.toNat = 128 + c / 4096 % 64 := by rw [Nat.toUInt8_eq, UInt8.toNat_ofNat']; omega
        have e2 : (Int.toNat (128 + (c : Int) / 64 % 64)).toUInt8.toNat = 128 + c / 64 % 64 := by rw [Nat.toUInt8_eq, UInt8.toNat_ofNat']; omega
        have e3 : (Int.toNat (128 + (c : Int) % 64)).toUInt8.toNat = 128 + c % 64 := by rw [Nat.toUInt8_eq, UInt8.toNat_ofNat']; omega
        rw [e0, e1, e2, e3, if_neg (by omega), if_neg (by omega), if_neg (by omega), if_pos (by omega), if_pos (by omega)]
        congr 1
        omega
theorem runE_ne (c : Nat) : runE c ≠ [] := by
  have := (Lib.runeCells_le (c : Int)).1
  rw [Lib.runeCells_length] at this
  intro e
  unfold runE at e
  rw [e] at this
  simp at this
theorem letL_rune (c : Nat) (hv : validN c) (rest : List UInt8) : letL (runE c ++ rest) = (c, runE c) :: letL rest := by
  rw [letL_step _ (by simp [runE_ne]), dec_enc c hv rest]
  simp
theorem letL_asc (b : UInt8) (rest : List UInt8) (h : b.toNat < 128) : letL (b :: rest) = (b.toNat, [b]) :: letL rest := by
  rw [letL_step _ (by simp), Lib.decodeL_ascii b rest h]
  simp
/-- what is known of a plain letter -/
def goodD (d : Nat × List UInt8) : Prop := validN d.1 ∧ d.2 = runE d.1 ∧ plnL d = true
theorem letL_good : ∀ (k : Nat) (l : List UInt8), l.length ≤ k → ((letL l).flatMap (fun d => d.2) = l) ∧ ∀ d ∈ letL l, plnL d = true → goodD d := by
  intro k
  induction k with
  | zero =>
    intro l h
    have : l = [] := List.eq_nil_of_length_eq_zero (by omega)
    subst this
    exact ⟨rfl, by intro d hd; simp [letL_nil] at hd⟩
  | succ k ih =>
    intro l h
    by_cases hne : l = []
    · subst hne; exact ⟨rfl, by intro d hd; simp [letL_nil] at hd⟩
    · have hp := decL_pos l hne
      have hle := Lib.decodeL_le l hne
      have hlp := List.length_pos_iff.2 hne
      obtain ⟨h1, h2⟩ := ih (l.drop (Lib.decodeL l).2) (by simp; omega)
      rw [letL_step l hne]
      refine ⟨?_, ?_⟩
      · rw [List.flatMap_cons, h1]
        exact List.take_append_drop _ l
      · intro d hd hpl
        rw [List.mem_cons] at hd
        rcases hd with rfl | hd
        · have hdv := dec_valid (st l) 0
          have hd0 : Utf8.decode (st l) 0 = Lib.decodeL l := by rw [dec_at]; simp
          have hw : (l.take (Lib.decodeL l).2).length = (Lib.decodeL l).2 := by simp; omega
          rw [hd0] at hdv
          refine ⟨hdv, ?_, hpl⟩
          unfold plnL plainB at hpl
          simp only [hw, decide_eq_true_eq] at hpl
          have := Lib.encode_decode l hne (by omega)
          exact this.symm
        · exact h2 d hd hpl
theorem pln34 : plnL (34, [34]) = true := by decide
theorem pln92 : plnL (92, [92]) = true := by decide
theorem pln_run {c : Nat} {b : List UInt8} (h : goodD (c, b)) : plnL (c, runE c) = true := by
  have h2 := h.2.1
  simp only at h2
  rw [← h2]
  exact h.2.2
theorem unq_tail : ∀ (ds : List (Nat × List UInt8)) (behind : List UInt8) (place : Nat) (out : List UInt8) (pos : Nat), place ≠ 0 → (∀ d ∈ ds, goodD d) →
    unqF (letL (outL ds ++ (34 :: behind))) place false out pos = if 1024 < (out ++ ds.flatMap fun d => d.2).length then ([], 0, 6) else (out ++ ds.flatMap fun d => d.2, pos + (outL ds).length + 1, 0) := by
  intro ds
  induction ds with
  | nil =>
    intro behind place out pos hp _
    rw [show outL [] ++ (34 :: behind) = 34 :: behind from rfl, letL_asc 34 behind (by decide)]
    rw [show ((34 : UInt8).toNat) = 34 from rfl]
    unfold unqF
    rw [if_neg (by rw [pln34]; simp), if_neg hp, if_neg (by simp), if_pos (by simp)]
    simp [outL]
  | cons d ds ih =>
    intro behind place out pos hp hg
    obtain ⟨c, b⟩ := d
    have hgd := hg (c, b) (by simp)
    have hrest : ∀ d ∈ ds, goodD d := fun d hd => hg d (by simp [hd])
    have hb : b = runE c := hgd.2.1
    have e1 : outL ((c, b) :: ds) ++ (34 :: behind) = escL c ++ (outL ds ++ (34 :: behind)) := by simp [outL]
    have e2 : (outL ((c, b) :: ds)).length = (escL c).length + (outL ds).length := by simp [outL]
    have e3 : out ++ ((c, b) :: ds).flatMap (fun d => d.2) = (out ++ runE c) ++ ds.flatMap (fun d => d.2) := by simp [hb]
    rw [e1, e2, e3]
    by_cases hc : c = 34 ∨ c = 92
    · have he : escL c = 92 :: runE c := by unfold escL; rw [if_pos hc]
      rw [he, List.cons_append, letL_asc 92 _ (by decide), letL_rune c hgd.1, show ((92 : UInt8).toNat) = 92 from rfl]
      unfold unqF
      rw [if_neg (by rw [pln92]; simp [hp]), if_neg hp, if_pos (by simp)]
      unfold unqF
      rw [if_neg (by rw [pln_run hgd]; rcases hc with hc | hc <;> simp [hc]), if_neg (by omega), if_neg (by simp), if_neg (by simp)]
      rw [ih behind _ _ _ (by omega) hrest]
      congr 2
      · simp; omega
    · have he : escL c = runE c := by unfold escL; rw [if_neg hc]
      rw [he, letL_rune c hgd.1]
      unfold unqF
      rw [if_neg (by rw [pln_run hgd]; simp [hp]), if_neg hp, if_neg (by simp; omega), if_neg (by simp; omega)]
      rw [ih behind _ _ _ (by omega) hrest]
      congr 2
      · simp; omega
theorem quote_ok {l : List UInt8} (h : (quoteT l).2.2 = 0) : l.length ≤ 1024 ∧ quoteT l = (34 :: outL (letL l) ++ [34], 0, 0) ∧ ∀ d ∈ letL l, goodD d := by
  unfold quoteT at *
  by_cases h1 : 1024 < l.length
  · rw [if_pos h1] at h; exact absurd h (by decide)
  · rw [if_neg h1] at h ⊢
    cases hf : (letL l).findIdx? (fun d => !plnL d) with
    | some k => rw [hf] at h; exact absurd h (by simp)
    | none =>
      refine ⟨by omega, rfl, fun d hd => (letL_good _ l (Nat.le_refl _)).2 d hd ?_⟩
      rw [List.findIdx?_eq_none_iff] at hf
      simpa using hf d hd
theorem quote_bad {l : List UInt8} (h : (quoteT l).2.2 ≠ 0) : (quoteT l).1 = [] := by
  unfold quoteT at *
  split
  · rfl
  · next h1 =>
    rw [if_neg h1] at h
    split
    · rfl
    · next hf => rw [hf] at h; exact absurd rfl h
theorem unq_quote {l : List UInt8} (behind : List UInt8) (h : (quoteT l).2.2 = 0) : unqT ((quoteT l).1 ++ behind) = (l, (quoteT l).1.length, 0) := by
  obtain ⟨h1, h2, h3⟩ := quote_ok h
  rw [h2]
  have hfl := (letL_good _ l (Nat.le_refl _)).1
  unfold unqT
  rw [show (34 :: outL (letL l) ++ [34] : List UInt8) ++ behind = 34 :: (outL (letL l) ++ (34 :: behind)) by simp, letL_asc 34 _ (by decide), show ((34 : UInt8).toNat) = 34 from rfl]
  unfold unqF
  rw [if_neg (by rw [pln34]; simp), if_pos rfl]
  rw [unq_tail _ _ _ _ _ (by omega) h3]
  rw [List.nil_append, hfl, if_neg (by omega)]
  simp
  omega
theorem outL_two : ∀ ds, (∀ d ∈ ds, goodD d) → (outL ds).length ≤ 2 * (ds.flatMap fun d => d.2).length := by
  intro ds
  induction ds with
  | nil => intro _; simp [outL]
  | cons d ds ih =>
    intro h
    have h1 := ih fun d hd => h d (by simp [hd])
    have hd := (h d (by simp)).2.1
    have hp := List.length_pos_iff.2 (runE_ne d.1)
    have he : (escL d.1).length ≤ 1 + (runE d.1).length := by unfold escL; split <;> simp; omega
    unfold outL at *
    simp only [List.flatMap_cons, List.length_append]
    rw [hd]
    omega
theorem quote_len (l : List UInt8) : (quoteT l).1.length ≤ 2050 := by
  by_cases h : (quoteT l).2.2 = 0
  · obtain ⟨h1, h2, h3⟩ := quote_ok h
    rw [h2]
    have := outL_two _ h3
    rw [(letL_good _ l (Nat.le_refl _)).1] at this
    simp
    omega
  · rw [quote_bad h]; simp
def letOk (d : Nat × List UInt8) : Prop := (d.1 = 65533 ∧ ∃ x : UInt8, d.2 = [x] ∧ 128 ≤ x.toNat) ∨ (validN d.1 ∧ d.2 = runE d.1)
theorem lone_bad (x : UInt8) (h : 128 ≤ x.toNat) : Lib.decodeL [x] = (65533, 1) := by
  rw [Lib.decodeL_N]
  have hx := x.toNat_lt
  unfold Lib.decodeN
  simp only [List.length_cons, List.length_nil, List.getD_cons_zero]
  rw [if_neg (by omega), if_neg (by omega), if_neg (by omega), if_neg (by omega)]
theorem letL_ok : ∀ (k : Nat) (l : List UInt8), l.length ≤ k → ∀ d ∈ letL l, letOk d := by
  intro k
  induction k with
  | zero =>
    intro l h d hd
    have : l = [] := List.eq_nil_of_length_eq_zero (by omega)
    subst this
    simp [letL_nil] at hd
  | succ k ih =>
    intro l h d hd
    by_cases hne : l = []
    · subst hne; simp [letL_nil] at hd
    · have hp := decL_pos l hne
      have hle := Lib.decodeL_le l hne
      have hlp := List.length_pos_iff.2 hne
      rw [letL_step l hne, List.mem_cons] at hd
      rcases hd with rfl | hd
      · by_cases hb : (Lib.decodeL l).1 = 65533 ∧ (Lib.decodeL l).2 = 1
        · left
          refine ⟨hb.1, ?_⟩
          cases l with
          | nil => exact absurd rfl hne
          | cons x r =>
            refine ⟨x, by rw [hb.2]; rfl, ?_⟩
            rcases Nat.lt_or_ge x.toNat 128 with h1 | h1
            · have := Lib.decodeL_ascii x r h1
              rw [this] at hb
              have := hb.1
              simp only at this
              omega
            · exact h1
        · right
          have hdv := dec_valid (st l) 0
          have hd0 : Utf8.decode (st l) 0 = Lib.decodeL l := by rw [dec_at]; simp
          rw [hd0] at hdv
          exact ⟨hdv, (Lib.encode_decode l hne hb).symm⟩
      · exact ih (l.drop (Lib.decodeL l).2) (by simp; omega) d hd
end Go.Proofs.Ytchokelpimibdaa
namespace Go.Proofs.Ytchokelpimibdaa
open Go.RowKit
def prn (l : List UInt8) : Prop := ∀ b ∈ l, 32 ≤ b.toNat ∧ b.toNat ≤ 126
def asc (l : List UInt8) : List (Nat × List UInt8) := l.map fun b => (b.toNat, [b])
theorem asc_length (l : List UInt8) : (asc l).length = l.length := by simp [asc]
theorem asc_bytes (l : List UInt8) : (asc l).flatMap (fun d => d.2) = l := by
  induction l with
  | nil => rfl
  | cons b l ih => simp only [asc, List.map_cons, List.flatMap_cons] at ih ⊢; rw [ih]; rfl
theorem letL_prn (r : List UInt8) : ∀ (lo : List UInt8), (∀ b ∈ lo, b.toNat < 128) → letL (lo ++ r) = asc lo ++ letL r
  | [], _ => rfl
  | b :: lo, h => by
    rw [List.cons_append, letL_asc b _ (h b (by simp)), letL_prn r lo fun x hx => h x (List.mem_cons_of_mem _ hx)]
    rfl
theorem letL_all (lo : List UInt8) (h : ∀ b ∈ lo, b.toNat < 128) : letL lo = asc lo := by
  have := letL_prn [] lo h
  rw [List.append_nil, letL_nil, List.append_nil] at this
  exact this
theorem prn.asc {lo : List UInt8} (h : prn lo) : ∀ b ∈ lo, b.toNat < 128 := fun b hb => by have := h b hb; omega
theorem runE_asc : ∀ c, c < 128 → runE c = [UInt8.ofNat c] := by decide +kernel
/-- a letter below 128 is one byte -/
theorem letOk_asc {d : Nat × List UInt8} (h : letOk d) (h1 : d.1 < 128) : d = ((UInt8.ofNat d.1).toNat, [UInt8.ofNat d.1]) := by
  obtain ⟨c, b⟩ := d
  simp only at h1
  rcases h with ⟨h, _⟩ | ⟨_, h⟩
  · simp only at h; omega
  · simp only at h
    rw [runE_asc c h1] at h
    rw [h]
    simp only [Prod.mk.injEq, and_true]
    simp
    omega
theorem all_asc : ∀ (ds : List (Nat × List UInt8)), (∀ d ∈ ds, letOk d) → (∀ d ∈ ds, d.1 < 128) → ds = asc (ds.flatMap fun d => d.2) ∧ ∀ b ∈ ds.flatMap (fun d => d.2), b.toNat < 128
  | [], _, _ => ⟨rfl, by simp⟩
  | d :: ds, h, h1 => by
    obtain ⟨i1, i2⟩ := all_asc ds (fun x hx => h x (List.mem_cons_of_mem _ hx)) (fun x hx => h1 x (List.mem_cons_of_mem _ hx))
    have hd := letOk_asc (h d (by simp)) (h1 d (by simp))
    have hlt := h1 d (by simp)
    constructor
    · rw [List.flatMap_cons, hd]
      conv => lhs; rw [i1]
      rfl
    · intro b hb
      rw [List.flatMap_cons, List.mem_append] at hb
      rcases hb with hb | hb
      · rw [hd] at hb
        simp only [List.mem_singleton] at hb
        subst hb
        simp
        omega
      · exact i2 b hb
theorem prn_of {lo : List UInt8} (h : (letL lo).any badLet = false) : prn lo := by
  have hok := letL_ok _ lo (Nat.le_refl _)
  have hb : ∀ d ∈ letL lo, 32 ≤ d.1 ∧ d.1 ≤ 126 := by
    intro d hd
    have := List.any_eq_false.1 h d hd
    simp only [badLet, decide_eq_true_eq] at this
    omega
  obtain ⟨h1, h2⟩ := all_asc (letL lo) hok (fun d hd => by have := hb d hd; omega)
  rw [let_bytes _ lo (Nat.le_refl _)] at h1
  intro b hb'
  have : (b.toNat, [b]) ∈ letL lo := by rw [h1]; exact List.mem_map.2 ⟨b, hb', rfl⟩
  exact hb _ this
theorem of_prn {lo : List UInt8} (h : prn lo) : (letL lo).any badLet = false := by
  rw [letL_all lo h.asc, List.any_eq_false]
  intro d hd
  obtain ⟨b, hb, rfl⟩ := List.mem_map.1 hd
  have := h b hb
  simp only [badLet, decide_eq_true_eq]
  omega
/-! ## runs -/
def run1 : List (Nat × List UInt8) → Nat → Nat → Option (Nat × Nat)
  | [], s, n => some (s, n)
  | (c, _) :: ds, s, n => if (nextS s c n).2 = false then none else run1 ds (nextS s c n).1 (if (nextS s c n).1 = 6 then 0 else n + 1)
theorem runF_ok : ∀ (ds : List (Nat × List UInt8)) (s n pl k pos s' n' : Nat), run1 ds s n = some (s', n') → runF ds s n pl (some k) pos = .inr (s', pl + ds.length, some k)
  | [], s, n, pl, k, pos, s', n', h => by
    simp only [run1, Option.some.injEq, Prod.mk.injEq] at h
    obtain ⟨rfl, rfl⟩ := h
    rfl
  | (c, b) :: ds, s, n, pl, k, pos, s', n', h => by
    unfold run1 at h
    split at h
    · cases h
    · rename_i hn
      unfold runF
      rw [if_neg hn, if_neg (show ¬ ((nextS s c n).1 = 6 ∧ (some k : Option Nat) = none) by simp), runF_ok ds _ _ _ _ _ _ _ h, List.length_cons]
      congr 3
      omega
theorem runF_ok' : ∀ (ds : List (Nat × List UInt8)) (s n pl k pos s' pl' : Nat) (a : Option Nat), runF ds s n pl (some k) pos = .inr (s', pl', a) → (∃ n', run1 ds s n = some (s', n')) ∧ a = some k
  | [], s, n, pl, k, pos, s', pl', a, h => by
    simp only [runF, Sum.inr.injEq, Prod.mk.injEq] at h
    obtain ⟨rfl, rfl, rfl⟩ := h
    exact ⟨⟨n, rfl⟩, rfl⟩
  | (c, b) :: ds, s, n, pl, k, pos, s', pl', a, h => by
    unfold runF at h
    split at h
    · cases h
    · rename_i hn
      rw [if_neg (show ¬ ((nextS s c n).1 = 6 ∧ (some k : Option Nat) = none) by simp)] at h
      obtain ⟨⟨n', h1⟩, h2⟩ := runF_ok' ds _ _ _ _ _ _ _ _ h
      exact ⟨⟨n', by unfold run1; rw [if_neg hn]; exact h1⟩, h2⟩
theorem nextS_n {s : Nat} (c n : Nat) (h : s ≤ 3) : nextS s c n = nextS s c 0 := by
  have : s = 0 ∨ s = 1 ∨ s = 2 ∨ s = 3 := by omega
  rcases this with rfl | rfl | rfl | rfl <;> simp [nextS]
theorem nextS_2 {s : Nat} (c : Nat) (h : s ≤ 2) (h6 : (nextS s c 0).1 ≠ 6) : (nextS s c 0).1 ≤ 2 := by
  have : s = 0 ∨ s = 1 ∨ s = 2 := by omega
  rcases this with rfl | rfl | rfl
  · simp [nextS]
  · unfold nextS at h6 ⊢
    by_cases h1 : c = 46
    · simp [h1]
    · by_cases h2 : c = 64
      · simp [h2] at h6
      · simp [h1, h2]
  · simp [nextS]
theorem nextS_6 {s c : Nat} (h : s ≤ 2) (h6 : (nextS s c 0).1 = 6) : s = 1 ∧ c = 64 := by
  have : s = 0 ∨ s = 1 ∨ s = 2 := by omega
  rcases this with rfl | rfl | rfl
  · simp [nextS] at h6
  · unfold nextS at h6
    by_cases h1 : c = 46
    · simp [h1] at h6
    · by_cases h2 : c = 64
      · exact ⟨rfl, h2⟩
      · simp [h1, h2] at h6
  · simp [nextS] at h6
theorem runF_bare (r : List (Nat × List UInt8)) : ∀ (ds : List (Nat × List UInt8)) (s n pl pos : Nat), s ≤ 2 → bareF ds s = true → runF (ds ++ r) s n pl none pos = runF r 1 (n + ds.length) (pl + ds.length) none (pos + (ds.flatMap fun d => d.2).length)
  | [], s, n, pl, pos, _, h => by
    simp only [bareF, decide_eq_true_eq] at h
    subst h
    rfl
  | (c, b) :: ds, s, n, pl, pos, hs, h => by
    unfold bareF at h
    split at h
    · cases h
    · rename_i hn
      rw [List.cons_append]
      conv => lhs; unfold runF
      rw [nextS_n c n (by omega), if_neg (fun h => hn (.inl h)), if_neg (fun h => hn (.inr h)), if_neg (fun h => hn (.inr h.1)), runF_bare r ds _ _ _ _ (nextS_2 c hs (fun h => hn (.inr h))) h]
      simp only [List.length_cons, List.flatMap_cons, List.length_append]
      congr 1 <;> omega
theorem runF_split : ∀ (ds : List (Nat × List UInt8)) (s n pl pos s' pl' : Nat) (a' : Option Nat), s ≤ 2 → 2 < s' → runF ds s n pl none pos = .inr (s', pl', a') →
    ∃ ds1 b ds2, ds = ds1 ++ (64, b) :: ds2 ∧ bareF ds1 s = true ∧ a' = some (pos + (ds1.flatMap fun d => d.2).length) ∧ ∃ n', run1 ds2 6 0 = some (s', n')
  | [], s, n, pl, pos, s', pl', a', hs, hs', h => by
    simp only [runF, Sum.inr.injEq, Prod.mk.injEq] at h
    omega
  | (c, b) :: ds, s, n, pl, pos, s', pl', a', hs, hs', h => by
    unfold runF at h
    rw [nextS_n c n (by omega)] at h
    split at h
    · cases h
    · rename_i hn
      by_cases h6 : (nextS s c 0).1 = 6
      · obtain ⟨rfl, rfl⟩ := nextS_6 hs h6
        rw [if_pos h6, if_pos ⟨h6, rfl⟩, h6] at h
        obtain ⟨h1, h2⟩ := runF_ok' _ _ _ _ _ _ _ _ _ h
        exact ⟨[], b, ds, rfl, rfl, h2, h1⟩
      · rw [if_neg h6, if_neg (fun h => h6 h.1)] at h
        obtain ⟨ds1, b1, ds2, e1, e2, e3, e4⟩ := runF_split ds _ _ _ _ _ _ _ (nextS_2 c hs h6) hs' h
        refine ⟨(c, b) :: ds1, b1, ds2, by rw [e1]; rfl, ?_, ?_, e4⟩
        · unfold bareF
          rw [if_neg (by rintro (h | h); exact hn h; exact h6 h)]
          exact e2
        · rw [e3, List.flatMap_cons, List.length_append]
          congr 1
          simp only
          omega
theorem localB_asc {c : Nat} (h : localB c = true) : 32 ≤ c ∧ c ≤ 126 := by
  unfold localB alnumB at h
  simp only [Bool.or_eq_true, decide_eq_true_eq, Bool.and_eq_true] at h
  omega
theorem bare_asc : ∀ (ds : List (Nat × List UInt8)) (s : Nat), s ≤ 2 → bareF ds s = true → ∀ d ∈ ds, localB d.1 = true ∨ d.1 = 46
  | [], _, _, _ => by simp
  | (c, b) :: ds, s, hs, h => by
    unfold bareF at h
    split at h
    · cases h
    · rename_i hn
      have h6 : (nextS s c 0).1 ≠ 6 := fun h => hn (.inr h)
      have ht : (nextS s c 0).2 = true := by simpa using fun h => hn (.inl h)
      intro d hd
      rw [List.mem_cons] at hd
      rcases hd with rfl | hd
      · have : s = 0 ∨ s = 1 ∨ s = 2 := by omega
        rcases this with rfl | rfl | rfl
        · exact .inl (by simpa [nextS] using ht)
        · unfold nextS at ht h6
          by_cases h1 : c = 46
          · exact .inr h1
          · by_cases h2 : c = 64
            · simp [h2] at h6
            · exact .inl (by simpa [h1, h2] using ht)
        · exact .inl (by simpa [nextS] using ht)
      · exact bare_asc ds _ (nextS_2 c hs h6) h d hd
def domC (c : Nat) : Bool := alnumB c || decide (c = 45 ∨ c = 46)
theorem nextS_dom {s c n : Nat} (hs : 4 ≤ s ∧ s ≤ 6) (h : (nextS s c n).2 = true) : domC c = true ∧ 4 ≤ (nextS s c n).1 ∧ (nextS s c n).1 ≤ 6 := by
  have : s = 4 ∨ s = 5 ∨ s = 6 := by omega
  unfold domC
  rcases this with rfl | rfl | rfl
  · unfold nextS at h ⊢
    by_cases h1 : c = 46
    · simp [h1]
    · by_cases h2 : c = 45
      · simp [h2]
      · simp [h1, h2] at h ⊢; exact h.1
  · unfold nextS at h ⊢
    by_cases h1 : c = 46
    · simp [h1]
    · by_cases h2 : c = 45
      · simp [h2]
      · simp [h1, h2] at h ⊢; exact h.1
  · unfold nextS at h ⊢
    simp at h ⊢
    exact .inl h
theorem run1_dom : ∀ (ds : List (Nat × List UInt8)) (s n s' n' : Nat), 4 ≤ s ∧ s ≤ 6 → run1 ds s n = some (s', n') → ∀ d ∈ ds, domC d.1 = true
  | [], _, _, _, _, _, _ => by simp
  | (c, b) :: ds, s, n, s', n', hs, h => by
    unfold run1 at h
    split at h
    · cases h
    · rename_i hn
      obtain ⟨h1, h2⟩ := nextS_dom hs (by simpa using hn)
      intro d hd
      rw [List.mem_cons] at hd
      rcases hd with rfl | hd
      · exact h1
      · exact run1_dom ds _ _ _ _ h2 h d hd
theorem domC_asc {c : Nat} (h : domC c = true) : c < 128 ∧ c ≠ 62 ∧ c ≠ 64 := by
  unfold domC alnumB at h
  simp only [Bool.or_eq_true, decide_eq_true_eq] at h
  omega
theorem low_dom (b : UInt8) : (lowB b).toNat < 256 ∧ alnumB (lowB b).toNat = alnumB b.toNat ∧ ((lowB b).toNat = 45 ↔ b.toNat = 45) ∧ ((lowB b).toNat = 46 ↔ b.toNat = 46) ∧ lowB (lowB b) = lowB b ∧ (b.toNat < 128 → (lowB b).toNat < 128) := by
  have h : ∀ n : Fin 256, (fun b : UInt8 => (lowB b).toNat < 256 ∧ alnumB (lowB b).toNat = alnumB b.toNat ∧ ((lowB b).toNat = 45 ↔ b.toNat = 45) ∧ ((lowB b).toNat = 46 ↔ b.toNat = 46) ∧ lowB (lowB b) = lowB b ∧ (b.toNat < 128 → (lowB b).toNat < 128)) (UInt8.ofNat n.val) := by decide +kernel
  have := h ⟨b.toNat, b.toNat_lt⟩
  simpa using this
theorem lowL_idem (l : List UInt8) : lowL (lowL l) = lowL l := by
  unfold lowL
  rw [List.map_map]
  exact List.map_congr_left fun b _ => (low_dom b).2.2.2.2.1
theorem nextS_low {s n : Nat} (b : UInt8) (hs : 4 ≤ s ∧ s ≤ 6) : nextS s (lowB b).toNat n = nextS s b.toNat n := by
  obtain ⟨_, h1, h2, h3, _⟩ := low_dom b
  have : s = 4 ∨ s = 5 ∨ s = 6 := by omega
  unfold nextS
  rcases this with rfl | rfl | rfl <;> simp [h1, h2, h3]
theorem run1_low : ∀ (l : List UInt8) (s n s' n' : Nat), 4 ≤ s ∧ s ≤ 6 → run1 (asc l) s n = some (s', n') → run1 (asc (lowL l)) s n = some (s', n')
  | [], _, _, _, _, _, h => h
  | b :: l, s, n, s', n', hs, h => by
    simp only [asc, lowL, List.map_cons] at h ⊢
    unfold run1 at h ⊢
    rw [nextS_low b hs]
    split at h
    · cases h
    · rename_i hn
      rw [if_neg hn]
      exact run1_low l _ _ _ _ (nextS_dom hs (by simpa using hn)).2 h
/-! ## what print takes -/
def domOk (dm : List UInt8) : Prop := ∃ n, run1 (letL dm) 6 0 = some (4, n)
structure Gd (lo dm : List UInt8) : Prop where
  ne : lo ≠ []
  prn : prn lo
  dom : domOk dm
  low : dm = lowL dm
  l64 : lo.length ≤ 64
  l255 : dm.length ≤ 255
def formT (lo dm : List UInt8) : List UInt8 := (if bareT lo = true then lo else (quoteT lo).1) ++ 64 :: dm
theorem parse_a (dm : List UInt8) : runF (letL (97 :: 64 :: dm)) 0 0 0 none 0 = runF (letL dm) 6 0 2 (some 1) 2 := by
  rw [letL_asc 97 _ (by decide), letL_asc 64 _ (by decide)]
  conv => lhs; unfold runF; unfold runF
  simp [nextS, localB, alnumB]
theorem dom_iff (dm : List UInt8) : ((parseT (97 :: 64 :: dm)).2.2.2 = 0 ∨ (parseT (97 :: 64 :: dm)).2.2.2 = 6) ↔ domOk dm := by
  have e : parseT (97 :: 64 :: dm) = restT (97 :: 64 :: dm) [] 0 0 0 := by unfold parseT; rw [if_neg (by simp)]
  rw [e]
  unfold restT
  rw [List.drop_zero, parse_a]
  constructor
  · intro h
    cases hr : runF (letL dm) 6 0 2 (some 1) 2 with
    | inl pl => rw [hr] at h; simp at h
    | inr x =>
      obtain ⟨s, pl, a⟩ := x
      rw [hr] at h
      simp only at h
      split at h
      · simp at h
      · rename_i h4
        obtain ⟨⟨n', h1⟩, _⟩ := runF_ok' _ _ _ _ _ _ _ _ _ hr
        have : s = 4 := by omega
        subst this
        exact ⟨n', h1⟩
  · rintro ⟨n, h⟩
    rw [runF_ok _ _ _ _ _ _ _ _ h]
    have hall : ∀ (p : Prop) [Decidable p] (x y : List UInt8), (if p then (([] : List UInt8), ([] : List UInt8), 0, 6) else (x, y, 0, 0)).2.2.2 = 0 ∨ (if p then (([] : List UInt8), ([] : List UInt8), 0, 6) else (x, y, 0, 0)).2.2.2 = 6 := by
      intro p _ x y
      split <;> simp
    simp only
    rw [if_neg (by simp)]
    exact hall _ _ _
theorem print_ok {lo dm t : List UInt8} (h : printT lo dm = (t, 0)) : Gd lo dm ∧ t = formT lo dm := by
  unfold printT at h
  split at h
  · simp at h
  · rename_i h1
    split at h
    · simp at h
    · rename_i h2
      split at h
      · simp at h
      · rename_i h3
        have h1' : (letL lo).any badLet = false := by simpa using h1
        have hd : dm = lowL dm := Decidable.byContradiction fun e => h2 (.inr (.inl e))
        have hp : domOk dm := (dom_iff dm).1 (by
          by_cases e : (parseT (97 :: 64 :: dm)).2.2.2 = 0
          · exact .inl e
          · exact .inr (Decidable.byContradiction fun e' => h2 (.inr (.inr ⟨e, e'⟩))))
        refine ⟨⟨fun e => h2 (.inl e), prn_of h1', hp, hd, by omega, by omega⟩, ?_⟩
        unfold formT
        split at h
        · rename_i hb; rw [if_pos hb]; simpa using h.symm
        · rename_i hb; rw [if_neg hb]; simpa using h.symm
theorem print_good {lo dm : List UInt8} (h : Gd lo dm) : printT lo dm = (formT lo dm, 0) := by
  unfold printT formT
  have hp := (dom_iff dm).2 h.dom
  have hn : ¬ (lo = [] ∨ dm ≠ lowL dm ∨ ((parseT (97 :: 64 :: dm)).2.2.2 ≠ 0 ∧ (parseT (97 :: 64 :: dm)).2.2.2 ≠ 6)) := by
    rintro (e | e | e)
    · exact h.ne e
    · exact e h.low
    · omega
  have hl := h.l64
  have hl2 := h.l255
  rw [if_neg (by rw [of_prn h.prn]; decide), if_neg hn, if_neg (by omega)]
  split <;> rfl
/-! ## parse of what is printed -/
theorem rest_tail {dm : List UInt8} (h : domOk dm) (pl k pos : Nat) : runF (letL dm) 6 0 pl (some k) pos = .inr (4, pl + (letL dm).length, some k) := by
  obtain ⟨n, h⟩ := h
  exact runF_ok _ _ _ _ _ _ _ _ h
theorem bare_head {lo : List UInt8} (h : prn lo) (hb : bareT lo = true) : ∃ b r, lo = b :: r ∧ localB b.toNat = true := by
  unfold bareT at hb
  rw [letL_all lo h.asc] at hb
  cases lo with
  | nil => simp [asc, bareF] at hb
  | cons b r =>
    refine ⟨b, r, rfl, ?_⟩
    simp only [asc, List.map_cons] at hb
    unfold bareF at hb
    split at hb
    · cases hb
    · rename_i hn
      have : (nextS 0 b.toNat 0).2 = true := by simpa using fun h => hn (.inl h)
      simpa [nextS] using this
theorem parse_bare {lo dm : List UInt8} (h : Gd lo dm) (hb : bareT lo = true) : parseT (lo ++ 64 :: dm) = (lo, dm, 0, 0) := by
  obtain ⟨b, r, rfl, hl⟩ := bare_head h.prn hb
  have h34 : b ≠ 34 := by
    rintro rfl
    revert hl
    decide
  unfold parseT
  rw [if_neg (by simpa using h34)]
  unfold restT
  unfold bareT at hb
  rw [letL_all _ h.prn.asc] at hb
  rw [List.drop_zero, letL_prn _ _ h.prn.asc, letL_asc 64 _ (by decide), runF_bare _ _ _ _ _ _ (by omega) hb, asc_bytes, asc_length, Nat.zero_add]
  conv => lhs; unfold runF
  rw [if_neg (by simp [nextS]), if_pos (by simp [nextS]), if_pos (by simp [nextS]), show (nextS 1 (64 : UInt8).toNat (b :: r).length).1 = 6 by simp [nextS], rest_tail h.dom]
  have e1 : ((b :: r) ++ 64 :: dm).take (b :: r).length = b :: r := List.take_left
  have e2 : ((b :: r) ++ 64 :: dm).drop ((b :: r).length + 1) = dm := by
    rw [← List.drop_drop, List.drop_left]; rfl
  simp only [Option.getD_some]
  rw [if_neg (by simp), if_pos trivial, e1, e2, ← h.low, if_neg (by have := h.l64; have := h.l255; omega)]
theorem outL_asc (lo : List UInt8) (h : prn lo) : outL (asc lo) = lo.flatMap fun b => if b = 34 ∨ b = 92 then [92, b] else [b] := by
  unfold outL asc
  rw [List.flatMap_map]
  refine congrArg List.flatten (List.map_congr_left fun b hb => ?_)
  have := h b hb
  simp only [escL]
  rw [runE_asc _ (by omega)]
  have e : UInt8.ofNat b.toNat = b := by simp
  rw [e]
  by_cases h1 : b = 34
  · rw [if_pos (.inl (by rw [h1]; rfl)), if_pos (.inl h1)]
  · by_cases h2 : b = 92
    · rw [if_pos (.inr (by rw [h2]; rfl)), if_pos (.inr h2)]
    · rw [if_neg (by rintro (h | h); exact h1 (UInt8.toNat_inj.1 h); exact h2 (UInt8.toNat_inj.1 h)), if_neg (by simp [h1, h2])]
def escB (lo : List UInt8) : List UInt8 := lo.flatMap fun b => if b = 34 ∨ b = 92 then [92, b] else [b]
theorem escB_cons (b : UInt8) (lo : List UInt8) : escB (b :: lo) = (if b = 34 ∨ b = 92 then [92, b] else [b]) ++ escB lo := rfl
theorem long_step (b : UInt8) (hb : 32 ≤ b.toNat ∧ b.toNat ≤ 126) (r : List UInt8) (place : Nat) (out : List UInt8) (pos : Nat) (hp : place ≠ 0) :
    longF (letL ((if b = 34 ∨ b = 92 then [92, b] else [b]) ++ r)) false place out pos = longF (letL r) false (place + (if b = 34 ∨ b = 92 then 2 else 1)) (out ++ [b]) (pos + (if b = 34 ∨ b = 92 then 2 else 1)) := by
  have e : UInt8.ofNat b.toNat = b := by simp
  by_cases h : b = 34 ∨ b = 92
  · simp only [if_pos h]
    show longF (letL (92 :: b :: r)) false place out pos = _
    have hb' : b.toNat = 34 ∨ b.toNat = 92 := by rcases h with rfl | rfl; exact .inl rfl; exact .inr rfl
    rw [letL_asc 92 _ (by decide), letL_asc b _ (by omega)]
    conv => lhs; unfold longF; unfold longF
    rw [if_neg (by simp), if_neg hp, if_pos ⟨rfl, rfl⟩, if_neg (by simp; omega), if_neg (by omega), if_neg (by simp), if_neg (by simp), e]
    rfl
  · simp only [if_neg h]
    have h1 : b.toNat ≠ 34 := fun e => h (.inl (UInt8.toNat_inj.1 e))
    have h2 : b.toNat ≠ 92 := fun e => h (.inr (UInt8.toNat_inj.1 e))
    show longF (letL (b :: r)) false place out pos = _
    rw [letL_asc b _ (by omega)]
    conv => lhs; unfold longF
    rw [if_neg (by simp; omega), if_neg hp, if_neg (by simp [h2]), if_neg (by simp [h1]), e]
    rfl
theorem long_tail (r : List UInt8) : ∀ (lo : List UInt8) (place : Nat) (out : List UInt8) (pos : Nat), prn lo → place ≠ 0 → longF (letL (escB lo ++ 34 :: r)) false place out pos = (out ++ lo, pos + (escB lo).length + 1, 0, 0)
  | [], place, out, pos, _, hp => by
    show longF (letL (34 :: r)) false place out pos = _
    rw [letL_asc 34 _ (by decide)]
    unfold longF
    rw [if_neg (by simp), if_neg hp, if_neg (by simp), if_pos ⟨rfl, rfl⟩]
    simp [escB]
  | b :: lo, place, out, pos, h, hp => by
    rw [escB_cons, List.append_assoc, long_step b (h b (by simp)) _ _ _ _ hp, long_tail r lo _ _ _ (fun x hx => h x (List.mem_cons_of_mem _ hx)) (by omega)]
    simp only [List.append_assoc, List.singleton_append, List.length_append]
    refine Prod.ext rfl (Prod.ext ?_ rfl)
    split <;> simp <;> omega
theorem long_pre : ∀ (lo : List UInt8) (m place : Nat) (out : List UInt8) (pos : Nat), prn lo → place ≠ 0 → (longF (letL ((escB lo).take m)) false place out pos).2.2.2 = 3
  | [], m, place, out, pos, _, _ => by
    simp [escB, letL_nil, longF]
  | b :: lo, m, place, out, pos, h, hp => by
    have hb := h b (by simp)
    rw [escB_cons, List.take_append]
    by_cases hm : (if b = 34 ∨ b = 92 then [92, b] else [b]).length ≤ m
    · rw [List.take_of_length_le hm, long_step b hb _ _ _ _ hp]
      exact long_pre lo _ _ _ _ (fun x hx => h x (List.mem_cons_of_mem _ hx)) (by omega)
    · have hz : m - (if b = 34 ∨ b = 92 then [92, b] else [b]).length = 0 := by omega
      rw [hz, List.take_zero, List.append_nil]
      by_cases h2 : b = 34 ∨ b = 92
      · rw [if_pos h2] at hm ⊢
        have : m = 0 ∨ m = 1 := by simp at hm; omega
        rcases this with rfl | rfl
        · simp [letL_nil, longF]
        · show (longF (letL [92]) false place out pos).2.2.2 = 3
          rw [letL_asc 92 _ (by decide), letL_nil]
          unfold longF
          rw [if_neg (by simp), if_neg hp, if_pos ⟨rfl, rfl⟩]
          rfl
      · rw [if_neg h2] at hm ⊢
        have : m = 0 := by simp at hm; omega
        subst this
        simp [letL_nil, longF]
theorem quote_form {lo : List UInt8} (h : prn lo) (hl : lo.length ≤ 64) : (quoteT lo).1 = 34 :: escB lo ++ [34] := by
  unfold quoteT
  rw [if_neg (by omega)]
  have hn : (letL lo).findIdx? (fun d => !plnL d) = none := by
    rw [List.findIdx?_eq_none_iff, letL_all lo h.asc]
    intro d hd
    obtain ⟨b, hb, rfl⟩ := List.mem_map.1 hd
    have := h b hb
    simp [plnL, plainB]
    omega
  rw [hn, letL_all lo h.asc]
  simp only
  rw [outL_asc lo h]
  rfl
theorem long_first (r : List UInt8) : longT (34 :: r) = longF (letL r) false 1 [] 1 := by
  unfold longT
  rw [letL_asc 34 _ (by decide)]
  conv => lhs; unfold longF
  rw [if_neg (by simp), if_pos rfl]
  rfl
theorem long_quote {lo : List UInt8} (h : prn lo) (r : List UInt8) : longT (34 :: escB lo ++ 34 :: r) = (lo, (escB lo).length + 2, 0, 0) := by
  rw [List.cons_append, long_first, long_tail r lo 1 [] 1 h (by omega)]
  refine Prod.ext rfl (Prod.ext ?_ rfl)
  simp only
  omega
theorem parse_quoted {lo dm : List UInt8} (h : Gd lo dm) : parseT ((quoteT lo).1 ++ 64 :: dm) = (lo, dm, 0, 0) := by
  rw [quote_form h.prn h.l64]
  have e0 : 34 :: escB lo ++ [34] ++ 64 :: dm = 34 :: escB lo ++ 34 :: (64 :: dm) := by simp
  rw [e0]
  unfold parseT
  rw [if_pos (show (34 :: escB lo ++ 34 :: 64 :: dm)[0]? = some 34 from rfl), long_quote h.prn]
  simp only
  rw [if_neg (by simp)]
  unfold restT
  have e1 : (34 :: escB lo ++ 34 :: 64 :: dm).drop ((escB lo).length + 2) = 64 :: dm := by
    rw [show 34 :: escB lo ++ 34 :: 64 :: dm = (34 :: escB lo ++ [34]) ++ 64 :: dm by simp, show (escB lo).length + 2 = (34 :: escB lo ++ [34]).length by simp, List.drop_left]
  have e2 : (34 :: escB lo ++ 34 :: 64 :: dm).drop ((escB lo).length + 2 + 1) = dm := by
    rw [← List.drop_drop, e1]; rfl
  rw [e1, letL_asc 64 _ (by decide)]
  conv => lhs; unfold runF
  rw [if_neg (by simp [nextS]), if_pos (by simp [nextS]), if_pos (by simp [nextS]), show (nextS 3 (64 : UInt8).toNat 0).1 = 6 by simp [nextS], rest_tail h.dom]
  simp only [Option.getD_some]
  rw [if_neg (by simp), if_neg (show ¬ (escB lo).length + 2 = 0 by omega), e2, ← h.low, if_neg (by have := h.l64; have := h.l255; omega)]
theorem parse_form {lo dm : List UInt8} (h : Gd lo dm) : parseT (formT lo dm) = (lo, dm, 0, 0) := by
  unfold formT
  split
  · rename_i hb; exact parse_bare h hb
  · exact parse_quoted h
/-! ## what is taken is good -/
theorem longF_prn : ∀ (ds : List (Nat × List UInt8)) (sg : Bool) (pl : Nat) (out : List UInt8) (pos : Nat), prn out → (longF ds sg pl out pos).2.2.2 = 0 → prn (longF ds sg pl out pos).1
  | [], sg, pl, out, pos, _, h => by simp [longF] at h
  | (c, b) :: ds, sg, pl, out, pos, ho, h => by
    unfold longF at h ⊢
    split at h
    · simp at h
    · rename_i n1
      rw [if_neg n1]
      split at h
      · rename_i n2; rw [if_pos n2]; exact longF_prn ds _ _ _ _ ho h
      · rename_i n2
        rw [if_neg n2]
        split at h
        · rename_i n3; rw [if_pos n3]; exact longF_prn ds _ _ _ _ ho h
        · rename_i n3
          rw [if_neg n3]
          split at h
          · rename_i n4; rw [if_pos n4]; exact ho
          · rename_i n4
            rw [if_neg n4]
            refine longF_prn ds _ _ _ _ ?_ h
            intro x hx
            rw [List.mem_append, List.mem_singleton] at hx
            rcases hx with hx | rfl
            · exact ho x hx
            · have : ¬ (c < 32 ∨ 126 < c) := fun e => n1 (.inl e)
              simp
              omega
theorem dom_low {dd : List UInt8} (h : domOk dd) : domOk (lowL dd) := by
  obtain ⟨n, h⟩ := h
  obtain ⟨h1, h2⟩ := all_asc _ (letL_ok _ dd (Nat.le_refl _)) (fun d hd => (domC_asc (run1_dom _ _ _ _ _ ⟨by omega, by omega⟩ h d hd)).1)
  rw [let_bytes _ dd (Nat.le_refl _)] at h1 h2
  rw [h1] at h
  refine ⟨n, ?_⟩
  rw [letL_all (lowL dd) (by
    intro b hb
    obtain ⟨x, hx, rfl⟩ := List.mem_map.1 hb
    exact (low_dom x).2.2.2.2.2 (h2 x hx))]
  exact run1_low dd _ _ _ _ ⟨by omega, by omega⟩ h
theorem drop_let : ∀ (ds1 : List (Nat × List UInt8)) (l : List UInt8) (ds2 : List (Nat × List UInt8)), letL l = ds1 ++ ds2 → letL (l.drop (ds1.flatMap fun d => d.2).length) = ds2
  | [], l, ds2, h => by simpa using h
  | d :: ds1, l, ds2, h => by
    have hl : l ≠ [] := by rintro rfl; simp [letL_nil] at h
    rw [letL_step l hl, List.cons_append, List.cons.injEq] at h
    have hd : d.2.length = (Lib.decodeL l).2 := by
      rw [← h.1]
      simp only [List.length_take]
      have := Lib.decodeL_le l hl
      omega
    have := drop_let ds1 _ ds2 h.2
    rw [List.flatMap_cons, List.length_append, hd, ← List.drop_drop]
    exact this
theorem parse_good {s lo dm : List UInt8} {p : Nat} (h : parseT s = (lo, dm, p, 0)) (hne : lo ≠ []) : Gd lo dm := by
  unfold parseT at h
  split at h
  · split at h
    · rename_i h1
      simp only [Prod.mk.injEq] at h
      exact absurd h.2.2.2 h1
    · rename_i h0 h1
      have hp := longF_prn (letL s) false 0 [] 0 (by intro b hb; cases hb) (by simpa [longT] using h1)
      have hpos := longT_le s (by simpa using h1)
      generalize hlt : longT s = r at *
      obtain ⟨said, nn, pe, er⟩ := r
      have hp' : prn said := by
        have := hp
        rw [show longF (letL s) false 0 [] 0 = longT s from rfl, hlt] at this
        exact this
      simp only at h h1 hpos
      unfold restT at h
      have hok := letL_ok _ (s.drop nn) (Nat.le_refl _)
      cases hd : letL (s.drop nn) with
      | nil => rw [hd] at h; simp [runF] at h
      | cons d ds =>
        obtain ⟨c, b⟩ := d
        rw [hd] at h hok
        unfold runF at h
        by_cases hc : c = 64
        · subst hc
          have hb : b = [64] := by
            have := letOk_asc (hok (64, b) (by simp)) (by simp)
            simpa using this
          subst hb
          rw [if_neg (by simp [nextS]), if_pos (by simp [nextS]), if_pos (by simp [nextS]), show (nextS 3 64 0).1 = 6 by simp [nextS]] at h
          cases hr : runF ds 6 0 ((letL (s.take nn)).length + 1) (some nn) (nn + [(64 : UInt8)].length) with
          | inl q => rw [hr] at h; simp at h
          | inr x =>
            obtain ⟨z, pl, a⟩ := x
            obtain ⟨⟨n', h5⟩, h6⟩ := runF_ok' _ _ _ _ _ _ _ _ _ hr
            rw [hr] at h
            simp only at h
            split at h
            · simp at h
            · rename_i h4
              have : z = 4 := by omega
              subst this h6
              have hds : letL (s.drop (nn + 1)) = ds := by
                have := drop_let [(64, [64])] (s.drop nn) ds (by rw [hd]; rfl)
                rw [List.drop_drop] at this
                exact this
              simp only [Option.getD_some] at h
              rw [if_neg (show ¬ nn = 0 by omega)] at h
              split at h
              · simp at h
              · rename_i hlim
                simp only [Prod.mk.injEq] at h
                obtain ⟨rfl, rfl, _, _⟩ := h
                have hdo : domOk (s.drop (nn + 1)) := ⟨n', by rw [hds]; exact h5⟩
                exact ⟨hne, hp', dom_low hdo, (lowL_idem _).symm, by omega, by omega⟩
        · rw [if_pos (by simp [nextS, hc])] at h
          simp at h
  · unfold restT at h
    rw [List.drop_zero] at h
    cases hr : runF (letL s) 0 0 0 none 0 with
    | inl q => rw [hr] at h; simp at h
    | inr x =>
      obtain ⟨z, pl, a⟩ := x
      rw [hr] at h
      simp only at h
      split at h
      · simp at h
      · rename_i h4
        have : z = 4 := by omega
        subst this
        obtain ⟨ds1, b, ds2, e1, e2, e3, n', e4⟩ := runF_split _ _ _ _ _ _ _ _ (by omega) (by omega) hr
        rw [Nat.zero_add] at e3
        have hok := letL_ok _ s (Nat.le_refl _)
        rw [e1] at hok
        have hb : b = [64] := by
          have := letOk_asc (hok (64, b) (by simp)) (by simp)
          simpa using this
        subst hb
        have hla := bare_asc ds1 0 (by omega) e2
        obtain ⟨h1, h2⟩ := all_asc ds1 (fun d hd => hok d (List.mem_append_left _ hd)) (fun d hd => by
          rcases hla d hd with h | h
          · have := localB_asc h; omega
          · omega)
        have hs : s = ds1.flatMap (fun d => d.2) ++ (64 :: ds2.flatMap fun d => d.2) := by
          have := let_bytes _ s (Nat.le_refl _)
          rw [e1, List.flatMap_append, List.flatMap_cons] at this
          exact this.symm
        have hd2 : letL (s.drop ((ds1.flatMap fun d => d.2).length + 1)) = ds2 := by
          have := drop_let (ds1 ++ [(64, [64])]) s ds2 (by rw [e1]; simp)
          rw [List.flatMap_append, List.length_append] at this
          exact this
        subst e3
        simp only [Option.getD_some] at h
        rw [if_pos trivial] at h
        split at h
        · simp at h
        · rename_i hlim
          simp only [Prod.mk.injEq] at h
          obtain ⟨rfl, rfl, _, _⟩ := h
          have hdo : domOk (s.drop ((ds1.flatMap fun d => d.2).length + 1)) := ⟨n', by rw [hd2]; exact e4⟩
          refine ⟨hne, ?_, dom_low hdo, (lowL_idem _).symm, by omega, by omega⟩
          have et : s.take (ds1.flatMap fun d => d.2).length = ds1.flatMap fun d => d.2 := by
            conv => lhs; rw [hs]
            exact List.take_left
          rw [et]
          intro x hx
          have : (x.toNat, [x]) ∈ ds1 := by rw [h1]; exact List.mem_map.2 ⟨x, hx, rfl⟩
          rcases hla _ this with h | h
          · exact localB_asc h
          · simp only at h; omega
/-! ## a path of what is printed -/
theorem form_head {lo dm : List UInt8} (h : Gd lo dm) : ∃ b r, formT lo dm = b :: r ∧ b ≠ 62 := by
  unfold formT
  split
  · rename_i hb
    obtain ⟨b, r, rfl, hl⟩ := bare_head h.prn hb
    refine ⟨b, r ++ 64 :: dm, rfl, ?_⟩
    rintro rfl
    revert hl
    decide
  · rw [quote_form h.prn h.l64]
    exact ⟨34, escB lo ++ [34] ++ 64 :: dm, by simp, by decide⟩
theorem dom_no62 {dm : List UInt8} (h : domOk dm) : (62 : UInt8) ∉ dm := by
  intro hm
  obtain ⟨n, h⟩ := h
  have hd := run1_dom _ _ _ _ _ ⟨by omega, by omega⟩ h
  obtain ⟨h1, h2⟩ := all_asc _ (letL_ok _ dm (Nat.le_refl _)) (fun d hd' => (domC_asc (hd d hd')).1)
  rw [let_bytes _ dm (Nat.le_refl _)] at h1
  have : ((62 : UInt8).toNat, [(62 : UInt8)]) ∈ letL dm := by rw [h1]; exact List.mem_map.2 ⟨62, hm, rfl⟩
  exact (domC_asc (hd _ this)).2.1 rfl
theorem form_pre {lo dm : List UInt8} (h : Gd lo dm) {m : Nat} (hm : (formT lo dm)[m]? = some 62) : (parseT ((formT lo dm).take m)).2.2.2 ≠ 0 := by
  have hd := dom_no62 h.dom
  unfold formT at hm ⊢
  split at hm
  · rename_i hb
    exfalso
    have hmem : (62 : UInt8) ∈ lo ++ 64 :: dm := List.mem_of_getElem? hm
    rw [List.mem_append, List.mem_cons] at hmem
    rcases hmem with hmem | hmem | hmem
    · unfold bareT at hb
      rw [letL_all lo h.prn.asc] at hb
      have := bare_asc _ 0 (by omega) hb ((62 : UInt8).toNat, [62]) (List.mem_map.2 ⟨62, hmem, rfl⟩)
      revert this
      decide
    · revert hmem; decide
    · exact hd hmem
  · rename_i hb
    rw [if_neg hb]
    rw [quote_form h.prn h.l64] at hm ⊢
    have hlt : m < (34 :: escB lo ++ [34]).length := by
      rcases Nat.lt_or_ge m (34 :: escB lo ++ [34]).length with h | h
      · exact h
      · exfalso
        rw [List.getElem?_append_right h] at hm
        have := List.mem_of_getElem? hm
        rw [List.mem_cons] at this
        rcases this with h | h
        · revert h; decide
        · exact hd h
    rw [List.take_append_of_le_length (by omega)]
    cases m with
    | zero => simp [parseT, restT, letL_nil, runF]
    | succ m =>
      simp only [List.length_append, List.length_cons, List.length_nil] at hlt
      rw [List.cons_append, List.take_succ_cons, List.take_append_of_le_length (by omega)]
      unfold parseT
      rw [if_pos (show (34 :: (escB lo).take m)[0]? = some 34 from rfl), long_first]
      have := long_pre lo m 1 [] 1 h.prn (by omega)
      rw [if_pos (by rw [this]; decide), this]
      decide
theorem path_form {lo dm : List UInt8} (h : Gd lo dm) : pathT (60 :: formT lo dm ++ [62, 32, 120]) = (lo, dm, [32, 120], 0) := by
  obtain ⟨b, r, hf, hb⟩ := form_head h
  have hpre : Lib.hasPrefix (60 :: formT lo dm ++ [62, 32, 120]) [60, 62] = false := by
    rw [hf]
    simp [Lib.hasPrefix, List.isPrefixOf]
    exact fun e => hb e.symm
  have hlen : (60 :: formT lo dm ++ [62, 32, 120]).length = (formT lo dm).length + 4 := by simp
  have htk : ∀ j, j ≤ (formT lo dm).length → ((60 :: formT lo dm ++ [62, 32, 120]).take (j + 1)).drop 1 = (formT lo dm).take j := by
    intro j hj
    rw [List.cons_append, List.take_succ_cons, List.take_append_of_le_length hj]
    rfl
  have hfind : (List.range (60 :: formT lo dm ++ [62, 32, 120]).length).find? (okAt (60 :: formT lo dm ++ [62, 32, 120])) = some ((formT lo dm).length + 1) := by
    refine okAt_find (by omega) ?_ ?_
    · intro j hj
      unfold okAt
      rw [decide_eq_false]
      rintro ⟨_, h2, h3⟩
      cases j with
      | zero => simp at h2
      | succ j =>
        rw [htk j (by omega)] at h3
        refine form_pre h ?_ h3
        rw [List.cons_append, List.getElem?_cons_succ, List.getElem?_append_left (by omega)] at h2
        exact h2
    · unfold okAt
      rw [decide_eq_true]
      refine ⟨rfl, ?_, ?_⟩
      · rw [List.cons_append, List.getElem?_cons_succ, List.getElem?_append_right (Nat.le_refl _)]
        simp
      · rw [htk _ (Nat.le_refl _), List.take_length, parse_form h]
  unfold pathT
  rw [if_neg (by rw [hpre]; decide), hfind]
  simp only
  rw [htk _ (Nat.le_refl _), List.take_length, parse_form h]
  have : (60 :: formT lo dm ++ [62, 32, 120]).drop ((formT lo dm).length + 1 + 1) = [32, 120] := by
    rw [show 60 :: formT lo dm ++ [62, 32, 120] = (60 :: formT lo dm ++ [62]) ++ [32, 120] by simp, show (formT lo dm).length + 1 + 1 = (60 :: formT lo dm ++ [62]).length by simp, List.drop_left]
  rw [this]
end Go.Proofs.Ytchokelpimibdaa
namespace Go.Proofs.Ytchokelpimibdaa
open Go.RowKit
theorem parse_plain {s lo dm : By} {p : Nat} (h : parseT s = (lo, dm, p, 0)) (hq : s[0]? ≠ some 34) : ∃ dom, s = lo ++ 64 :: dom ∧ dm = lowL dom ∧ (64 : UInt8) ∉ lo := by
  unfold parseT at h
  rw [if_neg hq] at h
  unfold restT at h
  rw [List.drop_zero] at h
  cases hr : runF (letL s) 0 0 0 none 0 with
  | inl q => rw [hr] at h; simp at h
  | inr x =>
    obtain ⟨z, pl, a⟩ := x
    rw [hr] at h
    simp only at h
    split at h
    · simp at h
    · rename_i h4
      have : z = 4 := by omega
      subst this
      obtain ⟨ds1, b, ds2, e1, e2, e3, n', e4⟩ := runF_split _ _ _ _ _ _ _ _ (by omega) (by omega) hr
      rw [Nat.zero_add] at e3
      have hok := letL_ok _ s (Nat.le_refl _)
      rw [e1] at hok
      have hb : b = [64] := by
        have := letOk_asc (hok (64, b) (by simp)) (by simp)
        simpa using this
      subst hb
      have hla := bare_asc ds1 0 (by omega) e2
      obtain ⟨h1, h2⟩ := all_asc ds1 (fun d hd => hok d (List.mem_append_left _ hd)) (fun d hd => by
        rcases hla d hd with h | h
        · have := localB_asc h; omega
        · omega)
      have hs : s = ds1.flatMap (fun d => d.2) ++ (64 :: ds2.flatMap fun d => d.2) := by
        have := let_bytes _ s (Nat.le_refl _)
        rw [e1, List.flatMap_append, List.flatMap_cons] at this
        exact this.symm
      subst e3
      simp only [Option.getD_some] at h
      rw [if_pos trivial] at h
      split at h
      · simp at h
      · simp only [Prod.mk.injEq] at h
        obtain ⟨rfl, rfl, _, _⟩ := h
        have et : s.take (ds1.flatMap fun d => d.2).length = ds1.flatMap fun d => d.2 := by
          conv => lhs; rw [hs]
          exact List.take_left
        have ed : s.drop ((ds1.flatMap fun d => d.2).length + 1) = ds2.flatMap fun d => d.2 := by
          conv => lhs; rw [hs]
          rw [← List.drop_drop, List.drop_left]
          rfl
        rw [et, ed]
        refine ⟨_, hs, rfl, fun hm => ?_⟩
        have : ((64 : UInt8).toNat, [(64 : UInt8)]) ∈ ds1 := by rw [h1]; exact List.mem_map.2 ⟨64, hm, rfl⟩
        rcases hla _ this with h | h
        · revert h; decide
        · revert h; decide
theorem restT_said {l said lo dm : By} {s0 f p0 p : Nat} (h : restT l said s0 f p0 = (lo, dm, p, 0)) (hf : f ≠ 0) : lo = said := by
  unfold restT at h
  split at h
  · simp at h
  · split at h
    · simp at h
    · simp only at h
      split at h
      · simp at h
      · simp only [Prod.mk.injEq] at h
        exact h.1.symm
theorem prn_cons {b : UInt8} {lo : By} (hb : 32 ≤ b.toNat ∧ b.toNat ≤ 126) (h : prn lo) : prn (b :: lo) := fun x hx => by
  rcases List.mem_cons.1 hx with rfl | hx
  · exact hb
  · exact h x hx
theorem long_inv : ∀ (ds : List (Nat × By)) (sg : Bool) (place : Nat) (out : By) (pos : Nat) (res : By) (n q : Nat), (∀ d ∈ ds, letOk d) → place ≠ 0 → longF ds sg place out pos = (res, n, q, 0) →
    (sg = false → ∃ lo r, res = out ++ lo ∧ (ds.flatMap fun d => d.2) = escB lo ++ 34 :: r ∧ prn lo) ∧
    (sg = true → ∃ x lo r, (x = 34 ∨ x = 92) ∧ res = out ++ x :: lo ∧ (ds.flatMap fun d => d.2) = x :: (escB lo ++ 34 :: r) ∧ prn lo)
  | [], sg, place, out, pos, res, n, q, _, _, h => by simp [longF] at h
  | (c, b) :: ds, sg, place, out, pos, res, n, q, hok, hp, h => by
    unfold longF at h
    split at h
    · simp at h
    · rename_i n1
      rw [not_or] at n1
      have hc : ¬ (c < 32 ∨ 126 < c) := n1.1
      have hd := letOk_asc (hok (c, b) (by simp)) (show c < 128 by omega)
      simp only [Prod.mk.injEq] at hd
      obtain ⟨hd1, rfl⟩ := hd
      have hcx : (UInt8.ofNat c).toNat = c := hd1.symm
      have hokt : ∀ d ∈ ds, letOk d := fun d hd => hok d (List.mem_cons_of_mem _ hd)
      split at h
      · rename_i n3
        obtain ⟨rfl, rfl⟩ := n3
        obtain ⟨x, lo, r, hx, e1, e2, e3⟩ := (long_inv ds true _ _ _ _ _ _ hokt (by omega) h).2 rfl
        refine ⟨fun _ => ⟨x :: lo, r, e1, ?_, prn_cons (by rcases hx with rfl | rfl <;> decide) e3⟩, fun h => by cases h⟩
        rw [List.flatMap_cons, e2, escB_cons, if_pos hx]
        rfl
      · rename_i n3
        split at h
        · rename_i n4
          obtain ⟨rfl, rfl⟩ := n4
          simp only [Prod.mk.injEq] at h
          obtain ⟨rfl, _⟩ := h
          exact ⟨fun _ => ⟨[], ds.flatMap fun d => d.2, by simp, by simp [escB], fun x hx => (by cases hx)⟩, fun h => by cases h⟩
        · rename_i n4
          obtain ⟨lo, r, e1, e2, e3⟩ := (long_inv ds false _ _ _ _ _ _ hokt (by omega) h).1 rfl
          refine ⟨fun hs => ⟨UInt8.ofNat c :: lo, r, by rw [e1]; simp, ?_, prn_cons (by rw [hcx]; omega) e3⟩, fun hs => ⟨UInt8.ofNat c, lo, r, ?_, by rw [e1]; simp, by rw [List.flatMap_cons, e2]; rfl, e3⟩⟩
          · subst hs
            have h34 : ¬ (UInt8.ofNat c = 34 ∨ UInt8.ofNat c = 92) := by
              rintro (h | h)
              · have := congrArg UInt8.toNat h
                rw [hcx] at this
                exact n4 ⟨rfl, this⟩
              · have := congrArg UInt8.toNat h
                rw [hcx] at this
                exact n3 ⟨rfl, this⟩
            rw [List.flatMap_cons, e2, escB_cons, if_neg h34]
            rfl
          · subst hs
            have : c = 34 ∨ c = 92 := by
              by_cases h1 : c = 34
              · exact .inl h1
              · by_cases h2 : c = 92
                · exact .inr h2
                · exact absurd ⟨rfl, h1, h2⟩ n1.2
            rcases this with rfl | rfl
            · exact .inl rfl
            · exact .inr rfl
theorem longT_inv {s : By} {res : By} {n q : Nat} (h : longT (34 :: s) = (res, n, q, 0)) : ∃ r, s = escB res ++ 34 :: r ∧ prn res := by
  rw [long_first] at h
  obtain ⟨lo, r, e1, e2, e3⟩ := (long_inv _ _ _ _ _ _ _ _ (letL_ok _ s (Nat.le_refl _)) (by omega) h).1 rfl
  rw [List.nil_append] at e1
  subst e1
  rw [let_bytes _ s (Nat.le_refl _)] at e2
  exact ⟨r, e2, e3⟩
theorem parse_signed {s lo dm : By} {p : Nat} (h : parseT s = (lo, dm, p, 0)) (hq : s[0]? = some 34) : ∃ r, s = 34 :: escB lo ++ 34 :: r ∧ prn lo := by
  obtain ⟨t, rfl⟩ : ∃ t, s = 34 :: t := by
    cases s with
    | nil => simp at hq
    | cons a t => simp at hq; exact ⟨t, by rw [hq]⟩
  unfold parseT at h
  rw [if_pos hq] at h
  split at h
  · rename_i h1
    simp only [Prod.mk.injEq] at h
    exact absurd h.2.2.2 h1
  · rename_i h1
    have h1 : (longT (34 :: t)).2.2.2 = 0 := by simpa using h1
    have hpos := (longT_le _ h1).1
    have := restT_said h (by omega)
    subst this
    obtain ⟨r, e1, e2⟩ := longT_inv (s := t) (res := (longT (34 :: t)).1) (n := (longT (34 :: t)).2.1) (q := (longT (34 :: t)).2.2.1) (by rw [← h1])
    exact ⟨r, by rw [List.cons_append, ← e1], e2⟩
theorem low_is {b k : UInt8} (hk : (k.toNat < 97 ∨ 122 < k.toNat) ∧ (k.toNat < 65 ∨ 90 < k.toNat)) : lowB b = k ↔ b = k := by
  unfold lowB
  split
  · rename_i h
    constructor
    · intro e
      have e2 : (b + 32).toNat = b.toNat + 32 := by
        rw [UInt8.toNat_add]
        have : (32 : UInt8).toNat = 32 := rfl
        rw [this]
        omega
      rw [e] at e2
      omega
    · rintro rfl
      omega
  · exact Iff.rfl
theorem low_esc (lo : By) : lowL (escB lo) = escB (lowL lo) := by
  induction lo with
  | nil => rfl
  | cons b lo ih =>
    have h1 : lowL (b :: lo) = lowB b :: lowL lo := rfl
    rw [h1, escB_cons, escB_cons]
    have ha : ∀ x y : By, lowL (x ++ y) = lowL x ++ lowL y := fun x y => by simp [lowL]
    rw [ha, ih]
    congr 1
    have e1 : (lowB b = 34 ↔ b = 34) := low_is (by decide)
    have e2 : (lowB b = 92 ↔ b = 92) := low_is (by decide)
    by_cases h : b = 34 ∨ b = 92
    · rw [if_pos h, if_pos (by rw [e1, e2]; exact h)]
      rfl
    · rw [if_neg h, if_neg (by rw [e1, e2]; exact h)]
      rfl
theorem low_prn {lo : By} (h : prn lo) : prn (lowL lo) := fun x hx => by
  obtain ⟨b, hb, rfl⟩ := List.mem_map.1 hx
  have := h b hb
  unfold lowB
  split
  · rename_i h2
    have : (b + 32).toNat = b.toNat + 32 := by
      rw [UInt8.toNat_add]
      have : (32 : UInt8).toNat = 32 := rfl
      rw [this]
      omega
    omega
  · exact this
theorem low_app (x y : By) : lowL (x ++ y) = lowL x ++ lowL y := by simp [lowL]
theorem low_mem {lo : By} (h : (64 : UInt8) ∉ lo) : (64 : UInt8) ∉ lowL lo := fun hm => by
  obtain ⟨b, hb, e⟩ := List.mem_map.1 hm
  rw [low_is (by decide)] at e
  subst e
  exact h hb
theorem split_at {a b x y : By} (h : a ++ 64 :: x = b ++ 64 :: y) (ha : (64 : UInt8) ∉ a) (hb : (64 : UInt8) ∉ b) : a = b := by
  induction a generalizing b with
  | nil =>
    cases b with
    | nil => rfl
    | cons c b =>
      simp only [List.nil_append, List.cons_append, List.cons.injEq] at h
      exact absurd (by simp [← h.1]) hb
  | cons c a ih =>
    cases b with
    | nil =>
      simp only [List.nil_append, List.cons_append, List.cons.injEq] at h
      exact absurd (by simp [h.1]) ha
    | cons d b =>
      simp only [List.cons_append, List.cons.injEq] at h
      rw [h.1, ih h.2 (fun hm => ha (List.mem_cons_of_mem _ hm)) (fun hm => hb (List.mem_cons_of_mem _ hm))]
theorem low_head {s : By} {k : UInt8} (hk : (k.toNat < 97 ∨ 122 < k.toNat) ∧ (k.toNat < 65 ∨ 90 < k.toNat)) (j : Nat) : (lowL s)[j]? = some k ↔ s[j]? = some k := by
  unfold lowL
  rw [List.getElem?_map]
  cases s[j]? with
  | none => simp
  | some b => simp [low_is hk]
theorem parse_user {s s' lo lo' dm dm' : By} {p p' : Nat} (h : parseT s = (lo, dm, p, 0)) (h' : parseT s' = (lo', dm', p', 0)) (e : lowL s = lowL s') : lowL lo = lowL lo' := by
  by_cases hq : s[0]? = some 34
  · have hq' : s'[0]? = some 34 := by rw [← low_head (by decide), ← e, low_head (by decide)]; exact hq
    obtain ⟨r, e1, e2⟩ := parse_signed h hq
    obtain ⟨r', e1', e2'⟩ := parse_signed h' hq'
    have f : ∀ (lo r : By), lowL (34 :: escB lo ++ 34 :: r) = 34 :: escB (lowL lo) ++ 34 :: lowL r := fun lo r => by
      rw [low_app]
      show lowB 34 :: lowL (escB lo) ++ lowB 34 :: lowL r = _
      rw [low_esc]
      rfl
    have l1 := long_quote (low_prn e2) (lowL r)
    have l2 := long_quote (low_prn e2') (lowL r')
    rw [← f, ← e1, e, e1', f, l2] at l1
    simp only [Prod.mk.injEq] at l1
    exact l1.1.symm
  · have hq' : s'[0]? ≠ some 34 := fun hh => hq (by rw [← low_head (by decide), e, low_head (by decide)]; exact hh)
    obtain ⟨d, e1, _, e3⟩ := parse_plain h hq
    obtain ⟨d', e1', _, e3'⟩ := parse_plain h' hq'
    rw [e1, e1', low_app, low_app] at e
    exact split_at e (low_mem e3) (low_mem e3')
end Go.Proofs.Ytchokelpimibdaa
namespace Go.Proofs.Ytchokelpimibdaa
open Go.RowKit
/-! ## paths -/
theorem path_shape {x lo dm : By} (h : pathT x = (lo, dm, [], 0)) : (x = [60, 62] ∧ lo = [] ∧ dm = []) ∨ ∃ mid p, x = 60 :: (mid ++ [62]) ∧ parseT mid = (lo, dm, p, 0) := by
  unfold pathT at h
  split at h
  · rename_i hp
    unfold Lib.hasPrefix at hp
    obtain ⟨t, ht⟩ := List.isPrefixOf_iff_prefix.1 hp
    simp only [Prod.mk.injEq] at h
    obtain ⟨rfl, rfl, h3, _⟩ := h
    refine .inl ⟨?_, rfl, rfl⟩
    subst ht
    have : t = [] := by simpa using h3
    subst this
    rfl
  · split at h
    · rename_i i hf
      rw [List.find?_range_eq_some] at hf
      obtain ⟨h1, h2, _⟩ := hf
      unfold okAt at h1
      rw [decide_eq_true_eq] at h1
      obtain ⟨a1, a2, a3⟩ := h1
      simp only [Prod.mk.injEq] at h
      obtain ⟨e1, e2, e3, _⟩ := h
      have hil : i < x.length := by simpa using h2
      have hl : x.length ≤ i + 1 := by
        have := congrArg List.length e3
        simp at this
        omega
      cases x with
      | nil => simp at a1
      | cons b t =>
        simp at a1
        subst a1
        cases i with
        | zero => simp at a2
        | succ i =>
          simp at a2 hil hl
          have ht : t = t.take i ++ [62] := by
            conv => lhs; rw [← List.take_append_drop i t]
            congr 1
            rw [List.drop_eq_getElem_cons (by omega), List.drop_eq_nil_of_le (by omega)]
            rw [List.getElem?_eq_getElem (by omega)] at a2
            simp at a2
            rw [a2]
          refine .inr ⟨t.take i, (parseT (t.take i)).2.2.1, by rw [← ht], ?_⟩
          have et : (((60 : UInt8) :: t).take (i + 1)).drop 1 = t.take i := rfl
          rw [et] at e1 e2 a3
          rw [← e1, ← e2, ← a3]
    · simp at h
theorem parse_nil : (parseT []).2.2.2 = 3 := by decide +kernel
theorem path_user {x y lo lo' dm dm' : By} (h : pathT x = (lo, dm, [], 0)) (h' : pathT y = (lo', dm', [], 0)) (e : lowL x = lowL y) : lowL lo = lowL lo' := by
  have hl : x.length = y.length := by have := congrArg List.length e; simpa [lowL] using this
  rcases path_shape h with ⟨rfl, rfl, rfl⟩ | ⟨mid, p, rfl, hp⟩
  · rcases path_shape h' with ⟨rfl, rfl, rfl⟩ | ⟨mid', p', rfl, hp'⟩
    · rfl
    · simp at hl
      subst hl
      have := parse_nil
      rw [hp'] at this
      simp at this
  · rcases path_shape h' with ⟨rfl, rfl, rfl⟩ | ⟨mid', p', rfl, hp'⟩
    · simp at hl
      subst hl
      have := parse_nil
      rw [hp] at this
      simp at this
    · refine parse_user hp hp' ?_
      have e1 : lowL (60 :: (mid ++ [62])) = 60 :: (lowL mid ++ [62]) := by rw [show (60 : UInt8) :: (mid ++ [62]) = [60] ++ mid ++ [62] from rfl, low_app, low_app]; rfl
      have e2 : lowL (60 :: (mid' ++ [62])) = 60 :: (lowL mid' ++ [62]) := by rw [show (60 : UInt8) :: (mid' ++ [62]) = [60] ++ mid' ++ [62] from rfl, low_app, low_app]; rfl
      rw [e1, e2] at e
      simp only [List.cons.injEq, true_and] at e
      exact List.append_cancel_right e
/-- a recipient and the text that named it -/
def Good (a : Ad) (x : By) : Prop := lowL x = 60 :: (lowL a.1 ++ 64 :: (a.2 ++ [62])) ∨ x[1]? = some 34
theorem path_good {x lo dm : By} (h : pathT x = (lo, dm, [], 0)) (hne : ¬ (lo = [] ∧ dm = [])) : Good (lo, dm) x := by
  rcases path_shape h with ⟨rfl, rfl, rfl⟩ | ⟨mid, p, rfl, hp⟩
  · exact absurd ⟨rfl, rfl⟩ hne
  · by_cases hq : mid[0]? = some 34
    · refine .inr ?_
      cases mid with
      | nil => simp at hq
      | cons a t => simpa using hq
    · obtain ⟨d, e1, e2, _⟩ := parse_plain hp hq
      refine .inl ?_
      subst e1 e2
      rw [show (60 : UInt8) :: (lo ++ 64 :: d ++ [62]) = [60] ++ (lo ++ ([64] ++ (d ++ [62]))) by simp, low_app, low_app, low_app, low_app]
      rfl
theorem path_two {x : By} (h : (pathT x).2.2.2 = 0) : 2 ≤ x.length := by
  unfold pathT at h
  split at h
  · rename_i hp
    unfold Lib.hasPrefix at hp
    have := (List.isPrefixOf_iff_prefix.1 hp).length_le
    simpa using this
  · split at h
    · rename_i i hf
      rw [List.find?_range_eq_some] at hf
      obtain ⟨h1, h2, _⟩ := hf
      unfold okAt at h1
      rw [decide_eq_true_eq] at h1
      obtain ⟨a1, a2, a3⟩ := h1
      have hil : i < x.length := by simpa using h2
      have : i ≠ 0 := by
        rintro rfl
        rw [a1] at a2
        simp at a2
      omega
    · simp at h
/-! ## lines -/
def mailW : By := [109, 97, 105, 108, 32, 102, 114, 111, 109, 58]
def rcptW : By := [114, 99, 112, 116, 32, 116, 111, 58]
theorem one_line {t : By} (h : ∀ c ∈ t, c ≠ 13) (hl : t.length ≤ 1024) : lineE (t ++ [13, 10]) = 0 ∧ lineS (t ++ [13, 10]) = t ∧ lineL (t ++ [13, 10]) = [] := by
  have hf : fnd (t ++ [13, 10]) = some t.length := by
    refine fnd_some.2 ⟨by rw [ends_iff]; simp, fun j hj => ?_⟩
    rw [Bool.eq_false_iff]
    intro he
    have h1 := (ends_iff.1 he).1
    rw [List.getElem?_append_left hj, List.getElem?_eq_getElem hj] at h1
    simp at h1
    exact h _ (List.getElem_mem hj) h1
  unfold lineE lineS lineL
  rw [hf]
  simp only
  rw [if_neg (by omega), if_neg (by omega)]
  exact ⟨rfl, by simp, by simp⟩
theorem behind_at (w x : By) : behindT (w ++ x) w = (x, true) := by
  unfold behindT
  rw [if_neg (by simp)]
  simp
theorem line_mail (s : Se) (x : By) : lineT s (mailW ++ x) = (sayO (mailT s (wFrom ++ x)).1, (mailT s (wFrom ++ x)).2) := by
  have e : wordL (mailW ++ x) = (wMail, wFrom ++ x) := rfl
  unfold lineT
  rw [e, show lowL wMail = wMail by decide +kernel, if_neg (fun h => absurd h.1 (by decide)), if_neg (by decide), if_pos rfl]
theorem line_rcpt (s : Se) (x : By) : lineT s (rcptW ++ x) = (sayO (rcptT s (wTo ++ x)).1, (rcptT s (wTo ++ x)).2) := by
  have e : wordL (rcptW ++ x) = (wRcpt, wTo ++ x) := rfl
  unfold lineT
  rw [e, show lowL wRcpt = wRcpt by decide +kernel, if_neg (fun h => absurd h.1 (by decide)), if_neg (by decide), if_neg (by decide), if_pos rfl]
/-- a session that was fed one line -/
theorem step_line {s : Se} {t : By} (h : s.st = 1 ∨ s.st = 2 ∨ s.st = 3) (hc : ∀ c ∈ t, c ≠ 13) (hl : t.length ≤ 1024) : stepT (s.cut (t ++ [13, 10])) = ((lineT (s.cut []) t).1, true, (lineT (s.cut []) t).2) := by
  obtain ⟨e1, e2, e3⟩ := one_line hc hl
  unfold stepT
  have hs : (s.cut (t ++ [13, 10])).st = s.st := rfl
  have hb : (s.cut (t ++ [13, 10])).buf = t ++ [13, 10] := rfl
  have hcc : (s.cut (t ++ [13, 10])).cut [] = s.cut [] := rfl
  rw [hs, hb, e1, e2, e3, hcc, if_neg (by omega), if_neg (by omega), if_neg (by omega), if_pos rfl]
theorem ok_not : notB ≠ okB ∧ pathB ≠ okB ∧ tooB ≠ okB ∧ elseB ≠ okB ∧ manyB ≠ okB := by decide
theorem mail_cases {s : Se} (h : s.st = 2) (x : By) : ((mailT s (wFrom ++ x)).1 = okB ∧ (pathT x).2.2.2 = 0 ∧ (mailT s (wFrom ++ x)).2 = ⟨s.buf, 3, s.hello, (pathT x).1, (pathT x).2.1, s.to_⟩) ∨ ((mailT s (wFrom ++ x)).1 ≠ okB ∧ (mailT s (wFrom ++ x)).2 = s) := by
  unfold mailT
  rw [if_neg (by omega), behind_at]
  simp only
  split
  · exact .inr ⟨ok_not.2.1, rfl⟩
  · rename_i h1
    rw [not_or] at h1
    split
    · exact .inr ⟨ok_not.2.1, rfl⟩
    · split
      · exact .inr ⟨ok_not.2.2.1, rfl⟩
      · exact .inl ⟨rfl, by simpa using h1.2, rfl⟩
theorem mail_no {s : Se} (h : s.st ≠ 2) (r : By) : mailT s r = (notB, s) := by unfold mailT; rw [if_pos h]
theorem rcpt_no {s : Se} (h : s.st ≠ 3) (r : By) : rcptT s r = (notB, s) := by unfold rcptT; rw [if_pos h]
theorem rcpt_cases {s : Se} (h : s.st = 3) (x : By) : ((rcptT s (wTo ++ x)).1 = okB ∧ ∃ lo dm, pathT x = (lo, dm, [], 0) ∧ ¬ (lo = [] ∧ dm = []) ∧ ((knownT s.to_ (lowL lo) = true ∧ (rcptT s (wTo ++ x)).2 = s) ∨ (knownT s.to_ (lowL lo) = false ∧ (rcptT s (wTo ++ x)).2 = ⟨s.buf, s.st, s.hello, s.fl, s.fd, s.to_ ++ [(lo, dm)]⟩))) ∨
    ((rcptT s (wTo ++ x)).1 ≠ okB ∧ (rcptT s (wTo ++ x)).2 = s) := by
  unfold rcptT
  rw [if_neg (by omega), behind_at]
  simp only
  split
  · exact .inr ⟨ok_not.2.1, rfl⟩
  · rename_i h1
    simp only [not_or, ne_eq, Decidable.not_not] at h1
    obtain ⟨-, h2, h3, h4⟩ := h1
    have hp : pathT x = ((pathT x).1, (pathT x).2.1, [], 0) := by rw [← h2, ← h3]
    split
    · exact .inr ⟨ok_not.2.2.2.1, rfl⟩
    · split
      · rename_i h5
        exact .inl ⟨rfl, _, _, hp, h4, .inl ⟨h5, rfl⟩⟩
      · rename_i h5
        split
        · exact .inr ⟨ok_not.2.2.2.2, rfl⟩
        · exact .inl ⟨rfl, _, _, hp, h4, .inr ⟨by simpa using h5, rfl⟩⟩
/-! ## what the law holds beside the session -/
structure SI (s : Se) (from_ : By) (named : Bool) (to_ : List By) : Prop where
  buf : s.buf = []
  st : (named = false ∧ s.st = 2 ∧ to_ = [] ∧ s.to_ = []) ∨ (named = true ∧ s.st = 3 ∧ 2 ≤ from_.length)
  few : s.to_.length ≤ to_.length
  good : ∀ a ∈ s.to_, ∃ x ∈ to_, Good a x
  two : ∀ x ∈ to_, 2 ≤ x.length
  user : ∀ x ∈ to_, ∃ lo dm, pathT x = (lo, dm, [], 0) ∧ knownT s.to_ (lowL lo) = true
theorem SI.cut {s : Se} {f : By} {n : Bool} {t : List By} (h : SI s f n t) : s.cut [] = s := by
  have := h.buf
  obtain ⟨a, b, c, d, e, g⟩ := s
  subst this
  rfl
/-- a sender -/
theorem SI.mail {s : Se} {f : By} {n : Bool} {t : List By} (h : SI s f n t) (x : By) :
    ((mailT s (wFrom ++ x)).1 = okB ∧ n = false ∧ SI (mailT s (wFrom ++ x)).2 x true t) ∨ ((mailT s (wFrom ++ x)).1 ≠ okB ∧ SI (mailT s (wFrom ++ x)).2 f n t) := by
  rcases h.st with ⟨h1, h2, h3, h4⟩ | ⟨h1, h2, h3⟩
  · rcases mail_cases h2 x with ⟨k1, k2, k3⟩ | ⟨k1, k2⟩
    · refine .inl ⟨k1, h1, ?_⟩
      rw [k3]
      exact ⟨h.buf, .inr ⟨rfl, rfl, path_two k2⟩, h.few, h.good, h.two, h.user⟩
    · refine .inr ⟨k1, ?_⟩
      rw [k2]
      exact h
  · rw [mail_no (by omega)]
    exact .inr ⟨ok_not.1, h⟩
theorem known_app (l m : List Ad) (u : By) : knownT (l ++ m) u = (knownT l u || knownT m u) := by simp [knownT]
/-- a recipient -/
theorem SI.rcpt {s : Se} {f : By} {n : Bool} {t : List By} (h : SI s f n t) (x : By) :
    ((rcptT s (wTo ++ x)).1 = okB ∧ SI (rcptT s (wTo ++ x)).2 f n (if t.any (fun y => decide (lowL y = lowL x)) = true then t else t ++ [x])) ∨ ((rcptT s (wTo ++ x)).1 ≠ okB ∧ SI (rcptT s (wTo ++ x)).2 f n t) := by
  rcases h.st with ⟨h1, h2, h3, h4⟩ | ⟨h1, h2, h3⟩
  · rw [rcpt_no (by omega)]
    exact .inr ⟨ok_not.1, h⟩
  · rcases rcpt_cases h2 x with ⟨k1, lo, dm, k2, k3, k4⟩ | ⟨k1, k2⟩
    · have hl : 2 ≤ x.length := path_two (by rw [k2])
      refine .inl ⟨k1, ?_⟩
      rcases k4 with ⟨k5, k6⟩ | ⟨k5, k6⟩
      · rw [k6]
        split
        · exact h
        · refine ⟨h.buf, .inr ⟨h1, h2, h3⟩, by have := h.few; simp; omega, fun a ha => ?_, fun y hy => ?_, fun y hy => ?_⟩
          · obtain ⟨y, hy, hg⟩ := h.good a ha
            exact ⟨y, List.mem_append_left _ hy, hg⟩
          · rcases List.mem_append.1 hy with h5 | h5
            · exact h.two y h5
            · simp at h5; subst h5; exact hl
          · rcases List.mem_append.1 hy with h5 | h5
            · exact h.user y h5
            · simp at h5; subst h5; exact ⟨lo, dm, k2, k5⟩
      · have hnk : t.any (fun y => decide (lowL y = lowL x)) = false := by
          rw [List.any_eq_false]
          intro y hy he
          have he : lowL y = lowL x := by simpa using he
          obtain ⟨lo', dm', q1, q2⟩ := h.user y hy
          rw [path_user q1 k2 he, k5] at q2
          cases q2
        rw [k6, hnk, if_neg (by simp)]
        refine ⟨h.buf, .inr ⟨h1, h2, h3⟩, by have := h.few; simp; omega, fun a ha => ?_, fun y hy => ?_, fun y hy => ?_⟩
        · rcases List.mem_append.1 ha with h5 | h5
          · obtain ⟨y, hy, hg⟩ := h.good a h5
            exact ⟨y, List.mem_append_left _ hy, hg⟩
          · simp at h5; subst h5; exact ⟨x, by simp, path_good k2 k3⟩
        · rcases List.mem_append.1 hy with h5 | h5
          · exact h.two y h5
          · simp at h5; subst h5; exact hl
        · rcases List.mem_append.1 hy with h5 | h5
          · obtain ⟨lo', dm', q1, q2⟩ := h.user y h5
            exact ⟨lo', dm', q1, by rw [known_app, q2]; rfl⟩
          · simp at h5; subst h5
            exact ⟨lo, dm, k2, by rw [known_app]; simp [knownT]⟩
    · exact .inr ⟨k1, by rw [k2]; exact h⟩
/-! ## the body -/
def dataW : By := [100, 97, 116, 97]
theorem line_data (s : Se) : lineT s dataW = (if s.st ≠ 3 then (sayO notB, s) else if s.to_ = [] then (sayO nobodyB, s) else (sayO goB, ⟨s.buf, 4, s.hello, s.fl, s.fd, s.to_⟩)) := by
  have e : wordL dataW = (wData, []) := rfl
  unfold lineT
  rw [e, show lowL wData = wData by decide +kernel, if_neg (by simp), if_neg (by decide), if_neg (by decide), if_neg (by decide), if_pos rfl]
theorem go_not : notB ≠ goB ∧ nobodyB ≠ goB := by decide
theorem SI.some_ {s : Se} {f : By} {n : Bool} {t : List By} (h : SI s f n t) : t = [] ↔ s.to_ = [] := by
  constructor
  · rintro rfl
    have := h.few
    exact List.eq_nil_of_length_eq_zero (by simpa using this)
  · intro h0
    cases t with
    | nil => rfl
    | cons x t =>
      obtain ⟨lo, dm, _, q2⟩ := h.user x (by simp)
      rw [h0] at q2
      simp [knownT] at q2
theorem data_step {s : Se} {f : By} {n : Bool} {t : List By} (h : SI s f n t) (q : By) : (n = true ∧ t ≠ [] ∧ stepT (s.cut (dataW ++ [13, 10] ++ q)) = (sayO goB, true, ⟨q, 4, s.hello, s.fl, s.fd, s.to_⟩)) ∨
    ((n = false ∨ t = []) ∧ ∃ b s', b ≠ goB ∧ stepT (s.cut (dataW ++ [13, 10] ++ q)) = (sayO b, true, s')) := by
  have hst : s.st = 1 ∨ s.st = 2 ∨ s.st = 3 := by
    rcases h.st with ⟨_, h1, _⟩ | ⟨_, h1, _⟩
    · exact .inr (.inl h1)
    · exact .inr (.inr h1)
  have e1 := step_line (s := s) (t := dataW) hst (by decide) (by decide)
  have e2 := step_app (s.cut (dataW ++ [13, 10])) q (by rw [e1])
  have e3 : (s.cut (dataW ++ [13, 10])).app q = s.cut (dataW ++ [13, 10] ++ q) := rfl
  rw [e3, e1, h.cut, line_data] at e2
  rw [e2]
  rcases h.st with ⟨h1, h2, h3, h4⟩ | ⟨h1, h2, h3⟩
  · rw [if_pos (by omega)]
    exact .inr ⟨.inl h1, _, _, go_not.1, rfl⟩
  · rw [if_neg (by omega)]
    by_cases h4 : t = []
    · rw [if_pos (h.some_.1 h4)]
      exact .inr ⟨.inr h4, _, _, go_not.2, rfl⟩
    · rw [if_neg (fun h5 => h4 (h.some_.2 h5))]
      refine .inl ⟨h1, h4, ?_⟩
      simp only [Se.app, Se.cut, h.buf, List.nil_append]
theorem body_step {s : Se} {p : By} (h4 : s.st = 4) (hb : s.buf = stuffed p) : stepT s = if 600 < (whole p).length then (sayO tooB, true, restS (s.cut [])) else (⟨[], true, s.fl, s.fd, s.to_, whole p, false⟩, true, ⟨[], 5, s.hello, s.fl, s.fd, s.to_⟩) := by
  obtain ⟨u1, u2, u3⟩ := un_stuffed p []
  rw [List.append_nil] at u1 u2 u3
  unfold stepT
  rw [hb, u1, u2, u3, if_neg (by omega), if_neg (by omega), if_pos h4, if_neg (by simp), List.drop_length]
theorem stuffed_len (p : By) : (stuffed p).length ≤ 2 * p.length + 5 := by
  unfold stuffed
  have := stuffTo_le p p.length
  simp only [List.length_append]
  split <;> simp <;> omega
def heloB : By := [104, 101, 108, 111, 32, 97, 13, 10]
def sG : Se := ⟨[], 2, true, [], [], []⟩
theorem helo_feed : feedT newS heloB = (0, newS.app heloB) := feed_on (by decide) (by decide)
theorem helo_1 : (stepT (newS.app heloB)).2.2 = ⟨heloB, 1, false, [], [], []⟩ := rfl
theorem helo_2 : (stepT ⟨heloB, 1, false, [], [], []⟩).2.2 = sG := by
  have e := step_line (s := ⟨[], 1, false, [], [], []⟩) (t := [104, 101, 108, 111, 32, 97]) (.inl rfl) (by decide) (by decide)
  have e2 : lineT ⟨[], 1, false, [], [], []⟩ [104, 101, 108, 111, 32, 97] = (sayO helloB, sG) := by
    have e : wordL [104, 101, 108, 111, 32, 97] = (wHelo, [97]) := rfl
    unfold lineT
    rw [e, show lowL wHelo = wHelo by decide +kernel, if_neg (fun h => absurd h.1 (by decide)), if_pos (.inl rfl), if_neg (by decide)]
    rfl
  have e3 : (Se.cut ⟨[], 1, false, [], [], []⟩ []) = ⟨[], 1, false, [], [], []⟩ := rfl
  rw [e3, e2] at e
  have e4 : (Se.cut ⟨[], 1, false, [], [], []⟩ ([104, 101, 108, 111, 32, 97] ++ [13, 10])) = ⟨heloB, 1, false, [], [], []⟩ := rfl
  rw [e4] at e
  rw [e]
theorem SI.zero : SI sG [] false [] := ⟨rfl, .inl ⟨rfl, rfl, rfl, rfl⟩, by simp [sG], fun a h => (by cases h), fun a h => (by cases h), fun a h => (by cases h)⟩
end Go.Proofs.Ytchokelpimibdaa
namespace Go.Proofs.Ytchokelpimibdaa
open Go.RowKit
theorem swaits_any {M : List Nat} {w : World} {p q : Nat} {s : Se} (h : IsS M w p q s) : Calls Try.prog 15 #[pt p] w fun e w' => e = .returned (.bool (decide (s.st = 5))) ∧ Ext w w' := by
  have e2 := h.cells.2.1 w (Ext.refl _)
  clear h
  unfold pt
  by_cases h5 : s.st = 5
  · rw [decide_eq_true h5]
    have k5 : ((s.st : Int) == 5) = true := by simp; omega
    clear h5
    go_enter Try.func15, Try.ntmps15
    go_wp2
    go_ret
    exact ⟨rfl, Ext.refl _⟩
  · rw [decide_eq_false h5]
    have k5 : ((s.st : Int) == 5) = false := by simp; omega
    clear h5
    go_enter Try.func15, Try.ntmps15
    go_wp2
    go_ret
    exact ⟨rfl, Ext.refl _⟩
/-- behind a literal's bytes -/
theorem wpList_appL {w : World} {ops : Array Oper} {rest : List Oper} {o : Oper} {a : Act} {Q : Exit → Act → World → Prop} {x y : Operand} {g n m c : Nat} {l l' : By} {A : Option Addr} (hb : Bs w (some ⟨g, 0, none⟩) l) (hr : Bs w A l')
    (hgd : o.guard = none) (ho : o.op = .call { callee := .builtin .append, args := #[x, y], argTypes := #[22, 22] }) (hx : a.eval x = .slice (some ⟨g, 0, none⟩) n n) (hy : a.eval y = .slice A m c) (hn : n = l.length) (hm : m = l'.length) (h0 : 0 < m)
    (hlen : l.length + l'.length ≤ 140737488355328)
    (hh : ∀ v' w', Own w' w.heap.size v' (l ++ l') → Ext w w' → wpList Try.prog ops Q rest (a.put o.dst v') w') : wpList Try.prog ops Q (o :: rest) a w := by
  subst hn hm
  obtain ⟨i, z, hi, hz, hsize, hby, hzs⟩ := bytesTc.hi
  obtain ⟨ad, rfl, _⟩ := hr 0 _ (bv_get (l := l') (k := 0) h0)
  refine wpList_append_arg w hgd x y 22 ho 5 i z 1 1 bytesTc.ht hi hz hsize hby hzs (by omega) g 0 l.length l.length (bv l) hx (by simp) (fun j u hj => ?_) ad l'.length c (bv l') hy (by simp) (fun j u hj => ?_) (bv_one _) (fun h => by omega) (by simp only [maxLen]; omega) (by omega) (fun h => by omega) (fun _ v' w' hown hg => ?_)
  · obtain ⟨ad2, e, hc⟩ := hb j u hj
    cases e
    have : (⟨g, 0, none⟩ : Addr).add j = ⟨g, 0 + j, none⟩ := by unfold Addr.add; split <;> simp_all
    rw [← this]
    exact hc
  · obtain ⟨ad2, e, hc⟩ := hr j u hj
    cases e
    exact hc
  · exact hh v' w' (own_of hown (bv_append _ _).symm) ((Ext.refl w).grown hg (by intro k hk; cases hk))
theorem stuffed_pos (p : By) : 0 < (stuffed p).length := by
  unfold stuffed
  rw [List.length_append]
  exact Nat.lt_of_lt_of_le (show 0 < 3 by decide) (Nat.le_add_left _ _)
theorem st_at (x : By) (j : Nat) (h' : j < (st x).size) : (st x)[j]'h' = x[j]'(by rw [st_len] at h'; exact h') := rfl
theorem SI.live {s : Se} {f : By} {n : Bool} {t : List By} (h : SI s f n t) : s.st = 1 ∨ s.st = 2 ∨ s.st = 3 := by
  rcases h.st with ⟨_, h1, _⟩ | ⟨_, h1, _⟩
  · exact .inr (.inl h1)
  · exact .inr (.inr h1)
theorem SI.feed {s : Se} {f : By} {n : Bool} {t : List By} (h : SI s f n t) {l : By} (hl : l.length ≤ 16384) : feedT s l = (0, s.cut l) := by
  rw [feed_on (by have := h.live; omega) (by rw [h.buf]; simpa using hl)]
  simp [Se.app, h.buf]
theorem SI.step_mail {s : Se} {f : By} {n : Bool} {t : List By} (h : SI s f n t) {x : By} (hx : ∀ c ∈ x, c ≠ 13) (hl : x.length ≤ 200) : stepT (s.cut (mailW ++ (x ++ [13, 10]))) = (sayO (mailT s (wFrom ++ x)).1, true, (mailT s (wFrom ++ x)).2) := by
  rw [← List.append_assoc, step_line (t := mailW ++ x) h.live (fun c hc => by
    rcases List.mem_append.1 hc with h1 | h1
    · exact (show ∀ c ∈ mailW, c ≠ 13 by decide) c h1
    · exact hx c h1) (by simp [mailW]; omega), h.cut, line_mail]
theorem SI.step_rcpt {s : Se} {f : By} {n : Bool} {t : List By} (h : SI s f n t) {x : By} (hx : ∀ c ∈ x, c ≠ 13) (hl : x.length ≤ 200) : stepT (s.cut (rcptW ++ (x ++ [13, 10]))) = (sayO (rcptT s (wTo ++ x)).1, true, (rcptT s (wTo ++ x)).2) := by
  rw [← List.append_assoc, step_line (t := rcptW ++ x) h.live (fun c hc => by
    rcases List.mem_append.1 hc with h1 | h1
    · exact (show ∀ c ∈ rcptW, c ≠ 13 by decide) c h1
    · exact hx c h1) (by simp [rcptW]; omega), h.cut, line_rcpt]
theorem rlower_st (x : By) (w : World) (h : x.length ≤ 140737488355328) : Calls Try.prog 11 #[.string (st x)] w fun e w' => e = .returned (.string (st (lowL x))) ∧ Ext w w' := by
  have := RLower_any (st x) w (by rw [st_len]; exact h)
  rw [tl_st] at this
  exact this
end Go.Proofs.Ytchokelpimibdaa
