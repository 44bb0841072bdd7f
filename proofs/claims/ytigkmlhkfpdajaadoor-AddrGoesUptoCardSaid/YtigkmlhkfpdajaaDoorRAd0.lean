/- Plain laws of letters, as the reference reads them. Conditions: the hypotheses of each theorem. -/
import Derived.Test.YtigkmlhkfpdajaaDoorAd8
import Derived.Test.YtigkmlhkfpdajaaDoorLet
namespace Go.Proofs.YtigkmlhkfpdajaaDoor
open Go.RowKit
theorem let_eq {c : Nat} {b : List UInt8} (h : letOk (c, b)) (k : Nat) (hk : k < 128) : b = [UInt8.ofNat k] ↔ c = k := by
  constructor
  · intro e
    subst e
    rcases h with ⟨_, x, h2, h3⟩ | ⟨h1, h2⟩
    · simp only [List.cons.injEq, and_true] at h2
      subst h2
      simp at h3
      omega
    · simp only at h1 h2
      have := dec_enc c h1 []
      rw [← h2] at this
      rw [List.append_nil, Lib.decodeL_ascii _ _ (by simp; omega)] at this
      have := congrArg Prod.fst this
      simp at this
      omega
  · rintro rfl
    have := letOk_asc h hk
    simp only [Prod.mk.injEq] at this
    exact this.2
/-- a letter of one byte -/
theorem let_one {c : Nat} {x : UInt8} (h : letOk (c, [x])) : (x.toNat < 128 ∧ c = x.toNat) ∨ (128 ≤ x.toNat ∧ 128 ≤ c) := by
  rcases Nat.lt_or_ge x.toNat 128 with h1 | h1
  · left
    have := (let_eq h x.toNat h1).1 (by simp)
    exact ⟨h1, this⟩
  · right
    refine ⟨h1, ?_⟩
    rcases Nat.lt_or_ge c 128 with h2 | h2
    · have := (let_eq h c h2).2 rfl
      simp only [List.cons.injEq, and_true] at this
      subst this
      simp at h1
      omega
    · exact h2
theorem let_many {c : Nat} {b : List UInt8} (h : letOk (c, b)) (hb : b.length ≠ 1) : 128 ≤ c := by
  rcases Nat.lt_or_ge c 128 with h2 | h2
  · have := (let_eq h c h2).2 rfl
    rw [this] at hb
    simp at hb
  · exact h2
def oneB (b sm : List UInt8) : Bool := decide (b.length = 1) && (alnumB (b.headD 0).toNat || sm.contains (b.headD 0))
theorem one_signs {c : Nat} {b : List UInt8} (h : letOk (c, b)) : oneB b signsL = localB c := by
  unfold oneB
  by_cases hb : b.length = 1
  · obtain ⟨x, rfl⟩ := List.length_eq_one_iff.1 hb
    simp only [hb, decide_true, Bool.true_and, List.headD_cons]
    have hsg : ∀ n : Fin 256, (fun x : UInt8 => signsL.contains x = true → 32 < x.toNat ∧ x.toNat < 127) (UInt8.ofNat n.val) := by decide +kernel
    have hsx := hsg ⟨x.toNat, x.toNat_lt⟩
    simp only [UInt8.ofNat_toNat] at hsx
    rcases let_one h with ⟨h1, rfl⟩ | ⟨h1, h2⟩
    · unfold localB signB
      rw [UInt8.ofNat_toNat]
      cases hc : signsL.contains x with
      | false => simp
      | true => have := hsx hc; simp; omega
    · have hl : localB c = false := by
        cases hl : localB c with
        | false => rfl
        | true => have := localB_asc hl; omega
      rw [hl, Bool.or_eq_false_iff]
      constructor
      · unfold alnumB; rw [decide_eq_false]; omega
      · cases hc : signsL.contains x with
        | false => rfl
        | true => have := hsx hc; omega
  · have := let_many h hb
    have hl : localB c = false := by
      cases hl : localB c with
      | false => rfl
      | true => have := localB_asc hl; omega
    rw [hl, decide_eq_false hb, Bool.false_and]
theorem one_dash {c : Nat} {b : List UInt8} (h : letOk (c, b)) : oneB b [45] = (alnumB c || decide (c = 45)) := by
  unfold oneB
  by_cases hb : b.length = 1
  · obtain ⟨x, rfl⟩ := List.length_eq_one_iff.1 hb
    simp only [hb, decide_true, Bool.true_and, List.headD_cons]
    rcases let_one h with ⟨h1, rfl⟩ | ⟨h1, h2⟩
    · congr 1
      rw [Bool.eq_iff_iff]
      simp only [List.contains_cons, List.contains_nil, Bool.or_false, beq_iff_eq, decide_eq_true_eq]
      constructor
      · rintro rfl; rfl
      · intro e; exact UInt8.toNat_inj.1 e
    · rw [show alnumB x.toNat = false by unfold alnumB; rw [decide_eq_false]; omega, show alnumB c = false by unfold alnumB; rw [decide_eq_false]; omega, decide_eq_false (by omega)]
      simp
      rintro rfl
      simp at h1
  · have := let_many h hb
    rw [decide_eq_false hb, Bool.false_and, show alnumB c = false by unfold alnumB; rw [decide_eq_false]; omega, decide_eq_false (by omega)]
    rfl
/-- the place does not hang on what is said of the first sign, or on where it stands -/
theorem runF_free : ∀ (ds : List (Nat × List UInt8)) (s n pl k pos k' pos' : Nat), (∀ q, runF ds s n pl (some k) pos = .inl q ↔ runF ds s n pl (some k') pos' = .inl q) ∧ (∀ z q, runF ds s n pl (some k) pos = .inr (z, q, some k) ↔ runF ds s n pl (some k') pos' = .inr (z, q, some k'))
  | [], s, n, pl, k, pos, k', pos' => by simp [runF]
  | (c, b) :: ds, s, n, pl, k, pos, k', pos' => by
    unfold runF
    by_cases h : (nextS s c n).2 = false
    · rw [if_pos h, if_pos h]; simp
    · rw [if_neg h, if_neg h, if_neg (show ¬ ((nextS s c n).1 = 6 ∧ (some k : Option Nat) = none) by simp), if_neg (show ¬ ((nextS s c n).1 = 6 ∧ (some k' : Option Nat) = none) by simp)]
      exact runF_free ds _ _ _ _ _ _ _
theorem runF_le : ∀ (ds : List (Nat × List UInt8)) (s n pl k pos : Nat), (∀ q, runF ds s n pl (some k) pos = .inl q → q < pl + ds.length) ∧ (∀ z q a, runF ds s n pl (some k) pos = .inr (z, q, a) → q = pl + ds.length ∧ a = some k)
  | [], s, n, pl, k, pos => ⟨fun q h => (by simp [runF] at h), fun z q a h => (by simp only [runF, Sum.inr.injEq, Prod.mk.injEq] at h; obtain ⟨_, rfl, rfl⟩ := h; exact ⟨rfl, rfl⟩)⟩
  | (c, b) :: ds, s, n, pl, k, pos => by
    unfold runF
    by_cases h : (nextS s c n).2 = false
    · rw [if_pos h]
      exact ⟨fun q h => (by simp only [Sum.inl.injEq] at h; simp only [List.length_cons]; omega), fun z q a h => (by cases h)⟩
    · rw [if_neg h, if_neg (show ¬ ((nextS s c n).1 = 6 ∧ (some k : Option Nat) = none) by simp)]
      have := runF_le ds (nextS s c n).1 (if (nextS s c n).1 = 6 then 0 else n + 1) (pl + 1) k (pos + b.length)
      refine ⟨fun q hq => ?_, fun z q a hq => ?_⟩
      · have := this.1 q hq; simp only [List.length_cons]; omega
      · have := this.2 z q a hq; simp only [List.length_cons]; exact ⟨by omega, this.2⟩
/-- what the reference's domain tells -/
def domV (ds : List (Nat × List UInt8)) (at_ : Nat) : Int :=
  match runF (ds.drop at_) 6 0 at_ (some 0) 0 with
  | .inl pl => pl
  | .inr (z, pl, _) => if z = 4 then pl else -1
end Go.Proofs.YtigkmlhkfpdajaaDoor
