/- Plain laws for the walk of the reference's Print. Conditions: the hypotheses of each theorem. -/
import Derived.Test.YtigkmlhkfpdajaaDoorRAd3
namespace Go.Proofs.YtigkmlhkfpdajaaDoor
open Go.RowKit
theorem long_len : ∀ (ds : List (Nat × List UInt8)) (sg : Bool) (pl : Nat) (out : List UInt8) (pos : Nat), (longF ds sg pl out pos).2.2.2 = 0 → (∀ d ∈ ds, 1 ≤ d.2.length) →
    (longF ds sg pl out pos).1.length + pos + 1 ≤ out.length + (longF ds sg pl out pos).2.1
  | [], sg, pl, out, pos, h, _ => by simp [longF] at h
  | (c, b) :: ds, sg, pl, out, pos, h, h1 => by
    have hb := h1 (c, b) (by simp)
    have hr := fun d hd => h1 d (List.mem_cons_of_mem _ hd)
    simp only at hb
    unfold longF at h ⊢
    split at h
    · simp at h
    · rename_i n1
      rw [if_neg n1]
      split at h
      · rename_i n2
        rw [if_pos n2]
        have := long_len ds _ _ _ _ h hr
        omega
      · rename_i n2
        rw [if_neg n2]
        split at h
        · rename_i n3
          rw [if_pos n3]
          have := long_len ds _ _ _ _ h hr
          omega
        · rename_i n3
          rw [if_neg n3]
          split at h
          · rename_i n4
            rw [if_pos n4]
            simp only
            omega
          · rename_i n4
            rw [if_neg n4]
            have := long_len ds _ _ _ _ h hr
            simp only [List.length_append, List.length_cons, List.length_nil] at this
            omega
theorem longT_len {l : List UInt8} (h0 : l[0]? = some 34) (h : (longT l).2.2.2 = 0) : (longT l).1.length + 2 ≤ (longT l).2.1 := by
  cases l with
  | nil => cases h0
  | cons x r =>
    have : x = 34 := by simpa using h0
    subst this
    rw [long_first] at h ⊢
    have := long_len _ _ _ _ _ h (let_pos _ r (Nat.le_refl _))
    simp only [List.length_nil] at this
    omega
theorem last_at {ds1 ds2 : List (Nat × List UInt8)} {b : List UInt8} {lo : List UInt8} (h : asc lo ++ [(64, [64]), (97, [97])] = ds1 ++ (64, b) :: ds2) (h2 : ∀ d ∈ ds2, d.1 ≠ 64) : ds1 = asc lo := by
  rcases List.append_eq_append_iff.1 h with ⟨cs, e1, e2⟩ | ⟨cs, e1, e2⟩
  · cases cs with
    | nil => rw [List.append_nil] at e1; exact e1
    | cons d cs =>
      rw [List.cons_append, List.cons.injEq] at e2
      cases cs with
      | nil =>
        have := e2.2
        simp at this
      | cons d' cs =>
        have := congrArg List.length e2.2
        simp at this
  · cases cs with
    | nil => rw [List.append_nil] at e1; exact e1.symm
    | cons d cs =>
      rw [List.cons_append, List.cons.injEq] at e2
      exact absurd rfl (h2 (64, [64]) (by rw [e2.2]; simp))
/-- what the reference asks of a local part: read ahead of "@a" it is that -/
theorem local_bare {lo : List UInt8} (h : prn lo) (hne : lo ≠ []) (hl : lo.length ≤ 64) :
    ((parseT (lo ++ [64, 97])).2.2.2 = 0 ∧ (parseT (lo ++ [64, 97])).1 = lo) ↔ bareT lo = true := by
  have hd : domOk [97] := ⟨1, by decide +kernel⟩
  have hlet : letL (lo ++ [64, 97]) = asc lo ++ [(64, [64]), (97, [97])] := by
    rw [letL_prn _ _ h.asc, letL_asc 64 _ (by decide), letL_asc 97 _ (by decide), letL_nil]
    rfl
  constructor
  · rintro ⟨h0, h1⟩
    by_cases h34 : (lo ++ [64, 97])[0]? = some 34
    · exfalso
      have hp : parseT (lo ++ [64, 97]) = if (longT (lo ++ [64, 97])).2.2.2 ≠ 0 then ([], [], (longT (lo ++ [64, 97])).2.2.1, (longT (lo ++ [64, 97])).2.2.2) else restT (lo ++ [64, 97]) (longT (lo ++ [64, 97])).1 3 (longT (lo ++ [64, 97])).2.1 (letL ((lo ++ [64, 97]).take (longT (lo ++ [64, 97])).2.1)).length := by
        unfold parseT
        rw [if_pos h34]
      rw [hp] at h0 h1
      by_cases he : (longT (lo ++ [64, 97])).2.2.2 = 0
      · rw [if_neg (by simpa using he)] at h0 h1
        have hln := longT_len h34 he
        generalize longT (lo ++ [64, 97]) = r at *
        obtain ⟨said, nn, pe, er⟩ := r
        simp only at h0 h1 hln he
        unfold restT at h0 h1
        cases hr : runF (letL ((lo ++ [64, 97]).drop nn)) 3 0 (letL ((lo ++ [64, 97]).take nn)).length none nn with
        | inl q => rw [hr] at h0; simp at h0
        | inr x =>
          obtain ⟨z, q, a⟩ := x
          rw [hr] at h0 h1
          simp only at h0 h1
          by_cases hz : z = 4
          · rw [if_neg (by omega)] at h0 h1
            rw [if_neg (show ¬ nn = 0 by omega)] at h0 h1
            split at h0
            · simp at h0
            · rename_i hlim
              rw [if_neg hlim] at h1
              simp only at h1
              subst h1
              have hnil : (said ++ [64, 97]).drop nn = [] := List.drop_eq_nil_of_le (by simp; omega)
              rw [hnil, letL_nil] at hr
              simp only [runF, Sum.inr.injEq, Prod.mk.injEq] at hr
              omega
          · rw [if_pos (by omega)] at h0
            simp at h0
      · rw [if_pos he] at h0
        exact he h0
    · have hp := rest0 h34
      rw [hp] at h0
      unfold restT at h0
      rw [List.drop_zero] at h0
      cases hr : runF (letL (lo ++ [64, 97])) 0 0 0 none 0 with
      | inl q => rw [hr] at h0; simp at h0
      | inr x =>
        obtain ⟨z, q, a⟩ := x
        rw [hr] at h0
        simp only at h0
        by_cases hz : z = 4
        · subst hz
          obtain ⟨ds1, b, ds2, e1, e2, _, n', e4⟩ := runF_split _ _ _ _ _ _ _ _ (by omega) (by omega) hr
          rw [hlet] at e1
          have hd2 := run1_dom _ _ _ _ _ ⟨by omega, by omega⟩ e4
          have := last_at e1 (fun d hd => (domC_asc (hd2 d hd)).2.2)
          unfold bareT
          rw [letL_all lo h.asc, ← this]
          exact e2
        · rw [if_pos (by omega)] at h0
          simp at h0
  · intro hb
    have := parse_bare (dm := [97]) ⟨hne, h, hd, by decide +kernel, hl, by decide⟩ hb
    rw [this]
    exact ⟨rfl, rfl⟩
def prnB (b : UInt8) : Bool := decide (32 ≤ b.toNat ∧ b.toNat ≤ 126)
theorem prn_all {lo : List UInt8} : lo.all prnB = true ↔ prn lo := by
  rw [List.all_eq_true]
  unfold prn prnB
  simp
theorem any_bad {lo : List UInt8} : (letL lo).any badLet = !lo.all prnB := by
  cases h : lo.all prnB with
  | true => rw [of_prn (prn_all.1 h)]; rfl
  | false =>
    cases h2 : (letL lo).any badLet with
    | true => rfl
    | false => rw [prn_all.2 (prn_of h2)] at h; cases h
theorem domV_ok {dm : List UInt8} : domV (letL dm) 0 = ((letL dm).length : Int) ∧ 0 < (letL dm).length ↔ domOk dm := by
  unfold domV domOk
  rw [List.drop_zero]
  have hle := runF_le (letL dm) 6 0 0 0 0
  constructor
  · rintro ⟨h, h0⟩
    cases hr : runF (letL dm) 6 0 0 (some 0) 0 with
    | inl q => rw [hr] at h; have := hle.1 q hr; simp only at h; omega
    | inr x =>
      obtain ⟨z, q, a⟩ := x
      rw [hr] at h
      simp only at h
      split at h
      · rename_i hz
        subst hz
        obtain ⟨⟨n, h1⟩, _⟩ := runF_ok' _ _ _ _ _ _ _ _ _ hr
        exact ⟨n, h1⟩
      · omega
  · rintro ⟨n, h⟩
    rw [runF_ok _ _ _ _ _ _ _ _ h]
    refine ⟨by simp, ?_⟩
    cases hd : letL dm with
    | nil => rw [hd] at h; simp [run1] at h
    | cons d ds => simp
/-- what the reference's print tells -/
theorem print_ref (lo dm : List UInt8) :
    (lo.all prnB = false ∨ lo = [] ∨ ¬ domOk dm ∨ lowL dm ≠ dm → printT lo dm = ([], 4)) ∧
    (lo.all prnB = true → lo ≠ [] → domOk dm → lowL dm = dm → (64 < lo.length ∨ 255 < dm.length) → printT lo dm = ([], 6)) ∧
    (lo.all prnB = true → lo ≠ [] → domOk dm → lowL dm = dm → ¬ (64 < lo.length ∨ 255 < dm.length) → printT lo dm = ((if bareT lo = true then lo else (quoteT lo).1) ++ 64 :: dm, 0)) := by
  have hdi := dom_iff dm
  refine ⟨fun h => ?_, fun h1 h2 h3 h4 h5 => ?_, fun h1 h2 h3 h4 h5 => ?_⟩
  · unfold printT
    rw [any_bad]
    cases hp : lo.all prnB with
    | false => rfl
    | true =>
      rw [if_neg (by decide), if_pos]
      rcases h with h | h | h | h
      · rw [hp] at h; cases h
      · exact .inl h
      · refine .inr (.inr ⟨fun e => h (hdi.1 (.inl e)), fun e => h (hdi.1 (.inr e))⟩)
      · exact .inr (.inl (fun e => h e.symm))
  · have hp := hdi.2 h3
    have hn : ¬ (lo = [] ∨ dm ≠ lowL dm ∨ ((parseT (97 :: 64 :: dm)).2.2.2 ≠ 0 ∧ (parseT (97 :: 64 :: dm)).2.2.2 ≠ 6)) := by
      rintro (e | e | e)
      · exact h2 e
      · exact e h4.symm
      · omega
    unfold printT
    rw [any_bad, h1, if_neg (by decide), if_neg hn, if_pos h5]
  · have hp := hdi.2 h3
    have hn : ¬ (lo = [] ∨ dm ≠ lowL dm ∨ ((parseT (97 :: 64 :: dm)).2.2.2 ≠ 0 ∧ (parseT (97 :: 64 :: dm)).2.2.2 ≠ 6)) := by
      rintro (e | e | e)
      · exact h2 e
      · exact e h4.symm
      · omega
    unfold printT
    rw [any_bad, h1, if_neg (by decide), if_neg hn, if_neg h5]
    split <;> rfl
end Go.Proofs.YtigkmlhkfpdajaaDoor
