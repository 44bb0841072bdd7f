/- The plain log: what is laid is read; what is torn tells a beginning. No program. Conditions: the hypotheses of each theorem. The plain log: what a torn space tells. No program. Conditions: the hypotheses of each theorem. -/
import Derived.Test.YtklodimokhndoaaWb2
namespace Go.Proofs.Ytklodimokhndoaa
theorem getD_app_left {α : Type} {l m : List α} {d : α} {i : Nat} (h : i < l.length) : (l ++ m).getD i d = l.getD i d := by
  rw [List.getD_eq_getElem?_getD, List.getD_eq_getElem?_getD, List.getElem?_append_left h]
theorem getD_app_right {α : Type} {l m : List α} {d : α} {i : Nat} (h : l.length ≤ i) : (l ++ m).getD i d = m.getD (i - l.length) d := by
  rw [List.getD_eq_getElem?_getD, List.getD_eq_getElem?_getD, List.getElem?_append_right h]
theorem layC_pre (b : Bool) (o rest : By) : ∃ m, layC b o rest = o ++ m := by
  unfold layC padF
  rw [List.append_assoc]
  exact ⟨_, rfl⟩
theorem layG_pre : ∀ (f : Nat) (b : Bool) (o rest : By), ∃ m, layG f b o rest = o ++ m
  | 0, _, o, _ => ⟨[], by simp [layG]⟩
  | f + 1, b, o, rest => by
    unfold layG
    split
    · exact ⟨[], by simp⟩
    · obtain ⟨m, hm⟩ := layG_pre f false (layC b o rest) (rest.drop (fitF o rest))
      obtain ⟨m2, hm2⟩ := layC_pre b o rest
      exact ⟨m2 ++ m, by rw [hm]; conv => lhs; rw [hm2]
                         rw [List.append_assoc]⟩
theorem layF_pre (o r : By) : ∃ m, layF o r = o ++ m := layG_pre _ _ _ _
/-- the chunk that is laid is there -/
theorem chunk_laid (b : Bool) (o rest t : By) (h : rest ≠ []) : chunkF (layC b o rest ++ t) o.length = some ((kindF b (decide (fitF o rest = rest.length))).toNat, rest.take (fitF o rest), (layC b o rest).length) := by
  have hl := layC_len b o rest
  have h1 := fitF_pos o h
  have h2 := fitF_le o rest
  have h4 := skipF_room o.length
  have hp := padF_len o
  have hk : (kindF b (decide (fitF o rest = rest.length))).toNat = 1 ∨ (kindF b (decide (fitF o rest = rest.length))).toNat = 2 ∨ (kindF b (decide (fitF o rest = rest.length))).toNat = 3 ∨ (kindF b (decide (fitF o rest = rest.length))).toNat = 4 := by
    by_cases hf : fitF o rest = rest.length <;> cases b <;> simp [kindF, hf]
  have hform : layC b o rest ++ t = padF o ++ (kindF b (decide (fitF o rest = rest.length)) :: UInt8.ofNat (fitF o rest) :: (rest.take (fitF o rest) ++ 231 :: t)) := by
    unfold layC
    simp
  have g0 : (layC b o rest ++ t).getD (skipF o.length) 0 = kindF b (decide (fitF o rest = rest.length)) := by
    rw [hform, getD_app_right (by omega), hp, Nat.sub_self]
    rfl
  have g1 : ((layC b o rest ++ t).getD (skipF o.length + 1) 0).toNat = fitF o rest := by
    rw [hform, getD_app_right (by omega), hp, show skipF o.length + 1 - skipF o.length = 1 by omega]
    show (UInt8.ofNat (fitF o rest)).toNat = _
    rw [UInt8.toNat_ofNat']
    omega
  have htl : (rest.take (fitF o rest)).length = fitF o rest := by rw [List.length_take]; omega
  have g2 : (layC b o rest ++ t).getD (skipF o.length + 2 + fitF o rest) 0 = 231 := by
    rw [hform, getD_app_right (by omega), hp, show skipF o.length + 2 + fitF o rest - skipF o.length = fitF o rest + 1 + 1 by omega]
    show (rest.take (fitF o rest) ++ 231 :: t).getD (fitF o rest) 0 = 231
    rw [getD_app_right (by omega), htl, Nat.sub_self]
    rfl
  have g3 : ((layC b o rest ++ t).drop (skipF o.length + 2)).take (fitF o rest) = rest.take (fitF o rest) := by
    rw [hform, List.drop_append, List.drop_eq_nil_of_le (by omega), hp, show skipF o.length + 2 - skipF o.length = 2 by omega]
    show (rest.take (fitF o rest) ++ 231 :: t).take (fitF o rest) = _
    rw [List.take_append_of_le_length (by omega), List.take_take, Nat.min_self]
  unfold chunkF
  rw [g0, g1, g2, g3, hl, if_neg (by rw [List.length_append, hl]; omega), if_neg (by
    simp only [not_or, Nat.not_lt, Decidable.not_not]
    exact ⟨by omega, by omega, by omega, by omega, by decide⟩)]
/-- a record that is laid is read -/
theorem one_laid : ∀ (f : Nat) (b : Bool) (o rest t out : By) (f2 : Nat), rest ≠ [] → rest.length ≤ f → rest.length < f2 → (out ++ rest).length ≤ 2000 → b = decide (out.length = 0) →
    oneG (layG f b o rest ++ t) f2 out o.length = some (out ++ rest, (layG f b o rest).length) := by
  intro f
  induction f with
  | zero => intro b o rest t out f2 h h1; exact absurd (List.length_eq_zero_iff.1 (by omega)) h
  | succ f ih =>
    intro b o rest t out f2 h h1 h2 h3 hb
    have hp := fitF_pos o h
    have hle := fitF_le o rest
    obtain ⟨m, hm⟩ := layG_pre f false (layC b o rest) (rest.drop (fitF o rest))
    have hlay : layG (f + 1) b o rest = layG f false (layC b o rest) (rest.drop (fitF o rest)) := by
      conv => lhs; unfold layG
      rw [if_neg h]
    rw [hlay]
    obtain ⟨f2, rfl⟩ : ∃ k, f2 = k + 1 := ⟨f2 - 1, by omega⟩
    have hc := chunk_laid b o rest (m ++ t) h
    rw [← List.append_assoc, ← hm] at hc
    unfold oneG
    rw [hc]
    simp only
    have hk : decide ((kindF b (decide (fitF o rest = rest.length))).toNat = 1 ∨ (kindF b (decide (fitF o rest = rest.length))).toNat = 2) = b := by
      by_cases hf : fitF o rest = rest.length <;> cases b <;> simp [kindF, hf]
    have hk2 : ((kindF b (decide (fitF o rest = rest.length))).toNat = 1 ∨ (kindF b (decide (fitF o rest = rest.length))).toNat = 4) ↔ fitF o rest = rest.length := by
      by_cases hf : fitF o rest = rest.length <;> cases b <;> simp [kindF, hf]
    rw [if_neg (by rw [hk, hb]; simp), if_neg (by rw [List.length_append, List.length_take] at *; omega)]
    by_cases hf : fitF o rest = rest.length
    · rw [if_pos (hk2.2 hf)]
      have e : rest.drop (fitF o rest) = [] := by rw [hf]; simp
      rw [e, List.take_of_length_le (by omega)]
      cases f <;> simp [layG]
    · rw [if_neg (fun h => hf (hk2.1 h))]
      have hne : rest.drop (fitF o rest) ≠ [] := by
        intro e
        have := congrArg List.length e
        simp only [List.length_drop, List.length_nil] at this
        omega
      have := ih false (layC b o rest) (rest.drop (fitF o rest)) t (out ++ rest.take (fitF o rest)) f2 hne (by simp; omega) (by simp; omega) (by rw [List.append_assoc, List.take_append_drop]; exact h3) (by
        symm
        rw [decide_eq_false_iff_not, List.length_append, List.length_take]
        omega)
      rw [this, List.append_assoc, List.take_append_drop]
theorem one_lay (o r t : By) (h : r ≠ []) (hr : r.length ≤ 2000) : oneF (layF o r ++ t) o.length = some (r, (layF o r).length) := by
  have := one_laid r.length true o r t [] 2001 h (Nat.le_refl _) (by omega) (by simpa using hr) rfl
  rw [List.nil_append] at this
  exact this
/-- all records, one behind the other -/
def layA (o : By) (rs : List By) : By := rs.foldl layF o
theorem layA_pre : ∀ (rs : List By) (o : By), ∃ m, layA o rs = o ++ m
  | [], o => ⟨[], by simp [layA]⟩
  | r :: rs, o => by
    obtain ⟨m, hm⟩ := layA_pre rs (layF o r)
    obtain ⟨m2, hm2⟩ := layF_pre o r
    exact ⟨m2 ++ m, by show layA (layF o r) rs = _; rw [hm, hm2, List.append_assoc]⟩
/-- a record that may be -/
def RecOk (r : By) : Prop := r ≠ [] ∧ r.length ≤ 2000
theorem readG_laid : ∀ (rs : List By) (o t : By) (F : Nat), (∀ r ∈ rs, RecOk r) → (layA o rs ++ t).length < F →
    readG (layA o rs ++ t) (F + 1) o.length = (rs ++ (readG (layA o rs ++ t) (F + 1) (layA o rs).length).1, (readG (layA o rs ++ t) (F + 1) (layA o rs).length).2)
  | [], o, t, F, _, _ => by simp [layA]
  | r :: rs, o, t, F, h, hF => by
    have hr := h r (List.mem_cons_self ..)
    obtain ⟨m, hm⟩ := layA_pre rs (layF o r)
    have e : layA o (r :: rs) = layA (layF o r) rs := rfl
    have h1 : oneF (layA o (r :: rs) ++ t) o.length = some (r, (layF o r).length) := by
      rw [e, hm, List.append_assoc]
      exact one_lay o r _ hr.1 hr.2
    rw [readG_step h1 (by omega)]
    have ih := readG_laid rs (layF o r) t F (fun x hx => h x (List.mem_cons_of_mem _ hx)) hF
    rw [e] at *
    rw [ih]
    rfl
theorem getD_zeros (m i : Nat) : (List.replicate m (0 : UInt8)).getD i 0 = 0 := by
  rw [List.getD_eq_getElem?_getD, List.getElem?_replicate]
  split <;> rfl
theorem one_zero {b : By} {a : Nat} (h : b.getD (skipF a) 0 = 0) : oneF b a = none := by
  have : chunkF b a = none := by
    unfold chunkF
    split
    · rfl
    · rw [if_pos (.inl (by rw [h]; decide))]
  unfold oneF oneG
  rw [this]
/-- what is laid is read -/
theorem readF_laid (rs : List By) (m : Nat) (h : ∀ r ∈ rs, RecOk r) : readF (layA [] rs ++ List.replicate m 0) = (rs, (layA [] rs).length) := by
  rw [readF_more, show (0 : Nat) = ([] : By).length from rfl, readG_laid rs [] _ _ h (by omega)]
  have hs : oneF (layA [] rs ++ List.replicate m 0) (layA [] rs).length = none := by
    refine one_zero ?_
    rw [getD_app_right (skipF_ge _)]
    exact getD_zeros _ _
  rw [readG_stop hs]
  simp
/-- of what begins with laid records these are told -/
theorem readF_begins (rs : List By) (t : By) (h : ∀ r ∈ rs, RecOk r) : rs <+: (readF (layA [] rs ++ t)).1 := by
  rw [readF_more, show (0 : Nat) = ([] : By).length from rfl, readG_laid rs [] _ _ h (by omega)]
  exact ⟨_, rfl⟩
end Go.Proofs.Ytklodimokhndoaa
namespace Go.Proofs.Ytklodimokhndoaa
/-- of each page of T a beginning, and zeros behind it -/
def Torn (c : Nat → Nat) (D T : By) : Prop := D.length = T.length ∧ ∀ i, D.getD i 0 = if i % 64 < c (i / 64) then T.getD i 0 else 0
/-- D, but for bytes from e on that are wiped from their page's beginning on -/
def Wiped (e : Nat) (n : Nat → Nat) (D D' : By) : Prop := D'.length = D.length ∧ ∀ i, D'.getD i 0 = if e ≤ i ∧ i % 64 < n (i / 64) then 0 else D.getD i 0
theorem part_eq {D T : By} {a n : Nat} (hl : D.length = T.length) (h : ∀ j, a ≤ j → j < a + n → D.getD j 0 = T.getD j 0) : (D.drop a).take n = (T.drop a).take n := by
  apply List.ext_getElem?
  intro j
  by_cases hj : j < n
  · rw [List.getElem?_take_of_lt hj, List.getElem?_take_of_lt hj, List.getElem?_drop, List.getElem?_drop]
    have h1 := h (a + j) (by omega) (by omega)
    by_cases hlt : a + j < D.length
    · rw [List.getElem?_eq_getElem hlt, List.getElem?_eq_getElem (by omega)]
      rw [List.getD_eq_getElem?_getD, List.getD_eq_getElem?_getD, List.getElem?_eq_getElem hlt, List.getElem?_eq_getElem (by omega)] at h1
      exact congrArg some h1
    · rw [List.getElem?_eq_none (by omega), List.getElem?_eq_none (by omega)]
  · rw [List.getElem?_eq_none (by simp; omega), List.getElem?_eq_none (by simp; omega)]
/-- a chunk: its bytes lie in one page, and end with a mark -/
theorem chunk_mark {b : By} {a k nx : Nat} {p : By} (h : chunkF b a = some (k, p, nx)) : skipF a + 4 ≤ nx ∧ (nx - 1) / 64 = skipF a / 64 ∧ b.getD (nx - 1) 0 = 231 ∧ b.getD (skipF a) 0 ≠ 0 := by
  unfold chunkF at h
  split at h
  · cases h
  · split at h
    · cases h
    · rename_i h2
      injection h with h
      injection h with hk h
      injection h with hp hn
      simp only [not_or, Nat.not_lt, Decidable.not_not] at h2
      obtain ⟨q1, q2, q3, q4, q5⟩ := h2
      subst hn
      refine ⟨by omega, by omega, ?_, ?_⟩
      · rw [show skipF a + 3 + (b.getD (skipF a + 1) 0).toNat - 1 = skipF a + 2 + (b.getD (skipF a + 1) 0).toNat by omega]
        exact UInt8.toNat_inj.1 q5
      · intro e
        rw [e] at q1
        exact absurd q1 (by decide)
theorem chunk_agree {D T : By} {a k nx : Nat} {p : By} (hl : D.length = T.length) (h : chunkF D a = some (k, p, nx)) (hj : ∀ j, skipF a ≤ j → j < nx → D.getD j 0 = T.getD j 0) : chunkF T a = some (k, p, nx) := by
  have hm := chunk_mark h
  unfold chunkF at h ⊢
  split at h
  · cases h
  · rename_i h1
    split at h
    · cases h
    · rename_i h2
      injection h with h
      injection h with hk h
      injection h with hp hn
      have e0 := hj (skipF a) (Nat.le_refl _) (by omega)
      have e1 := hj (skipF a + 1) (by omega) (by omega)
      have e2 := hj (skipF a + 2 + (D.getD (skipF a + 1) 0).toNat) (by omega) (by omega)
      have e3 := part_eq (a := skipF a + 2) (n := (D.getD (skipF a + 1) 0).toNat) hl (fun j h5 h6 => hj j (by omega) (by omega))
      rw [← e0, ← e1, ← e2, ← e3, if_neg (by omega), if_neg h2]
      subst hk hp hn
      rfl
theorem chunk_torn {c : Nat → Nat} {D T : By} (h : Torn c D T) {a k nx : Nat} {p : By} (hc : chunkF D a = some (k, p, nx)) : chunkF T a = some (k, p, nx) := by
  obtain ⟨m1, m2, m3, -⟩ := chunk_mark hc
  refine chunk_agree h.1 hc fun j h1 h2 => ?_
  have hq := h.2 (nx - 1)
  rw [m3] at hq
  split at hq
  · rename_i h3
    have e : j / 64 = (nx - 1) / 64 := by omega
    rw [h.2 j, if_pos (by rw [e]; omega)]
  · exact absurd hq (by decide)
theorem one_lift {D T : By} {e a0 : Nat} (hc : ∀ a k p nx, a0 ≤ a → chunkF D a = some (k, p, nx) → nx ≤ e → chunkF T a = some (k, p, nx)) :
    ∀ (f : Nat) (out : By) (a nx : Nat) (r : By), a0 ≤ a → oneG D f out a = some (r, nx) → nx ≤ e → oneG T f out a = some (r, nx) := by
  intro f
  induction f with
  | zero => intro out a nx r _ h; cases h
  | succ f ih =>
    intro out a nx r ha h he
    unfold oneG at h ⊢
    cases hd : chunkF D a with
    | none => rw [hd] at h; cases h
    | some x =>
      obtain ⟨k, p, n2⟩ := x
      rw [hd] at h
      have hs := chunk_some hd
      simp only at h
      have hle : n2 ≤ nx := by
        split at h
        · cases h
        · split at h
          · cases h
          · split at h
            · injection h with h
              injection h with _ h2
              omega
            · have := oneG_some _ _ _ _ _ h
              omega
      rw [hc a k p n2 ha hd (by omega)]
      simp only
      split at h
      · cases h
      · rename_i h1
        rw [if_neg h1]
        split at h
        · cases h
        · rename_i h2
          rw [if_neg h2]
          split at h
          · rename_i h3
            rw [if_pos h3]
            exact h
          · rename_i h3
            rw [if_neg h3]
            exact ih _ _ _ _ (by omega) h he
theorem readG_ge (b : By) : ∀ (f a : Nat), a ≤ (readG b f a).2 := by
  intro f
  induction f with
  | zero => intro a; exact Nat.le_refl _
  | succ f ih =>
    intro a
    unfold readG
    cases h : oneF b a with
    | none => exact Nat.le_refl _
    | some x =>
      obtain ⟨r, nx⟩ := x
      have := one_some h
      have := ih nx
      simp only
      omega
/-- what tells no more tells a beginning -/
theorem readG_less {D T : By} (hc : ∀ a r nx, oneF D a = some (r, nx) → oneF T a = some (r, nx)) : ∀ (f a : Nat), (readG D f a).1 <+: (readG T f a).1 ∧ ((readG D f a).1.length = (readG T f a).1.length → readG D f a = readG T f a) := by
  intro f
  induction f with
  | zero => intro a; exact ⟨List.prefix_refl _, fun _ => rfl⟩
  | succ f ih =>
    intro a
    unfold readG
    cases h : oneF D a with
    | none =>
      refine ⟨List.nil_prefix, fun h2 => ?_⟩
      cases h3 : oneF T a with
      | none => rfl
      | some x => obtain ⟨r, nx⟩ := x; rw [h3] at h2; simp at h2
    | some x =>
      obtain ⟨r, nx⟩ := x
      rw [hc a r nx h]
      obtain ⟨h1, h2⟩ := ih nx
      simp only
      refine ⟨(List.prefix_cons_inj r).2 h1, fun h3 => ?_⟩
      rw [h2 (by simpa using h3)]
theorem one_mark {b : By} : ∀ (f : Nat) (out : By) (a nx : Nat) (r : By), oneG b f out a = some (r, nx) → b.getD (nx - 1) 0 = 231 := by
  intro f
  induction f with
  | zero => intro out a nx r h; cases h
  | succ f ih =>
    intro out a nx r h
    unfold oneG at h
    cases hd : chunkF b a with
    | none => rw [hd] at h; cases h
    | some x =>
      obtain ⟨k, p, n2⟩ := x
      rw [hd] at h
      simp only at h
      split at h
      · cases h
      · split at h
        · cases h
        · split at h
          · injection h with h
            injection h with _ h2
            subst h2
            exact (chunk_mark hd).2.2.1
          · exact ih _ _ _ _ h
theorem readG_mark {b : By} : ∀ (f a : Nat), (readG b f a).1 ≠ [] → b.getD ((readG b f a).2 - 1) 0 = 231 := by
  intro f
  induction f with
  | zero => intro a h; exact absurd rfl h
  | succ f ih =>
    intro a h
    unfold readG at h ⊢
    cases hd : oneF b a with
    | none => rw [hd] at h; exact absurd rfl h
    | some x =>
      obtain ⟨r, nx⟩ := x
      simp only
      by_cases he : (readG b f nx).1 = []
      · have : (readG b f nx).2 = nx := by
          cases f with
          | zero => rfl
          | succ f =>
            unfold readG at he ⊢
            cases h2 : oneF b nx with
            | none => rfl
            | some y => obtain ⟨r2, n2⟩ := y; rw [h2] at he; cases he
        rw [this]
        exact one_mark _ _ _ _ _ hd
      · exact ih nx he
/-- A TORN SPACE TELLS A BEGINNING of what the whole one tells; where it tells all of it, it ends with the same mark -/
theorem readF_torn {c : Nat → Nat} {D T : By} (h : Torn c D T) : (readF D).1 <+: (readF T).1 ∧ ((readF D).1.length = (readF T).1.length → readF D = readF T) := by
  unfold readF
  rw [h.1]
  exact readG_less (fun a r nx ha => one_lift (e := nx) (a0 := 0) (fun a k p n2 _ hc _ => chunk_torn h hc) _ _ _ _ _ (Nat.zero_le _) ha (Nat.le_refl _)) _ _
theorem readF_mark {b : By} (h : (readF b).1 ≠ []) : b.getD ((readF b).2 - 1) 0 = 231 := readG_mark _ _ h
/-- A SPACE WIPED BEHIND ITS RECORDS TELLS THE SAME -/
theorem readF_wiped {n : Nat → Nat} {D D' : By} (h : Wiped (readF D).2 n D D') : readF D' = readF D := by
  have main : ∀ (f a : Nat), (readG D f a).2 = (readF D).2 → readG D' f a = readG D f a := by
    intro f
    induction f with
    | zero => intro a _; rfl
    | succ f ih =>
      intro a he
      unfold readG at he ⊢
      cases hd : oneF D a with
      | none =>
        rw [hd] at he
        simp only at he
        have hn : oneF D' a = none := by
          cases hd' : oneF D' a with
          | none => rfl
          | some x =>
            obtain ⟨r, nx⟩ := x
            have := one_lift (D := D') (T := D) (e := nx) (a0 := a) (fun a2 k p n2 ha hc _ => by
              obtain ⟨m1, m2, m3, m4⟩ := chunk_mark hc
              have hsk := skipF_ge a2
              refine chunk_agree h.1 hc fun j h1 h2 => ?_
              have hk := h.2 (skipF a2)
              have hw : ¬ skipF a2 % 64 < n (skipF a2 / 64) := by
                intro hw
                rw [if_pos ⟨by omega, hw⟩] at hk
                exact m4 hk
              have e : j / 64 = skipF a2 / 64 := by omega
              rw [h.2 j, if_neg (by rw [e]; omega)]) _ _ _ _ _ (Nat.le_refl _) hd' (Nat.le_refl _)
            have hd2 : oneF D a = some (r, nx) := this
            rw [hd] at hd2
            cases hd2
        rw [hn]
      | some x =>
        obtain ⟨r, nx⟩ := x
        rw [hd] at he
        simp only at he
        have hge := readG_ge D f nx
        have h1 : oneF D' a = some (r, nx) := one_lift (D := D) (T := D') (e := (readF D).2) (a0 := 0) (fun a2 k p n2 _ hc hle => chunk_agree h.1.symm hc fun j h1 h2 => by
          rw [h.2 j, if_neg (by omega)]) _ _ _ _ _ (Nat.zero_le _) hd (by omega)
        rw [h1]
        simp only
        rw [ih nx he]
  unfold readF
  rw [h.1]
  exact main _ _ rfl
end Go.Proofs.Ytklodimokhndoaa
