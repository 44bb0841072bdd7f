/- The plain log: what is laid is read; what is torn tells a beginning. No program. Conditions: the hypotheses of each theorem. The plain log: what a torn space tells. No program. Conditions: the hypotheses of each theorem. How many bytes a record may have that fits behind others. No condition but those of each theorem. The pages of a log's space, as they wait and as a crash leaves them. No program. Conditions: the hypotheses of each theorem. What a run leaves on its disk. No program. Conditions: the hypotheses of each theorem. What is opened behind crashes. No program. Conditions: the hypotheses of each theorem. What a log tells behind a crash of a run. No program. Conditions: the hypotheses of each theorem. -/
import Derived.Test.YtklodimokhndoaaWb2
import Derived.Test.YtklodimokhndoaaC3
namespace Go.Proofs.Ytklodimokhndoaa
theorem getD_app_left {α : Type} {l m : List α} {d : α} {i : Nat} (h : i < l.length) : (l ++ m).getD i d = l.getD i d := by
  rw [List.getD_eq_getElem?_getD, List.getD_eq_getElem?_getD, List.getElem?_append_left h]
theorem getD_app_right {α : Type} {l m : List α} {d : α} {i : Nat} (h : l.length ≤ i) : (l ++ m).getD i d = m.getD (i - l.length) d := by
  rw [List.getD_eq_getElem?_getD, List.getD_eq_getElem?_getD, List.getElem?_append_right h]
theorem layC_pre (b : Bool) (o rest : By) : ∃ m, layC b o rest = o ++ m := by
  unfold layC padF
  rw [List.append_assoc]
  exact ⟨_, rfl⟩
theorem layG_pre : ∀ (f : Nat) (b : Bool) (o rest : By), ∃ m, layG f b o rest = o ++ m
  | 0, _, o, _ => ⟨[], by simp [layG]⟩
  | f + 1, b, o, rest => by
    unfold layG
    split
    · exact ⟨[], by simp⟩
    · obtain ⟨m, hm⟩ := layG_pre f false (layC b o rest) (rest.drop (fitF o rest))
      obtain ⟨m2, hm2⟩ := layC_pre b o rest
      exact ⟨m2 ++ m, by rw [hm]; conv => lhs; rw [hm2]
                         rw [List.append_assoc]⟩
theorem layF_pre (o r : By) : ∃ m, layF o r = o ++ m := layG_pre _ _ _ _
/-- the chunk that is laid is there -/
theorem chunk_laid (b : Bool) (o rest t : By) (h : rest ≠ []) : chunkF (layC b o rest ++ t) o.length = some ((kindF b (decide (fitF o rest = rest.length))).toNat, rest.take (fitF o rest), (layC b o rest).length) := by
  have hl := layC_len b o rest
  have h1 := fitF_pos o h
  have h2 := fitF_le o rest
  have h4 := skipF_room o.length
  have hp := padF_len o
  have hk : (kindF b (decide (fitF o rest = rest.length))).toNat = 1 ∨ (kindF b (decide (fitF o rest = rest.length))).toNat = 2 ∨ (kindF b (decide (fitF o rest = rest.length))).toNat = 3 ∨ (kindF b (decide (fitF o rest = rest.length))).toNat = 4 := by
    by_cases hf : fitF o rest = rest.length <;> cases b <;> simp [kindF, hf]
  have hform : layC b o rest ++ t = padF o ++ (kindF b (decide (fitF o rest = rest.length)) :: UInt8.ofNat (fitF o rest) :: (rest.take (fitF o rest) ++ 231 :: t)) := by
    unfold layC
    simp
  have g0 : (layC b o rest ++ t).getD (skipF o.length) 0 = kindF b (decide (fitF o rest = rest.length)) := by
    rw [hform, getD_app_right (by omega), hp, Nat.sub_self]
    rfl
  have g1 : ((layC b o rest ++ t).getD (skipF o.length + 1) 0).toNat = fitF o rest := by
    rw [hform, getD_app_right (by omega), hp, show skipF o.length + 1 - skipF o.length = 1 by omega]
    show (UInt8.ofNat (fitF o rest)).toNat = _
    rw [UInt8.toNat_ofNat']
    omega
  have htl : (rest.take (fitF o rest)).length = fitF o rest := by rw [List.length_take]; omega
  have g2 : (layC b o rest ++ t).getD (skipF o.length + 2 + fitF o rest) 0 = 231 := by
    rw [hform, getD_app_right (by omega), hp, show skipF o.length + 2 + fitF o rest - skipF o.length = fitF o rest + 1 + 1 by omega]
    show (rest.take (fitF o rest) ++ 231 :: t).getD (fitF o rest) 0 = 231
    rw [getD_app_right (by omega), htl, Nat.sub_self]
    rfl
  have g3 : ((layC b o rest ++ t).drop (skipF o.length + 2)).take (fitF o rest) = rest.take (fitF o rest) := by
    rw [hform, List.drop_append, List.drop_eq_nil_of_le (by omega), hp, show skipF o.length + 2 - skipF o.length = 2 by omega]
    show (rest.take (fitF o rest) ++ 231 :: t).take (fitF o rest) = _
    rw [List.take_append_of_le_length (by omega), List.take_take, Nat.min_self]
  unfold chunkF
  rw [g0, g1, g2, g3, hl, if_neg (by rw [List.length_append, hl]; omega), if_neg (by
    simp only [not_or, Nat.not_lt, Decidable.not_not]
    exact ⟨by omega, by omega, by omega, by omega, by decide⟩)]
/-- a record that is laid is read -/
theorem one_laid : ∀ (f : Nat) (b : Bool) (o rest t out : By) (f2 : Nat), rest ≠ [] → rest.length ≤ f → rest.length < f2 → (out ++ rest).length ≤ 2000 → b = decide (out.length = 0) →
    oneG (layG f b o rest ++ t) f2 out o.length = some (out ++ rest, (layG f b o rest).length) := by
  intro f
  induction f with
  | zero => intro b o rest t out f2 h h1; exact absurd (List.length_eq_zero_iff.1 (by omega)) h
  | succ f ih =>
    intro b o rest t out f2 h h1 h2 h3 hb
    have hp := fitF_pos o h
    have hle := fitF_le o rest
    obtain ⟨m, hm⟩ := layG_pre f false (layC b o rest) (rest.drop (fitF o rest))
    have hlay : layG (f + 1) b o rest = layG f false (layC b o rest) (rest.drop (fitF o rest)) := by
      conv => lhs; unfold layG
      rw [if_neg h]
    rw [hlay]
    obtain ⟨f2, rfl⟩ : ∃ k, f2 = k + 1 := ⟨f2 - 1, by omega⟩
    have hc := chunk_laid b o rest (m ++ t) h
    rw [← List.append_assoc, ← hm] at hc
    unfold oneG
    rw [hc]
    simp only
    have hk : decide ((kindF b (decide (fitF o rest = rest.length))).toNat = 1 ∨ (kindF b (decide (fitF o rest = rest.length))).toNat = 2) = b := by
      by_cases hf : fitF o rest = rest.length <;> cases b <;> simp [kindF, hf]
    have hk2 : ((kindF b (decide (fitF o rest = rest.length))).toNat = 1 ∨ (kindF b (decide (fitF o rest = rest.length))).toNat = 4) ↔ fitF o rest = rest.length := by
      by_cases hf : fitF o rest = rest.length <;> cases b <;> simp [kindF, hf]
    rw [if_neg (by rw [hk, hb]; simp), if_neg (by rw [List.length_append, List.length_take] at *; omega)]
    by_cases hf : fitF o rest = rest.length
    · rw [if_pos (hk2.2 hf)]
      have e : rest.drop (fitF o rest) = [] := by rw [hf]; simp
      rw [e, List.take_of_length_le (by omega)]
      cases f <;> simp [layG]
    · rw [if_neg (fun h => hf (hk2.1 h))]
      have hne : rest.drop (fitF o rest) ≠ [] := by
        intro e
        have := congrArg List.length e
        simp only [List.length_drop, List.length_nil] at this
        omega
      have := ih false (layC b o rest) (rest.drop (fitF o rest)) t (out ++ rest.take (fitF o rest)) f2 hne (by simp; omega) (by simp; omega) (by rw [List.append_assoc, List.take_append_drop]; exact h3) (by
        symm
        rw [decide_eq_false_iff_not, List.length_append, List.length_take]
        omega)
      rw [this, List.append_assoc, List.take_append_drop]
theorem one_lay (o r t : By) (h : r ≠ []) (hr : r.length ≤ 2000) : oneF (layF o r ++ t) o.length = some (r, (layF o r).length) := by
  have := one_laid r.length true o r t [] 2001 h (Nat.le_refl _) (by omega) (by simpa using hr) rfl
  rw [List.nil_append] at this
  exact this
/-- all records, one behind the other -/
def layA (o : By) (rs : List By) : By := rs.foldl layF o
theorem layA_pre : ∀ (rs : List By) (o : By), ∃ m, layA o rs = o ++ m
  | [], o => ⟨[], by simp [layA]⟩
  | r :: rs, o => by
    obtain ⟨m, hm⟩ := layA_pre rs (layF o r)
    obtain ⟨m2, hm2⟩ := layF_pre o r
    exact ⟨m2 ++ m, by show layA (layF o r) rs = _; rw [hm, hm2, List.append_assoc]⟩
/-- a record that may be -/
def RecOk (r : By) : Prop := r ≠ [] ∧ r.length ≤ 2000
theorem readG_laid : ∀ (rs : List By) (o t : By) (F : Nat), (∀ r ∈ rs, RecOk r) → (layA o rs ++ t).length < F →
    readG (layA o rs ++ t) (F + 1) o.length = (rs ++ (readG (layA o rs ++ t) (F + 1) (layA o rs).length).1, (readG (layA o rs ++ t) (F + 1) (layA o rs).length).2)
  | [], o, t, F, _, _ => by simp [layA]
  | r :: rs, o, t, F, h, hF => by
    have hr := h r (List.mem_cons_self ..)
    obtain ⟨m, hm⟩ := layA_pre rs (layF o r)
    have e : layA o (r :: rs) = layA (layF o r) rs := rfl
    have h1 : oneF (layA o (r :: rs) ++ t) o.length = some (r, (layF o r).length) := by
      rw [e, hm, List.append_assoc]
      exact one_lay o r _ hr.1 hr.2
    rw [readG_step h1 (by omega)]
    have ih := readG_laid rs (layF o r) t F (fun x hx => h x (List.mem_cons_of_mem _ hx)) hF
    rw [e] at *
    rw [ih]
    rfl
theorem getD_zeros (m i : Nat) : (List.replicate m (0 : UInt8)).getD i 0 = 0 := by
  rw [List.getD_eq_getElem?_getD, List.getElem?_replicate]
  split <;> rfl
theorem one_zero {b : By} {a : Nat} (h : b.getD (skipF a) 0 = 0) : oneF b a = none := by
  have : chunkF b a = none := by
    unfold chunkF
    split
    · rfl
    · rw [if_pos (.inl (by rw [h]; decide))]
  unfold oneF oneG
  rw [this]
/-- what is laid is read -/
theorem readF_laid (rs : List By) (m : Nat) (h : ∀ r ∈ rs, RecOk r) : readF (layA [] rs ++ List.replicate m 0) = (rs, (layA [] rs).length) := by
  rw [readF_more, show (0 : Nat) = ([] : By).length from rfl, readG_laid rs [] _ _ h (by omega)]
  have hs : oneF (layA [] rs ++ List.replicate m 0) (layA [] rs).length = none := by
    refine one_zero ?_
    rw [getD_app_right (skipF_ge _)]
    exact getD_zeros _ _
  rw [readG_stop hs]
  simp
/-- of what begins with laid records these are told -/
theorem readF_begins (rs : List By) (t : By) (h : ∀ r ∈ rs, RecOk r) : rs <+: (readF (layA [] rs ++ t)).1 := by
  rw [readF_more, show (0 : Nat) = ([] : By).length from rfl, readG_laid rs [] _ _ h (by omega)]
  exact ⟨_, rfl⟩
end Go.Proofs.Ytklodimokhndoaa
namespace Go.Proofs.Ytklodimokhndoaa
/-- of each page of T a beginning, and zeros behind it -/
def Torn (c : Nat → Nat) (D T : By) : Prop := D.length = T.length ∧ ∀ i, D.getD i 0 = if i % 64 < c (i / 64) then T.getD i 0 else 0
/-- D, but for bytes from e on that are wiped from their page's beginning on -/
def Wiped (e : Nat) (n : Nat → Nat) (D D' : By) : Prop := D'.length = D.length ∧ ∀ i, D'.getD i 0 = if e ≤ i ∧ i % 64 < n (i / 64) then 0 else D.getD i 0
theorem part_eq {D T : By} {a n : Nat} (hl : D.length = T.length) (h : ∀ j, a ≤ j → j < a + n → D.getD j 0 = T.getD j 0) : (D.drop a).take n = (T.drop a).take n := by
  apply List.ext_getElem?
  intro j
  by_cases hj : j < n
  · rw [List.getElem?_take_of_lt hj, List.getElem?_take_of_lt hj, List.getElem?_drop, List.getElem?_drop]
    have h1 := h (a + j) (by omega) (by omega)
    by_cases hlt : a + j < D.length
    · rw [List.getElem?_eq_getElem hlt, List.getElem?_eq_getElem (by omega)]
      rw [List.getD_eq_getElem?_getD, List.getD_eq_getElem?_getD, List.getElem?_eq_getElem hlt, List.getElem?_eq_getElem (by omega)] at h1
      exact congrArg some h1
    · rw [List.getElem?_eq_none (by omega), List.getElem?_eq_none (by omega)]
  · rw [List.getElem?_eq_none (by simp; omega), List.getElem?_eq_none (by simp; omega)]
/-- a chunk: its bytes lie in one page, and end with a mark -/
theorem chunk_mark {b : By} {a k nx : Nat} {p : By} (h : chunkF b a = some (k, p, nx)) : skipF a + 4 ≤ nx ∧ (nx - 1) / 64 = skipF a / 64 ∧ b.getD (nx - 1) 0 = 231 ∧ b.getD (skipF a) 0 ≠ 0 := by
  unfold chunkF at h
  split at h
  · cases h
  · split at h
    · cases h
    · rename_i h2
      injection h with h
      injection h with hk h
      injection h with hp hn
      simp only [not_or, Nat.not_lt, Decidable.not_not] at h2
      obtain ⟨q1, q2, q3, q4, q5⟩ := h2
      subst hn
      refine ⟨by omega, by omega, ?_, ?_⟩
      · rw [show skipF a + 3 + (b.getD (skipF a + 1) 0).toNat - 1 = skipF a + 2 + (b.getD (skipF a + 1) 0).toNat by omega]
        exact UInt8.toNat_inj.1 q5
      · intro e
        rw [e] at q1
        exact absurd q1 (by decide)
theorem chunk_agree {D T : By} {a k nx : Nat} {p : By} (hl : D.length = T.length) (h : chunkF D a = some (k, p, nx)) (hj : ∀ j, skipF a ≤ j → j < nx → D.getD j 0 = T.getD j 0) : chunkF T a = some (k, p, nx) := by
  have hm := chunk_mark h
  unfold chunkF at h ⊢
  split at h
  · cases h
  · rename_i h1
    split at h
    · cases h
    · rename_i h2
      injection h with h
      injection h with hk h
      injection h with hp hn
      have e0 := hj (skipF a) (Nat.le_refl _) (by omega)
      have e1 := hj (skipF a + 1) (by omega) (by omega)
      have e2 := hj (skipF a + 2 + (D.getD (skipF a + 1) 0).toNat) (by omega) (by omega)
      have e3 := part_eq (a := skipF a + 2) (n := (D.getD (skipF a + 1) 0).toNat) hl (fun j h5 h6 => hj j (by omega) (by omega))
      rw [← e0, ← e1, ← e2, ← e3, if_neg (by omega), if_neg h2]
      subst hk hp hn
      rfl
theorem chunk_torn {c : Nat → Nat} {D T : By} (h : Torn c D T) {a k nx : Nat} {p : By} (hc : chunkF D a = some (k, p, nx)) : chunkF T a = some (k, p, nx) := by
  obtain ⟨m1, m2, m3, -⟩ := chunk_mark hc
  refine chunk_agree h.1 hc fun j h1 h2 => ?_
  have hq := h.2 (nx - 1)
  rw [m3] at hq
  split at hq
  · rename_i h3
    have e : j / 64 = (nx - 1) / 64 := by omega
    rw [h.2 j, if_pos (by rw [e]; omega)]
  · exact absurd hq (by decide)
theorem one_lift {D T : By} {e a0 : Nat} (hc : ∀ a k p nx, a0 ≤ a → chunkF D a = some (k, p, nx) → nx ≤ e → chunkF T a = some (k, p, nx)) :
    ∀ (f : Nat) (out : By) (a nx : Nat) (r : By), a0 ≤ a → oneG D f out a = some (r, nx) → nx ≤ e → oneG T f out a = some (r, nx) := by
  intro f
  induction f with
  | zero => intro out a nx r _ h; cases h
  | succ f ih =>
    intro out a nx r ha h he
    unfold oneG at h ⊢
    cases hd : chunkF D a with
    | none => rw [hd] at h; cases h
    | some x =>
      obtain ⟨k, p, n2⟩ := x
      rw [hd] at h
      have hs := chunk_some hd
      simp only at h
      have hle : n2 ≤ nx := by
        split at h
        · cases h
        · split at h
          · cases h
          · split at h
            · injection h with h
              injection h with _ h2
              omega
            · have := oneG_some _ _ _ _ _ h
              omega
      rw [hc a k p n2 ha hd (by omega)]
      simp only
      split at h
      · cases h
      · rename_i h1
        rw [if_neg h1]
        split at h
        · cases h
        · rename_i h2
          rw [if_neg h2]
          split at h
          · rename_i h3
            rw [if_pos h3]
            exact h
          · rename_i h3
            rw [if_neg h3]
            exact ih _ _ _ _ (by omega) h he
theorem readG_ge (b : By) : ∀ (f a : Nat), a ≤ (readG b f a).2 := by
  intro f
  induction f with
  | zero => intro a; exact Nat.le_refl _
  | succ f ih =>
    intro a
    unfold readG
    cases h : oneF b a with
    | none => exact Nat.le_refl _
    | some x =>
      obtain ⟨r, nx⟩ := x
      have := one_some h
      have := ih nx
      simp only
      omega
/-- what tells no more tells a beginning -/
theorem readG_less {D T : By} (hc : ∀ a r nx, oneF D a = some (r, nx) → oneF T a = some (r, nx)) : ∀ (f a : Nat), (readG D f a).1 <+: (readG T f a).1 ∧ ((readG D f a).1.length = (readG T f a).1.length → readG D f a = readG T f a) := by
  intro f
  induction f with
  | zero => intro a; exact ⟨List.prefix_refl _, fun _ => rfl⟩
  | succ f ih =>
    intro a
    unfold readG
    cases h : oneF D a with
    | none =>
      refine ⟨List.nil_prefix, fun h2 => ?_⟩
      cases h3 : oneF T a with
      | none => rfl
      | some x => obtain ⟨r, nx⟩ := x; rw [h3] at h2; simp at h2
    | some x =>
      obtain ⟨r, nx⟩ := x
      rw [hc a r nx h]
      obtain ⟨h1, h2⟩ := ih nx
      simp only
      refine ⟨(List.prefix_cons_inj r).2 h1, fun h3 => ?_⟩
      rw [h2 (by simpa using h3)]
theorem one_mark {b : By} : ∀ (f : Nat) (out : By) (a nx : Nat) (r : By), oneG b f out a = some (r, nx) → b.getD (nx - 1) 0 = 231 := by
  intro f
  induction f with
  | zero => intro out a nx r h; cases h
  | succ f ih =>
    intro out a nx r h
    unfold oneG at h
    cases hd : chunkF b a with
    | none => rw [hd] at h; cases h
    | some x =>
      obtain ⟨k, p, n2⟩ := x
      rw [hd] at h
      simp only at h
      split at h
      · cases h
      · split at h
        · cases h
        · split at h
          · injection h with h
            injection h with _ h2
            subst h2
            exact (chunk_mark hd).2.2.1
          · exact ih _ _ _ _ h
theorem readG_mark {b : By} : ∀ (f a : Nat), (readG b f a).1 ≠ [] → b.getD ((readG b f a).2 - 1) 0 = 231 := by
  intro f
  induction f with
  | zero => intro a h; exact absurd rfl h
  | succ f ih =>
    intro a h
    unfold readG at h ⊢
    cases hd : oneF b a with
    | none => rw [hd] at h; exact absurd rfl h
    | some x =>
      obtain ⟨r, nx⟩ := x
      simp only
      by_cases he : (readG b f nx).1 = []
      · have : (readG b f nx).2 = nx := by
          cases f with
          | zero => rfl
          | succ f =>
            unfold readG at he ⊢
            cases h2 : oneF b nx with
            | none => rfl
            | some y => obtain ⟨r2, n2⟩ := y; rw [h2] at he; cases he
        rw [this]
        exact one_mark _ _ _ _ _ hd
      · exact ih nx he
/-- A TORN SPACE TELLS A BEGINNING of what the whole one tells; where it tells all of it, it ends with the same mark -/
theorem readF_torn {c : Nat → Nat} {D T : By} (h : Torn c D T) : (readF D).1 <+: (readF T).1 ∧ ((readF D).1.length = (readF T).1.length → readF D = readF T) := by
  unfold readF
  rw [h.1]
  exact readG_less (fun a r nx ha => one_lift (e := nx) (a0 := 0) (fun a k p n2 _ hc _ => chunk_torn h hc) _ _ _ _ _ (Nat.zero_le _) ha (Nat.le_refl _)) _ _
theorem readF_mark {b : By} (h : (readF b).1 ≠ []) : b.getD ((readF b).2 - 1) 0 = 231 := readG_mark _ _ h
/-- A SPACE WIPED BEHIND ITS RECORDS TELLS THE SAME -/
theorem readF_wiped {n : Nat → Nat} {D D' : By} (h : Wiped (readF D).2 n D D') : readF D' = readF D := by
  have main : ∀ (f a : Nat), (readG D f a).2 = (readF D).2 → readG D' f a = readG D f a := by
    intro f
    induction f with
    | zero => intro a _; rfl
    | succ f ih =>
      intro a he
      unfold readG at he ⊢
      cases hd : oneF D a with
      | none =>
        rw [hd] at he
        simp only at he
        have hn : oneF D' a = none := by
          cases hd' : oneF D' a with
          | none => rfl
          | some x =>
            obtain ⟨r, nx⟩ := x
            have := one_lift (D := D') (T := D) (e := nx) (a0 := a) (fun a2 k p n2 ha hc _ => by
              obtain ⟨m1, m2, m3, m4⟩ := chunk_mark hc
              have hsk := skipF_ge a2
              refine chunk_agree h.1 hc fun j h1 h2 => ?_
              have hk := h.2 (skipF a2)
              have hw : ¬ skipF a2 % 64 < n (skipF a2 / 64) := by
                intro hw
                rw [if_pos ⟨by omega, hw⟩] at hk
                exact m4 hk
              have e : j / 64 = skipF a2 / 64 := by omega
              rw [h.2 j, if_neg (by rw [e]; omega)]) _ _ _ _ _ (Nat.le_refl _) hd' (Nat.le_refl _)
            have hd2 : oneF D a = some (r, nx) := this
            rw [hd] at hd2
            cases hd2
        rw [hn]
      | some x =>
        obtain ⟨r, nx⟩ := x
        rw [hd] at he
        simp only at he
        have hge := readG_ge D f nx
        have h1 : oneF D' a = some (r, nx) := one_lift (D := D) (T := D') (e := (readF D).2) (a0 := 0) (fun a2 k p n2 _ hc hle => chunk_agree h.1.symm hc fun j h1 h2 => by
          rw [h.2 j, if_neg (by omega)]) _ _ _ _ _ (Nat.zero_le _) hd (by omega)
        rw [h1]
        simp only
        rw [ih nx he]
  unfold readF
  rw [h.1]
  exact main _ _ rfl
end Go.Proofs.Ytklodimokhndoaa
namespace Go.Proofs.Ytklodimokhndoaa
def capF (L N : Nat) : Nat := N - skipF L - 3 * ((N - skipF L + 63) / 64)
theorem layG_nil (f : Nat) (b : Bool) (o : By) : layG f b o [] = o := by cases f <;> simp [layG]
theorem layG_fit (m : Nat) : ∀ (f : Nat) (b : Bool) (o rest : By), rest.length ≤ f → rest ≠ [] → ((layG f b o rest).length ≤ 64 * m ↔ rest.length ≤ capF o.length (64 * m)) := by
  intro f
  induction f with
  | zero => intro b o rest h hn; exact absurd (List.length_eq_zero_iff.1 (by omega)) hn
  | succ f ih =>
    intro b o rest h hn
    have hr : 0 < rest.length := by rcases rest with _ | ⟨x, r⟩ <;> simp_all
    have h4 := skipF_room o.length
    have hfit : fitF o rest = min rest.length (64 - skipF o.length % 64 - 3) := by unfold fitF; rw [padF_len]
    have hc := layC_len b o rest
    have hcap : capF o.length (64 * m) = 64 * m - skipF o.length - 3 * ((64 * m - skipF o.length + 63) / 64) := rfl
    have ih := ih false (layC b o rest) (rest.drop (fitF o rest)) (by simp; omega)
    unfold layG
    rw [if_neg hn, hcap]
    rw [hfit] at hc ih ⊢
    generalize skipF o.length = a at *
    clear hcap hfit
    by_cases hlt : rest.length ≤ 64 - a % 64 - 3
    · rw [Nat.min_eq_left hlt] at hc ⊢
      have he : rest.drop rest.length = [] := by simp
      rw [he, layG_nil, hc]
      clear ih he
      omega
    · rw [Nat.min_eq_right (by omega)] at hc ih ⊢
      have hne : rest.drop (64 - a % 64 - 3) ≠ [] := by
        intro e
        have := congrArg List.length e
        simp only [List.length_drop, List.length_nil] at this
        omega
      rw [ih hne]
      clear ih
      unfold capF
      have hs : skipF (layC b o rest).length = a + 64 - a % 64 := by
        rw [hc]
        unfold skipF
        rw [if_neg (by omega)]
        omega
      rw [hs, List.length_drop]
      omega
theorem layF_fit (m : Nat) (o r : By) (h : r ≠ []) : (layF o r).length ≤ 64 * m ↔ r.length ≤ capF o.length (64 * m) := layG_fit m r.length true o r (Nat.le_refl _) h
/-- a disk that nothing cuts off -/
def Dk.Up (s : Dk) : Prop := s.down = false ∧ s.cut = 0
theorem writeE_up {s : Dk} (h : s.Up) {i : Nat} {l : By} (hi : i < s.sure.length) (hl : l.length ≤ 64) : writeE s i l = 0 := by
  unfold writeE wrongE
  have : (0 : Int) ≤ (i : Int) ∧ (i : Int) < (s.sure.length : Int) := by omega
  rw [spent_zero h.2]
  simp only [h.1, this, and_true, if_true]
  rw [if_neg (by decide), if_neg (by omega), if_neg (by decide)]
theorem writeS_up {s : Dk} (h : s.Up) (i : Int) (l : By) : (writeS s i l).Up := by
  unfold writeS
  rw [spent_zero h.2]
  split
  · exact h
  · split
    · exact h
    · split
      · exact h
      · unfold wrote Dk.Up
        rw [spent_zero h.2]
        exact h
theorem wrF_up : ∀ (a : List (Nat × By)) (s : Dk), s.Up → (∀ x ∈ a, x.1 < s.sure.length ∧ x.2.length ≤ 64) → (wrF s a).1 = 0 ∧ (wrF s a).2.Up
  | [], s, h, _ => ⟨rfl, h⟩
  | x :: r, s, h, hx => by
    have h0 := hx x (List.mem_cons_self ..)
    unfold wrF
    rw [if_neg (by rw [writeE_up h h0.1 h0.2]; decide)]
    exact wrF_up r _ (writeS_up h _ _) fun y hy => by rw [writeS_len]; exact hx y (List.mem_cons_of_mem _ hy)
theorem appendR_up {n : Nat} {s : Dk} {g : Lg} (h : Gd n s g) (hu : s.Up) (r : By) : (appendR s g r).2.1.Up := by
  unfold appendR
  split
  · exact hu
  · split
    · exact hu
    · rename_i hw
      split
      · exact hu
      · rename_i hf
        have := (wrF_up _ s hu (fun x hx => (apW_room h (Decidable.not_not.1 hw) (by omega) x hx).2.2)).2
        split <;> exact this
theorem flushS_up {s : Dk} (h : s.Up) : (flushS s).Up := by
  unfold flushS
  rw [spent_zero h.2]
  rw [if_neg (by rw [h.1]; decide), if_neg (by rw [h.1]; decide)]
  unfold flushed Dk.Up
  rw [spent_zero h.2]
  exact h
theorem forceS_up {s : Dk} (h : s.Up) (g : Lg) : (forceS s g).Up := by
  unfold forceS
  split
  · exact h
  · exact flushS_up h
theorem stepR_up {n : Nat} {x : Rs} (h : x.Good n) (hu : x.s.Up) {d : WDe} (hd : d.do_ ≠ 3) : (stepR x d).s.Up := by
  unfold stepR
  split
  · exact appendR_up h.gd hu _
  · split
    · exact forceS_up hu _
    · first
        | exact hu
        | (rw [if_neg hd]; exact hu)
theorem lvA_up : lvA.2.1.Up := by unfold Dk.Up; decide +kernel
theorem rs_up {s : Dk} {g : Lg} (h : s.Up) : (Rs.mk s g [] 0).s.Up := h
theorem rs0_up : rs0.s.Up := by unfold rs0; exact rs_up lvA_up
/-- what is appended to a log whose disk nothing cuts off -/
theorem appendR_fits {n : Nat} {s : Dk} {g : Lg} (h : Gd n s g) (ha : g.age = s.age) (hu : s.Up) (r : By) :
    (appendR s g r).1 = (if r.length = 0 then 2 else if 2000 < r.length then 6 else if r.length ≤ capF g.space.length (64 * (g.size - 1)) then 0 else 8) ∧ ((appendR s g r).1 ≠ 0 → (appendR s g r).2 = (s, g)) := by
  have hb : ¬ beginE s g ≠ 0 := by
    unfold beginE
    rw [if_neg (by omega), if_neg (by rw [hu.1]; decide)]
    decide
  unfold appendR
  rw [if_neg hb]
  by_cases h1 : r.length = 0
  · have hw : wrongR r = 2 := by unfold wrongR; rw [if_pos h1]
    rw [if_pos h1, if_pos (by rw [hw]; decide)]
    exact ⟨hw, fun _ => rfl⟩
  · by_cases h2 : 2000 < r.length
    · have hw : wrongR r = 6 := by unfold wrongR; rw [if_neg h1, if_pos h2]
      rw [if_neg h1, if_pos h2, if_pos (by rw [hw]; decide)]
      exact ⟨hw, fun _ => rfl⟩
    · have hw : wrongR r = 0 := by unfold wrongR; rw [if_neg h1, if_neg h2]
      have hfit := layF_fit (g.size - 1) g.space r (by intro e; subst e; exact h1 rfl)
      rw [if_neg h1, if_neg h2, if_neg (by rw [hw]; decide)]
      by_cases h3 : r.length ≤ capF g.space.length (64 * (g.size - 1))
      · have hle := hfit.2 h3
        have hwr := (wrF_up _ s hu (fun x hx => (apW_room h hw hle x hx).2.2)).1
        rw [if_pos h3, if_neg (by omega), if_neg (by rw [hwr]; decide)]
        exact ⟨rfl, fun e => absurd rfl e⟩
      · have hle : ¬ (layF g.space r).length ≤ 64 * (g.size - 1) := fun e => h3 (hfit.1 e)
        rw [if_neg h3, if_pos (by omega)]
        exact ⟨rfl, fun _ => rfl⟩
end Go.Proofs.Ytklodimokhndoaa
namespace Go.Proofs.Ytklodimokhndoaa
/-- a page of T up to its byte c, zeros behind it -/
def pgC (T : By) (c k : Nat) : By := (List.range 64).map fun i => if i < c then T.getD (64 * k + i) 0 else 0
theorem pgC_len (T : By) (c k : Nat) : (pgC T c k).length = 64 := by simp [pgC]
theorem pgC_get (T : By) (c k : Nat) {i : Nat} (h : i < 64) : (pgC T c k).getD i 0 = if i < c then T.getD (64 * k + i) 0 else 0 := by
  unfold pgC
  rw [List.getD_eq_getElem?_getD, List.getElem?_map, List.getElem?_range h]
  rfl
theorem page_ext {l m : By} (h1 : l.length = m.length) (h : ∀ i, i < l.length → l.getD i 0 = m.getD i 0) : l = m := by
  apply List.ext_getElem h1
  intro i h2 h3
  have := h i h2
  rw [List.getD_eq_getElem?_getD, List.getD_eq_getElem?_getD, List.getElem?_eq_getElem h2, List.getElem?_eq_getElem h3] at this
  exact this
/-- how many bytes of T lie in a page -/
def lenP (T : By) (k : Nat) : Nat := min 64 (T.length - 64 * k)
theorem pgO_get (T : By) (k : Nat) {i : Nat} (h : i < 64) : (pgO T k).getD i 0 = T.getD (64 * k + i) 0 := by
  unfold pgO
  rw [List.getD_eq_getElem?_getD, List.getD_eq_getElem?_getD, List.getElem?_take_of_lt h, List.getElem?_drop]
theorem padL_get (l : By) (i : Nat) : (padL l).getD i 0 = l.getD i 0 := by
  unfold padL zpage
  by_cases h : i < l.length
  · exact getD_app_left h
  · rw [getD_app_right (by omega), List.drop_replicate, getD_zeros, List.getD_eq_getElem?_getD, List.getElem?_eq_none (by omega)]
    rfl
theorem padL_pgO (T : By) (k : Nat) : padL (pgO T k) = pgC T (lenP T k) k := by
  refine page_ext (by rw [padL_len (pgO_le T k), pgC_len]) fun i hi => ?_
  rw [padL_len (pgO_le T k)] at hi
  rw [padL_get, pgO_get _ _ hi, pgC_get _ _ _ hi]
  split
  · rfl
  · rename_i h
    unfold lenP at h
    rw [List.getD_eq_getElem?_getD, List.getElem?_eq_none (by omega)]
    rfl
theorem mix_get {q o : By} (hq : q.length = 64) {n : Nat} (hn : n ≤ 64) (i : Nat) : (mix q o n).getD i 0 = if i < n then q.getD i 0 else o.getD i 0 := by
  unfold mix
  have hl : (q.take n).length = n := by rw [List.length_take]; omega
  split
  · rename_i h
    rw [getD_app_left (by omega), List.getD_eq_getElem?_getD, List.getElem?_take_of_lt h, ← List.getD_eq_getElem?_getD]
  · rename_i h
    rw [getD_app_right (by omega), hl, List.getD_eq_getElem?_getD, List.getElem?_drop, ← List.getD_eq_getElem?_getD, show n + (i - n) = i by omega]
theorem mix_pgC (T : By) {c1 c2 n k : Nat} (h : c1 ≤ c2) (hn : n ≤ 64) : mix (pgC T c2 k) (pgC T c1 k) n = pgC T (max c1 (min n c2)) k := by
  have hl := mix_len (pgC_len T c2 k) (pgC_len T c1 k) hn
  refine page_ext (by rw [hl, pgC_len]) fun i hi => ?_
  rw [hl] at hi
  rw [mix_get (pgC_len T c2 k) hn, pgC_get _ _ _ hi, pgC_get _ _ _ hi, pgC_get _ _ _ hi]
  by_cases h1 : i < n
  · rw [if_pos h1]
    by_cases h2 : i < c2
    · rw [if_pos h2, if_pos (by omega)]
    · rw [if_neg h2, if_neg (by omega)]
  · rw [if_neg h1]
    by_cases h2 : i < c1
    · rw [if_pos h2, if_pos (by omega)]
    · rw [if_neg h2, if_neg (by omega)]
/-- what T is continued by plays no part in its own pages -/
theorem pgC_app (T m : By) {c k : Nat} (h : c ≤ lenP T k) : pgC (T ++ m) c k = pgC T c k := by
  refine page_ext (by rw [pgC_len, pgC_len]) fun i hi => ?_
  rw [pgC_len] at hi
  rw [pgC_get _ _ _ hi, pgC_get _ _ _ hi]
  split
  · rename_i h1
    unfold lenP at h
    exact getD_app_left (by omega)
  · rfl
/-- how much of each page is there, one more being written -/
def updL (L : Nat → Nat) (k l : Nat) : Nat → Nat := fun j => if j = k then l else L j
def Chain : (Nat → Nat) → List (Nat × Nat) → Prop
  | _, [] => True
  | L, v :: r => L v.1 ≤ v.2 ∧ Chain (updL L v.1 v.2) r
def finL : (Nat → Nat) → List (Nat × Nat) → Nat → Nat
  | L, [] => L
  | L, v :: r => finL (updL L v.1 v.2) r
theorem Chain.mono : ∀ {vs : List (Nat × Nat)} {L L' : Nat → Nat}, Chain L vs → (∀ k, L' k ≤ L k) → Chain L' vs
  | [], _, _, _, _ => trivial
  | v :: r, L, L', h, hl => ⟨Nat.le_trans (hl _) h.1, Chain.mono (vs := r) h.2 fun k => by unfold updL; split; exact Nat.le_refl _; exact hl k⟩
theorem Chain.snoc : ∀ {vs : List (Nat × Nat)} {L : Nat → Nat} {v : Nat × Nat}, Chain L vs → finL L vs v.1 ≤ v.2 → Chain L (vs ++ [v])
  | [], _, _, _, h => ⟨h, trivial⟩
  | _ :: r, _, _, h, hl => ⟨h.1, Chain.snoc (vs := r) h.2 hl⟩
theorem finL_snoc : ∀ (vs : List (Nat × Nat)) (L : Nat → Nat) (v : Nat × Nat), finL L (vs ++ [v]) = updL (finL L vs) v.1 v.2
  | [], _, _ => rfl
  | _ :: r, _, v => finL_snoc r _ v
theorem finL_ge : ∀ {vs : List (Nat × Nat)} {L : Nat → Nat}, Chain L vs → ∀ k, L k ≤ finL L vs k
  | [], _, _, _ => Nat.le_refl _
  | v :: r, L, h, k => by
    refine Nat.le_trans ?_ (finL_ge (vs := r) h.2 k)
    unfold updL
    split
    · rename_i e
      rw [e]
      exact h.1
    · exact Nat.le_refl _
theorem finL_le : ∀ {vs : List (Nat × Nat)} {L : Nat → Nat} {k hi : Nat}, L k ≤ hi → (∀ v ∈ vs, v.1 = k → v.2 ≤ hi) → finL L vs k ≤ hi
  | [], _, _, _, h, _ => h
  | v :: r, L, k, hi, h, hv => finL_le (vs := r) (by
      unfold updL
      split
      · rename_i e
        exact hv v (List.mem_cons_self ..) e.symm
      · exact h) fun x hx => hv x (List.mem_cons_of_mem _ hx)
theorem getD_set {α : Type} (l : List α) (i j : Nat) (x d : α) (h : i < l.length) : (l.set i x).getD j d = if j = i then x else l.getD j d := by
  rw [List.getD_eq_getElem?_getD, List.getD_eq_getElem?_getD, List.getElem?_set]
  by_cases e : i = j
  · subst e
    simp [h]
  · rw [if_neg e, if_neg (fun h => e h.symm)]
def waitC (b : Nat) (T : By) (vs : List (Nat × Nat)) : List (Nat × By) := vs.map fun v => (b + 1 + v.1, pgC T v.2 v.1)
theorem waitC_app (b : Nat) (T m : By) {vs : List (Nat × Nat)} (h : ∀ v ∈ vs, v.2 ≤ lenP T v.1) : waitC b (T ++ m) vs = waitC b T vs := by
  unfold waitC
  apply List.map_congr_left
  intro v hv
  rw [pgC_app T m (h v hv)]
/-- what a crash leaves of a space -/
theorem tornL_space (C : Cr) (b m : Nat) (T : By) : ∀ (vs : List (Nat × Nat)) (j : Nat) (l : List By) (L : Nat → Nat), (∀ v ∈ vs, v.1 < m) → b + m < l.length → (∀ k, k < m → l.getD (b + 1 + k) [] = pgC T (L k) k) → Chain L vs →
    ∃ c : Nat → Nat, (∀ k, k < m → (tornL C j (waitC b T vs) l).getD (b + 1 + k) [] = pgC T (c k) k) ∧ (∀ k, L k ≤ c k) ∧ (∀ k hi, L k ≤ hi → (∀ v ∈ vs, v.1 = k → v.2 ≤ hi) → c k ≤ hi) ∧
      ∀ i, (i < b + 1 ∨ b + m < i) → (tornL C j (waitC b T vs) l).getD i [] = l.getD i [] := by
  intro vs
  induction vs with
  | nil => intro j l L _ _ h _; exact ⟨L, h, fun k => Nat.le_refl _, fun k hi h1 _ => h1, fun i _ => rfl⟩
  | cons v r ih =>
    intro j l L hv hl h hc
    have hv1 := hv v (List.mem_cons_self ..)
    have hct := cutAt_le C j
    have hmix := mix_pgC T (k := v.1) (n := cutAt C j) hc.1 hct
    have hset : ∀ i, (l.set (b + 1 + v.1) (mix (pgC T v.2 v.1) (l.getD (b + 1 + v.1) []) (cutAt C j))).getD i [] = if i = b + 1 + v.1 then pgC T (max (L v.1) (min (cutAt C j) v.2)) v.1 else l.getD i [] := by
      intro i
      rw [getD_set _ _ _ _ _ (by omega), h v.1 hv1, hmix]
    obtain ⟨c, h1, h2, h3, h4⟩ := ih (j + 1) (l.set (b + 1 + v.1) (mix (pgC T v.2 v.1) (l.getD (b + 1 + v.1) []) (cutAt C j))) (updL L v.1 (max (L v.1) (min (cutAt C j) v.2)))
      (fun x hx => hv x (List.mem_cons_of_mem _ hx)) (by simpa using hl) (fun k hk => by
        rw [hset]
        unfold updL
        by_cases e : k = v.1
        · subst e
          rw [if_pos rfl, if_pos rfl]
        · rw [if_neg (by omega), if_neg e]
          exact h k hk) (hc.2.mono fun k => by
        have := hc.1
        unfold updL
        split
        · omega
        · exact Nat.le_refl _)
    refine ⟨c, h1, fun k => Nat.le_trans ?_ (h2 k), fun k hi hk1 hk2 => h3 k hi ?_ fun x hx => hk2 x (List.mem_cons_of_mem _ hx), fun i hi => ?_⟩
    · unfold updL
      split
      · rename_i e
        subst e
        omega
      · exact Nat.le_refl _
    · have := hk2 v (List.mem_cons_self ..)
      unfold updL
      split
      · rename_i e
        subst e
        have := this rfl
        omega
      · exact hk1
    · have := h4 i hi
      rw [hset, if_neg (by omega)] at this
      exact this
/-- what a flush lays -/
theorem laid_space (b m : Nat) (T : By) : ∀ (vs : List (Nat × Nat)) (l : List By) (L : Nat → Nat), (∀ v ∈ vs, v.1 < m) → b + m < l.length → (∀ k, k < m → l.getD (b + 1 + k) [] = pgC T (L k) k) →
    (∀ k, k < m → (laid l (waitC b T vs)).getD (b + 1 + k) [] = pgC T (finL L vs k) k) ∧ ∀ i, (i < b + 1 ∨ b + m < i) → (laid l (waitC b T vs)).getD i [] = l.getD i [] := by
  intro vs
  induction vs with
  | nil => intro l L _ _ h; exact ⟨h, fun i _ => rfl⟩
  | cons v r ih =>
    intro l L hv hl h
    have hv1 := hv v (List.mem_cons_self ..)
    have hset : ∀ i, (l.set (b + 1 + v.1) (pgC T v.2 v.1)).getD i [] = if i = b + 1 + v.1 then pgC T v.2 v.1 else l.getD i [] := fun i => getD_set _ _ _ _ _ (by omega)
    obtain ⟨h1, h2⟩ := ih (l.set (b + 1 + v.1) (pgC T v.2 v.1)) (updL L v.1 v.2) (fun x hx => hv x (List.mem_cons_of_mem _ hx)) (by simpa using hl) (fun k hk => by
      rw [hset]
      unfold updL
      by_cases e : k = v.1
      · subst e
        rw [if_pos rfl, if_pos rfl]
      · rw [if_neg (by omega), if_neg e]
        exact h k hk)
    refine ⟨h1, fun i hi => ?_⟩
    have := h2 i hi
    rw [hset, if_neg (by omega)] at this
    exact this
end Go.Proofs.Ytklodimokhndoaa
namespace Go.Proofs.Ytklodimokhndoaa
theorem wrF_shape : ∀ (a : List (Nat × By)) (s : Dk), s.down = false → (∀ x ∈ a, x.1 < s.sure.length ∧ x.2.length ≤ 64) →
    ((wrF s a).1 = 0 ∧ (wrF s a).2.down = false ∧ (wrF s a).2.sure = s.sure ∧ (wrF s a).2.waits = s.waits ++ a.map fun x => (x.1, padL x.2)) ∨
    ((wrF s a).1 = 7 ∧ (wrF s a).2.down = true ∧ (wrF s a).2.sure = s.sure ∧ ∃ j, j < a.length ∧ (wrF s a).2.waits = s.waits ++ (a.take j).map fun x => (x.1, padL x.2))
  | [], s, h, _ => .inl ⟨rfl, h, rfl, by simp [wrF]⟩
  | x :: r, s, h, hx => by
    obtain ⟨h1, h2⟩ := hx x (List.mem_cons_self ..)
    have hw : wrongE s x.1 true = 0 := by
      unfold wrongE
      have : (0 : Int) ≤ (x.1 : Int) ∧ (x.1 : Int) < (s.sure.length : Int) := by omega
      rw [if_neg (by rw [h]; simp), if_pos this]
    by_cases hs : (spent s).down = true
    · have e1 : writeE s x.1 x.2 = 7 := by unfold writeE; rw [hw, if_neg (by decide), if_neg (by omega), if_pos hs]
      have e2 : writeS s x.1 x.2 = spent s := by unfold writeS; rw [hw, if_neg (by decide), if_neg (by omega), if_pos hs]
      unfold wrF
      rw [e1, e2, if_pos (by decide)]
      exact .inr ⟨rfl, hs, spent_sure s, 0, by simp, by simp [spent_waits]⟩
    · have e1 : writeE s x.1 x.2 = 0 := by unfold writeE; rw [hw, if_neg (by decide), if_neg (by omega), if_neg hs]
      have e2 : writeS s x.1 x.2 = wrote s x.1 x.2 := by unfold writeS; rw [hw, if_neg (by decide), if_neg (by omega), if_neg hs]; simp
      unfold wrF
      rw [e1, e2, if_neg (by decide)]
      have hd : (wrote s x.1 x.2).down = false := by simpa [wrote] using hs
      have hsu : (wrote s x.1 x.2).sure = s.sure := spent_sure s
      have hwa : (wrote s x.1 x.2).waits = s.waits ++ [(x.1, padL x.2)] := by simp [wrote, spent_waits]
      rcases wrF_shape r _ hd (fun y hy => by rw [hsu]; exact hx y (List.mem_cons_of_mem _ hy)) with ⟨q1, q2, q3, q4⟩ | ⟨q1, q2, q3, j, hj, q4⟩
      · exact .inl ⟨q1, q2, by rw [q3, hsu], by rw [q4, hwa]; simp⟩
      · exact .inr ⟨q1, q2, by rw [q3, hsu], j + 1, by simp; omega, by rw [q4, hwa]; simp⟩
/-- a disk on which a space is T, in pages of which so much is sure, and so much waits -/
structure Sp (b m : Nat) (s : Dk) (T : By) (L : Nat → Nat) (vs : List (Nat × Nat)) : Prop where
  len : b + m < s.sure.length
  ins : ∀ v ∈ vs, v.1 < m
  pages : ∀ k, k < m → s.sure.getD (b + 1 + k) [] = pgC T (L k) k
  waits : s.waits = waitC b T vs
  chain : Chain L vs
  bL : ∀ k, k < m → L k ≤ lenP T k
  bV : ∀ v ∈ vs, v.2 ≤ lenP T v.1
theorem lenP_app (T m : By) (k : Nat) : lenP T k ≤ lenP (T ++ m) k := by unfold lenP; simp; omega
theorem Sp.app {b m : Nat} {s : Dk} {T : By} {L : Nat → Nat} {vs : List (Nat × Nat)} (h : Sp b m s T L vs) (t : By) : Sp b m s (T ++ t) L vs :=
  ⟨h.len, h.ins, fun k hk => by rw [pgC_app T t (h.bL k hk)]; exact h.pages k hk, by rw [waitC_app b T t h.bV]; exact h.waits, h.chain, fun k hk => Nat.le_trans (h.bL k hk) (lenP_app _ _ _), fun v hv => Nat.le_trans (h.bV v hv) (lenP_app _ _ _)⟩
theorem Sp.other {b m : Nat} {s s' : Dk} {T : By} {L : Nat → Nat} {vs : List (Nat × Nat)} (h : Sp b m s T L vs) (h1 : s'.sure = s.sure) (h2 : s'.waits = s.waits) : Sp b m s' T L vs :=
  ⟨by rw [h1]; exact h.len, h.ins, by rw [h1]; exact h.pages, by rw [h2]; exact h.waits, h.chain, h.bL, h.bV⟩
theorem Sp.flush {b m : Nat} {s : Dk} {T : By} {L : Nat → Nat} {vs : List (Nat × Nat)} (h : Sp b m s T L vs) : Sp b m (flushed s) T (finL L vs) [] := by
  have hl := laid_space b m T vs s.sure L h.ins h.len h.pages
  refine ⟨?_, by simp, fun k hk => ?_, rfl, trivial, fun k hk => finL_le (h.bL k hk) fun v hv e => by rw [← e]; exact h.bV v hv, by simp⟩
  · show b + m < (laid s.sure s.waits).length
    rw [laid_len]
    exact h.len
  · show (laid s.sure s.waits).getD _ _ = _
    rw [h.waits]
    exact hl.1 k hk
/-- pages from k0 on are written, each whole -/
theorem Sp.write {b m : Nat} {T : By} {L : Nat → Nat} (k0 : Nat) : ∀ (n : Nat) {s s' : Dk} {vs : List (Nat × Nat)}, Sp b m s T L vs → k0 + n ≤ m → s'.sure = s.sure → s'.waits = s.waits ++ ((List.range' k0 n).map fun i => (b + 1 + i, padL (pgO T i))) →
    Sp b m s' T L (vs ++ (List.range' k0 n).map fun i => (i, lenP T i)) := by
  intro n
  induction n with
  | zero => intro s s' vs h _ h1 h2; simp at h2 ⊢; exact h.other h1 h2
  | succ n ih =>
    intro s s' vs h hk h1 h2
    have ih := ih (s' := ⟨s.sure, s.waits ++ ((List.range' k0 n).map fun i => (b + 1 + i, padL (pgO T i))), false, 0, 0⟩) h (by omega) rfl rfl
    rw [List.range'_concat, List.map_append] at h2 ⊢
    rw [← List.append_assoc] at h2 ⊢
    simp only [Nat.one_mul, List.map_cons, List.map_nil] at h2 ⊢
    refine ⟨by rw [h1]; exact h.len, fun v hv => ?_, by rw [h1]; exact h.pages, ?_, ?_, h.bL, fun v hv => ?_⟩
    · rcases List.mem_append.1 hv with hv | hv
      · exact ih.ins v hv
      · simp at hv; subst hv; simp; omega
    · rw [h2]
      have e := ih.waits
      simp only at e
      rw [e]
      unfold waitC
      rw [List.map_append]
      simp [padL_pgO]
    · exact ih.chain.snoc (finL_le (ih.bL _ (by simp; omega)) fun v hv e => by have := ih.bV v hv; rw [show v.1 = k0 + n from e] at this; exact this)
    · rcases List.mem_append.1 hv with hv | hv
      · exact ih.bV v hv
      · simp at hv; subst hv; exact Nat.le_refl _
theorem finL_write (T : By) (L : Nat → Nat) (vs : List (Nat × Nat)) (k0 : Nat) : ∀ (n k : Nat), finL L (vs ++ (List.range' k0 n).map fun i => (i, lenP T i)) k = if k0 ≤ k ∧ k < k0 + n then lenP T k else finL L vs k := by
  intro n
  induction n with
  | zero => intro k; simp; omega
  | succ n ih =>
    intro k
    rw [List.range'_concat, List.map_append, ← List.append_assoc]
    simp only [Nat.one_mul, List.map_cons, List.map_nil]
    rw [finL_snoc]
    unfold updL
    simp only
    split
    · rename_i e
      subst e
      rw [if_pos (by omega)]
    · rw [ih k]
      split <;> split <;> first | rfl | omega
/-- of the first E bytes of T each is sure -/
def Forced (E : Nat) (L : Nat → Nat) (T : By) : Prop := ∀ p, p < E → p % 64 < L (p / 64) ∨ T.getD p 0 = 0
/-- a run whose disk is not down -/
structure UpI (b m : Nat) (S0 : List By) (x : Rs) (L : Nat → Nat) (vs : List (Nat × Nat)) : Prop where
  down : x.s.down = false
  sp : Sp b m x.s x.g.space L vs
  full : ∀ k i, k < m → i < 64 → i < finL L vs k ∨ x.g.space.getD (64 * k + i) 0 = 0
  space : x.g.space = layA [] x.all
  ok : ∀ r ∈ x.all, RecOk r
  forced : Forced (layA [] (x.all.take x.sure)).length L x.g.space
  head : ∀ i, (i < b + 1 ∨ b + m < i) → x.s.sure.getD i [] = S0.getD i []
/-- what a run has laid, at the most -/
structure FinI (b m : Nat) (S0 : List By) (x : Rs) (T : By) (rs : List By) (L : Nat → Nat) (vs : List (Nat × Nat)) : Prop where
  sp : Sp b m x.s T L vs
  space : T = layA [] rs
  len : T.length ≤ 64 * m
  ok : ∀ r ∈ rs, RecOk r
  forced : Forced (layA [] (x.all.take x.sure)).length L T
  head : ∀ i, (i < b + 1 ∨ b + m < i) → x.s.sure.getD i [] = S0.getD i []
  all : rs = x.all ∨ ∃ r, rs = x.all ++ [r] ∧ 1 ≤ T.length ∧ L ((T.length - 1) / 64) ≤ (T.length - 1) % 64 ∧ ∀ v ∈ vs, v.1 = (T.length - 1) / 64 → v.2 ≤ (T.length - 1) % 64
/-- a run's state -/
structure RunP (b m : Nat) (S0 : List By) (n : Nat) (x : Rs) : Prop where
  good : x.Good n
  at_ : x.g.at_ x.g.half = b
  size : x.g.size - 1 = m
  st : (∃ L vs, UpI b m S0 x L vs) ∨ (x.s.down = true ∧ ∃ T rs L vs, FinI b m S0 x T rs L vs)
theorem UpI.fin {b m n : Nat} {S0 : List By} {x : Rs} {L : Nat → Nat} {vs : List (Nat × Nat)} (h : UpI b m S0 x L vs) (hg : x.Good n) (hm : x.g.size - 1 = m) : FinI b m S0 x x.g.space x.all L vs :=
  ⟨h.sp, h.space, by rw [← hm]; exact hg.gd.sp, h.ok, h.forced, h.head, .inl rfl⟩
theorem RunP.fin {b m n : Nat} {S0 : List By} {x : Rs} (h : RunP b m S0 n x) : ∃ T rs L vs, FinI b m S0 x T rs L vs := by
  rcases h.st with ⟨L, vs, hu⟩ | ⟨_, h⟩
  · exact ⟨_, _, _, _, hu.fin h.good h.size⟩
  · exact h
theorem layA_snoc (rs : List By) (o r : By) : layA o (rs ++ [r]) = layF (layA o rs) r := by unfold layA; rw [List.foldl_append]; rfl
theorem layF_zero (o r : By) {p : Nat} (h1 : o.length ≤ p) (h2 : p < skipF o.length) : (layF o r).getD p 0 = 0 := by
  have hpad : ∀ (f : Nat) (b : Bool) (rest : By), (layG f b o rest).getD p 0 = 0 := by
    intro f b rest
    cases f with
    | zero => unfold layG; rw [List.getD_eq_getElem?_getD, List.getElem?_eq_none h1]; rfl
    | succ f =>
      unfold layG
      split
      · rw [List.getD_eq_getElem?_getD, List.getElem?_eq_none h1]; rfl
      · obtain ⟨m, hm⟩ := layG_pre f false (layC b o rest) (rest.drop (fitF o rest))
        rw [hm]
        unfold layC
        rw [List.append_assoc, getD_app_left (by rw [padF_len]; exact h2)]
        unfold padF
        rw [getD_app_right h1]
        exact getD_zeros _ _
  exact hpad _ _ _
theorem apW_map (b k0 : Nat) (sp : By) (k : Nat) : (apW b k0 sp k).map (fun x => (x.1, padL x.2)) = (List.range' k0 k).map fun i => (b + 1 + i, padL (pgO sp i)) := by
  unfold apW
  rw [List.map_map]
  rfl
theorem apW_take (b k0 : Nat) (sp : By) {j k : Nat} (h : j ≤ k) : (apW b k0 sp k).take j = apW b k0 sp j := by
  obtain ⟨r, hr⟩ := apW_pre b k0 sp h
  rw [hr, List.take_left' (by simp [apW])]
theorem appendR_run {b m n : Nat} {S0 : List By} {x : Rs} {L : Nat → Nat} {vs : List (Nat × Nat)} (h : UpI b m S0 x L vs) (hg : x.Good n) (hb : x.g.at_ x.g.half = b) (hm : x.g.size - 1 = m) (d : WDe) (hd : d.do_ = 0) :
    (∃ L vs, UpI b m S0 (stepR x d) L vs) ∨ ((stepR x d).s.down = true ∧ ∃ T rs L vs, FinI b m S0 (stepR x d) T rs L vs) := by
  have hbg : ¬ beginE x.s x.g ≠ 0 := by
    unfold beginE
    rw [if_neg (by rw [hg.age]; simp), if_neg (by rw [h.down]; simp)]
    simp
  have stay : ∀ e : Int, e ≠ 0 → appendR x.s x.g d.by_ = (e, x.s, x.g) → stepR x d = x := by
    intro e he ha
    unfold stepR
    rw [if_pos hd, ha]
    simp only
    rw [if_neg he]
  by_cases hw : wrongR d.by_ ≠ 0
  · rw [stay _ hw (by unfold appendR; rw [if_neg hbg, if_pos hw])]
    exact .inl ⟨L, vs, h⟩
  · have hw0 := Decidable.not_not.1 hw
    have hr : RecOk d.by_ := by
      unfold wrongR at hw0
      split at hw0
      · cases hw0
      · rename_i h1
        split at hw0
        · cases hw0
        · exact ⟨fun e => h1 (by rw [e]; rfl), by omega⟩
    by_cases hf : 64 * (x.g.size - 1) < (layF x.g.space d.by_).length
    · rw [stay 8 (by decide) (by unfold appendR; rw [if_neg hbg, if_neg hw, if_pos hf])]
      exact .inl ⟨L, vs, h⟩
    · have hroom := apW_room hg.gd hw0 (by omega)
      have hgt := layF_gt x.g.space d.by_ hr.1
      obtain ⟨t, ht⟩ := layF_pre x.g.space d.by_
      have hsp := h.sp.app t
      rw [← ht] at hsp
      have hforced : Forced (layA [] (x.all.take x.sure)).length L (layF x.g.space d.by_) := by
        intro p hp
        rcases h.forced p hp with h1 | h1
        · exact .inl h1
        · refine .inr ?_
          have hlen : (layA [] (x.all.take x.sure)).length ≤ x.g.space.length := by
            rw [h.space]
            conv => rhs; rw [← List.take_append_drop x.sure x.all]
            unfold layA
            rw [List.foldl_append]
            obtain ⟨q, hq⟩ := layA_pre (x.all.drop x.sure) (List.foldl layF [] (x.all.take x.sure))
            unfold layA at hq
            rw [hq]
            simp
          rw [ht, getD_app_left (by omega)]
          exact h1
      have hlay : layF x.g.space d.by_ = layA [] (x.all ++ [d.by_]) := by rw [layA_snoc, ← h.space]
      have hok : ∀ r ∈ x.all ++ [d.by_], RecOk r := by
        intro r hr2
        rcases List.mem_append.1 hr2 with h1 | h1
        · exact h.ok r h1
        · simp at h1; subst h1; exact hr
      have hk := skipF_div x.g.space.length
      have hskle := skipF_le x.g.space.length
      have hskge := skipF_ge x.g.space.length
      have hP : apP x.g.space.length (layF x.g.space d.by_) = ((layF x.g.space d.by_).length + 63) / 64 - skipF x.g.space.length / 64 := rfl
      have hwr := wrF_shape (apW (x.g.at_ x.g.half) (skipF x.g.space.length / 64) (layF x.g.space d.by_) (apP x.g.space.length (layF x.g.space d.by_))) x.s h.down (fun y hy => (hroom y hy).2.2)
      have hap : appendR x.s x.g d.by_ = if (wrF x.s (apW (x.g.at_ x.g.half) (skipF x.g.space.length / 64) (layF x.g.space d.by_) (apP x.g.space.length (layF x.g.space d.by_)))).1 ≠ 0 then
          ((wrF x.s (apW (x.g.at_ x.g.half) (skipF x.g.space.length / 64) (layF x.g.space d.by_) (apP x.g.space.length (layF x.g.space d.by_)))).1, (wrF x.s (apW (x.g.at_ x.g.half) (skipF x.g.space.length / 64) (layF x.g.space d.by_) (apP x.g.space.length (layF x.g.space d.by_)))).2, x.g)
          else (0, (wrF x.s (apW (x.g.at_ x.g.half) (skipF x.g.space.length / 64) (layF x.g.space d.by_) (apP x.g.space.length (layF x.g.space d.by_)))).2, ⟨x.g.age, x.g.base, x.g.size, x.g.half, x.g.gen, layF x.g.space d.by_, x.g.recs ++ [d.by_]⟩) := by
        unfold appendR; rw [if_neg hbg, if_neg hw, if_neg hf]
      have hsurelen := hg.sure
      rw [hb] at *
      generalize hk0 : skipF x.g.space.length / 64 = k0 at *
      generalize hPP : apP x.g.space.length (layF x.g.space d.by_) = P at *
      have hkP : k0 + P ≤ m := by omega
      generalize hwf : wrF x.s (apW b k0 (layF x.g.space d.by_) P) = wf at *
      obtain ⟨e, s2⟩ := wf
      rcases hwr with ⟨q1, q2, q3, q4⟩ | ⟨q1, q2, q3, j, hj, q4⟩
      · simp only at q1 q2 q3 q4 hap
        subst q1
        rw [if_neg (by decide)] at hap
        rw [apW_map] at q4
        have hst : stepR x d = ⟨s2, ⟨x.g.age, x.g.base, x.g.size, x.g.half, x.g.gen, layF x.g.space d.by_, x.g.recs ++ [d.by_]⟩, x.all ++ [d.by_], x.sure⟩ := by
          unfold stepR
          rw [if_pos hd, hap]
          rfl
        rw [hst]
        refine .inl ⟨L, _, q2, hsp.write k0 P hkP q3 q4, fun k i hk1 hi => ?_, hlay, hok, ?_, ?_⟩
        · simp only
          rw [finL_write]
          by_cases hin : k0 ≤ k ∧ k < k0 + P
          · rw [if_pos hin]
            by_cases hi2 : i < lenP (layF x.g.space d.by_) k
            · exact .inl hi2
            · refine .inr ?_
              unfold lenP at hi2
              rw [List.getD_eq_getElem?_getD, List.getElem?_eq_none (by omega)]
              rfl
          · rw [if_neg hin]
            by_cases hlt : k < k0
            · rcases h.full k i hk1 hi with h1 | h1
              · exact .inl h1
              · refine .inr ?_
                by_cases hp : 64 * k + i < x.g.space.length
                · rw [ht, getD_app_left hp]
                  exact h1
                · exact layF_zero _ _ (by omega) (by omega)
            · refine .inr ?_
              rw [List.getD_eq_getElem?_getD, List.getElem?_eq_none (by omega)]
              rfl
        · simp only
          rw [List.take_append_of_le_length (by omega)]
          exact hforced
        · intro i hi
          simp only
          rw [q3]
          exact h.head i hi
      · simp only at q1 q2 q3 q4 hap
        subst q1
        rw [if_pos (by decide)] at hap
        have hst : stepR x d = ⟨s2, x.g, x.all, x.sure⟩ := by
          unfold stepR
          rw [if_pos hd, hap]
          rfl
        have hjP : j < P := by simpa [apW] using hj
        rw [apW_take _ _ _ (by omega), apW_map] at q4
        rw [hst]
        refine .inr ⟨q2, layF x.g.space d.by_, x.all ++ [d.by_], L, _, hsp.write k0 j (by omega) q3 q4, hlay, by omega, hok, hforced, fun i hi => by simp only; rw [q3]; exact h.head i hi, .inr ⟨d.by_, rfl, by omega, ?_, fun v hv e => ?_⟩⟩
        · have := h.sp.bL (((layF x.g.space d.by_).length - 1) / 64) (by omega)
          unfold lenP at this
          omega
        · rcases List.mem_append.1 hv with hv | hv
          · have := h.sp.bV v hv
            unfold lenP at this
            omega
          · obtain ⟨i, hi, rfl⟩ := List.mem_map.1 hv
            simp only [List.mem_range'_1] at hi
            simp only at e
            omega
theorem layA_le (rs : List By) (n : Nat) : (layA [] (rs.take n)).length ≤ (layA [] rs).length := by
  conv => rhs; rw [← List.take_append_drop n rs]
  unfold layA
  rw [List.foldl_append]
  obtain ⟨q, hq⟩ := layA_pre (rs.drop n) (List.foldl layF [] (rs.take n))
  unfold layA at hq
  rw [hq]
  simp
theorem appendR_at (s : Dk) (g : Lg) (r : By) : (appendR s g r).2.2.at_ (appendR s g r).2.2.half = g.at_ g.half ∧ (appendR s g r).2.2.size = g.size := by
  unfold appendR
  split
  · exact ⟨rfl, rfl⟩
  · split
    · exact ⟨rfl, rfl⟩
    · split
      · exact ⟨rfl, rfl⟩
      · split
        · exact ⟨rfl, rfl⟩
        · exact ⟨rfl, rfl⟩
theorem stepR_at (x : Rs) (d : WDe) : (stepR x d).g.at_ (stepR x d).g.half = x.g.at_ x.g.half ∧ (stepR x d).g.size = x.g.size := by
  unfold stepR
  split
  · exact appendR_at _ _ _
  · split
    · exact ⟨rfl, rfl⟩
    · split
      · exact ⟨rfl, rfl⟩
      · exact ⟨rfl, rfl⟩
/-- a disk that is down stays as it is -/
theorem stepR_down {n : Nat} {x : Rs} (hg : x.Good n) (hd : x.s.down = true) (d : WDe) : stepR x d = x := by
  obtain ⟨s, g, all, sure⟩ := x
  simp only at hd
  have hage : g.age = s.age := hg.age
  unfold stepR
  split
  · have : appendR s g d.by_ = (7, s, g) := by
      unfold appendR beginE
      rw [if_neg (show ¬ g.age ≠ s.age by omega), if_pos hd, if_pos (by decide)]
    simp only [this]
    rfl
  · split
    · have h1 : forceE s g = 7 := by unfold forceE flushE; rw [if_neg (by omega), if_pos hd]
      have h2 : forceS s g = s := by unfold forceS flushS; rw [if_neg (by omega), if_pos hd]
      simp only [h1, h2]
      rfl
    · split
      · have : cutS s (cutN d.n) = s := by unfold cutS; rw [if_pos (.inl hd)]
        simp only [this]
      · rfl
theorem force_run {b m n : Nat} {S0 : List By} {x : Rs} {L : Nat → Nat} {vs : List (Nat × Nat)} (h : UpI b m S0 x L vs) (hg : x.Good n) (hm : x.g.size - 1 = m) (d : WDe) (h0 : d.do_ ≠ 0) (h1 : d.do_ = 1) :
    (∃ L vs, UpI b m S0 (stepR x d) L vs) ∨ ((stepR x d).s.down = true ∧ ∃ T rs L vs, FinI b m S0 (stepR x d) T rs L vs) := by
  obtain ⟨s, g, all, sure⟩ := x
  have hage : g.age = s.age := hg.age
  have hdn : s.down = false := h.down
  have hE : forceE s g = flushE s := by unfold forceE; rw [if_neg (by omega)]
  have hS : forceS s g = flushS s := by unfold forceS; rw [if_neg (by omega)]
  by_cases hs : (spent s).down = true
  · have e1 : flushE s = 7 := by unfold flushE; rw [if_neg (by rw [hdn]; decide), if_pos hs]
    have e2 : flushS s = spent s := by unfold flushS; rw [if_neg (by rw [hdn]; decide), if_pos hs]
    have hst : stepR ⟨s, g, all, sure⟩ d = ⟨spent s, g, all, sure⟩ := by
      unfold stepR
      rw [if_neg h0, if_pos h1]
      simp only [hE, hS, e1, e2]
      rfl
    rw [hst]
    have hf := h.fin hg hm
    exact .inr ⟨hs, _, _, L, vs, hf.sp.other (spent_sure s) (spent_waits s), hf.space, hf.len, hf.ok, hf.forced, fun i hi => by simp only; rw [spent_sure]; exact hf.head i hi, hf.all⟩
  · have e1 : flushE s = 0 := by unfold flushE; rw [if_neg (by rw [hdn]; decide), if_neg hs]
    have e2 : flushS s = flushed s := by unfold flushS; rw [if_neg (by rw [hdn]; decide), if_neg hs]
    have hst : stepR ⟨s, g, all, sure⟩ d = ⟨flushed s, g, all, all.length⟩ := by
      unfold stepR
      rw [if_neg h0, if_pos h1]
      simp only [hE, hS, e1, e2, if_true]
    rw [hst]
    have hsp : Sp b m s g.space L vs := h.sp
    have hl := laid_space b m g.space vs s.sure L hsp.ins hsp.len hsp.pages
    refine .inl ⟨finL L vs, [], ?_, hsp.flush, h.full, h.space, h.ok, ?_, fun i hi => ?_⟩
    · simp only [flushed]
      simpa using hs
    · simp only
      rw [List.take_length]
      intro p hp
      have h2 : g.space = layA [] all := h.space
      have hlen : g.space.length ≤ 64 * m := by rw [← hm]; exact hg.gd.sp
      rw [← h2] at hp
      have := h.full (p / 64) (p % 64) (by omega) (by omega)
      rw [show 64 * (p / 64) + p % 64 = p by omega] at this
      exact this
    · show (laid s.sure s.waits).getD i [] = _
      rw [hsp.waits, hl.2 i hi]
      exact h.head i hi
theorem RunP.step {b m n : Nat} {S0 : List By} {x : Rs} (h : RunP b m S0 n x) (d : WDe) : RunP b m S0 (n + 300) (stepR x d) := by
  refine ⟨stepR_good h.good d, by rw [(stepR_at x d).1]; exact h.at_, by rw [(stepR_at x d).2]; exact h.size, ?_⟩
  rcases h.st with ⟨L, vs, hu⟩ | ⟨hd, hf⟩
  · by_cases h0 : d.do_ = 0
    · exact appendR_run hu h.good h.at_ h.size d h0
    · by_cases h1 : d.do_ = 1
      · exact force_run hu h.good h.size d h0 h1
      · left
        by_cases h3 : d.do_ = 3
        · have hst : stepR x d = ⟨cutS x.s (cutN d.n), x.g, x.all, x.sure⟩ := by unfold stepR; rw [if_neg h0, if_neg h1, if_pos h3]
          rw [hst]
          have e1 : (cutS x.s (cutN d.n)).sure = x.s.sure := by unfold cutS; split <;> rfl
          have e2 : (cutS x.s (cutN d.n)).waits = x.s.waits := by unfold cutS; split <;> rfl
          have e3 : (cutS x.s (cutN d.n)).down = x.s.down := by unfold cutS; split <;> rfl
          exact ⟨L, vs, e3.trans hu.down, hu.sp.other e1 e2, hu.full, hu.space, hu.ok, hu.forced, fun i hi => by simp only; rw [e1]; exact hu.head i hi⟩
        · have hst : stepR x d = x := by unfold stepR; rw [if_neg h0, if_neg h1, if_neg h3]
          rw [hst]
          exact ⟨L, vs, hu⟩
  · rw [stepR_down h.good hd d]
    exact .inr ⟨hd, hf⟩
end Go.Proofs.Ytklodimokhndoaa
namespace Go.Proofs.Ytklodimokhndoaa
theorem readS_sure {s : Dk} (h : s.waits = []) (i : Nat) : readS s i = s.sure.getD i [] := by unfold readS; rw [h]; rfl
theorem sure_len {s : Dk} (hs : s.Ok) {i : Nat} (hi : i < s.sure.length) : (s.sure.getD i []).length = 64 := by
  rw [List.getD_eq_getElem?_getD, List.getElem?_eq_getElem hi]
  exact hs.page _ (List.getElem_mem hi)
theorem allG_get {s : Dk} (hs : s.Ok) (hw : s.waits = []) {b : Nat} : ∀ (n p : Nat), b + n < s.sure.length → p < 64 * n → (allG s b n).getD p 0 = (s.sure.getD (b + 1 + p / 64) []).getD (p % 64) 0 := by
  intro n
  induction n with
  | zero => intro p _ h; omega
  | succ n ih =>
    intro p hl hp
    rw [allG_succ]
    have hlen := allG_len hs (b := b) n (by omega)
    by_cases h : p < 64 * n
    · rw [getD_app_left (by omega)]
      exact ih p (by omega) h
    · rw [getD_app_right (by omega), hlen, readS_sure hw, show b + 1 + p / 64 = b + (n + 1) by omega, show p - 64 * n = p % 64 by omega]
theorem mix_zero (q o : By) : mix q o 0 = o := by simp [mix]
theorem mix_all {q o : By} (hq : q.length = 64) (ho : o.length = 64) : mix q o 64 = q := by unfold mix; rw [List.take_of_length_le (by omega), List.drop_eq_nil_of_le (by omega), List.append_nil]
theorem mix_mix {q o : By} (hq : q.length = 64) (ho : o.length = 64) {n1 n2 : Nat} (h1 : n1 ≤ 64) (h2 : n2 ≤ 64) : mix q (mix q o n1) n2 = mix q o (max n1 n2) := by
  have hl1 := mix_len hq ho h1
  have hl2 := mix_len hq hl1 h2
  have hl3 := mix_len hq ho (n := max n1 n2) (by omega)
  refine page_ext (by rw [hl2, hl3]) fun i _ => ?_
  rw [mix_get hq h2, mix_get hq h1, mix_get hq (by omega)]
  split <;> split <;> first | rfl | (split <;> first | rfl | omega) | omega
/-- what a crash leaves of pages that wait, each always written as the same -/
theorem tornL_mix (C : Cr) (b m : Nat) (N : Nat → By) (hN : ∀ k, (N k).length = 64) : ∀ (ws : List Nat) (j : Nat) (l : List By), (∀ k ∈ ws, k < m) → b + m < l.length → (∀ k, k < m → (l.getD (b + 1 + k) []).length = 64) →
    ∃ nn : Nat → Nat, (∀ k, nn k ≤ 64) ∧ (∀ k, k < m → (tornL C j (ws.map fun k => (b + 1 + k, N k)) l).getD (b + 1 + k) [] = mix (N k) (l.getD (b + 1 + k) []) (nn k)) ∧
      (∀ i, (i < b + 1 ∨ b + m < i) → (tornL C j (ws.map fun k => (b + 1 + k, N k)) l).getD i [] = l.getD i []) := by
  intro ws
  induction ws with
  | nil => intro j l _ _ _; exact ⟨fun _ => 0, fun _ => Nat.zero_le _, fun k _ => (mix_zero _ _).symm, fun i _ => rfl⟩
  | cons v r ih =>
    intro j l hv hl hp
    have hv1 := hv v (List.mem_cons_self ..)
    have hct := cutAt_le C j
    have hset : ∀ i, (l.set (b + 1 + v) (mix (N v) (l.getD (b + 1 + v) []) (cutAt C j))).getD i [] = if i = b + 1 + v then mix (N v) (l.getD (b + 1 + v) []) (cutAt C j) else l.getD i [] := fun i => getD_set _ _ _ _ _ (by omega)
    obtain ⟨nn, h1, h2, h3⟩ := ih (j + 1) (l.set (b + 1 + v) (mix (N v) (l.getD (b + 1 + v) []) (cutAt C j))) (fun x hx => hv x (List.mem_cons_of_mem _ hx)) (by simpa using hl) (fun k hk => by
      rw [hset]
      split
      · exact mix_len (hN v) (hp v hv1) hct
      · exact hp k hk)
    refine ⟨fun k => if k = v then max (cutAt C j) (nn k) else nn k, fun k => ?_, fun k hk => ?_, fun i hi => ?_⟩
    · have := h1 k
      simp only
      split <;> omega
    · show (tornL C (j + 1) (r.map fun k => (b + 1 + k, N k)) _).getD _ _ = _
      rw [h2 k hk, hset]
      simp only
      by_cases e : k = v
      · subst e
        rw [if_pos rfl, if_pos rfl]
        exact mix_mix (hN k) (hp k hk) hct (h1 k)
      · rw [if_neg (by omega), if_neg e]
    · have := h3 i hi
      rw [hset, if_neg (by omega)] at this
      exact this
theorem laid_mix (b m : Nat) (N : Nat → By) (hN : ∀ k, (N k).length = 64) : ∀ (ws : List Nat) (l : List By), (∀ k ∈ ws, k < m) → b + m < l.length → (∀ k, k < m → (l.getD (b + 1 + k) []).length = 64) →
    ∃ nn : Nat → Nat, (∀ k, nn k ≤ 64) ∧ (∀ k, k < m → (laid l (ws.map fun k => (b + 1 + k, N k))).getD (b + 1 + k) [] = mix (N k) (l.getD (b + 1 + k) []) (nn k)) ∧
      (∀ i, (i < b + 1 ∨ b + m < i) → (laid l (ws.map fun k => (b + 1 + k, N k))).getD i [] = l.getD i []) := by
  intro ws
  induction ws with
  | nil => intro l _ _ _; exact ⟨fun _ => 0, fun _ => Nat.zero_le _, fun k _ => (mix_zero _ _).symm, fun i _ => rfl⟩
  | cons v r ih =>
    intro l hv hl hp
    have hv1 := hv v (List.mem_cons_self ..)
    have hset : ∀ i, (l.set (b + 1 + v) (N v)).getD i [] = if i = b + 1 + v then N v else l.getD i [] := fun i => getD_set _ _ _ _ _ (by omega)
    obtain ⟨nn, h1, h2, h3⟩ := ih (l.set (b + 1 + v) (N v)) (fun x hx => hv x (List.mem_cons_of_mem _ hx)) (by simpa using hl) (fun k hk => by
      rw [hset]
      split
      · exact hN v
      · exact hp k hk)
    refine ⟨fun k => if k = v then 64 else nn k, fun k => ?_, fun k hk => ?_, fun i hi => ?_⟩
    · have := h1 k
      simp only
      split <;> omega
    · show (laid (l.set (b + 1 + v) (N v)) (r.map fun k => (b + 1 + k, N k))).getD _ _ = _
      rw [h2 k hk, hset]
      simp only
      by_cases e : k = v
      · subst e
        rw [if_pos rfl, if_pos rfl]
        rw [mix_all (hN k) (hp k hk)]
        exact List.take_append_drop _ _
      · rw [if_neg (by omega), if_neg e]
    · have := h3 i hi
      rw [hset, if_neg (by omega)] at this
      exact this
/-- writes of pages of one space, and a flush perhaps; behind a crash each page has a beginning of what was to be -/
theorem layD_torn {s : Dk} (hs : s.Ok) (hd : s.down = false) (hw : s.waits = []) {b m : Nat} (hl : b + m < s.sure.length) (is : By) (must : Bool) (C : Cr) :
    ∃ nn : Nat → Nat, (∀ k, nn k ≤ 64) ∧ (∀ k, k < m → (crashed (layD s b m is must).2 C).sure.getD (b + 1 + k) [] = mix (padL (pgO (is ++ List.replicate (64 * m - is.length) 0) k)) (s.sure.getD (b + 1 + k) []) (nn k)) ∧
      (∀ i, (i < b + 1 ∨ b + m < i) → (crashed (layD s b m is must).2 C).sure.getD i [] = s.sure.getD i []) := by
  have hp : ∀ k, k < m → (s.sure.getD (b + 1 + k) []).length = 64 := fun k hk => sure_len hs (by omega)
  have hdif : ∀ was tob : By, ∀ k ∈ dif was tob m, k < m := fun was tob k hk => by unfold dif at hk; exact List.mem_range.1 (List.mem_filter.1 hk).1
  have hN : ∀ k, (padL (pgO (is ++ List.replicate (64 * m - is.length) 0) k)).length = 64 := fun k => padL_len (pgO_le _ _)
  have hshape : ∀ was tob : By, ∀ x ∈ difs b was tob m, x.1 < s.sure.length ∧ x.2.length ≤ 64 := fun was tob x hx => by
    unfold difs at hx
    obtain ⟨k, hk, rfl⟩ := List.mem_map.1 hx
    have := hdif _ _ k hk
    exact ⟨by simp only; omega, pgO_le _ _⟩
  have hmap : ∀ was tob : By, ∀ j, ((difs b was tob m).take j).map (fun x => (x.1, padL x.2)) = ((dif was tob m).take j).map fun k => (b + 1 + k, padL (pgO tob k)) := fun was tob j => by
    unfold difs
    rw [← List.map_take, List.map_map]
    rfl
  have hmap0 : ∀ was tob : By, (difs b was tob m).map (fun x => (x.1, padL x.2)) = (dif was tob m).map fun k => (b + 1 + k, padL (pgO tob k)) := fun was tob => by
    unfold difs
    rw [List.map_map]
    rfl
  generalize htob : is ++ List.replicate (64 * m - is.length) 0 = tob at *
  have hws := hdif (allG s b m) tob
  have hsh := wrF_shape (difs b (allG s b m) tob m) s hd (hshape _ _)
  rw [hw, List.nil_append, hmap0] at hsh
  have T1 : ∀ s2 : Dk, s2.sure = s.sure → s2.waits = ((dif (allG s b m) tob m).map fun k => (b + 1 + k, padL (pgO tob k))) → ∃ nn : Nat → Nat, (∀ k, nn k ≤ 64) ∧ (∀ k, k < m → (crashed s2 C).sure.getD (b + 1 + k) [] = mix (padL (pgO tob k)) (s.sure.getD (b + 1 + k) []) (nn k)) ∧
      (∀ i, (i < b + 1 ∨ b + m < i) → (crashed s2 C).sure.getD i [] = s.sure.getD i []) := by
    intro s2 e1 e2
    unfold crashed
    rw [e1, e2]
    exact tornL_mix C b m _ hN _ 0 s.sure hws hl hp
  unfold layD
  rw [htob]
  rcases hsh with ⟨q1, q2, q3, q4⟩ | ⟨q1, q2, q3, j, hj, q4⟩
  · rw [if_neg (by rw [q1]; decide)]
    split
    · unfold flushS
      rw [if_neg (by rw [q2]; decide)]
      split
      · exact T1 _ ((spent_sure _).trans q3) ((spent_waits _).trans q4)
      · obtain ⟨nn, h1, h2, h3⟩ := laid_mix b m _ hN (dif (allG s b m) tob m) s.sure hws hl hp
        refine ⟨nn, h1, fun k hk => ?_, fun i hi => ?_⟩
        · have := h2 k hk
          rw [← q3, ← q4] at this
          rw [← q3]
          exact this
        · have := h3 i hi
          rw [← q3, ← q4] at this
          rw [← q3]
          exact this
    · exact T1 _ q3 q4
  · rw [if_pos (by rw [q1]; decide)]
    rw [List.nil_append, hmap] at q4
    unfold crashed
    rw [q3, q4]
    exact tornL_mix C b m _ hN _ 0 s.sure (fun k hk => hws k (List.mem_of_mem_take hk)) hl hp
/-- a disk behind a crash: the half h counts, D is its space -/
structure Cl (h : Nat) (s : Dk) (D : By) : Prop where
  ok : s.Ok
  len : s.sure.length = 23
  waits : s.waits = []
  down : s.down = false
  cut : s.cut = 0
  some_ : max (genF (s.sure.getD 1 [])) (genF (s.sure.getD 11 [])) ≠ 0
  half : h = if genF (s.sure.getD 1 []) < genF (s.sure.getD 11 []) then 1 else 0
  all : allG s (1 + h * 10) 9 = D
theorem Cl.h1 {h : Nat} {s : Dk} {D : By} (c : Cl h s D) : h ≤ 1 := by rw [c.half]; split <;> omega
/-- what Open does there, wherever it is cut off -/
theorem Cl.opens {h : Nat} {s : Dk} {D : By} (c : Cl h s D) (n : Int) : openR (cutS s n) 1 10 = openH (cutS s n) 1 10 h (max (genF (s.sure.getD 1 [])) (genF (s.sure.getD 11 []))) ∧ (cutS s n).Ok ∧ (cutS s n).down = false ∧ (cutS s n).waits = [] ∧ (cutS s n).sure = s.sure ∧ allG (cutS s n) (1 + h * 10) 9 = D := by
  have e1 : (cutS s n).sure = s.sure := cutS_len s n
  have e2 : (cutS s n).waits = [] := by rw [← c.waits]; unfold cutS; split <;> rfl
  have e3 : (cutS s n).down = false := by rw [← c.down]; unfold cutS; split <;> rfl
  refine ⟨?_, cutS_ok c.ok n, e3, e2, e1, ?_⟩
  · unfold openR
    rw [readS_sure e2, readS_sure e2, e1, if_neg c.some_, ← c.half]
  · rw [← c.all]
    unfold allG
    congr 1
    funext i
    rw [readS_sure e2, readS_sure c.waits, e1]
/-- OPENING BEHIND A CRASH, cut off wherever, and crashed again, tells the same -/
theorem Cl.again {h : Nat} {s : Dk} {D : By} (c : Cl h s D) (n : Int) (C : Cr) : ∃ D', Cl h (crashed (openR (cutS s n) 1 10).2.1 C) D' ∧ readF D' = readF D := by
  obtain ⟨e1, e2, e3, e4, e5, e6⟩ := c.opens n
  have hh := c.h1
  have hlen : (cutS s n).sure.length = 23 := by rw [e5]; exact c.len
  have hl : 1 + h * 10 + 9 < (cutS s n).sure.length := by omega
  obtain ⟨nn, h1, h2, h3⟩ := layD_torn e2 e3 e4 hl (D.take (readF D).2) false C
  rw [e1]
  unfold openH
  rw [e6]
  simp only
  generalize hs2 : (layD (cutS s n) (1 + h * 10) (10 - 1) (D.take (readF D).2) false).2 = s2 at *
  have hok : s2.Ok := by rw [← hs2]; exact layD_ok e2 _ _ _ _
  have hl2 : s2.sure.length = 23 := by rw [← hs2, layD_len]; exact hlen
  have hDl : D.length = 576 := by rw [← e6]; exact allG_len e2 9 hl
  have hcok := crashed_ok hok C
  have hcl : (crashed s2 C).sure.length = 23 := by rw [crashed_len]; exact hl2
  have g1 : (crashed s2 C).sure.getD 1 [] = s.sure.getD 1 [] := by rw [h3 1 (by omega), e5]
  have g11 : (crashed s2 C).sure.getD 11 [] = s.sure.getD 11 [] := by rw [h3 11 (by omega), e5]
  refine ⟨allG (crashed s2 C) (1 + h * 10) 9, ⟨hcok, hcl, rfl, rfl, rfl, by rw [g1, g11]; exact c.some_, by rw [g1, g11]; exact c.half, rfl⟩, ?_⟩
  have hal : (allG (crashed s2 C) (1 + h * 10) 9).length = 576 := allG_len hcok 9 (by omega)
  have hle : (readF D).2 ≤ D.length := by unfold readF; exact readG_at D _ _ (Nat.zero_le _)
  refine readF_wiped (n := nn) ⟨by omega, fun p => ?_⟩
  by_cases hp : p < 576
  · rw [allG_get hcok rfl 9 p (by omega) hp, h2 (p / 64) (by omega), mix_get (padL_len (pgO_le _ _)) (h1 _)]
    have hD : D.getD p 0 = ((cutS s n).sure.getD (1 + h * 10 + 1 + p / 64) []).getD (p % 64) 0 := by
      rw [← e6]
      exact allG_get e2 e4 9 p hl hp
    rw [padL_get, pgO_get _ _ (by omega), show 64 * (p / 64) + p % 64 = p by omega, ← hD]
    have ht : (D.take (readF D).2 ++ List.replicate (64 * 9 - (D.take (readF D).2).length) 0).getD p 0 = if p < (readF D).2 then D.getD p 0 else 0 := by
      have htl : (D.take (readF D).2).length = (readF D).2 := by rw [List.length_take]; omega
      split
      · rename_i h5
        rw [getD_app_left (by omega), List.getD_eq_getElem?_getD, List.getElem?_take_of_lt h5, ← List.getD_eq_getElem?_getD]
      · rw [getD_app_right (by omega)]
        exact getD_zeros _ _
    rw [ht]
    by_cases q1 : p % 64 < nn (p / 64)
    · rw [if_pos q1]
      by_cases q2 : p < (readF D).2
      · rw [if_pos q2, if_neg (by omega)]
      · rw [if_neg q2, if_pos ⟨by omega, q1⟩]
    · rw [if_neg q1, if_neg (by omega)]
  · rw [List.getD_eq_getElem?_getD, List.getElem?_eq_none (by omega), List.getD_eq_getElem?_getD, List.getElem?_eq_none (by omega)]
    simp
/-- the last opening tells what the space tells -/
theorem Cl.last {h : Nat} {s : Dk} {D : By} (c : Cl h s D) : (openR s 1 10).1 = 0 ∧ (openR s 1 10).2.2.recs = (readF D).1 := by
  have hh := c.h1
  have e : openR s 1 10 = openH s 1 10 h (max (genF (s.sure.getD 1 [])) (genF (s.sure.getD 11 []))) := by
    unfold openR
    rw [readS_sure c.waits, readS_sure c.waits, if_neg c.some_, ← c.half]
  rw [e]
  unfold openH
  simp only [show 10 - 1 = 9 from rfl, c.all]
  refine ⟨?_, trivial⟩
  have hup : s.Up := ⟨c.down, c.cut⟩
  have hin : ∀ tob : By, ∀ x ∈ difs (1 + h * 10) (allG s (1 + h * 10) 9) tob 9, x.1 < s.sure.length ∧ x.2.length ≤ 64 := fun tob x hx => by
    unfold difs at hx
    obtain ⟨k, hk, rfl⟩ := List.mem_map.1 hx
    unfold dif at hk
    have := List.mem_range.1 (List.mem_filter.1 hk).1
    have := c.len
    exact ⟨by simp only; omega, pgO_le _ _⟩
  unfold layD
  obtain ⟨w1, w2⟩ := wrF_up _ s hup (hin (D.take (readF D).2 ++ List.replicate (64 * 9 - (D.take (readF D).2).length) 0))
  rw [if_neg (by rw [w1]; decide)]
  split
  · unfold flushE
    rw [if_neg (by rw [w2.1]; decide), spent_zero w2.2, if_neg (by rw [w2.1]; decide)]
  · rfl
end Go.Proofs.Ytklodimokhndoaa
namespace Go.Proofs.Ytklodimokhndoaa
theorem getD_none {l : By} {p : Nat} (h : l.length ≤ p) : l.getD p 0 = 0 := by rw [List.getD_eq_getElem?_getD, List.getElem?_eq_none h]; rfl
/-- BEHIND A CRASH a space tells a beginning of what was appended, with all that was forced -/
theorem crash_reads {n : Nat} {x : Rs} {S0 : List By} (h : RunP 1 9 S0 n x) (hl : x.s.sure.length = 23) (g1 : genF (S0.getD 1 []) = 1) (g11 : genF (S0.getD 11 []) = 0) (C : Cr) :
    ∃ D, Cl 0 (crashed x.s C) D ∧ (readF D).1 <+: x.all ∧ x.sure ≤ (readF D).1.length := by
  obtain ⟨T, rs, L, vs, hf⟩ := h.fin
  obtain ⟨c, h1, h2, h3, h4⟩ := tornL_space C 1 9 T vs 0 x.s.sure L hf.sp.ins hf.sp.len hf.sp.pages hf.sp.chain
  rw [← hf.sp.waits] at h1 h4
  have hsure : (crashed x.s C).sure = tornL C 0 x.s.waits x.s.sure := rfl
  rw [← hsure] at h1 h4
  have hcok := crashed_ok h.good.gd.ok C
  have hcl : (crashed x.s C).sure.length = 23 := by rw [crashed_len]; exact hl
  have e1 : genF ((crashed x.s C).sure.getD 1 []) = 1 := by rw [h4 1 (by omega), hf.head 1 (by omega)]; exact g1
  have e11 : genF ((crashed x.s C).sure.getD 11 []) = 0 := by rw [h4 11 (by omega), hf.head 11 (by omega)]; exact g11
  have hal : (allG (crashed x.s C) 1 9).length = 576 := allG_len hcok 9 (by omega)
  have hD : ∀ p, (allG (crashed x.s C) 1 9).getD p 0 = if p % 64 < c (p / 64) then T.getD p 0 else 0 := by
    intro p
    by_cases hp : p < 576
    · rw [allG_get hcok rfl 9 p (by omega) hp, h1 (p / 64) (by omega), pgC_get _ _ _ (by omega), show 64 * (p / 64) + p % 64 = p by omega]
    · have := hf.len
      rw [getD_none (by omega), getD_none (l := T) (by omega)]
      simp
  refine ⟨allG (crashed x.s C) 1 9, ⟨hcok, hcl, rfl, rfl, rfl, by rw [e1, e11]; decide, by rw [e1, e11]; rfl, rfl⟩, ?_⟩
  generalize allG (crashed x.s C) 1 9 = D at *
  have hTl := hf.len
  have hZ : ∀ p, (T ++ List.replicate (576 - T.length) 0).getD p 0 = T.getD p 0 := by
    intro p
    by_cases hp : p < T.length
    · exact getD_app_left hp
    · rw [getD_app_right (by omega), getD_zeros, getD_none (by omega)]
  have htorn : Torn c D (T ++ List.replicate (576 - T.length) 0) := ⟨by simp; omega, fun p => by rw [hZ]; exact hD p⟩
  obtain ⟨p1, p2⟩ := readF_torn htorn
  have hread : readF (T ++ List.replicate (576 - T.length) 0) = (rs, T.length) := by
    have := readF_laid rs (576 - T.length) hf.ok
    rw [← hf.space] at this
    exact this
  rw [hread] at p1 p2
  simp only at p1 p2
  have hsure2 := h.good.sure
  have hrest : ∃ q, rs = x.all.take x.sure ++ q := by
    rcases hf.all with e | ⟨r, e, -⟩
    · exact ⟨x.all.drop x.sure, by rw [e, List.take_append_drop]⟩
    · exact ⟨x.all.drop x.sure ++ [r], by rw [e, ← List.append_assoc, List.take_append_drop]⟩
  constructor
  · rcases hf.all with e | ⟨r, e, hT1, hL, hV⟩
    · rw [← e]; exact p1
    · rw [e] at p1
      rcases List.prefix_concat_iff.1 p1 with h5 | h5
      · exfalso
        have h6 := p2 (by rw [h5, e])
        have h7 := readF_mark (b := D) (by rw [h5]; simp)
        rw [h6] at h7
        simp only at h7
        rw [hD, if_neg (by have := h3 _ _ hL hV; omega)] at h7
        exact absurd h7 (by decide)
      · exact h5
  · obtain ⟨q, hq⟩ := hrest
    have hok : ∀ r ∈ x.all.take x.sure, RecOk r := fun r hr => hf.ok r (by rw [hq]; exact List.mem_append.2 (.inl hr))
    have hTF : ∃ m, T = layA [] (x.all.take x.sure) ++ m := by
      rw [hf.space, hq]
      unfold layA
      rw [List.foldl_append]
      exact layA_pre q _
    obtain ⟨m, hm⟩ := hTF
    have hE : (layA [] (x.all.take x.sure)).length ≤ T.length := by rw [hm]; simp
    have hDE : D.take (layA [] (x.all.take x.sure)).length = layA [] (x.all.take x.sure) := by
      refine page_ext (by rw [List.length_take]; omega) fun i hi => ?_
      rw [List.length_take] at hi
      rw [List.getD_eq_getElem?_getD, List.getElem?_take_of_lt (by omega), ← List.getD_eq_getElem?_getD, hD]
      have hTi : T.getD i 0 = (layA [] (x.all.take x.sure)).getD i 0 := by
        conv => lhs; rw [hm]
        exact getD_app_left (by omega)
      rcases hf.forced i (by omega) with h5 | h5
      · have := h2 (i / 64)
        rw [if_pos (by omega)]
        exact hTi
      · rw [← hTi, h5]
        simp
    have hb := readF_begins (x.all.take x.sure) (D.drop (layA [] (x.all.take x.sure)).length) hok
    have hDD : layA [] (x.all.take x.sure) ++ D.drop (layA [] (x.all.take x.sure)).length = D := by
      conv => lhs; lhs; rw [← hDE]
      exact List.take_append_drop _ _
    rw [hDD] at hb
    have := hb.length_le
    rw [List.length_take] at this
    omega
/-- the beginning of a run -/
theorem lvA_pages : ∀ k, k < 9 → lvA.2.1.sure.getD (1 + 1 + k) [] = pgC [] 0 k := by decide +kernel
theorem lvA_wait : lvA.2.1.waits = [] := by decide +kernel
theorem lvA_spc : lvA.2.2.space = [] := by decide +kernel
theorem lvA_at : lvA.2.2.at_ lvA.2.2.half = 1 ∧ lvA.2.2.size - 1 = 9 := by decide +kernel
theorem lvA_heads : genF (lvA.2.1.sure.getD 1 []) = 1 ∧ genF (lvA.2.1.sure.getD 11 []) = 0 := by decide +kernel
theorem lvA_slen : lvA.2.1.sure.length = 23 := by decide +kernel
theorem run_new {s : Dk} {g : Lg} {n : Nat} (hg : Rs.Good n ⟨s, g, [], 0⟩) (h1 : ∀ k, k < 9 → s.sure.getD (1 + 1 + k) [] = pgC [] 0 k) (h2 : s.waits = []) (h3 : g.space = []) (h4 : g.at_ g.half = 1 ∧ g.size - 1 = 9) (h5 : s.sure.length = 23) (h6 : s.down = false) : RunP 1 9 s.sure n ⟨s, g, [], 0⟩ :=
  ⟨hg, h4.1, h4.2, .inl ⟨fun _ => 0, [], h6, ⟨by simp only; omega, by simp, by simp only [h3]; exact h1, h2, trivial, fun _ _ => Nat.zero_le _, by simp⟩, fun k i _ _ => .inr (by simp only [h3]; rfl), h3, by simp, fun p hp => absurd hp (by simp [layA]), fun i _ => rfl⟩⟩
theorem rs0_run : RunP 1 9 lvA.2.1.sure 5000 rs0 := by
  have h := rs0_good
  unfold rs0 at h ⊢
  exact run_new h lvA_pages lvA_wait lvA_spc lvA_at lvA_slen lvA_up.1
theorem stepR_len (x : Rs) (d : WDe) : (stepR x d).s.sure.length = x.s.sure.length := by
  have happ : ∀ (s : Dk) (g : Lg) (r : By), (appendR s g r).2.1.sure.length = s.sure.length := by
    intro s g r
    unfold appendR
    split
    · rfl
    · split
      · rfl
      · split
        · rfl
        · split
          · exact wrF_len _ _
          · exact wrF_len _ _
  unfold stepR
  split
  · exact happ _ _ _
  · split
    · simp only
      unfold forceS
      split
      · rfl
      · exact flushS_len _
    · split
      · simp only
        rw [cutS_len]
      · rfl
end Go.Proofs.Ytklodimokhndoaa
