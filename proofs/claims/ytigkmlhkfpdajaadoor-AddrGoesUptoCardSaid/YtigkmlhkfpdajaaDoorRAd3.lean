/- Plain laws for the walk of the reference's Parse. Conditions: the hypotheses of each theorem. -/
import Derived.Test.YtigkmlhkfpdajaaDoorRAd2
namespace Go.Proofs.YtigkmlhkfpdajaaDoor
open Go.RowKit
/-- the first i letters are one byte each -/
structure Asc (l : List UInt8) (i : Nat) : Prop where
  tk : (letL l).take i = asc (l.take i)
  lt : ∀ b ∈ l.take i, b.toNat < 128
  le : i ≤ l.length
theorem Asc.zero (l : List UInt8) : Asc l 0 := ⟨rfl, by simp, by omega⟩
theorem Asc.drop {l : List UInt8} {i : Nat} (h : Asc l i) : letL (l.drop i) = (letL l).drop i := by
  have := drop_let ((letL l).take i) l ((letL l).drop i) (List.take_append_drop _ _).symm
  rw [h.tk, asc_bytes, List.length_take, Nat.min_eq_left h.le] at this
  exact this
theorem Asc.num {l : List UInt8} {i : Nat} (h : Asc l i) : (letL (l.take i)).length = i := by
  rw [letL_all _ h.lt, asc_length, List.length_take, Nat.min_eq_left h.le]
theorem Asc.len {l : List UInt8} {i : Nat} (h : Asc l i) : i ≤ (letL l).length := by
  have := congrArg List.length h.tk
  rw [asc_length, List.length_take, List.length_take] at this
  have := h.le
  omega
theorem Asc.here {l : List UInt8} {i c : Nat} {x : UInt8} (h : Asc l i) (hd : (letL l)[i]? = some (c, [x])) : l[i]? = some x := by
  have e : ((letL l).drop i)[0]? = some (c, [x]) := by rw [List.getElem?_drop]; exact hd
  rw [← h.drop] at e
  have hne : l.drop i ≠ [] := by intro e0; rw [e0, letL_nil] at e; cases e
  rw [letL_step _ hne] at e
  simp only [List.getElem?_cons_zero, Option.some.injEq, Prod.mk.injEq] at e
  have hp := decL_pos _ hne
  have : (l.drop i)[0]? = some x := by
    have h2 := congrArg (fun q : List UInt8 => q[0]?) e.2
    simp only [List.getElem?_cons_zero, List.getElem?_take] at h2
    rw [if_pos (by omega)] at h2
    exact h2
  rw [List.getElem?_drop] at this
  exact this
theorem Asc.step {l : List UInt8} {i c : Nat} {x : UInt8} (h : Asc l i) (hd : (letL l)[i]? = some (c, [x])) (hx : x.toNat < 128) : Asc l (i + 1) ∧ l.take (i + 1) = l.take i ++ [x] := by
  have hl := h.here hd
  obtain ⟨hi, _⟩ := List.getElem?_eq_some_iff.1 hl
  have hok := letL_ok _ l (Nat.le_refl _) (c, [x]) (List.mem_of_getElem? hd)
  have hc : c = x.toNat := by rcases let_one hok with h | h; exact h.2; omega
  have ht : l.take (i + 1) = l.take i ++ [x] := by rw [List.take_add_one, hl]; rfl
  refine ⟨⟨?_, ?_, by omega⟩, ht⟩
  · rw [List.take_add_one, hd, h.tk, ht, hc]
    simp [asc]
  · rw [ht]
    intro b hb
    rw [List.mem_append, List.mem_singleton] at hb
    rcases hb with hb | rfl
    · exact h.lt b hb
    · exact hx
theorem head_34 (l : List UInt8) : l[0]? = some 34 ↔ ∃ b, (letL l)[0]? = some (34, b) := by
  constructor
  · intro h
    cases l with
    | nil => cases h
    | cons x r =>
      have : x = 34 := by simpa using h
      subst this
      exact ⟨[34], by rw [letL_asc 34 _ (by decide)]; rfl⟩
  · rintro ⟨b, h⟩
    have hb := letOk_asc (letL_ok _ l (Nat.le_refl _) _ (List.mem_of_getElem? h)) (by simp)
    simp only [Prod.mk.injEq] at hb
    rw [hb.2] at h
    exact (Asc.zero l).here h
/-! ## between signs -/
structure QAt (l : List UInt8) (i : Nat) (said : List UInt8) : Prop where
  a : Asc l i
  run : longT l = longF ((letL l).drop i) false i said i
  one : 1 ≤ i
  ln : said.length ≤ i
theorem QAt.first {l b : List UInt8} (h : (letL l)[0]? = some (34, b)) : QAt l 1 [] := by
  have hb := letOk_asc (letL_ok _ l (Nat.le_refl _) _ (List.mem_of_getElem? h)) (by simp)
  simp only [Prod.mk.injEq] at hb
  rw [hb.2] at h
  have ha := ((Asc.zero l).step h (by decide)).1
  refine ⟨ha, ?_, by omega, by simp⟩
  have hl : l[0]? = some 34 := (Asc.zero l).here h
  cases l with
  | nil => cases hl
  | cons x r =>
    have : x = 34 := by simpa using hl
    subst this
    rw [long_first, letL_asc 34 _ (by decide)]
    rfl
section
variable {l said : List UInt8} {i c : Nat} {b : List UInt8}
theorem drop_here {ds : List (Nat × List UInt8)} {i : Nat} {d : Nat × List UInt8} (h : ds[i]? = some d) : ds.drop i = d :: ds.drop (i + 1) := by
  obtain ⟨hi, e⟩ := List.getElem?_eq_some_iff.1 h
  rw [List.drop_eq_getElem_cons hi, e]
theorem QAt.short (h : QAt l i said) (hi : ¬ i < (letL l).length) : longT l = ([], 0, i, 3) := by
  rw [h.run, List.drop_eq_nil_of_le (by omega)]
  rfl
theorem QAt.bad (h : QAt l i said) (hd : (letL l)[i]? = some (c, b)) (hb : c < 32 ∨ 126 < c) : longT l = ([], 0, i, 4) := by
  rw [h.run, drop_here hd]
  unfold longF
  rw [if_pos (.inl hb)]
theorem QAt.end_ (h : QAt l i said) (hd : (letL l)[i]? = some (34, b)) : longT l = (said, i + 1, 0, 0) := by
  rw [h.run, drop_here hd]
  have := h.one
  unfold longF
  rw [if_neg (by simp), if_neg (by omega), if_neg (by simp), if_pos ⟨rfl, rfl⟩]
theorem QAt.esc (h : QAt l i said) (hd : (letL l)[i]? = some (92, b)) (hb : b.length = 1) : longT l = longF ((letL l).drop (i + 1)) true (i + 1) said (i + 1) := by
  rw [h.run, drop_here hd]
  have := h.one
  conv => lhs; unfold longF
  rw [if_neg (by simp), if_neg (by omega), if_pos ⟨rfl, rfl⟩, hb]
theorem QAt.escShort (h : QAt l i said) (hd : (letL l)[i]? = some (92, b)) (hb : b.length = 1) (hi : ¬ i + 1 < (letL l).length) : longT l = ([], 0, i + 1, 3) := by
  rw [h.esc hd hb, List.drop_eq_nil_of_le (by omega)]
  rfl
theorem QAt.escBad {c' : Nat} {b' : List UInt8} (h : QAt l i said) (hd : (letL l)[i]? = some (92, b)) (hb : b.length = 1) (hd' : (letL l)[i + 1]? = some (c', b')) (h1 : c' ≠ 34) (h2 : c' ≠ 92) : longT l = ([], 0, i + 1, 4) := by
  rw [h.esc hd hb, drop_here hd']
  unfold longF
  rw [if_pos (.inr ⟨rfl, h1, h2⟩)]
theorem QAt.escOn {c' : Nat} {b' : List UInt8} (h : QAt l i said) (hd : (letL l)[i]? = some (92, b)) (hd' : (letL l)[i + 1]? = some (c', b')) (h1 : c' = 34 ∨ c' = 92) : QAt l (i + 2) (said ++ b') := by
  have hb := letOk_asc (letL_ok _ l (Nat.le_refl _) _ (List.mem_of_getElem? hd)) (by simp)
  have hb' := letOk_asc (letL_ok _ l (Nat.le_refl _) _ (List.mem_of_getElem? hd')) (by simp only; omega)
  simp only [Prod.mk.injEq] at hb hb'
  have hn : (UInt8.ofNat c').toNat < 128 := by simp; omega
  rw [hb.2] at hd
  rw [hb'.2] at hd'
  have a1 := (h.a.step hd (by decide)).1
  have a2 := (a1.step hd' hn).1
  refine ⟨a2, ?_, by omega, ?_⟩
  · rw [h.esc hd rfl, drop_here hd', hb'.2]
    conv => lhs; unfold longF
    rw [if_neg (by simp; omega), if_neg (by omega), if_neg (by simp), if_neg (by simp)]
    rfl
  · have := h.ln
    rw [hb'.2]
    simp
    omega
theorem QAt.on (h : QAt l i said) (hd : (letL l)[i]? = some (c, b)) (hb : ¬ (c < 32 ∨ 126 < c)) (h1 : c ≠ 34) (h2 : c ≠ 92) : QAt l (i + 1) (said ++ b) := by
  have hb' := letOk_asc (letL_ok _ l (Nat.le_refl _) _ (List.mem_of_getElem? hd)) (by simp only; omega)
  simp only [Prod.mk.injEq] at hb'
  have hn : (UInt8.ofNat c).toNat < 128 := by simp; omega
  rw [hb'.2] at hd ⊢
  have a1 := (h.a.step hd hn).1
  have := h.one
  refine ⟨a1, ?_, by omega, ?_⟩
  · rw [h.run, drop_here hd]
    conv => lhs; unfold longF
    rw [if_neg (by simp; omega), if_neg (by omega), if_neg (by simp [h2]), if_neg (by simp [h1])]
    rfl
  · have := h.ln
    simp
    omega
end
/-! ## without signs -/
structure BAt (l : List UInt8) (i z : Nat) : Prop where
  a : Asc l i
  run : runF (letL l) 0 0 0 none 0 = runF ((letL l).drop i) z i i none i
  hz : z ≤ 2
theorem BAt.zero (l : List UInt8) : BAt l 0 0 := ⟨Asc.zero l, rfl, by omega⟩
section
variable {l : List UInt8} {i z c : Nat} {b : List UInt8}
theorem rest0 {l : List UInt8} (h34 : ¬ l[0]? = some 34) : parseT l = restT l [] 0 0 0 := by unfold parseT; rw [if_neg h34]
theorem BAt.short (h : BAt l i z) (h34 : ¬ l[0]? = some 34) (hi : ¬ i < (letL l).length) : parseT l = ([], [], i, 3) := by
  rw [rest0 h34]
  unfold restT
  rw [List.drop_zero, h.run, List.drop_eq_nil_of_le (by omega)]
  have := h.hz
  simp only [runF]
  rw [if_pos (by omega)]
theorem BAt.bad (h : BAt l i z) (h34 : ¬ l[0]? = some 34) (hd : (letL l)[i]? = some (c, b)) (hf : (nextS z c 0).2 = false) : parseT l = ([], [], i, 4) := by
  rw [rest0 h34]
  unfold restT
  rw [List.drop_zero, h.run, drop_here hd]
  unfold runF
  rw [nextS_n c i (by have := h.hz; omega), if_pos hf]
theorem BAt.on (h : BAt l i z) (hd : (letL l)[i]? = some (c, b)) (ht : (nextS z c 0).2 = true) (h6 : (nextS z c 0).1 ≠ 6) (hc : c < 128) : BAt l (i + 1) (nextS z c 0).1 ∧ l.take (i + 1) = l.take i ++ b := by
  have hb' := letOk_asc (letL_ok _ l (Nat.le_refl _) _ (List.mem_of_getElem? hd)) hc
  simp only [Prod.mk.injEq] at hb'
  have hn : (UInt8.ofNat c).toNat < 128 := by simp; omega
  rw [hb'.2] at hd ⊢
  obtain ⟨a1, a2⟩ := h.a.step hd hn
  refine ⟨⟨a1, ?_, nextS_2 c h.hz h6⟩, a2⟩
  rw [h.run, drop_here hd]
  conv => lhs; unfold runF
  rw [nextS_n c i (by have := h.hz; omega), if_neg (by rw [ht]; decide), if_neg h6, if_neg (fun h => h6 h.1)]
  rfl
/-- behind the sign @ at place i: what is said ahead of it, and the rest -/
def joinT (l said : List UInt8) (i : Nat) : List UInt8 × List UInt8 × Nat × Nat :=
  match runF ((letL l).drop (i + 1)) 6 0 (i + 1) (some i) (i + 1) with
  | .inl pl => ([], [], pl, 4)
  | .inr (s, pl, _) => if s ≠ 4 then ([], [], pl, 3) else if 64 < said.length ∨ 255 < (l.drop (i + 1)).length then ([], [], 0, 6) else (said, lowL (l.drop (i + 1)), 0, 0)
theorem BAt.join (h : BAt l i 1) (h34 : ¬ l[0]? = some 34) (hd : (letL l)[i]? = some (64, b)) : parseT l = joinT l (l.take i) i ∧ Asc l (i + 1) := by
  have hb' := letOk_asc (letL_ok _ l (Nat.le_refl _) _ (List.mem_of_getElem? hd)) (by simp)
  simp only [Prod.mk.injEq] at hb'
  rw [hb'.2] at hd
  refine ⟨?_, (h.a.step hd (by decide)).1⟩
  rw [rest0 h34]
  unfold restT joinT
  rw [List.drop_zero, h.run, drop_here hd]
  conv => lhs; unfold runF
  rw [if_neg (by simp [nextS]), if_pos (by simp [nextS]), if_pos (by simp [nextS]), show (nextS 1 64 i).1 = 6 by simp [nextS]]
  rw [show i + [UInt8.ofNat 64].length = i + 1 from rfl]
  cases hr : runF ((letL l).drop (i + 1)) 6 0 (i + 1) (some i) (i + 1) with
  | inl pl => rfl
  | inr x =>
    obtain ⟨s, pl, a⟩ := x
    have := ((runF_le _ _ _ _ _ _).2 _ _ _ hr).2
    subst this
    simp [lowL_length]
end
section
variable {l said : List UInt8} {i c : Nat} {b : List UInt8}
theorem quoted_err {p e : Nat} (h34 : l[0]? = some 34) (h : longT l = ([], 0, p, e)) (he : e ≠ 0) : parseT l = ([], [], p, e) := by
  unfold parseT
  rw [if_pos h34, h]
  simp only
  rw [if_pos he]
theorem quoted_rest {k : Nat} (h34 : l[0]? = some 34) (h : longT l = (said, k, 0, 0)) (ha : Asc l k) : parseT l = restT l said 3 k k := by
  unfold parseT
  rw [if_pos h34, h]
  simp only
  rw [if_neg (by simp), ha.num]
theorem signed_short {k : Nat} (ha : Asc l k) (hk : ¬ k < (letL l).length) : restT l said 3 k k = ([], [], k, 3) := by
  unfold restT
  rw [ha.drop, List.drop_eq_nil_of_le (by omega)]
  simp [runF]
theorem signed_bad {k : Nat} (ha : Asc l k) (hd : (letL l)[k]? = some (c, b)) (hc : c ≠ 64) : restT l said 3 k k = ([], [], k, 4) := by
  unfold restT
  rw [ha.drop, drop_here hd]
  unfold runF
  rw [if_pos (by simp [nextS, hc])]
theorem signed_join {k : Nat} (h0 : k ≠ 0) (ha : Asc l k) (hd : (letL l)[k]? = some (64, b)) : restT l said 3 k k = joinT l said k ∧ Asc l (k + 1) := by
  have hb' := letOk_asc (letL_ok _ l (Nat.le_refl _) _ (List.mem_of_getElem? hd)) (by simp)
  simp only [Prod.mk.injEq] at hb'
  rw [hb'.2] at hd
  refine ⟨?_, (ha.step hd (by decide)).1⟩
  unfold restT joinT
  rw [ha.drop, drop_here hd]
  conv => lhs; unfold runF
  rw [if_neg (by simp [nextS]), if_pos (by simp [nextS]), if_pos (by simp [nextS]), show (nextS 3 64 0).1 = 6 by simp [nextS]]
  rw [show k + [UInt8.ofNat 64].length = k + 1 from rfl]
  cases hr : runF ((letL l).drop (k + 1)) 6 0 (k + 1) (some k) (k + 1) with
  | inl pl => rfl
  | inr x =>
    obtain ⟨s, pl, a⟩ := x
    have := ((runF_le _ _ _ _ _ _).2 _ _ _ hr).2
    subst this
    simp [lowL_length, h0]
end
/-- the three ways of a domain -/
theorem dom_cases (l said : List UInt8) (i : Nat) (hi : i + 1 ≤ (letL l).length) :
    (domV (letL l) (i + 1) = -1 ∧ joinT l said i = ([], [], (letL l).length, 3)) ∨
    (∃ q : Nat, domV (letL l) (i + 1) = q ∧ q < (letL l).length ∧ i + 1 < (letL l).length ∧ joinT l said i = ([], [], q, 4)) ∨
    (domV (letL l) (i + 1) = ((letL l).length : Nat) ∧ i + 1 < (letL l).length ∧ joinT l said i = if 64 < said.length ∨ 255 < (l.drop (i + 1)).length then ([], [], 0, 6) else (said, lowL (l.drop (i + 1)), 0, 0)) := by
  have hf := runF_free ((letL l).drop (i + 1)) 6 0 (i + 1) i (i + 1) 0 0
  have hle := runF_le ((letL l).drop (i + 1)) 6 0 (i + 1) i (i + 1)
  rw [List.length_drop] at hle
  have hnil : ¬ i + 1 < (letL l).length → runF ((letL l).drop (i + 1)) 6 0 (i + 1) (some i) (i + 1) = .inr (6, i + 1, some i) := by
    intro h
    rw [List.drop_eq_nil_of_le (by omega)]
    rfl
  unfold domV joinT
  cases hr : runF ((letL l).drop (i + 1)) 6 0 (i + 1) (some i) (i + 1) with
  | inl q =>
    have h1 := hle.1 q hr
    have h2 := (hf.1 q).1 hr
    refine .inr (.inl ⟨q, by rw [h2], by omega, ?_, rfl⟩)
    rcases Nat.lt_or_ge (i + 1) (letL l).length with h | h
    · exact h
    · rw [hnil (by omega)] at hr; cases hr
  | inr x =>
    obtain ⟨s, q, a⟩ := x
    obtain ⟨h1, h2⟩ := hle.2 s q a hr
    subst h2
    have h3 := (hf.2 s q).1 hr
    have hq : q = (letL l).length := by omega
    by_cases h4 : s = 4
    · refine .inr (.inr ⟨by rw [h3]; simp only; rw [if_pos h4, hq], ?_, by simp only; rw [if_neg (by omega)]⟩)
      rcases Nat.lt_or_ge (i + 1) (letL l).length with h | h
      · exact h
      · rw [hnil (by omega)] at hr
        injection hr with hr
        injection hr with hr
        omega
    · exact .inl ⟨by rw [h3]; simp only; rw [if_neg h4], by simp only; rw [if_pos h4, hq]⟩
end Go.Proofs.YtigkmlhkfpdajaaDoor
