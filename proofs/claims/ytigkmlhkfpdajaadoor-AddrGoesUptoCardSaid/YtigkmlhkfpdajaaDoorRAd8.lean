/- Plain laws: where a text is no address, what stands ahead of the letter that is told goes on to one. Conditions: the hypotheses of each theorem. -/
import Derived.Test.YtigkmlhkfpdajaaDoorRAd3
namespace Go.Proofs.YtigkmlhkfpdajaaDoor
open Go.RowKit
def ends : List (List UInt8) := [[], [97], [64, 97], [97, 64, 97], [34, 64, 97], [92, 34, 64, 97], [97, 34, 64, 97]]
def okE (l : List UInt8) : Prop := (parseT l).2.2.2 = 0 ∨ (parseT l).2.2.2 = 6
theorem rest_ok {l said : List UInt8} {s0 fr pl0 : Nat} {z : Nat × Option Nat} (h : runF (letL (l.drop fr)) s0 0 pl0 none fr = .inr (4, z.1, z.2)) : (restT l said s0 fr pl0).2.2.2 = 0 ∨ (restT l said s0 fr pl0).2.2.2 = 6 := by
  unfold restT
  rw [h]
  have hall : ∀ (p : Prop) [Decidable p] (x y : List UInt8), (if p then (([] : List UInt8), ([] : List UInt8), 0, 6) else (x, y, 0, 0)).2.2.2 = 0 ∨ (if p then (([] : List UInt8), ([] : List UInt8), 0, 6) else (x, y, 0, 0)).2.2.2 = 6 := by
    intro p _ x y
    split <;> simp
  simp only
  rw [if_neg (by simp)]
  exact hall _ _ _
/-- a run up to the letter that can't be (or to the end): where it stood -/
theorem runF_stop : ∀ (ds : List (Nat × List UInt8)) (s n pl : Nat) (a : Option Nat) (pos : Nat), s ≤ 6 → (s = 5 → n ≤ 62) → (a = none → s ≤ 3) → (∀ q, runF ds s n pl a pos = .inl q → pl ≤ q ∧ q - pl < ds.length ∧
      ∃ s' n' a' pos', s' ≤ 6 ∧ (s' = 5 → n' ≤ 62) ∧ (a' = none → s' ≤ 3) ∧ (s' = 3 → q = pl ∧ s = 3) ∧ (∀ r, runF (ds.take (q - pl) ++ r) s n pl a pos = runF r s' n' q a' pos')) ∧
    (∀ z q a', runF ds s n pl a pos = .inr (z, q, a') → q = pl + ds.length ∧ ∃ n' pos', z ≤ 6 ∧ (z = 5 → n' ≤ 62) ∧ (a' = none → z ≤ 3) ∧ (z = 3 → ds = [] ∧ s = 3) ∧ (∀ r, runF (ds ++ r) s n pl a pos = runF r z n' q a' pos'))
  | [], s, n, pl, a, pos, hs, hn, ha => by
    refine ⟨fun q h => (by simp [runF] at h), fun z q a' h => ?_⟩
    simp only [runF, Sum.inr.injEq, Prod.mk.injEq] at h
    obtain ⟨rfl, rfl, rfl⟩ := h
    exact ⟨rfl, n, pos, hs, hn, ha, fun h => ⟨rfl, h⟩, fun r => rfl⟩
  | (c, b) :: ds, s, n, pl, a, pos, hs, hn, ha => by
    by_cases h : (nextS s c n).2 = false
    · refine ⟨fun q hq => ?_, fun z q a' hq => ?_⟩
      · unfold runF at hq
        rw [if_pos h] at hq
        simp only [Sum.inl.injEq] at hq
        subst hq
        refine ⟨by omega, by simp, s, n, a, pos, hs, hn, ha, fun h => ⟨rfl, h⟩, fun r => ?_⟩
        rw [Nat.sub_self, List.take_zero]
        rfl
      · unfold runF at hq
        rw [if_pos h] at hq
        cases hq
    · have ht : (nextS s c n).2 = true := by simpa using h
      have h5 : (nextS s c n).1 = 5 → (if (nextS s c n).1 = 6 then 0 else n + 1) ≤ 62 := by
        intro h5
        rw [if_neg (by omega)]
        have : s = 0 ∨ s = 1 ∨ s = 2 ∨ s = 3 ∨ s = 4 ∨ s = 5 ∨ s = 6 := by omega
        unfold nextS at h5 ht
        by_cases h1 : c = 46
        · rcases this with rfl | rfl | rfl | rfl | rfl | rfl | rfl <;> simp [h1] at h5
        · by_cases h2 : c = 64
          · rcases this with rfl | rfl | rfl | rfl | rfl | rfl | rfl <;> simp [h2] at h5
          · by_cases h3 : c = 45
            · rcases this with rfl | rfl | rfl | rfl | rfl | rfl | rfl <;> simp [h3] at h5 ht <;> omega
            · rcases this with rfl | rfl | rfl | rfl | rfl | rfl | rfl <;> simp [h1, h2, h3] at h5
      have h3 : (nextS s c n).1 ≠ 3 := by
        have : s = 0 ∨ s = 1 ∨ s = 2 ∨ s = 3 ∨ s = 4 ∨ s = 5 ∨ s = 6 := by omega
        unfold nextS
        by_cases h1 : c = 46
        · rcases this with rfl | rfl | rfl | rfl | rfl | rfl | rfl <;> simp [h1]
        · by_cases h2 : c = 64
          · rcases this with rfl | rfl | rfl | rfl | rfl | rfl | rfl <;> simp [h2]
          · by_cases h3 : c = 45
            · rcases this with rfl | rfl | rfl | rfl | rfl | rfl | rfl <;> simp [h3]
            · rcases this with rfl | rfl | rfl | rfl | rfl | rfl | rfl <;> simp [h1, h2, h3]
      have ha2 : (if (nextS s c n).1 = 6 ∧ a = none then some pos else a) = none → (nextS s c n).1 ≤ 3 := by
        intro h0
        split at h0
        · cases h0
        · rename_i hne
          exact nextS_le3 (ha h0) (fun h6 => hne ⟨h6, h0⟩)
      obtain ⟨i1, i2⟩ := runF_stop ds (nextS s c n).1 (if (nextS s c n).1 = 6 then 0 else n + 1) (pl + 1) (if (nextS s c n).1 = 6 ∧ a = none then some pos else a) (pos + b.length) (nextS_le hs) h5 ha2
      have hstep : ∀ xs : List (Nat × List UInt8), runF ((c, b) :: xs) s n pl a pos = runF xs (nextS s c n).1 (if (nextS s c n).1 = 6 then 0 else n + 1) (pl + 1) (if (nextS s c n).1 = 6 ∧ a = none then some pos else a) (pos + b.length) := by
        intro xs
        conv => lhs; unfold runF
        rw [if_neg h]
      refine ⟨fun q hq => ?_, fun z q a' hq => ?_⟩
      · rw [hstep] at hq
        obtain ⟨e1, e2, s', n', a', pos', e3, e4, e5, e6, e7⟩ := i1 q hq
        refine ⟨by omega, by simp only [List.length_cons]; omega, s', n', a', pos', e3, e4, e5, fun h => absurd (e6 h).2 h3, fun r => ?_⟩
        rw [show q - pl = (q - (pl + 1)) + 1 by omega, List.take_succ_cons, List.cons_append, hstep]
        exact e7 r
      · rw [hstep] at hq
        obtain ⟨e1, n', pos', e3, e4, e5, e6, e7⟩ := i2 z q a' hq
        refine ⟨by simp only [List.length_cons]; omega, n', pos', e3, e4, e5, fun h => absurd (e6 h).2 h3, fun r => ?_⟩
        rw [List.cons_append, hstep]
        exact e7 r
def endS : Nat ⊕ (Nat × Nat × Option Nat) → Nat
  | .inl _ => 0
  | .inr x => x.1
theorem endS_4 {x : Nat ⊕ (Nat × Nat × Option Nat)} (h : endS x = 4) : ∃ z : Nat × Option Nat, x = .inr (4, z.1, z.2) := by
  cases x with
  | inl q => cases h
  | inr y =>
    obtain ⟨s, q, a⟩ := y
    have : s = 4 := h
    subst this
    exact ⟨(q, a), rfl⟩
/-- from each place there is an end -/
theorem run_end (s n q : Nat) (a : Option Nat) (pos : Nat) (hs : s ≤ 6) (hn : s = 5 → n ≤ 62) (h3 : s ≠ 3) : ∃ e ∈ [([] : List UInt8), [97], [64, 97], [97, 64, 97]], (e = [] → s = 4) ∧ e[0]? ≠ some 34 ∧ ∃ z : Nat × Option Nat, runF (asc e) s n q a pos = .inr (4, z.1, z.2) := by
  have : s = 0 ∨ s = 1 ∨ s = 2 ∨ s = 4 ∨ s = 5 ∨ s = 6 := by omega
  rcases this with rfl | rfl | rfl | rfl | rfl | rfl
  · exact ⟨[97, 64, 97], by simp, by simp, by simp, endS_4 (by simp [asc, runF, nextS, localB, alnumB, endS])⟩
  · exact ⟨[64, 97], by simp, by simp, by simp, endS_4 (by simp [asc, runF, nextS, alnumB, endS])⟩
  · exact ⟨[97, 64, 97], by simp, by simp, by simp, endS_4 (by simp [asc, runF, nextS, localB, alnumB, endS])⟩
  · exact ⟨[], by simp, by simp, by simp, endS_4 (by simp [asc, runF, endS])⟩
  · have := hn rfl
    exact ⟨[97], by simp, by simp, by simp, endS_4 (by simp [asc, runF, nextS, alnumB, endS, show n < 63 by omega])⟩
  · exact ⟨[97], by simp, by simp, by simp, endS_4 (by simp [asc, runF, nextS, alnumB, endS])⟩
/-- the letters of a run are one byte each -/
theorem runF_asc : ∀ (ds r : List (Nat × List UInt8)) (s n pl : Nat) (a : Option Nat) (pos : Nat), s ≤ 6 → (∀ q, runF (ds ++ r) s n pl a pos = .inl q → pl + ds.length ≤ q → ∀ d ∈ ds, d.1 < 128) ∧ (∀ x, runF (ds ++ r) s n pl a pos = .inr x → ∀ d ∈ ds, d.1 < 128)
  | [], _, _, _, _, _, _, _ => by simp
  | (c, b) :: ds, r, s, n, pl, a, pos, hs => by
    rw [List.cons_append]
    unfold runF
    by_cases h : (nextS s c n).2 = false
    · rw [if_pos h]
      refine ⟨fun q hq hle => ?_, fun x hx => by cases hx⟩
      simp only [Sum.inl.injEq] at hq
      simp only [List.length_cons] at hle
      omega
    · rw [if_neg h]
      have ht : (nextS s c n).2 = true := by simpa using h
      have hc : c < 128 := by
        have : s = 0 ∨ s = 1 ∨ s = 2 ∨ s = 3 ∨ s = 4 ∨ s = 5 ∨ s = 6 := by omega
        by_cases hl : localB c = true
        · have := localB_asc hl; omega
        · by_cases h1 : c = 46
          · omega
          · by_cases h2 : c = 64
            · omega
            · by_cases h3 : c = 45
              · omega
              · have hal : alnumB c = false := by
                  cases h : alnumB c with
                  | false => rfl
                  | true => exact absurd (by unfold localB; rw [h]; rfl) hl
                unfold nextS at ht
                rcases this with rfl | rfl | rfl | rfl | rfl | rfl | rfl <;> simp [h1, h2, h3, hl, hal] at ht
      obtain ⟨i1, i2⟩ := runF_asc ds r (nextS s c n).1 (if (nextS s c n).1 = 6 then 0 else n + 1) (pl + 1) (if (nextS s c n).1 = 6 ∧ a = none then some pos else a) (pos + b.length) (nextS_le hs)
      refine ⟨fun q hq hle d hd => ?_, fun x hx d hd => ?_⟩
      · rw [List.mem_cons] at hd
        rcases hd with rfl | hd
        · exact hc
        · exact i1 q hq (by simp only [List.length_cons] at hle; omega) d hd
      · rw [List.mem_cons] at hd
        rcases hd with rfl | hd
        · exact hc
        · exact i2 x hx d hd
end Go.Proofs.YtigkmlhkfpdajaaDoor
