/- What the program's reader of addresses tells, in plain words. Conditions: the hypotheses of each theorem. -/
import Derived.Test.YtchokelpimibdaaText7
namespace Go.Proofs.Ytchokelpimibdaa
open Go.RowKit
def alnumB (c : Nat) : Bool := decide (97 ≤ c ∧ c ≤ 122 ∨ 65 ≤ c ∧ c ≤ 90 ∨ 48 ≤ c ∧ c ≤ 57)
def signsL : List UInt8 := [33, 35, 36, 37, 38, 39, 42, 43, 45, 47, 61, 63, 94, 95, 96, 123, 124, 125, 126]
def signB (c : Nat) : Bool := signsL.contains (UInt8.ofNat c)
def localB (c : Nat) : Bool := alnumB c || (decide (32 < c ∧ c < 127) && signB c)
/-- how far a reader is behind a letter; can it be? -/
def nextS (s c n : Nat) : Nat × Bool :=
  if s = 0 ∨ s = 2 then (1, localB c)
  else if s = 1 then (if c = 46 then (2, true) else if c = 64 then (6, true) else (1, localB c))
  else if s = 3 then (6, decide (c = 64))
  else if s = 6 then (4, alnumB c)
  else if s = 4 ∨ s = 5 then (if c = 46 then (6, decide (s = 4)) else if c = 45 then (5, decide (n < 62)) else (4, alnumB c && decide (n < 63)))
  else (s, false)
theorem nextS_le {s c n : Nat} (h : s ≤ 6) : (nextS s c n).1 ≤ 6 := by
  unfold nextS
  repeat' split
  all_goals (simp only; omega)
theorem nextS_le3 {s c n : Nat} (h : s ≤ 3) (h6 : (nextS s c n).1 ≠ 6) : (nextS s c n).1 ≤ 3 := by
  have : s = 0 ∨ s = 1 ∨ s = 2 ∨ s = 3 := by omega
  rcases this with rfl | rfl | rfl | rfl
  · simp [nextS]
  · unfold nextS at h6 ⊢
    by_cases h1 : c = 46
    · simp [h1]
    · by_cases h2 : c = 64
      · simp [h2] at h6
      · simp [h1, h2]
  · simp [nextS]
  · simp [nextS] at h6
/-- a signed local part -/
def longF : List (Nat × List UInt8) → Bool → Nat → List UInt8 → Nat → List UInt8 × Nat × Nat × Nat
  | [], _, place, _, _ => ([], 0, place, 3)
  | (c, b) :: ds, sign, place, out, pos =>
    if (c < 32 ∨ 126 < c) ∨ (sign = true ∧ c ≠ 34 ∧ c ≠ 92) then ([], 0, place, 4)
    else if place = 0 then longF ds sign 1 out (pos + b.length)
    else if sign = false ∧ c = 92 then longF ds true (place + 1) out (pos + b.length)
    else if sign = false ∧ c = 34 then (out, pos + 1, 0, 0)
    else longF ds false (place + 1) (out ++ [UInt8.ofNat c]) (pos + b.length)
def longT (l : List UInt8) : List UInt8 × Nat × Nat × Nat := longF (letL l) false 0 [] 0
/-- reading on: the letter at which it can't be, or how far it is, how many letters there were, and where the first @ stands -/
def runF : List (Nat × List UInt8) → Nat → Nat → Nat → Option Nat → Nat → Nat ⊕ (Nat × Nat × Option Nat)
  | [], s, _, pl, a, _ => .inr (s, pl, a)
  | (c, b) :: ds, s, n, pl, a, pos =>
    if (nextS s c n).2 = false then .inl pl
    else runF ds (nextS s c n).1 (if (nextS s c n).1 = 6 then 0 else n + 1) (pl + 1) (if (nextS s c n).1 = 6 ∧ a = none then some pos else a) (pos + b.length)
/-- the rest of an address, from a place on -/
def restT (l said : List UInt8) (s0 from_ pl0 : Nat) : List UInt8 × List UInt8 × Nat × Nat :=
  match runF (letL (l.drop from_)) s0 0 pl0 none from_ with
  | .inl pl => ([], [], pl, 4)
  | .inr (s, pl, a) =>
    if s ≠ 4 then ([], [], pl, 3)
    else
      let loc := if from_ = 0 then l.take (a.getD 0) else said
      let dom := lowL (l.drop (a.getD 0 + 1))
      if 64 < loc.length ∨ 255 < dom.length then ([], [], 0, 6) else (loc, dom, 0, 0)
def parseT (l : List UInt8) : List UInt8 × List UInt8 × Nat × Nat :=
  if l[0]? = some 34 then
    (if (longT l).2.2.2 ≠ 0 then ([], [], (longT l).2.2.1, (longT l).2.2.2)
    else restT l (longT l).1 3 (longT l).2.1 (letL (l.take (longT l).2.1)).length)
  else restT l [] 0 0 0
/-- the first @ was seen, once a label is read -/
theorem runF_at : ∀ (ds : List (Nat × List UInt8)) (s n pl : Nat) (a : Option Nat) (pos s' pl' : Nat) (a' : Option Nat), (a = none → s ≤ 3) → (∀ k, a = some k → k ≤ pos) → runF ds s n pl a pos = .inr (s', pl', a') →
    (a' = none → s' ≤ 3) ∧ (∀ k, a' = some k → k ≤ pos + (ds.flatMap fun d => d.2).length)
  | [], s, n, pl, a, pos, s', pl', a', h1, h2, h => by
    simp only [runF, Sum.inr.injEq, Prod.mk.injEq] at h
    obtain ⟨rfl, rfl, rfl⟩ := h
    exact ⟨h1, fun k hk => by have := h2 k hk; simp; omega⟩
  | (c, b) :: ds, s, n, pl, a, pos, s', pl', a', h1, h2, h => by
    simp only [runF] at h
    split at h
    · cases h
    · have := runF_at ds _ _ _ _ _ s' pl' a' ?_ ?_ h
      · refine ⟨this.1, fun k hk => ?_⟩
        have := this.2 k hk
        simp only [List.flatMap_cons, List.length_append]
        omega
      · intro ha
        split at ha
        · cases ha
        · rename_i hne
          exact nextS_le3 (h1 ha) (fun h6 => hne ⟨h6, ha⟩)
      · intro k hk
        split at hk
        · cases hk; omega
        · have := h2 k hk; omega
/-- a place in a text: what is read there -/
theorem let_here {s : ByteArray} {pos : Nat} (hp : pos < s.size) {c W : Nat} (hc : (Utf8.decode s pos).1 = c) (hW : (Utf8.decode s pos).2 = W) :
    ∃ b, b.length = W ∧ pos + W ≤ s.size ∧ letL ((tl s).drop pos) = (c, b) :: letL ((tl s).drop (pos + W)) := by
  subst hc hW
  have h2 := dec_le s pos hp
  have hne : (tl s).drop pos ≠ [] := by
    intro e
    have := congrArg List.length e
    simp at this
    omega
  have hs := letL_step _ hne
  rw [← dec_at s pos, List.drop_drop] at hs
  exact ⟨((tl s).drop pos).take (Utf8.decode s pos).2, by simp; omega, by simpa using h2, hs⟩
theorem let_done {s : ByteArray} {pos : Nat} (hp : ¬ pos < s.size) : letL ((tl s).drop pos) = [] := by
  have e : (tl s).drop pos = [] := List.drop_eq_nil_of_le (by simp; omega)
  rw [e, letL_nil]
theorem let_bytes : ∀ (k : Nat) (l : List UInt8), l.length ≤ k → (letL l).flatMap (fun d => d.2) = l
  | 0, l, h => by
    obtain rfl := List.eq_nil_of_length_eq_zero (Nat.le_zero.1 h)
    rfl
  | k + 1, l, h => by
    by_cases hl : l = []
    · subst hl; rfl
    · have hp := decL_pos l hl
      rw [letL_step l hl, List.flatMap_cons, let_bytes k _ (by rw [List.length_drop]; omega)]
      exact List.take_append_drop _ _
end Go.Proofs.Ytchokelpimibdaa
