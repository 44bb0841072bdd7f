/- The plain log: how records are laid, and read. No program. Conditions: the hypotheses of each theorem. -/
import Derived.Test.YtklodimokhndoaaDk10
namespace Go.Proofs.Ytklodimokhndoaa
abbrev By := List UInt8
def skipF (a : Nat) : Nat := if 64 - a % 64 ≤ 3 then a + (64 - a % 64) else a
def padF (o : By) : By := o ++ List.replicate (skipF o.length - o.length) 0
def kindF (b e : Bool) : UInt8 := if b then (if e then 1 else 2) else if e then 4 else 3
def fitF (o rest : By) : Nat := min rest.length (64 - (padF o).length % 64 - 3)
def layC (b : Bool) (o rest : By) : By := padF o ++ (kindF b (decide (fitF o rest = rest.length)) :: UInt8.ofNat (fitF o rest) :: (rest.take (fitF o rest) ++ [231]))
def layG : Nat → Bool → By → By → By
  | 0, _, o, _ => o
  | f + 1, b, o, rest => if rest = [] then o else layG f false (layC b o rest) (rest.drop (fitF o rest))
def layF (o r : By) : By := layG r.length true o r
def chunkF (b : By) (at_ : Nat) : Option (Nat × By × Nat) :=
  if b.length ≤ skipF at_ + 3 then none
  else if (b.getD (skipF at_) 0).toNat < 1 ∨ 4 < (b.getD (skipF at_) 0).toNat ∨ (b.getD (skipF at_ + 1) 0).toNat = 0 ∨ skipF at_ - skipF at_ % 64 + 63 < skipF at_ + 2 + (b.getD (skipF at_ + 1) 0).toNat ∨ (b.getD (skipF at_ + 2 + (b.getD (skipF at_ + 1) 0).toNat) 0).toNat ≠ 231 then none
  else some ((b.getD (skipF at_) 0).toNat, (b.drop (skipF at_ + 2)).take (b.getD (skipF at_ + 1) 0).toNat, skipF at_ + 3 + (b.getD (skipF at_ + 1) 0).toNat)
def oneG (b : By) : Nat → By → Nat → Option (By × Nat)
  | 0, _, _ => none
  | f + 1, out, at_ => match chunkF b at_ with
    | none => none
    | some (k, p, nx) =>
      if decide (k = 1 ∨ k = 2) ≠ decide (out.length = 0) then none
      else if 2000 < (out ++ p).length then none
      else if k = 1 ∨ k = 4 then some (out ++ p, nx)
      else oneG b f (out ++ p) nx
def oneF (b : By) (at_ : Nat) : Option (By × Nat) := oneG b 2001 [] at_
def readG (b : By) : Nat → Nat → List By × Nat
  | 0, at_ => ([], at_)
  | f + 1, at_ => match oneF b at_ with
    | none => ([], at_)
    | some (r, nx) => (r :: (readG b f nx).1, (readG b f nx).2)
def readF (b : By) : List By × Nat := readG b (b.length + 1) 0
theorem skipF_ge (a : Nat) : a ≤ skipF a := by unfold skipF; split <;> omega
theorem skipF_le (a : Nat) : skipF a ≤ a + 3 := by unfold skipF; split <;> omega
theorem skipF_room (a : Nat) : 4 ≤ 64 - skipF a % 64 := by unfold skipF; split <;> omega
theorem skipF_zero : skipF 0 = 0 := rfl
theorem padF_len (o : By) : (padF o).length = skipF o.length := by
  have := skipF_ge o.length
  unfold padF
  simp only [List.length_append, List.length_replicate]
  omega
theorem fitF_pos (o : By) {rest : By} (h : rest ≠ []) : 1 ≤ fitF o rest := by
  have h1 := skipF_room o.length
  have h2 : 0 < rest.length := List.length_pos_iff.2 h
  unfold fitF
  rw [padF_len]
  omega
theorem fitF_le (o rest : By) : fitF o rest ≤ rest.length ∧ fitF o rest ≤ 64 - skipF o.length % 64 - 3 := by
  unfold fitF
  rw [padF_len]
  omega
theorem layC_len (b : Bool) (o rest : By) : (layC b o rest).length = skipF o.length + 3 + fitF o rest := by
  have := (fitF_le o rest).1
  unfold layC
  simp only [List.length_append, List.length_cons, List.length_nil, List.length_take, padF_len]
  omega
/-- a chunk that is there -/
theorem chunk_some {b : By} {at_ k nx : Nat} {p : By} (h : chunkF b at_ = some (k, p, nx)) : at_ + 4 ≤ nx ∧ nx ≤ b.length ∧ 1 ≤ p.length ∧ p.length ≤ 61 ∧ 1 ≤ k ∧ k ≤ 4 := by
  unfold chunkF at h
  split at h
  · cases h
  · rename_i h1
    split at h
    · cases h
    · rename_i h2
      have h3 := skipF_ge at_
      have h4 := skipF_room at_
      injection h with h
      injection h with hk h
      injection h with hp hn
      simp only [not_or, Nat.not_lt, Decidable.not_not] at h2
      obtain ⟨q1, q2, q3, q4, q5⟩ := h2
      have hlt : skipF at_ + 2 + (b.getD (skipF at_ + 1) 0).toNat < b.length := by
        rcases Nat.lt_or_ge (skipF at_ + 2 + (b.getD (skipF at_ + 1) 0).toNat) b.length with h | h
        · exact h
        · exfalso
          rw [List.getD_eq_getElem?_getD (i := skipF at_ + 2 + _), List.getElem?_eq_none h] at q5
          exact absurd q5 (by decide)
      generalize (b.getD (skipF at_ + 1) 0).toNat = m at *
      subst hk hp hn
      rw [List.length_take, List.length_drop, Nat.min_eq_left (by omega)]
      omega
theorem oneG_some {b : By} : ∀ (f : Nat) (out : By) (at_ nx : Nat) (r : By), oneG b f out at_ = some (r, nx) → at_ + 4 ≤ nx ∧ nx ≤ b.length ∧ 1 ≤ r.length ∧ r.length ≤ 2000 := by
  intro f
  induction f with
  | zero => intro out at_ nx r h; cases h
  | succ f ih =>
    intro out at_ nx r h
    unfold oneG at h
    cases hc : chunkF b at_ with
    | none => rw [hc] at h; cases h
    | some x =>
      obtain ⟨k, p, n2⟩ := x
      rw [hc] at h
      simp only at h
      have hs := chunk_some hc
      split at h
      · cases h
      · split at h
        · cases h
        · rename_i _ hl
          split at h
          · injection h with h
            injection h with h1 h2
            subst h1 h2
            simp only [List.length_append] at *
            omega
          · have := ih _ _ _ _ h
            omega
theorem one_some {b : By} {at_ nx : Nat} {r : By} (h : oneF b at_ = some (r, nx)) : at_ + 4 ≤ nx ∧ nx ≤ b.length ∧ 1 ≤ r.length ∧ r.length ≤ 2000 := oneG_some _ _ _ _ _ h
theorem readG_stop {b : By} {f at_ : Nat} (h : oneF b at_ = none) : readG b (f + 1) at_ = ([], at_) := by unfold readG; rw [h]
theorem readG_fuel {b : By} : ∀ (f g at_ : Nat), b.length < at_ + f → b.length < at_ + g → readG b (f + 1) at_ = readG b (g + 1) at_ := by
  intro f
  induction f with
  | zero =>
    intro g at_ h1 h2
    have : oneF b at_ = none := by
      cases hc : oneF b at_ with
      | none => rfl
      | some x => obtain ⟨r, nx⟩ := x; have := one_some hc; omega
    rw [readG_stop this, readG_stop this]
  | succ f ih =>
    intro g at_ h1 h2
    cases hc : oneF b at_ with
    | none => rw [readG_stop hc, readG_stop hc]
    | some x =>
      obtain ⟨r, nx⟩ := x
      have := one_some hc
      cases g with
      | zero => omega
      | succ g =>
        conv => lhs; unfold readG
        conv => rhs; unfold readG
        rw [hc]
        simp only
        rw [ih g nx (by omega) (by omega)]
theorem readG_step {b : By} {f at_ nx : Nat} {r : By} (h : oneF b at_ = some (r, nx)) (hf : b.length < at_ + f) : readG b (f + 1) at_ = (r :: (readG b (f + 1) nx).1, (readG b (f + 1) nx).2) := by
  have hs := one_some h
  conv => lhs; unfold readG
  rw [h]
  simp only
  cases f with
  | zero => omega
  | succ f => rw [readG_fuel f (f + 1) nx (by omega) (by omega)]
end Go.Proofs.Ytklodimokhndoaa
