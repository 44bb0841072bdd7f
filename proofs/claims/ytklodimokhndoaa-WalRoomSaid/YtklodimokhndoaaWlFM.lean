/- How many bytes a record may have that fits behind others. No condition but those of each theorem. -/
import Derived.Test.YtklodimokhndoaaC3
namespace Go.Proofs.Ytklodimokhndoaa
def capF (L N : Nat) : Nat := N - skipF L - 3 * ((N - skipF L + 63) / 64)
theorem layG_nil (f : Nat) (b : Bool) (o : By) : layG f b o [] = o := by cases f <;> simp [layG]
theorem layG_fit (m : Nat) : ∀ (f : Nat) (b : Bool) (o rest : By), rest.length ≤ f → rest ≠ [] → ((layG f b o rest).length ≤ 64 * m ↔ rest.length ≤ capF o.length (64 * m)) := by
  intro f
  induction f with
  | zero => intro b o rest h hn; exact absurd (List.length_eq_zero_iff.1 (by omega)) hn
  | succ f ih =>
    intro b o rest h hn
    have hr : 0 < rest.length := by rcases rest with _ | ⟨x, r⟩ <;> simp_all
    have h4 := skipF_room o.length
    have hfit : fitF o rest = min rest.length (64 - skipF o.length % 64 - 3) := by unfold fitF; rw [padF_len]
    have hc := layC_len b o rest
    have hcap : capF o.length (64 * m) = 64 * m - skipF o.length - 3 * ((64 * m - skipF o.length + 63) / 64) := rfl
    have ih := ih false (layC b o rest) (rest.drop (fitF o rest)) (by simp; omega)
    unfold layG
    rw [if_neg hn, hcap]
    rw [hfit] at hc ih ⊢
    generalize skipF o.length = a at *
    clear hcap hfit
    by_cases hlt : rest.length ≤ 64 - a % 64 - 3
    · rw [Nat.min_eq_left hlt] at hc ⊢
      have he : rest.drop rest.length = [] := by simp
      rw [he, layG_nil, hc]
      clear ih he
      omega
    · rw [Nat.min_eq_right (by omega)] at hc ih ⊢
      have hne : rest.drop (64 - a % 64 - 3) ≠ [] := by
        intro e
        have := congrArg List.length e
        simp only [List.length_drop, List.length_nil] at this
        omega
      rw [ih hne]
      clear ih
      unfold capF
      have hs : skipF (layC b o rest).length = a + 64 - a % 64 := by
        rw [hc]
        unfold skipF
        rw [if_neg (by omega)]
        omega
      rw [hs, List.length_drop]
      omega
theorem layF_fit (m : Nat) (o r : By) (h : r ≠ []) : (layF o r).length ≤ 64 * m ↔ r.length ≤ capF o.length (64 * m) := layG_fit m r.length true o r (Nat.le_refl _) h
/-- a disk that nothing cuts off -/
def Dk.Up (s : Dk) : Prop := s.down = false ∧ s.cut = 0
theorem writeE_up {s : Dk} (h : s.Up) {i : Nat} {l : By} (hi : i < s.sure.length) (hl : l.length ≤ 64) : writeE s i l = 0 := by
  unfold writeE wrongE
  have : (0 : Int) ≤ (i : Int) ∧ (i : Int) < (s.sure.length : Int) := by omega
  rw [spent_zero h.2]
  simp only [h.1, this, and_true, if_true]
  rw [if_neg (by decide), if_neg (by omega), if_neg (by decide)]
theorem writeS_up {s : Dk} (h : s.Up) (i : Int) (l : By) : (writeS s i l).Up := by
  unfold writeS
  rw [spent_zero h.2]
  split
  · exact h
  · split
    · exact h
    · split
      · exact h
      · unfold wrote Dk.Up
        rw [spent_zero h.2]
        exact h
theorem wrF_up : ∀ (a : List (Nat × By)) (s : Dk), s.Up → (∀ x ∈ a, x.1 < s.sure.length ∧ x.2.length ≤ 64) → (wrF s a).1 = 0 ∧ (wrF s a).2.Up
  | [], s, h, _ => ⟨rfl, h⟩
  | x :: r, s, h, hx => by
    have h0 := hx x (List.mem_cons_self ..)
    unfold wrF
    rw [if_neg (by rw [writeE_up h h0.1 h0.2]; decide)]
    exact wrF_up r _ (writeS_up h _ _) fun y hy => by rw [writeS_len]; exact hx y (List.mem_cons_of_mem _ hy)
theorem appendR_up {n : Nat} {s : Dk} {g : Lg} (h : Gd n s g) (hu : s.Up) (r : By) : (appendR s g r).2.1.Up := by
  unfold appendR
  split
  · exact hu
  · split
    · exact hu
    · rename_i hw
      split
      · exact hu
      · rename_i hf
        have := (wrF_up _ s hu (fun x hx => (apW_room h (Decidable.not_not.1 hw) (by omega) x hx).2.2)).2
        split <;> exact this
theorem flushS_up {s : Dk} (h : s.Up) : (flushS s).Up := by
  unfold flushS
  rw [spent_zero h.2]
  rw [if_neg (by rw [h.1]; decide), if_neg (by rw [h.1]; decide)]
  unfold flushed Dk.Up
  rw [spent_zero h.2]
  exact h
theorem forceS_up {s : Dk} (h : s.Up) (g : Lg) : (forceS s g).Up := by
  unfold forceS
  split
  · exact h
  · exact flushS_up h
theorem stepR_up {n : Nat} {x : Rs} (h : x.Good n) (hu : x.s.Up) {d : WDe} (hd : d.do_ ≠ 3) : (stepR x d).s.Up := by
  unfold stepR
  split
  · exact appendR_up h.gd hu _
  · split
    · exact forceS_up hu _
    · first
        | exact hu
        | (rw [if_neg hd]; exact hu)
theorem lvA_up : lvA.2.1.Up := by unfold Dk.Up; decide +kernel
theorem rs_up {s : Dk} {g : Lg} (h : s.Up) : (Rs.mk s g [] 0).s.Up := h
theorem rs0_up : rs0.s.Up := by unfold rs0; exact rs_up lvA_up
/-- what is appended to a log whose disk nothing cuts off -/
theorem appendR_fits {n : Nat} {s : Dk} {g : Lg} (h : Gd n s g) (ha : g.age = s.age) (hu : s.Up) (r : By) :
    (appendR s g r).1 = (if r.length = 0 then 2 else if 2000 < r.length then 6 else if r.length ≤ capF g.space.length (64 * (g.size - 1)) then 0 else 8) ∧ ((appendR s g r).1 ≠ 0 → (appendR s g r).2 = (s, g)) := by
  have hb : ¬ beginE s g ≠ 0 := by
    unfold beginE
    rw [if_neg (by omega), if_neg (by rw [hu.1]; decide)]
    decide
  unfold appendR
  rw [if_neg hb]
  by_cases h1 : r.length = 0
  · have hw : wrongR r = 2 := by unfold wrongR; rw [if_pos h1]
    rw [if_pos h1, if_pos (by rw [hw]; decide)]
    exact ⟨hw, fun _ => rfl⟩
  · by_cases h2 : 2000 < r.length
    · have hw : wrongR r = 6 := by unfold wrongR; rw [if_neg h1, if_pos h2]
      rw [if_neg h1, if_pos h2, if_pos (by rw [hw]; decide)]
      exact ⟨hw, fun _ => rfl⟩
    · have hw : wrongR r = 0 := by unfold wrongR; rw [if_neg h1, if_neg h2]
      have hfit := layF_fit (g.size - 1) g.space r (by intro e; subst e; exact h1 rfl)
      rw [if_neg h1, if_neg h2, if_neg (by rw [hw]; decide)]
      by_cases h3 : r.length ≤ capF g.space.length (64 * (g.size - 1))
      · have hle := hfit.2 h3
        have hwr := (wrF_up _ s hu (fun x hx => (apW_room h hw hle x hx).2.2)).1
        rw [if_pos h3, if_neg (by omega), if_neg (by rw [hwr]; decide)]
        exact ⟨rfl, fun e => absurd rfl e⟩
      · have hle : ¬ (layF g.space r).length ≤ 64 * (g.size - 1) := fun e => h3 (hfit.1 e)
        rw [if_neg h3, if_pos (by omega)]
        exact ⟨rfl, fun _ => rfl⟩
end Go.Proofs.Ytklodimokhndoaa
