/- Plain laws: no reader of deeds and users stops with 0. Conditions: the hypotheses of each theorem. -/
import Derived.Test.YthlppbbejdeeoaaDd1
namespace Go.Proofs.Ythlppbbejdeeoaa
open Go.RowKit
/-! ## no reader stops with 0 -/
def Nz {α : Type} (p : Prs α) : Prop := ∀ l k, p l = .inl k → k ≠ 0
theorem Nz.and {α β : Type} {p : Prs α} {f : α → Prs β} (h : Nz p) (hf : ∀ a, Nz (f a)) : Nz (andP p f) := fun l k hk => by
  unfold andP at hk
  cases hp : p l with
  | inl e => rw [hp] at hk; cases hk; exact h l _ hp
  | inr q => rw [hp] at hk; exact hf q.1 q.2 k hk
theorem Nz.pure {α : Type} (a : α) : Nz (pureP a) := fun l k hk => by cases hk
theorem Nz.num (n : Nat) : Nz (numP n) := fun l k hk => by
  unfold numP at hk
  split at hk
  · cases hk; decide
  · cases hk
theorem Nz.take (n : Nat) : Nz (takeP n) := fun l k hk => by
  unfold takeP at hk
  split at hk
  · cases hk; decide
  · cases hk
theorem Nz.short : Nz shortP := (Nz.num 1).and Nz.take
theorem Nz.long : Nz longP := (Nz.num 2).and Nz.take
theorem Nz.rep {α : Type} {p : Prs α} (h : Nz p) : ∀ n acc, Nz (repA p n acc)
  | 0, _ => Nz.pure _
  | n + 1, _ => h.and fun _ => Nz.rep h n _
theorem Nz.letter : Nz letP := (Nz.num 4).and fun _ => (Nz.num 1).and fun _ => Nz.long.and fun _ => Nz.pure _
theorem Nz.box : Nz boxP := Nz.short.and fun _ => (Nz.num 4).and fun _ => (Nz.num 4).and fun _ => (Nz.num 1).and fun _ => (Nz.rep Nz.letter _ _).and fun _ => Nz.pure _
theorem Nz.user : Nz userP := Nz.short.and fun _ => (Nz.num 4).and fun _ => (Nz.num 1).and fun _ => (Nz.rep Nz.box _ _).and fun _ => Nz.pure _
theorem Nz.deed : Nz deedP := (Nz.num 1).and fun _ => Nz.short.and fun _ => Nz.short.and fun _ => Nz.short.and fun _ => (Nz.num 4).and fun _ => (Nz.num 1).and fun _ => (Nz.num 1).and fun _ => (Nz.num 1).and fun _ => (Nz.num 4).and fun _ => Nz.long.and fun _ => Nz.pure _
theorem Nz.must (ok : Bool) : Nz (mustP ok) := fun l k hk => by
  unfold mustP at hk
  split at hk
  · cases hk
  · cases hk; decide
theorem Nz.all : Nz allP := (Nz.num 1).and fun _ => (Nz.must _).and fun _ => Nz.rep Nz.deed _ _
theorem Nz.read {α : Type} {p : Prs α} (h : Nz p) {l : By} {k : Nat} (hk : readP p l = .inl k) : k ≠ 0 := by
  unfold readP at hk
  cases hp : p l with
  | inl e => rw [hp] at hk; cases hk; exact h l _ hp
  | inr q =>
    rw [hp] at hk
    simp only at hk
    split at hk
    · cases hk
    · cases hk; decide
theorem read_got {α : Type} {p : Prs α} {bs : α → By} {ok : α → Prop} (h : Rt p bs ok) {l : By} {a : α} (ha : readP p l = .inr a) : l = bs a ∧ ok a := by
  unfold readP at ha
  cases hp : p l with
  | inl e => rw [hp] at ha; cases ha
  | inr q =>
    rw [hp] at ha
    simp only at ha
    split at ha
    · rename_i h0
      cases ha
      obtain ⟨h1, h2⟩ := h.got l q.1 q.2 hp
      rw [h0, List.append_nil] at h1
      exact ⟨h1, h2⟩
    · cases ha
theorem read_put {α : Type} {p : Prs α} {bs : α → By} {ok : α → Prop} (h : Rt p bs ok) {a : α} (ha : ok a) : readP p (bs a) = .inr a := by
  have := h.put a [] ha
  rw [List.append_nil] at this
  unfold readP
  rw [this]
  rfl
end Go.Proofs.Ythlppbbejdeeoaa
