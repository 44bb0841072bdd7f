/- The log, in plain words: what holds of a disk and a log behind each call. No program. Conditions: the hypotheses of each theorem. -/
import Derived.Test.YtklodimokhndoaaWb7
import Derived.Test.YtklodimokhndoaaWb5
import Derived.Test.YtklodimokhndoaaDk12
namespace Go.Proofs.Ytklodimokhndoaa
structure Gd (n : Nat) (s : Dk) (g : Lg) : Prop where
  ok : s.Ok
  few : s.Few n
  fit : g.Fit
  sp : g.space.length ≤ 64 * (g.size - 1)
  rl : g.recs.length ≤ n
  rs : ∀ r ∈ g.recs, r.length ≤ 2000
  len : g.base + g.size + g.size ≤ s.sure.length
theorem wrF_len : ∀ (a : List (Nat × By)) (s : Dk), (wrF s a).2.sure.length = s.sure.length
  | [], _ => rfl
  | x :: r, s => by
    unfold wrF
    split
    · exact writeS_len _ _ _
    · rw [wrF_len r]; exact writeS_len _ _ _
theorem layD_len (s : Dk) (b n : Nat) (is : By) (must : Bool) : (layD s b n is must).2.sure.length = s.sure.length := by
  unfold layD
  split
  · exact wrF_len _ _
  · split
    · rw [flushS_len]; exact wrF_len _ _
    · exact wrF_len _ _
theorem crownD_len (s : Dk) (i gen : Nat) : (crownD s i gen).2.sure.length = s.sure.length := by
  unfold crownD
  split
  · exact writeS_len _ _ _
  · rw [flushS_len]; exact writeS_len _ _ _
theorem appendR_gd {n : Nat} {s : Dk} {g : Lg} (h : Gd n s g) (r : By) : Gd (n + 300) (appendR s g r).2.1 (appendR s g r).2.2 := by
  have stay : Gd (n + 300) s g := ⟨h.ok, h.few.mono (by omega), h.fit, h.sp, by have := h.rl; omega, h.rs, h.len⟩
  unfold appendR
  split
  · exact stay
  · split
    · exact stay
    · rename_i hw
      split
      · exact stay
      · rename_i hfull
        have hP : apP g.space.length (layF g.space r) ≤ 256 := by unfold apP; have := h.fit.s2; omega
        have hf := wrF_few (apW (g.at_ g.half) (skipF g.space.length / 64) (layF g.space r) (apP g.space.length (layF g.space r))) s n h.few
        have hl : (apW (g.at_ g.half) (skipF g.space.length / 64) (layF g.space r) (apP g.space.length (layF g.space r))).length = apP g.space.length (layF g.space r) := by simp [apW]
        rw [hl] at hf
        split
        · exact ⟨wrF_ok _ _ h.ok, hf.mono (by omega), h.fit, h.sp, by have := h.rl; simp only; omega, h.rs, by rw [wrF_len]; exact h.len⟩
        · refine ⟨wrF_ok _ _ h.ok, hf.mono (by omega), ⟨h.fit.base, h.fit.s1, h.fit.s2, h.fit.half, h.fit.gen⟩, by simp only; omega, ?_, ?_, by rw [wrF_len]; exact h.len⟩
          · have := h.rl
            simp
            omega
          · intro x hx
            rcases List.mem_append.1 hx with hx | hx
            · exact h.rs x hx
            · simp at hx
              subst hx
              have := Decidable.not_not.1 hw
              unfold wrongR at this
              split at this
              · cases this
              · split at this
                · cases this
                · omega
theorem readG_mem {b : By} : ∀ (f at_ : Nat), ∀ r ∈ (readG b f at_).1, 1 ≤ r.length ∧ r.length ≤ 2000 := by
  intro f
  induction f with
  | zero => intro at_ r hr; cases hr
  | succ f ih =>
    intro at_ r hr
    unfold readG at hr
    cases h : oneF b at_ with
    | none => rw [h] at hr; cases hr
    | some x =>
      obtain ⟨r', nx⟩ := x
      rw [h] at hr
      have hs := one_some h
      rcases List.mem_cons.1 hr with rfl | hr
      · exact ⟨hs.2.2.1, hs.2.2.2⟩
      · exact ih nx r hr
theorem openR_gd {n : Nat} {s : Dk} (hs : s.Ok) (hf : s.Few n) (b sz : Nat) (hb : b ≤ 512) (h1 : 2 ≤ sz) (h2 : sz ≤ 256) (hl : b + sz + sz ≤ s.sure.length) : Gd (n + 5000) (openR s b sz).2.1 (openR s b sz).2.2 := by
  unfold openR
  split
  · unfold openN
    split
    · exact ⟨layD_ok hs _ _ _ _, (layD_few hf _ _ _ _).mono (by omega), ⟨hb, h1, h2, by simp [lg0], by simp [lg0]⟩, by simp [lg0], by simp [lg0], by simp [lg0], by rw [layD_len]; exact hl⟩
    · exact ⟨crownD_ok (layD_ok hs _ _ _ _) _ _, (crownD_few (layD_few hf _ _ _ _) _ _).mono (by omega), ⟨hb, h1, h2, by simp [lg0], by simp [lg0]⟩, by simp [lg0], by simp [lg0], by simp [lg0], by rw [crownD_len, layD_len]; exact hl⟩
  · have ha := genF_le (readS s b)
    have hc := genF_le (readS s (b + sz))
    have hh : (if genF (readS s b) < genF (readS s (b + sz)) then 1 else 0) ≤ 1 := by split <;> omega
    generalize (if genF (readS s b) < genF (readS s (b + sz)) then 1 else 0) = k at *
    have hks : k * sz ≤ sz := by have := Nat.mul_le_mul_right sz hh; omega
    have hg := allG_len hs (b := b + k * sz) (sz - 1) (by omega)
    unfold openH
    refine ⟨layD_ok hs _ _ _ _, (layD_few hf _ _ _ _).mono (by omega), ⟨hb, h1, h2, hh, by simp only; omega⟩, by simp only [List.length_take]; omega, ?_, ?_, by rw [layD_len]; exact hl⟩
    · have := readG_len (allG s (b + k * sz) (sz - 1)) ((allG s (b + k * sz) (sz - 1)).length + 1) 0
      have : 4 * (readF (allG s (b + k * sz) (sz - 1))).1.length + 0 ≤ max (allG s (b + k * sz) (sz - 1)).length 0 := this
      simp only
      omega
    · intro r hr
      exact (readG_mem _ _ r hr).2
/-- the states of the law's live -/
def lvN : Dk := newD 23
def lvA : Int × Dk × Lg := openR lvN 1 10
def lvB : Int × Dk × Lg := appendR lvA.2.1 lvA.2.2 [111, 110, 101]
def lvF : Dk := forceS lvB.2.1 lvB.2.2
def lvD : Int × Dk × Lg := appendR lvF lvB.2.2 [116, 119, 111]
def lvE : Dk := crashed lvD.2.1 lvC
def lvG : Int × Dk × Lg := openR lvE 1 10
set_option maxRecDepth 100000 in
theorem lv_true : lvA.1 = 0 ∧ lvA.2.2.recs = [] ∧ lvB.1 = 0 ∧ forceE lvB.2.1 lvB.2.2 = 0 ∧ lvD.1 = 0 ∧ lvG.1 = 0 ∧ lvG.2.2.recs = [[111, 110, 101]] ∧ forceE lvG.2.1 lvD.2.2 = 12 := by decide +kernel
end Go.Proofs.Ytklodimokhndoaa
