/- Bytes behind a session's bytes change nothing of a step that is done; what runs to rest are the same lines and letters. No program. Conditions: the hypotheses of each theorem. -/
import Derived.Test.YtchokelpimibdaaSm0
namespace Go.Proofs.Ytchokelpimibdaa
open Go.RowKit
theorem ends_app {l q : By} {k : Nat} (h : endsB l k = true) : endsB (l ++ q) k = true := by rw [ends_append (ends_lt h)]; exact h
theorem fnd_app {l : By} {k : Nat} (q : By) (h : fnd l = some k) : fnd (l ++ q) = some k := by
  have hk := fnd_lt h
  obtain ⟨h1, h2⟩ := fnd_some.1 h
  exact fnd_some.2 ⟨ends_app h1, fun j hj => by rw [ends_append (by omega)]; exact h2 j hj⟩
theorem line_app {l : By} (q : By) (h : lineE l ≠ 3) : lineE (l ++ q) = lineE l ∧ lineS (l ++ q) = lineS l ∧ lineL (l ++ q) = lineL l ++ q := by
  unfold lineE at h
  unfold lineE lineS lineL
  cases hf : fnd l with
  | none => rw [hf] at h; simp at h
  | some k =>
    have hk := fnd_lt hf
    rw [fnd_app q hf]
    refine ⟨rfl, ?_, ?_⟩
    · simp only
      rw [List.take_append_of_le_length (by omega)]
    · simp only
      rw [List.drop_append_of_le_length (by omega)]
theorem dot_app {l q : By} {k : Nat} (h : k + 2 < l.length) : dot (l ++ q) k = dot l k := by
  unfold dot
  rw [beg_append (by omega), ends_append (by omega), List.getElem?_append_left (by omega)]
theorem fin_app {l : By} {k : Nat} (q : By) (h : fin l = some k) : fin (l ++ q) = some k := by
  have hk := fin_lt h
  obtain ⟨h1, h2⟩ := fin_some.1 h
  exact fin_some.2 ⟨by rw [dot_app (by omega)]; exact h1, fun j hj => by rw [dot_app (by omega)]; exact h2 j hj⟩
theorem unTo_app {l q : By} : ∀ {k : Nat}, k ≤ l.length → unTo (l ++ q) k = unTo l k
  | 0, _ => rfl
  | k + 1, h => by
    rw [unTo_succ, unTo_succ, unTo_app (by omega)]
    congr 1
    unfold un1
    rw [beg_append (by omega), List.getElem?_append_left (by omega)]
theorem un_app {l : By} (q : By) (h : unE l = 0) : unE (l ++ q) = 0 ∧ unL (l ++ q) = unL l ∧ unN (l ++ q) = unN l := by
  unfold unE at h
  unfold unE unL unN
  cases hf : fin l with
  | none => rw [hf] at h; simp at h
  | some k =>
    have hk := fin_lt hf
    rw [fin_app q hf]
    exact ⟨rfl, unTo_app (by omega), rfl⟩
/-! ## a step -/
def Se.app (s : Se) (q : By) : Se := s.cut (s.buf ++ q)
theorem mail_app (s : Se) (q r : By) : mailT (s.app q) r = ((mailT s r).1, (mailT s r).2.app q) := by
  unfold mailT Se.app Se.cut
  simp only
  repeat' split
  all_goals rfl
theorem rcpt_app (s : Se) (q r : By) : rcptT (s.app q) r = ((rcptT s r).1, (rcptT s r).2.app q) := by
  unfold rcptT Se.app Se.cut
  simp only
  repeat' split
  all_goals rfl
theorem rest_app (s : Se) (q : By) : restS (s.app q) = (restS s).app q := rfl
theorem lineT_app (s : Se) (q l : By) : lineT (s.app q) l = ((lineT s l).1, (lineT s l).2.app q) := by
  have e1 := mail_app s q (wordL l).2
  have e2 := rcpt_app s q (wordL l).2
  unfold lineT
  rw [e1, e2]
  repeat' split
  all_goals first | rfl | simp_all [Se.app, Se.cut]
theorem step_app (s : Se) (q : By) (h : (stepT s).2.1 = true) : stepT (s.app q) = ((stepT s).1, true, (stepT s).2.2.app q) := by
  have e1 : (s.app q).st = s.st := rfl
  have e2 : (s.app q).buf = s.buf ++ q := rfl
  unfold stepT at h ⊢
  rw [e1, e2]
  by_cases h1 : s.st = 5 ∨ s.st = 6
  · simp only [if_pos h1] at h; cases h
  simp only [if_neg h1] at h ⊢
  by_cases h2 : s.st = 0
  · simp only [if_pos h2]; rfl
  simp only [if_neg h2] at h ⊢
  by_cases h3 : s.st = 4
  · simp only [if_pos h3] at h ⊢
    by_cases h4 : unE s.buf = 0
    · obtain ⟨k1, k2, k3⟩ := un_app q h4
      have hn := unN_le s.buf
      simp only [k1, k2, k3, h4, ne_eq, not_true_eq_false, if_false, List.drop_append_of_le_length hn]
      by_cases h5 : 600 < (unL s.buf).length
      · simp only [if_pos h5]; rfl
      · simp only [if_neg h5]; rfl
    · simp only [if_pos h4] at h; cases h
  simp only [if_neg h3] at h ⊢
  by_cases h4 : lineE s.buf = 0
  · obtain ⟨k1, k2, k3⟩ := line_app q (by rw [h4]; decide : lineE s.buf ≠ 3)
    have e : (s.app q).cut (lineL s.buf ++ q) = (s.cut (lineL s.buf)).app q := rfl
    simp only [k1, k2, k3, if_pos h4, e, lineT_app]
  simp only [if_neg h4] at h
  by_cases h5 : lineE s.buf = 6
  · obtain ⟨k1, k2, k3⟩ := line_app q (by rw [h5]; decide : lineE s.buf ≠ 3)
    simp only [k1, k2, k3, if_neg h4, if_pos h5]
    rfl
  · simp only [if_neg h5] at h; cases h
/-- a round: a step, and what is sent heard as well -/
def roundT (s : Se) : Option (List By × List Ou × Se) :=
  if (stepT s).2.1 = true then
    (if (stepT s).1.send = true then some ((stepT s).1.lines ++ [sentB], [(stepT s).1], restS (stepT s).2.2) else some ((stepT s).1.lines, [], (stepT s).2.2))
  else none
theorem round_app {s s' : Se} {l : List By} {m : List Ou} (q : By) (h : roundT s = some (l, m, s')) : roundT (s.app q) = some (l, m, s'.app q) := by
  unfold roundT at h ⊢
  by_cases h1 : (stepT s).2.1 = true
  · rw [step_app s q h1]
    rw [if_pos h1] at h
    rw [if_pos rfl]
    by_cases h2 : (stepT s).1.send = true
    · rw [if_pos h2] at h ⊢
      cases h
      rfl
    · rw [if_neg h2] at h ⊢
      cases h
      rfl
  · rw [if_neg h1] at h; cases h
/-- some rounds -/
inductive Runs : Se → List By → List Ou → Se → Prop
  | refl (s : Se) : Runs s [] [] s
  | step {s s1 s2 : Se} {l L : List By} {m M : List Ou} (h : roundT s = some (l, m, s1)) (k : Runs s1 L M s2) : Runs s (l ++ L) (m ++ M) s2
theorem Runs.trans {a b c : Se} {L L' : List By} {M M' : List Ou} (h : Runs a L M b) (k : Runs b L' M' c) : Runs a (L ++ L') (M ++ M') c := by
  induction h with
  | refl s => exact k
  | step h1 h2 ih => rw [List.append_assoc, List.append_assoc]; exact .step h1 (ih k)
theorem Runs.snoc {a b c : Se} {L l : List By} {M m : List Ou} (h : Runs a L M b) (k : roundT b = some (l, m, c)) : Runs a (L ++ l) (M ++ m) c := by
  have := h.trans (.step k (.refl c))
  simpa using this
theorem Runs.app {a b : Se} {L : List By} {M : List Ou} (h : Runs a L M b) (q : By) : Runs (a.app q) L M (b.app q) := by
  induction h with
  | refl s => exact .refl _
  | step h1 h2 ih => exact .step (round_app q h1) ih
theorem Runs.det {a b c : Se} {L L' : List By} {M M' : List Ou} (h : Runs a L M b) (hb : roundT b = none) (k : Runs a L' M' c) (hc : roundT c = none) : L = L' ∧ M = M' ∧ b = c := by
  induction h generalizing L' M' with
  | refl s =>
    cases k with
    | refl => exact ⟨rfl, rfl, rfl⟩
    | step k1 k2 => rw [hb] at k1; cases k1
  | step h1 h2 ih =>
    cases k with
    | refl => rw [hc] at h1; cases h1
    | step k1 k2 =>
      rw [h1] at k1
      cases k1
      obtain ⟨e1, e2, e3⟩ := ih hb k2
      exact ⟨by rw [e1], by rw [e2], e3⟩
theorem app_app (s : Se) (a b : By) : (s.app a).app b = s.app (a ++ b) := by simp [Se.app, Se.cut]
theorem app_nil (s : Se) : s.app [] = s := by simp [Se.app, Se.cut]
theorem over_rest {s : Se} (h : s.st = 6) : roundT s = none := by
  have h' : s.st = 5 ∨ s.st = 6 := .inr h
  unfold roundT stepT
  simp only [if_pos h']
  rfl
theorem runs_st {a b : Se} {L : List By} {M : List Ou} (h : Runs a L M b) (h6 : a.st = 6) : L = [] ∧ M = [] ∧ b = a := by
  cases h with
  | refl => exact ⟨rfl, rfl, rfl⟩
  | step k _ => rw [over_rest h6] at k; cases k
theorem feed_on {s : Se} {q : By} (h : s.st ≠ 6) (hl : s.buf.length + q.length ≤ 16384) : feedT s q = (0, s.app q) := by
  unfold feedT
  rw [if_neg h]
  unfold feedE feedL
  rw [if_neg (by omega), if_neg (by omega)]
  rfl
theorem feed_over {s : Se} {q : By} (h : s.st = 6) : feedT s q = (13, s) := by
  unfold feedT
  rw [if_pos h]
/-! ## what a round tells -/
theorem lineT_one (s : Se) (l : By) : ∃ b, (lineT s l).1.lines = [b] ∧ (lineT s l).1.send = false ∧ b.length ≤ 40 := by
  have hm : (mailT s (wordL l).2).1.length ≤ 40 := by
    unfold mailT
    repeat' split
    all_goals (simp only; decide)
  have hr : (rcptT s (wordL l).2).1.length ≤ 40 := by
    unfold rcptT
    repeat' split
    all_goals (simp only; decide)
  unfold lineT
  repeat' split
  all_goals first
    | exact ⟨_, rfl, rfl, hm⟩
    | exact ⟨_, rfl, rfl, hr⟩
    | exact ⟨_, rfl, rfl, by decide⟩
theorem step_one (s : Se) (h : (stepT s).2.1 = true) : ((stepT s).1.send = false ∧ ∃ b, (stepT s).1.lines = [b]) ∨ ((stepT s).1.send = true ∧ (stepT s).1.lines = [] ∧ (stepT s).2.2.st = 5) := by
  unfold stepT at h ⊢
  repeat' split
  all_goals first
    | (exfalso; revert h; simp_all; done)
    | exact .inl ⟨rfl, _, rfl⟩
    | exact .inr ⟨rfl, rfl, rfl⟩
    | (obtain ⟨b, h1, h2, _⟩ := lineT_one (s.cut (lineL s.buf)) (lineS s.buf); exact .inl ⟨h2, b, h1⟩)
theorem round_len {s s' : Se} {l : List By} {m : List Ou} (h : roundT s = some (l, m, s')) : l.length = 1 ∧ m.length ≤ 1 := by
  unfold roundT at h
  by_cases h1 : (stepT s).2.1 = true
  · rw [if_pos h1] at h
    rcases step_one s h1 with ⟨h2, b, h3⟩ | ⟨h2, h3, _⟩
    · rw [h2, h3] at h
      cases h
      exact ⟨rfl, by simp⟩
    · rw [h2, h3] at h
      cases h
      exact ⟨rfl, by simp⟩
  · rw [if_neg h1] at h; cases h
theorem step_idle (s : Se) (h : (stepT s).2.1 = false) : stepT s = (Ou.no, false, s) := by
  unfold stepT at h ⊢
  by_cases h1 : s.st = 5 ∨ s.st = 6
  · simp only [if_pos h1]
  simp only [if_neg h1] at h ⊢
  by_cases h2 : s.st = 0
  · simp only [if_pos h2] at h; cases h
  simp only [if_neg h2] at h ⊢
  by_cases h3 : s.st = 4
  · simp only [if_pos h3] at h ⊢
    by_cases h4 : unE s.buf ≠ 0
    · simp only [if_pos h4]
    · simp only [if_neg h4] at h
      by_cases h5 : 600 < (unL s.buf).length
      · simp only [if_pos h5] at h; cases h
      · simp only [if_neg h5] at h; cases h
  simp only [if_neg h3] at h ⊢
  by_cases h4 : lineE s.buf = 0
  · simp only [if_pos h4] at h; cases h
  simp only [if_neg h4] at h ⊢
  by_cases h5 : lineE s.buf = 6
  · simp only [if_pos h5] at h; cases h
  · simp only [if_neg h5]
theorem mail_buf (s : Se) (r : By) : (mailT s r).2.buf = s.buf := by
  unfold mailT
  repeat' split
  all_goals rfl
theorem rcpt_buf (s : Se) (r : By) : (rcptT s r).2.buf = s.buf := by
  unfold rcptT
  repeat' split
  all_goals rfl
theorem line_buf (s : Se) (l : By) : (lineT s l).2.buf = s.buf := by
  unfold lineT
  repeat' split
  all_goals first | rfl | exact mail_buf _ _ | exact rcpt_buf _ _
theorem step_buf (s : Se) : (stepT s).2.2.buf.length ≤ s.buf.length := by
  have hl := lineL_le s.buf
  unfold stepT
  repeat' split
  all_goals first
    | exact Nat.le_refl _
    | (rw [line_buf]; exact hl)
    | exact hl
    | (simp [restS, Se.cut]; done)
    | (simp; done)
theorem round_buf {s s' : Se} {l : List By} {m : List Ou} (h : roundT s = some (l, m, s')) : s'.buf.length ≤ s.buf.length := by
  unfold roundT at h
  have := step_buf s
  split at h
  · split at h
    · cases h; exact this
    · cases h; exact this
  · cases h
theorem round_ok {s s' : Se} {l : List By} {m : List Ou} (ho : s.Ok) (h : roundT s = some (l, m, s')) : s'.Ok := by
  unfold roundT at h
  have := stepT_ok ho
  split at h
  · split at h
    · cases h; exact restS_ok this
    · cases h; exact this
  · cases h
end Go.Proofs.Ytchokelpimibdaa
