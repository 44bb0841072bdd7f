/- What the walk of SmtpPieces leans on: what runs leave, and rows of answers read on. No program. Conditions: the hypotheses of each theorem. -/
import Derived.Test.YtchokelpimibdaaSm13
namespace Go.Proofs.Ytchokelpimibdaa
open Go.RowKit
theorem runs_buf {a b : Se} {L : List By} {M : List Ou} (h : Runs a L M b) : b.buf.length ≤ a.buf.length := by
  induction h with
  | refl s => exact Nat.le_refl _
  | step h1 _ ih => exact Nat.le_trans ih (round_buf h1)
theorem step_small {s : Se} (h : s.Ok) : (stepT s).1.lines.length ≤ 1 ∧ (stepT s).1.to_.length ≤ 4 := by
  have hl : ∀ (s : Se) (l : By), (lineT s l).1.lines.length ≤ 1 ∧ (lineT s l).1.to_.length ≤ 4 := by
    intro s l
    unfold lineT
    repeat' split
    all_goals exact ⟨Nat.le_refl _, Nat.zero_le _⟩
  have ht := h.to_
  unfold stepT
  repeat' split
  all_goals first
    | exact ⟨Nat.zero_le _, Nat.zero_le _⟩
    | exact ⟨Nat.le_refl _, Nat.zero_le _⟩
    | exact ⟨Nat.zero_le _, ht⟩
    | exact hl _ _
theorem runs_small {a b : Se} {L : List By} {M : List Ou} (h : Runs a L M b) (ha : a.Ok) : ∀ o ∈ M, o.lines.length ≤ 1 ∧ o.to_.length ≤ 4 := by
  induction h with
  | refl s => intro o ho; cases ho
  | @step s s1 s2 l L m M h1 _ ih =>
    intro o ho
    rcases List.mem_append.1 ho with h2 | h2
    · unfold roundT at h1
      split at h1
      · split at h1
        · cases h1
          simp only [List.mem_cons, List.not_mem_nil, or_false] at h2
          subst h2
          exact step_small ha
        · cases h1; cases h2
      · cases h1
    · exact ih (round_ok ha h1) o h2
/-- the last piece, and what is answered then -/
theorem runs_last {cons r : By} {L L' : List By} {M M' : List Ou} {sx s' : Se} (h : Runs (newS.app cons) L M sx) (k : Runs (feedT sx r).2 L' M' s') (hb : sx.buf.length + r.length ≤ 16384) (hr : 300 ≤ L'.length ∨ roundT s' = none) :
    ∃ s2, Runs (newS.app (cons ++ r)) (L ++ L') (M ++ M') s2 ∧ (300 ≤ L'.length ∨ roundT s2 = none) := by
  have h1 := h.app r
  rw [app_app] at h1
  by_cases h6 : sx.st = 6
  · rw [feed_over h6] at k
    obtain ⟨rfl, rfl, rfl⟩ := runs_st k h6
    exact ⟨s'.app r, by simpa using h1, .inr (over_rest h6)⟩
  · rw [feed_on h6 hb] at k
    exact ⟨s', h1.trans k, hr⟩
theorem runs_same {p : By} {L L' : List By} {M M' : List Ou} {s2 s3 : Se} {n m : Nat} (h : Runs (newS.app p) L M s2) (hr : 300 ≤ n ∨ roundT s2 = none) (hn : n ≤ L.length) (k : Runs (newS.app p) L' M' s3) (kr : 300 ≤ m ∨ roundT s3 = none) (hm : m ≤ L'.length)
    (h1 : L.length ≤ 200) (h2 : L'.length ≤ 200) : L = L' ∧ M = M' := by
  rcases hr with hr | hr
  · omega
  rcases kr with kr | kr
  · omega
  obtain ⟨e1, e2, _⟩ := h.det hr k kr
  exact ⟨e1, e2⟩
theorem RsM.turn {α : Type} {R : Reading α} {s : Nat} {M N K : List Nat} {w w' : World} {A : Option Addr} {xs : List α} (h : RsM R s M w A xs) (hk : Kept K w w') (hK : ∀ k ∈ K, k ∈ M) (hN : ∀ k ∈ N, k ∈ M ∨ w.heap.size ≤ k) : RsM R s N w' A xs :=
  RsM.old (RsM.kept (RsM.old (N := M ++ N) h fun k hk => by
    rcases List.mem_append.1 hk with h | h
    · exact .inl h
    · exact hN k h) (hk.mono fun k hk => List.mem_append_left _ (hK k hk))) fun k hk => .inl (List.mem_append_right _ hk)
section
variable {M N : List Nat} {w w' : World} {b : Nat} {vo vs : Value} {L : List By} {Ms : List Ou}
/-- what all told, read where its rows do not turn -/
theorem TwoR.readO {A : Option Addr} {c n : Nat} (h : TwoR M w b (.slice A n c) vs L Ms) (hN : ∀ k ∈ N, k ∈ M) : RsM RSt 1 N w A L :=
  (h.o.oldN (N := N) fun k hk => .inl (mem_bl.2 (.inr (.inr (hN k hk))))).rsm (Kept.refl _ _) fun k hk => h.lt k (hN k hk)
theorem TwoR.readS {A : Option Addr} {c n : Nat} (h : TwoR M w b vo (.slice A n c) L Ms) (hN : ∀ k ∈ N, k ∈ M) : RsM ROu 9 N w A Ms :=
  (h.s.oldN (N := N) fun k hk => .inl (mem_bl.2 (.inr (.inr (hN k hk))))).rsm (Kept.refl _ _) fun k hk => h.lt k (hN k hk)
end
theorem ROu.at_ {M : List Nat} {w : World} {A : Option Addr} {xs : List Ou} (h : RsM ROu 9 M w A xs) {k : Nat} (hk : k < xs.length) : ∃ ad A1 c1 A2 c2 A3 c3, A = some ad ∧ (∀ w', Ext w w' → ∀ j v, (outC xs[k] A1 c1 A2 c2 A3 c3)[j]? = some v → w'.cell? ((ad.add (k * 9)).add j) = some v) ∧
    (∀ w', Ext w w' → RsM RSt 1 M w' A1 xs[k].lines ∧ RsM RAd 2 M w' A2 xs[k].to_ ∧ BsM M w' A3 xs[k].bytes) := by
  obtain ⟨ad, cs, e, _, _, hc, A1, c1, A2, c2, A3, c3, rfl, h1, h2, h3⟩ := h.at_ (by omega) hk
  exact ⟨ad, A1, c1, A2, c2, A3, c3, e, fun w' hx j v hj => by rw [add_addB]; exact hx.cell (hc j v hj), fun w' hx => ⟨h1.kept (.of_ext hx), h2.kept (.of_ext hx), h3.kept (.of_ext hx)⟩⟩
theorem app_ok {p : By} (h : p.length ≤ 16384) : (newS.app p).Ok := ⟨by simpa [Se.app, Se.cut, newS] using h, Nat.zero_le _, fun a ha => (by cases ha), Nat.zero_le _⟩
theorem app_len (p : By) : (newS.app p).buf.length = p.length := by simp [Se.app, Se.cut, newS]
end Go.Proofs.Ytchokelpimibdaa
