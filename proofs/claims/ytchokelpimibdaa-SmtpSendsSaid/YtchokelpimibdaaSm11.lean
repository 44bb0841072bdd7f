/- Two rows of the call's own, one of texts and one of answers, that grow beside sessions. Conditions: the hypotheses of each theorem. -/
import Derived.Test.YtchokelpimibdaaSm10
namespace Go.Proofs.Ytchokelpimibdaa
open Go.RowKit
/-- the blocks that may turn: both rows, and M -/
def bl (vo vs : Value) (M : List Nat) : List Nat := vo.ownBlock.toList ++ (vs.ownBlock.toList ++ M)
theorem mem_bl {vo vs : Value} {M : List Nat} {k : Nat} : k ∈ bl vo vs M ↔ vo.ownBlock = some k ∨ vs.ownBlock = some k ∨ k ∈ M := by
  unfold bl
  simp [List.mem_append, Option.mem_toList]
theorem owns_kept {N : List Nat} {w w' : World} {base e size n : Nat} {v : Value} {xs : List Value} (h : w.ownsRow base e size v n xs) (hk : Kept N w w') (hn : ∀ k, v.ownBlock = some k → k ∉ N) : w'.ownsRow base e size v n xs := by
  refine ⟨h.1, ?_⟩
  rcases h.2 with h0 | ⟨g, cap, cur, h1, h2, h3, h4⟩
  · exact .inl h0
  · exact .inr ⟨g, cap, cur, h1, h2, hk.heap h3 (hn g (by rw [h1]; rfl)), h4⟩
section
variable {α : Type} {R : Reading α} {s e : Nat} {M N : List Nat} {w w' : World} {base : Nat} {v : Value} {xs : List α}
theorem OwnR.lt (h : OwnR R s e M w w base v xs) : ∀ k, v.ownBlock = some k → base ≤ k ∧ k < w.heap.size := by
  obtain ⟨css, _, _, h3, _⟩ := h
  exact h3.lt
theorem OwnR.keptN (h : OwnR R s e M w w base v xs) (hk : Kept N w w') (hM : ∀ k ∈ N, k ∈ M) (hv : ∀ k, v.ownBlock = some k → k ∉ N) : OwnR R s e M w' w' base v xs := by
  obtain ⟨css, h1, h2, h3, h4⟩ := h
  exact ⟨css, h1, h2, owns_kept h3 hk hv, fun k cs x h5 h6 => R.kept (h4 k cs x h5 h6) (hk.mono hM)⟩
theorem OwnR.oldN (h : OwnR R s e M w w base v xs) (hs : ∀ k ∈ N, k ∈ M ∨ w.heap.size ≤ k) : OwnR R s e N w w base v xs := by
  obtain ⟨css, h1, h2, h3, h4⟩ := h
  exact ⟨css, h1, h2, h3, fun k cs x h5 h6 => R.old (h4 k cs x h5 h6) hs⟩
end
theorem grown_kept {w w' : World} {row : Option Nat} (h : w.grownBy w' row) : Kept row.toList w w' :=
  ⟨h.os, h.tape, h.output, h.size, fun k hk hn => h.block k hk fun e => hn (by simp [← e])⟩
structure TwoR (M : List Nat) (w : World) (b : Nat) (vo vs : Value) (L : List By) (Ms : List Ou) : Prop where
  o : OwnR RSt 1 9 (bl vo vs M) w w b vo L
  s : OwnR ROu 9 39 (bl vo vs M) w w b vs Ms
  lt : ∀ k ∈ M, k < b
  le : b ≤ w.heap.size
section
variable {M N : List Nat} {w w' : World} {b p q : Nat} {vo vs vo' vs' : Value} {L : List By} {Ms : List Ou} {s : Se}
theorem TwoR.ltb (h : TwoR M w b vo vs L Ms) : ∀ k ∈ bl vo vs M, k < w.heap.size := fun k hk => by
  rcases mem_bl.1 hk with h1 | h1 | h1
  · exact (h.o.lt k h1).2
  · exact (h.s.lt k h1).2
  · exact Nat.lt_of_lt_of_le (h.lt k h1) h.le
theorem TwoR.ne (h : TwoR M w b vo vs L Ms) : ∀ k, vo.ownBlock = some k → vs.ownBlock ≠ some k := fun k h1 h2 => by
  obtain ⟨cs1, _, _, o1, _⟩ := h.o
  obtain ⟨cs2, _, _, o2, _⟩ := h.s
  rcases owns_apart o1 o2 (by decide) with h3 | h3
  · rw [h1] at h3; cases h3
  · exact h3 (by rw [h1, h2])
/-- blocks of M turn -/
theorem TwoR.kept (h : TwoR M w b vo vs L Ms) (hk : Kept N w w') (hN : ∀ k ∈ N, k ∈ M) : TwoR M w' b vo vs L Ms :=
  ⟨h.o.keptN hk (fun k hk => mem_bl.2 (.inr (.inr (hN k hk)))) (fun k hv hn => by have := (h.o.lt k hv).1; have := h.lt k (hN k hn); omega),
    h.s.keptN hk (fun k hk => mem_bl.2 (.inr (.inr (hN k hk)))) (fun k hv hn => by have := (h.s.lt k hv).1; have := h.lt k (hN k hn); omega), h.lt, Nat.le_trans h.le hk.size⟩
theorem TwoR.ext (h : TwoR M w b vo vs L Ms) (hx : Ext w w') : TwoR M w' b vo vs L Ms := h.kept (N := []) (.of_ext hx) (by simp)
/-- other blocks turn, and new ones come to M -/
theorem IsS.turn {K : List Nat} (h : IsS M w p q s) (hk : Kept K w w') (hK : ∀ k ∈ K, k ∈ M ∧ k ≠ p ∧ k ≠ q ∧ k ≠ 0) (hN : ∀ k ∈ N, k ∈ M ∨ w.heap.size ≤ k) (hp : p ∈ N) (hq : q ∈ N) (hl : ∀ k ∈ N, k < w'.heap.size) : IsS N w' p q s := by
  obtain ⟨A, c, h1, h2, h3⟩ := h.row
  have hMN : ∀ k ∈ M ++ N, k ∈ M ∨ w.heap.size ≤ k := fun k hk => by
    rcases List.mem_append.1 hk with h | h
    · exact .inl h
    · exact hN k h
  have hKM : ∀ k ∈ K, k ∈ M ++ N := fun k hk => List.mem_append_left _ (hK k hk).1
  have hpK : p ∉ K := fun h => (hK p h).2.1 rfl
  have hqK : q ∉ K := fun h => (hK q h).2.2.1 rfl
  have hmK : 0 ∉ K := fun h => (hK _ h).2.2.2 rfl
  exact ⟨⟨A, c, hk.heap h1 hpK, ((h2.old hMN).kept (hk.mono hKM)).old (fun k hk => .inl (List.mem_append_right _ hk)), h3⟩,
    ((h.ln.old hMN).kept hk hqK hKM).old (fun k hk => .inl (List.mem_append_right _ hk)), hp, hq, h.ne, hl, h.ok, h.ml.kept hk hmK, h.mp, h.mq⟩
theorem says_turn {K : List Nat} {cs : List Value} {x : Ou} (h : ROu.says M w cs x) (hk : Kept K w w') (hK : ∀ k ∈ K, k ∈ M) (hN : ∀ k ∈ N, k ∈ M ∨ w.heap.size ≤ k) : ROu.says N w' cs x :=
  ROu.old (ROu.kept (ROu.old (N := M ++ N) h fun k hk => by
    rcases List.mem_append.1 hk with h | h
    · exact .inl h
    · exact hN k h) (hk.mono fun k hk => List.mem_append_left _ (hK k hk))) fun k hk => .inl (List.mem_append_right _ hk)
theorem Kept.news {K : List Nat} {w0 : World} (h : Kept N w0 w) (k : Kept K w w') (hg : ∀ k ∈ K, w0.heap.size ≤ k) : Kept N w0 w' :=
  ((h.mono (N := K ++ N) (fun k hk => List.mem_append_right _ hk)).trans (k.mono (fun k hk => List.mem_append_left _ hk))).less fun k hk hlt => by
    rcases List.mem_append.1 hk with h | h
    · have := hg k h; omega
    · exact h
theorem NewO.rows {o : Ou} {A1 : Option Addr} {c1 : Nat} {A2 : Option Addr} {c2 : Nat} {A3 : Option Addr} {c3 : Nat} (h : NewO b w (outC o A1 c1 A2 c2 A3 c3) o) (N : List Nat) (hN : ∀ k ∈ N, k < b) : RsM RSt 1 N w A1 o.lines ∧ RsM RAd 2 N w A2 o.to_ ∧ BsM N w A3 o.bytes := by
  obtain ⟨B1, d1, B2, d2, B3, d3, e, h1, h2, h3⟩ := h N hN
  unfold outC at e
  simp only [List.cons.injEq, Value.slice.injEq, true_and, and_true] at e
  obtain ⟨⟨rfl, -⟩, ⟨rfl, -⟩, rfl, -⟩ := e
  exact ⟨h1, h2, h3⟩
/-- what an append leaves to sessions -/
def Sess (M : List Nat) (w w' : World) (B B' : List Nat) : Prop := ∀ p q s, p ∈ M → q ∈ M → IsS B w p q s → IsS B' w' p q s
theorem strT : ElemOf Try.prog 29 9 1 16 := ElemOf.mk' (z := .string ⟨#[]⟩) Try.underlying29 (by kernel_rfl) rfl (by omega)
theorem outT : ElemOf Try.prog 30 39 9 160 := ElemOf.mk' (z := .agg zOut) Try.underlying30 (by kernel_rfl) rfl (by omega)
theorem RSt.one {N : List Nat} {w : World} {css : List (List Value)} {us : List By} (hl : css.length = us.length) (h : ∀ (k : Nat) (cs : List Value) (x : By), css[k]? = some cs → us[k]? = some x → RSt.says N w cs x) : ∀ u ∈ css.flatten, u.oneCell' = true := by
  intro u hu
  simp only [List.mem_flatten] at hu
  obtain ⟨cs, hc, hu⟩ := hu
  obtain ⟨k, hk, rfl⟩ := List.mem_iff_getElem.1 hc
  have e : css[k] = _ := h k css[k] us[k] (List.getElem?_eq_getElem hk) (List.getElem?_eq_getElem (by omega))
  rw [e] at hu
  simp at hu
  subst hu
  rfl
theorem ROu.one {N : List Nat} {w : World} {css : List (List Value)} {us : List Ou} (hl : css.length = us.length) (h : ∀ (k : Nat) (cs : List Value) (x : Ou), css[k]? = some cs → us[k]? = some x → ROu.says N w cs x) : ∀ u ∈ css.flatten, u.oneCell' = true := by
  intro u hu
  simp only [List.mem_flatten] at hu
  obtain ⟨cs, hc, hu⟩ := hu
  obtain ⟨k, hk, rfl⟩ := List.mem_iff_getElem.1 hc
  obtain ⟨A1, c1, A2, c2, A3, c3, e, _⟩ := h k css[k] us[k] (List.getElem?_eq_getElem hk) (List.getElem?_eq_getElem (by omega))
  rw [e] at hu
  simp only [outC, List.mem_cons, List.not_mem_nil, or_false] at hu
  rcases hu with rfl | rfl | rfl | rfl | rfl | rfl | rfl | rfl | rfl <;> rfl
theorem says_append {α : Type} {P : List Value → α → Prop} {css css2 : List (List Value)} {xs ys : List α} (hl : css.length = xs.length) (h1 : ∀ (k : Nat) (cs : List Value) (x : α), css[k]? = some cs → xs[k]? = some x → P cs x)
    (h2 : ∀ (k : Nat) (cs : List Value) (x : α), css2[k]? = some cs → ys[k]? = some x → P cs x) : ∀ (k : Nat) (cs : List Value) (x : α), (css ++ css2)[k]? = some cs → (xs ++ ys)[k]? = some x → P cs x := by
  intro k cs x hk hx
  rw [List.getElem?_append] at hk hx
  by_cases hlt : k < css.length
  · rw [if_pos hlt] at hk
    rw [if_pos (by omega)] at hx
    exact h1 k cs x hk hx
  · rw [if_neg hlt] at hk
    rw [if_neg (by omega)] at hx
    exact h2 _ cs x hk (by rw [hl]; exact hx)
/-- texts behind the texts -/
theorem wpList_appO {P : Program} (hP : P = Try.prog) {ops : Array Oper} {rest : List Oper} {o : Oper} {a : Act} {Q : Exit → Act → World → Prop} {x y : Operand} {A : Option Addr} {c : Nat} {l : List By} (h : TwoR M w b vo vs L Ms) (hml : 0 < b) (hr : RsM RSt 1 N w A l)
    (hgd : o.guard = none) (ho : o.op = .call { callee := .builtin .append, args := #[x, y], argTypes := #[29, 29] }) (hx : a.eval x = vo) (hy : a.eval y = .slice A l.length c) (hlen : L.length + l.length ≤ 1000000)
    (hh : ∀ vo' w', TwoR M w' b vo' vs (L ++ l) Ms → Kept vo.ownBlock.toList w w' → (∀ k ∈ bl vo' vs M, k ∈ bl vo vs M ∨ w.heap.size ≤ k) → Sess M w w' (bl vo vs M) (bl vo' vs M) → wpList P ops Q rest (a.put o.dst vo') w') : wpList P ops Q (o :: rest) a w := by
  subst hP
  obtain ⟨css, q1, q2, q3, q4⟩ := h.o
  obtain ⟨css2, r1, r2, r3, r4⟩ := hr
  have hl2 := flatten_length r2
  refine wpList_app strT q3 r3.sl hgd ho hx hy (by rw [hl2, r1]) (RSt.one r1 r4) (by omega) (by omega) h.le ?_
  intro vo' w' hown hg hor
  have hk := grown_kept hg
  have hB : ∀ k ∈ bl vo' vs M, k ∈ bl vo vs M ∨ w.heap.size ≤ k := fun k hk => by
    rcases mem_bl.1 hk with h1 | h1 | h1
    · rcases hor with h2 | h2
      · exact .inl (mem_bl.2 (.inl (h2 ▸ h1)))
      · rw [h2] at h1; cases h1; exact .inr (Nat.le_refl _)
    · exact .inl (mem_bl.2 (.inr (.inl h1)))
    · exact .inl (mem_bl.2 (.inr (.inr h1)))
  have hK : ∀ k ∈ vo.ownBlock.toList, k ∈ bl vo vs M := fun k hk => mem_bl.2 (.inl (by simpa using hk))
  have hT : TwoR M w' b vo' vs (L ++ l) Ms := by
    refine ⟨⟨css ++ css2, by simp [q1, r1], fun cs hc => ?_, by simpa using hown, says_append q1 (fun k cs x h1 h2 => q4 k cs x h1 h2) (fun k cs x h1 h2 => r4 k cs x h1 h2)⟩, ?_, h.lt, Nat.le_trans h.le hk.size⟩
    · rcases List.mem_append.1 hc with h1 | h1
      · exact q2 cs h1
      · exact r2 cs h1
    · obtain ⟨cs1, s1, s2, s3, s4⟩ := h.s
      exact ⟨cs1, s1, s2, owns_kept s3 hk (fun k hv hn => h.ne k (by simpa using hn) hv), fun k cs x h1 h2 => says_turn (s4 k cs x h1 h2) hk hK hB⟩
  refine hh vo' w' hT hk hB fun p q s hp hq hs => ?_
  exact hs.turn hk (fun k hk' => by
    have hv : vo.ownBlock = some k := by simpa using hk'
    have h1 := (h.o.lt k hv).1
    have h2 := h.lt p hp
    have h3 := h.lt q hq
    exact ⟨hK k hk', by omega, by omega, by have := hml; omega⟩) hB (mem_bl.2 (.inr (.inr hp))) (mem_bl.2 (.inr (.inr hq))) hT.ltb
/-- answers behind the answers -/
theorem wpList_appS {P : Program} (hP : P = Try.prog) {ops : Array Oper} {rest : List Oper} {o : Oper} {a : Act} {Q : Exit → Act → World → Prop} {x y : Operand} {A : Option Addr} {c : Nat} {m : List Ou} (h : TwoR M w b vo vs L Ms) (hml : 0 < b) (hr : RsM ROu 9 (bl vo vs M) w A m)
    (hgd : o.guard = none) (ho : o.op = .call { callee := .builtin .append, args := #[x, y], argTypes := #[30, 30] }) (hx : a.eval x = vs) (hy : a.eval y = .slice A m.length c) (hlen : Ms.length + m.length ≤ 1000000)
    (hh : ∀ vs' w', TwoR M w' b vo vs' L (Ms ++ m) → Kept vs.ownBlock.toList w w' → (∀ k ∈ bl vo vs' M, k ∈ bl vo vs M ∨ w.heap.size ≤ k) → Sess M w w' (bl vo vs M) (bl vo vs' M) → wpList P ops Q rest (a.put o.dst vs') w') : wpList P ops Q (o :: rest) a w := by
  subst hP
  obtain ⟨css, q1, q2, q3, q4⟩ := h.s
  obtain ⟨css2, r1, r2, r3, r4⟩ := hr
  have hl2 := flatten_length r2
  refine wpList_app outT q3 r3.sl hgd ho hx hy (by rw [hl2, r1]) (ROu.one r1 r4) (by omega) (by omega) h.le ?_
  intro vs' w' hown hg hor
  have hk := grown_kept hg
  have hB : ∀ k ∈ bl vo vs' M, k ∈ bl vo vs M ∨ w.heap.size ≤ k := fun k hk => by
    rcases mem_bl.1 hk with h1 | h1 | h1
    · exact .inl (mem_bl.2 (.inl h1))
    · rcases hor with h2 | h2
      · exact .inl (mem_bl.2 (.inr (.inl (h2 ▸ h1))))
      · rw [h2] at h1; cases h1; exact .inr (Nat.le_refl _)
    · exact .inl (mem_bl.2 (.inr (.inr h1)))
  have hK : ∀ k ∈ vs.ownBlock.toList, k ∈ bl vo vs M := fun k hk => mem_bl.2 (.inr (.inl (by simpa using hk)))
  have hT : TwoR M w' b vo vs' L (Ms ++ m) := by
    refine ⟨?_, ⟨css ++ css2, by simp [q1, r1], fun cs hc => ?_, by simpa using hown, says_append q1 (fun k cs x h1 h2 => says_turn (q4 k cs x h1 h2) hk hK hB) (fun k cs x h1 h2 => says_turn (r4 k cs x h1 h2) hk hK hB)⟩, h.lt, Nat.le_trans h.le hk.size⟩
    · obtain ⟨cs1, s1, s2, s3, s4⟩ := h.o
      exact ⟨cs1, s1, s2, owns_kept s3 hk (fun k hv hn => h.ne k hv (by simpa using hn)), fun k cs x h1 h2 => s4 k cs x h1 h2⟩
    · rcases List.mem_append.1 hc with h1 | h1
      · exact q2 cs h1
      · exact r2 cs h1
  refine hh vs' w' hT hk hB fun p q s hp hq hs => ?_
  exact hs.turn hk (fun k hk' => by
    have hv : vs.ownBlock = some k := by simpa using hk'
    have h1 := (h.s.lt k hv).1
    have h2 := h.lt p hp
    have h3 := h.lt q hq
    exact ⟨hK k hk', by omega, by omega, by have := hml; omega⟩) hB (mem_bl.2 (.inr (.inr hp))) (mem_bl.2 (.inr (.inr hq))) hT.ltb
end
end Go.Proofs.Ytchokelpimibdaa
