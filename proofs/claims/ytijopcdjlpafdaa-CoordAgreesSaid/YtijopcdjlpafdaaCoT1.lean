/- What CoordTxs holds in memory: a node, a log, names; a script's calls. Conditions: the hypotheses of each theorem. -/
import Derived.Test.YtijopcdjlpafdaaCo17
import Derived.Test.YtijopcdjlpafdaaCoT0

namespace Go.Proofs.Ytijopcdjlpafdaa
open Go.RowKit
theorem bytessT : ElemOf Try.prog 28 23 1 24 := ElemOf.mk' (z := .slice none 0 0) Try.underlying28 (by kernel_rfl) rfl (by omega)
theorem apitxsT : ElemOf Try.prog 29 35 3 24 := ElemOf.mk' (z := .agg #[.int .i64 0, .int .i64 0, .int .i64 0]) Try.underlying29 (by kernel_rfl) rfl (by omega)
def txiC (t : TxI) : List Value := [.int .i64 t.node, .int .i64 t.boot, .int .i64 t.n]
theorem txiC_one (t : TxI) : ∀ u ∈ txiC t, u.oneCell' = true := by
  intro u hu
  simp only [txiC, List.mem_cons, List.not_mem_nil, or_false] at hu
  rcases hu with rfl | rfl | rfl <;> rfl
def OwnX (w : World) (base : Nat) (v : Value) (l : List TxI) : Prop := w.ownsRow base 35 3 v l.length (l.flatMap txiC)
theorem flat3_get (l : List TxI) : ∀ (k j : Nat), k < l.length → j < 3 → (l.flatMap txiC)[k * 3 + j]? = (txiC (l.getD k ⟨0, 0, 0⟩))[j]? := by
  induction l with
  | nil => intro k j hk; simp at hk
  | cons t l ih =>
    intro k j hk hj
    cases k with
    | zero =>
      simp only [List.flatMap_cons, Nat.zero_mul, Nat.zero_add]
      rw [List.getElem?_append_left (by simp [txiC]; omega)]
      rfl
    | succ k =>
      simp only [List.flatMap_cons]
      rw [List.getElem?_append_right (by simp [txiC]; omega), show (k + 1) * 3 + j - (txiC t).length = k * 3 + j by simp [txiC]; omega, ih k j (by simpa using hk) hj]
      rfl
theorem add_field (ad : Addr) (n k : Nat) : ad.add (n + (k + 1)) = ⟨(ad.add n).block, (ad.add n).off + (k + 1), none⟩ := by
  unfold Addr.add
  by_cases h : n = 0 <;> simp [h, Nat.add_assoc]
/-- one call of a script -/
structure Cl where
  do_ : Int
  shards : List Int
  shard : Int
  keep : Bool
  which : Nat
  tx : TxI
  bytes : By
def RCl : Reading Cl where
  says M w cs d := ∃ A c A2 c2, cs = [.int .i64 d.do_, .slice A d.shards.length c, .int .i64 d.shard, .bool d.keep, .int .u8 (d.which : Int), .int .i64 d.tx.node, .int .i64 d.tx.boot, .int .i64 d.tx.n, .slice A2 d.bytes.length c2] ∧ SlM M w A (ib d.shards) ∧ BsM M w A2 d.bytes ∧
    d.shards.length ≤ 140737488355328 ∧ d.bytes.length ≤ 140737488351232 ∧ d.bytes.length ≤ c2 ∧ d.which < 256
  kept := by
    rintro M w w' cs x ⟨A, c, A2, c2, h1, h2, h3, h4⟩ hx
    exact ⟨A, c, A2, c2, h1, h2.kept hx, BsM.kept h3 hx, h4⟩
  old := by
    rintro M N w cs x ⟨A, c, A2, c2, h1, h2, h3, h4⟩ hx
    exact ⟨A, c, A2, c2, h1, SlM.old h2 hx, SlM.old h3 hx, h4⟩
theorem RsM.cl {w : World} {A : Option Addr} {l : List Cl} (h : RsM RCl 9 [] w A l) {k : Nat} (hk : k < l.length) :
    ∃ ad A1 c1 A2 c2, A = some ad ∧ Sl w A1 (ib l[k].shards) ∧ Bs w A2 l[k].bytes ∧ l[k].shards.length ≤ 140737488355328 ∧ l[k].bytes.length ≤ 140737488351232 ∧ l[k].bytes.length ≤ c2 ∧ l[k].which < 256 ∧
      (∀ w', Ext w w' → w'.cell? (ad.add (k * 9)) = some (.int .i64 l[k].do_)) ∧
      (∀ w', Ext w w' → w'.cell? ⟨(ad.add (k * 9)).block, (ad.add (k * 9)).off + 1, none⟩ = some (.slice A1 l[k].shards.length c1)) ∧
      (∀ w', Ext w w' → w'.cell? ⟨(ad.add (k * 9)).block, (ad.add (k * 9)).off + 2, none⟩ = some (.int .i64 l[k].shard)) ∧
      (∀ w', Ext w w' → w'.cell? ⟨(ad.add (k * 9)).block, (ad.add (k * 9)).off + 3, none⟩ = some (.bool l[k].keep)) ∧
      (∀ w', Ext w w' → w'.cell? ⟨(ad.add (k * 9)).block, (ad.add (k * 9)).off + 4, none⟩ = some (.int .u8 (l[k].which : Int))) ∧
      (∀ w', Ext w w' → w'.cell? ⟨(ad.add (k * 9)).block, (ad.add (k * 9)).off + 5, none⟩ = some (.int .i64 l[k].tx.node)) ∧
      (∀ w', Ext w w' → w'.cell? ⟨(ad.add (k * 9)).block, (ad.add (k * 9)).off + 6, none⟩ = some (.int .i64 l[k].tx.boot)) ∧
      (∀ w', Ext w w' → w'.cell? ⟨(ad.add (k * 9)).block, (ad.add (k * 9)).off + 7, none⟩ = some (.int .i64 l[k].tx.n)) ∧
      (∀ w', Ext w w' → w'.cell? ⟨(ad.add (k * 9)).block, (ad.add (k * 9)).off + 8, none⟩ = some (.slice A2 l[k].bytes.length c2)) := by
  obtain ⟨ad, cs, e, _, _, hcell, A1, c1, A2, c2, rfl, h1, h2, h3, h4, h5, h6⟩ := h.at_ (by omega) hk
  refine ⟨ad, A1, c1, A2, c2, e, h1.sl, BsM.bs h2, h3, h4, h5, h6, ?_, ?_, ?_, ?_, ?_, ?_, ?_, ?_, ?_⟩
  · exact fun w' hx => hx.cell (hcell 0 _ rfl)
  · exact fun w' hx => hx.cell (by rw [← add_field ad (k * 9) 0]; exact hcell 1 _ rfl)
  · exact fun w' hx => hx.cell (by rw [← add_field ad (k * 9) 1]; exact hcell 2 _ rfl)
  · exact fun w' hx => hx.cell (by rw [← add_field ad (k * 9) 2]; exact hcell 3 _ rfl)
  · exact fun w' hx => hx.cell (by rw [← add_field ad (k * 9) 3]; exact hcell 4 _ rfl)
  · exact fun w' hx => hx.cell (by rw [← add_field ad (k * 9) 4]; exact hcell 5 _ rfl)
  · exact fun w' hx => hx.cell (by rw [← add_field ad (k * 9) 5]; exact hcell 6 _ rfl)
  · exact fun w' hx => hx.cell (by rw [← add_field ad (k * 9) 6]; exact hcell 7 _ rfl)
  · exact fun w' hx => hx.cell (by rw [← add_field ad (k * 9) 7]; exact hcell 8 _ rfl)
/-- the node, the log, the names -/
structure TMem (w wr : World) (p : Nat) (lv tv : Value) (x : Cs) (log : List By) (txs : List TxI) : Prop where
  ex : Ext w wr
  pge : w.heap.size ≤ p
  co : ∃ M, Co M wr p x ∧ p ∈ M ∧ (∀ k ∈ M, k < wr.heap.size) ∧ (∀ g, lv.ownBlock = some g → g ∈ M) ∧ (∀ g, tv.ownBlock = some g → g ∈ M) ∧ (∀ k ∈ M, w.heap.size ≤ k)
  lo : OwnS wr w.heap.size lv log
  to : OwnX wr w.heap.size tv txs
section
variable {w wr w' : World} {p : Nat} {lv tv : Value} {x : Cs} {log : List By} {txs : List TxI}
theorem TMem.ext (h : TMem w wr p lv tv x log txs) (hx : Ext wr w') : TMem w w' p lv tv x log txs := by
  obtain ⟨M, h1, h2, h3, h4, h5, h6⟩ := h.co
  exact ⟨h.ex.trans hx, h.pge, ⟨M, h1.ext hx, h2, fun k hk => Nat.lt_of_lt_of_le (h3 k hk) hx.size, h4, h5, h6⟩, h.lo.ext hx, owns_ext h.to hx⟩
theorem Co.obj {M : List Nat} (h : Co M w p x) : ∃ cs, w.heap[p]? = some (.cells cs 72 (0, 0)) := by
  obtain ⟨A, cap, h⟩ := h
  exact ⟨_, h.row⟩
theorem OwnS.off {base : Nat} {v : Value} {ls : List By} {cs : Array Value} {t : TypeId} (h : OwnS w base v ls) (hp : w.heap[p]? = some (.cells cs t (0, 0))) (h1 : 23 ≠ t) (h2 : 5 ≠ t) (hk : Kept [p] w w') : OwnS w' base v ls := by
  obtain ⟨vs, q1, q2⟩ := h
  refine ⟨vs, q1.kept hk.grown1 (owns_obj q1 hp h1), fun k l hl => ?_⟩
  obtain ⟨u, q3, q4⟩ := q2 k l hl
  exact ⟨u, q3, Own.kept q4 hk.grown1 (owns_obj q4 hp h2)⟩
theorem co_grown {M : List Nat} {v v' : Value} (h : Co M wr p x) (hp : p ∈ M) (hM : ∀ k ∈ M, k < wr.heap.size) (hv : ∀ g, v.ownBlock = some g → g ∈ M) (hvp : v.ownBlock = none ∨ v.ownBlock ≠ some p) (hg : wr.grownBy w' v.ownBlock) (hlt : ∀ g, v'.ownBlock = some g → g < w'.heap.size) (hor : v'.ownBlock = v.ownBlock ∨ v'.ownBlock = some wr.heap.size) {b : Nat} (hb : ∀ k ∈ M, b ≤ k) (hvb : ∀ g, v'.ownBlock = some g → b ≤ g) :
    ∃ M', Co M' w' p x ∧ p ∈ M' ∧ (∀ k ∈ M', k < w'.heap.size) ∧ (∀ k ∈ M, k ∈ M') ∧ (∀ g, v'.ownBlock = some g → g ∈ M') ∧ (∀ k ∈ M', b ≤ k) := by
  have hk : Kept v.ownBlock.toList wr w' := (Kept.refl _ _).grown hg fun k hk => .inl (by simp [hk])
  have h1 : Co (v'.ownBlock.toList ++ M) wr p x := h.old fun k hk => by
    rcases List.mem_append.1 hk with hk | hk
    · have hk : v'.ownBlock = some k := by simpa using hk
      rcases hor with e | e
      · exact .inl (hv k (by rw [← e, hk]))
      · rw [hk] at e; injection e with e; exact .inr (Nat.le_of_eq e.symm)
    · exact .inl hk
  refine ⟨_, h1.kept hk (by rcases hvp with e | e <;> simp [e]) (fun k hk => List.mem_append.2 (.inr (hv k (by simpa using hk)))), List.mem_append.2 (.inr hp), fun k hk2 => ?_, fun k hk => List.mem_append.2 (.inr hk), fun g hg => List.mem_append.2 (.inl (by simp [hg])), fun k hk2 => (List.mem_append.1 hk2).elim (fun h => hvb k (by simpa using h)) (hb k)⟩
  rcases List.mem_append.1 hk2 with hk2 | hk2
  · exact hlt k (by simpa using hk2)
  · exact Nat.lt_of_lt_of_le (hM k hk2) hg.size
theorem TMem.pushLog (h : TMem w wr p lv tv x log txs) {r : By} {u v' : Value} {vs : List Value} (h1 : wr.ownsRow w.heap.size 23 1 lv log.length vs) (h2 : ∀ (k : Nat) (l : By), log[k]? = some l → ∃ u, vs[k]? = some u ∧ Own wr w.heap.size u l) (hu : Own wr w.heap.size u r)
    (ho : w'.ownsRow w.heap.size 23 1 v' (log.length + 1) (vs ++ [u])) (hg : wr.grownBy w' lv.ownBlock) (hor : v'.ownBlock = lv.ownBlock ∨ v'.ownBlock = some wr.heap.size) : TMem w w' p v' tv x (log ++ [r]) txs := by
  obtain ⟨M, c1, c2, c3, c4, c5, c6⟩ := h.co
  obtain ⟨cs, hob⟩ := c1.obj
  obtain ⟨M', d1, d2, d3, d4, d5, d6⟩ := co_grown c1 c2 c3 c4 (owns_obj h1 hob (by decide)) hg (fun g hg => (ho.lt g hg).2) hor c6 fun g hg => (ho.lt g hg).1
  exact ⟨h.ex.own h1 (Nat.le_refl _) hg, h.pge, ⟨M', d1, d2, d3, d5, fun g hg => d4 g (c5 g hg), d6⟩, OwnS.push h1 h2 hu ho hg, World.ownsRow.kept h.to hg (owns_apart h.to h1 (by decide))⟩
theorem TMem.pushTx (h : TMem w wr p lv tv x log txs) {t : TxI} {v' : Value} (ho : w'.ownsRow w.heap.size 35 3 v' (txs.length + 1) (txs.flatMap txiC ++ txiC t)) (hg : wr.grownBy w' tv.ownBlock) (hor : v'.ownBlock = tv.ownBlock ∨ v'.ownBlock = some wr.heap.size) : TMem w w' p lv v' x log (txs ++ [t]) := by
  obtain ⟨M, c1, c2, c3, c4, c5, c6⟩ := h.co
  obtain ⟨cs, hob⟩ := c1.obj
  obtain ⟨M', d1, d2, d3, d4, d5, d6⟩ := co_grown c1 c2 c3 c5 (owns_obj h.to hob (by decide)) hg (fun g hg => (ho.lt g hg).2) hor c6 fun g hg => (ho.lt g hg).1
  refine ⟨h.ex.own h.to (Nat.le_refl _) hg, h.pge, ⟨M', d1, d2, d3, fun g hg => d4 g (c4 g hg), d5, d6⟩, ?_, by unfold OwnX; simpa [List.flatMap_append] using ho⟩
  obtain ⟨vs, q1, q2⟩ := h.lo
  refine ⟨vs, q1.kept hg (owns_apart q1 h.to (by decide)), fun k l hl => ?_⟩
  obtain ⟨u, q3, q4⟩ := q2 k l hl
  exact ⟨u, q3, Own.kept q4 hg (owns_apart q4 h.to (by decide))⟩
theorem TMem.tx (h : TMem w wr p lv tv x log txs) {k : Nat} (hk : k < txs.length) : ∃ ad cap, tv = .slice (some ad) txs.length cap ∧ ∀ W, Ext wr W → ∀ j v, (txiC txs[k])[j]? = some v → W.cell? ((ad.add (k * 3)).add j) = some v := by
  obtain ⟨A, cap, hv⟩ := own_form h.to
  have hs := Sl.own h.to hv
  have hg : txs.getD k ⟨0, 0, 0⟩ = txs[k] := by rw [List.getD_eq_getElem?_getD, List.getElem?_eq_getElem hk]; rfl
  obtain ⟨ad, e, _⟩ := hs (k * 3 + 0) _ (by rw [flat3_get txs k 0 hk (by omega), hg]; rfl)
  subst e
  refine ⟨ad, cap, hv, fun W hx j v hj => ?_⟩
  have hj3 : j < 3 := (List.getElem?_eq_some_iff.1 hj).1
  obtain ⟨ad', e', hc⟩ := hs (k * 3 + j) v (by rw [flat3_get txs k j hk hj3, hg]; exact hj)
  cases e'
  rw [add_addB]
  exact hx.cell hc
end
end Go.Proofs.Ytijopcdjlpafdaa
