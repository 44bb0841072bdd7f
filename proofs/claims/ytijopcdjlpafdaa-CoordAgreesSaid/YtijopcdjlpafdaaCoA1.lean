/- What CoordAgrees holds in memory: a node, names, their shards, who said yes, their fates. Conditions: the hypotheses of each theorem. -/
import Derived.Test.YtijopcdjlpafdaaCoT2
import Derived.Test.YtijopcdjlpafdaaCoA0
namespace Go.Proofs.Ytijopcdjlpafdaa
open Go.RowKit
theorem intssT : ElemOf Try.prog 44 33 1 24 := ElemOf.mk' (z := .slice none 0 0) Try.underlying44 (by kernel_rfl) rfl (by omega)
theorem ybssT : ElemOf Try.prog 45 47 4 4 := ElemOf.mk' (z := .agg #[.bool false, .bool false, .bool false, .bool false]) Try.underlying45 (by kernel_rfl) rfl (by omega)
theorem fatesT : ElemOf Try.prog 46 48 1 8 := ElemOf.mk' (z := .int .i64 0) Try.underlying46 (by kernel_rfl) rfl (by omega)
def yb (l : List Bool) : List Value := l.map Value.bool
/-- a slice of slices of numbers, all of the call's own -/
def OwnSI (w : World) (base : Nat) (v : Value) (ls : List (List Int)) : Prop :=
  ∃ vs : List Value, w.ownsRow base 33 1 v ls.length vs ∧ ∀ (k : Nat) (l : List Int), ls[k]? = some l → ∃ u, vs[k]? = some u ∧ w.ownsRow base 3 1 u l.length (ib l)
def OwnY (w : World) (base : Nat) (v : Value) (ls : List (List Bool)) : Prop := w.ownsRow base 47 4 v ls.length (ls.flatMap yb)
def OwnF (w : World) (base : Nat) (v : Value) (ls : List Int) : Prop := w.ownsRow base 48 1 v ls.length (ib ls)
section
variable {w wr w' : World} {p base : Nat} {x : Cs}
theorem OwnSI.kept {v : Value} {ls : List (List Int)} {b : Option Nat} (h : OwnSI w base v ls) (hg : w.grownBy w' b) (h1 : ∀ e size n v xs, w.ownsRow base e size v n xs → (e = 33 ∨ e = 3) → v.ownBlock = none ∨ v.ownBlock ≠ b) : OwnSI w' base v ls := by
  obtain ⟨vs, q1, q2⟩ := h
  refine ⟨vs, q1.kept hg (h1 _ _ _ _ _ q1 (.inl rfl)), fun k l hl => ?_⟩
  obtain ⟨u, q3, q4⟩ := q2 k l hl
  exact ⟨u, q3, q4.kept hg (h1 _ _ _ _ _ q4 (.inr rfl))⟩
theorem OwnSI.ext {v : Value} {ls : List (List Int)} (h : OwnSI w base v ls) (hx : Ext w w') : OwnSI w' base v ls := by
  obtain ⟨vs, h1, h2⟩ := h
  refine ⟨vs, owns_ext h1 hx, fun k l hk => ?_⟩
  obtain ⟨u, h3, h4⟩ := h2 k l hk
  exact ⟨u, h3, owns_ext h4 hx⟩
theorem OwnSI.off {v : Value} {ls : List (List Int)} {e size n : Nat} {v2 : Value} {xs : List Value} (h : OwnSI w base v ls) (hg : w.grownBy w' v2.ownBlock) (ho : w.ownsRow base e size v2 n xs) (h1 : 33 ≠ e) (h2 : 3 ≠ e) : OwnSI w' base v ls :=
  h.kept hg fun e' _ _ _ _ hr he => by
    rcases he with rfl | rfl
    · exact owns_apart hr ho h1
    · exact owns_apart hr ho h2
/-- the node and the rows of the call's own -/
structure NMem (w wr : World) (p : Nat) (us : List Value) (x : Cs) : Prop where
  ex : Ext w wr
  pge : w.heap.size ≤ p
  co : ∃ M, Co M wr p x ∧ p ∈ M ∧ (∀ k ∈ M, k < wr.heap.size) ∧ (∀ u ∈ us, ∀ g, u.ownBlock = some g → g ∈ M) ∧ (∀ k ∈ M, w.heap.size ≤ k)
theorem NMem.sub {us vs : List Value} (h : NMem w wr p us x) (hs : ∀ u ∈ vs, u ∈ us) : NMem w wr p vs x := by
  obtain ⟨M, h1, h2, h3, h4, h5⟩ := h.co
  exact ⟨h.ex, h.pge, M, h1, h2, h3, fun u hu => h4 u (hs u hu), h5⟩
theorem NMem.ext {us : List Value} (h : NMem w wr p us x) (hx : Ext wr w') : NMem w w' p us x := by
  obtain ⟨M, h1, h2, h3, h4, h5⟩ := h.co
  exact ⟨h.ex.trans hx, h.pge, M, h1.ext hx, h2, fun k hk => Nat.lt_of_lt_of_le (h3 k hk) hx.size, h4, h5⟩
theorem NMem.grow {us : List Value} {v v' : Value} {e size n n' : Nat} {xs xs' : List Value} (h : NMem w wr p us x) (hv : v ∈ us) (he : e ≠ 72) (h1 : wr.ownsRow w.heap.size e size v n xs) (ho : w'.ownsRow w.heap.size e size v' n' xs') (hg : wr.grownBy w' v.ownBlock) (hor : v'.ownBlock = v.ownBlock ∨ v'.ownBlock = some wr.heap.size) : NMem w w' p (v' :: us) x := by
  obtain ⟨M, c1, c2, c3, c4, c5⟩ := h.co
  obtain ⟨cs, hob⟩ := c1.obj
  obtain ⟨M', d1, d2, d3, d4, d5, d6⟩ := co_grown c1 c2 c3 (c4 v hv) (owns_obj h1 hob he) hg (fun g hg => (ho.lt g hg).2) hor c5 fun g hg => (ho.lt g hg).1
  refine ⟨h.ex.own h1 (Nat.le_refl _) hg, h.pge, M', d1, d2, d3, fun u hu g hg => ?_, d6⟩
  rcases List.mem_cons.1 hu with rfl | hu
  · exact d5 g hg
  · exact d4 g (c4 u hu g hg)
theorem NMem.turn {us : List Value} (h : NMem w wr p us x) {x' : Cs} {M : List Nat} (h2 : p ∈ M) (h3 : ∀ k ∈ M, k < wr.heap.size) (h4 : ∀ u ∈ us, ∀ g, u.ownBlock = some g → g ∈ M) (h5 : ∀ k ∈ M, w.heap.size ≤ k) (hk : Kept [p] wr w') (hc : Co M w' p x') : NMem w w' p us x' :=
  ⟨h.ex.kept hk (one_ge h.pge), h.pge, M, hc, h2, fun k hk2 => Nat.lt_of_lt_of_le (h3 k hk2) hk.size, h4, h5⟩
end
/-- all of it -/
structure AMem (w wr : World) (p : Nat) (tv sv yv fv : Value) (x : Cs) (txs : List TxI) (shs : List (List Int)) (yss : List (List Bool)) (fts : List Int) : Prop where
  nm : NMem w wr p [tv, sv, yv, fv] x
  to : OwnX wr w.heap.size tv txs
  so : OwnSI wr w.heap.size sv shs
  yo : OwnY wr w.heap.size yv yss
  fo : OwnF wr w.heap.size fv fts
section
variable {w wr w' : World} {p : Nat} {tv sv yv fv : Value} {x : Cs} {txs : List TxI} {shs : List (List Int)} {yss : List (List Bool)} {fts : List Int}
theorem AMem.ext (h : AMem w wr p tv sv yv fv x txs shs yss fts) (hx : Ext wr w') : AMem w w' p tv sv yv fv x txs shs yss fts :=
  ⟨h.nm.ext hx, owns_ext h.to hx, h.so.ext hx, owns_ext h.yo hx, owns_ext h.fo hx⟩
theorem AMem.turn (h : AMem w wr p tv sv yv fv x txs shs yss fts) {x' : Cs} {M : List Nat} (h1 : Co M wr p x) (hn : NMem w w' p [tv, sv, yv, fv] x') (hk : Kept [p] wr w') : AMem w w' p tv sv yv fv x' txs shs yss fts ∧ Oth wr w' := by
  obtain ⟨cs, ho⟩ := h1.obj
  exact ⟨⟨hn, World.ownsRow.kept h.to hk.grown1 (owns_obj h.to ho (by decide)), h.so.kept hk.grown1 fun e _ _ _ _ hr he => owns_obj hr ho (by rcases he with rfl | rfl <;> decide), World.ownsRow.kept h.yo hk.grown1 (owns_obj h.yo ho (by decide)), World.ownsRow.kept h.fo hk.grown1 (owns_obj h.fo ho (by decide))⟩, .kept ho hk⟩
theorem AMem.pushT (h : AMem w wr p tv sv yv fv x txs shs yss fts) {t : TxI} {v' : Value} (ho : w'.ownsRow w.heap.size 35 3 v' (txs.length + 1) (txs.flatMap txiC ++ txiC t)) (hg : wr.grownBy w' tv.ownBlock) (hor : v'.ownBlock = tv.ownBlock ∨ v'.ownBlock = some wr.heap.size) : AMem w w' p v' sv yv fv x (txs ++ [t]) shs yss fts :=
  ⟨(h.nm.grow (by simp) (by decide) h.to ho hg hor).sub (fun u hu => by simp only [List.mem_cons, List.not_mem_nil, or_false] at hu ⊢; rcases hu with hu | hu | hu | hu <;> simp [hu]), by unfold OwnX; simpa [List.flatMap_append] using ho, h.so.off hg h.to (by decide) (by decide), World.ownsRow.kept h.yo hg (owns_apart h.yo h.to (by decide)), World.ownsRow.kept h.fo hg (owns_apart h.fo h.to (by decide))⟩
theorem AMem.pushY (h : AMem w wr p tv sv yv fv x txs shs yss fts) {t : List Bool} {v' : Value} (ho : w'.ownsRow w.heap.size 47 4 v' (yss.length + 1) (yss.flatMap yb ++ yb t)) (hg : wr.grownBy w' yv.ownBlock) (hor : v'.ownBlock = yv.ownBlock ∨ v'.ownBlock = some wr.heap.size) : AMem w w' p tv sv v' fv x txs shs (yss ++ [t]) fts :=
  ⟨(h.nm.grow (v := yv) (by simp) (by decide) h.yo ho hg hor).sub (fun u hu => by simp only [List.mem_cons, List.not_mem_nil, or_false] at hu ⊢; rcases hu with hu | hu | hu | hu <;> simp [hu]), World.ownsRow.kept h.to hg (owns_apart h.to h.yo (by decide)), h.so.off hg h.yo (by decide) (by decide), by unfold OwnY; simpa [List.flatMap_append] using ho, World.ownsRow.kept h.fo hg (owns_apart h.fo h.yo (by decide))⟩
theorem AMem.pushF (h : AMem w wr p tv sv yv fv x txs shs yss fts) {t : Int} {v' : Value} (ho : w'.ownsRow w.heap.size 48 1 v' (fts.length + 1) (ib fts ++ [.int .i64 t])) (hg : wr.grownBy w' fv.ownBlock) (hor : v'.ownBlock = fv.ownBlock ∨ v'.ownBlock = some wr.heap.size) : AMem w w' p tv sv yv v' x txs shs yss (fts ++ [t]) :=
  ⟨(h.nm.grow (v := fv) (by simp) (by decide) h.fo ho hg hor).sub (fun u hu => by simp only [List.mem_cons, List.not_mem_nil, or_false] at hu ⊢; rcases hu with hu | hu | hu | hu <;> simp [hu]), World.ownsRow.kept h.to hg (owns_apart h.to h.fo (by decide)), h.so.off hg h.fo (by decide) (by decide), World.ownsRow.kept h.yo hg (owns_apart h.yo h.fo (by decide)), by unfold OwnF; simpa [ib] using ho⟩
theorem AMem.pushS (h : AMem w wr p tv sv yv fv x txs shs yss fts) {t : List Int} {u v' : Value} {vs : List Value} (h1 : wr.ownsRow w.heap.size 33 1 sv shs.length vs) (h2 : ∀ (k : Nat) (l : List Int), shs[k]? = some l → ∃ u, vs[k]? = some u ∧ wr.ownsRow w.heap.size 3 1 u l.length (ib l)) (hu : wr.ownsRow w.heap.size 3 1 u t.length (ib t))
    (ho : w'.ownsRow w.heap.size 33 1 v' (shs.length + 1) (vs ++ [u])) (hg : wr.grownBy w' sv.ownBlock) (hor : v'.ownBlock = sv.ownBlock ∨ v'.ownBlock = some wr.heap.size) : AMem w w' p tv v' yv fv x txs (shs ++ [t]) yss fts := by
  have hl : vs.length = shs.length := by have := h1.1; omega
  refine ⟨(h.nm.grow (v := sv) (by simp) (by decide) h1 ho hg hor).sub (fun u hu => by simp only [List.mem_cons, List.not_mem_nil, or_false] at hu ⊢; rcases hu with hu | hu | hu | hu <;> simp [hu]), World.ownsRow.kept h.to hg (owns_apart h.to h1 (by decide)), ⟨vs ++ [u], by simpa using ho, fun k l hk => ?_⟩, World.ownsRow.kept h.yo hg (owns_apart h.yo h1 (by decide)), World.ownsRow.kept h.fo hg (owns_apart h.fo h1 (by decide))⟩
  rw [List.getElem?_append] at hk
  split at hk
  · rename_i hlt
    obtain ⟨u', h3, h4⟩ := h2 k l hk
    refine ⟨u', ?_, h4.kept hg (owns_apart h4 h1 (by decide))⟩
    rw [List.getElem?_append_left (by omega)]
    exact h3
  · rename_i hge
    have hk0 : k - shs.length = 0 := by
      have := (List.getElem?_eq_some_iff.1 hk).1
      simp at this
      omega
    rw [hk0] at hk
    simp at hk
    subst hk
    refine ⟨u, ?_, hu.kept hg (owns_apart hu h1 (by decide))⟩
    rw [List.getElem?_append_right (by omega), hl, hk0]
    rfl
/-- who said yes, written anew -/
theorem AMem.setY {g n c : Nat} (h : AMem w wr p tv sv (.slice (some ⟨g, 0, none⟩) n c) fv x txs shs yss fts) {k s : Nat} (hk : k < yss.length) (hs : s < 4) (h4 : ∀ l ∈ yss, l.length = 4) : AMem w (wr.setCell ⟨g, k * 4 + s, none⟩ (.bool true)) p tv sv (.slice (some ⟨g, 0, none⟩) n c) fv x txs shs (yss.set k (yss[k].set s true)) fts := by
  have hn : yss.length = n := by
    obtain ⟨A, c', e⟩ := own_form h.yo
    injection e with _ e _
    exact e.symm
  have hy := h.yo
  unfold OwnY at hy
  have hy' := hy
  rw [hn] at hy
  obtain ⟨q1, q2⟩ := World.ownsRow.stored hy (k * 4 + s) (.bool true)
  have hfl : (yss.flatMap yb).set (k * 4 + s) (.bool true) = (yss.set k (yss[k].set s true)).flatMap yb := by
    clear hy hy' q1 q2 hn h
    induction yss generalizing k with
    | nil => simp at hk
    | cons l r ih =>
      have hl : l.length = 4 := h4 l (by simp)
      cases k with
      | zero =>
        simp only [List.flatMap_cons, Nat.zero_mul, Nat.zero_add, List.set_cons_zero, List.getElem_cons_zero]
        rw [List.set_append_left _ _ (by simp [yb]; omega)]
        simp [yb, List.map_set]
      | succ k =>
        simp only [List.flatMap_cons, List.set_cons_succ, List.getElem_cons_succ]
        rw [List.set_append_right _ _ (by simp [yb]; omega), show (k + 1) * 4 + s - (yb l).length = k * 4 + s by simp [yb]; omega, ih (by simpa using hk) (fun l hl => h4 l (by simp [hl]))]
  rw [hfl] at q1
  refine ⟨(h.nm.grow (v := .slice (some ⟨g, 0, none⟩) n c) (by simp) (by decide) hy q1 q2 (.inl rfl)).sub (fun u hu => by simp only [List.mem_cons, List.not_mem_nil, or_false] at hu ⊢; rcases hu with hu | hu | hu | hu <;> simp [hu]), World.ownsRow.kept h.to q2 (owns_apart h.to hy (by decide)), h.so.off (v2 := .slice (some ⟨g, 0, none⟩) n c) q2 hy (by decide) (by decide), by unfold OwnY; rw [List.length_set, hn]; exact q1, World.ownsRow.kept h.fo q2 (owns_apart h.fo hy (by decide))⟩
theorem AMem.setF {g n c : Nat} (h : AMem w wr p tv sv yv (.slice (some ⟨g, 0, none⟩) n c) x txs shs yss fts) (k : Nat) (t : Int) : AMem w (wr.setCell ⟨g, k, none⟩ (.int .i64 t)) p tv sv yv (.slice (some ⟨g, 0, none⟩) n c) x txs shs yss (fts.set k t) := by
  have hn : fts.length = n := by
    obtain ⟨A, c', e⟩ := own_form h.fo
    injection e with _ e _
    exact e.symm
  have hy := h.fo
  unfold OwnF at hy
  rw [hn] at hy
  obtain ⟨q1, q2⟩ := World.ownsRow.stored hy k (.int .i64 t)
  rw [show (ib fts).set k (.int .i64 t) = ib (fts.set k t) by simp [ib, List.map_set]] at q1
  exact ⟨(h.nm.grow (v := .slice (some ⟨g, 0, none⟩) n c) (by simp) (by decide) hy q1 q2 (.inl rfl)).sub (fun u hu => by simp only [List.mem_cons, List.not_mem_nil, or_false] at hu ⊢; rcases hu with hu | hu | hu | hu <;> simp [hu]), World.ownsRow.kept h.to q2 (owns_apart h.to hy (by decide)), h.so.off (v2 := .slice (some ⟨g, 0, none⟩) n c) q2 hy (by decide) (by decide), World.ownsRow.kept h.yo q2 (owns_apart h.yo hy (by decide)), by unfold OwnF; rw [List.length_set, hn]; exact q1⟩
end
end Go.Proofs.Ytijopcdjlpafdaa
