/- Calls on what CoordAgrees holds; what is read of it. Conditions: the hypotheses of each theorem. -/
import Derived.Test.YtijopcdjlpafdaaCoA1
namespace Go.Proofs.Ytijopcdjlpafdaa
open Go.RowKit
section
variable {w wr w' : World} {p : Nat} {tv sv yv fv : Value} {x : Cs} {txs : List TxI} {shs : List (List Int)} {yss : List (List Bool)} {fts : List Int}

theorem a_redo (h : AMem w wr p tv sv yv fv x txs shs yss fts) (hok : x.Ok) (A : Option Addr) (c : Nat) (rec : By) (hb : Bs wr A rec) (hc : rec.length ≤ c) (hm : rec.length ≤ 140737488355328) :
    Calls Try.prog 8 #[.pointer (some ⟨p, 0, none⟩), .slice A rec.length c] wr fun e w' => e = .returned (.int .i64 (redoO x rec).1) ∧ AMem w w' p tv sv yv fv (redoO x rec).2 txs shs yss fts ∧ Oth wr w' := by
  obtain ⟨M, h1, h2, h3, h4, h5⟩ := h.nm.co
  exact (CRedo_any h1 hok h2 h3 A c rec hb hc hm).mono fun e w' ⟨he, hco, hk⟩ => ⟨he, h.turn h1 (h.nm.turn h2 h3 h4 h5 hk hco) hk⟩

theorem a_boot (h : AMem w wr p tv sv yv fv x txs shs yss fts) (hok : x.Ok) :
    Calls Try.prog 9 #[.pointer (some ⟨p, 0, none⟩)] wr fun e w' => ∃ v, e = .returned (.tuple #[v, .int .i64 (bootO x).2]) ∧ Own w' w.heap.size v (bootO x).1 ∧ AMem w w' p tv sv yv fv x txs shs yss fts ∧ Oth wr w' := by
  obtain ⟨M, h1, h2, h3, h4, h5⟩ := h.nm.co
  exact (CBoot_any h1 hok).mono fun e w' ⟨v, he, ho, hx⟩ => ⟨v, he, ho.low h.nm.ex.size, h.ext hx, .ext hx⟩

theorem a_begin (h : AMem w wr p tv sv yv fv x txs shs yss fts) (hok : x.Ok) (A : Option Addr) (c : Nat) (sh : List Int) (hsh : Sl w A (ib sh)) (hm : sh.length ≤ 140737488355328) :
    Calls Try.prog 10 #[.pointer (some ⟨p, 0, none⟩), .slice A sh.length c] wr fun e w' => e = .returned (.tuple #[.agg #[.int .i64 (beginT x sh).node, .int .i64 (beginT x sh).boot, .int .i64 (beginT x sh).n], .int .i64 (beginE x sh)]) ∧ AMem w w' p tv sv yv fv (beginS x sh) txs shs yss fts ∧ Oth wr w' := by
  obtain ⟨M, h1, h2, h3, h4, h5⟩ := h.nm.co
  have hs : SlM M wr A (ib sh) := fun k v hk => by
    obtain ⟨ad, e, hc⟩ := hsh k v hk
    refine ⟨ad, e, fun hm => ?_, h.nm.ex.cell hc⟩
    have := World.block_lt_of_cell? w _ hc
    rw [addr_add_block] at this
    have := h5 _ hm
    omega
  exact (CBegin_any h1 hok h2 h3 A c sh hs hm).mono fun e w' ⟨he, hco, hk⟩ => ⟨he, h.turn h1 (h.nm.turn h2 h3 h4 h5 hk hco) hk⟩

theorem a_vote (h : AMem w wr p tv sv yv fv x txs shs yss fts) (hok : x.Ok) (id : TxI) (shard : Int) (yes : Bool) :
    Calls Try.prog 11 #[.pointer (some ⟨p, 0, none⟩), .agg #[.int .i64 id.node, .int .i64 id.boot, .int .i64 id.n], .int .i64 shard, .bool yes] wr fun e w' => ∃ v, e = .returned (.tuple #[v, .int .i64 (voteO x id shard yes).e]) ∧ Own w' w.heap.size v (voteO x id shard yes).r ∧ AMem w w' p tv sv yv fv (voteO x id shard yes).s txs shs yss fts ∧ Oth wr w' := by
  obtain ⟨M, h1, h2, h3, h4, h5⟩ := h.nm.co
  exact (CVote_any h1 hok h2 h3 id shard yes).mono fun e w' ⟨v, he, ho, hco, hk⟩ => ⟨v, he, ho.low h.nm.ex.size, h.turn h1 (h.nm.turn h2 h3 h4 h5 hk hco) hk⟩

theorem a_ack (h : AMem w wr p tv sv yv fv x txs shs yss fts) (hok : x.Ok) (id : TxI) (shard : Int) :
    Calls Try.prog 12 #[.pointer (some ⟨p, 0, none⟩), .agg #[.int .i64 id.node, .int .i64 id.boot, .int .i64 id.n], .int .i64 shard] wr fun e w' => ∃ v, e = .returned (.tuple #[v, .int .i64 (ackO x id shard).e]) ∧ Own w' w.heap.size v (ackO x id shard).r ∧ AMem w w' p tv sv yv fv (ackO x id shard).s txs shs yss fts ∧ Oth wr w' := by
  obtain ⟨M, h1, h2, h3, h4, h5⟩ := h.nm.co
  exact (CAck_any h1 hok h2 h3 id shard).mono fun e w' ⟨v, he, ho, hco, hk⟩ => ⟨v, he, ho.low h.nm.ex.size, h.turn h1 (h.nm.turn h2 h3 h4 h5 hk hco) hk⟩

theorem a_drop (h : AMem w wr p tv sv yv fv x txs shs yss fts) (hok : x.Ok) (id : TxI) :
    Calls Try.prog 14 #[.pointer (some ⟨p, 0, none⟩), .agg #[.int .i64 id.node, .int .i64 id.boot, .int .i64 id.n]] wr fun e w' => e = .returned (.int .i64 (dropO x id).1) ∧ AMem w w' p tv sv yv fv (dropO x id).2 txs shs yss fts ∧ Oth wr w' := by
  obtain ⟨M, h1, h2, h3, h4, h5⟩ := h.nm.co
  exact (CDrop_any h1 hok h2 h3 id).mono fun e w' ⟨he, hco, hk⟩ => ⟨he, h.turn h1 (h.nm.turn h2 h3 h4 h5 hk hco) hk⟩

theorem a_ask (h : AMem w wr p tv sv yv fv x txs shs yss fts) (hok : x.Ok) (id : TxI) :
    Calls Try.prog 15 #[.pointer (some ⟨p, 0, none⟩), .agg #[.int .i64 id.node, .int .i64 id.boot, .int .i64 id.n]] wr fun e w' => e = .returned (.int .i64 (askF x id)) ∧ AMem w w' p tv sv yv fv x txs shs yss fts ∧ Ext wr w' := by
  obtain ⟨M, h1, h2, h3, h4, h5⟩ := h.nm.co
  exact (CAsk_any h1 id (by have := hok.few; omega)).mono fun e w' ⟨he, hx⟩ => ⟨he, h.ext hx, hx⟩

/-! ## what is read -/
theorem AMem.tx (h : AMem w wr p tv sv yv fv x txs shs yss fts) {k : Nat} (hk : k < txs.length) : ∃ ad cap, tv = .slice (some ad) txs.length cap ∧ ∀ W, Ext wr W → ∀ j v, (txiC txs[k])[j]? = some v → W.cell? ((ad.add (k * 3)).add j) = some v := by
  obtain ⟨A, cap, hv⟩ := own_form h.to
  have hs := Sl.own h.to hv
  have hg : txs.getD k ⟨0, 0, 0⟩ = txs[k] := by rw [List.getD_eq_getElem?_getD, List.getElem?_eq_getElem hk]; rfl
  obtain ⟨ad, e, _⟩ := hs (k * 3 + 0) _ (by rw [flat3_get txs k 0 hk (by omega), hg]; rfl)
  subst e
  refine ⟨ad, cap, hv, fun W hx j v hj => ?_⟩
  have hj3 : j < 3 := (List.getElem?_eq_some_iff.1 hj).1
  obtain ⟨ad', e', hc⟩ := hs (k * 3 + j) v (by rw [flat3_get txs k j hk hj3, hg]; exact hj)
  cases e'
  rw [add_addB]
  exact hx.cell hc
theorem OwnSI.at_ {base : Nat} {A : Option Addr} {n c : Nat} (h : OwnSI wr base (.slice A n c) shs) {k : Nat} (hk : k < shs.length) : ∃ ad A' c', A = some ad ∧ Sl wr A' (ib shs[k]) ∧ ∀ W, Ext wr W → W.cell? (ad.add k) = some (.slice A' shs[k].length c') := by
  obtain ⟨vs, h1, h2⟩ := h
  obtain ⟨u, h3, h4⟩ := h2 k _ (List.getElem?_eq_getElem hk)
  obtain ⟨ad, e, hc⟩ := Sl.own h1 rfl k u h3
  obtain ⟨A', c', rfl⟩ := own_form h4
  exact ⟨ad, A', c', e, Sl.own h4 rfl, fun W hx => hx.cell hc⟩
theorem flatY_get : ∀ (l : List (List Bool)) (k s : Nat) (hk : k < l.length), s < 4 → (∀ r ∈ l, r.length = 4) → (l.flatMap yb)[k * 4 + s]? = some (.bool (l[k].getD s false))
  | [], k, s, hk, _, _ => by simp at hk
  | r :: l, k, s, hk, hs, h4 => by
    have hr := h4 r (by simp)
    cases k with
    | zero =>
      simp only [List.flatMap_cons, Nat.zero_mul, Nat.zero_add, List.getElem_cons_zero]
      rw [List.getElem?_append_left (by simp [yb]; omega)]
      simp [yb, List.getD, show s < r.length by omega]
    | succ k =>
      simp only [List.flatMap_cons, List.getElem_cons_succ]
      rw [List.getElem?_append_right (by simp [yb]; omega), show (k + 1) * 4 + s - (yb r).length = k * 4 + s by simp [yb]; omega]
      exact flatY_get l k s (by simpa using hk) hs fun r hr => h4 r (by simp [hr])
theorem OwnY.at_ {base n c : Nat} {A : Option Addr} (h : OwnY wr base (.slice A n c) yss) (h4 : ∀ r ∈ yss, r.length = 4) {k : Nat} (hk : k < yss.length) : ∃ g, A = some ⟨g, 0, none⟩ ∧ (∀ s, s < 4 → wr.cell? ⟨g, k * 4 + s, none⟩ = some (.bool (yss[k].getD s false))) ∧ (∀ s, wr.frozen? ⟨g, s, none⟩ = false) ∧ n = yss.length := by
  rcases h.2 with ⟨e, hn⟩ | ⟨g, cap, cur, e, _⟩
  · omega
  · injection e with e1 e2 e3
    subst e1 e2 e3
    refine ⟨g, rfl, fun s hs => ?_, fun s => World.ownsRow.frozenAt h s, rfl⟩
    rw [World.ownsRow.cellAt h (k * 4 + s) (by omega)]
    exact flatY_get yss k s hk hs h4
theorem OwnF.at_ {base n c : Nat} {A : Option Addr} (h : OwnF wr base (.slice A n c) fts) {k : Nat} (hk : k < fts.length) : ∃ g, A = some ⟨g, 0, none⟩ ∧ wr.cell? ⟨g, k, none⟩ = some (.int .i64 fts[k]) ∧ wr.frozen? ⟨g, k, none⟩ = false := by
  rcases h.2 with ⟨e, hn⟩ | ⟨g, cap, cur, e, _⟩
  · omega
  · injection e with e1 e2 e3
    subst e1 e2 e3
    refine ⟨g, rfl, ?_, World.ownsRow.frozenAt h k⟩
    rw [World.ownsRow.cellAt h k (by omega)]
    exact ib_get hk
end
end Go.Proofs.Ytijopcdjlpafdaa
