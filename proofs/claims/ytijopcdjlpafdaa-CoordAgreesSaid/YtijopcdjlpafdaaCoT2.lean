/- Calls on what CoordTxs holds. Conditions: the hypotheses of each theorem. -/
import Derived.Test.YtijopcdjlpafdaaCoT1
namespace Go.Proofs.Ytijopcdjlpafdaa
open Go.RowKit
/-- nothing but nodes has turned -/
def Oth (w w' : World) : Prop := w.heap.size ≤ w'.heap.size ∧ ∀ (k : Nat) cs t fr, w.heap[k]? = some (.cells cs t fr) → t ≠ 72 → w'.heap[k]? = some (.cells cs t fr)
theorem Oth.ext {w w' : World} (h : Ext w w') : Oth w w' := ⟨h.size, fun _ _ _ _ h1 _ => h.obj h1⟩
theorem Oth.trans {w w' w'' : World} (h : Oth w w') (k : Oth w' w'') : Oth w w'' := ⟨Nat.le_trans h.1 k.1, fun a cs t fr h1 h2 => k.2 a cs t fr (h.2 a cs t fr h1 h2) h2⟩
theorem Oth.kept {w w' : World} {p : Nat} {cs : Array Value} (hp : w.heap[p]? = some (.cells cs 72 (0, 0))) (h : Kept [p] w w') : Oth w w' :=
  ⟨h.size, fun k cs' t fr h1 h2 => h.heap h1 (by
    simp
    rintro rfl
    rw [hp] at h1
    cases h1
    exact h2 rfl)⟩
theorem Own.oth {w w' : World} {base : Nat} {v : Value} {l : By} (h : Own w base v l) (hx : Oth w w') : Own w' base v l := by
  refine ⟨h.1, ?_⟩
  rcases h.2 with h0 | ⟨g, cap, cur, h1, h2, h3, h4⟩
  · exact .inl h0
  · exact .inr ⟨g, cap, cur, h1, h2, hx.2 _ _ _ _ h3 (by decide), h4⟩
theorem TxAt.oth {w w' : World} {g : Nat} {id : TxI} (h : TxAt w g id) (hx : Oth w w') : TxAt w' g id := hx.2 _ _ _ _ h (by decide)
section
variable {w wr w' : World} {p : Nat} {lv tv : Value} {x : Cs} {log : List By} {txs : List TxI}
theorem TMem.turn' (h : TMem w wr p lv tv x log txs) {x' : Cs} {M : List Nat} (h1 : Co M wr p x) (h2 : p ∈ M) (h3 : ∀ k ∈ M, k < wr.heap.size) (h4 : ∀ g, lv.ownBlock = some g → g ∈ M) (h5 : ∀ g, tv.ownBlock = some g → g ∈ M) (h6 : ∀ k ∈ M, w.heap.size ≤ k) (hk : Kept [p] wr w') (hc : Co M w' p x') :
    TMem w w' p lv tv x' log txs ∧ Oth wr w' := by
  obtain ⟨cs, ho⟩ := h1.obj
  exact ⟨⟨h.ex.kept hk (one_ge h.pge), h.pge, ⟨M, hc, h2, fun k hk2 => Nat.lt_of_lt_of_le (h3 k hk2) hk.size, h4, h5, h6⟩, h.lo.off ho (by decide) (by decide) hk, World.ownsRow.kept h.to hk.grown1 (owns_obj h.to ho (by decide))⟩, .kept ho hk⟩
theorem t_redo (h : TMem w wr p lv tv x log txs) (hok : x.Ok) (A : Option Addr) (c : Nat) (rec : By) (hb : Bs wr A rec) (hc : rec.length ≤ c) (hm : rec.length ≤ 140737488355328) :
    Calls Try.prog 8 #[.pointer (some ⟨p, 0, none⟩), .slice A rec.length c] wr fun e w' => e = .returned (.int .i64 (redoO x rec).1) ∧ TMem w w' p lv tv (redoO x rec).2 log txs ∧ Oth wr w' := by
  obtain ⟨M, h1, h2, h3, h4, h5, h6⟩ := h.co
  exact (CRedo_any h1 hok h2 h3 A c rec hb hc hm).mono fun e w' ⟨he, hco, hk⟩ => ⟨he, h.turn' h1 h2 h3 h4 h5 h6 hk hco⟩
theorem t_boot (h : TMem w wr p lv tv x log txs) (hok : x.Ok) :
    Calls Try.prog 9 #[.pointer (some ⟨p, 0, none⟩)] wr fun e w' => ∃ v, e = .returned (.tuple #[v, .int .i64 (bootO x).2]) ∧ Own w' w.heap.size v (bootO x).1 ∧ TMem w w' p lv tv x log txs ∧ Oth wr w' := by
  obtain ⟨M, h1, h2, h3, h4, h5, h6⟩ := h.co
  exact (CBoot_any h1 hok).mono fun e w' ⟨v, he, ho, hx⟩ => ⟨v, he, ho.low h.ex.size, h.ext hx, .ext hx⟩
theorem t_begin (h : TMem w wr p lv tv x log txs) (hok : x.Ok) (A : Option Addr) (c : Nat) (sh : List Int) (hsh : Sl w A (ib sh)) (hm : sh.length ≤ 140737488355328) :
    Calls Try.prog 10 #[.pointer (some ⟨p, 0, none⟩), .slice A sh.length c] wr fun e w' => e = .returned (.tuple #[.agg #[.int .i64 (beginT x sh).node, .int .i64 (beginT x sh).boot, .int .i64 (beginT x sh).n], .int .i64 (beginE x sh)]) ∧ TMem w w' p lv tv (beginS x sh) log txs ∧ Oth wr w' := by
  obtain ⟨M, h1, h2, h3, h4, h5, h6⟩ := h.co
  have hs : SlM M wr A (ib sh) := fun k v hk => by
    obtain ⟨ad, e, hc⟩ := hsh k v hk
    refine ⟨ad, e, fun hm => ?_, h.ex.cell hc⟩
    have := World.block_lt_of_cell? w _ hc
    rw [addr_add_block] at this
    have := h6 _ hm
    omega
  exact (CBegin_any h1 hok h2 h3 A c sh hs hm).mono fun e w' ⟨he, hco, hk⟩ => ⟨he, h.turn' h1 h2 h3 h4 h5 h6 hk hco⟩
theorem t_vote (h : TMem w wr p lv tv x log txs) (hok : x.Ok) (id : TxI) (shard : Int) (yes : Bool) :
    Calls Try.prog 11 #[.pointer (some ⟨p, 0, none⟩), .agg #[.int .i64 id.node, .int .i64 id.boot, .int .i64 id.n], .int .i64 shard, .bool yes] wr fun e w' => ∃ v, e = .returned (.tuple #[v, .int .i64 (voteO x id shard yes).e]) ∧ Own w' w.heap.size v (voteO x id shard yes).r ∧ TMem w w' p lv tv (voteO x id shard yes).s log txs ∧ Oth wr w' := by
  obtain ⟨M, h1, h2, h3, h4, h5, h6⟩ := h.co
  exact (CVote_any h1 hok h2 h3 id shard yes).mono fun e w' ⟨v, he, ho, hco, hk⟩ => ⟨v, he, ho.low h.ex.size, h.turn' h1 h2 h3 h4 h5 h6 hk hco⟩
theorem t_ack (h : TMem w wr p lv tv x log txs) (hok : x.Ok) (id : TxI) (shard : Int) :
    Calls Try.prog 12 #[.pointer (some ⟨p, 0, none⟩), .agg #[.int .i64 id.node, .int .i64 id.boot, .int .i64 id.n], .int .i64 shard] wr fun e w' => ∃ v, e = .returned (.tuple #[v, .int .i64 (ackO x id shard).e]) ∧ Own w' w.heap.size v (ackO x id shard).r ∧ TMem w w' p lv tv (ackO x id shard).s log txs ∧ Oth wr w' := by
  obtain ⟨M, h1, h2, h3, h4, h5, h6⟩ := h.co
  exact (CAck_any h1 hok h2 h3 id shard).mono fun e w' ⟨v, he, ho, hco, hk⟩ => ⟨v, he, ho.low h.ex.size, h.turn' h1 h2 h3 h4 h5 h6 hk hco⟩
end
end Go.Proofs.Ytijopcdjlpafdaa
