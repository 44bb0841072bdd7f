/- Rows of whole pages in memory, written in their middle; disk.Disk in memory. Each holds for every program and world; the conditions are the hypotheses of each theorem. -/
import Derived.Test.YtklodimokhndoaaMem
import Derived.Deep.MidRow
import Derived.Deep.WholeRow
import Derived.Laws.CopyOwn
namespace Go.Proofs.Ytklodimokhndoaa
open Go.RowKit
/-! ## rows written in their middle -/
theorem splice_cons {α : Type} (L : List α) (o : Nat) (v : α) (r : List α) (h : o < L.length) : splice L o (v :: r) = splice (L.set o v) (o + 1) r := by
  unfold splice
  apply List.ext_getElem?
  intro j
  simp only [List.getElem?_append, List.length_take, List.length_set, List.getElem?_take, List.getElem?_set, List.length_cons, List.getElem?_drop, List.getElem?_cons]
  have e1 : min o L.length = o := by omega
  rw [e1]
  by_cases h1 : j < o
  · simp [h1, show j < o + 1 by omega, show ¬ o = j by omega, show min (o + 1) L.length = o + 1 by omega]
  · by_cases h2 : j = o
    · subst h2
      simp [show min (j + 1) L.length = j + 1 by omega, h]
    · have : min (o + 1) L.length = o + 1 := by omega
      rw [this]
      simp only [h1, show ¬ j < o + 1 by omega, if_false, show ¬ j - o = 0 by omega, show j - o - 1 = j - (o + 1) by omega]
      by_cases h3 : j - o < r.length + 1
      · simp [h3, show j - (o + 1) < r.length by omega]
      · simp only [h3, show ¬ j - (o + 1) < r.length by omega, if_false]
        rw [if_neg (by omega)]
        congr 1
        omega
section
variable {w : World} {base e s g cap n : Nat} {xs : List Value}
theorem own_range (h : w.ownsRow base e s (.slice (some ⟨g, 0, none⟩) n cap) n xs) (o m : Nat) : w.rangeAt g o ((xs.drop o).take m) := fun j v hv => by
  rw [List.getElem?_take] at hv
  split at hv
  · rw [List.getElem?_drop] at hv
    have hl := (List.getElem?_eq_some_iff.1 hv).1
    rw [h.cellAt (o + j) (by rw [← h.1]; exact hl)]
    exact hv
  · cases hv
theorem own_there (h : w.ownsRow base e s (.slice (some ⟨g, 0, none⟩) n cap) n xs) (o m : Nat) (hm : o + m ≤ xs.length) : w.there g o m := fun j hj => by
  refine ⟨?_, h.frozenAt _⟩
  rw [h.cellAt (o + j) (by rw [← h.1]; omega), List.getElem?_eq_getElem (by omega)]
  rfl
theorem own_setCells : ∀ (vs : List Value) (o : Nat) (w : World) (xs : List Value), w.ownsRow base e s (.slice (some ⟨g, 0, none⟩) n cap) n xs → o + vs.length ≤ xs.length →
    (w.setCells g o vs).ownsRow base e s (.slice (some ⟨g, 0, none⟩) n cap) n (splice xs o vs)
  | [], o, w, xs, h, _ => by simpa [splice, World.setCells] using h
  | v :: r, o, w, xs, h, hl => by
    simp only [List.length_cons] at hl
    rw [World.setCells, splice_cons _ _ _ _ (by omega)]
    exact own_setCells r (o + 1) _ _ (h.stored o v).1 (by simp; omega)
theorem setCells_size (g : Nat) : ∀ (vs : List Value) (o : Nat) (w : World), (w.setCells g o vs).heap.size = w.heap.size
  | [], _, _ => rfl
  | v :: r, o, w => by rw [World.setCells, setCells_size g r]; simp
theorem kept_setCells {M : List Nat} {w0 : World} (hg : g ∈ M ∨ w0.heap.size ≤ g) : ∀ (vs : List Value) (o : Nat) (w : World), Kept M w0 w → Kept M w0 (w.setCells g o vs)
  | [], _, _, h => h
  | v :: r, o, w, h => by
    rw [World.setCells]
    exact kept_setCells hg r _ _ (h.setCell hg v)
end
theorem splice_mid {α : Type} (A c B : List α) (j : Nat) (vs : List α) (h : j + vs.length ≤ c.length) : splice (A ++ (c ++ B)) (A.length + j) vs = A ++ (splice c j vs ++ B) := by
  unfold splice
  rw [List.take_append, List.drop_append, List.take_of_length_le (by omega), List.drop_of_length_le (l := A) (by omega), show A.length + j - A.length = j by omega,
    show A.length + j + vs.length - A.length = j + vs.length by omega, List.take_append_of_le_length (by omega), List.drop_append_of_le_length (by omega)]
  simp
theorem flat_split {α : Type} {css : List (List α)} {k : Nat} (hk : k < css.length) : css.flatten = (css.take k).flatten ++ (css[k] ++ (css.drop (k + 1)).flatten) := by
  have h : css.flatten = (css.take k ++ css.drop k).flatten := by rw [List.take_append_drop]
  rw [h, List.drop_eq_getElem_cons hk, List.flatten_append, List.flatten_cons]
theorem flat_take_len {α : Type} {css : List (List α)} {s k : Nat} (hs : ∀ cs ∈ css, cs.length = s) (hk : k ≤ css.length) : (css.take k).flatten.length = k * s := by
  have : ∀ (l : List (List α)), (∀ cs ∈ l, cs.length = s) → l.flatten.length = l.length * s := by
    intro l
    induction l with
    | nil => simp
    | cons c l ih => intro h; simp only [List.flatten_cons, List.length_append, List.length_cons]; rw [ih (fun cs hc => h cs (by simp [hc])), h c (by simp), Nat.succ_mul]; omega
  rw [this _ (fun cs hc => hs cs (List.mem_of_mem_take hc)), List.length_take, Nat.min_eq_left hk]
theorem flat_splice {α : Type} {css : List (List α)} {s k : Nat} (hs : ∀ cs ∈ css, cs.length = s) (hk : k < css.length) (j : Nat) (vs : List α) (h : j + vs.length ≤ s) : splice css.flatten (k * s + j) vs = (css.set k (splice css[k] j vs)).flatten := by
  have hl := flat_take_len hs (Nat.le_of_lt hk)
  rw [flat_split hk, ← hl, splice_mid _ _ _ _ _ (by rw [hs _ (List.getElem_mem hk)]; exact h)]
  rw [List.set_eq_take_append_cons_drop, if_pos hk]
  simp
theorem flat_elem {α : Type} {css : List (List α)} {s k : Nat} (hs : ∀ cs ∈ css, cs.length = s) (hk : k < css.length) : (css.flatten.drop (k * s)).take s = css[k] := by
  have hl := flat_take_len hs (Nat.le_of_lt hk)
  rw [flat_split hk, ← hl, List.drop_append_of_le_length (Nat.le_refl _), List.drop_of_length_le (Nat.le_refl _), List.nil_append, List.take_append_of_le_length (by rw [hs _ (List.getElem_mem hk)]; exact Nat.le_refl _),
    List.take_of_length_le (by rw [hs _ (List.getElem_mem hk)]; exact Nat.le_refl _)]
theorem flat_len {α : Type} {css : List (List α)} {s : Nat} (hs : ∀ cs ∈ css, cs.length = s) : css.flatten.length = css.length * s := by
  have := flat_take_len hs (Nat.le_refl _)
  rwa [List.take_length] at this
theorem bv_splice (a : List UInt8) (o : Nat) (b : List UInt8) : splice (bv a) o (bv b) = bv (splice a o b) := by
  unfold splice
  simp [bv_append, bv_take, bv_drop]
theorem range_ext {w w' : World} {g o : Nat} {cs : List Value} (h : w.rangeAt g o cs) (hx : Ext w w') : w'.rangeAt g o cs := fun j v hv => hx.cell (h j v hv)
theorem range_kept {M : List Nat} {w w' : World} {g o : Nat} {cs : List Value} (h : w.rangeAt g o cs) (hx : Kept M w w') (hg : g ∉ M) : w'.rangeAt g o cs := fun j v hv => hx.cell (h j v hv) hg
/-! ## the disk -/
def zpage : List UInt8 := List.replicate 64 0
def wc (x : Nat × List UInt8) : List Value := .int .i64 (x.1 : Int) :: bv x.2
def pcs (l : List (List UInt8)) : List Value := (l.map bv).flatten
def wcs (l : List (Nat × List UInt8)) : List Value := (l.map wc).flatten
structure Dk where
  sure : List (List UInt8)
  waits : List (Nat × List UInt8)
  down : Bool
  cut : Nat
  age : Nat
/-- a disk whose pages have 64 bytes, and whose writes go to pages that are there -/
structure Dk.Ok (s : Dk) : Prop where
  page : ∀ p ∈ s.sure, p.length = 64
  wait : ∀ x ∈ s.waits, x.2.length = 64 ∧ x.1 < s.sure.length
  n1 : 1 ≤ s.sure.length
  n2 : s.sure.length ≤ 512
structure IsDk (B : List Nat) (w : World) (p : Nat) (s : Dk) (g cap : Nat) (v : Value) : Prop where
  row : w.heap[p]? = some (.cells #[.slice (some ⟨g, 0, none⟩) s.sure.length cap, v, .bool s.down, .int .i64 s.cut, .int .i64 s.age] 68 (0, 0))
  own1 : w.ownsRow 0 104 64 (.slice (some ⟨g, 0, none⟩) s.sure.length cap) s.sure.length (pcs s.sure)
  own2 : w.ownsRow 0 106 65 v s.waits.length (wcs s.waits)
  pB : p ∈ B
  gB : g ∈ B
  vB : ∀ k, v.ownBlock = some k → k ∈ B
  lt : ∀ k ∈ B, k < w.heap.size
/-- the disk at p is s; its blocks are those of B -/
def Disk (B : List Nat) (w : World) (p : Nat) (s : Dk) : Prop := ∃ g cap v, IsDk B w p s g cap v
/-- behind a call on a disk -/
structure Turn (B : List Nat) (w : World) (B' : List Nat) (w' : World) : Prop where
  kept : Kept B w w'
  sub : ∀ k ∈ B, k ∈ B'
  new : ∀ k ∈ B', k ∈ B ∨ w.heap.size ≤ k
theorem Turn.refl (B : List Nat) (w : World) : Turn B w B w := ⟨Kept.refl _ _, fun _ h => h, fun _ h => .inl h⟩
theorem Turn.trans {B B' B'' : List Nat} {w w' w'' : World} (h : Turn B w B' w') (k : Turn B' w' B'' w'') : Turn B w B'' w'' := by
  refine ⟨?_, fun x hx => k.sub x (h.sub x hx), fun x hx => ?_⟩
  · refine ⟨k.kept.os.trans h.kept.os, k.kept.tape.trans h.kept.tape, k.kept.output.trans h.kept.output, Nat.le_trans h.kept.size k.kept.size, fun i hi hn => (k.kept.block i (Nat.lt_of_lt_of_le hi h.kept.size) ?_).trans (h.kept.block i hi hn)⟩
    intro hm
    rcases h.new i hm with h1 | h1
    · exact hn h1
    · omega
  · rcases k.new x hx with h1 | h1
    · exact h.new x h1
    · exact .inr (Nat.le_trans h.kept.size h1)
theorem Turn.of_ext {B : List Nat} {w w' : World} (h : Ext w w') : Turn B w B w' := ⟨.of_ext h, fun _ h => h, fun _ h => .inl h⟩
theorem Turn.ext {B B' : List Nat} {w w' w'' : World} (h : Turn B w B' w') (k : Ext w' w'') : Turn B w B' w'' := ⟨h.kept.ext k, h.sub, h.new⟩
theorem Turn.of_kept {B : List Nat} {w w' : World} (h : Kept B w w') : Turn B w B w' := ⟨h, fun _ h => h, fun _ h => .inl h⟩
/-- what is read of blocks that are no disk's -/
theorem Turn.sl {B B' : List Nat} {w w' : World} {A : Option Addr} {xs : List Value} (h : SlM B w A xs) (t : Turn B w B' w') : SlM B' w' A xs :=
  (h.old t.new).kept (t.kept.mono t.sub)
theorem Turn.bs {B B' : List Nat} {w w' : World} {A : Option Addr} {l : List UInt8} (h : BsM B w A l) (t : Turn B w B' w') : BsM B' w' A l := Turn.sl h t
/-- all of a disk's blocks are new: nothing old has turned -/
theorem Turn.to_ext {B B' : List Nat} {w0 w w' : World} (h : Ext w0 w) (t : Turn B w B' w') (hB : ∀ k ∈ B, w0.heap.size ≤ k) : Ext w0 w' ∧ ∀ k ∈ B', w0.heap.size ≤ k :=
  ⟨h.kept t.kept hB, fun k hk => by
    rcases t.new k hk with h1 | h1
    · exact hB k h1
    · exact Nat.le_trans h.size h1⟩
theorem bv_len64 {l : List (List UInt8)} (h : ∀ p ∈ l, p.length = 64) : ∀ cs ∈ l.map bv, cs.length = 64 := by
  intro cs hc
  obtain ⟨p, hp, rfl⟩ := List.mem_map.1 hc
  simp [h p hp]
theorem wc_len65 {l : List (Nat × List UInt8)} (h : ∀ x ∈ l, x.2.length = 64) : ∀ cs ∈ l.map wc, cs.length = 65 := by
  intro cs hc
  obtain ⟨p, hp, rfl⟩ := List.mem_map.1 hc
  simp [wc, h p hp]
theorem pcs_len {l : List (List UInt8)} (h : ∀ p ∈ l, p.length = 64) : (pcs l).length = l.length * 64 := by
  rw [pcs, flat_len (bv_len64 h)]; simp
theorem wcs_len {l : List (Nat × List UInt8)} (h : ∀ x ∈ l, x.2.length = 64) : (wcs l).length = l.length * 65 := by
  rw [wcs, flat_len (wc_len65 h)]; simp
section
variable {B : List Nat} {w w' : World} {p g cap : Nat} {s : Dk} {v : Value}
theorem IsDk.mono {B' : List Nat} (h : IsDk B w p s g cap v) (hs : ∀ k ∈ B, k ∈ B') (hl : ∀ k ∈ B', k < w.heap.size) : IsDk B' w p s g cap v :=
  ⟨h.row, h.own1, h.own2, hs _ h.pB, hs _ h.gB, fun k hk => hs _ (h.vB k hk), hl⟩
theorem IsDk.ext (h : IsDk B w p s g cap v) (hx : Ext w w') : IsDk B w' p s g cap v :=
  ⟨hx.obj h.row, owns_ext h.own1 hx, owns_ext h.own2 hx, h.pB, h.gB, h.vB, fun k hk => Nat.lt_of_lt_of_le (h.lt k hk) hx.size⟩
theorem IsDk.kept {M : List Nat} (h : IsDk B w p s g cap v) (hx : Kept M w w') (hM : ∀ k ∈ B, k ∉ M) : IsDk B w' p s g cap v := by
  refine ⟨hx.heap h.row (hM _ h.pB), ?_, ?_, h.pB, h.gB, h.vB, fun k hk => Nat.lt_of_lt_of_le (h.lt k hk) hx.size⟩
  · obtain ⟨h1, h2⟩ := h.own1
    refine ⟨h1, ?_⟩
    rcases h2 with h2 | ⟨g', cap', cur, e, hb, hg, h3⟩
    · exact .inl h2
    · refine .inr ⟨g', cap', cur, e, hb, hx.heap hg ?_, h3⟩
      have : g = g' := by injection e with e; injection e with e; injection e
      exact this ▸ hM _ h.gB
  · obtain ⟨h1, h2⟩ := h.own2
    refine ⟨h1, ?_⟩
    rcases h2 with h2 | ⟨g', cap', cur, e, hb, hg, h3⟩
    · exact .inl h2
    · exact .inr ⟨g', cap', cur, e, hb, hx.heap hg (hM _ (h.vB g' (by rw [e]; rfl))), h3⟩
theorem IsDk.apart1 (h : IsDk B w p s g cap v) : g ≠ p := by
  rcases owns_obj h.own1 h.row (by decide) with h | h
  · cases h
  · exact fun e => h (by rw [e]; rfl)
theorem IsDk.apart2 (h : IsDk B w p s g cap v) : ∀ k, v.ownBlock = some k → k ≠ p ∧ k ≠ g := by
  intro k hk
  constructor
  · rcases owns_obj h.own2 h.row (by decide) with h | h
    · rw [hk] at h; cases h
    · exact fun e => h (by rw [hk, e])
  · rcases owns_apart h.own2 h.own1 (by decide) with h | h
    · rw [hk] at h; cases h
    · exact fun e => h (by rw [hk, e]; rfl)
/-- the disk's own block turns: its rows stand -/
theorem IsDk.turned {s' : Dk} (h : IsDk B w p s g cap v) (hx : Kept [p] w w') (e1 : s'.sure = s.sure) (e2 : s'.waits = s.waits)
    (hr : w'.heap[p]? = some (.cells #[.slice (some ⟨g, 0, none⟩) s.sure.length cap, v, .bool s'.down, .int .i64 s'.cut, .int .i64 s'.age] 68 (0, 0))) : IsDk B w' p s' g cap v := by
  have hgr : w.grownBy w' (some p) := ⟨hx.os, hx.tape, hx.output, hx.size, fun k hk hne => hx.block k hk (by simpa using fun e => hne (by rw [e]))⟩
  have h2 : v.ownBlock = none ∨ v.ownBlock ≠ some p := by
    cases hv : v.ownBlock with
    | none => exact .inl rfl
    | some k => exact .inr (by have := (h.apart2 k hv).1; simpa using this)
  exact ⟨by rw [e1]; exact hr, by rw [e1]; exact h.own1.kept hgr (.inr (by simpa [Value.ownBlock] using h.apart1)), by rw [e2]; exact h.own2.kept hgr h2, h.pB, h.gB, h.vB, fun k hk => Nat.lt_of_lt_of_le (h.lt k hk) hx.size⟩
theorem IsDk.cells (h : IsDk B w p s g cap v) : (∀ w', Ext w w' → w'.cell? ⟨p, 0, none⟩ = some (.slice (some ⟨g, 0, none⟩) s.sure.length cap)) ∧ (∀ w', Ext w w' → w'.cell? ⟨p, 1, none⟩ = some v) ∧
    (∀ w', Ext w w' → w'.cell? ⟨p, 2, none⟩ = some (.bool s.down)) ∧ (∀ w', Ext w w' → w'.cell? ⟨p, 3, none⟩ = some (.int .i64 s.cut)) ∧ (∀ w', Ext w w' → w'.cell? ⟨p, 4, none⟩ = some (.int .i64 s.age)) ∧ (∀ w' j, Ext w w' → w'.frozen? ⟨p, j, none⟩ = false) := by
  refine ⟨fun _ hx => ?_, fun _ hx => ?_, fun _ hx => ?_, fun _ hx => ?_, fun _ hx => ?_, fun _ j hx => frozen_of_row _ p j _ _ (hx.obj h.row)⟩ <;>
    (rw [cell_of_row _ p _ _ _ _ (hx.obj h.row)]; rfl)
end
end Go.Proofs.Ytklodimokhndoaa
