/- Words for memory of which some blocks may turn: Kept M w w': all blocks of w but those of M are in w' as they were. Each holds for every program and world; the conditions are the hypotheses of each theorem. What a block of few cells says of its cells, in every world behind it in which that block has not turned. Each holds for every program and world; the conditions are the hypotheses of each theorem. Words for strings: their bytes as a list, a row of bytes that []byte(s) makes, string(b), a string's iterator. Each holds for every program and world; the conditions are the hypotheses of each theorem. The walks of text.Lower, text.Same and the reference's Lower. Conditions: the lengths named in each theorem. The walks of text.Word and the reference's. Conditions: the lengths named in each theorem. The walks of text.plain and text.width; a text's letters. Conditions: the lengths named in each theorem. -/
import Derived.Test.YthlppbbejdeeoaaGreatDoorC0
import Derived.Test.YthlppbbejdeeoaaGreatDoorChecked
import Derived.Lib.OthersKept
import Derived.Laws.BitsAllLaws
import Derived.IntWalk
import Derived.Deep.QuietTactic
import Derived.BigQuiet
import Derived.Lib.MapLaws
import Derived.Lib.RuneCountTail
namespace Go.Proofs.YthlppbbejdeeoaaGreatDoor
open Go.RowKit
structure Kept (M : List Nat) (w w' : World) : Prop where
 os : w'.os = w.os
 tape : w'.tape = w.tape
 output : w'.output = w.output
 size : w.heap.size ≤ w'.heap.size
 block : ∀ k, k < w.heap.size → k ∉ M → w'.heap[k]? = w.heap[k]?
section
variable {M N : List Nat} {w w' w'' : World}
@[go_sem] theorem Kept.refl (M : List Nat) (w : World) : Kept M w w := ⟨rfl, rfl, rfl, Nat.le_refl _, fun _ _ _ => rfl⟩
theorem Kept.trans (h : Kept M w w') (k : Kept M w' w'') : Kept M w w'' :=
 ⟨k.os.trans h.os, k.tape.trans h.tape, k.output.trans h.output, Nat.le_trans h.size k.size, fun i hi hn => (k.block i (Nat.lt_of_lt_of_le hi h.size) hn).trans (h.block i hi hn)⟩
theorem Kept.mono (h : Kept M w w') (hs : ∀ k ∈ M, k ∈ N) : Kept N w w' := ⟨h.os, h.tape, h.output, h.size, fun k hk hn => h.block k hk fun hm => hn (hs k hm)⟩
theorem Kept.of_ext (h : Ext w w') : Kept M w w' := ⟨h.os, h.tape, h.output, Below.size h, fun k hk _ => h.block k hk⟩
theorem Kept.to_ext (h : Kept M w w') (hm : ∀ k ∈ M, w.heap.size ≤ k) : Ext w w' := ⟨h.os, h.tape, h.output, h.size, fun k hk => h.block k hk fun hh => by have := hm k hh; omega⟩
theorem Kept.ext (h : Kept M w w') (k : Ext w' w'') : Kept M w w'' := h.trans (.of_ext k)
/-- of blocks that are newer nothing is asked -/
theorem Kept.less (h : Kept M w w') (hs : ∀ k ∈ M, k < w.heap.size → k ∈ N) : Kept N w w' := ⟨h.os, h.tape, h.output, h.size, fun k hk hn => h.block k hk fun hm => hn (hs k hm hk)⟩
theorem Kept.alloc (h : Kept M w w') (o : Obj) : Kept M w (w'.alloc o) := h.ext ((Ext.refl _).alloc o)
theorem Kept.drew (h : Kept M w w') : Kept M w w'.drew := ⟨h.os, h.tape, h.output, h.size, h.block⟩
theorem Kept.drewN (h : Kept M w w') (n : Nat) : Kept M w (w'.drewN n) := ⟨h.os, h.tape, h.output, h.size, h.block⟩
theorem Kept.setCell (h : Kept M w w') {p : Addr} (hp : p.block ∈ M ∨ w.heap.size ≤ p.block) (u : Value) : Kept M w (w'.setCell p u) :=
 ⟨h.os, h.tape, h.output, by simpa [World.setCell] using h.size, fun i hi hne => (Below.heap_setCell w' p u i (by
  rintro rfl
  rcases hp with hp | hp
  ·exact hne hp
  ·omega)).trans (h.block i hi hne)⟩
theorem Kept.grown {row : Option Nat} (h : Kept M w w') (hg : w'.grownBy w'' row) (hr : ∀ k, row = some k → k ∈ M ∨ w.heap.size ≤ k) : Kept M w w'' :=
 ⟨hg.os.trans h.os, hg.tape.trans h.tape, hg.output.trans h.output, Nat.le_trans h.size hg.size, fun k hk hn => (hg.block k (Nat.lt_of_lt_of_le hk h.size) (fun e => by
  rcases hr k e.symm with h1 | h1
  ·exact hn h1
  ·omega)).trans (h.block k hk hn)⟩
theorem Kept.cell (h : Kept M w w') {p : Addr} {v : Value} (hp : w.cell? p = some v) (hn : p.block ∉ M) : w'.cell? p = some v :=
 (World.cell?_of_block (w := w) (h.block p.block (World.block_lt_of_cell? w p hp) hn)).trans hp
theorem Kept.heap (h : Kept M w w') {g : Nat} {o : Obj} (hp : w.heap[g]? = some o) (hn : g ∉ M) : w'.heap[g]? = some o :=
 (h.block g (Array.getElem?_eq_some_iff.1 hp).1 hn).trans hp
@[go_sem] theorem Kept.alloc_iff (o : Obj) (h : Kept M w w') : Kept M w (w'.alloc o) := h.alloc o
@[go_sem] theorem Kept.drew_iff (h : Kept M w w') : Kept M w w'.drew := h.drew
@[go_sem] theorem Kept.drewN_iff (n : Nat) (h : Kept M w w') : Kept M w (w'.drewN n) := h.drewN n
end
/-- the slice at A has the cells xs, none of them in a block of M -/
def SlM (M : List Nat) (w : World) (A : Option Addr) (xs : List Value) : Prop := ∀ k v, xs[k]? = some v → ∃ ad, A = some ad ∧ ad.block ∉ M ∧ w.cell? (ad.add k) = some v
section
variable {M : List Nat} {w w' : World} {A : Option Addr} {xs : List Value}
theorem SlM.nil (M : List Nat) (w : World) (A : Option Addr) : SlM M w A [] := fun k v h => by simp at h
theorem SlM.kept (h : SlM M w A xs) (hx : Kept M w w') : SlM M w' A xs := fun k v hk => by
 obtain ⟨ad, e, hn, hc⟩ := h k v hk
 exact ⟨ad, e, hn, hx.cell hc (by rw [addr_add_block]; exact hn)⟩
theorem SlM.sl (h : SlM M w A xs) : Sl w A xs := fun k v hk => by
 obtain ⟨ad, e, _, hc⟩ := h k v hk
 exact ⟨ad, e, hc⟩
theorem SlM.less {N : List Nat} (h : SlM M w A xs) (hs : ∀ k ∈ N, k ∈ M) : SlM N w A xs := fun k v hk => by
 obtain ⟨ad, e, hn, hc⟩ := h k v hk
 exact ⟨ad, e, fun h => hn (hs _ h), hc⟩
/-- a row that is there already lies in no block that is newer -/
theorem SlM.old {N : List Nat} (h : SlM M w A xs) (hs : ∀ k ∈ N, k ∈ M ∨ w.heap.size ≤ k) : SlM N w A xs := fun k v hk => by
 obtain ⟨ad, e, hn, hc⟩ := h k v hk
 refine ⟨ad, e, fun h => ?_, hc⟩
 rcases hs _ h with h1 | h1
 ·exact hn h1
 ·have := World.block_lt_of_cell? w _ hc
  rw [addr_add_block] at this
  omega
theorem SlM.own {base e size n m c : Nat} {v : Value} (h : w.ownsRow base e size v n xs) (hv : v = .slice A m c) (hM : ∀ k ∈ M, k < base) : SlM M w A xs := fun k u hk => by
 obtain ⟨ad, e1, hc⟩ := Sl.own h hv k u hk
 refine ⟨ad, e1, fun hm => ?_, hc⟩
 have := (h.lt ad.block (by rw [hv, e1]; rfl)).1
 have := hM _ hm
 omega
end
def BsM (M : List Nat) (w : World) (A : Option Addr) (l : List UInt8) : Prop := SlM M w A (bv l)
theorem BsM.bs {M : List Nat} {w : World} {A : Option Addr} {l : List UInt8} (h : BsM M w A l) : Bs w A l := SlM.sl h
theorem BsM.kept {M : List Nat} {w w' : World} {A : Option Addr} {l : List UInt8} (h : BsM M w A l) (hx : Kept M w w') : BsM M w' A l := SlM.kept h hx
theorem BsM.own {M : List Nat} {w : World} {base n c : Nat} {A : Option Addr} {l : List UInt8} (h : Own w base (.slice A n c) l) (hM : ∀ k ∈ M, k < base) : BsM M w A l := SlM.own h rfl hM
/-- what an element's cells say, kept while the blocks of M turn -/
structure Reading (α : Type) where
 says : List Nat → World → List Value → α → Prop
 kept : ∀ {M w w' cs x}, says M w cs x → Kept M w w' → says M w' cs x
 old : ∀ {M N w cs x}, says M w cs x → (∀ k ∈ N, k ∈ M ∨ w.heap.size ≤ k) → says N w cs x
/-- the slice at A reads as the list xs, each element by s cells -/
def RsM {α : Type} (R : Reading α) (s : Nat) (M : List Nat) (w : World) (A : Option Addr) (xs : List α) : Prop :=
 ∃ css : List (List Value), css.length = xs.length ∧ (∀ cs ∈ css, cs.length = s) ∧ SlM M w A css.flatten ∧ ∀ (k : Nat) (cs : List Value) (x : α), css[k]? = some cs → xs[k]? = some x → R.says M w cs x
theorem flatten_length {css : List (List Value)} {s : Nat} (h : ∀ cs ∈ css, cs.length = s) : css.flatten.length = css.length * s := by
 induction css with
 | nil => simp
 | cons c css ih =>
  simp only [List.flatten_cons, List.length_append, List.length_cons]
  rw [ih (fun cs hc => h cs (by simp [hc])), h c (by simp), Nat.succ_mul]
  omega
theorem flatten_get {css : List (List Value)} {s : Nat} (h : ∀ cs ∈ css, cs.length = s) : ∀ (k j : Nat) (cs : List Value), css[k]? = some cs → j < s → css.flatten[k * s + j]? = cs[j]? := by
 induction css with
 | nil => intro k j cs hk; simp at hk
 | cons c css ih =>
  intro k j cs hk hj
  have hc := h c (by simp)
  cases k with
  | zero => simp at hk; subst hk; simp only [Nat.zero_mul, Nat.zero_add, List.flatten_cons]; rw [List.getElem?_append_left (by omega)]
  | succ k =>
   simp only [List.getElem?_cons_succ] at hk
   simp only [List.flatten_cons]
   rw [List.getElem?_append_right (by rw [hc, Nat.succ_mul]; omega), ← ih (fun cs hc => h cs (by simp [hc])) k j cs hk hj]
   congr 1
   rw [hc, Nat.succ_mul]
   omega
section
variable {α : Type} {R : Reading α} {s : Nat} {M : List Nat} {w w' : World} {A : Option Addr} {xs : List α}
theorem RsM.nil (R : Reading α) (s : Nat) (M : List Nat) (w : World) (A : Option Addr) : RsM R s M w A [] := ⟨[], rfl, by simp, SlM.nil _ _ _, by simp⟩
theorem RsM.kept (h : RsM R s M w A xs) (hx : Kept M w w') : RsM R s M w' A xs := by
 obtain ⟨css, h1, h2, h3, h4⟩ := h
 exact ⟨css, h1, h2, h3.kept hx, fun k cs x hk hxx => R.kept (h4 k cs x hk hxx) hx⟩
theorem RsM.old {N : List Nat} (h : RsM R s M w A xs) (hs : ∀ k ∈ N, k ∈ M ∨ w.heap.size ≤ k) : RsM R s N w A xs := by
 obtain ⟨css, h1, h2, h3, h4⟩ := h
 exact ⟨css, h1, h2, h3.old hs, fun k cs x hk hxx => R.old (h4 k cs x hk hxx) hs⟩
/-- the cells of one element -/
theorem RsM.at_ (h : RsM R s M w A xs) (hs : 0 < s) {k : Nat} (hk : k < xs.length) :
 ∃ ad cs, A = some ad ∧ ad.block ∉ M ∧ cs.length = s ∧ (∀ j v, cs[j]? = some v → w.cell? (ad.add (k * s + j)) = some v) ∧ R.says M w cs xs[k] := by
 obtain ⟨css, h1, h2, h3, h4⟩ := h
 have hk' : k < css.length := by omega
 have hcs : css[k]? = some css[k] := List.getElem?_eq_getElem hk'
 have hl : css[k].length = s := h2 _ (List.getElem_mem hk')
 have hg := fun j (hj : j < s) => flatten_get h2 k j css[k] hcs hj
 obtain ⟨ad, e, hn, _⟩ := h3 (k * s + 0) (css[k][0]'(by omega)) (by rw [hg 0 hs, List.getElem?_eq_getElem (by omega)])
 refine ⟨ad, css[k], e, hn, hl, fun j v hj => ?_, h4 k _ _ hcs (List.getElem?_eq_getElem hk)⟩
 have hj' : j < s := by rw [← hl]; exact (List.getElem?_eq_some_iff.1 hj).1
 obtain ⟨ad', e', _, hc⟩ := h3 (k * s + j) v (by rw [hg j hj']; exact hj)
 rw [e] at e'
 cases e'
 exact hc
end
/-- one element more: the old ones were read in an older world -/
theorem RsM.push {α : Type} {R : Reading α} {s : Nat} {M : List Nat} {wr w : World} {A : Option Addr} {xs : List α} {x : α} {css : List (List Value)} {cs : List Value} (q1 : css.length = xs.length) (q2 : ∀ cs ∈ css, cs.length = s)
 (q4 : ∀ (k : Nat) (cs : List Value) (x : α), css[k]? = some cs → xs[k]? = some x → R.says M wr cs x) (hk : Kept M wr w) (hcs : cs.length = s) (hs : R.says M wr cs x) (h' : SlM M w A (css.flatten ++ cs)) : RsM R s M w A (xs ++ [x]) := by
 refine ⟨css ++ [cs], by simp [q1], ?_, by simpa using h', ?_⟩
 ·intro c hc
  rcases List.mem_append.1 hc with h | h
  ·exact q2 c h
  ·simp at h; subst h; exact hcs
 ·intro k c z hk' hx
  rw [List.getElem?_append] at hk' hx
  by_cases hlt : k < css.length
  ·rw [if_pos hlt] at hk'
   rw [if_pos (by omega)] at hx
   exact R.kept (q4 k c z hk' hx) hk
  ·rw [if_neg hlt] at hk'
   rw [if_neg (by omega)] at hx
   have hk0 : k - css.length = 0 := by
    rcases Nat.eq_zero_or_pos (k - css.length) with h | h
    ·exact h
    ·rw [List.getElem?_eq_none (by simp; omega)] at hk'; cases hk'
   rw [hk0] at hk'
   rw [show k - xs.length = 0 by omega] at hx
   simp at hk' hx
   subst hk' hx
   exact R.kept hs hk
/-! ## rows of the call's own, each element by s cells -/
/-- v is a row of the call's own that reads as xs, its elements read in the world wr -/
def OwnR {α : Type} (R : Reading α) (s e : Nat) (M : List Nat) (wr w : World) (base : Nat) (v : Value) (xs : List α) : Prop :=
 ∃ css : List (List Value), css.length = xs.length ∧ (∀ cs ∈ css, cs.length = s) ∧ w.ownsRow base e s v xs.length css.flatten ∧ ∀ (k : Nat) (cs : List Value) (x : α), css[k]? = some cs → xs[k]? = some x → R.says M wr cs x
section
variable {α : Type} {R : Reading α} {s e : Nat} {M : List Nat} {wr w w' : World} {base : Nat} {v : Value} {xs : List α}
theorem OwnR.form (h : OwnR R s e M wr w base v xs) : ∃ A cap, v = .slice A xs.length cap := by
 obtain ⟨css, _, _, h3, _⟩ := h
 exact own_form h3
theorem OwnR.rsm {A : Option Addr} {n c : Nat} (h : OwnR R s e M wr w base (.slice A n c) xs) (hk : Kept M wr w) (hM : ∀ k ∈ M, k < base) : RsM R s M w A xs := by
 obtain ⟨css, h1, h2, h3, h4⟩ := h
 exact ⟨css, h1, h2, SlM.own h3 rfl hM, fun k cs x h5 h6 => R.kept (h4 k cs x h5 h6) hk⟩
theorem OwnR.ext (h : OwnR R s e M wr w base v xs) (hx : Ext w w') : OwnR R s e M wr w' base v xs := by
 obtain ⟨css, h1, h2, h3, h4⟩ := h
 exact ⟨css, h1, h2, owns_ext h3 hx, h4⟩
theorem OwnR.read {wr' : World} (h : OwnR R s e M wr w base v xs) (hx : Kept M wr wr') : OwnR R s e M wr' w base v xs := by
 obtain ⟨css, h1, h2, h3, h4⟩ := h
 exact ⟨css, h1, h2, h3, fun k cs x h5 h6 => R.kept (h4 k cs x h5 h6) hx⟩
theorem OwnR.low {b2 : Nat} (h : OwnR R s e M wr w base v xs) (hb : b2 ≤ base) : OwnR R s e M wr w b2 v xs := by
 obtain ⟨css, h1, h2, h3, h4⟩ := h
 exact ⟨css, h1, h2, owns_low h3 hb, h4⟩
theorem OwnR.nil (R : Reading α) (s e : Nat) (M : List Nat) (wr w : World) (base : Nat) : OwnR R s e M wr w base (.slice none 0 0) [] := ⟨[], rfl, by simp, World.ownsRow_nil _ _ _ _, by simp⟩
theorem OwnR.cap {A : Option Addr} {n c : Nat} (h : OwnR R s e M wr w base (.slice A n c) xs) : n = xs.length ∧ xs.length ≤ c ∧ c ≤ 9223372036854775807 := by
 obtain ⟨css, h1, h2, h3, h4⟩ := h
 rcases h3.2 with ⟨e1, hn⟩ | ⟨g, cap, cur, e1, _, _, hc, hm, _⟩
 ·injection e1 with e1 e2 e3
  subst e3
  omega
 ·injection e1 with e1 e2 e3
  subst e3
  exact ⟨e2, hc, hm⟩
end
/-! ## s[:i], s[i+1:] and the rest, on a row of the call's own -/
section
variable {P : Program} {t e size bytes : Nat}
end
end Go.Proofs.YthlppbbejdeeoaaGreatDoor
namespace Go.Proofs.YthlppbbejdeeoaaGreatDoor
open Go.RowKit
section
variable {w : World} {p t : Nat} {a b c d e f : Value}
theorem row_at (h : w.heap[p]? = some (.cells #[a] t (0, 0))) : w.cell? ⟨p, 0, none⟩ = some a ∧ (∀ j, w.frozen? ⟨p, j, none⟩ = false) :=
 ⟨by rw [cell_of_row w p 0 _ _ _ h]; rfl, fun j => frozen_of_row w p j _ _ h⟩
theorem row2_at (h : w.heap[p]? = some (.cells #[a, b] t (0, 0))) : w.cell? ⟨p, 0, none⟩ = some a ∧ w.cell? ⟨p, 1, none⟩ = some b ∧ (∀ j, w.frozen? ⟨p, j, none⟩ = false) :=
 ⟨by rw [cell_of_row w p 0 _ _ _ h]; rfl, by rw [cell_of_row w p 1 _ _ _ h]; rfl, fun j => frozen_of_row w p j _ _ h⟩
theorem row3_at (h : w.heap[p]? = some (.cells #[a, b, c] t (0, 0))) : w.cell? ⟨p, 0, none⟩ = some a ∧ w.cell? ⟨p, 1, none⟩ = some b ∧ w.cell? ⟨p, 2, none⟩ = some c ∧ (∀ j, w.frozen? ⟨p, j, none⟩ = false) :=
 ⟨by rw [cell_of_row w p 0 _ _ _ h]; rfl, by rw [cell_of_row w p 1 _ _ _ h]; rfl, by rw [cell_of_row w p 2 _ _ _ h]; rfl, fun j => frozen_of_row w p j _ _ h⟩
theorem row4_at (h : w.heap[p]? = some (.cells #[a, b, c, d] t (0, 0))) : w.cell? ⟨p, 0, none⟩ = some a ∧ w.cell? ⟨p, 1, none⟩ = some b ∧ w.cell? ⟨p, 2, none⟩ = some c ∧ w.cell? ⟨p, 3, none⟩ = some d ∧ (∀ j, w.frozen? ⟨p, j, none⟩ = false) :=
 ⟨by rw [cell_of_row w p 0 _ _ _ h]; rfl, by rw [cell_of_row w p 1 _ _ _ h]; rfl, by rw [cell_of_row w p 2 _ _ _ h]; rfl, by rw [cell_of_row w p 3 _ _ _ h]; rfl, fun j => frozen_of_row w p j _ _ h⟩
theorem row6_at (h : w.heap[p]? = some (.cells #[a, b, c, d, e, f] t (0, 0))) : w.cell? ⟨p, 0, none⟩ = some a ∧ w.cell? ⟨p, 1, none⟩ = some b ∧ w.cell? ⟨p, 2, none⟩ = some c ∧ w.cell? ⟨p, 3, none⟩ = some d ∧ w.cell? ⟨p, 4, none⟩ = some e ∧ w.cell? ⟨p, 5, none⟩ = some f ∧ (∀ j, w.frozen? ⟨p, j, none⟩ = false) :=
 ⟨by rw [cell_of_row w p 0 _ _ _ h]; rfl, by rw [cell_of_row w p 1 _ _ _ h]; rfl, by rw [cell_of_row w p 2 _ _ _ h]; rfl, by rw [cell_of_row w p 3 _ _ _ h]; rfl, by rw [cell_of_row w p 4 _ _ _ h]; rfl, by rw [cell_of_row w p 5 _ _ _ h]; rfl, fun j => frozen_of_row w p j _ _ h⟩
/-- a block in every world behind -/
theorem Ext.row (h : w.heap[p]? = some (.cells #[a] t (0, 0))) {w' : World} (hx : Ext w w') : w'.heap[p]? = some (.cells #[a] t (0, 0)) := (hx.block p (Array.getElem?_eq_some_iff.1 h).1).trans h
theorem Ext.obj {o : Obj} (h : w.heap[p]? = some o) {w' : World} (hx : Ext w w') : w'.heap[p]? = some o := (hx.block p (Array.getElem?_eq_some_iff.1 h).1).trans h
theorem obj_lt {o : Obj} (h : w.heap[p]? = some o) : p < w.heap.size := (Array.getElem?_eq_some_iff.1 h).1
theorem rows3 (h : w.heap[p]? = some (.cells #[a, b, c] t (0, 0))) : (∀ w', Ext w w' → w'.cell? ⟨p, 0, none⟩ = some a) ∧ (∀ w', Ext w w' → w'.cell? ⟨p, 1, none⟩ = some b) ∧ (∀ w', Ext w w' → w'.cell? ⟨p, 2, none⟩ = some c) ∧ (∀ w' j, Ext w w' → w'.frozen? ⟨p, j, none⟩ = false) :=
 ⟨fun _ hx => (row3_at (hx.obj h)).1, fun _ hx => (row3_at (hx.obj h)).2.1, fun _ hx => (row3_at (hx.obj h)).2.2.1, fun _ j hx => (row3_at (hx.obj h)).2.2.2 j⟩
theorem rows4 (h : w.heap[p]? = some (.cells #[a, b, c, d] t (0, 0))) : (∀ w', Ext w w' → w'.cell? ⟨p, 0, none⟩ = some a) ∧ (∀ w', Ext w w' → w'.cell? ⟨p, 1, none⟩ = some b) ∧ (∀ w', Ext w w' → w'.cell? ⟨p, 2, none⟩ = some c) ∧ (∀ w', Ext w w' → w'.cell? ⟨p, 3, none⟩ = some d) ∧ (∀ w' j, Ext w w' → w'.frozen? ⟨p, j, none⟩ = false) :=
 ⟨fun _ hx => (row4_at (hx.obj h)).1, fun _ hx => (row4_at (hx.obj h)).2.1, fun _ hx => (row4_at (hx.obj h)).2.2.1, fun _ hx => (row4_at (hx.obj h)).2.2.2.1, fun _ j hx => (row4_at (hx.obj h)).2.2.2.2 j⟩
end
theorem SlM.new (w : World) (l : List Value) (cs : Array Value) (h : cs = l.toArray) (t : TypeId) (fr : Nat × Nat) (M : List Nat) (hM : ∀ k ∈ M, k < w.heap.size) : SlM M (w.alloc (.cells cs t fr)) (some ⟨w.heap.size, 0, none⟩) l := by
 subst h
 intro k v hk
 obtain ⟨ad, e, hc⟩ := Sl.new w l t fr k v hk
 cases e
 exact ⟨_, rfl, fun hm => Nat.lt_irrefl _ (hM _ hm), hc⟩
theorem BsM.new (w : World) (l : List UInt8) (cs : Array Value) (h : cs = (bv l).toArray) (t : TypeId) (fr : Nat × Nat) (M : List Nat) (hM : ∀ k ∈ M, k < w.heap.size) : BsM M (w.alloc (.cells cs t fr)) (some ⟨w.heap.size, 0, none⟩) l :=
 SlM.new w _ cs h t fr M hM
theorem owns_obj {w : World} {base e size n p t : Nat} {v : Value} {xs : List Value} {cs : Array Value} {fr : Nat × Nat} (h : w.ownsRow base e size v n xs) (hp : w.heap[p]? = some (.cells cs t fr)) (hne : e ≠ t) : v.ownBlock = none ∨ v.ownBlock ≠ some p := by
 rcases owns_type h with h0 | ⟨g, cur, h1, h2⟩
 ·exact .inl h0
 ·refine .inr ?_
  rw [h1]
  intro e0
  injection e0 with e0
  subst e0
  rw [h2] at hp
  injection hp with hp
  injection hp with _ h3
  exact hne h3
theorem Ext.kept {M : List Nat} {w w1 w2 : World} (h : Ext w w1) (k : Kept M w1 w2) (hm : ∀ k ∈ M, w.heap.size ≤ k) : Ext w w2 := ((Kept.of_ext (M := M) h).trans k).to_ext hm
theorem one_ge {p n : Nat} (h : n ≤ p) : ∀ k ∈ [p], n ≤ k := by intro k hk; simp at hk; omega
end Go.Proofs.YthlppbbejdeeoaaGreatDoor
namespace Go.Proofs.YthlppbbejdeeoaaGreatDoor
open Go.RowKit
def tl (s : ByteArray) : List UInt8 := s.data.toList
@[simp] theorem tl_length (s : ByteArray) : (tl s).length = s.size := by unfold tl ByteArray.size; simp
@[simp] theorem tl_st (l : List UInt8) : tl (st l) = l := by simp [tl, st]
@[simp] theorem st_tl (s : ByteArray) : st (tl s) = s := by simp [tl, st]
theorem tl_get (s : ByteArray) (k : Nat) (h : k < s.size) : (tl s)[k]'(by simpa using h) = s[k] := by simp [tl]; rfl
@[go_sem] theorem st_append (a b : List UInt8) : st a ++ st b = st (a ++ b) := by
 apply ByteArray.ext
 simp [st]
@[go_sem] theorem st_size (l : List UInt8) : (st l).size = l.length := by unfold st ByteArray.size; simp
theorem tl_get? (s : ByteArray) (k : Nat) (h : k < s.size) : (tl s)[k]? = some s[k] := by rw [List.getElem?_eq_getElem (by simpa using h), tl_get s k h]
/-- a row of bytes that may be written -/
def Mut8 (w : World) (g : Nat) (l : List UInt8) : Prop :=
 ∃ cs fr, w.heap[g]? = some (.cells cs 5 fr) ∧ (fr = (0, 0) ∨ l.length ≤ fr.1) ∧ ∀ (k : Nat) (v : Value), (bv l)[k]? = some v → cs[k]? = some v
section
variable {w w' : World} {g : Nat} {l : List UInt8}
theorem Mut8.bs (h : Mut8 w g l) : Bs w (some ⟨g, 0, none⟩) l := by
 obtain ⟨cs, fr, h1, _, h3⟩ := h
 intro k v hk
 refine ⟨_, rfl, ?_⟩
 have : (⟨g, 0, none⟩ : Addr).add k = ⟨g, k, none⟩ := by unfold Addr.add; split <;> simp_all
 rw [this, cell_of_row _ _ k cs 5 fr h1]
 exact h3 k v hk
theorem Mut8.cell (h : Mut8 w g l) {k : Nat} (hk : k < l.length) : w.cell? ⟨g, k, none⟩ = some (.int .u8 (l[k].toNat : Int)) := by
 obtain ⟨cs, fr, h1, _, h3⟩ := h
 rw [cell_of_row _ _ k cs 5 fr h1]
 exact h3 k _ (bv_get hk)
theorem Mut8.free (h : Mut8 w g l) {k : Nat} (hk : k < l.length) : w.frozen? ⟨g, k, none⟩ = false := by
 obtain ⟨cs, fr, h1, h2, h3⟩ := h
 unfold World.frozen?
 simp only [h1]
 rcases h2 with rfl | h2
 ·simp
 ·simp; omega
theorem Mut8.ext (h : Mut8 w g l) (hx : Ext w w') : Mut8 w' g l := by
 obtain ⟨cs, fr, h1, h2, h3⟩ := h
 exact ⟨cs, fr, hx.obj h1, h2, h3⟩
theorem Mut8.set (h : Mut8 w g l) (k : Nat) (x : UInt8) : Mut8 (w.setCell ⟨g, k, none⟩ (.int .u8 (x.toNat : Int))) g (l.set k x) := by
 obtain ⟨cs, fr, h1, h2, h3⟩ := h
 refine ⟨cs.setIfInBounds k (.int .u8 (x.toNat : Int)), fr, ?_, by simpa using h2, fun j v hj => ?_⟩
 ·have hlt := (Array.getElem?_eq_some_iff.1 h1).1
  unfold World.setCell
  simp [Array.getElem?_modify, h1]
 ·have hb : bv (l.set k x) = (bv l).set k (.int .u8 (x.toNat : Int)) := by simp [bv, List.map_set]
  rw [hb, List.getElem?_set] at hj
  by_cases hkj : k = j
  ·subst hkj
   rw [if_pos rfl] at hj
   split at hj
   ·rename_i hlt
    cases hj
    have h4 := h3 k _ (List.getElem?_eq_getElem hlt)
    have := (Array.getElem?_eq_some_iff.1 h4).1
    simp [this]
   ·cases hj
  ·rw [if_neg hkj] at hj
   rw [Array.getElem?_setIfInBounds_ne hkj]
   exact h3 j v hj
theorem Mut8.lt (h : Mut8 w g l) : g < w.heap.size := by
 obtain ⟨cs, fr, h1, _⟩ := h
 exact obj_lt h1
end
/-- []byte(s) -/
theorem conv_bytes (w : World) (s : ByteArray) : ∃ cap W, (convert 9 22 (.string s)).run Tryz.prog w = .ok (.slice (some ⟨w.heap.size, 0, none⟩) s.size cap) W ∧ Ext w W ∧ Mut8 W w.heap.size (tl s) ∧ s.size ≤ cap := by
 have h := run_bytes_of_string (P := Tryz.prog) w 9 22 5 s Tryz.underlying9 Tryz.underlying22 Tryz.underlying5
 have hcap : s.size ≤ grownCap w s.size 0 5 := by have := grownCap_ge w s.size 0 5; omega
 refine ⟨_, _, h, ((Ext.refl w).drew).alloc _, ⟨bytesRow s (grownCap w s.size 0 5), _, heap_alloc_new w.drew _, ?_, ?_⟩, hcap⟩
 ·right
  simp only [bytesRow, Array.size_append, Array.size_map, Array.size_replicate, tl_length]
  simp only [ByteArray.size]
  omega
 ·intro k v hk
  have hk' : k < (tl s).length := by have := (List.getElem?_eq_some_iff.1 hk).1; simpa using this
  rw [bv_get hk'] at hk
  cases hk
  have hks : k < s.data.size := by simpa [tl] using hk'
  unfold bytesRow
  rw [Array.getElem?_append_left (by simpa using hks)]
  simp only [Array.getElem?_map, Option.map_eq_some_iff]
  exact ⟨s.data[k], Array.getElem?_eq_getElem hks, by simp [tl]⟩
/-- string([]byte{c}), and string(b) of a row that lies there -/
theorem conv_str {w : World} {A : Option Addr} {l : List UInt8} (h : Bs w A l) (n c : Nat) (hn : n = l.length) : (convert 22 9 (.slice A n c)).run Tryz.prog w = .ok (.string (st l)) w :=
 run_str (P := Tryz.prog) Tryz.underlying22 Tryz.underlying5 Tryz.underlying9 h n c hn w (Ext.refl w)
/-- the iterator of a string that the call ranges over, at a place -/
def It (w : World) (g : Nat) (s : ByteArray) (pos : Nat) : Prop := w.heap[g]? = some (.stringIter s pos)
theorem It.next {w : World} {g pos : Nat} {s : ByteArray} (h : It w g s pos) (hp : pos < s.size) (ty : TypeId) : (Instr.next (.pointer (some ⟨g, 0, none⟩)) true ty).run Tryz.prog w = .ok (.tuple #[.bool true, .int .i64 pos, .int .i32 (Utf8.decode s pos).1]) (w.iterAt g s (pos + (Utf8.decode s pos).2)) :=
 Lib.run_next_any_at (P := Tryz.prog) w g s pos ty h hp
theorem It.stop {w : World} {g pos : Nat} {s : ByteArray} (h : It w g s pos) (hp : ¬ pos < s.size) (ty : TypeId) : (Instr.next (.pointer (some ⟨g, 0, none⟩)) true ty).run Tryz.prog w = .ok (.tuple #[.bool false]) w :=
 Lib.run_next_end_at (P := Tryz.prog) w g s pos ty h hp
theorem It.at_ {w : World} {g pos : Nat} {s : ByteArray} (h : It w g s pos) (pos' : Nat) : It (w.iterAt g s pos') g s pos' := Lib.iterAt_heap w g s pos pos' h
theorem It.ext {w w' : World} {g pos : Nat} {s : ByteArray} (h : It w g s pos) (hx : Ext w w') : It w' g s pos := hx.obj h
theorem Ext.iterAt {w w' : World} {g pos : Nat} {s : ByteArray} (h : Ext w w') (hg : w.heap.size ≤ g) : Ext w (w'.iterAt g s pos) :=
 ⟨h.os, h.tape, h.output, by simpa [World.iterAt] using h.size, fun k hk => by
  have : (w'.iterAt g s pos).heap[k]? = w'.heap[k]? := by
   simp only [World.iterAt]
   rw [Array.getElem?_setIfInBounds_ne (by omega)]
  exact this.trans (h.block k hk)⟩
end Go.Proofs.YthlppbbejdeeoaaGreatDoor
namespace Go.Proofs.YthlppbbejdeeoaaGreatDoor
open Go.RowKit
def lowB (c : UInt8) : UInt8 := if 65 ≤ c.toNat ∧ c.toNat ≤ 90 then c + 32 else c
def lowL (l : List UInt8) : List UInt8 := l.map lowB
@[simp] theorem lowL_length (l : List UInt8) : (lowL l).length = l.length := by simp [lowL]
theorem lowB_up {c : UInt8} (h1 : 65 ≤ c.toNat) (h2 : c.toNat ≤ 90) : ((lowB c).toNat : Int) = (c.toNat : Int) + 32 := by
 unfold lowB
 rw [if_pos ⟨h1, h2⟩, UInt8.toNat_add]
 have : (32 : UInt8).toNat = 32 := rfl
 omega
theorem lowB_no {c : UInt8} (h : ¬ (65 ≤ c.toNat ∧ c.toNat ≤ 90)) : lowB c = c := by unfold lowB; rw [if_neg h]
/-- the first k small -/
def lowTo (l : List UInt8) (k : Nat) : List UInt8 := lowL (l.take k) ++ l.drop k
theorem lowTo_length (l : List UInt8) (k : Nat) : (lowTo l k).length = l.length := by simp [lowTo]; omega
theorem lowTo_get (l : List UInt8) (k : Nat) (h : k < l.length) : (lowTo l k)[k]'(by rw [lowTo_length]; exact h) = l[k] := by
 unfold lowTo
 rw [List.getElem_append_right (by simp; omega)]
 simp [Nat.min_eq_left (Nat.le_of_lt h)]
theorem lowTo_set (l : List UInt8) (k : Nat) (h : k < l.length) : (lowTo l k).set k (lowB l[k]) = lowTo l (k + 1) := by
 unfold lowTo
 rw [List.set_append_right _ _ (by simp; omega)]
 simp only [lowL_length, List.length_take, Nat.min_eq_left (Nat.le_of_lt h), Nat.sub_self]
 rw [List.drop_eq_getElem_cons h, List.set_cons_zero, List.take_succ_eq_append_getElem h]
 simp only [lowL, List.map_append, List.map_cons, List.map_nil, List.append_assoc]
 rfl
theorem lowTo_on (l : List UInt8) (k : Nat) (h : k < l.length) (hb : lowB l[k] = l[k]) : lowTo l (k + 1) = lowTo l k := by
 rw [← lowTo_set l k h, hb]
 apply List.ext_getElem
 ·simp
 ·intro j h1 h2
  rw [List.getElem_set]
  split
  ·rename_i e
   subst e
   rw [lowTo_get l k h]
  ·rfl
set_option maxHeartbeats 400000 in
theorem Lower_any (s : ByteArray) (w : World) (hs : s.size ≤ 140737488355328) : Calls Tryz.prog 115 #[.string s] w fun e w' => e = .returned (.string (st (lowL (tl s)))) ∧ Ext w w' := by
 obtain ⟨cap, W, hcv, hx, hm, hcap⟩ := conv_bytes w s
 have hsz := tl_length s
 generalize hl : tl s = l at *
 have HS := Lib.hid hsz
 have HL := Lib.hid hl
 have hs1 : s.size ≤ l.length := by omega
 have hs2 : l.length ≤ s.size := by omega
 clear hsz hl
 go_enter Tryz.func115, Tryz.ntmps115
 go_wp2
 go_loopw [10] (fun i wr => ∃ k : Nat, k ≤ s.size ∧ i = .int .i64 k ∧ Ext w wr ∧ Mut8 wr w.heap.size (lowTo l k)) (fun i _ => s.size - (intOf i).toNat)
 case atStart => exact ⟨0, by omega, rfl, hx, by simpa [lowTo, lowL] using hm⟩
 case round =>
  obtain ⟨k, hk, rfl, hxr, hmr⟩ := hrel
  by_cases hlt : k < s.size
  ·have hkl : k < l.length := by omega
   have hkl2 : k < (lowTo l k).length := by rw [lowTo_length]; omega
   have hc := hmr.cell hkl2
   have hf := hmr.free hkl2
   rw [lowTo_get l k hkl] at hc
   have hset := hmr.set k (lowB l[k])
   rw [lowTo_set l k hkl] at hset
   have hon := lowTo_on l k hkl
   have hup := lowB_up (c := l[k])
   have hno := lowB_no (c := l[k])
   have hcl := l[k].toNat_lt
   have hlt2 : (k : Int) < s.size := by omega
   generalize l[k] = c at *
   have HSET := Lib.hid hset
   have HON := Lib.hid hon
   have HUP := Lib.hid hup
   have HNO := Lib.hid hno
   clear hset hon hup hno hm hx
   by_cases h1 : 65 ≤ c.toNat
   ·have h1' : (65 : Int) ≤ c.toNat := by omega
    by_cases h2 : c.toNat ≤ 90
    ·have h2' : (c.toNat : Int) ≤ 90 := by omega
     go_wp2
     go_roundw
     case rel => exact ⟨k + 1, by omega, by go_num, hxr.setCell (Nat.le_refl _) _, by rw [← HUP.out h1 h2]; exact HSET.out⟩
     case measure => simp [intOf]; omega
    ·have h2' : ¬ (c.toNat : Int) ≤ 90 := by omega
     go_wp2
     go_roundw
     case rel => exact ⟨k + 1, by omega, by go_num, hxr, by rw [HON.out (HNO.out (by omega))]; exact hmr⟩
     case measure => simp [intOf]; omega
   ·have h1' : ¬ (65 : Int) ≤ c.toNat := by omega
    go_wp2
    go_roundw
    case rel => exact ⟨k + 1, by omega, by go_num, hxr, by rw [HON.out (HNO.out (by omega))]; exact hmr⟩
    case measure => simp [intOf]; omega
  ·have hk' : k = s.size := by omega
   subst hk'
   have hlt2 : ¬ (s.size : Int) < s.size := by omega
   have he : lowTo l s.size = lowL l := by unfold lowTo; rw [List.take_of_length_le (by omega), List.drop_of_length_le (by omega), List.append_nil]
   rw [he] at hmr
   have hcs := conv_str hmr.bs s.size cap (by rw [lowL_length, HS.out])
   clear he hmr hm hcv
   go_wp2
   go_ret
   exact ⟨rfl, hxr⟩
theorem Same_any (a b : ByteArray) (w : World) (ha : a.size ≤ 140737488355328) (hb : b.size ≤ 140737488355328) : Calls Tryz.prog 108 #[.string a, .string b] w fun e w' => e = .returned (.bool (decide (lowL (tl a) = lowL (tl b)))) ∧ Ext w w' := by
 go_enter Tryz.func108, Tryz.ntmps108
 go_wp2_with fail
 refine (Lower_any a w ha).mono ?_
 rintro e w1 ⟨rfl, hx1⟩
 go_wp2_with fail
 refine (Lower_any b w1 hb).mono ?_
 rintro e w2 ⟨rfl, hx2⟩
 go_wp2
 go_ret
 exact ⟨ret_bool (by rw [Bool.eq_iff_iff]; simp), hx1.trans hx2⟩
set_option maxHeartbeats 400000 in
theorem RLower_any (s : ByteArray) (w : World) (hs : s.size ≤ 140737488355328) : Calls Tryz.prog 100 #[.string s] w fun e w' => e = .returned (.string (st (lowL (tl s)))) ∧ Ext w w' := by
 have hsz := tl_length s
 have hget := tl_get? s
 generalize hl : tl s = l at *
 have HS := Lib.hid hsz
 have HL := Lib.hid hl
 have HG := Lib.hid hget
 have hs1 : s.size ≤ l.length := by omega
 have hs2 : l.length ≤ s.size := by omega
 clear hsz hl hget
 go_enter Tryz.func100, Tryz.ntmps100
 go_wp2
 go_loopw [3, 4] (fun o i wr => ∃ k : Nat, k ≤ s.size ∧ i = .int .i64 k ∧ Ext w wr ∧ o = .string (st (lowL (l.take k)))) (fun _ i _ => s.size - (intOf i).toNat)
 case atStart => exact ⟨0, by omega, rfl, Ext.refl _, rfl⟩
 case round =>
  obtain ⟨k, hk, rfl, hxr, rfl⟩ := hrel
  by_cases hlt : k < s.size
  ·have hkl : k < l.length := by omega
   have hg := HG.out k hlt
   have hsn : lowL (l.take (k + 1)) = lowL (l.take k) ++ [lowB s[k]] := by rw [List.take_add_one, hg]; simp [lowL]
   have hup := lowB_up (c := s[k])
   have hno := lowB_no (c := s[k])
   have hcl := s[k].toNat_lt
   have hlt2 : (k : Int) < s.size := by omega
   have hcv := fun (x : UInt8) => conv_str (Bs.new wr [x] #[.int .u8 (x.toNat : Int)] rfl 5 (0, 0)) 1 1 rfl
   have hcv1 := hcv s[k]
   have hcv2 := hcv (lowB s[k])
   have HSN := Lib.hid hsn
   have HUP := Lib.hid hup
   have HNO := Lib.hid hno
   clear hsn hup hno hg hcv
   have hpl : (lowL (l.take k)).length ≤ 140737488355328 := by simp; omega
   generalize lowL (l.take k) = pre at *
   by_cases h1 : 65 ≤ s[k].toNat
   ·have h1' : (65 : Int) ≤ s[k].toNat := by omega
    by_cases h2 : s[k].toNat ≤ 90
    ·have h2' : (s[k].toNat : Int) ≤ 90 := by omega
     rw [HUP.out h1 h2] at hcv2
     go_wp2
     go_roundw
     case rel => exact ⟨k + 1, by omega, by go_num, hxr.alloc _, by rw [HSN.out]⟩
     case measure => simp [intOf]; omega
    ·have h2' : ¬ (s[k].toNat : Int) ≤ 90 := by omega
     go_wp2
     go_roundw
     case rel => exact ⟨k + 1, by omega, by go_num, hxr.alloc _, by rw [HSN.out, HNO.out (by omega)]⟩
     case measure => simp [intOf]; omega
   ·have h1' : ¬ (65 : Int) ≤ s[k].toNat := by omega
    go_wp2
    go_roundw
    case rel => exact ⟨k + 1, by omega, by go_num, hxr.alloc _, by rw [HSN.out, HNO.out (by omega)]⟩
    case measure => simp [intOf]; omega
  ·have hk' : k = s.size := by omega
   subst hk'
   have hlt2 : ¬ (s.size : Int) < s.size := by omega
   have he : l.take s.size = l := List.take_of_length_le (by omega)
   rw [he]
   clear he
   go_wp2
   go_ret
   exact ⟨rfl, hxr⟩
end Go.Proofs.YthlppbbejdeeoaaGreatDoor
namespace Go.Proofs.YthlppbbejdeeoaaGreatDoor
open Go.RowKit
theorem ex_st (s : ByteArray) (a b : Nat) : s.extract a b = st (((tl s).take b).drop a) := by
 apply ByteArray.ext
 simp only [st, tl, ByteArray.data_extract]
 apply Array.toList_inj.1
 simp [Array.toList_extract, List.drop_take]
def wordL (l : List UInt8) : List UInt8 × List UInt8 := (l.takeWhile (· != 32), (l.dropWhile (· != 32)).drop 1)
theorem wordL_at {l : List UInt8} : ∀ {k : Nat}, (l.take k).all (· != 32) = true → l[k]? = some 32 → wordL l = (l.take k, l.drop (k + 1)) := by
 induction l with
 | nil => intro k _ h; simp at h
 | cons c l ih =>
  intro k h hk
  cases k with
  | zero => simp at hk; subst hk; simp [wordL]
  | succ k =>
   simp only [List.take_succ_cons, List.all_cons, Bool.and_eq_true] at h
   simp only [List.getElem?_cons_succ] at hk
   have := ih h.2 hk
   simp only [wordL, Prod.mk.injEq] at this ⊢
   have hc : (c != 32) = true := h.1
   simp only [List.takeWhile_cons, List.dropWhile_cons, hc, if_true, List.take_succ_cons, List.drop_succ_cons]
   exact ⟨by rw [this.1], this.2⟩
theorem wordL_none {l : List UInt8} (h : l.all (· != 32) = true) : wordL l = (l, []) := by
 induction l with
 | nil => rfl
 | cons c l ih =>
  simp only [List.all_cons, Bool.and_eq_true] at h
  have := ih h.2
  simp only [wordL, Prod.mk.injEq] at this ⊢
  have hc : (c != 32) = true := h.1
  simp only [List.takeWhile_cons, List.dropWhile_cons, hc, if_true]
  exact ⟨by rw [this.1], this.2⟩
/-- what both tell -/
def WordSays (l : List UInt8) (w : World) (e : Ending) (w' : World) : Prop := e = .returned (.tuple #[.string (st (wordL l).1), .string (st (wordL l).2)]) ∧ Ext w w'
theorem WordSays.at_ {s : ByteArray} {k : Nat} {w w' : World} (h : ((tl s).take k).all (· != 32) = true) (hk : (tl s)[k]? = some 32) (hx : Ext w w') : WordSays (tl s) w (.returned (.tuple #[.string (s.extract 0 k), .string (s.extract (k + 1) s.size)])) w' := by
 unfold WordSays
 rw [wordL_at h hk, ex_st, ex_st]
 have e : (tl s).take s.size = tl s := List.take_of_length_le (by simp)
 rw [e]
 simpa using hx
theorem WordSays.none {s : ByteArray} {w w' : World} (h : (tl s).all (· != 32) = true) (hx : Ext w w') : WordSays (tl s) w (.returned (.tuple #[.string s, .string ⟨#[]⟩])) w' := by
 unfold WordSays
 rw [wordL_none h]
 simp only [st_tl]
 exact ⟨rfl, hx⟩
end Go.Proofs.YthlppbbejdeeoaaGreatDoor
namespace Go.Proofs.YthlppbbejdeeoaaGreatDoor
open Go.RowKit
def plainB (c w : Int) : Bool := decide (32 ≤ c ∧ c ≠ 127 ∧ (c ≠ 65533 ∨ w = 3))
theorem plain_any (c n : Int) (w : World) : Calls Tryz.prog 104 #[.int .i32 c, .int .i64 n] w fun e w' => e = .returned (.bool (plainB c n)) ∧ w = w' := by
 unfold plainB
 by_cases h1 : 32 ≤ c
 ·by_cases h2 : c = 127
  ·have e2 : (c != 127) = false := by rw [h2]; rfl
   have HR : Hid (decide (32 ≤ c ∧ c ≠ 127 ∧ (c ≠ 65533 ∨ n = 3)) = false) := Lib.hid (decide_eq_false (by omega))
   rw [HR.out]
   clear h2
   go_enter Tryz.func104, Tryz.ntmps104
   go_wp2
   go_ret
   exact ⟨rfl, rfl⟩
  ·have e2 : (c != 127) = true := by simpa using h2
   by_cases h3 : c = 65533
   ·have e3 : (c != 65533) = false := by rw [h3]; rfl
    by_cases h4 : n = 3
    ·have e4 : (n == 3) = true := by rw [h4]; rfl
     have HR : Hid (decide (32 ≤ c ∧ c ≠ 127 ∧ (c ≠ 65533 ∨ n = 3)) = true) := Lib.hid (decide_eq_true (by omega))
     rw [HR.out]
     clear h2 h3 h4
     go_enter Tryz.func104, Tryz.ntmps104
     go_wp2
     go_ret
     exact ⟨rfl, rfl⟩
    ·have e4 : (n == 3) = false := beq_eq_false_iff_ne.2 h4
     have HR : Hid (decide (32 ≤ c ∧ c ≠ 127 ∧ (c ≠ 65533 ∨ n = 3)) = false) := Lib.hid (decide_eq_false (by omega))
     rw [HR.out]
     clear h2 h3 h4
     go_enter Tryz.func104, Tryz.ntmps104
     go_wp2
     go_ret
     exact ⟨rfl, rfl⟩
   ·have e3 : (c != 65533) = true := by simpa using h3
    have HR : Hid (decide (32 ≤ c ∧ c ≠ 127 ∧ (c ≠ 65533 ∨ n = 3)) = true) := Lib.hid (decide_eq_true (by omega))
    rw [HR.out]
    clear h2 h3
    go_enter Tryz.func104, Tryz.ntmps104
    go_wp2
    go_ret
    exact ⟨rfl, rfl⟩
 ·have HR : Hid (decide (32 ≤ c ∧ c ≠ 127 ∧ (c ≠ 65533 ∨ n = 3)) = false) := Lib.hid (decide_eq_false (by omega))
  rw [HR.out]
  have h1' : c < 32 := by omega
  go_enter Tryz.func104, Tryz.ntmps104
  go_wp2
  go_ret
  exact ⟨rfl, rfl⟩
theorem dec_at (s : ByteArray) (pos : Nat) : Utf8.decode s pos = Lib.decodeL ((tl s).drop pos) := (Lib.decodeL_drop s pos).symm
theorem dec_pos (s : ByteArray) (pos : Nat) (h : pos < s.size) : 1 ≤ (Utf8.decode s pos).2 := Lib.decode_width_pos s pos h
theorem dec_le (s : ByteArray) (pos : Nat) (h : pos < s.size) : pos + (Utf8.decode s pos).2 ≤ s.size := by
 rw [dec_at]
 have := Lib.decodeL_le ((tl s).drop pos) (by
  intro e
  have := congrArg List.length e
  simp at this
  omega)
 simp at this
 omega
set_option maxHeartbeats 400000 in
theorem width_any (s : ByteArray) (k : Nat) (w : World) (hs : s.size ≤ 140737488355328) (hk : k < s.size) : Calls Tryz.prog 105 #[.string s, .int .i64 k] w fun e w' => e = .returned (.int .i64 ((Utf8.decode s k).2 : Nat)) ∧ Ext w w' := by
 have hw1 := dec_pos s k hk
 have hw2 := dec_le s k hk
 have ht := Lib.tail_decode s k 0
 have hsz := Lib.tail_size s k
 rw [Nat.add_zero] at ht
 have h0 : (0 : Int) ≤ (k : Int) := by omega
 have h1 : (k : Int) ≤ s.size := by omega
 obtain ⟨t, hT⟩ : ∃ t, t = s.extract k s.size := ⟨_, rfl⟩
 have hit0 : It (w.iter t 0) w.heap.size t 0 := World.iter_heap w _ 0
 have hx0 : Ext w (w.iter t 0) := (Ext.refl w).alloc _
 rw [← hT] at ht hsz
 have hts1 : t.size ≤ s.size - k := by omega
 have hts2 : s.size - k ≤ t.size := by omega
 have HT := Lib.hid hT
 have HD := Lib.hid ht
 generalize hWd : (Utf8.decode s k).2 = W at *
 have HW := Lib.hid hWd
 clear ht hsz hWd
 go_enter Tryz.func105, Tryz.ntmps105
 go_wp2
 rw [← hT]
 clear hT
 go_loopw [] (fun wr => ∃ pos : Nat, (pos = 0 ∨ pos = W) ∧ It wr w.heap.size t pos ∧ Ext w wr) (fun wr => t.size + 1 - wr.iterPos w.heap.size)
 case atStart => exact ⟨0, .inl rfl, hit0, hx0⟩
 case round =>
  obtain ⟨pos, hpos, hit, hx⟩ := hrel
  clear hit0 hx0
  have HPOS := Lib.hid (iterPos_of hit)
  rcases hpos with rfl | rfl
  ·have hlt : 0 < t.size := by omega
   have hnx := hit.next hlt
   have hit2 := hit.at_ (0 + (Utf8.decode t 0).2)
   have hx2 := hx.iterAt (pos := 0 + (Utf8.decode t 0).2) (s := t) (Nat.le_refl w.heap.size)
   have hW2 : 0 + (Utf8.decode t 0).2 = W := by rw [HD.out, Nat.zero_add]; exact HW.out
   rw [hW2] at hnx hit2 hx2
   have HPOS2 := Lib.hid (iterPos_of hit2)
   clear hW2
   go_wp2
   go_roundw
   case rel => exact ⟨W, .inr rfl, hit2, hx2⟩
   case measure => rw [HPOS2.out, HPOS.out]; omega
  ·by_cases hlt : pos < t.size
   ·have hnx := hit.next hlt
    have hx2 := hx.iterAt (pos := pos + (Utf8.decode t pos).2) (s := t) (Nat.le_refl w.heap.size)
    have h2 : (0 : Int) < (pos : Int) := by omega
    go_wp2
    go_ret
    exact ⟨rfl, hx2⟩
   ·have hst := hit.stop hlt
    go_wp2
    go_ret
    exact ⟨ret_int (by omega), hx⟩
/-! ## letters: what decodes, and its bytes -/
def letF : Nat → List UInt8 → List (Nat × List UInt8)
 | 0, _ => []
 | _ + 1, [] => []
 | f + 1, c :: l => ((Lib.decodeL (c :: l)).1, (c :: l).take (Lib.decodeL (c :: l)).2) :: letF f ((c :: l).drop (Lib.decodeL (c :: l)).2)
def letL (l : List UInt8) : List (Nat × List UInt8) := letF l.length l
theorem decL_pos (l : List UInt8) (h : l ≠ []) : 1 ≤ (Lib.decodeL l).2 := by
 have := dec_pos (st l) 0 (by simp [st_size]; exact List.length_pos_iff.2 h)
 rw [dec_at] at this
 simpa using this
theorem letF_fuel : ∀ (f g : Nat) (l : List UInt8), l.length ≤ f → l.length ≤ g → letF f l = letF g l := by
 intro f
 induction f with
 | zero =>
  intro g l h _
  have : l = [] := List.eq_nil_of_length_eq_zero (by omega)
  subst this
  cases g <;> rfl
 | succ f ih =>
  intro g l h1 h2
  cases l with
  | nil => cases g <;> rfl
  | cons c l =>
   cases g with
   | zero => simp at h2
   | succ g =>
    simp only [letF]
    have hp := decL_pos (c :: l) (by simp)
    rw [ih g _ (by simp only [List.length_drop, List.length_cons] at *; omega) (by simp only [List.length_drop, List.length_cons] at *; omega)]
theorem letL_nil : letL [] = [] := rfl
theorem letL_step (l : List UInt8) (h : l ≠ []) : letL l = ((Lib.decodeL l).1, l.take (Lib.decodeL l).2) :: letL (l.drop (Lib.decodeL l).2) := by
 cases l with
 | nil => exact absurd rfl h
 | cons c l =>
  have hp := decL_pos (c :: l) (by simp)
  unfold letL
  simp only [List.length_cons, letF]
  rw [letF_fuel l.length _ _ (by simp only [List.length_drop, List.length_cons]; omega) (Nat.le_refl _)]
end Go.Proofs.YthlppbbejdeeoaaGreatDoor
