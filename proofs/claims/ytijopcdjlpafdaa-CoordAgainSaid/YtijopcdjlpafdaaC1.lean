/- Words for memory of which some blocks may turn: Kept M w w': all blocks of w but those of M are in w' as they were. Each holds for every program and world; the conditions are the hypotheses of each theorem. What a block of few cells says of its cells, in every world behind it in which that block has not turned. Each holds for every program and world; the conditions are the hypotheses of each theorem. Words for strings: their bytes as a list, a row of bytes that []byte(s) makes, string(b), a string's iterator. Each holds for every program and world; the conditions are the hypotheses of each theorem. Whole values of structs out of and into memory, as the walk's list meets them; how a call with four results, or with one that lies in memory and two more, comes back. Each holds for every program and world; the conditions are the hypotheses of each theorem. What the walks of small texts share: the row of []uint8. Small walks of coord: num, val, good, right, New; slices.Clone, Contains and Equal of ints. Conditions: the hypotheses of each theorem. -/
import Derived.Test.YtijopcdjlpafdaaC0
import Derived.Test.YtijopcdjlpafdaaChecked
import Derived.Lib.OthersKept
import Derived.Laws.BitsAllLaws
import Derived.IntWalk
import Derived.Deep.WholeRow
import Derived.Deep.RegionHeld3
namespace Go.Proofs.Ytijopcdjlpafdaa
open Go.RowKit
structure Kept (M : List Nat) (w w' : World) : Prop where
 os : w'.os = w.os
 tape : w'.tape = w.tape
 output : w'.output = w.output
 size : w.heap.size ≤ w'.heap.size
 block : ∀ k, k < w.heap.size → k ∉ M → w'.heap[k]? = w.heap[k]?
section
variable {M N : List Nat} {w w' w'' : World}
@[go_sem] theorem Kept.refl (M : List Nat) (w : World) : Kept M w w := ⟨rfl, rfl, rfl, Nat.le_refl _, fun _ _ _ => rfl⟩
theorem Kept.trans (h : Kept M w w') (k : Kept M w' w'') : Kept M w w'' :=
 ⟨k.os.trans h.os, k.tape.trans h.tape, k.output.trans h.output, Nat.le_trans h.size k.size, fun i hi hn => (k.block i (Nat.lt_of_lt_of_le hi h.size) hn).trans (h.block i hi hn)⟩
theorem Kept.mono (h : Kept M w w') (hs : ∀ k ∈ M, k ∈ N) : Kept N w w' := ⟨h.os, h.tape, h.output, h.size, fun k hk hn => h.block k hk fun hm => hn (hs k hm)⟩
theorem Kept.of_ext (h : Ext w w') : Kept M w w' := ⟨h.os, h.tape, h.output, Below.size h, fun k hk _ => h.block k hk⟩
theorem Kept.to_ext (h : Kept M w w') (hm : ∀ k ∈ M, w.heap.size ≤ k) : Ext w w' := ⟨h.os, h.tape, h.output, h.size, fun k hk => h.block k hk fun hh => by have := hm k hh; omega⟩
theorem Kept.ext (h : Kept M w w') (k : Ext w' w'') : Kept M w w'' := h.trans (.of_ext k)
/-- of blocks that are newer nothing is asked -/
theorem Kept.less (h : Kept M w w') (hs : ∀ k ∈ M, k < w.heap.size → k ∈ N) : Kept N w w' := ⟨h.os, h.tape, h.output, h.size, fun k hk hn => h.block k hk fun hm => hn (hs k hm hk)⟩
theorem Kept.alloc (h : Kept M w w') (o : Obj) : Kept M w (w'.alloc o) := h.ext ((Ext.refl _).alloc o)
theorem Kept.drew (h : Kept M w w') : Kept M w w'.drew := ⟨h.os, h.tape, h.output, h.size, h.block⟩
theorem Kept.drewN (h : Kept M w w') (n : Nat) : Kept M w (w'.drewN n) := ⟨h.os, h.tape, h.output, h.size, h.block⟩
theorem Kept.setCell (h : Kept M w w') {p : Addr} (hp : p.block ∈ M ∨ w.heap.size ≤ p.block) (u : Value) : Kept M w (w'.setCell p u) :=
 ⟨h.os, h.tape, h.output, by simpa [World.setCell] using h.size, fun i hi hne => (Below.heap_setCell w' p u i (by
  rintro rfl
  rcases hp with hp | hp
  ·exact hne hp
  ·omega)).trans (h.block i hi hne)⟩
theorem Kept.grown {row : Option Nat} (h : Kept M w w') (hg : w'.grownBy w'' row) (hr : ∀ k, row = some k → k ∈ M ∨ w.heap.size ≤ k) : Kept M w w'' :=
 ⟨hg.os.trans h.os, hg.tape.trans h.tape, hg.output.trans h.output, Nat.le_trans h.size hg.size, fun k hk hn => (hg.block k (Nat.lt_of_lt_of_le hk h.size) (fun e => by
  rcases hr k e.symm with h1 | h1
  ·exact hn h1
  ·omega)).trans (h.block k hk hn)⟩
theorem Kept.cell (h : Kept M w w') {p : Addr} {v : Value} (hp : w.cell? p = some v) (hn : p.block ∉ M) : w'.cell? p = some v :=
 (World.cell?_of_block (w := w) (h.block p.block (World.block_lt_of_cell? w p hp) hn)).trans hp
theorem Kept.heap (h : Kept M w w') {g : Nat} {o : Obj} (hp : w.heap[g]? = some o) (hn : g ∉ M) : w'.heap[g]? = some o :=
 (h.block g (Array.getElem?_eq_some_iff.1 hp).1 hn).trans hp
@[go_sem] theorem Kept.alloc_iff (o : Obj) (h : Kept M w w') : Kept M w (w'.alloc o) := h.alloc o
@[go_sem] theorem Kept.drew_iff (h : Kept M w w') : Kept M w w'.drew := h.drew
@[go_sem] theorem Kept.drewN_iff (n : Nat) (h : Kept M w w') : Kept M w (w'.drewN n) := h.drewN n
end
/-- the slice at A has the cells xs, none of them in a block of M -/
def SlM (M : List Nat) (w : World) (A : Option Addr) (xs : List Value) : Prop := ∀ k v, xs[k]? = some v → ∃ ad, A = some ad ∧ ad.block ∉ M ∧ w.cell? (ad.add k) = some v
section
variable {M : List Nat} {w w' : World} {A : Option Addr} {xs : List Value}
theorem SlM.nil (M : List Nat) (w : World) (A : Option Addr) : SlM M w A [] := fun k v h => by simp at h
theorem SlM.kept (h : SlM M w A xs) (hx : Kept M w w') : SlM M w' A xs := fun k v hk => by
 obtain ⟨ad, e, hn, hc⟩ := h k v hk
 exact ⟨ad, e, hn, hx.cell hc (by rw [addr_add_block]; exact hn)⟩
theorem SlM.sl (h : SlM M w A xs) : Sl w A xs := fun k v hk => by
 obtain ⟨ad, e, _, hc⟩ := h k v hk
 exact ⟨ad, e, hc⟩
theorem SlM.less {N : List Nat} (h : SlM M w A xs) (hs : ∀ k ∈ N, k ∈ M) : SlM N w A xs := fun k v hk => by
 obtain ⟨ad, e, hn, hc⟩ := h k v hk
 exact ⟨ad, e, fun h => hn (hs _ h), hc⟩
/-- a row that is there already lies in no block that is newer -/
theorem SlM.old {N : List Nat} (h : SlM M w A xs) (hs : ∀ k ∈ N, k ∈ M ∨ w.heap.size ≤ k) : SlM N w A xs := fun k v hk => by
 obtain ⟨ad, e, hn, hc⟩ := h k v hk
 refine ⟨ad, e, fun h => ?_, hc⟩
 rcases hs _ h with h1 | h1
 ·exact hn h1
 ·have := World.block_lt_of_cell? w _ hc
  rw [addr_add_block] at this
  omega
theorem SlM.own {base e size n m c : Nat} {v : Value} (h : w.ownsRow base e size v n xs) (hv : v = .slice A m c) (hM : ∀ k ∈ M, k < base) : SlM M w A xs := fun k u hk => by
 obtain ⟨ad, e1, hc⟩ := Sl.own h hv k u hk
 refine ⟨ad, e1, fun hm => ?_, hc⟩
 have := (h.lt ad.block (by rw [hv, e1]; rfl)).1
 have := hM _ hm
 omega
end
def BsM (M : List Nat) (w : World) (A : Option Addr) (l : List UInt8) : Prop := SlM M w A (bv l)
theorem BsM.bs {M : List Nat} {w : World} {A : Option Addr} {l : List UInt8} (h : BsM M w A l) : Bs w A l := SlM.sl h
theorem BsM.kept {M : List Nat} {w w' : World} {A : Option Addr} {l : List UInt8} (h : BsM M w A l) (hx : Kept M w w') : BsM M w' A l := SlM.kept h hx
theorem BsM.own {M : List Nat} {w : World} {base n c : Nat} {A : Option Addr} {l : List UInt8} (h : Own w base (.slice A n c) l) (hM : ∀ k ∈ M, k < base) : BsM M w A l := SlM.own h rfl hM
/-- what an element's cells say, kept while the blocks of M turn -/
structure Reading (α : Type) where
 says : List Nat → World → List Value → α → Prop
 kept : ∀ {M w w' cs x}, says M w cs x → Kept M w w' → says M w' cs x
 old : ∀ {M N w cs x}, says M w cs x → (∀ k ∈ N, k ∈ M ∨ w.heap.size ≤ k) → says N w cs x
/-- the slice at A reads as the list xs, each element by s cells -/
def RsM {α : Type} (R : Reading α) (s : Nat) (M : List Nat) (w : World) (A : Option Addr) (xs : List α) : Prop :=
 ∃ css : List (List Value), css.length = xs.length ∧ (∀ cs ∈ css, cs.length = s) ∧ SlM M w A css.flatten ∧ ∀ (k : Nat) (cs : List Value) (x : α), css[k]? = some cs → xs[k]? = some x → R.says M w cs x
theorem flatten_length {css : List (List Value)} {s : Nat} (h : ∀ cs ∈ css, cs.length = s) : css.flatten.length = css.length * s := by
 induction css with
 | nil => simp
 | cons c css ih =>
  simp only [List.flatten_cons, List.length_append, List.length_cons]
  rw [ih (fun cs hc => h cs (by simp [hc])), h c (by simp), Nat.succ_mul]
  omega
theorem flatten_get {css : List (List Value)} {s : Nat} (h : ∀ cs ∈ css, cs.length = s) : ∀ (k j : Nat) (cs : List Value), css[k]? = some cs → j < s → css.flatten[k * s + j]? = cs[j]? := by
 induction css with
 | nil => intro k j cs hk; simp at hk
 | cons c css ih =>
  intro k j cs hk hj
  have hc := h c (by simp)
  cases k with
  | zero => simp at hk; subst hk; simp only [Nat.zero_mul, Nat.zero_add, List.flatten_cons]; rw [List.getElem?_append_left (by omega)]
  | succ k =>
   simp only [List.getElem?_cons_succ] at hk
   simp only [List.flatten_cons]
   rw [List.getElem?_append_right (by rw [hc, Nat.succ_mul]; omega), ← ih (fun cs hc => h cs (by simp [hc])) k j cs hk hj]
   congr 1
   rw [hc, Nat.succ_mul]
   omega
section
variable {α : Type} {R : Reading α} {s : Nat} {M : List Nat} {w w' : World} {A : Option Addr} {xs : List α}
theorem RsM.nil (R : Reading α) (s : Nat) (M : List Nat) (w : World) (A : Option Addr) : RsM R s M w A [] := ⟨[], rfl, by simp, SlM.nil _ _ _, by simp⟩
theorem RsM.kept (h : RsM R s M w A xs) (hx : Kept M w w') : RsM R s M w' A xs := by
 obtain ⟨css, h1, h2, h3, h4⟩ := h
 exact ⟨css, h1, h2, h3.kept hx, fun k cs x hk hxx => R.kept (h4 k cs x hk hxx) hx⟩
theorem RsM.old {N : List Nat} (h : RsM R s M w A xs) (hs : ∀ k ∈ N, k ∈ M ∨ w.heap.size ≤ k) : RsM R s N w A xs := by
 obtain ⟨css, h1, h2, h3, h4⟩ := h
 exact ⟨css, h1, h2, h3.old hs, fun k cs x hk hxx => R.old (h4 k cs x hk hxx) hs⟩
/-- the cells of one element -/
theorem RsM.at_ (h : RsM R s M w A xs) (hs : 0 < s) {k : Nat} (hk : k < xs.length) :
 ∃ ad cs, A = some ad ∧ ad.block ∉ M ∧ cs.length = s ∧ (∀ j v, cs[j]? = some v → w.cell? (ad.add (k * s + j)) = some v) ∧ R.says M w cs xs[k] := by
 obtain ⟨css, h1, h2, h3, h4⟩ := h
 have hk' : k < css.length := by omega
 have hcs : css[k]? = some css[k] := List.getElem?_eq_getElem hk'
 have hl : css[k].length = s := h2 _ (List.getElem_mem hk')
 have hg := fun j (hj : j < s) => flatten_get h2 k j css[k] hcs hj
 obtain ⟨ad, e, hn, _⟩ := h3 (k * s + 0) (css[k][0]'(by omega)) (by rw [hg 0 hs, List.getElem?_eq_getElem (by omega)])
 refine ⟨ad, css[k], e, hn, hl, fun j v hj => ?_, h4 k _ _ hcs (List.getElem?_eq_getElem hk)⟩
 have hj' : j < s := by rw [← hl]; exact (List.getElem?_eq_some_iff.1 hj).1
 obtain ⟨ad', e', _, hc⟩ := h3 (k * s + j) v (by rw [hg j hj']; exact hj)
 rw [e] at e'
 cases e'
 exact hc
end
/-- one element more: the old ones were read in an older world -/
theorem RsM.push {α : Type} {R : Reading α} {s : Nat} {M : List Nat} {wr w : World} {A : Option Addr} {xs : List α} {x : α} {css : List (List Value)} {cs : List Value} (q1 : css.length = xs.length) (q2 : ∀ cs ∈ css, cs.length = s)
 (q4 : ∀ (k : Nat) (cs : List Value) (x : α), css[k]? = some cs → xs[k]? = some x → R.says M wr cs x) (hk : Kept M wr w) (hcs : cs.length = s) (hs : R.says M wr cs x) (h' : SlM M w A (css.flatten ++ cs)) : RsM R s M w A (xs ++ [x]) := by
 refine ⟨css ++ [cs], by simp [q1], ?_, by simpa using h', ?_⟩
 ·intro c hc
  rcases List.mem_append.1 hc with h | h
  ·exact q2 c h
  ·simp at h; subst h; exact hcs
 ·intro k c z hk' hx
  rw [List.getElem?_append] at hk' hx
  by_cases hlt : k < css.length
  ·rw [if_pos hlt] at hk'
   rw [if_pos (by omega)] at hx
   exact R.kept (q4 k c z hk' hx) hk
  ·rw [if_neg hlt] at hk'
   rw [if_neg (by omega)] at hx
   have hk0 : k - css.length = 0 := by
    rcases Nat.eq_zero_or_pos (k - css.length) with h | h
    ·exact h
    ·rw [List.getElem?_eq_none (by simp; omega)] at hk'; cases hk'
   rw [hk0] at hk'
   rw [show k - xs.length = 0 by omega] at hx
   simp at hk' hx
   subst hk' hx
   exact R.kept hs hk
/-! ## rows of the call's own, each element by s cells -/
theorem flatten_take {css : List (List Value)} {s : Nat} (h : ∀ cs ∈ css, cs.length = s) : ∀ k, css.flatten.take (k * s) = (css.take k).flatten := by
 induction css with
 | nil => intro k; simp
 | cons c css ih =>
  intro k
  have hc := h c (by simp)
  cases k with
  | zero => simp
  | succ k =>
   simp only [List.flatten_cons, List.take_succ_cons]
   rw [← ih (fun cs hc => h cs (by simp [hc])) k, Nat.succ_mul, List.take_append, List.take_of_length_le (by omega)]
   congr 2
   omega
theorem flatten_drop {css : List (List Value)} {s : Nat} (h : ∀ cs ∈ css, cs.length = s) : ∀ k, css.flatten.drop (k * s) = (css.drop k).flatten := by
 induction css with
 | nil => intro k; simp
 | cons c css ih =>
  intro k
  have hc := h c (by simp)
  cases k with
  | zero => simp
  | succ k =>
   simp only [List.flatten_cons, List.drop_succ_cons]
   rw [← ih (fun cs hc => h cs (by simp [hc])) k, Nat.succ_mul, List.drop_append, List.drop_of_length_le (by omega)]
   simp only [List.nil_append]
   congr 1
   omega
/-- v is a row of the call's own that reads as xs, its elements read in the world wr -/
def OwnR {α : Type} (R : Reading α) (s e : Nat) (M : List Nat) (wr w : World) (base : Nat) (v : Value) (xs : List α) : Prop :=
 ∃ css : List (List Value), css.length = xs.length ∧ (∀ cs ∈ css, cs.length = s) ∧ w.ownsRow base e s v xs.length css.flatten ∧ ∀ (k : Nat) (cs : List Value) (x : α), css[k]? = some cs → xs[k]? = some x → R.says M wr cs x
section
variable {α : Type} {R : Reading α} {s e : Nat} {M : List Nat} {wr w w' : World} {base : Nat} {v : Value} {xs : List α}
theorem OwnR.form (h : OwnR R s e M wr w base v xs) : ∃ A cap, v = .slice A xs.length cap := by
 obtain ⟨css, _, _, h3, _⟩ := h
 exact own_form h3
theorem OwnR.rsm {A : Option Addr} {n c : Nat} (h : OwnR R s e M wr w base (.slice A n c) xs) (hk : Kept M wr w) (hM : ∀ k ∈ M, k < base) : RsM R s M w A xs := by
 obtain ⟨css, h1, h2, h3, h4⟩ := h
 exact ⟨css, h1, h2, SlM.own h3 rfl hM, fun k cs x h5 h6 => R.kept (h4 k cs x h5 h6) hk⟩
theorem OwnR.ext (h : OwnR R s e M wr w base v xs) (hx : Ext w w') : OwnR R s e M wr w' base v xs := by
 obtain ⟨css, h1, h2, h3, h4⟩ := h
 exact ⟨css, h1, h2, owns_ext h3 hx, h4⟩
theorem OwnR.read {wr' : World} (h : OwnR R s e M wr w base v xs) (hx : Kept M wr wr') : OwnR R s e M wr' w base v xs := by
 obtain ⟨css, h1, h2, h3, h4⟩ := h
 exact ⟨css, h1, h2, h3, fun k cs x h5 h6 => R.kept (h4 k cs x h5 h6) hx⟩
theorem OwnR.low {b2 : Nat} (h : OwnR R s e M wr w base v xs) (hb : b2 ≤ base) : OwnR R s e M wr w b2 v xs := by
 obtain ⟨css, h1, h2, h3, h4⟩ := h
 exact ⟨css, h1, h2, owns_low h3 hb, h4⟩
theorem OwnR.nil (R : Reading α) (s e : Nat) (M : List Nat) (wr w : World) (base : Nat) : OwnR R s e M wr w base (.slice none 0 0) [] := ⟨[], rfl, by simp, World.ownsRow_nil _ _ _ _, by simp⟩
theorem OwnR.cap {A : Option Addr} {n c : Nat} (h : OwnR R s e M wr w base (.slice A n c) xs) : n = xs.length ∧ xs.length ≤ c ∧ c ≤ 9223372036854775807 := by
 obtain ⟨css, h1, h2, h3, h4⟩ := h
 rcases h3.2 with ⟨e1, hn⟩ | ⟨g, cap, cur, e1, _, _, hc, hm, _⟩
 ·injection e1 with e1 e2 e3
  subst e3
  omega
 ·injection e1 with e1 e2 e3
  subst e3
  exact ⟨e2, hc, hm⟩
end
/-! ## s[:i], s[i+1:] and the rest, on a row of the call's own -/
section
variable {P : Program} {t e size bytes : Nat}
theorem run_setRow_ext {w W : World} {g : Nat} {cur : Array Value} (hg : w.heap[g]? = some (.cells cur e (0, 0))) (hx : Ext w W) : W.heap[g]? = some (.cells cur e (0, 0)) :=
 (hx.block g (Array.getElem?_eq_some_iff.1 hg).1).trans hg
/-- append(s[:i], s[i+1:]...) -/
theorem run_del_append (T : ElemOf P t e size bytes) {w : World} {g n cap i : Nat} {cur : Array Value} (hg : w.heap[g]? = some (.cells cur e (0, 0))) (hn : n ≤ cap) (hc : cur.size = cap * size) (hi : i < n) (h1 : ∀ u ∈ cur.toList.take (n * size), u.oneCell' = true)
 (ty c : Nat) (m : Nat) (hm : m = n - (i + 1)) : ∀ W, Ext w W →
 (Builtin.append_ #[t, t] ty #[.slice (some ⟨g, 0, none⟩) i cap, .slice (some (if cap = i + 1 then ⟨g, 0, none⟩ else (⟨g, 0, none⟩ : Addr).add ((i + 1) * size))) m c]).run P W =
  .ok (.slice (some ⟨g, 0, none⟩) (i + m) cap) (W.setRow g (cur.toList.take (i * size) ++ (cur.toList.drop ((i + 1) * size)).take (m * size) ++ cur.toList.drop (i * size + m * size)).toArray) := by
 intro W hx
 subst hm
 obtain ⟨inf, z, hi0, hz, hsize, hby, hzs⟩ := T.hi
 subst hsize
 have hg' := run_setRow_ext hg hx
 have hsz : (i + 1) * inf.size + (n - (i + 1)) * inf.size = n * inf.size := by rw [← Nat.add_mul]; congr 1; omega
 have hnc : n * inf.size ≤ cap * inf.size := Nat.mul_le_mul_right _ hn
 have hl : ((cur.toList.drop ((i + 1) * inf.size)).take ((n - (i + 1)) * inf.size)).length = (n - (i + 1)) * inf.size := by
  rw [List.length_take, List.length_drop, Array.length_toList, hc]; omega
 have hfit : i * inf.size + ((cur.toList.drop ((i + 1) * inf.size)).take ((n - (i + 1)) * inf.size)).length ≤ cur.size := by
  rw [hl, hc]
  have : (i + 1) * inf.size = i * inf.size + inf.size := Nat.succ_mul _ _
  omega
 have h := run_append_room (P := P) W t ty e inf T.ht hi0 g i cap cur hg' (if cap = i + 1 then ⟨g, 0, none⟩ else (⟨g, 0, none⟩ : Addr).add ((i + 1) * inf.size)) (n - (i + 1)) c
  ((cur.toList.drop ((i + 1) * inf.size)).take ((n - (i + 1)) * inf.size)) hl ?_ ?_ (by omega) hfit
 ·rw [h, hl]
 ·intro j u hu
  have hj : j < (n - (i + 1)) * inf.size := by rw [← hl]; exact (List.getElem?_eq_some_iff.1 hu).1
  have hne : ¬ cap = i + 1 := by
   intro e0
   have : n - (i + 1) = 0 := by omega
   rw [this, Nat.zero_mul] at hj
   omega
  rw [if_neg hne]
  rw [List.getElem?_take_of_lt hj, List.getElem?_drop] at hu
  have ha : ((⟨g, 0, none⟩ : Addr).add ((i + 1) * inf.size)).add j = ⟨g, (i + 1) * inf.size + j, none⟩ := by
   unfold Addr.add
   by_cases h1 : (i + 1) * inf.size = 0 <;> by_cases h2 : j = 0 <;> simp [h1, h2]
  rw [ha, cell_of_row _ _ _ _ _ _ hg']
  simpa using hu
 ·intro u hu
  have hu1 := List.mem_of_mem_take hu
  refine h1 u ?_
  rw [List.mem_iff_getElem?] at hu ⊢
  obtain ⟨j, hj⟩ := hu
  have hj' : j < (n - (i + 1)) * inf.size := by rw [← hl]; exact (List.getElem?_eq_some_iff.1 hj).1
  rw [List.getElem?_take_of_lt hj', List.getElem?_drop] at hj
  refine ⟨(i + 1) * inf.size + j, ?_⟩
  rw [List.getElem?_take_of_lt (by omega)]
  exact hj
theorem step_app_run {ops : Array Oper} {o : Oper} {a : Act} {w w' : World} {K : Act → World → Prop} {Q : Exit → Act → World → Prop} {E : Prop} {s x : Operand} {v : Value} (hgd : o.guard = none)
 (ho : o.op = .call { callee := .builtin .append, args := #[s, x], argTypes := #[t, t] }) (hr : (Builtin.append_ #[t, t] o.type #[a.eval s, a.eval x]).run P w = .ok v w') (hK : K (a.put o.dst v) w') :
 if Region.wanted o (yielded ops a.tmps) = true then Oper.wp P o a w K Q else E := by
 have hw : Region.wanted o (yielded ops a.tmps) = true := by simp [Region.wanted, hgd]
 rw [if_pos hw]
 unfold Oper.wp execOp
 simp only [ho, resolve, invoke, builtin, Sem.run_bind, Sem.run_pure, Result.andThen_ok, List.map_toArray, List.map_cons, List.map_nil, hr]
 exact hK
theorem setRow_grown {w : World} {g : Nat} (cs : Array Value) : w.grownBy (w.setRow g cs) (some g) :=
 ⟨rfl, rfl, rfl, by simp [World.setRow], fun k _ hk => setRow_other w g k _ (fun e => hk (by rw [e]))⟩
theorem grown_drew {w w' : World} {row : Option Nat} (h : w.drew.grownBy w' row) : w.grownBy w' row := ⟨h.os, h.tape, h.output, h.size, h.block⟩
/-- clear(s[n:n+1]) -/
theorem run_clear_one (T : ElemOf P t e size bytes) {z : Value} (hz : ∀ w, (zeroValue e).run P w = .ok z w) (hzs : z.cells.size = size) (hz1 : ∀ u ∈ z.cells.toList, u.oneCell' = true) {w : World} {g n cap : Nat} {cur : Array Value}
 (hg : w.heap[g]? = some (.cells cur e (0, 0))) (hn : n + 1 ≤ cap) (hc : cur.size = cap * size) (ty c : Nat) (ad : Addr) (had : ad = ⟨g, n * size, none⟩) :
 (Builtin.clear_ #[t] ty #[.slice (some ad) 1 c]).run P w = .ok (.tuple #[]) (w.setRow g (cur.toList.take (n * size) ++ z.cells.toList ++ cur.toList.drop (n * size + size)).toArray) := by
 subst had
 have hzc : (Builtin.zeroCells z.cells 1).toList = z.cells.toList := by
  simp only [Builtin.zeroCells, Nat.one_mul]
  apply List.ext_getElem?
  intro j
  by_cases hj : j < z.cells.size
  ·simp [hj, Nat.mod_eq_of_lt hj]
  ·rw [List.getElem?_eq_none (by simp; omega), List.getElem?_eq_none (by simp; omega)]
 have hle : n * size + size ≤ cap * size := by rw [← Nat.succ_mul]; exact Nat.mul_le_mul_right _ hn
 have hst := run_storeCells_at P g (n * size) e z.cells.toList 0 cur w hg (by rw [Array.length_toList, hzs, hc]; omega) hz1
 simp only [Nat.add_zero, Array.length_toList, hzs] at hst
 simp [Builtin.clear_, run_underlying T.ht, hz, hzc, hst]
end
end Go.Proofs.Ytijopcdjlpafdaa
namespace Go.Proofs.Ytijopcdjlpafdaa
open Go.RowKit
section
variable {w : World} {p t : Nat} {a b c d e f : Value}
theorem row2_at (h : w.heap[p]? = some (.cells #[a, b] t (0, 0))) : w.cell? ⟨p, 0, none⟩ = some a ∧ w.cell? ⟨p, 1, none⟩ = some b ∧ (∀ j, w.frozen? ⟨p, j, none⟩ = false) :=
 ⟨by rw [cell_of_row w p 0 _ _ _ h]; rfl, by rw [cell_of_row w p 1 _ _ _ h]; rfl, fun j => frozen_of_row w p j _ _ h⟩
theorem row3_at (h : w.heap[p]? = some (.cells #[a, b, c] t (0, 0))) : w.cell? ⟨p, 0, none⟩ = some a ∧ w.cell? ⟨p, 1, none⟩ = some b ∧ w.cell? ⟨p, 2, none⟩ = some c ∧ (∀ j, w.frozen? ⟨p, j, none⟩ = false) :=
 ⟨by rw [cell_of_row w p 0 _ _ _ h]; rfl, by rw [cell_of_row w p 1 _ _ _ h]; rfl, by rw [cell_of_row w p 2 _ _ _ h]; rfl, fun j => frozen_of_row w p j _ _ h⟩
theorem row4_at (h : w.heap[p]? = some (.cells #[a, b, c, d] t (0, 0))) : w.cell? ⟨p, 0, none⟩ = some a ∧ w.cell? ⟨p, 1, none⟩ = some b ∧ w.cell? ⟨p, 2, none⟩ = some c ∧ w.cell? ⟨p, 3, none⟩ = some d ∧ (∀ j, w.frozen? ⟨p, j, none⟩ = false) :=
 ⟨by rw [cell_of_row w p 0 _ _ _ h]; rfl, by rw [cell_of_row w p 1 _ _ _ h]; rfl, by rw [cell_of_row w p 2 _ _ _ h]; rfl, by rw [cell_of_row w p 3 _ _ _ h]; rfl, fun j => frozen_of_row w p j _ _ h⟩
/-- a block in every world behind -/
theorem Ext.row (h : w.heap[p]? = some (.cells #[a] t (0, 0))) {w' : World} (hx : Ext w w') : w'.heap[p]? = some (.cells #[a] t (0, 0)) := (hx.block p (Array.getElem?_eq_some_iff.1 h).1).trans h
theorem Ext.obj {o : Obj} (h : w.heap[p]? = some o) {w' : World} (hx : Ext w w') : w'.heap[p]? = some o := (hx.block p (Array.getElem?_eq_some_iff.1 h).1).trans h
theorem obj_lt {o : Obj} (h : w.heap[p]? = some o) : p < w.heap.size := (Array.getElem?_eq_some_iff.1 h).1
theorem rows3 (h : w.heap[p]? = some (.cells #[a, b, c] t (0, 0))) : (∀ w', Ext w w' → w'.cell? ⟨p, 0, none⟩ = some a) ∧ (∀ w', Ext w w' → w'.cell? ⟨p, 1, none⟩ = some b) ∧ (∀ w', Ext w w' → w'.cell? ⟨p, 2, none⟩ = some c) ∧ (∀ w' j, Ext w w' → w'.frozen? ⟨p, j, none⟩ = false) :=
 ⟨fun _ hx => (row3_at (hx.obj h)).1, fun _ hx => (row3_at (hx.obj h)).2.1, fun _ hx => (row3_at (hx.obj h)).2.2.1, fun _ j hx => (row3_at (hx.obj h)).2.2.2 j⟩
theorem rows4 (h : w.heap[p]? = some (.cells #[a, b, c, d] t (0, 0))) : (∀ w', Ext w w' → w'.cell? ⟨p, 0, none⟩ = some a) ∧ (∀ w', Ext w w' → w'.cell? ⟨p, 1, none⟩ = some b) ∧ (∀ w', Ext w w' → w'.cell? ⟨p, 2, none⟩ = some c) ∧ (∀ w', Ext w w' → w'.cell? ⟨p, 3, none⟩ = some d) ∧ (∀ w' j, Ext w w' → w'.frozen? ⟨p, j, none⟩ = false) :=
 ⟨fun _ hx => (row4_at (hx.obj h)).1, fun _ hx => (row4_at (hx.obj h)).2.1, fun _ hx => (row4_at (hx.obj h)).2.2.1, fun _ hx => (row4_at (hx.obj h)).2.2.2.1, fun _ j hx => (row4_at (hx.obj h)).2.2.2.2 j⟩
end
theorem SlM.new (w : World) (l : List Value) (cs : Array Value) (h : cs = l.toArray) (t : TypeId) (fr : Nat × Nat) (M : List Nat) (hM : ∀ k ∈ M, k < w.heap.size) : SlM M (w.alloc (.cells cs t fr)) (some ⟨w.heap.size, 0, none⟩) l := by
 subst h
 intro k v hk
 obtain ⟨ad, e, hc⟩ := Sl.new w l t fr k v hk
 cases e
 exact ⟨_, rfl, fun hm => Nat.lt_irrefl _ (hM _ hm), hc⟩
theorem BsM.new (w : World) (l : List UInt8) (cs : Array Value) (h : cs = (bv l).toArray) (t : TypeId) (fr : Nat × Nat) (M : List Nat) (hM : ∀ k ∈ M, k < w.heap.size) : BsM M (w.alloc (.cells cs t fr)) (some ⟨w.heap.size, 0, none⟩) l :=
 SlM.new w _ cs h t fr M hM
theorem owns_obj {w : World} {base e size n p t : Nat} {v : Value} {xs : List Value} {cs : Array Value} {fr : Nat × Nat} (h : w.ownsRow base e size v n xs) (hp : w.heap[p]? = some (.cells cs t fr)) (hne : e ≠ t) : v.ownBlock = none ∨ v.ownBlock ≠ some p := by
 rcases owns_type h with h0 | ⟨g, cur, h1, h2⟩
 ·exact .inl h0
 ·refine .inr ?_
  rw [h1]
  intro e0
  injection e0 with e0
  subst e0
  rw [h2] at hp
  injection hp with hp
  injection hp with _ h3
  exact hne h3
theorem Ext.kept {M : List Nat} {w w1 w2 : World} (h : Ext w w1) (k : Kept M w1 w2) (hm : ∀ k ∈ M, w.heap.size ≤ k) : Ext w w2 := ((Kept.of_ext (M := M) h).trans k).to_ext hm
theorem one_ge {p n : Nat} (h : n ≤ p) : ∀ k ∈ [p], n ≤ k := by intro k hk; simp at hk; omega
end Go.Proofs.Ytijopcdjlpafdaa
namespace Go.Proofs.Ytijopcdjlpafdaa
open Go.RowKit
def tl (s : ByteArray) : List UInt8 := s.data.toList
@[simp] theorem tl_length (s : ByteArray) : (tl s).length = s.size := by unfold tl ByteArray.size; simp
@[simp] theorem tl_st (l : List UInt8) : tl (st l) = l := by simp [tl, st]
@[simp] theorem st_tl (s : ByteArray) : st (tl s) = s := by simp [tl, st]
theorem tl_get (s : ByteArray) (k : Nat) (h : k < s.size) : (tl s)[k]'(by simpa using h) = s[k] := by simp [tl]; rfl
@[go_sem] theorem st_append (a b : List UInt8) : st a ++ st b = st (a ++ b) := by
 apply ByteArray.ext
 simp [st]
@[go_sem] theorem st_size (l : List UInt8) : (st l).size = l.length := by unfold st ByteArray.size; simp
theorem tl_get? (s : ByteArray) (k : Nat) (h : k < s.size) : (tl s)[k]? = some s[k] := by rw [List.getElem?_eq_getElem (by simpa using h), tl_get s k h]
/-- a row of bytes that may be written -/
def Mut8 (w : World) (g : Nat) (l : List UInt8) : Prop :=
 ∃ cs fr, w.heap[g]? = some (.cells cs 5 fr) ∧ (fr = (0, 0) ∨ l.length ≤ fr.1) ∧ ∀ (k : Nat) (v : Value), (bv l)[k]? = some v → cs[k]? = some v
section
variable {w w' : World} {g : Nat} {l : List UInt8}
theorem Mut8.bs (h : Mut8 w g l) : Bs w (some ⟨g, 0, none⟩) l := by
 obtain ⟨cs, fr, h1, _, h3⟩ := h
 intro k v hk
 refine ⟨_, rfl, ?_⟩
 have : (⟨g, 0, none⟩ : Addr).add k = ⟨g, k, none⟩ := by unfold Addr.add; split <;> simp_all
 rw [this, cell_of_row _ _ k cs 5 fr h1]
 exact h3 k v hk
theorem Mut8.cell (h : Mut8 w g l) {k : Nat} (hk : k < l.length) : w.cell? ⟨g, k, none⟩ = some (.int .u8 (l[k].toNat : Int)) := by
 obtain ⟨cs, fr, h1, _, h3⟩ := h
 rw [cell_of_row _ _ k cs 5 fr h1]
 exact h3 k _ (bv_get hk)
theorem Mut8.free (h : Mut8 w g l) {k : Nat} (hk : k < l.length) : w.frozen? ⟨g, k, none⟩ = false := by
 obtain ⟨cs, fr, h1, h2, h3⟩ := h
 unfold World.frozen?
 simp only [h1]
 rcases h2 with rfl | h2
 ·simp
 ·simp; omega
theorem Mut8.ext (h : Mut8 w g l) (hx : Ext w w') : Mut8 w' g l := by
 obtain ⟨cs, fr, h1, h2, h3⟩ := h
 exact ⟨cs, fr, hx.obj h1, h2, h3⟩
theorem Mut8.set (h : Mut8 w g l) (k : Nat) (x : UInt8) : Mut8 (w.setCell ⟨g, k, none⟩ (.int .u8 (x.toNat : Int))) g (l.set k x) := by
 obtain ⟨cs, fr, h1, h2, h3⟩ := h
 refine ⟨cs.setIfInBounds k (.int .u8 (x.toNat : Int)), fr, ?_, by simpa using h2, fun j v hj => ?_⟩
 ·have hlt := (Array.getElem?_eq_some_iff.1 h1).1
  unfold World.setCell
  simp [Array.getElem?_modify, h1]
 ·have hb : bv (l.set k x) = (bv l).set k (.int .u8 (x.toNat : Int)) := by simp [bv, List.map_set]
  rw [hb, List.getElem?_set] at hj
  by_cases hkj : k = j
  ·subst hkj
   rw [if_pos rfl] at hj
   split at hj
   ·rename_i hlt
    cases hj
    have h4 := h3 k _ (List.getElem?_eq_getElem hlt)
    have := (Array.getElem?_eq_some_iff.1 h4).1
    simp [this]
   ·cases hj
  ·rw [if_neg hkj] at hj
   rw [Array.getElem?_setIfInBounds_ne hkj]
   exact h3 j v hj
theorem Mut8.lt (h : Mut8 w g l) : g < w.heap.size := by
 obtain ⟨cs, fr, h1, _⟩ := h
 exact obj_lt h1
end
/-- the iterator of a string that the call ranges over, at a place -/
def It (w : World) (g : Nat) (s : ByteArray) (pos : Nat) : Prop := w.heap[g]? = some (.stringIter s pos)
theorem It.next {w : World} {g pos : Nat} {s : ByteArray} (h : It w g s pos) (hp : pos < s.size) (ty : TypeId) : (Instr.next (.pointer (some ⟨g, 0, none⟩)) true ty).run Try.prog w = .ok (.tuple #[.bool true, .int .i64 pos, .int .i32 (Utf8.decode s pos).1]) (w.iterAt g s (pos + (Utf8.decode s pos).2)) :=
 Lib.run_next_any_at (P := Try.prog) w g s pos ty h hp
theorem It.at_ {w : World} {g pos : Nat} {s : ByteArray} (h : It w g s pos) (pos' : Nat) : It (w.iterAt g s pos') g s pos' := Lib.iterAt_heap w g s pos pos' h
theorem It.ext {w w' : World} {g pos : Nat} {s : ByteArray} (h : It w g s pos) (hx : Ext w w') : It w' g s pos := hx.obj h
theorem Ext.iterAt {w w' : World} {g pos : Nat} {s : ByteArray} (h : Ext w w') (hg : w.heap.size ≤ g) : Ext w (w'.iterAt g s pos) :=
 ⟨h.os, h.tape, h.output, by simpa [World.iterAt] using h.size, fun k hk => by
  have : (w'.iterAt g s pos).heap[k]? = w'.heap[k]? := by
   simp only [World.iterAt]
   rw [Array.getElem?_setIfInBounds_ne (by omega)]
  exact this.trans (h.block k hk)⟩
end Go.Proofs.Ytijopcdjlpafdaa
namespace Go.Proofs.Ytijopcdjlpafdaa
open Go.RowKit
section
variable {P : Program} {ops : Array Oper} {Q : Exit → Act → World → Prop} {rest : List Oper} {a : Act} {w : World} {d : Option Nat} {x y : Operand} {ty : Nat} {ps : String} {es : Array Edge} {gd : Option (Nat × Bool)}
theorem sL (T : Nat) (h : Stop (wpList P ops Q (Oper.mk d (.load T x) ty ps es gd :: rest) a w)) : wpList P ops Q (Oper.mk d (.load T x) ty ps es gd :: rest) a w := h
theorem sA (T : Nat) (h : Stop (wpList P ops Q (Oper.mk d (.alloc T) ty ps es gd :: rest) a w)) : wpList P ops Q (Oper.mk d (.alloc T) ty ps es gd :: rest) a w := h
theorem sS (T : Nat) (h : Stop (wpList P ops Q (Oper.mk d (.store T x y) ty ps es gd :: rest) a w)) : wpList P ops Q (Oper.mk d (.store T x y) ty ps es gd :: rest) a w := h
theorem wpList_alloc_ {o : Oper} {z : Array Value} {n : Nat} (hgd : o.guard = none) (ho : o.op = .alloc ty) (hi : (P.info? ty).map (fun i => (i.zero, i.size)) = some (some (.agg z), n))
 (h : wpList P ops Q rest (a.put o.dst (.pointer (some ⟨w.heap.size, 0, none⟩))) (w.alloc (.cells z ty))) : wpList P ops Q (o :: rest) a w := by
 refine wpList_plain hgd fun K hK => ?_
 have hz := (zero_of_info hi).1
 unfold Oper.wp execOp
 simp only [ho, Instr.alloc, Sem.run_bind, hz, Result.andThen_ok]
 simp [newVar, newRow, Value.cells]
 exact hK _ _ h
theorem wpList_store_new {o : Oper} {c c' : Array Value} (hgd : o.guard = none) (ho : o.op = .store ty x y) (hx : a.eval x = .pointer (some ⟨w.heap.size, 0, none⟩)) (hy : a.eval y = .agg c')
 (hi : (P.info? ty).map (·.size) = some c'.size) (hs : c.size = c'.size) (h1 : c'.all (·.oneCell') = true)
 (h : wpList P ops Q rest (a.put o.dst undef) (w.alloc (.cells c' ty))) : wpList P ops Q (o :: rest) a (w.alloc (.cells c ty)) := by
 refine wpList_plain hgd fun K hK => ?_
 unfold Oper.wp execOp
 simp only [ho, hx, hy, run_storeAt_new w ty c c' hi hs h1, Sem.run_bind, Sem.run_pure, Result.andThen_ok]
 exact hK _ _ h
/-- a whole value into the block that was made last: of the world behind it, what is asked for -/
theorem wpList_store_last {o : Oper} {c c' : Array Value} (hgd : o.guard = none) (ho : o.op = .store ty x y) (hx : a.eval x = .pointer (some ⟨w.heap.size, 0, none⟩)) (hy : a.eval y = .agg c')
 (hi : (P.info? ty).map (·.size) = some c'.size) (hs : c.size = c'.size) (h1 : c'.all (·.oneCell') = true)
 (h : ∀ W, W.heap[w.heap.size]? = some (.cells c' ty (0, 0)) → Ext w W → W.heap.size = w.heap.size + 1 → wpList P ops Q rest (a.put o.dst undef) W) : wpList P ops Q (o :: rest) a (w.alloc (.cells c ty)) :=
 wpList_store_new hgd ho hx hy hi hs h1 (h _ (heap_alloc_new w _) ((Ext.refl w).alloc _) (by simp))
/-- a whole value into a block -/
theorem wpList_store_whole {o : Oper} {c c' : Array Value} {g t : Nat} (hgd : o.guard = none) (ho : o.op = .store ty x y) (hx : a.eval x = .pointer (some ⟨g, 0, none⟩)) (hy : a.eval y = .agg c')
 (hg : w.heap[g]? = some (.cells c t (0, 0))) (hi : (P.info? ty).map (·.size) = some c'.size) (hs : c.size = c'.size) (h1 : c'.all (·.oneCell') = true)
 (h : ∀ W, W.heap[g]? = some (.cells c' t (0, 0)) → Kept [g] w W → W.heap.size = w.heap.size → wpList P ops Q rest (a.put o.dst undef) W) : wpList P ops Q (o :: rest) a w := by
 refine wpList_store_row hgd ty x y ho g c' hx hy t c hg hi hs h1 (h _ (setRow_heap w g _ _ t _ hg) ⟨rfl, rfl, rfl, by simp [World.setRow], fun k _ hk => setRow_other w g k _ (by simpa using hk)⟩ (by simp [World.setRow]))
end
section
variable {P : Program} {ops : Array Oper} {Q : Exit → Act → World → Prop} {rest : List Oper} {a : Act} {w : World} {o : Oper}
/-- an operation whose guard lets it by -/
theorem wpList_want (hw : Region.wanted o (yielded ops a.tmps) = true) (h : o.wp P a w (wpList P ops Q rest) Q) : wpList P ops Q (o :: rest) a w := by
 unfold wpList
 rw [if_pos hw]
 exact .inl h
theorem wpList_load_rowG (hw : Region.wanted o (yielded ops a.tmps) = true) (ty : TypeId) (x : Operand) (ho : o.op = .load ty x)
 (g : Nat) (hx : a.eval x = .pointer (some ⟨g, 0, none⟩)) (t : TypeId) (cs : Array Value) (fr : Nat × Nat) (d : TypeDesc) (hg : w.heap[g]? = some (.cells cs t fr))
 (hu : P.underlying ty = some d) (hd : (match d with | .struct _ | .array _ _ => true | _ => false) = true) (hi : (P.info? ty).map (·.size) = some cs.size)
 (h : wpList P ops Q rest (a.put o.dst (.agg cs)) w) : wpList P ops Q (o :: rest) a w :=
 wpList_want hw (wp_load_row ty x ho g hx t cs fr d hg hu hd hi h)
end
section
variable {P : Program} {ops : Array Oper} {Q : Exit → Act → World → Prop} {a : Act} {w : World} {o : Oper} {x y : Operand} {ty : Nat} {K : Act → World → Prop} {E : Prop}
/-- a whole value into a block, as one step of a region that draws -/
theorem step_store_whole {c c' : Array Value} {g t : Nat} (hw : Region.wanted o (yielded ops a.tmps) = true) (ho : o.op = .store ty x y) (hx : a.eval x = .pointer (some ⟨g, 0, none⟩)) (hy : a.eval y = .agg c')
 (hg : w.heap[g]? = some (.cells c t (0, 0))) (hi : (P.info? ty).map (·.size) = some c'.size) (hs : c.size = c'.size) (h1 : c'.all (·.oneCell') = true)
 (h : ∀ W, W.heap[g]? = some (.cells c' t (0, 0)) → Kept [g] w W → W.heap.size = w.heap.size → K (a.put o.dst undef) W) : if Region.wanted o (yielded ops a.tmps) = true then Oper.wp P o a w K Q else E := by
 rw [if_pos hw]
 exact wp_store_row ty x y ho g c' hx hy t c hg hi hs h1 (h _ (setRow_heap w g _ _ t _ hg) ⟨rfl, rfl, rfl, by simp [World.setRow], fun k _ hk => setRow_other w g k _ (by simpa using hk)⟩ (by simp [World.setRow]))
end
end Go.Proofs.Ytijopcdjlpafdaa
namespace Go.Proofs.Ytijopcdjlpafdaa
open Go.RowKit
theorem bytesTr : ElemOf Try.prog 23 5 1 1 := ElemOf.mk' (z := .int .u8 0) Try.underlying23 (by kernel_rfl) rfl (by omega)
end Go.Proofs.Ytijopcdjlpafdaa
namespace Go.Proofs.Ytijopcdjlpafdaa
open Go.RowKit
def ib (l : List Int) : List Value := l.map (Value.int .i64)
@[simp] theorem ib_length (l : List Int) : (ib l).length = l.length := by simp [ib]
theorem ib_one (l : List Int) : ∀ u ∈ ib l, u.oneCell' = true := by
 intro u hu
 simp only [ib, List.mem_map] at hu
 obtain ⟨c, _, rfl⟩ := hu
 rfl
theorem ib_get {l : List Int} {k : Nat} (hk : k < l.length) : (ib l)[k]? = some (.int .i64 l[k]) := by simp [ib, hk]
theorem Sl.int {w : World} {A : Option Addr} {l : List Int} (h : Sl w A (ib l)) {k : Nat} (hk : k < l.length) :
 ∃ ad, A = some ad ∧ ∀ w', Ext w w' → w'.cell? (ad.add k) = some (.int .i64 l[k]) := h.at_ (ib_get hk)
theorem intsT : ElemOf Try.prog 33 3 1 8 := ElemOf.mk' (z := .int .i64 0) Try.underlying33 (by kernel_rfl) rfl (by omega)
theorem u8_of (f : Nat) : ((f : Int) % 256) = ((UInt8.ofNat f).toNat : Int) := by simp
def pt (p : Nat) : Value := .pointer (some ⟨p, 0, none⟩)
theorem wrap64_nat (n : Nat) (h : n < 9223372036854775808) : IntKind.i64.wrap (n : Int) = (n : Int) := by
 have e : (n : Int) % 2 ^ 64 = n := Int.emod_eq_of_lt (by omega) (by omega)
 simp only [IntKind.wrap, IntKind.bits, IntKind.signed, e]
 rw [if_neg]
 simp
 omega
theorem or_byte (v : Nat) (c : UInt8) (hv : v < 16777216) : bits .or .i64 ((v : Int) * 256) (c.toNat : Int) = ((v * 256 + c.toNat : Nat) : Int) := by
 have h2 := c.toNat_lt
 have h : ((v : Int) * 256) = ((v * 256 : Nat) : Int) := rfl
 rw [h]
 show IntKind.i64.wrap ((BitVec.ofInt 64 ((v * 256 : Nat) : Int) ||| BitVec.ofInt 64 ((c.toNat : Nat) : Int)).toNat : Int) = _
 rw [BitVec.toNat_or, ofInt_u64 _ (by omega), ofInt_u64 _ (by omega), nat_join 8 _ _ (by omega) (by omega)]
 exact wrap64_nat _ (by omega)
theorem valB_take (l : By) (k : Nat) (hk : k < l.length) : valB (l.take (k + 1)) = valB (l.take k) * 256 + l[k].toNat := by
 unfold valB valF
 rw [List.take_succ_eq_append_getElem hk, List.foldl_append]; rfl
theorem shr_byte (v m : Nat) : ((v : Int) / 2 ^ (8 * m)) = ((v / 256 ^ m : Nat) : Int) := by
 have : (2 : Int) ^ (8 * m) = ((256 ^ m : Nat) : Int) := by rw [Int.pow_mul]; simp
 rw [this]; simp
theorem wrap_byte (q : Nat) : IntKind.u8.wrap (q : Int) = ((UInt8.ofNat q).toNat : Int) := by
 rw [IntKind.wrap_u8]
 simp
set_option maxHeartbeats 1000000 in
theorem num_any (w0 w : World) (b : Value) (l : By) (v n : Nat) (hx : Ext w0 w) (ho : Own w w0.heap.size b l) (hl : l.length + 4 ≤ 140737488355328) (hn : n ≤ 4) :
 Calls Try.prog 35 #[b, .int .i64 v, .int .i64 n] w fun e w' => ∃ b', e = .returned b' ∧ Own w' w0.heap.size b' (l ++ beN n v) ∧ Ext w0 w' := by
 obtain ⟨ls, hls⟩ : ∃ ls, ls = l ++ beN n v := ⟨_, rfl⟩
 rw [← hls]
 have HLS := Lib.hid hls
 clear hls
 go_enter Try.func35, Try.ntmps35
 go_wp2
 go_loopw [0, 7] (fun b' k wr => ∃ (m : Nat) (l' : By), k = .int .i64 ((m : Int) - 1) ∧ m ≤ n ∧ Own wr w0.heap.size b' l' ∧ l' ++ beN m v = ls ∧ Ext w0 wr) (fun _ k _ => ((intOf k) + 1).toNat)
 case atStart => exact ⟨n, l, rfl, Nat.le_refl _, ho, HLS.out.symm, hx⟩
 case round =>
  clear ho hx
  obtain ⟨m, l', rfl, hmn, ho, hls, hx⟩ := hrel
  have HLEN := Lib.hid (congrArg List.length hls)
  have HLN := Lib.hid (congrArg List.length HLS.out)
  match m with
  | 0 =>
   rw [beN, List.append_nil] at hls
   subst hls
   go_wp2
   go_ret
   exact ⟨_, rfl, ho, hx⟩
  | m + 1 =>
   rw [beN] at hls
   have HL := Lib.hid hls
   clear hls
   have e1 : ((m + 1 : Nat) : Int) - 1 = (m : Int) := by omega
   have hsh := shr_byte v m
   have e2 : ((8 : Int) * (m : Int)).toNat = 8 * m := by omega
   have hwb := wrap_byte (v / 256 ^ m)
   obtain ⟨A, cap, rfl⟩ := ho.form
   rw [e1]
   go_wp2_with (at_builtin; refine unstop ?_)
   refine go_on (wpList_appB bytesTr (ho.alloc _) (Bs.new _ [UInt8.ofNat (v / 256 ^ m)] _ rfl _ _) rfl rfl rfl rfl rfl (by have := HLEN.out; have := HLN.out; simp only [List.length_append, beN_length, List.length_cons, List.length_nil] at *; omega) (by have := hx.size; simp; omega) ?_)
   intro b' w1 ho1 hg1 _
   have hx1 : Ext w0 w1 := (hx.alloc _).own (ho.alloc _) (Nat.le_refl _) hg1
   clear hsh e1 e2 hwb hg1
   go_wp2
   go_roundw
   case rel => exact ⟨m, _, rfl, by omega, ho1, by rw [← HL.out, List.append_assoc]; rfl, hx1⟩
   case measure => simp [intOf]
theorem num_i (w0 w : World) (b : Value) (l : By) (v : Int) (n : Nat) (hv : 0 ≤ v) (hx : Ext w0 w) (ho : Own w w0.heap.size b l) (hl : l.length + 4 ≤ 140737488355328) (hn : n ≤ 4) :
 Calls Try.prog 35 #[b, .int .i64 v, .int .i64 n] w fun e w' => ∃ b', e = .returned b' ∧ Own w' w0.heap.size b' (l ++ beN n v.toNat) ∧ Ext w0 w' := by
 obtain ⟨k, rfl⟩ := Int.eq_ofNat_of_zero_le hv
 exact num_any w0 w b l k n hx ho hl hn
theorem size8 : ∀ w, (Go.sizeOf 5).run Try.prog w = .ok 1 w := fun _ => by kernel_rfl
set_option maxHeartbeats 1000000 in
theorem val_any (w : World) (A : Option Addr) (c k : Nat) (l : By) (hb : Bs w A l) (hc : l.length ≤ c) (hk : k + 4 ≤ l.length) (hm : l.length ≤ 140737488355328) :
 Calls Try.prog 29 #[.slice A l.length c, .int .i64 k] w fun e w' => e = .returned (.int .i64 (valAt l k : Nat)) ∧ w = w' := by
 obtain ⟨A1, e1, f1⟩ := cutB_lh (P := Try.prog) Try.underlying23 size8 A l.length c l k (k + 4) (li := k) (hi := (k : Int) + 4) rfl (by omega) rfl (by omega) hc hk
 have hb1 := f1 w hb
 have h4 : ((l.drop k).take (k + 4 - k)).length = 4 := by simp; omega
 rw [show k + 4 - k = 4 by omega] at *
 have HV : Hid (valAt l k = valB ((l.drop k).take 4)) := Lib.hid rfl
 generalize (l.drop k).take 4 = a at *
 have hw4 : IntKind.i64.wrap ((k : Int) + 4) = (k : Int) + 4 := wrap64_nat (k + 4) (by omega)
 clear f1 hb hc
 go_enter Try.func29, Try.ntmps29
 go_wp2
 go_loop [5, 14] (fun v i => ∃ k : Nat, k ≤ 4 ∧ i = .int .i64 k ∧ v = .int .i64 (valB (a.take k) : Nat)) (fun _ i => 4 - (intOf i).toNat)
 case atStart => exact ⟨0, by omega, rfl, rfl⟩
 case round =>
  obtain ⟨k, hk, rfl, rfl⟩ := hrel
  by_cases hlt : k < a.length
  ·obtain ⟨ad, rfl, hc⟩ := Sl.now hb1 (bv_get hlt)
   have hlt2 := valB_lt (a.take k)
   rw [List.length_take, Nat.min_eq_left (by omega)] at hlt2
   have hv : valB (a.take k) < 16777216 := Nat.lt_of_lt_of_le hlt2 (Nat.pow_le_pow_right (n := 256) (by omega) (show k ≤ 3 by omega))
   have hs := Lib.hid (or_byte (valB (a.take k)) a[k] hv)
   have h2 := a[k].toNat_lt
   have hk4 : (k : Int) < 4 := by omega
   clear hlt2
   go_wp2
   go_round
   case rel => exact ⟨k + 1, by omega, by go_num, by rw [valB_take _ _ hlt, ← hs.out]⟩
   case measure => simp [intOf]; omega
  ·have hk4 : ¬ (k : Int) < 4 := by omega
   go_wp2
   go_ret
   rw [HV.out, List.take_of_length_le (by omega)]
   exact ⟨rfl, rfl⟩
theorem good_any (n : Nat) (w : World) : Calls Try.prog 28 #[.int .i64 (n : Int)] w fun e w' => e = .returned (.bool (goodF n)) ∧ w = w' := by
 by_cases h1 : (n : Int) < 1
 ·have h2 : ¬ 1 ≤ n := by omega
  go_enter Try.func28, Try.ntmps28
  go_wp2
  go_ret
  exact ⟨ret_bool (by simp [goodF]; omega), rfl⟩
 ·by_cases h2 : (n : Int) ≤ 2147483647
  ·go_enter Try.func28, Try.ntmps28
   go_wp2
   go_ret
   exact ⟨ret_bool (by simp [goodF]; omega), rfl⟩
  ·go_enter Try.func28, Try.ntmps28
   go_wp2
   go_ret
   exact ⟨ret_bool (by simp [goodF]; omega), rfl⟩
theorem okAt_of {l : List Int} {i : Nat} (hi : i < l.length) : okAt l i = (decide (0 ≤ l[i]) && decide (l[i] ≤ 3) && (i == 0 || decide (l.getD (i - 1) 0 < l[i]))) := by
 have : l.getD i 0 = l[i] := by rw [List.getD_eq_getElem?_getD, List.getElem?_eq_getElem hi]; rfl
 unfold okAt
 rw [this]
theorem range_all {p : Nat → Bool} {n k : Nat} (hk : k < n) (hp : p k = false) : (List.range n).all p = false := by
 rw [List.all_eq_false]
 exact ⟨k, by simpa using hk, by simp [hp]⟩
set_option maxHeartbeats 1000000 in
theorem right_any (w : World) (A : Option Addr) (c : Nat) (l : List Int) (hb : Sl w A (ib l)) (hm : l.length ≤ 140737488355328) :
 Calls Try.prog 33 #[.slice A l.length c] w fun e w' => e = .returned (.bool (rightF l)) ∧ w = w' := by
 go_enter Try.func33, Try.ntmps33
 go_wp2
 go_loop [7] (fun i => ∃ k : Nat, k ≤ l.length ∧ i = .int .i64 k ∧ Hid (∀ j, j < k → okAt l j = true)) (fun i => l.length - (intOf i).toNat)
 case atStart => exact ⟨0, by omega, rfl, Lib.hid fun j hj => absurd hj (Nat.not_lt_zero _)⟩
 case round =>
  obtain ⟨k, hk, rfl, HO⟩ := hrel
  by_cases hlt : k < l.length
  ·have hlt2 : (k : Int) < (l.length : Int) := by omega
   obtain ⟨ad, rfl, hc⟩ := hb.int hlt
   have hc0 := hc _ (Ext.refl _)
   have HE := Lib.hid (okAt_of hlt)
   have HF : okAt l k = false → Hid (rightF l = false) := fun h => Lib.hid (by unfold rightF; rw [range_all hlt h, Bool.and_false])
   have HP : 0 < k → Hid (l.getD (k - 1) 0 = l[k - 1]'(by omega)) := fun h => Lib.hid (by rw [List.getD_eq_getElem?_getD, List.getElem?_eq_getElem (by omega)]; rfl)
   have hp : 0 < k → w.cell? (ad.add (k - 1)) = some (.int .i64 (l[k - 1]'(by omega))) := fun h => by
    obtain ⟨ad', e, hc⟩ := hb.int (k := k - 1) (by omega)
    cases e
    exact hc _ (Ext.refl _)
   clear hb hc
   by_cases h1 : l[k] < 0
   ·have h0 : ¬ 0 ≤ l[k] := by omega
    have HF := HF (by rw [HE.out]; simp [h0])
    clear h0 hp HP
    go_wp2
    go_ret
    exact ⟨ret_bool HF.out.symm, rfl⟩
   ·by_cases h2 : 4 ≤ l[k]
    ·have h0 : ¬ l[k] ≤ 3 := by omega
     have HF := HF (by rw [HE.out]; simp [h0])
     clear h0 hp HP
     go_wp2
     go_ret
     exact ⟨ret_bool HF.out.symm, rfl⟩
    ·by_cases h3 : 0 < k
     ·have hp := hp h3
      have HP := HP h3
      have hpos : (0 : Int) < (k : Int) := by omega
      have hkm : (k : Int) - 1 = ((k - 1 : Nat) : Int) := by omega
      have hkw : IntKind.i64.wrap ((k - 1 : Nat) : Int) = ((k - 1 : Nat) : Int) := wrap64_nat _ (by omega)
      have hkl : k - 1 < l.length := by omega
      by_cases h4 : l[k] ≤ l[k - 1]'(by omega)
      ·have HF := HF (by rw [HE.out, HP.out]; simp; omega)
       go_wp2
       go_ret
       exact ⟨ret_bool HF.out.symm, rfl⟩
      ·have HT : Hid (okAt l k = true) := Lib.hid (by rw [HE.out, HP.out]; simp; omega)
       go_wp2
       go_round
       case rel => exact ⟨k + 1, by omega, by go_num, Lib.hid fun j hj => by
        rcases Nat.lt_or_ge j k with h | h
        ·exact HO.out j h
        ·obtain rfl : j = k := by omega
         exact HT.out⟩
       case measure => simp [intOf]; omega
     ·have hpos : ¬ (0 : Int) < (k : Int) := by omega
      have HT : Hid (okAt l k = true) := Lib.hid (by rw [HE.out]; simp; omega)
      clear hp HP
      go_wp2
      go_round
      case rel => exact ⟨k + 1, by omega, by go_num, Lib.hid fun j hj => by
       rcases Nat.lt_or_ge j k with h | h
       ·exact HO.out j h
       ·obtain rfl : j = k := by omega
        exact HT.out⟩
      case measure => simp [intOf]; omega
  ·have hlt2 : ¬ (k : Int) < (l.length : Int) := by omega
   obtain rfl : k = l.length := by omega
   have HR : Hid (rightF l = decide (0 < l.length)) := Lib.hid (by
    have : (List.range l.length).all (okAt l) = true := List.all_eq_true.2 fun j hj => HO.out j (by simpa using hj)
    unfold rightF
    rw [this, Bool.and_true]
    cases l <;> simp)
   clear hb
   go_wp2
   go_ret
   exact ⟨ret_bool HR.out.symm, rfl⟩
set_option maxHeartbeats 400000 in
theorem iclone_any (A : Option Addr) (cap : Nat) (l : List Int) (w : World) (h : Sl w A (ib l)) (hn : l.length ≤ 1000000) :
 Calls Try.prog 37 #[.slice A l.length cap] w fun e w' => ∃ v, e = .returned v ∧ w'.ownsRow w.heap.size 3 1 v l.length (ib l) ∧ Ext w w' := by
 have hnil := fun w A n c => Lib.run_eql_slice_nil (P := Try.prog) w 33 3 A n c 0 0 Try.underlying33
 cases A with
 | none =>
  have h0 : l = [] := by
   cases l with
   | nil => rfl
   | cons c l => obtain ⟨ad, e, _⟩ := h.int (k := 0) (by simp); cases e
  subst h0
  go_enter Try.func37, Try.ntmps37
  go_wp2
  go_ret
  exact ⟨_, rfl, World.ownsRow_nil _ _ _ _, Ext.refl _⟩
 | some ad =>
  go_enter Try.func37, Try.ntmps37
  go_wp2_with (at_builtin; refine unstop ?_)
  refine go_on (wpList_app intsT (xs := []) (World.ownsRow_made w #[] 0 (Nat.le_refl _) (by simp [maxLen]) rfl) (h.ext ((Ext.refl _).alloc _)) rfl rfl rfl rfl (by simp) (ib_one l) (by omega) (by omega) (by simp) ?_)
  intro v' w1 hown1 hg1 hor1
  go_wp2
  go_ret
  exact ⟨_, rfl, by simpa using hown1, ((Ext.refl _).alloc _).grown hg1 (by intro k hk; simp [Value.ownBlock] at hk; omega)⟩
end Go.Proofs.Ytijopcdjlpafdaa
