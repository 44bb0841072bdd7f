/- Words for memory of which some blocks may turn: Kept M w w': all blocks of w but those of M are in w' as they were. Each holds for every program and world; the conditions are the hypotheses of each theorem. -/
import Derived.Test.YtchokelpimibdaaLib
namespace Go.Proofs.Ytchokelpimibdaa
open Go.RowKit
structure Kept (M : List Nat) (w w' : World) : Prop where
  os : w'.os = w.os
  tape : w'.tape = w.tape
  output : w'.output = w.output
  size : w.heap.size ≤ w'.heap.size
  block : ∀ k, k < w.heap.size → k ∉ M → w'.heap[k]? = w.heap[k]?
section
variable {M N : List Nat} {w w' w'' : World}
@[go_sem] theorem Kept.refl (M : List Nat) (w : World) : Kept M w w := ⟨rfl, rfl, rfl, Nat.le_refl _, fun _ _ _ => rfl⟩
theorem Kept.trans (h : Kept M w w') (k : Kept M w' w'') : Kept M w w'' :=
  ⟨k.os.trans h.os, k.tape.trans h.tape, k.output.trans h.output, Nat.le_trans h.size k.size, fun i hi hn => (k.block i (Nat.lt_of_lt_of_le hi h.size) hn).trans (h.block i hi hn)⟩
theorem Kept.mono (h : Kept M w w') (hs : ∀ k ∈ M, k ∈ N) : Kept N w w' := ⟨h.os, h.tape, h.output, h.size, fun k hk hn => h.block k hk fun hm => hn (hs k hm)⟩
theorem Kept.of_ext (h : Ext w w') : Kept M w w' := ⟨h.os, h.tape, h.output, Below.size h, fun k hk _ => h.block k hk⟩
theorem Kept.to_ext (h : Kept M w w') (hm : ∀ k ∈ M, w.heap.size ≤ k) : Ext w w' := ⟨h.os, h.tape, h.output, h.size, fun k hk => h.block k hk fun hh => by have := hm k hh; omega⟩
theorem Kept.ext (h : Kept M w w') (k : Ext w' w'') : Kept M w w'' := h.trans (.of_ext k)
/-- of blocks that are newer nothing is asked -/
theorem Kept.less (h : Kept M w w') (hs : ∀ k ∈ M, k < w.heap.size → k ∈ N) : Kept N w w' := ⟨h.os, h.tape, h.output, h.size, fun k hk hn => h.block k hk fun hm => hn (hs k hm hk)⟩
theorem Kept.alloc (h : Kept M w w') (o : Obj) : Kept M w (w'.alloc o) := h.ext ((Ext.refl _).alloc o)
theorem Kept.drew (h : Kept M w w') : Kept M w w'.drew := ⟨h.os, h.tape, h.output, h.size, h.block⟩
theorem Kept.drewN (h : Kept M w w') (n : Nat) : Kept M w (w'.drewN n) := ⟨h.os, h.tape, h.output, h.size, h.block⟩
theorem Kept.setCell (h : Kept M w w') {p : Addr} (hp : p.block ∈ M ∨ w.heap.size ≤ p.block) (u : Value) : Kept M w (w'.setCell p u) :=
  ⟨h.os, h.tape, h.output, by simpa [World.setCell] using h.size, fun i hi hne => (Below.heap_setCell w' p u i (by
    rintro rfl
    rcases hp with hp | hp
    · exact hne hp
    · omega)).trans (h.block i hi hne)⟩
theorem Kept.grown {row : Option Nat} (h : Kept M w w') (hg : w'.grownBy w'' row) (hr : ∀ k, row = some k → k ∈ M ∨ w.heap.size ≤ k) : Kept M w w'' :=
  ⟨hg.os.trans h.os, hg.tape.trans h.tape, hg.output.trans h.output, Nat.le_trans h.size hg.size, fun k hk hn => (hg.block k (Nat.lt_of_lt_of_le hk h.size) (fun e => by
    rcases hr k e.symm with h1 | h1
    · exact hn h1
    · omega)).trans (h.block k hk hn)⟩
theorem Kept.cell (h : Kept M w w') {p : Addr} {v : Value} (hp : w.cell? p = some v) (hn : p.block ∉ M) : w'.cell? p = some v :=
  (World.cell?_of_block (w := w) (h.block p.block (World.block_lt_of_cell? w p hp) hn)).trans hp
theorem Kept.heap (h : Kept M w w') {g : Nat} {o : Obj} (hp : w.heap[g]? = some o) (hn : g ∉ M) : w'.heap[g]? = some o :=
  (h.block g (Array.getElem?_eq_some_iff.1 hp).1 hn).trans hp
@[go_sem] theorem Kept.alloc_iff (o : Obj) (h : Kept M w w') : Kept M w (w'.alloc o) := h.alloc o
@[go_sem] theorem Kept.drew_iff (h : Kept M w w') : Kept M w w'.drew := h.drew
@[go_sem] theorem Kept.drewN_iff (n : Nat) (h : Kept M w w') : Kept M w (w'.drewN n) := h.drewN n
end
/-- the slice at A has the cells xs, none of them in a block of M -/
def SlM (M : List Nat) (w : World) (A : Option Addr) (xs : List Value) : Prop := ∀ k v, xs[k]? = some v → ∃ ad, A = some ad ∧ ad.block ∉ M ∧ w.cell? (ad.add k) = some v
section
variable {M : List Nat} {w w' : World} {A : Option Addr} {xs : List Value}
theorem SlM.nil (M : List Nat) (w : World) (A : Option Addr) : SlM M w A [] := fun k v h => by simp at h
theorem SlM.kept (h : SlM M w A xs) (hx : Kept M w w') : SlM M w' A xs := fun k v hk => by
  obtain ⟨ad, e, hn, hc⟩ := h k v hk
  exact ⟨ad, e, hn, hx.cell hc (by rw [addr_add_block]; exact hn)⟩
theorem SlM.sl (h : SlM M w A xs) : Sl w A xs := fun k v hk => by
  obtain ⟨ad, e, _, hc⟩ := h k v hk
  exact ⟨ad, e, hc⟩
theorem SlM.less {N : List Nat} (h : SlM M w A xs) (hs : ∀ k ∈ N, k ∈ M) : SlM N w A xs := fun k v hk => by
  obtain ⟨ad, e, hn, hc⟩ := h k v hk
  exact ⟨ad, e, fun h => hn (hs _ h), hc⟩
/-- a row that is there already lies in no block that is newer -/
theorem SlM.old {N : List Nat} (h : SlM M w A xs) (hs : ∀ k ∈ N, k ∈ M ∨ w.heap.size ≤ k) : SlM N w A xs := fun k v hk => by
  obtain ⟨ad, e, hn, hc⟩ := h k v hk
  refine ⟨ad, e, fun h => ?_, hc⟩
  rcases hs _ h with h1 | h1
  · exact hn h1
  · have := World.block_lt_of_cell? w _ hc
    rw [addr_add_block] at this
    omega
theorem SlM.of_sl (h : Sl w A xs) : SlM [] w A xs := fun k v hk => by
  obtain ⟨ad, e, hc⟩ := h k v hk
  exact ⟨ad, e, by simp, hc⟩
theorem SlM.own {base e size n m c : Nat} {v : Value} (h : w.ownsRow base e size v n xs) (hv : v = .slice A m c) (hM : ∀ k ∈ M, k < base) : SlM M w A xs := fun k u hk => by
  obtain ⟨ad, e1, hc⟩ := Sl.own h hv k u hk
  refine ⟨ad, e1, fun hm => ?_, hc⟩
  have := (h.lt ad.block (by rw [hv, e1]; rfl)).1
  have := hM _ hm
  omega
end
def BsM (M : List Nat) (w : World) (A : Option Addr) (l : List UInt8) : Prop := SlM M w A (bv l)
theorem BsM.bs {M : List Nat} {w : World} {A : Option Addr} {l : List UInt8} (h : BsM M w A l) : Bs w A l := SlM.sl h
theorem BsM.kept {M : List Nat} {w w' : World} {A : Option Addr} {l : List UInt8} (h : BsM M w A l) (hx : Kept M w w') : BsM M w' A l := SlM.kept h hx
theorem BsM.own {M : List Nat} {w : World} {base n c : Nat} {A : Option Addr} {l : List UInt8} (h : Own w base (.slice A n c) l) (hM : ∀ k ∈ M, k < base) : BsM M w A l := SlM.own h rfl hM
/-- what an element's cells say, kept while the blocks of M turn -/
structure Reading (α : Type) where
  says : List Nat → World → List Value → α → Prop
  kept : ∀ {M w w' cs x}, says M w cs x → Kept M w w' → says M w' cs x
  old : ∀ {M N w cs x}, says M w cs x → (∀ k ∈ N, k ∈ M ∨ w.heap.size ≤ k) → says N w cs x
/-- the slice at A reads as the list xs, each element by s cells -/
def RsM {α : Type} (R : Reading α) (s : Nat) (M : List Nat) (w : World) (A : Option Addr) (xs : List α) : Prop :=
  ∃ css : List (List Value), css.length = xs.length ∧ (∀ cs ∈ css, cs.length = s) ∧ SlM M w A css.flatten ∧ ∀ (k : Nat) (cs : List Value) (x : α), css[k]? = some cs → xs[k]? = some x → R.says M w cs x
theorem flatten_length {css : List (List Value)} {s : Nat} (h : ∀ cs ∈ css, cs.length = s) : css.flatten.length = css.length * s := by
  induction css with
  | nil => simp
  | cons c css ih =>
    simp only [List.flatten_cons, List.length_append, List.length_cons]
    rw [ih (fun cs hc => h cs (by simp [hc])), h c (by simp), Nat.succ_mul]
    omega
theorem flatten_get {css : List (List Value)} {s : Nat} (h : ∀ cs ∈ css, cs.length = s) : ∀ (k j : Nat) (cs : List Value), css[k]? = some cs → j < s → css.flatten[k * s + j]? = cs[j]? := by
  induction css with
  | nil => intro k j cs hk; simp at hk
  | cons c css ih =>
    intro k j cs hk hj
    have hc := h c (by simp)
    cases k with
    | zero => simp at hk; subst hk; simp only [Nat.zero_mul, Nat.zero_add, List.flatten_cons]; rw [List.getElem?_append_left (by omega)]
    | succ k =>
      simp only [List.getElem?_cons_succ] at hk
      simp only [List.flatten_cons]
      rw [List.getElem?_append_right (by rw [hc, Nat.succ_mul]; omega), ← ih (fun cs hc => h cs (by simp [hc])) k j cs hk hj]
      congr 1
      rw [hc, Nat.succ_mul]
      omega
section
variable {α : Type} {R : Reading α} {s : Nat} {M : List Nat} {w w' : World} {A : Option Addr} {xs : List α}
theorem RsM.nil (R : Reading α) (s : Nat) (M : List Nat) (w : World) (A : Option Addr) : RsM R s M w A [] := ⟨[], rfl, by simp, SlM.nil _ _ _, by simp⟩
theorem RsM.kept (h : RsM R s M w A xs) (hx : Kept M w w') : RsM R s M w' A xs := by
  obtain ⟨css, h1, h2, h3, h4⟩ := h
  exact ⟨css, h1, h2, h3.kept hx, fun k cs x hk hxx => R.kept (h4 k cs x hk hxx) hx⟩
theorem RsM.old {N : List Nat} (h : RsM R s M w A xs) (hs : ∀ k ∈ N, k ∈ M ∨ w.heap.size ≤ k) : RsM R s N w A xs := by
  obtain ⟨css, h1, h2, h3, h4⟩ := h
  exact ⟨css, h1, h2, h3.old hs, fun k cs x hk hxx => R.old (h4 k cs x hk hxx) hs⟩
/-- the cells of one element -/
theorem RsM.at_ (h : RsM R s M w A xs) (hs : 0 < s) {k : Nat} (hk : k < xs.length) :
    ∃ ad cs, A = some ad ∧ ad.block ∉ M ∧ cs.length = s ∧ (∀ j v, cs[j]? = some v → w.cell? (ad.add (k * s + j)) = some v) ∧ R.says M w cs xs[k] := by
  obtain ⟨css, h1, h2, h3, h4⟩ := h
  have hk' : k < css.length := by omega
  have hcs : css[k]? = some css[k] := List.getElem?_eq_getElem hk'
  have hl : css[k].length = s := h2 _ (List.getElem_mem hk')
  have hg := fun j (hj : j < s) => flatten_get h2 k j css[k] hcs hj
  obtain ⟨ad, e, hn, _⟩ := h3 (k * s + 0) (css[k][0]'(by omega)) (by rw [hg 0 hs, List.getElem?_eq_getElem (by omega)])
  refine ⟨ad, css[k], e, hn, hl, fun j v hj => ?_, h4 k _ _ hcs (List.getElem?_eq_getElem hk)⟩
  have hj' : j < s := by rw [← hl]; exact (List.getElem?_eq_some_iff.1 hj).1
  obtain ⟨ad', e', _, hc⟩ := h3 (k * s + j) v (by rw [hg j hj']; exact hj)
  rw [e] at e'
  cases e'
  exact hc
end
/-- one element more: the old ones were read in an older world -/
theorem RsM.push {α : Type} {R : Reading α} {s : Nat} {M : List Nat} {wr w : World} {A : Option Addr} {xs : List α} {x : α} {css : List (List Value)} {cs : List Value} (q1 : css.length = xs.length) (q2 : ∀ cs ∈ css, cs.length = s)
    (q4 : ∀ (k : Nat) (cs : List Value) (x : α), css[k]? = some cs → xs[k]? = some x → R.says M wr cs x) (hk : Kept M wr w) (hcs : cs.length = s) (hs : R.says M wr cs x) (h' : SlM M w A (css.flatten ++ cs)) : RsM R s M w A (xs ++ [x]) := by
  refine ⟨css ++ [cs], by simp [q1], ?_, by simpa using h', ?_⟩
  · intro c hc
    rcases List.mem_append.1 hc with h | h
    · exact q2 c h
    · simp at h; subst h; exact hcs
  · intro k c z hk' hx
    rw [List.getElem?_append] at hk' hx
    by_cases hlt : k < css.length
    · rw [if_pos hlt] at hk'
      rw [if_pos (by omega)] at hx
      exact R.kept (q4 k c z hk' hx) hk
    · rw [if_neg hlt] at hk'
      rw [if_neg (by omega)] at hx
      have hk0 : k - css.length = 0 := by
        rcases Nat.eq_zero_or_pos (k - css.length) with h | h
        · exact h
        · rw [List.getElem?_eq_none (by simp; omega)] at hk'; cases hk'
      rw [hk0] at hk'
      rw [show k - xs.length = 0 by omega] at hx
      simp at hk' hx
      subst hk' hx
      exact R.kept hs hk
/-! ## rows of the call's own, each element by s cells -/
theorem flatten_take {css : List (List Value)} {s : Nat} (h : ∀ cs ∈ css, cs.length = s) : ∀ k, css.flatten.take (k * s) = (css.take k).flatten := by
  induction css with
  | nil => intro k; simp
  | cons c css ih =>
    intro k
    have hc := h c (by simp)
    cases k with
    | zero => simp
    | succ k =>
      simp only [List.flatten_cons, List.take_succ_cons]
      rw [← ih (fun cs hc => h cs (by simp [hc])) k, Nat.succ_mul, List.take_append, List.take_of_length_le (by omega)]
      congr 2
      omega
theorem flatten_drop {css : List (List Value)} {s : Nat} (h : ∀ cs ∈ css, cs.length = s) : ∀ k, css.flatten.drop (k * s) = (css.drop k).flatten := by
  induction css with
  | nil => intro k; simp
  | cons c css ih =>
    intro k
    have hc := h c (by simp)
    cases k with
    | zero => simp
    | succ k =>
      simp only [List.flatten_cons, List.drop_succ_cons]
      rw [← ih (fun cs hc => h cs (by simp [hc])) k, Nat.succ_mul, List.drop_append, List.drop_of_length_le (by omega)]
      simp only [List.nil_append]
      congr 1
      omega
/-- v is a row of the call's own that reads as xs, its elements read in the world wr -/
def OwnR {α : Type} (R : Reading α) (s e : Nat) (M : List Nat) (wr w : World) (base : Nat) (v : Value) (xs : List α) : Prop :=
  ∃ css : List (List Value), css.length = xs.length ∧ (∀ cs ∈ css, cs.length = s) ∧ w.ownsRow base e s v xs.length css.flatten ∧ ∀ (k : Nat) (cs : List Value) (x : α), css[k]? = some cs → xs[k]? = some x → R.says M wr cs x
section
variable {α : Type} {R : Reading α} {s e : Nat} {M : List Nat} {wr w w' : World} {base : Nat} {v : Value} {xs : List α}
theorem OwnR.form (h : OwnR R s e M wr w base v xs) : ∃ A cap, v = .slice A xs.length cap := by
  obtain ⟨css, _, _, h3, _⟩ := h
  exact own_form h3
theorem OwnR.rsm {A : Option Addr} {n c : Nat} (h : OwnR R s e M wr w base (.slice A n c) xs) (hk : Kept M wr w) (hM : ∀ k ∈ M, k < base) : RsM R s M w A xs := by
  obtain ⟨css, h1, h2, h3, h4⟩ := h
  exact ⟨css, h1, h2, SlM.own h3 rfl hM, fun k cs x h5 h6 => R.kept (h4 k cs x h5 h6) hk⟩
theorem OwnR.ext (h : OwnR R s e M wr w base v xs) (hx : Ext w w') : OwnR R s e M wr w' base v xs := by
  obtain ⟨css, h1, h2, h3, h4⟩ := h
  exact ⟨css, h1, h2, owns_ext h3 hx, h4⟩
theorem OwnR.read {wr' : World} (h : OwnR R s e M wr w base v xs) (hx : Kept M wr wr') : OwnR R s e M wr' w base v xs := by
  obtain ⟨css, h1, h2, h3, h4⟩ := h
  exact ⟨css, h1, h2, h3, fun k cs x h5 h6 => R.kept (h4 k cs x h5 h6) hx⟩
theorem OwnR.low {b2 : Nat} (h : OwnR R s e M wr w base v xs) (hb : b2 ≤ base) : OwnR R s e M wr w b2 v xs := by
  obtain ⟨css, h1, h2, h3, h4⟩ := h
  exact ⟨css, h1, h2, owns_low h3 hb, h4⟩
theorem OwnR.nil (R : Reading α) (s e : Nat) (M : List Nat) (wr w : World) (base : Nat) : OwnR R s e M wr w base (.slice none 0 0) [] := ⟨[], rfl, by simp, World.ownsRow_nil _ _ _ _, by simp⟩
theorem OwnR.cap {A : Option Addr} {n c : Nat} (h : OwnR R s e M wr w base (.slice A n c) xs) : n = xs.length ∧ xs.length ≤ c ∧ c ≤ 9223372036854775807 := by
  obtain ⟨css, h1, h2, h3, h4⟩ := h
  rcases h3.2 with ⟨e1, hn⟩ | ⟨g, cap, cur, e1, _, _, hc, hm, _⟩
  · injection e1 with e1 e2 e3
    subst e3
    omega
  · injection e1 with e1 e2 e3
    subst e3
    exact ⟨e2, hc, hm⟩
end
/-! ## s[:i], s[i+1:] and the rest, on a row of the call's own -/
section
variable {P : Program} {t e size bytes : Nat}
theorem run_setRow_ext {w W : World} {g : Nat} {cur : Array Value} (hg : w.heap[g]? = some (.cells cur e (0, 0))) (hx : Ext w W) : W.heap[g]? = some (.cells cur e (0, 0)) :=
  (hx.block g (Array.getElem?_eq_some_iff.1 hg).1).trans hg
/-- append(s[:i], s[i+1:]...) -/
theorem run_del_append (T : ElemOf P t e size bytes) {w : World} {g n cap i : Nat} {cur : Array Value} (hg : w.heap[g]? = some (.cells cur e (0, 0))) (hn : n ≤ cap) (hc : cur.size = cap * size) (hi : i < n) (h1 : ∀ u ∈ cur.toList.take (n * size), u.oneCell' = true)
    (ty c : Nat) (m : Nat) (hm : m = n - (i + 1)) : ∀ W, Ext w W →
    (Builtin.append_ #[t, t] ty #[.slice (some ⟨g, 0, none⟩) i cap, .slice (some (if cap = i + 1 then ⟨g, 0, none⟩ else (⟨g, 0, none⟩ : Addr).add ((i + 1) * size))) m c]).run P W =
      .ok (.slice (some ⟨g, 0, none⟩) (i + m) cap) (W.setRow g (cur.toList.take (i * size) ++ (cur.toList.drop ((i + 1) * size)).take (m * size) ++ cur.toList.drop (i * size + m * size)).toArray) := by
  intro W hx
  subst hm
  obtain ⟨inf, z, hi0, hz, hsize, hby, hzs⟩ := T.hi
  subst hsize
  have hg' := run_setRow_ext hg hx
  have hsz : (i + 1) * inf.size + (n - (i + 1)) * inf.size = n * inf.size := by rw [← Nat.add_mul]; congr 1; omega
  have hnc : n * inf.size ≤ cap * inf.size := Nat.mul_le_mul_right _ hn
  have hl : ((cur.toList.drop ((i + 1) * inf.size)).take ((n - (i + 1)) * inf.size)).length = (n - (i + 1)) * inf.size := by
    rw [List.length_take, List.length_drop, Array.length_toList, hc]; omega
  have hfit : i * inf.size + ((cur.toList.drop ((i + 1) * inf.size)).take ((n - (i + 1)) * inf.size)).length ≤ cur.size := by
    rw [hl, hc]
    have : (i + 1) * inf.size = i * inf.size + inf.size := Nat.succ_mul _ _
    omega
  have h := run_append_room (P := P) W t ty e inf T.ht hi0 g i cap cur hg' (if cap = i + 1 then ⟨g, 0, none⟩ else (⟨g, 0, none⟩ : Addr).add ((i + 1) * inf.size)) (n - (i + 1)) c
    ((cur.toList.drop ((i + 1) * inf.size)).take ((n - (i + 1)) * inf.size)) hl ?_ ?_ (by omega) hfit
  · rw [h, hl]
  · intro j u hu
    have hj : j < (n - (i + 1)) * inf.size := by rw [← hl]; exact (List.getElem?_eq_some_iff.1 hu).1
    have hne : ¬ cap = i + 1 := by
      intro e0
      have : n - (i + 1) = 0 := by omega
      rw [this, Nat.zero_mul] at hj
      omega
    rw [if_neg hne]
    rw [List.getElem?_take_of_lt hj, List.getElem?_drop] at hu
    have ha : ((⟨g, 0, none⟩ : Addr).add ((i + 1) * inf.size)).add j = ⟨g, (i + 1) * inf.size + j, none⟩ := by
      unfold Addr.add
      by_cases h1 : (i + 1) * inf.size = 0 <;> by_cases h2 : j = 0 <;> simp [h1, h2]
    rw [ha, cell_of_row _ _ _ _ _ _ hg']
    simpa using hu
  · intro u hu
    have hu1 := List.mem_of_mem_take hu
    refine h1 u ?_
    rw [List.mem_iff_getElem?] at hu ⊢
    obtain ⟨j, hj⟩ := hu
    have hj' : j < (n - (i + 1)) * inf.size := by rw [← hl]; exact (List.getElem?_eq_some_iff.1 hj).1
    rw [List.getElem?_take_of_lt hj', List.getElem?_drop] at hj
    refine ⟨(i + 1) * inf.size + j, ?_⟩
    rw [List.getElem?_take_of_lt (by omega)]
    exact hj
theorem step_app_run {ops : Array Oper} {o : Oper} {a : Act} {w w' : World} {K : Act → World → Prop} {Q : Exit → Act → World → Prop} {E : Prop} {s x : Operand} {v : Value} (hgd : o.guard = none)
    (ho : o.op = .call { callee := .builtin .append, args := #[s, x], argTypes := #[t, t] }) (hr : (Builtin.append_ #[t, t] o.type #[a.eval s, a.eval x]).run P w = .ok v w') (hK : K (a.put o.dst v) w') :
    if Region.wanted o (yielded ops a.tmps) = true then Oper.wp P o a w K Q else E := by
  have hw : Region.wanted o (yielded ops a.tmps) = true := by simp [Region.wanted, hgd]
  rw [if_pos hw]
  unfold Oper.wp execOp
  simp only [ho, resolve, invoke, builtin, Sem.run_bind, Sem.run_pure, Result.andThen_ok, List.map_toArray, List.map_cons, List.map_nil, hr]
  exact hK
theorem wpList_clear {w w' : World} {ops : Array Oper} {rest : List Oper} {o : Oper} {a : Act} {Q : Exit → Act → World → Prop} {s : Operand} {v : Value} (hgd : o.guard = none)
    (ho : o.op = .call { callee := .builtin .clear, args := #[s], argTypes := #[t] }) (hr : (Builtin.clear_ #[t] o.type #[a.eval s]).run P w = .ok v w') (h : wpList P ops Q rest (a.put o.dst v) w') : wpList P ops Q (o :: rest) a w := by
  refine wpList_plain hgd fun K hK => ?_
  unfold Oper.wp execOp
  simp only [ho, resolve, invoke, builtin, Sem.run_bind, Sem.run_pure, Result.andThen_ok, List.map_toArray, List.map_cons, List.map_nil, hr]
  exact hK _ _ h
theorem setRow_grown {w : World} {g : Nat} (cs : Array Value) : w.grownBy (w.setRow g cs) (some g) :=
  ⟨rfl, rfl, rfl, by simp [World.setRow], fun k _ hk => setRow_other w g k _ (fun e => hk (by rw [e]))⟩
theorem grown_drew {w w' : World} {row : Option Nat} (h : w.drew.grownBy w' row) : w.grownBy w' row := ⟨h.os, h.tape, h.output, h.size, h.block⟩
/-- clear(s[n:n+1]) -/
theorem run_clear_one (T : ElemOf P t e size bytes) {z : Value} (hz : ∀ w, (zeroValue e).run P w = .ok z w) (hzs : z.cells.size = size) (hz1 : ∀ u ∈ z.cells.toList, u.oneCell' = true) {w : World} {g n cap : Nat} {cur : Array Value}
    (hg : w.heap[g]? = some (.cells cur e (0, 0))) (hn : n + 1 ≤ cap) (hc : cur.size = cap * size) (ty c : Nat) (ad : Addr) (had : ad = ⟨g, n * size, none⟩) :
    (Builtin.clear_ #[t] ty #[.slice (some ad) 1 c]).run P w = .ok (.tuple #[]) (w.setRow g (cur.toList.take (n * size) ++ z.cells.toList ++ cur.toList.drop (n * size + size)).toArray) := by
  subst had
  have hzc : (Builtin.zeroCells z.cells 1).toList = z.cells.toList := by
    simp only [Builtin.zeroCells, Nat.one_mul]
    apply List.ext_getElem?
    intro j
    by_cases hj : j < z.cells.size
    · simp [hj, Nat.mod_eq_of_lt hj]
    · rw [List.getElem?_eq_none (by simp; omega), List.getElem?_eq_none (by simp; omega)]
  have hle : n * size + size ≤ cap * size := by rw [← Nat.succ_mul]; exact Nat.mul_le_mul_right _ hn
  have hst := run_storeCells_at P g (n * size) e z.cells.toList 0 cur w hg (by rw [Array.length_toList, hzs, hc]; omega) hz1
  simp only [Nat.add_zero, Array.length_toList, hzs] at hst
  simp [Builtin.clear_, run_underlying T.ht, hz, hzc, hst]
end
end Go.Proofs.Ytchokelpimibdaa
