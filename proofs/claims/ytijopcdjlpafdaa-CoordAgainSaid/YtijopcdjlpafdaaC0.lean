/- Words for memory (what an earlier world held is still there; slices that read as lists; rows that a call owns), and the laws on append, cuts and conversions in these words. Each holds for every program and world; the conditions are the hypotheses of each theorem. Plain laws: numbers as bytes, and parsers that undo what is put. No program. Conditions: the hypotheses of each theorem. The plain node: what coord's methods compute, and what stays true of a node. No program. Conditions: the hypotheses of each theorem. -/
import Derived.Below
import Derived.Laws.OwnMore
import Derived.Deep.AppendLies
import Derived.Deep.Draws
import Derived.Laws.Rows
import Derived.Maps.AppendAt
import Derived.RegionTactic
import Derived.OwnWalk
import Derived.WalkKit
import Derived.WalkSpells
import Derived.WalkLawsBesides
import Derived.Lib.Hide
import Derived.Laws.IdiomStrings
import Derived.Laws.BytesArg
namespace Go.Proofs.Ytijopcdjlpafdaa
open Go.RowKit
/-! ## words -/
theorem ret_bool {a b : Bool} (h : a = b) : Ending.returned (.bool a) = .returned (.bool b) := by rw [h]
def Stop (p : Prop) : Prop := p
theorem unstop {p : Prop} (h : Stop p) : p := h
theorem go_on {p : Prop} (h : p) : Stop p := h
/-- nothing that is in w has turned in w' -/
def Ext (w w' : World) : Prop := Below w.heap.size w w'
section
variable {w w' w'' : World}
@[go_sem] theorem Ext.refl (w : World) : Ext w w := Below.refl _ _
theorem Ext.size (h : Ext w w') : w.heap.size ≤ w'.heap.size := Below.size h
theorem Ext.trans (h : Ext w w') (k : Ext w' w'') : Ext w w'' := Below.trans h (Below.mono k (Below.size h))
theorem Ext.alloc (h : Ext w w') (o : Obj) : Ext w (w'.alloc o) := Below.alloc h (Below.size h) o
theorem Ext.drew (h : Ext w w') : Ext w w'.drew := Below.drew h
theorem Ext.drewN (h : Ext w w') (n : Nat) : Ext w (w'.drewN n) := ⟨h.os, h.tape, h.output, h.size, h.block⟩
theorem Ext.setCell (h : Ext w w') {p : Addr} (hp : w.heap.size ≤ p.block) (u : Value) : Ext w (w'.setCell p u) := Below.setCell h hp u
theorem Ext.grown {row : Option Nat} (h : Ext w w') (hg : w'.grownBy w'' row) (hr : ∀ k, row = some k → w.heap.size ≤ k) : Ext w w'' :=
 Below.grown h hg (Below.size h) hr
theorem Ext.cell (h : Ext w w') {p : Addr} {v : Value} (hp : w.cell? p = some v) : w'.cell? p = some v :=
 (Below.cell h (World.block_lt_of_cell? w p hp)).trans hp
theorem Ext.below (h : Ext w w') : Below w.heap.size w w' := h
theorem Ext.of (h : Below w.heap.size w w') : Ext w w' := h
@[go_sem] theorem Ext.alloc_iff (o : Obj) (h : Ext w w') : Ext w (w'.alloc o) := h.alloc o
@[go_sem] theorem Ext.drew_iff (h : Ext w w') : Ext w w'.drew := h.drew
@[go_sem] theorem Ext.drewN_iff (n : Nat) (h : Ext w w') : Ext w (w'.drewN n) := h.drewN n
@[go_sem] theorem Ext.setCell_iff {b : Nat} {o : Nat} {u : Value} (h : Ext w w') (hp : w.heap.size ≤ b) : Ext w (w'.setCell ⟨b, o, none⟩ u) := h.setCell hp u
end
/-- what a law answers -/
def Yes (w : World) (e : Ending) (w' : World) : Prop := e = .returned (.bool true) ∧ Ext w w'
theorem Yes.mk' {w w' : World} {b : Bool} (h : b = true) (hx : Ext w w') : Yes w (.returned (.bool b)) w' := ⟨by rw [h], hx⟩
/-- the slice at A has the cells xs -/
def Sl (w : World) (A : Option Addr) (xs : List Value) : Prop := ∀ k v, xs[k]? = some v → ∃ ad, A = some ad ∧ w.cell? (ad.add k) = some v
section
variable {w w' : World} {A : Option Addr} {xs : List Value}
theorem Sl.nil (w : World) (A : Option Addr) : Sl w A [] := fun k v h => by simp at h
theorem Sl.ext (h : Sl w A xs) (hx : Ext w w') : Sl w' A xs := fun k v hk => by
 obtain ⟨ad, e, hc⟩ := h k v hk
 exact ⟨ad, e, hx.cell hc⟩
theorem addr_add_block (a : Addr) (n : Nat) : (a.add n).block = a.block := by unfold Addr.add; split <;> rfl
theorem add_pos' (a : Addr) (n : Nat) : a.add (n + 1) = ⟨a.block, a.off + (n + 1), none⟩ := by unfold Addr.add; simp
theorem Sl.grown {row : Option Nat} (h : Sl w A xs) (hg : w.grownBy w' row) (hne : ∀ ad, A = some ad → row ≠ some ad.block) : Sl w' A xs := fun k v hk => by
 obtain ⟨ad, e, hc⟩ := h k v hk
 exact ⟨ad, e, hg.cell hc (by rw [addr_add_block]; exact fun h => hne ad e h.symm)⟩
theorem Sl.now (h : Sl w A xs) {k : Nat} {v : Value} (hk : xs[k]? = some v) : ∃ ad, A = some ad ∧ w.cell? (ad.add k) = some v := h k v hk
theorem Sl.at_ (h : Sl w A xs) {k : Nat} {v : Value} (hk : xs[k]? = some v) : ∃ ad, A = some ad ∧ ∀ w', Ext w w' → w'.cell? (ad.add k) = some v := by
 obtain ⟨ad, e, hc⟩ := h k v hk
 exact ⟨ad, e, fun w' hx => hx.cell hc⟩
end
def bv (l : List UInt8) : List Value := l.map fun c => Value.int .u8 (c.toNat : Int)
/-- the slice at A reads as the bytes l -/
def Bs (w : World) (A : Option Addr) (l : List UInt8) : Prop := Sl w A (bv l)
theorem bv_get {l : List UInt8} {k : Nat} (hk : k < l.length) : (bv l)[k]? = some (.int .u8 (l[k].toNat : Int)) := by simp [bv, hk]
theorem Bs.at_ {w : World} {A : Option Addr} {l : List UInt8} (h : Bs w A l) {k : Nat} (hk : k < l.length) :
 ∃ ad, A = some ad ∧ ∀ w', Ext w w' → w'.cell? (ad.add k) = some (.int .u8 (l[k].toNat : Int)) := Sl.at_ h (bv_get hk)
theorem Bs.ext {w w' : World} {A : Option Addr} {l : List UInt8} (h : Bs w A l) (hx : Ext w w') : Bs w' A l := Sl.ext h hx
/-- a slice of slices of bytes -/
def BsS (w : World) (A : Option Addr) (ls : List (List UInt8)) : Prop :=
 ∀ k l, ls[k]? = some l → ∃ ad A' cap, A = some ad ∧ w.cell? (ad.add k) = some (.slice A' l.length cap) ∧ Bs w A' l
theorem BsS.at_ {w : World} {A : Option Addr} {ls : List (List UInt8)} (h : BsS w A ls) {k : Nat} (hk : k < ls.length) :
 ∃ ad A' cap, A = some ad ∧ (∀ w', Ext w w' → w'.cell? (ad.add k) = some (.slice A' ls[k].length cap)) ∧ Bs w A' ls[k] := by
 obtain ⟨ad, A', cap, e, hc, hb⟩ := h k ls[k] (List.getElem?_eq_getElem hk)
 exact ⟨ad, A', cap, e, fun w' hx => hx.cell hc, hb⟩
/-! ## append onto a row of the call's own, whatever the source -/
theorem sl_add0 (a : Addr) : a.add 0 = a := by unfold Addr.add; simp
section
variable {P : Program}
theorem run_app_nil (w : World) (base : Nat) (t ty e : TypeId) (i : TypeInfo) (size : Nat) (ht : P.underlying t = some (.slice e)) (hi : P.info? e = some i)
 (v : Value) (n : Nat) (xs : List Value) (hown : w.ownsRow base e size v n xs) (A : Option Addr) (c : Nat) : (Builtin.append_ #[t, t] ty #[v, .slice A 0 c]).run P w = .ok v w := by
 have hz : ∀ A : Option Addr, (Builtin.firstCells i.size 0 (.slice A 0 c)).run P w = .ok #[] w := fun A => by
  cases A with
  | none => simp [Builtin.firstCells]
  | some ad => simp [Builtin.firstCells, loadCells, loadCellsFrom]
 rcases hown.2 with ⟨rfl, rfl⟩ | ⟨g, cap, cur, rfl, _, _, hnc, _⟩
 ·simp [Builtin.append_, run_underlying ht, sizeOf, typeInfo, hi, Builtin.lenOf, hz]
 ·simp [Builtin.append_, run_underlying ht, sizeOf, typeInfo, hi, Builtin.lenOf, hz, hnc, storeCells]
theorem run_app (w : World) (base : Nat) (t ty e : TypeId) (i : TypeInfo) (z : Value) (size bytes : Nat) (ht : P.underlying t = some (.slice e)) (hi : P.info? e = some i) (hz : i.zero = some z)
 (hsize : i.size = size) (hby : i.bytes = bytes) (hzs : z.cells.size = size) (hsz : 0 < size)
 (v : Value) (n : Nat) (xs : List Value) (hown : w.ownsRow base e size v n xs)
 (A : Option Addr) (m c : Nat) (news : List Value) (hl : news.length = m * size) (hr : Sl w A news) (h1 : ∀ u ∈ news, u.oneCell' = true)
 (hb : (n + m) * bytes ≤ 140737488355328) (h63 : n + m ≤ 140737488355328) (hbase : base ≤ w.heap.size) :
 ∃ v' w', (Builtin.append_ #[t, t] ty #[v, .slice A m c]).run P w = .ok v' w' ∧ w'.ownsRow base e size v' (n + m) (xs ++ news) ∧ w.grownBy w' v.ownBlock ∧
  (v'.ownBlock = v.ownBlock ∨ v'.ownBlock = some w.heap.size) := by
 have h63' : n + m ≤ maxLen := by simp only [maxLen]; omega
 rcases Nat.eq_zero_or_pos m with h0 | h0
 ·subst h0
  have hn : news = [] := List.eq_nil_of_length_eq_zero (by simpa using hl)
  subst hn
  exact ⟨v, w, run_app_nil w base t ty e i size ht hi v n xs hown A c, by simpa using hown, World.grownBy.refl w _, .inl rfl⟩
 ·have hpos : 0 < news.length := by rw [hl]; exact Nat.mul_pos h0 hsz
  obtain ⟨ad, rfl, _⟩ := hr 0 _ (List.getElem?_eq_getElem hpos)
  have hcells : ∀ j u, news[j]? = some u → w.cell? (ad.add j) = some u := by
   intro j u hu
   obtain ⟨ad', h, hc⟩ := hr j u hu
   injection h with h
   subst h
   exact hc
  obtain ⟨v', w', hrun, h2, h3, _, h5⟩ := run_append_own_at (P := P) w base t ty e i z size bytes ht hi hz hsize hby hzs hsz v n xs hown ad m c news hl hcells h1 h63' hb hbase
  exact ⟨v', w', hrun, h2, h3, h5⟩
/-- an element type's row of the table -/
structure ElemOf (P : Program) (t e size bytes : Nat) : Prop where
 ht : P.underlying t = some (.slice e)
 hi : ∃ i z, P.info? e = some i ∧ i.zero = some z ∧ i.size = size ∧ i.bytes = bytes ∧ z.cells.size = size
 hs : 0 < size
theorem ElemOf.mk' {t e size bytes : Nat} {z : Value} (ht : P.underlying t = some (.slice e)) (h : (P.info? e).map (fun i => (i.zero, i.size, i.bytes)) = some (some z, size, bytes)) (hz : z.cells.size = size) (hs : 0 < size) : ElemOf P t e size bytes := by
 obtain ⟨i, h1, h2, h3, h4⟩ := info_parts h
 exact ⟨ht, ⟨i, z, h1, h2, h3, h4, hz⟩, hs⟩
theorem wpList_app {w : World} {ops : Array Oper} {rest : List Oper} {o : Oper} {a : Act} {Q : Exit → Act → World → Prop} {t e size bytes : Nat} (T : ElemOf P t e size bytes) {s x : Operand}
 {base n m c : Nat} {v : Value} {xs news : List Value} {A : Option Addr} (hown : w.ownsRow base e size v n xs) (hr : Sl w A news)
 (hgd : o.guard = none) (ho : o.op = .call { callee := .builtin .append, args := #[s, x], argTypes := #[t, t] })
 (hs : a.eval s = v) (hx : a.eval x = .slice A m c)
 (hl : news.length = m * size) (h1 : ∀ u ∈ news, u.oneCell' = true)
 (hb : (n + m) * bytes ≤ 140737488355328) (h63 : n + m ≤ 140737488355328) (hbase : base ≤ w.heap.size)
 (h : ∀ v' w', w'.ownsRow base e size v' (n + m) (xs ++ news) → w.grownBy w' v.ownBlock → (v'.ownBlock = v.ownBlock ∨ v'.ownBlock = some w.heap.size) → wpList P ops Q rest (a.put o.dst v') w') : wpList P ops Q (o :: rest) a w := by
 obtain ⟨i, z, hi, hz, hsize, hby, hzs⟩ := T.hi
 obtain ⟨v', w', hrun, h2, h3, h4⟩ := run_app (P := P) w base t o.type e i z size bytes T.ht hi hz hsize hby hzs T.hs v n xs hown A m c news hl hr h1 hb h63 hbase
 refine wpList_plain hgd fun K hK => ?_
 unfold Oper.wp execOp
 simp only [ho, resolve, invoke, builtin, Sem.run_bind, Sem.run_pure, Result.andThen_ok, List.map_toArray, List.map_cons, List.map_nil, hs, hx, hrun]
 exact hK _ _ (h v' w' h2 h3 h4)
end
theorem bv_one (l : List UInt8) : ∀ u ∈ bv l, u.oneCell' = true := by
 intro u hu
 simp only [bv, List.mem_map] at hu
 obtain ⟨c, _, rfl⟩ := hu
 rfl
@[simp] theorem bv_length (l : List UInt8) : (bv l).length = l.length := by simp [bv]
theorem bv_append (a b : List UInt8) : bv (a ++ b) = bv a ++ bv b := by simp [bv]
/-- the slice value v owns the bytes l, in a block from base on -/
def Own (w : World) (base : Nat) (v : Value) (l : List UInt8) : Prop := w.ownsRow base 5 1 v l.length (bv l)
theorem Sl.new (w : World) (l : List Value) (t : TypeId) (fr : Nat × Nat) : Sl (w.alloc (.cells l.toArray t fr)) (some ⟨w.heap.size, 0, none⟩) l := by
 intro k v hk
 refine ⟨_, rfl, ?_⟩
 have h := heap_alloc_new w (.cells l.toArray t fr)
 have : (⟨w.heap.size, 0, none⟩ : Addr).add k = ⟨w.heap.size, k, none⟩ := by unfold Addr.add; split <;> simp_all
 rw [this, cell_of_row _ _ k l.toArray t fr h]
 simpa using hk
theorem Sl.own {w : World} {base e size n : Nat} {v : Value} {xs : List Value} {A : Option Addr} {m c : Nat} (h : w.ownsRow base e size v n xs) (hv : v = .slice A m c) : Sl w A xs := by
 subst hv
 intro k u hk
 rcases h.2 with ⟨e1, rfl⟩ | ⟨g, cap, cur, e1, _⟩
 ·have : xs = [] := List.eq_nil_of_length_eq_zero (by simpa using h.1)
  subst this
  simp at hk
 ·injection e1 with e1 e2 e3
  subst e1
  exact ⟨_, rfl, h.cells (g := g) rfl k u hk⟩
theorem own_form {w : World} {base e size n : Nat} {v : Value} {xs : List Value} (h : w.ownsRow base e size v n xs) : ∃ A cap, v = .slice A n cap := by
 rcases h.2 with ⟨rfl, rfl⟩ | ⟨g, cap, cur, rfl, _⟩
 ·exact ⟨none, 0, rfl⟩
 ·exact ⟨_, cap, rfl⟩
theorem BsS.new (w : World) (cs : Array Value) (vs : List Value) (ls : List (List UInt8)) (e : cs = vs.toArray) (t : TypeId) (fr : Nat × Nat) (h : ∀ (k : Nat) (l : List UInt8), ls[k]? = some l → ∃ (A : Option Addr) (cap : Nat), vs[k]? = some (Value.slice A l.length cap) ∧ Bs w A l) :
 BsS (w.alloc (.cells cs t fr)) (some ⟨w.heap.size, 0, none⟩) ls := by
 subst e
 intro k l hk
 obtain ⟨A, cap, hv, hb⟩ := h k l hk
 obtain ⟨ad, e, hc⟩ := Sl.new w vs t fr k _ hv
 exact ⟨ad, A, cap, e, hc, hb.ext ((Ext.refl _).alloc _)⟩
theorem BsS.new1 {w : World} {A : Option Addr} {cap : Nat} {l : List UInt8} (h : Bs w A l) (t : TypeId) (fr : Nat × Nat) :
 BsS (w.alloc (.cells #[.slice A l.length cap] t fr)) (some ⟨w.heap.size, 0, none⟩) [l] :=
 BsS.new w _ [_] _ rfl t fr fun k x hk => by
  match k, hk with
  | 0, hk => simp at hk; subst hk; exact ⟨A, cap, rfl, h⟩
/-! ## cuts of slices whose elements have one cell -/
theorem Sl.add {w : World} {A : Option Addr} {xs : List Value} (h : Sl w A xs) (k : Nat) : Sl w (A.map (·.add k)) (xs.drop k) := by
 intro j v hj
 rw [List.getElem?_drop] at hj
 obtain ⟨ad, rfl, hc⟩ := h _ v hj
 refine ⟨ad.add k, rfl, ?_⟩
 have : (ad.add k).add j = ad.add (k + j) := by
  unfold Addr.add
  by_cases hi : k = 0 <;> by_cases hj : j = 0 <;> simp [hi, hj, Nat.add_assoc]
 rw [this]
 exact hc
theorem Sl.take {w : World} {A : Option Addr} {xs : List Value} (h : Sl w A xs) (k : Nat) : Sl w A (xs.take k) := by
 intro j v hj
 rw [List.getElem?_take] at hj
 split at hj
 ·exact h j v hj
 ·cases hj
/-- [l:h] -/
theorem cut_lh {P : Program} {t e : Nat} (ht : P.underlying t = some (.slice e)) (hz : ∀ w, (Go.sizeOf e).run P w = .ok 1 w) (A : Option Addr) (n cap l h : Nat) (hlh : l ≤ h) (hn : n ≤ cap) (hh : h ≤ n) :
 ∃ A', (∀ W, (Instr.slice t (.slice A n cap) (some (.int .i64 (l : Int))) (some (.int .i64 (h : Int))) none).run P W = .ok (.slice A' (h - l) (cap - l)) W) ∧
  (∀ w xs, xs.length = n → Sl w A xs → Sl w A' ((xs.drop l).take (h - l))) := by
 refine ⟨if cap = l then A else A.map (·.add l), fun W => ?_, fun w xs hx hs => ?_⟩
 ·have ht' : P.underlying t = some (.slice (P.elem t)) := by simp [Program.elem, ht]
  have he : P.elem t = e := by simp [Program.elem, ht]
  rw [run_slice_lh W t _ _ _ ht' .i64 .i64 _ _ (by omega) (by omega) (by omega), he, hz]
  simp [Result.andThen, sliced]
 ·by_cases hc : cap = l
  ·have : xs.drop l = [] := List.drop_of_length_le (by omega)
   rw [this]; simpa using Sl.nil _ _
  ·rw [if_neg hc]
   exact (hs.add l).take _
theorem cut_l {P : Program} {t e : Nat} (ht : P.underlying t = some (.slice e)) (hz : ∀ w, (Go.sizeOf e).run P w = .ok 1 w) (A : Option Addr) (n cap l : Nat) (hn : n ≤ cap) (hl : l ≤ n) :
 ∃ A', (∀ W, (Instr.slice t (.slice A n cap) (some (.int .i64 (l : Int))) none none).run P W = .ok (.slice A' (n - l) (cap - l)) W) ∧
  (∀ w xs, xs.length = n → Sl w A xs → Sl w A' (xs.drop l)) := by
 refine ⟨if cap = l then A else A.map (·.add l), fun W => ?_, fun w xs hx hs => ?_⟩
 ·have ht' : P.underlying t = some (.slice (P.elem t)) := by simp [Program.elem, ht]
  have he : P.elem t = e := by simp [Program.elem, ht]
  rw [run_slice_l W t _ _ _ ht' .i64 _ (by omega) (by omega), he, hz]
  simp [Result.andThen, sliced]
 ·by_cases hc : cap = l
  ·have : xs.drop l = [] := List.drop_of_length_le (by omega)
   rw [this]; exact Sl.nil _ _
  ·rw [if_neg hc]
   exact hs.add l
theorem cut_h {P : Program} {t e : Nat} (ht : P.underlying t = some (.slice e)) (hz : ∀ w, (Go.sizeOf e).run P w = .ok 1 w) (A : Option Addr) (n cap h : Nat) (hn : n ≤ cap) (hh : h ≤ n) :
 ∃ A', (∀ W, (Instr.slice t (.slice A n cap) none (some (.int .i64 (h : Int))) none).run P W = .ok (.slice A' h cap) W) ∧
  (∀ w xs, xs.length = n → Sl w A xs → Sl w A' (xs.take h)) := by
 refine ⟨if cap = 0 then A else A.map (·.add 0), fun W => ?_, fun w xs hx hs => ?_⟩
 ·have ht' : P.underlying t = some (.slice (P.elem t)) := by simp [Program.elem, ht]
  have he : P.elem t = e := by simp [Program.elem, ht]
  rw [run_slice_h W t _ _ _ ht' .i64 _ (by omega) (by omega), he, hz]
  simp [Result.andThen, sliced]
 ·by_cases hc : cap = 0
  ·rw [if_pos hc]; exact hs.take h
  ·rw [if_neg hc]
   have := (hs.add 0).take h
   simpa using this
theorem bv_take (l : List UInt8) (k : Nat) : bv (l.take k) = (bv l).take k := by simp [bv, List.map_take]
theorem bv_drop (l : List UInt8) (k : Nat) : bv (l.drop k) = (bv l).drop k := by simp [bv, List.map_drop]
section
variable {P : Program} {t e : Nat} (ht : P.underlying t = some (.slice e)) (hz : ∀ w, (Go.sizeOf e).run P w = .ok 1 w)
include ht hz
theorem cutB_lh (A : Option Addr) (n cap : Nat) (b : List UInt8) (l h : Nat) {li hi : Int} (el : li = l) (eh : hi = h) (en : b.length = n) (hlh : l ≤ h) (hn : n ≤ cap) (hh : h ≤ n) :
 ∃ A', (∀ W, (Instr.slice t (.slice A n cap) (some (.int .i64 li)) (some (.int .i64 hi)) none).run P W = .ok (.slice A' (h - l) (cap - l)) W) ∧
  (∀ w, Bs w A b → Bs w A' ((b.drop l).take (h - l))) := by
 subst el eh
 obtain ⟨A', h1, h2⟩ := cut_lh ht hz A n cap l h hlh hn hh
 exact ⟨A', h1, fun w hb => by have := h2 w (bv b) (by simpa using en) hb; rwa [← bv_drop, ← bv_take] at this⟩
theorem cutB_l (A : Option Addr) (n cap : Nat) (b : List UInt8) (l : Nat) {li : Int} (el : li = l) (en : b.length = n) (hn : n ≤ cap) (hh : l ≤ n) :
 ∃ A', (∀ W, (Instr.slice t (.slice A n cap) (some (.int .i64 li)) none none).run P W = .ok (.slice A' (n - l) (cap - l)) W) ∧
  (∀ w, Bs w A b → Bs w A' (b.drop l)) := by
 subst el
 obtain ⟨A', h1, h2⟩ := cut_l ht hz A n cap l hn hh
 exact ⟨A', h1, fun w hb => by have := h2 w (bv b) (by simpa using en) hb; rwa [← bv_drop] at this⟩
theorem cutB_h (A : Option Addr) (n cap : Nat) (b : List UInt8) (h : Nat) {hi : Int} (eh : hi = h) (en : b.length = n) (hn : n ≤ cap) (hh : h ≤ n) :
 ∃ A', (∀ W, (Instr.slice t (.slice A n cap) none (some (.int .i64 hi)) none).run P W = .ok (.slice A' h cap) W) ∧
  (∀ w, Bs w A b → Bs w A' (b.take h)) := by
 subst eh
 obtain ⟨A', h1, h2⟩ := cut_h ht hz A n cap h hn hh
 exact ⟨A', h1, fun w hb => by have := h2 w (bv b) (by simpa using en) hb; rwa [← bv_take] at this⟩
end
/-! ## string(b) -/
def st (l : List UInt8) : ByteArray := ⟨l.toArray⟩
theorem run_str {P : Program} {src dst e : Nat} (hs : P.underlying src = some (.slice e)) (he : P.underlying e = some (.int .u8)) (hd : P.underlying dst = some .string)
 {w : World} {A : Option Addr} {l : List UInt8} (h : Bs w A l) (n c : Nat) (hn : n = l.length) : ∀ W, Ext w W → (convert src dst (.slice A n c)).run P W = .ok (.string (st l)) W := by
 intro W hx
 subst hn
 have h := h.ext hx
 cases A with
 | none =>
  have h0 : l = [] := by
   cases l with
   | nil => rfl
   | cons c l => obtain ⟨ad, e, _⟩ := h 0 _ (bv_get (l := c :: l) (k := 0) (by simp)); cases e
  subst h0
  exact run_convert_bytes_nil W src e hs he _ _ dst hd
 | some ad =>
  exact run_convert_bytes_back W src dst e ad c l hs he hd fun j hj => by
   obtain ⟨ad', e', hc⟩ := Sl.now h (bv_get hj)
   cases e'
   exact hc
@[go_sem] theorem st_toList (l : List UInt8) : (st l).toList = l := by rw [ByteArray.toList_eq]; simp [st]
theorem st_inj {a b : List UInt8} : st a = st b ↔ a = b := by
 constructor
 ·intro h; unfold st at h; injection h with h; simpa using h
 ·intro h; rw [h]
theorem own_of {w : World} {base n : Nat} {v : Value} {xs : List Value} {l : List UInt8} (h : w.ownsRow base 5 1 v n xs) (e : xs = bv l) : Own w base v l := by
 subst e
 have hn : n = l.length := by simpa using h.1.symm
 subst hn
 exact h
theorem wpList_appB {P : Program} {w : World} {ops : Array Oper} {rest : List Oper} {o : Oper} {a : Act} {Q : Exit → Act → World → Prop} {t : Nat} (T : ElemOf P t 5 1 1) {s x : Operand}
 {base m c : Nat} {v : Value} {l l' : List UInt8} {A : Option Addr} (hown : Own w base v l) (hr : Bs w A l')
 (hgd : o.guard = none) (ho : o.op = .call { callee := .builtin .append, args := #[s, x], argTypes := #[t, t] })
 (hs : a.eval s = v) (hx : a.eval x = .slice A m c)
 (hm : m = l'.length) (hb : l.length + l'.length ≤ 140737488355328) (hbase : base ≤ w.heap.size)
 (h : ∀ v' w', Own w' base v' (l ++ l') → w.grownBy w' v.ownBlock → (v'.ownBlock = v.ownBlock ∨ v'.ownBlock = some w.heap.size) → wpList P ops Q rest (a.put o.dst v') w') : wpList P ops Q (o :: rest) a w := by
 subst hm
 refine wpList_app T hown hr hgd ho hs hx (by simp) (bv_one _) (by omega) hb hbase fun v' w' h1 h2 h3 => h v' w' (own_of h1 (bv_append _ _).symm) h2 h3
theorem Bs.new (w : World) (l : List UInt8) (cs : Array Value) (h : cs = (bv l).toArray) (t : TypeId) (fr : Nat × Nat) : Bs (w.alloc (.cells cs t fr)) (some ⟨w.heap.size, 0, none⟩) l := by
 subst h
 exact Sl.new w (bv l) t fr
theorem owns_new (w : World) (base e : Nat) (cs : Array Value) (xs : List Value) (n : Nat) (hcs : cs = xs.toArray) (hn : n = xs.length) (hb : base ≤ w.heap.size) (hm : n ≤ maxLen) :
 (w.alloc (.cells cs e)).ownsRow base e 1 (.slice (some ⟨w.heap.size, 0, none⟩) n n) n xs := by
 subst hcs hn
 exact ⟨by simp, .inr ⟨w.heap.size, xs.length, xs.toArray, rfl, hb, heap_alloc_new w _, Nat.le_refl _, hm, by simp, by simp⟩⟩
theorem Own.new (w : World) (base : Nat) (cs : Array Value) (l : List UInt8) (n : Nat) (hcs : cs = (bv l).toArray) (hn : n = l.length) (hb : base ≤ w.heap.size) (hm : n ≤ maxLen) :
 Own (w.alloc (.cells cs 5)) base (.slice (some ⟨w.heap.size, 0, none⟩) n n) l :=
 own_of (owns_new w base 5 cs (bv l) n hcs (by simpa using hn) hb hm) rfl
theorem Own.empty (w : World) (base : Nat) (hb : base ≤ w.heap.size) : Own (w.alloc (.cells #[] 5)) base (.slice (some ⟨w.heap.size, 0, none⟩) 0 0) [] :=
 Own.new w base #[] [] 0 rfl rfl hb (by simp [maxLen])
theorem Own.alloc {w : World} {base : Nat} {v : Value} {l : List UInt8} (h : Own w base v l) (o : Obj) : Own (w.alloc o) base v l := World.ownsRow.alloc h o
theorem Own.drew {w : World} {base : Nat} {v : Value} {l : List UInt8} (h : Own w base v l) : Own w.drew base v l := h
theorem Own.kept {w w' : World} {base : Nat} {v : Value} {l : List UInt8} {row : Option Nat} (h : Own w base v l) (hg : w.grownBy w' row) (hne : v.ownBlock = none ∨ v.ownBlock ≠ row) : Own w' base v l := World.ownsRow.kept h hg hne
theorem Own.bs {w : World} {base : Nat} {A : Option Addr} {n c : Nat} {l : List UInt8} (h : Own w base (.slice A n c) l) : Bs w A l := Sl.own h rfl
theorem Own.len {w : World} {base : Nat} {A : Option Addr} {n c : Nat} {l : List UInt8} (h : Own w base (.slice A n c) l) : n = l.length := by
 obtain ⟨A', c', e⟩ := own_form h
 injection e
theorem Own.nil (w : World) (base : Nat) : Own w base (.slice none 0 0) [] := World.ownsRow_nil _ _ _ _
theorem Ext.grows {w w' : World} (h : Ext w w') (row : Option Nat) : w.grownBy w' row := ⟨h.os, h.tape, h.output, h.size, fun i hi _ => h.block i hi⟩
theorem owns_ext {w w' : World} {base e size n : Nat} {v : Value} {xs : List Value} (h : w.ownsRow base e size v n xs) (hx : Ext w w') : w'.ownsRow base e size v n xs :=
 h.kept (hx.grows none) (by cases v.ownBlock <;> simp)
theorem Own.ext {w w' : World} {base : Nat} {v : Value} {l : List UInt8} (h : Own w base v l) (hx : Ext w w') : Own w' base v l := owns_ext h hx
theorem owns_low {w : World} {base b2 e size n : Nat} {v : Value} {xs : List Value} (h : w.ownsRow base e size v n xs) (hb : b2 ≤ base) : w.ownsRow b2 e size v n xs := by
 refine ⟨h.1, ?_⟩
 rcases h.2 with h0 | ⟨g, cap, cur, h1, h2, h3⟩
 ·exact .inl h0
 ·exact .inr ⟨g, cap, cur, h1, Nat.le_trans hb h2, h3⟩
theorem Own.low {w : World} {base b2 : Nat} {v : Value} {l : List UInt8} (h : Own w base v l) (hb : b2 ≤ base) : Own w b2 v l := owns_low h hb
theorem Own.lt {w : World} {base : Nat} {v : Value} {l : List UInt8} (h : Own w base v l) : ∀ k, v.ownBlock = some k → base ≤ k ∧ k < w.heap.size := World.ownsRow.lt h
/-- behind a law that may have written a row of the call's own -/
theorem Ext.own {w w1 w2 : World} {base e size n : Nat} {v : Value} {xs : List Value} (h : Ext w w1) (ho : w1.ownsRow base e size v n xs) (hb : w.heap.size ≤ base) (hg : w1.grownBy w2 v.ownBlock) : Ext w w2 :=
 h.grown hg (fun k hk => Nat.le_trans hb (ho.lt k hk).1)
theorem Own.form {w : World} {base : Nat} {v : Value} {l : List UInt8} (h : Own w base v l) : ∃ A cap, v = .slice A l.length cap := own_form h
theorem grown_step {w w1 w2 : World} {row row' : Option Nat} (h : w.grownBy w1 row) (k : w1.grownBy w2 row') (hr : row' = row ∨ ∃ g, row' = some g ∧ w.heap.size ≤ g) : w.grownBy w2 row :=
 ⟨k.os.trans h.os, k.tape.trans h.tape, k.output.trans h.output, Nat.le_trans h.size k.size, fun i hi hne => (k.block i (Nat.lt_of_lt_of_le hi h.size) (by
  rcases hr with rfl | ⟨g, rfl, hg⟩
  ·exact hne
  ·intro e; injection e with e; omega)).trans (h.block i hi hne)⟩
theorem Own.cap {w : World} {base n c : Nat} {A : Option Addr} {l : List UInt8} (h : Own w base (.slice A n c) l) : l.length ≤ c ∧ c ≤ 9223372036854775807 := by
 rcases h.2 with ⟨e, hn⟩ | ⟨g, cap, cur, e, _, _, hc, hm, _⟩
 ·injection e with e1 e2 e3
  subst e3
  omega
 ·injection e with e1 e2 e3
  subst e3
  exact ⟨hc, hm⟩
theorem Own.cell {w : World} {base g n c : Nat} {l : List UInt8} (h : Own w base (.slice (some ⟨g, 0, none⟩) n c) l) {k : Nat} (hk : k < l.length) : w.cell? ⟨g, k, none⟩ = some (.int .u8 (l[k].toNat : Int)) := by
 have hn := h.len
 subst hn
 rw [World.ownsRow.cellAt h k (by omega), bv_get hk]
theorem Own.free {w : World} {base g n c : Nat} {l : List UInt8} (h : Own w base (.slice (some ⟨g, 0, none⟩) n c) l) (k : Nat) : w.frozen? ⟨g, k, none⟩ = false := by
 have hn := h.len
 subst hn
 exact World.ownsRow.frozenAt h k
theorem Own.set {w : World} {base g n c : Nat} {l : List UInt8} (h : Own w base (.slice (some ⟨g, 0, none⟩) n c) l) (k : Nat) (x : UInt8) : Own (w.setCell ⟨g, k, none⟩ (.int .u8 (x.toNat : Int))) base (.slice (some ⟨g, 0, none⟩) n c) (l.set k x) := by
 have hn := h.len
 subst hn
 have := (World.ownsRow.stored h k (.int .u8 (x.toNat : Int))).1
 exact own_of this (by simp [bv, List.map_set])
/-! ## a slice of slices of bytes, all of the call's own -/
def OwnS (w : World) (base : Nat) (v : Value) (ls : List (List UInt8)) : Prop :=
 ∃ vs : List Value, w.ownsRow base 23 1 v ls.length vs ∧ ∀ (k : Nat) (l : List UInt8), ls[k]? = some l → ∃ u, vs[k]? = some u ∧ Own w base u l
theorem owns_type {w : World} {base e size n : Nat} {v : Value} {xs : List Value} (h : w.ownsRow base e size v n xs) : v.ownBlock = none ∨ ∃ g cur, v.ownBlock = some g ∧ w.heap[g]? = some (.cells cur e (0, 0)) := by
 rcases h.2 with ⟨rfl, _⟩ | ⟨g, cap, cur, rfl, _, hg, _⟩
 ·exact .inl rfl
 ·exact .inr ⟨g, cur, rfl, hg⟩
/-- rows of two types are two rows -/
theorem owns_apart {w : World} {base base' e e' size size' n n' : Nat} {v v' : Value} {xs xs' : List Value} (h : w.ownsRow base e size v n xs) (h' : w.ownsRow base' e' size' v' n' xs') (hne : e ≠ e') : v.ownBlock = none ∨ v.ownBlock ≠ v'.ownBlock := by
 rcases owns_type h with h0 | ⟨g, cur, h1, h2⟩
 ·exact .inl h0
 ·rcases owns_type h' with h0' | ⟨g', cur', h1', h2'⟩
  ·exact .inr (by rw [h1, h0']; simp)
  ·refine .inr ?_
   rw [h1, h1']
   intro e0
   injection e0 with e0
   subst e0
   rw [h2] at h2'
   injection h2' with h2'
   injection h2' with _ h3
   exact hne h3
theorem OwnS.nil (w : World) (base : Nat) : OwnS w base (.slice none 0 0) [] := ⟨[], World.ownsRow_nil _ _ _ _, fun k l h => by simp at h⟩
theorem OwnS.empty (w : World) (base : Nat) (hb : base ≤ w.heap.size) : OwnS (w.alloc (.cells #[] 23)) base (.slice (some ⟨w.heap.size, 0, none⟩) 0 0) [] :=
 ⟨[], owns_new w base 23 #[] [] 0 rfl rfl hb (by simp [maxLen]), fun k l h => by simp at h⟩
theorem OwnS.ext {w w' : World} {base : Nat} {v : Value} {ls : List (List UInt8)} (h : OwnS w base v ls) (hx : Ext w w') : OwnS w' base v ls := by
 obtain ⟨vs, h1, h2⟩ := h
 refine ⟨vs, owns_ext h1 hx, fun k l hk => ?_⟩
 obtain ⟨u, h3, h4⟩ := h2 k l hk
 exact ⟨u, h3, h4.ext hx⟩
theorem OwnS.low {w : World} {base b2 : Nat} {v : Value} {ls : List (List UInt8)} (h : OwnS w base v ls) (hb : b2 ≤ base) : OwnS w b2 v ls := by
 obtain ⟨vs, h1, h2⟩ := h
 refine ⟨vs, owns_low h1 hb, fun k l hk => ?_⟩
 obtain ⟨u, h3, h4⟩ := h2 k l hk
 exact ⟨u, h3, h4.low hb⟩
theorem OwnS.form {w : World} {base : Nat} {v : Value} {ls : List (List UInt8)} (h : OwnS w base v ls) : ∃ A cap, v = .slice A ls.length cap := by
 obtain ⟨vs, h1, _⟩ := h
 exact own_form h1
theorem OwnS.bss {w : World} {base : Nat} {A : Option Addr} {n c : Nat} {ls : List (List UInt8)} (h : OwnS w base (.slice A n c) ls) : BsS w A ls := by
 obtain ⟨vs, h1, h2⟩ := h
 intro k l hk
 obtain ⟨u, h3, h4⟩ := h2 k l hk
 obtain ⟨ad, e, hc⟩ := Sl.own h1 rfl k u h3
 obtain ⟨A', c', rfl⟩ := h4.form
 exact ⟨ad, A', c', e, hc, h4.bs⟩
theorem OwnS.cap {w : World} {base n c : Nat} {A : Option Addr} {ls : List (List UInt8)} (h : OwnS w base (.slice A n c) ls) : ls.length ≤ c ∧ c ≤ 9223372036854775807 := by
 obtain ⟨vs, h, _⟩ := h
 rcases h.2 with ⟨e, hn⟩ | ⟨g, cap, cur, e, _, _, hc, hm, _⟩
 ·injection e with e1 e2 e3
  subst e3
  omega
 ·injection e with e1 e2 e3
  subst e3
  exact ⟨hc, hm⟩
/-- append of one more -/
theorem OwnS.push {w w' : World} {base : Nat} {v v' u : Value} {ls : List (List UInt8)} {l : List UInt8} {vs : List Value}
 (h1 : w.ownsRow base 23 1 v ls.length vs) (h2 : ∀ (k : Nat) (l : List UInt8), ls[k]? = some l → ∃ u, vs[k]? = some u ∧ Own w base u l) (hu : Own w base u l)
 (h' : w'.ownsRow base 23 1 v' (ls.length + 1) (vs ++ [u])) (hg : w.grownBy w' v.ownBlock) : OwnS w' base v' (ls ++ [l]) := by
 have hne : (5 : Nat) ≠ 23 := by decide
 have hl : vs.length = ls.length := by have := h1.1; omega
 refine ⟨vs ++ [u], by simpa using h', fun k x hk => ?_⟩
 rw [List.getElem?_append] at hk
 split at hk
 ·rename_i hlt
  obtain ⟨u', h3, h4⟩ := h2 k x hk
  refine ⟨u', ?_, h4.kept hg (owns_apart h4 h1 hne)⟩
  rw [List.getElem?_append_left (by omega)]
  exact h3
 ·rename_i hge
  have hk0 : k - ls.length = 0 := by
   rcases Nat.eq_zero_or_pos (k - ls.length) with h | h
   ·exact h
   ·rw [List.getElem?_eq_none (by simp; omega)] at hk; cases hk
  rw [hk0] at hk
  simp at hk
  subst hk
  refine ⟨u, ?_, hu.kept hg (owns_apart hu h1 hne)⟩
  rw [List.getElem?_append_right (by omega), show k - vs.length = 0 by omega]
  rfl
end Go.Proofs.Ytijopcdjlpafdaa
namespace Go.Proofs.Ytijopcdjlpafdaa
open Go.RowKit
abbrev By := List UInt8
/-- a number of n bytes -/
def beN : Nat → Nat → By
 | 0, _ => []
 | n + 1, v => UInt8.ofNat (v / 256 ^ n) :: beN n v
def valF (a : Nat) (l : By) : Nat := l.foldl (fun v c => v * 256 + c.toNat) a
def valB (l : By) : Nat := valF 0 l
@[simp] theorem beN_length : ∀ n v, (beN n v).length = n
 | 0, _ => rfl
 | n + 1, v => by rw [beN, List.length_cons, beN_length n v]
theorem valF_eq : ∀ (l : By) (a : Nat), valF a l = a * 256 ^ l.length + valB l
 | [], a => by simp [valF, valB]
 | c :: l, a => by
  have h1 := valF_eq l (a * 256 + c.toNat)
  have h2 := valF_eq l (0 * 256 + c.toNat)
  simp only [valB, valF, List.foldl_cons, List.length_cons] at h1 h2 ⊢
  rw [h1, h2, Nat.pow_succ, Nat.add_mul, Nat.add_mul, Nat.mul_assoc, Nat.mul_comm 256]
  omega
theorem valB_cons (c : UInt8) (l : By) : valB (c :: l) = c.toNat * 256 ^ l.length + valB l := by
 have := valF_eq l (0 * 256 + c.toNat)
 rw [Nat.zero_mul, Nat.zero_add] at this
 rw [← this]
 show valF (0 * 256 + c.toNat) l = _
 rw [Nat.zero_mul, Nat.zero_add]
theorem valB_lt : ∀ l : By, valB l < 256 ^ l.length
 | [] => by simp [valB, valF]
 | c :: l => by
  have h1 := valB_lt l
  have h2 := c.toNat_lt
  rw [valB_cons, List.length_cons, Nat.pow_succ]
  have : c.toNat * 256 ^ l.length ≤ 255 * 256 ^ l.length := Nat.mul_le_mul_right _ (by omega)
  omega
theorem valB_be : ∀ n v, valB (beN n v) = v % 256 ^ n
 | 0, v => by simp [beN, valB, valF, Nat.mod_one]
 | n + 1, v => by
  rw [beN, valB_cons, valB_be n v, beN_length]
  have e : (UInt8.ofNat (v / 256 ^ n)).toNat = v / 256 ^ n % 256 := by simp
  rw [e, Nat.pow_succ, Nat.mod_mul, Nat.mul_comm]
  omega
theorem be_valB : ∀ l : By, beN l.length (valB l) = l
 | [] => rfl
 | c :: l => by
  have hp : 0 < 256 ^ l.length := Nat.pow_pos (by omega)
  have hlt := valB_lt l
  have hmod : ∀ (n : Nat) (l' : By) (v w : Nat), v % 256 ^ n = w % 256 ^ n → beN n v = beN n w := by
   intro n
   induction n with
   | zero => intros; rfl
   | succ n ih =>
    intro l' v w h
    have h1 : v / 256 ^ n % 256 = w / 256 ^ n % 256 := by
     rw [Nat.pow_succ] at h
     rw [← Nat.mod_mul_right_div_self, ← Nat.mod_mul_right_div_self, h]
    have h2 : v % 256 ^ n = w % 256 ^ n := by
     have := congrArg (· % 256 ^ n) h
     simp only [Nat.pow_succ] at this
     rwa [Nat.mod_mul_right_mod, Nat.mod_mul_right_mod] at this
    rw [beN, beN, ih l' v w h2]
    congr 1
    apply UInt8.toNat_inj.1
    simpa using h1
  rw [List.length_cons, beN, valB_cons]
  have h1 : (c.toNat * 256 ^ l.length + valB l) / 256 ^ l.length = c.toNat := by
   rw [Nat.mul_comm, Nat.mul_add_div hp, Nat.div_eq_of_lt hlt, Nat.add_zero]
  rw [h1, hmod l.length l _ (valB l) (by rw [Nat.mul_comm, Nat.mul_add_mod]), be_valB l]
  simp
theorem beN_valF (n v : Nat) (h : v < 256 ^ n) : valB (beN n v) = v := by rw [valB_be, Nat.mod_eq_of_lt h]
/-! ## parsers -/
abbrev Prs (α : Type) := By → Nat ⊕ (α × By)
def andP {α β : Type} (p : Prs α) (f : α → Prs β) : Prs β := fun l => match p l with
 | .inl e => .inl e
 | .inr (a, r) => f a r
def takeP (n : Nat) : Prs By := fun l => if l.length < n then .inl 3 else .inr (l.take n, l.drop n)
def numP (n : Nat) : Prs Nat := fun l => if l.length < n then .inl 3 else .inr (valB (l.take n), l.drop n)
structure Rt {α : Type} (p : Prs α) (bs : α → By) (ok : α → Prop) : Prop where
 put : ∀ a r, ok a → p (bs a ++ r) = .inr (a, r)
 got : ∀ l a r, p l = .inr (a, r) → l = bs a ++ r ∧ ok a
theorem Rt.congr {α : Type} {p : Prs α} {put : α → By} {ok ok' : α → Prop} (h : Rt p put ok) (e : ∀ a, ok' a ↔ ok a) : Rt p put ok' :=
 ⟨fun a r ha => h.put a r ((e a).1 ha), fun l a r hl => ⟨(h.got l a r hl).1, (e a).2 (h.got l a r hl).2⟩⟩
theorem andP_inr {α β : Type} {p : Prs α} {f : α → Prs β} {l r : By} {b : β} (h : andP p f l = .inr (b, r)) : ∃ a l1, p l = .inr (a, l1) ∧ f a l1 = .inr (b, r) := by
 unfold andP at h
 cases hpl : p l with
 | inl e => rw [hpl] at h; cases h
 | inr q => rw [hpl] at h; exact ⟨q.1, q.2, rfl, h⟩
theorem andP_put {α β : Type} {p : Prs α} {f : α → Prs β} {l l1 : By} {a : α} (h : p l = .inr (a, l1)) : andP p f l = f a l1 := by
 unfold andP
 rw [h]
theorem Rt.num (n : Nat) : Rt (numP n) (beN n) (fun v => v < 256 ^ n) := by
 constructor
 ·intro v r h
  unfold numP
  rw [if_neg (by simp), List.take_left' (by simp), List.drop_left' (by simp), beN_valF n v h]
 ·intro l v r h
  unfold numP at h
  split at h
  ·cases h
  ·rename_i hl
   simp only [Sum.inr.injEq, Prod.mk.injEq] at h
   obtain ⟨rfl, rfl⟩ := h
   have hn : (l.take n).length = n := by rw [List.length_take]; omega
   have h1 := be_valB (l.take n)
   have h2 := valB_lt (l.take n)
   rw [hn] at h1 h2
   exact ⟨by rw [h1, List.take_append_drop], h2⟩
theorem takeP_got {n : Nat} {l s r : By} (h : takeP n l = .inr (s, r)) : l = s ++ r ∧ s.length = n := by
 unfold takeP at h
 split at h
 ·cases h
 ·simp only [Sum.inr.injEq, Prod.mk.injEq] at h
  obtain ⟨rfl, rfl⟩ := h
  exact ⟨(List.take_append_drop _ _).symm, by rw [List.length_take]; omega⟩
theorem takeP_put (s r : By) : takeP s.length (s ++ r) = .inr (s, r) := by
 unfold takeP
 rw [if_neg (by simp), List.take_left, List.drop_left]
theorem Rt.run (n : Nat) : Rt (andP (numP n) takeP) (fun s => beN n s.length ++ s) (fun s => s.length < 256 ^ n) := by
 constructor
 ·intro s r h
  rw [List.append_assoc, andP_put ((Rt.num n).put _ _ h), takeP_put]
 ·intro l s r h
  obtain ⟨k, l1, h1, h2⟩ := andP_inr h
  obtain ⟨h3, h4⟩ := takeP_got h2
  obtain ⟨h5, h6⟩ := (Rt.num n).got _ _ _ h1
  subst h4
  exact ⟨by rw [h5, h3, List.append_assoc], h6⟩
end Go.Proofs.Ytijopcdjlpafdaa
namespace Go.Proofs.Ytijopcdjlpafdaa
/-- a transaction's name -/
structure TxI where
 node : Int
 boot : Int
 n : Int
 deriving DecidableEq
/-- a transaction under way -/
structure Tr where
 id : TxI
 shards : List Int
 done : Bool
 yes : List Int
 ack : List Int
/-- a node -/
structure Cs where
 node : Int
 boot : Int
 next : Int
 under : List Tr
def be4 (x : Int) : By := beN 4 x.toNat
def okAt (l : List Int) (i : Nat) : Bool := decide (0 ≤ l.getD i 0) && decide (l.getD i 0 ≤ 3) && (i == 0 || decide (l.getD (i - 1) 0 < l.getD i 0))
def rightF (l : List Int) : Bool := decide (l ≠ []) && (List.range l.length).all (okAt l)
def hasI (l : List Int) (x : Int) : Bool := l.any fun y => decide (y = x)
def allIn (l m : List Int) : Bool := l.all fun x => hasI m x
def findT (l : List Tr) (id : TxI) : Option Nat := l.findIdx? fun t => decide (t.id = id)
def dTr : Tr := ⟨⟨0, 0, 0⟩, [], false, [], []⟩
def Cs.row (s : Cs) (i : Nat) : Tr := s.under.getD i dTr
def Cs.at_ (s : Cs) (id : TxI) (d : Bool) : Option Nat := match findT s.under id with
 | some i => if (s.row i).done = d then some i else none
 | none => none
def putD (t : Tr) : By := 2 :: be4 t.id.boot ++ be4 t.id.n ++ beN 1 t.shards.length ++ t.shards.map fun x => UInt8.ofNat x.toNat
/-- a call's outcome: the record, the error, the node -/
structure Out where
 r : By
 e : Int
 s : Cs
def bootO (s : Cs) : By × Int := if s.boot = 2147483647 then ([], 8) else (1 :: be4 (s.boot + 1), 0)
def beginE (s : Cs) (sh : List Int) : Int := if s.boot = 0 then 13 else if rightF sh = false then 2 else if 8 ≤ s.under.length ∨ 2147483647 ≤ s.next then 8 else 0
def beginT (s : Cs) (sh : List Int) : TxI := if beginE s sh = 0 then ⟨s.node, s.boot, s.next⟩ else ⟨0, 0, 0⟩
def beginS (s : Cs) (sh : List Int) : Cs := if beginE s sh = 0 then { s with next := s.next + 1, under := s.under ++ [⟨⟨s.node, s.boot, s.next⟩, sh, false, [], []⟩] } else s
def voteO (s : Cs) (id : TxI) (shard : Int) (yes : Bool) : Out := match s.at_ id false with
 | none => ⟨[], 9, s⟩
 | some i =>
  let t := s.row i
  if hasI t.shards shard = false then ⟨[], 2, s⟩
  else if yes = false then (if allIn t.shards t.yes then ⟨[], 13, s⟩ else ⟨[], 0, { s with under := s.under.eraseIdx i }⟩)
  else
   let t' := { t with yes := t.yes ++ [shard] }
   ⟨if allIn t'.shards t'.yes then putD t' else [], 0, { s with under := s.under.set i t' }⟩
def dropO (s : Cs) (id : TxI) : Int × Cs := match s.at_ id false with
 | none => (9, s)
 | some i => if allIn (s.row i).shards (s.row i).yes then (13, s) else (0, { s with under := s.under.eraseIdx i })
def ackO (s : Cs) (id : TxI) (shard : Int) : Out := match s.at_ id true with
 | none => ⟨[], 9, s⟩
 | some i =>
  let t := s.row i
  if hasI t.shards shard = false then ⟨[], 2, s⟩
  else
   let t' := { t with ack := t.ack ++ [shard] }
   ⟨if allIn t'.shards t'.ack then 3 :: be4 id.boot ++ be4 id.n else [], 0, { s with under := s.under.set i t' }⟩
def askF (s : Cs) (id : TxI) : Int :=
 if id.node ≠ s.node ∨ id.boot < 1 ∨ s.boot < id.boot ∨ id.n < 1 ∨ (id.boot = s.boot ∧ s.next ≤ id.n) then 0
 else match findT s.under id with
  | none => 2
  | some i => if (s.row i).done then 1 else 0
def todoT (t : Tr) : List (TxI × Int × Int) := t.shards.flatMap fun n =>
 if t.done = true ∧ hasI t.ack n = false then [(t.id, n, 1)] else if t.done = false ∧ hasI t.yes n = false then [(t.id, n, 0)] else []
def todoF (s : Cs) : List (TxI × Int × Int) := s.under.flatMap todoT
def goodF (n : Nat) : Bool := decide (1 ≤ n) && decide (n ≤ 2147483647)
def livesO (s : Cs) (b : Int) : Int × Cs := if b ≤ s.boot then (13, s) else (0, { s with boot := b, next := 1, under := s.under.filter (·.done) })
def badF (s : Cs) (id : TxI) (sh : List Int) : Bool := match findT s.under id with
 | some i => (s.row i).done || !allIn (s.row i).shards (s.row i).yes || decide ((s.row i).shards ≠ sh)
 | none => false
def isDoneO (s : Cs) (id : TxI) (sh : List Int) : Int × Cs :=
 if s.boot < id.boot then (13, s)
 else if badF s id sh = true then (13, s)
 else if findT s.under id = none ∧ 8 ≤ s.under.length then (8, s)
 else (0, { s with under := (s.under.filter fun t => decide (t.id ≠ id)) ++ [⟨id, sh, true, [], []⟩], next := if id.boot = s.boot then max s.next (id.n + 1) else s.next })
def valAt (r : By) (k : Nat) : Nat := valB ((r.drop k).take 4)
def redoO (s : Cs) (r : By) : Int × Cs :=
 if r.length < 5 ∨ goodF (valAt r 1) = false then (4, s)
 else if r.getD 0 0 = 1 ∧ r.length = 5 then livesO s (valAt r 1 : Nat)
 else if r.length < 9 ∨ goodF (valAt r 5) = false then (4, s)
 else if r.getD 0 0 = 3 ∧ r.length = 9 then
  match s.at_ ⟨s.node, (valAt r 1 : Nat), (valAt r 5 : Nat)⟩ true with
  | none => (13, s)
  | some i => (0, { s with under := s.under.eraseIdx i })
 else if r.getD 0 0 = 2 ∧ 9 < r.length ∧ r.length = 10 + (r.getD 9 0).toNat then
  let sh := (r.drop 10).map fun c => ((c.toNat : Nat) : Int)
  if rightF sh then isDoneO s ⟨s.node, (valAt r 1 : Nat), (valAt r 5 : Nat)⟩ sh else (4, s)
 else (4, s)
def snapF (s : Cs) : List By := if s.boot = 0 then [] else (1 :: be4 s.boot) :: (s.under.filter (·.done)).map putD
/-- a node's row is right -/
structure Tr.Ok (s : Cs) (t : Tr) : Prop where
 right : rightF t.shards = true
 yes : ∀ x ∈ t.yes, x ∈ t.shards
 ack : ∀ x ∈ t.ack, x ∈ t.shards
 node : t.id.node = s.node
 boot1 : 1 ≤ t.id.boot
 boot2 : t.id.boot ≤ s.boot
 n1 : 1 ≤ t.id.n
 n2 : t.id.n ≤ 2147483647
 next : t.id.boot = s.boot → t.id.n < s.next
/-- what stays true of a node -/
structure Cs.Ok (s : Cs) : Prop where
 boot1 : 0 ≤ s.boot
 boot2 : s.boot ≤ 2147483647
 next1 : 1 ≤ s.next
 next2 : s.next ≤ 2147483648
 few : s.under.length ≤ 8
 rows : ∀ t ∈ s.under, t.Ok s
 one : s.under.Pairwise fun a b => a.id ≠ b.id
theorem rightF_iff {l : List Int} : rightF l = true ↔ l ≠ [] ∧ ∀ i, i < l.length → 0 ≤ l.getD i 0 ∧ l.getD i 0 ≤ 3 ∧ (0 < i → l.getD (i - 1) 0 < l.getD i 0) := by
 unfold rightF okAt
 simp only [Bool.and_eq_true, decide_eq_true_eq, List.all_eq_true, List.mem_range, Bool.or_eq_true, beq_iff_eq]
 constructor
 ·rintro ⟨h1, h2⟩
  refine ⟨h1, fun i hi => ?_⟩
  obtain ⟨⟨a, b⟩, c⟩ := h2 i hi
  exact ⟨a, b, fun h0 => by rcases c with c | c; omega; exact c⟩
 ·rintro ⟨h1, h2⟩
  refine ⟨h1, fun i hi => ?_⟩
  obtain ⟨a, b, c⟩ := h2 i hi
  exact ⟨⟨a, b⟩, by by_cases h0 : i = 0; exact .inl h0; exact .inr (c (by omega))⟩
theorem rightF_mem {l : List Int} (h : rightF l = true) : ∀ x ∈ l, 0 ≤ x ∧ x ≤ 3 := by
 intro x hx
 obtain ⟨i, hi, rfl⟩ := List.mem_iff_getElem.1 hx
 have := (rightF_iff.1 h).2 i hi
 rw [List.getD_eq_getElem?_getD, List.getElem?_eq_getElem hi] at this
 exact ⟨this.1, this.2.1⟩
theorem rightF_len {l : List Int} (h : rightF l = true) : 1 ≤ l.length ∧ l.length ≤ 4 := by
 have h' := (rightF_iff.1 h)
 refine ⟨List.length_pos_iff.2 h'.1, ?_⟩
 have key : ∀ i, i < l.length → (i : Int) ≤ l.getD i 0 := by
  intro i
  induction i with
  | zero => intro hi; have := (h'.2 0 hi).1; omega
  | succ i ih =>
   intro hi
   have h1 := ih (by omega)
   have h2 := (h'.2 (i + 1) hi).2.2 (by omega)
   simp only [Nat.add_sub_cancel] at h2
   omega
 rcases Nat.lt_or_ge 4 l.length with h5 | h5
 ·have h1 := key 4 h5
  have h2 := (h'.2 4 h5).2.1
  omega
 ·exact h5
theorem hasI_iff {l : List Int} {x : Int} : hasI l x = true ↔ x ∈ l := by simp [hasI]
theorem allIn_iff {l m : List Int} : allIn l m = true ↔ ∀ x ∈ l, x ∈ m := by simp [allIn, hasI_iff]
theorem findT_some {l : List Tr} {id : TxI} {i : Nat} (h : findT l id = some i) : i < l.length ∧ (l.getD i dTr).id = id := by
 unfold findT at h
 obtain ⟨h1, h2, _⟩ := List.findIdx?_eq_some_iff_getElem.1 h
 refine ⟨h1, ?_⟩
 rw [List.getD_eq_getElem?_getD, List.getElem?_eq_getElem h1]
 simpa using h2
theorem findT_none {l : List Tr} {id : TxI} : findT l id = none ↔ ∀ t ∈ l, t.id ≠ id := by
 unfold findT
 simp
theorem at_some {s : Cs} {id : TxI} {d : Bool} {i : Nat} (h : s.at_ id d = some i) : i < s.under.length ∧ (s.row i).id = id ∧ (s.row i).done = d ∧ findT s.under id = some i := by
 unfold Cs.at_ at h
 cases hf : findT s.under id with
 | none => rw [hf] at h; cases h
 | some k =>
  rw [hf] at h
  simp only at h
  split at h
  ·rename_i hd
   cases h
   obtain ⟨h1, h2⟩ := findT_some hf
   exact ⟨h1, h2, hd, rfl⟩
  ·cases h
theorem row_mem {s : Cs} {i : Nat} (h : i < s.under.length) : s.row i ∈ s.under := by
 unfold Cs.row
 rw [List.getD_eq_getElem?_getD, List.getElem?_eq_getElem h]
 exact List.getElem_mem h
/-! ## what stays true -/
theorem Tr.Ok.of {s s' : Cs} {t : Tr} (h : t.Ok s) (h1 : s'.node = s.node) (h2 : s.boot ≤ s'.boot) (h3 : s'.boot = s.boot → s.next ≤ s'.next) : t.Ok s' :=
 ⟨h.right, h.yes, h.ack, by rw [h1, h.node], h.boot1, Int.le_trans h.boot2 h2, h.n1, h.n2, fun e => by
  have hb := h.boot2
  have := h.next (by omega)
  have := h3 (by omega)
  omega⟩
theorem ok_new (n : Int) : Cs.Ok ⟨n, 0, 1, []⟩ := ⟨by simp, by simp, by simp, by simp, by simp, by simp, by simp⟩
theorem ok_begin {s : Cs} (h : s.Ok) (sh : List Int) : (beginS s sh).Ok := by
 unfold beginS
 split
 ·rename_i he
  unfold beginE at he
  split at he
  ·cases he
  ·rename_i h0
   split at he
   ·cases he
   ·rename_i hr
    split at he
    ·cases he
    ·rename_i hf
     have hb := h.boot1
     have hn := h.next1
     have hb2 := h.boot2
     simp only [not_or] at hf
     refine ⟨h.boot1, h.boot2, by simp only; omega, by simp only; omega, by simp only [List.length_append, List.length_cons, List.length_nil]; omega, ?_, ?_⟩
     ·intro t ht
      rcases List.mem_append.1 ht with ht | ht
      ·exact (h.rows t ht).of rfl (Int.le_refl _) (fun _ => by simp only; omega)
      ·simp only [List.mem_singleton] at ht
       subst ht
       exact ⟨by simpa using hr, by simp, by simp, rfl, by simp only; omega, Int.le_refl _, hn, by simp only; omega, fun _ => by simp only; omega⟩
     ·rw [List.pairwise_append]
      refine ⟨h.one, by simp, fun a ha b hb' e => ?_⟩
      simp only [List.mem_singleton] at hb'
      subst hb'
      have := (h.rows a ha).next (by rw [e])
      rw [e] at this
      simp only at this
      omega
 ·exact h
theorem ok_erase {s : Cs} (h : s.Ok) (i : Nat) : Cs.Ok { s with under := s.under.eraseIdx i } :=
 ⟨h.boot1, h.boot2, h.next1, h.next2, Nat.le_trans (List.length_eraseIdx_le _ _) h.few, fun t ht => (h.rows t (List.mem_of_mem_eraseIdx ht)).of rfl (Int.le_refl _) (fun _ => Int.le_refl _), h.one.sublist (List.eraseIdx_sublist ..)⟩
theorem ok_set {s : Cs} (h : s.Ok) (i : Nat) (hi : i < s.under.length) (t' : Tr) (hid : t'.id = (s.row i).id) (ht : t'.Ok s) : Cs.Ok { s with under := s.under.set i t' } := by
 refine ⟨h.boot1, h.boot2, h.next1, h.next2, by simp only [List.length_set]; exact h.few, fun t hm => ?_, ?_⟩
 ·rcases List.mem_or_eq_of_mem_set hm with hm | rfl
  ·exact (h.rows t hm).of rfl (Int.le_refl _) (fun _ => Int.le_refl _)
  ·exact ht.of rfl (Int.le_refl _) (fun _ => Int.le_refl _)
 ·have e : ∀ l : List Tr, l.Pairwise (fun a b => a.id ≠ b.id) ↔ (l.map (·.id)).Pairwise (· ≠ ·) := fun l => by rw [List.pairwise_map]
  simp only
  rw [e, List.map_set]
  have : (s.under.map (·.id)).set i t'.id = s.under.map (·.id) := by
   rw [hid]
   apply List.ext_getElem?
   intro j
   rw [List.getElem?_set]
   by_cases hj : i = j
   ·subst hj
    rw [if_pos rfl]
    simp [hi, Cs.row]
   ·rw [if_neg hj]
  rw [this, ← e]
  exact h.one
theorem ok_vote {s : Cs} (h : s.Ok) (id : TxI) (shard : Int) (yes : Bool) : (voteO s id shard yes).s.Ok := by
 unfold voteO
 cases hat : s.at_ id false with
 | none => exact h
 | some i =>
  obtain ⟨h1, h2, h3, _⟩ := at_some hat
  simp only
  split
  ·exact h
  ·rename_i hs
   split
   ·split
    ·exact h
    ·exact ok_erase h i
   ·refine ok_set h i h1 _ rfl ?_
    have ht := h.rows _ (row_mem h1)
    exact ⟨ht.right, fun x hx => by
     rcases List.mem_append.1 hx with hx | hx
     ·exact ht.yes x hx
     ·simp at hx; subst hx; exact hasI_iff.1 (by simpa using hs), ht.ack, ht.node, ht.boot1, ht.boot2, ht.n1, ht.n2, ht.next⟩
theorem ok_drop {s : Cs} (h : s.Ok) (id : TxI) : (dropO s id).2.Ok := by
 unfold dropO
 cases hat : s.at_ id false with
 | none => exact h
 | some i =>
  simp only
  split
  ·exact h
  ·exact ok_erase h i
theorem ok_ack {s : Cs} (h : s.Ok) (id : TxI) (shard : Int) : (ackO s id shard).s.Ok := by
 unfold ackO
 cases hat : s.at_ id true with
 | none => exact h
 | some i =>
  obtain ⟨h1, h2, h3, _⟩ := at_some hat
  simp only
  split
  ·exact h
  ·rename_i hs
   refine ok_set h i h1 _ rfl ?_
   have ht := h.rows _ (row_mem h1)
   exact ⟨ht.right, ht.yes, fun x hx => by
    rcases List.mem_append.1 hx with hx | hx
    ·exact ht.ack x hx
    ·simp at hx; subst hx; exact hasI_iff.1 (by simpa using hs), ht.node, ht.boot1, ht.boot2, ht.n1, ht.n2, ht.next⟩
theorem ok_lives {s : Cs} (h : s.Ok) (b : Int) (hb : b ≤ 2147483647) : (livesO s b).2.Ok := by
 unfold livesO
 split
 ·exact h
 ·rename_i hlt
  have h1 := h.boot1
  exact ⟨by simp only; omega, hb, by simp, by simp, Nat.le_trans (List.length_filter_le _ _) h.few, fun t ht => by
   have := h.rows t ((List.mem_filter.1 ht).1)
   exact this.of rfl (by simp only; omega) (fun e => by simp only at e; omega), h.one.filter _⟩
theorem length_filter_lt {l : List Tr} {id : TxI} {i : Nat} (h : findT l id = some i) : (l.filter fun t => decide (t.id ≠ id)).length < l.length := by
 obtain ⟨h1, h2⟩ := findT_some h
 rcases Nat.lt_or_ge (l.filter fun t => decide (t.id ≠ id)).length l.length with h3 | h3
 ·exact h3
 ·exfalso
  have := List.length_filter_eq_length_iff.1 (Nat.le_antisymm (List.length_filter_le _ _) h3)
  have hm : l.getD i dTr ∈ l := by rw [List.getD_eq_getElem?_getD, List.getElem?_eq_getElem h1]; exact List.getElem_mem h1
  have := this _ hm
  simp only [decide_eq_true_eq] at this
  exact this h2
theorem ok_isDone {s : Cs} (h : s.Ok) (id : TxI) (sh : List Int) (h1 : id.node = s.node) (h2 : 1 ≤ id.boot) (h3 : 1 ≤ id.n) (h4 : id.n ≤ 2147483647) (hr : rightF sh = true) : (isDoneO s id sh).2.Ok := by
 unfold isDoneO
 split
 ·exact h
 ·rename_i hb
  split
  ·exact h
  ·split
   ·exact h
   ·rename_i hf
    have hn1 := h.next1
    have hn2 := h.next2
    have hmax : s.next ≤ (if id.boot = s.boot then max s.next (id.n + 1) else s.next) := by split <;> omega
    refine ⟨h.boot1, h.boot2, by simp only; omega, by simp only; split <;> omega, ?_, ?_, ?_⟩
    ·simp only [List.length_append, List.length_cons, List.length_nil]
     cases hi : findT s.under id with
     | none =>
      have := List.length_filter_le (fun t : Tr => decide (t.id ≠ id)) s.under
      simp only [hi, true_and, Nat.not_le] at hf
      omega
     | some i =>
      have := length_filter_lt hi
      have := h.few
      omega
    ·intro t ht
     rcases List.mem_append.1 ht with ht | ht
     ·exact (h.rows t ((List.mem_filter.1 ht).1)).of rfl (Int.le_refl _) (fun _ => hmax)
     ·simp only [List.mem_singleton] at ht
      subst ht
      exact ⟨hr, by simp, by simp, h1, h2, by simp only; omega, h3, h4, fun e => by simp only at e ⊢; rw [if_pos e]; omega⟩
    ·rw [List.pairwise_append]
     refine ⟨h.one.filter _, by simp, fun a ha b hb' e => ?_⟩
     simp only [List.mem_singleton] at hb'
     subst hb'
     have := (List.mem_filter.1 ha).2
     simp at this
     exact this e
theorem ok_redo {s : Cs} (h : s.Ok) (r : By) : (redoO s r).2.Ok := by
 unfold redoO
 split
 ·exact h
 ·rename_i h5
  have hg1 : goodF (valAt r 1) = true := by simp only [not_or] at h5; simpa using h5.2
  unfold goodF at hg1
  simp only [Bool.and_eq_true, decide_eq_true_eq] at hg1
  split
  ·exact ok_lives h _ (by omega)
  ·split
   ·exact h
   ·rename_i h9
    have hg5 : goodF (valAt r 5) = true := by simp only [not_or] at h9; simpa using h9.2
    unfold goodF at hg5
    simp only [Bool.and_eq_true, decide_eq_true_eq] at hg5
    split
    ·cases hat : s.at_ ⟨s.node, (valAt r 1 : Nat), (valAt r 5 : Nat)⟩ true with
     | none => exact h
     | some i => exact ok_erase h i
    ·split
     ·simp only
      split
      ·rename_i hr
       exact ok_isDone h _ _ rfl (by simp only; omega) (by simp only; omega) (by simp only; omega) hr
      ·exact h
     ·exact h
end Go.Proofs.Ytijopcdjlpafdaa
