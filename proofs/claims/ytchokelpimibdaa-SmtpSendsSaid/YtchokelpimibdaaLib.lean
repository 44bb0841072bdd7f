/- Words for memory (what an earlier world held is still there; slices that read as lists; rows that a call owns), and the laws on append, cuts and conversions in these words. Each holds for every program and world; the conditions are the hypotheses of each theorem. -/
import Derived.Below
import Derived.Laws.OwnMore
import Derived.Deep.AppendLies
import Derived.Deep.Draws
import Derived.Laws.Rows
import Derived.Maps.AppendAt
import Derived.RegionTactic
import Derived.OwnWalk
import Derived.WalkKit
import Derived.WalkSpells
import Derived.WalkLawsBesides
import Derived.Lib.Hide
import Derived.Laws.IdiomStrings
import Derived.Laws.BytesArg
namespace Go.Proofs.Ytchokelpimibdaa
open Go.RowKit
/-! ## words -/
theorem ret_int {k : IntKind} {a b : Int} (h : a = b) : Ending.returned (.int k a) = .returned (.int k b) := by rw [h]
theorem ret_bool {a b : Bool} (h : a = b) : Ending.returned (.bool a) = .returned (.bool b) := by rw [h]
def Stop (p : Prop) : Prop := p
theorem unstop {p : Prop} (h : Stop p) : p := h
theorem go_on {p : Prop} (h : p) : Stop p := h
/-- nothing that is in w has turned in w' -/
def Ext (w w' : World) : Prop := Below w.heap.size w w'
section
variable {w w' w'' : World}
@[go_sem] theorem Ext.refl (w : World) : Ext w w := Below.refl _ _
theorem Ext.size (h : Ext w w') : w.heap.size ≤ w'.heap.size := Below.size h
theorem Ext.trans (h : Ext w w') (k : Ext w' w'') : Ext w w'' := Below.trans h (Below.mono k (Below.size h))
theorem Ext.alloc (h : Ext w w') (o : Obj) : Ext w (w'.alloc o) := Below.alloc h (Below.size h) o
theorem Ext.drew (h : Ext w w') : Ext w w'.drew := Below.drew h
theorem Ext.drewN (h : Ext w w') (n : Nat) : Ext w (w'.drewN n) := ⟨h.os, h.tape, h.output, h.size, h.block⟩
theorem Ext.setCell (h : Ext w w') {p : Addr} (hp : w.heap.size ≤ p.block) (u : Value) : Ext w (w'.setCell p u) := Below.setCell h hp u
theorem Ext.grown {row : Option Nat} (h : Ext w w') (hg : w'.grownBy w'' row) (hr : ∀ k, row = some k → w.heap.size ≤ k) : Ext w w'' :=
  Below.grown h hg (Below.size h) hr
theorem Ext.cell (h : Ext w w') {p : Addr} {v : Value} (hp : w.cell? p = some v) : w'.cell? p = some v :=
  (Below.cell h (World.block_lt_of_cell? w p hp)).trans hp
theorem Ext.below (h : Ext w w') : Below w.heap.size w w' := h
theorem Ext.of (h : Below w.heap.size w w') : Ext w w' := h
@[go_sem] theorem Ext.alloc_iff (o : Obj) (h : Ext w w') : Ext w (w'.alloc o) := h.alloc o
@[go_sem] theorem Ext.drew_iff (h : Ext w w') : Ext w w'.drew := h.drew
@[go_sem] theorem Ext.drewN_iff (n : Nat) (h : Ext w w') : Ext w (w'.drewN n) := h.drewN n
@[go_sem] theorem Ext.setCell_iff {b : Nat} {o : Nat} {u : Value} (h : Ext w w') (hp : w.heap.size ≤ b) : Ext w (w'.setCell ⟨b, o, none⟩ u) := h.setCell hp u
end
/-- what a law answers -/
def Yes (w : World) (e : Ending) (w' : World) : Prop := e = .returned (.bool true) ∧ Ext w w'
theorem Yes.mk' {w w' : World} {b : Bool} (h : b = true) (hx : Ext w w') : Yes w (.returned (.bool b)) w' := ⟨by rw [h], hx⟩
/-- the slice at A has the cells xs -/
def Sl (w : World) (A : Option Addr) (xs : List Value) : Prop := ∀ k v, xs[k]? = some v → ∃ ad, A = some ad ∧ w.cell? (ad.add k) = some v
section
variable {w w' : World} {A : Option Addr} {xs : List Value}
theorem Sl.nil (w : World) (A : Option Addr) : Sl w A [] := fun k v h => by simp at h
theorem Sl.ext (h : Sl w A xs) (hx : Ext w w') : Sl w' A xs := fun k v hk => by
  obtain ⟨ad, e, hc⟩ := h k v hk
  exact ⟨ad, e, hx.cell hc⟩
theorem addr_add_block (a : Addr) (n : Nat) : (a.add n).block = a.block := by unfold Addr.add; split <;> rfl
theorem add_pos' (a : Addr) (n : Nat) : a.add (n + 1) = ⟨a.block, a.off + (n + 1), none⟩ := by unfold Addr.add; simp
theorem Sl.grown {row : Option Nat} (h : Sl w A xs) (hg : w.grownBy w' row) (hne : ∀ ad, A = some ad → row ≠ some ad.block) : Sl w' A xs := fun k v hk => by
  obtain ⟨ad, e, hc⟩ := h k v hk
  exact ⟨ad, e, hg.cell hc (by rw [addr_add_block]; exact fun h => hne ad e h.symm)⟩
theorem Sl.now (h : Sl w A xs) {k : Nat} {v : Value} (hk : xs[k]? = some v) : ∃ ad, A = some ad ∧ w.cell? (ad.add k) = some v := h k v hk
theorem Sl.at_ (h : Sl w A xs) {k : Nat} {v : Value} (hk : xs[k]? = some v) : ∃ ad, A = some ad ∧ ∀ w', Ext w w' → w'.cell? (ad.add k) = some v := by
  obtain ⟨ad, e, hc⟩ := h k v hk
  exact ⟨ad, e, fun w' hx => hx.cell hc⟩
end
def bv (l : List UInt8) : List Value := l.map fun c => Value.int .u8 (c.toNat : Int)
/-- the slice at A reads as the bytes l -/
def Bs (w : World) (A : Option Addr) (l : List UInt8) : Prop := Sl w A (bv l)
theorem bv_get {l : List UInt8} {k : Nat} (hk : k < l.length) : (bv l)[k]? = some (.int .u8 (l[k].toNat : Int)) := by simp [bv, hk]
theorem Bs.at_ {w : World} {A : Option Addr} {l : List UInt8} (h : Bs w A l) {k : Nat} (hk : k < l.length) :
    ∃ ad, A = some ad ∧ ∀ w', Ext w w' → w'.cell? (ad.add k) = some (.int .u8 (l[k].toNat : Int)) := Sl.at_ h (bv_get hk)
theorem Bs.ext {w w' : World} {A : Option Addr} {l : List UInt8} (h : Bs w A l) (hx : Ext w w') : Bs w' A l := Sl.ext h hx
/-- a slice of slices of bytes -/
def BsS (w : World) (A : Option Addr) (ls : List (List UInt8)) : Prop :=
  ∀ k l, ls[k]? = some l → ∃ ad A' cap, A = some ad ∧ w.cell? (ad.add k) = some (.slice A' l.length cap) ∧ Bs w A' l
theorem BsS.at_ {w : World} {A : Option Addr} {ls : List (List UInt8)} (h : BsS w A ls) {k : Nat} (hk : k < ls.length) :
    ∃ ad A' cap, A = some ad ∧ (∀ w', Ext w w' → w'.cell? (ad.add k) = some (.slice A' ls[k].length cap)) ∧ Bs w A' ls[k] := by
  obtain ⟨ad, A', cap, e, hc, hb⟩ := h k ls[k] (List.getElem?_eq_getElem hk)
  exact ⟨ad, A', cap, e, fun w' hx => hx.cell hc, hb⟩
/-! ## append onto a row of the call's own, whatever the source -/
theorem sl_add0 (a : Addr) : a.add 0 = a := by unfold Addr.add; simp
section
variable {P : Program}
theorem run_app_nil (w : World) (base : Nat) (t ty e : TypeId) (i : TypeInfo) (size : Nat) (ht : P.underlying t = some (.slice e)) (hi : P.info? e = some i)
    (v : Value) (n : Nat) (xs : List Value) (hown : w.ownsRow base e size v n xs) (A : Option Addr) (c : Nat) : (Builtin.append_ #[t, t] ty #[v, .slice A 0 c]).run P w = .ok v w := by
  have hz : ∀ A : Option Addr, (Builtin.firstCells i.size 0 (.slice A 0 c)).run P w = .ok #[] w := fun A => by
    cases A with
    | none => simp [Builtin.firstCells]
    | some ad => simp [Builtin.firstCells, loadCells, loadCellsFrom]
  rcases hown.2 with ⟨rfl, rfl⟩ | ⟨g, cap, cur, rfl, _, _, hnc, _⟩
  · simp [Builtin.append_, run_underlying ht, sizeOf, typeInfo, hi, Builtin.lenOf, hz]
  · simp [Builtin.append_, run_underlying ht, sizeOf, typeInfo, hi, Builtin.lenOf, hz, hnc, storeCells]
theorem run_app (w : World) (base : Nat) (t ty e : TypeId) (i : TypeInfo) (z : Value) (size bytes : Nat) (ht : P.underlying t = some (.slice e)) (hi : P.info? e = some i) (hz : i.zero = some z)
    (hsize : i.size = size) (hby : i.bytes = bytes) (hzs : z.cells.size = size) (hsz : 0 < size)
    (v : Value) (n : Nat) (xs : List Value) (hown : w.ownsRow base e size v n xs)
    (A : Option Addr) (m c : Nat) (news : List Value) (hl : news.length = m * size) (hr : Sl w A news) (h1 : ∀ u ∈ news, u.oneCell' = true)
    (hb : (n + m) * bytes ≤ 140737488355328) (h63 : n + m ≤ 140737488355328) (hbase : base ≤ w.heap.size) :
    ∃ v' w', (Builtin.append_ #[t, t] ty #[v, .slice A m c]).run P w = .ok v' w' ∧ w'.ownsRow base e size v' (n + m) (xs ++ news) ∧ w.grownBy w' v.ownBlock ∧
      (v'.ownBlock = v.ownBlock ∨ v'.ownBlock = some w.heap.size) := by
  have h63' : n + m ≤ maxLen := by simp only [maxLen]; omega
  rcases Nat.eq_zero_or_pos m with h0 | h0
  · subst h0
    have hn : news = [] := List.eq_nil_of_length_eq_zero (by simpa using hl)
    subst hn
    exact ⟨v, w, run_app_nil w base t ty e i size ht hi v n xs hown A c, by simpa using hown, World.grownBy.refl w _, .inl rfl⟩
  · have hpos : 0 < news.length := by rw [hl]; exact Nat.mul_pos h0 hsz
    obtain ⟨ad, rfl, _⟩ := hr 0 _ (List.getElem?_eq_getElem hpos)
    have hcells : ∀ j u, news[j]? = some u → w.cell? (ad.add j) = some u := by
      intro j u hu
      obtain ⟨ad', h, hc⟩ := hr j u hu
      injection h with h
      subst h
      exact hc
    obtain ⟨v', w', hrun, h2, h3, _, h5⟩ := run_append_own_at (P := P) w base t ty e i z size bytes ht hi hz hsize hby hzs hsz v n xs hown ad m c news hl hcells h1 h63' hb hbase
    exact ⟨v', w', hrun, h2, h3, h5⟩
/-- an element type's row of the table -/
structure ElemOf (P : Program) (t e size bytes : Nat) : Prop where
  ht : P.underlying t = some (.slice e)
  hi : ∃ i z, P.info? e = some i ∧ i.zero = some z ∧ i.size = size ∧ i.bytes = bytes ∧ z.cells.size = size
  hs : 0 < size
theorem ElemOf.mk' {t e size bytes : Nat} {z : Value} (ht : P.underlying t = some (.slice e)) (h : (P.info? e).map (fun i => (i.zero, i.size, i.bytes)) = some (some z, size, bytes)) (hz : z.cells.size = size) (hs : 0 < size) : ElemOf P t e size bytes := by
  obtain ⟨i, h1, h2, h3, h4⟩ := info_parts h
  exact ⟨ht, ⟨i, z, h1, h2, h3, h4, hz⟩, hs⟩
theorem wpList_app {w : World} {ops : Array Oper} {rest : List Oper} {o : Oper} {a : Act} {Q : Exit → Act → World → Prop} {t e size bytes : Nat} (T : ElemOf P t e size bytes) {s x : Operand}
    {base n m c : Nat} {v : Value} {xs news : List Value} {A : Option Addr} (hown : w.ownsRow base e size v n xs) (hr : Sl w A news)
    (hgd : o.guard = none) (ho : o.op = .call { callee := .builtin .append, args := #[s, x], argTypes := #[t, t] })
    (hs : a.eval s = v) (hx : a.eval x = .slice A m c)
    (hl : news.length = m * size) (h1 : ∀ u ∈ news, u.oneCell' = true)
    (hb : (n + m) * bytes ≤ 140737488355328) (h63 : n + m ≤ 140737488355328) (hbase : base ≤ w.heap.size)
    (h : ∀ v' w', w'.ownsRow base e size v' (n + m) (xs ++ news) → w.grownBy w' v.ownBlock → (v'.ownBlock = v.ownBlock ∨ v'.ownBlock = some w.heap.size) → wpList P ops Q rest (a.put o.dst v') w') : wpList P ops Q (o :: rest) a w := by
  obtain ⟨i, z, hi, hz, hsize, hby, hzs⟩ := T.hi
  obtain ⟨v', w', hrun, h2, h3, h4⟩ := run_app (P := P) w base t o.type e i z size bytes T.ht hi hz hsize hby hzs T.hs v n xs hown A m c news hl hr h1 hb h63 hbase
  refine wpList_plain hgd fun K hK => ?_
  unfold Oper.wp execOp
  simp only [ho, resolve, invoke, builtin, Sem.run_bind, Sem.run_pure, Result.andThen_ok, List.map_toArray, List.map_cons, List.map_nil, hs, hx, hrun]
  exact hK _ _ (h v' w' h2 h3 h4)
end
theorem bv_one (l : List UInt8) : ∀ u ∈ bv l, u.oneCell' = true := by
  intro u hu
  simp only [bv, List.mem_map] at hu
  obtain ⟨c, _, rfl⟩ := hu
  rfl
@[simp] theorem bv_length (l : List UInt8) : (bv l).length = l.length := by simp [bv]
theorem bv_append (a b : List UInt8) : bv (a ++ b) = bv a ++ bv b := by simp [bv]
/-- the slice value v owns the bytes l, in a block from base on -/
def Own (w : World) (base : Nat) (v : Value) (l : List UInt8) : Prop := w.ownsRow base 5 1 v l.length (bv l)
theorem Sl.new (w : World) (l : List Value) (t : TypeId) (fr : Nat × Nat) : Sl (w.alloc (.cells l.toArray t fr)) (some ⟨w.heap.size, 0, none⟩) l := by
  intro k v hk
  refine ⟨_, rfl, ?_⟩
  have h := heap_alloc_new w (.cells l.toArray t fr)
  have : (⟨w.heap.size, 0, none⟩ : Addr).add k = ⟨w.heap.size, k, none⟩ := by unfold Addr.add; split <;> simp_all
  rw [this, cell_of_row _ _ k l.toArray t fr h]
  simpa using hk
theorem Sl.own {w : World} {base e size n : Nat} {v : Value} {xs : List Value} {A : Option Addr} {m c : Nat} (h : w.ownsRow base e size v n xs) (hv : v = .slice A m c) : Sl w A xs := by
  subst hv
  intro k u hk
  rcases h.2 with ⟨e1, rfl⟩ | ⟨g, cap, cur, e1, _⟩
  · have : xs = [] := List.eq_nil_of_length_eq_zero (by simpa using h.1)
    subst this
    simp at hk
  · injection e1 with e1 e2 e3
    subst e1
    exact ⟨_, rfl, h.cells (g := g) rfl k u hk⟩
theorem own_form {w : World} {base e size n : Nat} {v : Value} {xs : List Value} (h : w.ownsRow base e size v n xs) : ∃ A cap, v = .slice A n cap := by
  rcases h.2 with ⟨rfl, rfl⟩ | ⟨g, cap, cur, rfl, _⟩
  · exact ⟨none, 0, rfl⟩
  · exact ⟨_, cap, rfl⟩
theorem BsS.new (w : World) (cs : Array Value) (vs : List Value) (ls : List (List UInt8)) (e : cs = vs.toArray) (t : TypeId) (fr : Nat × Nat) (h : ∀ (k : Nat) (l : List UInt8), ls[k]? = some l → ∃ (A : Option Addr) (cap : Nat), vs[k]? = some (Value.slice A l.length cap) ∧ Bs w A l) :
    BsS (w.alloc (.cells cs t fr)) (some ⟨w.heap.size, 0, none⟩) ls := by
  subst e
  intro k l hk
  obtain ⟨A, cap, hv, hb⟩ := h k l hk
  obtain ⟨ad, e, hc⟩ := Sl.new w vs t fr k _ hv
  exact ⟨ad, A, cap, e, hc, hb.ext ((Ext.refl _).alloc _)⟩
theorem BsS.new1 {w : World} {A : Option Addr} {cap : Nat} {l : List UInt8} (h : Bs w A l) (t : TypeId) (fr : Nat × Nat) :
    BsS (w.alloc (.cells #[.slice A l.length cap] t fr)) (some ⟨w.heap.size, 0, none⟩) [l] :=
  BsS.new w _ [_] _ rfl t fr fun k x hk => by
    match k, hk with
    | 0, hk => simp at hk; subst hk; exact ⟨A, cap, rfl, h⟩
theorem BsS.new2 {w : World} {A A' : Option Addr} {cap cap' : Nat} {l l' : List UInt8} (h : Bs w A l) (h' : Bs w A' l') (t : TypeId) (fr : Nat × Nat) :
    BsS (w.alloc (.cells #[.slice A l.length cap, .slice A' l'.length cap'] t fr)) (some ⟨w.heap.size, 0, none⟩) [l, l'] :=
  BsS.new w _ [_, _] _ rfl t fr fun k x hk => by
    match k, hk with
    | 0, hk => simp at hk; subst hk; exact ⟨A, cap, rfl, h⟩
    | 1, hk => simp at hk; subst hk; exact ⟨A', cap', rfl, h'⟩
/-! ## cuts of slices whose elements have one cell -/
theorem Sl.add {w : World} {A : Option Addr} {xs : List Value} (h : Sl w A xs) (k : Nat) : Sl w (A.map (·.add k)) (xs.drop k) := by
  intro j v hj
  rw [List.getElem?_drop] at hj
  obtain ⟨ad, rfl, hc⟩ := h _ v hj
  refine ⟨ad.add k, rfl, ?_⟩
  have : (ad.add k).add j = ad.add (k + j) := by
    unfold Addr.add
    by_cases hi : k = 0 <;> by_cases hj : j = 0 <;> simp [hi, hj, Nat.add_assoc]
  rw [this]
  exact hc
theorem Sl.take {w : World} {A : Option Addr} {xs : List Value} (h : Sl w A xs) (k : Nat) : Sl w A (xs.take k) := by
  intro j v hj
  rw [List.getElem?_take] at hj
  split at hj
  · exact h j v hj
  · cases hj
/-- [l:h] -/
theorem cut_lh {P : Program} {t e : Nat} (ht : P.underlying t = some (.slice e)) (hz : ∀ w, (Go.sizeOf e).run P w = .ok 1 w) (A : Option Addr) (n cap l h : Nat) (hlh : l ≤ h) (hn : n ≤ cap) (hh : h ≤ n) :
    ∃ A', (∀ W, (Instr.slice t (.slice A n cap) (some (.int .i64 (l : Int))) (some (.int .i64 (h : Int))) none).run P W = .ok (.slice A' (h - l) (cap - l)) W) ∧
      (∀ w xs, xs.length = n → Sl w A xs → Sl w A' ((xs.drop l).take (h - l))) := by
  refine ⟨if cap = l then A else A.map (·.add l), fun W => ?_, fun w xs hx hs => ?_⟩
  · have ht' : P.underlying t = some (.slice (P.elem t)) := by simp [Program.elem, ht]
    have he : P.elem t = e := by simp [Program.elem, ht]
    rw [run_slice_lh W t _ _ _ ht' .i64 .i64 _ _ (by omega) (by omega) (by omega), he, hz]
    simp [Result.andThen, sliced]
  · by_cases hc : cap = l
    · have : xs.drop l = [] := List.drop_of_length_le (by omega)
      rw [this]; simpa using Sl.nil _ _
    · rw [if_neg hc]
      exact (hs.add l).take _
theorem cut_l {P : Program} {t e : Nat} (ht : P.underlying t = some (.slice e)) (hz : ∀ w, (Go.sizeOf e).run P w = .ok 1 w) (A : Option Addr) (n cap l : Nat) (hn : n ≤ cap) (hl : l ≤ n) :
    ∃ A', (∀ W, (Instr.slice t (.slice A n cap) (some (.int .i64 (l : Int))) none none).run P W = .ok (.slice A' (n - l) (cap - l)) W) ∧
      (∀ w xs, xs.length = n → Sl w A xs → Sl w A' (xs.drop l)) := by
  refine ⟨if cap = l then A else A.map (·.add l), fun W => ?_, fun w xs hx hs => ?_⟩
  · have ht' : P.underlying t = some (.slice (P.elem t)) := by simp [Program.elem, ht]
    have he : P.elem t = e := by simp [Program.elem, ht]
    rw [run_slice_l W t _ _ _ ht' .i64 _ (by omega) (by omega), he, hz]
    simp [Result.andThen, sliced]
  · by_cases hc : cap = l
    · have : xs.drop l = [] := List.drop_of_length_le (by omega)
      rw [this]; exact Sl.nil _ _
    · rw [if_neg hc]
      exact hs.add l
theorem cut_h {P : Program} {t e : Nat} (ht : P.underlying t = some (.slice e)) (hz : ∀ w, (Go.sizeOf e).run P w = .ok 1 w) (A : Option Addr) (n cap h : Nat) (hn : n ≤ cap) (hh : h ≤ n) :
    ∃ A', (∀ W, (Instr.slice t (.slice A n cap) none (some (.int .i64 (h : Int))) none).run P W = .ok (.slice A' h cap) W) ∧
      (∀ w xs, xs.length = n → Sl w A xs → Sl w A' (xs.take h)) := by
  refine ⟨if cap = 0 then A else A.map (·.add 0), fun W => ?_, fun w xs hx hs => ?_⟩
  · have ht' : P.underlying t = some (.slice (P.elem t)) := by simp [Program.elem, ht]
    have he : P.elem t = e := by simp [Program.elem, ht]
    rw [run_slice_h W t _ _ _ ht' .i64 _ (by omega) (by omega), he, hz]
    simp [Result.andThen, sliced]
  · by_cases hc : cap = 0
    · rw [if_pos hc]; exact hs.take h
    · rw [if_neg hc]
      have := (hs.add 0).take h
      simpa using this
theorem bv_take (l : List UInt8) (k : Nat) : bv (l.take k) = (bv l).take k := by simp [bv, List.map_take]
theorem bv_drop (l : List UInt8) (k : Nat) : bv (l.drop k) = (bv l).drop k := by simp [bv, List.map_drop]
section
variable {P : Program} {t e : Nat} (ht : P.underlying t = some (.slice e)) (hz : ∀ w, (Go.sizeOf e).run P w = .ok 1 w)
include ht hz
theorem cutB_lh (A : Option Addr) (n cap : Nat) (b : List UInt8) (l h : Nat) {li hi : Int} (el : li = l) (eh : hi = h) (en : b.length = n) (hlh : l ≤ h) (hn : n ≤ cap) (hh : h ≤ n) :
    ∃ A', (∀ W, (Instr.slice t (.slice A n cap) (some (.int .i64 li)) (some (.int .i64 hi)) none).run P W = .ok (.slice A' (h - l) (cap - l)) W) ∧
      (∀ w, Bs w A b → Bs w A' ((b.drop l).take (h - l))) := by
  subst el eh
  obtain ⟨A', h1, h2⟩ := cut_lh ht hz A n cap l h hlh hn hh
  exact ⟨A', h1, fun w hb => by have := h2 w (bv b) (by simpa using en) hb; rwa [← bv_drop, ← bv_take] at this⟩
theorem cutB_l (A : Option Addr) (n cap : Nat) (b : List UInt8) (l : Nat) {li : Int} (el : li = l) (en : b.length = n) (hn : n ≤ cap) (hh : l ≤ n) :
    ∃ A', (∀ W, (Instr.slice t (.slice A n cap) (some (.int .i64 li)) none none).run P W = .ok (.slice A' (n - l) (cap - l)) W) ∧
      (∀ w, Bs w A b → Bs w A' (b.drop l)) := by
  subst el
  obtain ⟨A', h1, h2⟩ := cut_l ht hz A n cap l hn hh
  exact ⟨A', h1, fun w hb => by have := h2 w (bv b) (by simpa using en) hb; rwa [← bv_drop] at this⟩
theorem cutB_h (A : Option Addr) (n cap : Nat) (b : List UInt8) (h : Nat) {hi : Int} (eh : hi = h) (en : b.length = n) (hn : n ≤ cap) (hh : h ≤ n) :
    ∃ A', (∀ W, (Instr.slice t (.slice A n cap) none (some (.int .i64 hi)) none).run P W = .ok (.slice A' h cap) W) ∧
      (∀ w, Bs w A b → Bs w A' (b.take h)) := by
  subst eh
  obtain ⟨A', h1, h2⟩ := cut_h ht hz A n cap h hn hh
  exact ⟨A', h1, fun w hb => by have := h2 w (bv b) (by simpa using en) hb; rwa [← bv_take] at this⟩
end
/-! ## string(b) -/
def st (l : List UInt8) : ByteArray := ⟨l.toArray⟩
theorem run_str {P : Program} {src dst e : Nat} (hs : P.underlying src = some (.slice e)) (he : P.underlying e = some (.int .u8)) (hd : P.underlying dst = some .string)
    {w : World} {A : Option Addr} {l : List UInt8} (h : Bs w A l) (n c : Nat) (hn : n = l.length) : ∀ W, Ext w W → (convert src dst (.slice A n c)).run P W = .ok (.string (st l)) W := by
  intro W hx
  subst hn
  have h := h.ext hx
  cases A with
  | none =>
    have h0 : l = [] := by
      cases l with
      | nil => rfl
      | cons c l => obtain ⟨ad, e, _⟩ := h 0 _ (bv_get (l := c :: l) (k := 0) (by simp)); cases e
    subst h0
    exact run_convert_bytes_nil W src e hs he _ _ dst hd
  | some ad =>
    exact run_convert_bytes_back W src dst e ad c l hs he hd fun j hj => by
      obtain ⟨ad', e', hc⟩ := Sl.now h (bv_get hj)
      cases e'
      exact hc
@[go_sem] theorem st_toList (l : List UInt8) : (st l).toList = l := by rw [ByteArray.toList_eq]; simp [st]
theorem st_inj {a b : List UInt8} : st a = st b ↔ a = b := by
  constructor
  · intro h; unfold st at h; injection h with h; simpa using h
  · intro h; rw [h]
theorem own_of {w : World} {base n : Nat} {v : Value} {xs : List Value} {l : List UInt8} (h : w.ownsRow base 5 1 v n xs) (e : xs = bv l) : Own w base v l := by
  subst e
  have hn : n = l.length := by simpa using h.1.symm
  subst hn
  exact h
theorem wpList_appB {P : Program} {w : World} {ops : Array Oper} {rest : List Oper} {o : Oper} {a : Act} {Q : Exit → Act → World → Prop} {t : Nat} (T : ElemOf P t 5 1 1) {s x : Operand}
    {base m c : Nat} {v : Value} {l l' : List UInt8} {A : Option Addr} (hown : Own w base v l) (hr : Bs w A l')
    (hgd : o.guard = none) (ho : o.op = .call { callee := .builtin .append, args := #[s, x], argTypes := #[t, t] })
    (hs : a.eval s = v) (hx : a.eval x = .slice A m c)
    (hm : m = l'.length) (hb : l.length + l'.length ≤ 140737488355328) (hbase : base ≤ w.heap.size)
    (h : ∀ v' w', Own w' base v' (l ++ l') → w.grownBy w' v.ownBlock → (v'.ownBlock = v.ownBlock ∨ v'.ownBlock = some w.heap.size) → wpList P ops Q rest (a.put o.dst v') w') : wpList P ops Q (o :: rest) a w := by
  subst hm
  refine wpList_app T hown hr hgd ho hs hx (by simp) (bv_one _) (by omega) hb hbase fun v' w' h1 h2 h3 => h v' w' (own_of h1 (bv_append _ _).symm) h2 h3
theorem Bs.new (w : World) (l : List UInt8) (cs : Array Value) (h : cs = (bv l).toArray) (t : TypeId) (fr : Nat × Nat) : Bs (w.alloc (.cells cs t fr)) (some ⟨w.heap.size, 0, none⟩) l := by
  subst h
  exact Sl.new w (bv l) t fr
theorem owns_new (w : World) (base e : Nat) (cs : Array Value) (xs : List Value) (n : Nat) (hcs : cs = xs.toArray) (hn : n = xs.length) (hb : base ≤ w.heap.size) (hm : n ≤ maxLen) :
    (w.alloc (.cells cs e)).ownsRow base e 1 (.slice (some ⟨w.heap.size, 0, none⟩) n n) n xs := by
  subst hcs hn
  exact ⟨by simp, .inr ⟨w.heap.size, xs.length, xs.toArray, rfl, hb, heap_alloc_new w _, Nat.le_refl _, hm, by simp, by simp⟩⟩
theorem Own.new (w : World) (base : Nat) (cs : Array Value) (l : List UInt8) (n : Nat) (hcs : cs = (bv l).toArray) (hn : n = l.length) (hb : base ≤ w.heap.size) (hm : n ≤ maxLen) :
    Own (w.alloc (.cells cs 5)) base (.slice (some ⟨w.heap.size, 0, none⟩) n n) l :=
  own_of (owns_new w base 5 cs (bv l) n hcs (by simpa using hn) hb hm) rfl
theorem Own.empty (w : World) (base : Nat) (hb : base ≤ w.heap.size) : Own (w.alloc (.cells #[] 5)) base (.slice (some ⟨w.heap.size, 0, none⟩) 0 0) [] :=
  Own.new w base #[] [] 0 rfl rfl hb (by simp [maxLen])
theorem Own.alloc {w : World} {base : Nat} {v : Value} {l : List UInt8} (h : Own w base v l) (o : Obj) : Own (w.alloc o) base v l := World.ownsRow.alloc h o
theorem Own.drew {w : World} {base : Nat} {v : Value} {l : List UInt8} (h : Own w base v l) : Own w.drew base v l := h
theorem Own.kept {w w' : World} {base : Nat} {v : Value} {l : List UInt8} {row : Option Nat} (h : Own w base v l) (hg : w.grownBy w' row) (hne : v.ownBlock = none ∨ v.ownBlock ≠ row) : Own w' base v l := World.ownsRow.kept h hg hne
theorem Own.bs {w : World} {base : Nat} {A : Option Addr} {n c : Nat} {l : List UInt8} (h : Own w base (.slice A n c) l) : Bs w A l := Sl.own h rfl
theorem Own.len {w : World} {base : Nat} {A : Option Addr} {n c : Nat} {l : List UInt8} (h : Own w base (.slice A n c) l) : n = l.length := by
  obtain ⟨A', c', e⟩ := own_form h
  injection e
theorem Own.nil (w : World) (base : Nat) : Own w base (.slice none 0 0) [] := World.ownsRow_nil _ _ _ _
theorem Ext.grows {w w' : World} (h : Ext w w') (row : Option Nat) : w.grownBy w' row := ⟨h.os, h.tape, h.output, h.size, fun i hi _ => h.block i hi⟩
theorem owns_ext {w w' : World} {base e size n : Nat} {v : Value} {xs : List Value} (h : w.ownsRow base e size v n xs) (hx : Ext w w') : w'.ownsRow base e size v n xs :=
  h.kept (hx.grows none) (by cases v.ownBlock <;> simp)
theorem Own.ext {w w' : World} {base : Nat} {v : Value} {l : List UInt8} (h : Own w base v l) (hx : Ext w w') : Own w' base v l := owns_ext h hx
theorem owns_low {w : World} {base b2 e size n : Nat} {v : Value} {xs : List Value} (h : w.ownsRow base e size v n xs) (hb : b2 ≤ base) : w.ownsRow b2 e size v n xs := by
  refine ⟨h.1, ?_⟩
  rcases h.2 with h0 | ⟨g, cap, cur, h1, h2, h3⟩
  · exact .inl h0
  · exact .inr ⟨g, cap, cur, h1, Nat.le_trans hb h2, h3⟩
theorem Own.low {w : World} {base b2 : Nat} {v : Value} {l : List UInt8} (h : Own w base v l) (hb : b2 ≤ base) : Own w b2 v l := owns_low h hb
theorem Own.lt {w : World} {base : Nat} {v : Value} {l : List UInt8} (h : Own w base v l) : ∀ k, v.ownBlock = some k → base ≤ k ∧ k < w.heap.size := World.ownsRow.lt h
/-- behind a law that may have written a row of the call's own -/
theorem Ext.own {w w1 w2 : World} {base e size n : Nat} {v : Value} {xs : List Value} (h : Ext w w1) (ho : w1.ownsRow base e size v n xs) (hb : w.heap.size ≤ base) (hg : w1.grownBy w2 v.ownBlock) : Ext w w2 :=
  h.grown hg (fun k hk => Nat.le_trans hb (ho.lt k hk).1)
theorem Own.form {w : World} {base : Nat} {v : Value} {l : List UInt8} (h : Own w base v l) : ∃ A cap, v = .slice A l.length cap := own_form h
theorem grown_step {w w1 w2 : World} {row row' : Option Nat} (h : w.grownBy w1 row) (k : w1.grownBy w2 row') (hr : row' = row ∨ ∃ g, row' = some g ∧ w.heap.size ≤ g) : w.grownBy w2 row :=
  ⟨k.os.trans h.os, k.tape.trans h.tape, k.output.trans h.output, Nat.le_trans h.size k.size, fun i hi hne => (k.block i (Nat.lt_of_lt_of_le hi h.size) (by
    rcases hr with rfl | ⟨g, rfl, hg⟩
    · exact hne
    · intro e; injection e with e; omega)).trans (h.block i hi hne)⟩
theorem grown_alloc {w w1 : World} {row : Option Nat} (h : w.grownBy w1 row) (o : Obj) : w.grownBy (w1.alloc o) row := grown_step h (World.grownBy_alloc w1 o row) (.inl rfl)
theorem Own.cap {w : World} {base n c : Nat} {A : Option Addr} {l : List UInt8} (h : Own w base (.slice A n c) l) : l.length ≤ c ∧ c ≤ 9223372036854775807 := by
  rcases h.2 with ⟨e, hn⟩ | ⟨g, cap, cur, e, _, _, hc, hm, _⟩
  · injection e with e1 e2 e3
    subst e3
    omega
  · injection e with e1 e2 e3
    subst e3
    exact ⟨hc, hm⟩
theorem Own.some_ {w : World} {base n c : Nat} {A : Option Addr} {l : List UInt8} (h : Own w base (.slice A n c) l) (hl : 0 < l.length) : ∃ g, A = some ⟨g, 0, none⟩ ∧ base ≤ g ∧ g < w.heap.size := by
  rcases h.2 with ⟨e, hn⟩ | ⟨g, cap, cur, e, hb, hg, _⟩
  · omega
  · injection e with e1 e2 e3
    exact ⟨g, e1, hb, (Array.getElem?_eq_some_iff.1 hg).1⟩
theorem Own.cell {w : World} {base g n c : Nat} {l : List UInt8} (h : Own w base (.slice (some ⟨g, 0, none⟩) n c) l) {k : Nat} (hk : k < l.length) : w.cell? ⟨g, k, none⟩ = some (.int .u8 (l[k].toNat : Int)) := by
  have hn := h.len
  subst hn
  rw [World.ownsRow.cellAt h k (by omega), bv_get hk]
theorem Own.free {w : World} {base g n c : Nat} {l : List UInt8} (h : Own w base (.slice (some ⟨g, 0, none⟩) n c) l) (k : Nat) : w.frozen? ⟨g, k, none⟩ = false := by
  have hn := h.len
  subst hn
  exact World.ownsRow.frozenAt h k
theorem Own.set {w : World} {base g n c : Nat} {l : List UInt8} (h : Own w base (.slice (some ⟨g, 0, none⟩) n c) l) (k : Nat) (x : UInt8) : Own (w.setCell ⟨g, k, none⟩ (.int .u8 (x.toNat : Int))) base (.slice (some ⟨g, 0, none⟩) n c) (l.set k x) := by
  have hn := h.len
  subst hn
  have := (World.ownsRow.stored h k (.int .u8 (x.toNat : Int))).1
  exact own_of this (by simp [bv, List.map_set])
/-! ## a slice of slices of bytes, all of the call's own -/
def OwnS (w : World) (base : Nat) (v : Value) (ls : List (List UInt8)) : Prop :=
  ∃ vs : List Value, w.ownsRow base 22 1 v ls.length vs ∧ ∀ (k : Nat) (l : List UInt8), ls[k]? = some l → ∃ u, vs[k]? = some u ∧ Own w base u l
theorem owns_type {w : World} {base e size n : Nat} {v : Value} {xs : List Value} (h : w.ownsRow base e size v n xs) : v.ownBlock = none ∨ ∃ g cur, v.ownBlock = some g ∧ w.heap[g]? = some (.cells cur e (0, 0)) := by
  rcases h.2 with ⟨rfl, _⟩ | ⟨g, cap, cur, rfl, _, hg, _⟩
  · exact .inl rfl
  · exact .inr ⟨g, cur, rfl, hg⟩
/-- rows of two types are two rows -/
theorem owns_apart {w : World} {base base' e e' size size' n n' : Nat} {v v' : Value} {xs xs' : List Value} (h : w.ownsRow base e size v n xs) (h' : w.ownsRow base' e' size' v' n' xs') (hne : e ≠ e') : v.ownBlock = none ∨ v.ownBlock ≠ v'.ownBlock := by
  rcases owns_type h with h0 | ⟨g, cur, h1, h2⟩
  · exact .inl h0
  · rcases owns_type h' with h0' | ⟨g', cur', h1', h2'⟩
    · exact .inr (by rw [h1, h0']; simp)
    · refine .inr ?_
      rw [h1, h1']
      intro e0
      injection e0 with e0
      subst e0
      rw [h2] at h2'
      injection h2' with h2'
      injection h2' with _ h3
      exact hne h3
theorem OwnS.nil (w : World) (base : Nat) : OwnS w base (.slice none 0 0) [] := ⟨[], World.ownsRow_nil _ _ _ _, fun k l h => by simp at h⟩
theorem OwnS.empty (w : World) (base : Nat) (hb : base ≤ w.heap.size) : OwnS (w.alloc (.cells #[] 22)) base (.slice (some ⟨w.heap.size, 0, none⟩) 0 0) [] :=
  ⟨[], owns_new w base 22 #[] [] 0 rfl rfl hb (by simp [maxLen]), fun k l h => by simp at h⟩
theorem OwnS.ext {w w' : World} {base : Nat} {v : Value} {ls : List (List UInt8)} (h : OwnS w base v ls) (hx : Ext w w') : OwnS w' base v ls := by
  obtain ⟨vs, h1, h2⟩ := h
  refine ⟨vs, owns_ext h1 hx, fun k l hk => ?_⟩
  obtain ⟨u, h3, h4⟩ := h2 k l hk
  exact ⟨u, h3, h4.ext hx⟩
theorem OwnS.low {w : World} {base b2 : Nat} {v : Value} {ls : List (List UInt8)} (h : OwnS w base v ls) (hb : b2 ≤ base) : OwnS w b2 v ls := by
  obtain ⟨vs, h1, h2⟩ := h
  refine ⟨vs, owns_low h1 hb, fun k l hk => ?_⟩
  obtain ⟨u, h3, h4⟩ := h2 k l hk
  exact ⟨u, h3, h4.low hb⟩
theorem OwnS.form {w : World} {base : Nat} {v : Value} {ls : List (List UInt8)} (h : OwnS w base v ls) : ∃ A cap, v = .slice A ls.length cap := by
  obtain ⟨vs, h1, _⟩ := h
  exact own_form h1
theorem OwnS.bss {w : World} {base : Nat} {A : Option Addr} {n c : Nat} {ls : List (List UInt8)} (h : OwnS w base (.slice A n c) ls) : BsS w A ls := by
  obtain ⟨vs, h1, h2⟩ := h
  intro k l hk
  obtain ⟨u, h3, h4⟩ := h2 k l hk
  obtain ⟨ad, e, hc⟩ := Sl.own h1 rfl k u h3
  obtain ⟨A', c', rfl⟩ := h4.form
  exact ⟨ad, A', c', e, hc, h4.bs⟩
theorem OwnS.cap {w : World} {base n c : Nat} {A : Option Addr} {ls : List (List UInt8)} (h : OwnS w base (.slice A n c) ls) : ls.length ≤ c ∧ c ≤ 9223372036854775807 := by
  obtain ⟨vs, h, _⟩ := h
  rcases h.2 with ⟨e, hn⟩ | ⟨g, cap, cur, e, _, _, hc, hm, _⟩
  · injection e with e1 e2 e3
    subst e3
    omega
  · injection e with e1 e2 e3
    subst e3
    exact ⟨hc, hm⟩
/-- append of one more -/
theorem OwnS.push {w w' : World} {base : Nat} {v v' u : Value} {ls : List (List UInt8)} {l : List UInt8} {vs : List Value}
    (h1 : w.ownsRow base 22 1 v ls.length vs) (h2 : ∀ (k : Nat) (l : List UInt8), ls[k]? = some l → ∃ u, vs[k]? = some u ∧ Own w base u l) (hu : Own w base u l)
    (h' : w'.ownsRow base 22 1 v' (ls.length + 1) (vs ++ [u])) (hg : w.grownBy w' v.ownBlock) : OwnS w' base v' (ls ++ [l]) := by
  have hne : (5 : Nat) ≠ 22 := by decide
  have hl : vs.length = ls.length := by have := h1.1; omega
  refine ⟨vs ++ [u], by simpa using h', fun k x hk => ?_⟩
  rw [List.getElem?_append] at hk
  split at hk
  · rename_i hlt
    obtain ⟨u', h3, h4⟩ := h2 k x hk
    refine ⟨u', ?_, h4.kept hg (owns_apart h4 h1 hne)⟩
    rw [List.getElem?_append_left (by omega)]
    exact h3
  · rename_i hge
    have hk0 : k - ls.length = 0 := by
      rcases Nat.eq_zero_or_pos (k - ls.length) with h | h
      · exact h
      · rw [List.getElem?_eq_none (by simp; omega)] at hk; cases hk
    rw [hk0] at hk
    simp at hk
    subst hk
    refine ⟨u, ?_, hu.kept hg (owns_apart hu h1 hne)⟩
    rw [List.getElem?_append_right (by omega), show k - vs.length = 0 by omega]
    rfl
end Go.Proofs.Ytchokelpimibdaa
