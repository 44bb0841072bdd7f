/- Whole values of structs out of and into memory, as the walk's list meets them; how a call with four results, or with one that lies in memory and two more, comes back. Each holds for every program and world; the conditions are the hypotheses of each theorem. What the walks of small texts share: the row of []uint8. The walks of deed.num, short, long, within. Conditions: the bounds named. The walk of slices.Clone at bytes: what it answers, and that nothing that was there has turned. Conditions: the lengths named in each theorem. The walks of deed's reader: take, num, short, long, must. Conditions: the bounds named. The walk of deed's reader.deed. Condition: the bound named. Printed by gen/dd4.py. The walks of deed.read and its deferred closure. Conditions: the hypotheses of each theorem. A region that draws its order, whose last operations wait for all others: the others come in whatever order, under a condition S on the world that holds behind each of them; the last come one behind the other, and S is not asked of them. Each holds for every program; the conditions are the hypotheses of each theorem. A call, guarded or not, as one step of a region that draws its order. It holds for every program; the conditions are the hypotheses of the theorem. The moves of a region that draws its order, said shortly: lists that are read and written at a number, and one operation taken. Each holds for every program; the conditions are the hypotheses of each theorem. Rows of the call's own whose elements have rows of their own; the walk of deed.TakeAll's closure. Conditions: the hypotheses of each theorem. -/
import Derived.Test.YthlppbbejdeeoaaGreatDoorC1
import Derived.Deep.WholeRow
import Derived.Test.YthlppbbejdeeoaaGreatDoorChecked
import Derived.Test.YthlppbbejdeeoaaGreatDoorC0
import Derived.Lib.AppendStr
import Derived.Laws.BitsAllLaws
import Derived.Test.YthlppbbejdeeoaaGreatDoorC2
import Derived.Tactics2
import Derived.Defers
import Derived.Recover
import Derived.Laws.Pointers
import Derived.OrdersHeld
import Derived.StillTail
import Derived.Deep.RegionHeld3
namespace Go.Proofs.YthlppbbejdeeoaaGreatDoor
open Go.RowKit
section
variable {P : Program} {ops : Array Oper} {Q : Exit → Act → World → Prop} {rest : List Oper} {a : Act} {w : World} {d : Option Nat} {x y : Operand} {ty : Nat} {ps : String} {es : Array Edge} {gd : Option (Nat × Bool)}
theorem sL (T : Nat) (h : Stop (wpList P ops Q (Oper.mk d (.load T x) ty ps es gd :: rest) a w)) : wpList P ops Q (Oper.mk d (.load T x) ty ps es gd :: rest) a w := h
theorem sA (T : Nat) (h : Stop (wpList P ops Q (Oper.mk d (.alloc T) ty ps es gd :: rest) a w)) : wpList P ops Q (Oper.mk d (.alloc T) ty ps es gd :: rest) a w := h
theorem sS (T : Nat) (h : Stop (wpList P ops Q (Oper.mk d (.store T x y) ty ps es gd :: rest) a w)) : wpList P ops Q (Oper.mk d (.store T x y) ty ps es gd :: rest) a w := h
theorem sB (T : Nat) {q : Array (Nat × Operand)} (h : Stop (wpList P ops Q (Oper.mk d (.build T q) ty ps es gd :: rest) a w)) : wpList P ops Q (Oper.mk d (.build T q) ty ps es gd :: rest) a w := h
theorem wpList_alloc_ {o : Oper} {z : Array Value} {n : Nat} (hgd : o.guard = none) (ho : o.op = .alloc ty) (hi : (P.info? ty).map (fun i => (i.zero, i.size)) = some (some (.agg z), n))
 (h : wpList P ops Q rest (a.put o.dst (.pointer (some ⟨w.heap.size, 0, none⟩))) (w.alloc (.cells z ty))) : wpList P ops Q (o :: rest) a w := by
 refine wpList_plain hgd fun K hK => ?_
 have hz := (zero_of_info hi).1
 unfold Oper.wp execOp
 simp only [ho, Instr.alloc, Sem.run_bind, hz, Result.andThen_ok]
 simp [newVar, newRow, Value.cells]
 exact hK _ _ h
theorem wpList_store_new {o : Oper} {c c' : Array Value} (hgd : o.guard = none) (ho : o.op = .store ty x y) (hx : a.eval x = .pointer (some ⟨w.heap.size, 0, none⟩)) (hy : a.eval y = .agg c')
 (hi : (P.info? ty).map (·.size) = some c'.size) (hs : c.size = c'.size) (h1 : c'.all (·.oneCell') = true)
 (h : wpList P ops Q rest (a.put o.dst undef) (w.alloc (.cells c' ty))) : wpList P ops Q (o :: rest) a (w.alloc (.cells c ty)) := by
 refine wpList_plain hgd fun K hK => ?_
 unfold Oper.wp execOp
 simp only [ho, hx, hy, run_storeAt_new w ty c c' hi hs h1, Sem.run_bind, Sem.run_pure, Result.andThen_ok]
 exact hK _ _ h
/-- a whole value into the block that was made last: of the world behind it, what is asked for -/
theorem wpList_store_last {o : Oper} {c c' : Array Value} (hgd : o.guard = none) (ho : o.op = .store ty x y) (hx : a.eval x = .pointer (some ⟨w.heap.size, 0, none⟩)) (hy : a.eval y = .agg c')
 (hi : (P.info? ty).map (·.size) = some c'.size) (hs : c.size = c'.size) (h1 : c'.all (·.oneCell') = true)
 (h : ∀ W, W.heap[w.heap.size]? = some (.cells c' ty (0, 0)) → Ext w W → W.heap.size = w.heap.size + 1 → wpList P ops Q rest (a.put o.dst undef) W) : wpList P ops Q (o :: rest) a (w.alloc (.cells c ty)) :=
 wpList_store_new hgd ho hx hy hi hs h1 (h _ (heap_alloc_new w _) ((Ext.refl w).alloc _) (by simp))
/-- a whole value into a block -/
theorem wpList_store_whole {o : Oper} {c c' : Array Value} {g t : Nat} (hgd : o.guard = none) (ho : o.op = .store ty x y) (hx : a.eval x = .pointer (some ⟨g, 0, none⟩)) (hy : a.eval y = .agg c')
 (hg : w.heap[g]? = some (.cells c t (0, 0))) (hi : (P.info? ty).map (·.size) = some c'.size) (hs : c.size = c'.size) (h1 : c'.all (·.oneCell') = true)
 (h : ∀ W, W.heap[g]? = some (.cells c' t (0, 0)) → Kept [g] w W → W.heap.size = w.heap.size → wpList P ops Q rest (a.put o.dst undef) W) : wpList P ops Q (o :: rest) a w := by
 refine wpList_store_row hgd ty x y ho g c' hx hy t c hg hi hs h1 (h _ (setRow_heap w g _ _ t _ hg) ⟨rfl, rfl, rfl, by simp [World.setRow], fun k _ hk => setRow_other w g k _ (by simpa using hk)⟩ (by simp [World.setRow]))
end
section
variable {P : Program} {ops : Array Oper} {Q : Exit → Act → World → Prop} {rest : List Oper} {a : Act} {w : World} {o : Oper}
/-- an operation whose guard lets it by -/
theorem wpList_want (hw : Region.wanted o (yielded ops a.tmps) = true) (h : o.wp P a w (wpList P ops Q rest) Q) : wpList P ops Q (o :: rest) a w := by
 unfold wpList
 rw [if_pos hw]
 exact .inl h
theorem wpList_load_rowG (hw : Region.wanted o (yielded ops a.tmps) = true) (ty : TypeId) (x : Operand) (ho : o.op = .load ty x)
 (g : Nat) (hx : a.eval x = .pointer (some ⟨g, 0, none⟩)) (t : TypeId) (cs : Array Value) (fr : Nat × Nat) (d : TypeDesc) (hg : w.heap[g]? = some (.cells cs t fr))
 (hu : P.underlying ty = some d) (hd : (match d with | .struct _ | .array _ _ => true | _ => false) = true) (hi : (P.info? ty).map (·.size) = some cs.size)
 (h : wpList P ops Q rest (a.put o.dst (.agg cs)) w) : wpList P ops Q (o :: rest) a w :=
 wpList_want hw (wp_load_row ty x ho g hx t cs fr d hg hu hd hi h)
end
section
variable {P : Program} {ops : Array Oper} {Q : Exit → Act → World → Prop} {a : Act} {w : World} {o : Oper} {x y : Operand} {ty : Nat} {K : Act → World → Prop} {E : Prop}
/-- a whole value into a block, as one step of a region that draws -/
theorem step_store_whole {c c' : Array Value} {g t : Nat} (hw : Region.wanted o (yielded ops a.tmps) = true) (ho : o.op = .store ty x y) (hx : a.eval x = .pointer (some ⟨g, 0, none⟩)) (hy : a.eval y = .agg c')
 (hg : w.heap[g]? = some (.cells c t (0, 0))) (hi : (P.info? ty).map (·.size) = some c'.size) (hs : c.size = c'.size) (h1 : c'.all (·.oneCell') = true)
 (h : ∀ W, W.heap[g]? = some (.cells c' t (0, 0)) → Kept [g] w W → W.heap.size = w.heap.size → K (a.put o.dst undef) W) : if Region.wanted o (yielded ops a.tmps) = true then Oper.wp P o a w K Q else E := by
 rw [if_pos hw]
 exact wp_store_row ty x y ho g c' hx hy t c hg hi hs h1 (h _ (setRow_heap w g _ _ t _ hg) ⟨rfl, rfl, rfl, by simp [World.setRow], fun k _ hk => setRow_other w g k _ (by simpa using hk)⟩ (by simp [World.setRow]))
end
end Go.Proofs.YthlppbbejdeeoaaGreatDoor
namespace Go.Proofs.YthlppbbejdeeoaaGreatDoor
open Go.RowKit
theorem bytesTr : ElemOf Tryz.prog 22 5 1 1 := ElemOf.mk' (z := .int .u8 0) Tryz.underlying22 (by kernel_rfl) rfl (by omega)
end Go.Proofs.YthlppbbejdeeoaaGreatDoor
namespace Go.Proofs.YthlppbbejdeeoaaGreatDoor
open Go.RowKit
theorem within_any (b : Bool) (n l h : Int) (w : World) : Calls Tryz.prog 83 #[.bool b, .int .i64 n, .int .i64 l, .int .i64 h] w fun e w' => e = .returned (.bool (withinB b n l h)) ∧ w = w' := by
 cases b
 ·by_cases h0 : n = 0
  ·subst h0
   go_enter Tryz.func83, Tryz.ntmps83
   go_wp2
   go_ret
   exact ⟨by simp [withinB], rfl⟩
  ·have h1 : (n == 0) = false := by simpa using h0
   go_enter Tryz.func83, Tryz.ntmps83
   go_wp2
   go_ret
   exact ⟨by simp [withinB, h0], rfl⟩
 ·by_cases h1 : l ≤ n
  ·by_cases h2 : n ≤ h
   all_goals
    go_enter Tryz.func83, Tryz.ntmps83
    go_wp2
    go_ret
    exact ⟨by simp [withinB, h1, h2], rfl⟩
  ·go_enter Tryz.func83, Tryz.ntmps83
   go_wp2
   go_ret
   exact ⟨by simp [withinB]; omega, rfl⟩
theorem shr_byte (v m : Nat) : ((v : Int) / 2 ^ (8 * m)) = ((v / 256 ^ m : Nat) : Int) := by
 have : (2 : Int) ^ (8 * m) = ((256 ^ m : Nat) : Int) := by rw [Int.pow_mul]; simp
 rw [this]; simp
theorem wrap_byte (q : Nat) : IntKind.u8.wrap (q : Int) = ((UInt8.ofNat q).toNat : Int) := by
 rw [IntKind.wrap_u8]
 simp
theorem strCells_st (m : By) : Lib.strCells (st m) = bv m := by
 unfold Lib.strCells bv
 simp [st]
/-- append of a text -/
theorem wpList_appS {w : World} {ops : Array Oper} {rest : List Oper} {o : Oper} {a : Act} {Q : Exit → Act → World → Prop} {s x : Operand}
 {base : Nat} {v : Value} {l m : List UInt8} (hown : Own w base v l)
 (hgd : o.guard = none) (ho : o.op = .call { callee := .builtin .append, args := #[s, x], argTypes := #[22, 9] })
 (hs : a.eval s = v) (hx : a.eval x = .string (st m)) (hb : l.length + m.length ≤ 140737488355328) (hbase : base ≤ w.heap.size)
 (h : ∀ v' w', Own w' base v' (l ++ m) → w.grownBy w' v.ownBlock → wpList Tryz.prog ops Q rest (a.put o.dst v') w') : wpList Tryz.prog ops Q (o :: rest) a w := by
 obtain ⟨i, hi, hz, hsize, hby⟩ := info_parts (show (Tryz.prog.info? 5).map (fun i => (i.zero, i.size, i.bytes)) = some (some (.int .u8 0), 1, 1) by kernel_rfl)
 refine Lib.wpList_append_own_string _ hgd s x 22 9 ho base 5 i Tryz.underlying22 Tryz.underlying9 hi hz hsize hby v l.length (bv l) hs hown (st m) hx (by unfold maxLen; rw [st_size]; omega) (by rw [st_size]; omega) hbase ?_
 intro v' w' h1 h2 _
 refine h v' w' ?_ h2
 unfold Own
 rw [st_size, strCells_st] at h1
 rw [bv_append, List.length_append]
 exact h1
end Go.Proofs.YthlppbbejdeeoaaGreatDoor
namespace Go.Proofs.YthlppbbejdeeoaaGreatDoor
open Go.RowKit
theorem bytesTc : ElemOf Tryz.prog 22 5 1 1 := ElemOf.mk' (z := .int .u8 0) Tryz.underlying22 (by kernel_rfl) rfl (by omega)
set_option maxHeartbeats 400000 in
theorem clone_any (A : Option Addr) (cap n : Nat) (l : List UInt8) (w : World) (h : Bs w A l) (hn : l.length ≤ 140737488355328) (hl : n = l.length) :
 Calls Tryz.prog 43 #[.slice A n cap] w fun e w' => ∃ v, e = .returned v ∧ Own w' w.heap.size v l ∧ Ext w w' := by
 subst hl
 have hnil := fun w A n c => Lib.run_eql_slice_nil (P := Tryz.prog) w 22 5 A n c 0 0 Tryz.underlying22
 cases A with
 | none =>
  have h0 : l = [] := by
   cases l with
   | nil => rfl
   | cons c l => obtain ⟨ad, e, _⟩ := h 0 _ (bv_get (l := c :: l) (k := 0) (by simp)); cases e
  subst h0
  go_enter Tryz.func43, Tryz.ntmps43
  go_wp2
  go_ret
  exact ⟨_, rfl, Own.nil _ _, Ext.refl _⟩
 | some ad =>
  go_enter Tryz.func43, Tryz.ntmps43
  go_wp2_with (at_builtin; refine unstop ?_)
  refine go_on (wpList_appB bytesTc (l := []) (own_of (World.ownsRow_made w #[] 0 (Nat.le_refl _) (by simp [maxLen]) rfl) rfl) (h.ext ((Ext.refl _).alloc _)) rfl rfl rfl rfl rfl (by simp; omega) (by simp) ?_)
  intro v' w1 hown1 hg1 hor1
  go_wp2
  go_ret
  exact ⟨_, rfl, by simpa using hown1, ((Ext.refl _).alloc _).grown hg1 (by intro k hk; simp [Value.ownBlock] at hk; omega)⟩
end Go.Proofs.YthlppbbejdeeoaaGreatDoor
namespace Go.Proofs.YthlppbbejdeeoaaGreatDoor
open Go.RowKit
def pt (p : Nat) : Value := .pointer (some ⟨p, 0, none⟩)
theorem row1_cell {w : World} {p t : Nat} {v : Value} (h : w.heap[p]? = some (.cells #[v] t (0, 0))) : (∀ w', Ext w w' → w'.cell? ⟨p, 0, none⟩ = some v) ∧ (∀ w' j, Ext w w' → w'.frozen? ⟨p, j, none⟩ = false) :=
 ⟨fun _ hx => by rw [cell_of_row _ p 0 _ _ _ (hx.obj h)]; rfl, fun _ j hx => frozen_of_row _ p j _ _ (hx.obj h)⟩
/-- a slice by its end and its capacity: s[:h:h] -/
theorem cutB_hm {P : Program} {t e : Nat} (ht : P.underlying t = some (.slice e)) (hz : ∀ w, (Go.sizeOf e).run P w = .ok 1 w) (A : Option Addr) (n cap : Nat) (b : List UInt8) (h : Nat) {hi mi : Int} (eh : hi = h) (em : mi = h) (en : b.length = n) (hn : n ≤ cap) (hh : h ≤ n) :
 ∃ A', (∀ W, (Instr.slice t (.slice A n cap) none (some (.int .i64 hi)) (some (.int .i64 mi))).run P W = .ok (.slice A' h h) W) ∧ (∀ w, Bs w A b → Bs w A' (b.take h)) := by
 subst eh em
 refine ⟨if h = 0 then A else A.map (·.add 0), fun W => ?_, fun w hb => ?_⟩
 ·have ht' : P.underlying t = some (.slice (P.elem t)) := by simp [Program.elem, ht]
  have he : P.elem t = e := by simp [Program.elem, ht]
  rw [run_slice_hm W t _ _ _ ht' .i64 .i64 _ _ (by omega) (by omega) (by omega), he, hz]
  simp [Result.andThen, sliced]
 ·subst en
  unfold Bs
  rw [bv_take]
  by_cases hc : h = 0
  ·rw [if_pos hc]; exact Sl.take hb h
  ·rw [if_neg hc]
   have := (Sl.add hb 0).take h
   simpa using this
/-- a reader, and what it still has to read -/
def RAt (w0 w : World) (R : Nat) (l : By) : Prop := w0.heap.size ≤ R ∧ Ext w0 w ∧ ∃ A cap, w.heap[R]? = some (.cells #[.slice A l.length cap] 129 (0, 0)) ∧ l.length ≤ cap ∧ Bs w0 A l
def fv (k : Nat) : Value := .iface 126 (.agg #[.int .i64 (k : Int)])
def Pan (k : Nat) (e : Ending) : Prop := e = .panicked [{ v := fv k, recovered := false }]
/-- what a reader tells -/
def Reads {α : Type} (p : Prs α) (l : By) (w0 w : World) (R : Nat) (V : α → World → Value → Prop) (e : Ending) (w' : World) : Prop :=
 match p l with
 | .inl k => Pan k e ∧ Kept [R] w w' ∧ Ext w0 w'
 | .inr (a, r) => (∃ v, e = .returned v ∧ V a w' v) ∧ RAt w0 w' R r ∧ Kept [R] w w'
theorem RAt.set {w0 w : World} {R : Nat} {l l' : By} {A : Option Addr} {n c : Nat} (h : RAt w0 w R l) (hb : Bs w0 A l') (hn : n = l'.length) (hc : l'.length ≤ c) :
 RAt w0 (w.setCell ⟨R, 0, none⟩ (.slice A n c)) R l' ∧ Kept [R] w (w.setCell ⟨R, 0, none⟩ (.slice A n c)) := by
 subst hn
 obtain ⟨h1, h2, A0, c0, h3, h4, h5⟩ := h
 have hk : Kept [R] w (w.setCell ⟨R, 0, none⟩ (.slice A l'.length c)) := (Kept.refl _ _).setCell (.inl (by simp)) _
 exact ⟨⟨h1, h2.setCell h1 _, A, c, by simpa using heap_setCell_same w R 0 _ _ (.slice A l'.length c) h3, hc, hb⟩, hk⟩
theorem RAt.ext {w0 w w' : World} {R : Nat} {l : By} (h : RAt w0 w R l) (hx : Ext w w') : RAt w0 w' R l := by
 obtain ⟨h1, h2, A0, c0, h3, h4, h5⟩ := h
 exact ⟨h1, h2.trans hx, A0, c0, hx.obj h3, h4, h5⟩
theorem RAt.kept {M : List Nat} {w0 w w' : World} {R : Nat} {l : By} (h : RAt w0 w R l) (hk : Kept M w w') (hR : R ∉ M) (hM : ∀ k ∈ M, w0.heap.size ≤ k) : RAt w0 w' R l := by
 obtain ⟨h1, h2, A0, c0, h3, h4, h5⟩ := h
 exact ⟨h1, h2.kept hk hM, A0, c0, hk.heap h3 hR, h4, h5⟩
theorem RAt.lt {w0 w : World} {R : Nat} {l : By} (h : RAt w0 w R l) : R < w.heap.size := obj_lt h.2.2.choose_spec.choose_spec.1
theorem RAt.e {w0 w : World} {R : Nat} {l : By} (h : RAt w0 w R l) : Ext w0 w := h.2.1
theorem RAt.one {w0 w : World} {R : Nat} {l : By} (h : RAt w0 w R l) : ∀ k ∈ [R], w0.heap.size ≤ k := one_ge h.1
def SlV (w0 : World) (a : By) (v : Value) : Prop := ∃ A c, v = .slice A a.length c ∧ Bs w0 A a
theorem rtake_any (w0 w : World) (R n : Nat) (l : By) (h : RAt w0 w R l) :
 Calls Tryz.prog 86 #[pt R, .int .i64 n] w (Reads (takeP n) l w0 w R fun a _ v => SlV w0 a v) := by
 have h' := Lib.hid h
 have hz := h.2.2
 obtain ⟨A, cap, hrow, hlc, hb⟩ := hz
 obtain ⟨C0, F0⟩ := row1_cell hrow
 have C0 := C0 _ (Ext.refl w)
 have F0 := F0 _ 0 (Ext.refl w)
 have HX := Lib.hid h.e
 clear h hrow
 unfold pt
 by_cases hn : l.length < n
 ·have HP : Hid (takeP n l = .inl 3) := Lib.hid (by unfold takeP; rw [if_pos hn])
  have hn1 : (l.length : Int) < (n : Int) := by omega
  clear hn
  go_enter Tryz.func86, Tryz.ntmps86
  go_wp2
  unfold Reads
  rw [HP.out]
  exact ⟨rfl, rfl, Kept.refl _ _, HX.out⟩
 ·have HP : Hid (takeP n l = .inr (l.take n, l.drop n)) := Lib.hid (by unfold takeP; rw [if_neg hn])
  have hn1 : ¬ (l.length : Int) < (n : Int) := by omega
  obtain ⟨A1, hs1, hb1⟩ := cutB_hm (P := Tryz.prog) Tryz.underlying22 Tryz.sizeOf5 A l.length cap l n (hi := n) (mi := n) rfl rfl rfl hlc (by omega)
  obtain ⟨A2, hs2, hb2⟩ := cutB_l (P := Tryz.prog) Tryz.underlying22 Tryz.sizeOf5 A l.length cap l n (li := n) rfl rfl hlc (by omega)
  have HN := Lib.hid hn
  have HB := Lib.hid hb
  clear hn hb
  go_enter Tryz.func86, Tryz.ntmps86
  go_wp2
  go_ret
  unfold Reads
  rw [HP.out]
  have hN := HN.out
  have e1 : (l.take n).length = n := by rw [List.length_take]; omega
  obtain ⟨k1, k2⟩ := h'.out.set (A := A2) (n := l.length - n) (c := cap - n) (hb2 _ HB.out) (by simp) (by simp; omega)
  exact ⟨⟨_, rfl, ⟨A1, n, by rw [e1]; rfl, hb1 _ HB.out⟩⟩, k1, k2⟩
def MustSays (ok : Bool) (e : Ending) : Prop := match ok with
 | true => e = .returned (.tuple #[])
 | false => Pan 4 e
theorem must_any (ok : Bool) (w : World) : Calls Tryz.prog 72 #[.bool ok] w fun e w' => MustSays ok e ∧ w = w' := by
 cases ok
 ·go_enter Tryz.func72, Tryz.ntmps72
  go_wp2
  exact ⟨rfl, rfl, rfl⟩
 ·go_enter Tryz.func72, Tryz.ntmps72
  go_wp2
  go_end0
  exact ⟨rfl, rfl⟩
theorem wrap64_nat (n : Nat) (h : n < 9223372036854775808) : IntKind.i64.wrap (n : Int) = (n : Int) := by
 have e : (n : Int) % 2 ^ 64 = n := Int.emod_eq_of_lt (by omega) (by omega)
 simp only [IntKind.wrap, IntKind.bits, IntKind.signed, e]
 rw [if_neg]
 simp
 omega
theorem or_byte (v : Nat) (c : UInt8) (hv : v < 16777216) : bits .or .i64 ((v : Int) * 256) (c.toNat : Int) = ((v * 256 + c.toNat : Nat) : Int) := by
 have h2 := c.toNat_lt
 have h : ((v : Int) * 256) = ((v * 256 : Nat) : Int) := rfl
 rw [h]
 show IntKind.i64.wrap ((BitVec.ofInt 64 ((v * 256 : Nat) : Int) ||| BitVec.ofInt 64 ((c.toNat : Nat) : Int)).toNat : Int) = _
 rw [BitVec.toNat_or, ofInt_u64 _ (by omega), ofInt_u64 _ (by omega), nat_join 8 _ _ (by omega) (by omega)]
 exact wrap64_nat _ (by omega)
theorem valB_take (l : By) (k : Nat) (hk : k < l.length) : valB (l.take (k + 1)) = valB (l.take k) * 256 + l[k].toNat := by
 unfold valB valF
 rw [List.take_succ_eq_append_getElem hk, List.foldl_append]; rfl
set_option maxHeartbeats 1000000 in
theorem rnum_any (w0 w : World) (R n : Nat) (l : By) (h : RAt w0 w R l) (hn : n ≤ 4) :
 Calls Tryz.prog 71 #[pt R, .int .i64 n] w (Reads (numP n) l w0 w R fun a _ v => v = .int .i64 (a : Nat)) := by
 have HT := rtake_any w0 w R n l h
 have HX := Lib.hid h.e
 by_cases hln : l.length < n
 ·have HP : Hid (numP n l = .inl 3) := Lib.hid (by unfold numP; rw [if_pos hln])
  have HP2 : takeP n l = .inl 3 := by unfold takeP; rw [if_pos hln]
  unfold Reads at HT
  rw [HP2] at HT
  clear hln HP2 h
  unfold pt at *
  go_enter Tryz.func71, Tryz.ntmps71
  go_wp2_with fail
  refine HT.mono ?_
  rintro e w1 ⟨he, hk, hx⟩
  unfold Pan fv at he
  subst he
  go_wp2
  unfold Reads
  rw [HP.out]
  exact ⟨rfl, rfl, hk, hx⟩
 ·have HP : Hid (numP n l = .inr (valB (l.take n), l.drop n)) := Lib.hid (by unfold numP; rw [if_neg hln])
  have HP2 : takeP n l = .inr (l.take n, l.drop n) := by unfold takeP; rw [if_neg hln]
  have HA : (l.take n).length = n := by rw [List.length_take]; omega
  unfold Reads at HT
  rw [HP2] at HT
  generalize l.take n = a at *
  clear hln HP2 h
  unfold pt at *
  go_enter Tryz.func71, Tryz.ntmps71
  go_wp2_with fail
  refine HT.mono ?_
  rintro e w1 ⟨⟨v, rfl, A, c, rfl, hb⟩, hr, hk⟩
  have hb1 := hb.ext hr.e
  have HR := Lib.hid hr
  clear hb hr HT
  subst HA
  go_wp2
  go_loop [5, 12] (fun v i => ∃ k : Nat, k ≤ a.length ∧ i = .int .i64 k ∧ v = .int .i64 (valB (a.take k) : Nat)) (fun _ i => a.length - (intOf i).toNat)
  case atStart => exact ⟨0, by omega, rfl, rfl⟩
  case round =>
   obtain ⟨k, hk, rfl, rfl⟩ := hrel
   by_cases hlt : k < a.length
   ·obtain ⟨ad, rfl, hc⟩ := Sl.now hb1 (bv_get hlt)
    have hlt2 := valB_lt (a.take k)
    rw [List.length_take, Nat.min_eq_left hk] at hlt2
    have hv : valB (a.take k) < 16777216 := Nat.lt_of_lt_of_le hlt2 (Nat.pow_le_pow_right (n := 256) (by omega) (show k ≤ 3 by omega))
    have hs := Lib.hid (or_byte (valB (a.take k)) a[k] hv)
    have h2 := a[k].toNat_lt
    clear hlt2
    go_wp2
    go_round
    case rel => exact ⟨k + 1, by omega, by go_num, by rw [valB_take _ _ hlt, ← hs.out]⟩
    case measure => simp [intOf]; omega
   ·go_wp2
    go_ret
    unfold Reads
    rw [HP.out]
    exact ⟨⟨_, rfl, by rw [List.take_of_length_le (by omega)]; rfl⟩, HR.out, by assumption⟩
set_option maxHeartbeats 1000000 in
theorem rshort_any (w0 w : World) (R : Nat) (l : By) (h : RAt w0 w R l) :
 Calls Tryz.prog 87 #[pt R] w (Reads shortP l w0 w R fun a _ v => v = .string (st a)) := by
 have HN := rnum_any w0 w R 1 l h (by omega)
 cases hp : numP 1 l with
 | inl k =>
  have HP : Hid (shortP l = .inl k) := Lib.hid (by unfold shortP andP; rw [hp])
  unfold Reads at HN; simp only [hp] at HN
  clear hp h
  unfold pt at *
  go_enter Tryz.func87, Tryz.ntmps87
  go_wp2_with fail
  refine HN.mono ?_
  rintro e w1 ⟨he, hk, hx⟩
  unfold Pan fv at he
  subst he
  go_wp2
  unfold Reads
  rw [HP.out]
  exact ⟨rfl, rfl, hk, hx⟩
 | inr q =>
  obtain ⟨n, r1⟩ := q
  unfold Reads at HN; simp only [hp] at HN
  have HT := fun w1 (h1 : RAt w0 w1 R r1) => rtake_any w0 w1 R n r1 h1
  cases hp2 : takeP n r1 with
  | inl k =>
   have HP : Hid (shortP l = .inl k) := Lib.hid (by unfold shortP andP; rw [hp]; exact hp2)
   clear hp h
   unfold Reads at HT; simp only [hp2] at HT
   clear hp2
   unfold pt at *
   go_enter Tryz.func87, Tryz.ntmps87
   go_wp2_with fail
   refine HN.mono ?_
   rintro e w1 ⟨⟨v, rfl, rfl⟩, hr, hk⟩
   have HT := HT w1 hr
   clear hr
   go_wp2_with fail
   refine HT.mono ?_
   rintro e w2 ⟨he, hk2, hx2⟩
   unfold Pan fv at he
   subst he
   have hk3 := hk.trans hk2
   clear hk hk2 HT HN
   go_wp2
   unfold Reads
   rw [HP.out]
   exact ⟨rfl, rfl, hk3, hx2⟩
  | inr q =>
   obtain ⟨a, r2⟩ := q
   have HP : Hid (shortP l = .inr (a, r2)) := Lib.hid (by unfold shortP andP; rw [hp]; exact hp2)
   unfold Reads at HT; simp only [hp2] at HT
   clear hp2 hp h
   unfold pt at *
   go_enter Tryz.func87, Tryz.ntmps87
   go_wp2_with fail
   refine HN.mono ?_
   rintro e w1 ⟨⟨v, rfl, rfl⟩, hr, hk⟩
   have HT := HT w1 hr
   clear hr
   go_wp2_with fail
   refine HT.mono ?_
   rintro e w2 ⟨⟨v, rfl, A, c, rfl, hb⟩, hr, hk2⟩
   have hcv := run_str (P := Tryz.prog) Tryz.underlying22 Tryz.underlying5 Tryz.underlying9 hb a.length c rfl w2 hr.e
   have hk3 := hk.trans hk2
   have HR := Lib.hid hr
   clear hk hk2 HT HN hb hr
   go_wp2
   go_ret
   unfold Reads
   rw [HP.out]
   exact ⟨⟨_, rfl, rfl⟩, HR.out, hk3⟩
set_option maxHeartbeats 1000000 in
theorem rlong_any (w0 w : World) (R : Nat) (l : By) (h : RAt w0 w R l) (hl : l.length ≤ 140737488355328) :
 Calls Tryz.prog 88 #[pt R] w (Reads longP l w0 w R fun a w' v => Own w' w.heap.size v a) := by
 have HN := rnum_any w0 w R 2 l h (by omega)
 cases hp : numP 2 l with
 | inl k =>
  have HP : Hid (longP l = .inl k) := Lib.hid (by unfold longP andP; rw [hp])
  unfold Reads at HN; simp only [hp] at HN
  clear hp h
  unfold pt at *
  go_enter Tryz.func88, Tryz.ntmps88
  go_wp2_with fail
  refine HN.mono ?_
  rintro e w1 ⟨he, hk, hx⟩
  unfold Pan fv at he
  subst he
  go_wp2
  unfold Reads
  rw [HP.out]
  exact ⟨rfl, rfl, hk, hx⟩
 | inr q =>
  obtain ⟨n, r1⟩ := q
  unfold Reads at HN; simp only [hp] at HN
  have HT := fun w1 (h1 : RAt w0 w1 R r1) => rtake_any w0 w1 R n r1 h1
  cases hp2 : takeP n r1 with
  | inl k =>
   have HP : Hid (longP l = .inl k) := Lib.hid (by unfold longP andP; rw [hp]; exact hp2)
   clear hp h
   unfold Reads at HT; simp only [hp2] at HT
   clear hp2
   unfold pt at *
   go_enter Tryz.func88, Tryz.ntmps88
   go_wp2_with fail
   refine HN.mono ?_
   rintro e w1 ⟨⟨v, rfl, rfl⟩, hr, hk⟩
   have HT := HT w1 hr
   clear hr
   go_wp2_with fail
   refine HT.mono ?_
   rintro e w2 ⟨he, hk2, hx2⟩
   unfold Pan fv at he
   subst he
   have hk3 := hk.trans hk2
   clear hk hk2 HT HN
   go_wp2
   unfold Reads
   rw [HP.out]
   exact ⟨rfl, rfl, hk3, hx2⟩
  | inr q =>
   obtain ⟨a, r2⟩ := q
   have HP : Hid (longP l = .inr (a, r2)) := Lib.hid (by unfold longP andP; rw [hp]; exact hp2)
   unfold Reads at HT; simp only [hp2] at HT
   have ha : a.length ≤ 140737488355328 := by
    have h1 := ((Rt.num 2).got _ _ _ hp).1
    have h2 := (takeP_got hp2).1
    have h1 := congrArg List.length h1
    have h2 := congrArg List.length h2
    simp only [List.length_append] at h1 h2
    omega
   have HA := Lib.hid ha
   clear hp2 hp h ha
   unfold pt at *
   go_enter Tryz.func88, Tryz.ntmps88
   go_wp2_with fail
   refine HN.mono ?_
   rintro e w1 ⟨⟨v, rfl, rfl⟩, hr, hk⟩
   have HT := HT w1 hr
   clear hr
   go_wp2_with fail
   refine HT.mono ?_
   rintro e w2 ⟨⟨v, rfl, A, c, rfl, hb⟩, hr, hk2⟩
   have HC := clone_any A c a.length a w2 (hb.ext hr.e) HA.out rfl
   have hk3 := hk.trans hk2
   have HR := Lib.hid hr
   clear hk hk2 HT HN hb hr
   go_wp2_with fail
   refine HC.mono ?_
   rintro e w3 ⟨v, rfl, ho, hx⟩
   go_wp2
   go_ret
   unfold Reads
   rw [HP.out]
   exact ⟨⟨_, rfl, ho.low hk3.size⟩, HR.out.ext hx, hk3.ext hx⟩
theorem le_num {n a : Nat} {l r : By} (h : numP n l = .inr (a, r)) : r.length ≤ l.length := by
 have := congrArg List.length ((Rt.num n).got _ _ _ h).1
 simp only [List.length_append] at this
 omega
theorem le_short {a l r : By} (h : shortP l = .inr (a, r)) : r.length ≤ l.length := by
 have := congrArg List.length (Rt.short.got _ _ _ h).1
 simp only [List.length_append] at this
 omega
theorem le_long {a l r : By} (h : longP l = .inr (a, r)) : r.length ≤ l.length := by
 have := congrArg List.length (Rt.long.got _ _ _ h).1
 simp only [List.length_append] at this
 omega
theorem Kept.grown1 {g : Nat} {w w' : World} (h : Kept [g] w w') : w.grownBy w' (some g) :=
 ⟨h.os, h.tape, h.output, h.size, fun i hi hne => h.block i hi (by simp; exact fun e => hne (by rw [e]))⟩
theorem Own.off {w w' : World} {base g : Nat} {v : Value} {l : By} {cs : Array Value} {t : TypeId} {fr : Nat × Nat} (h : Own w base v l) (hp : w.heap[g]? = some (.cells cs t fr)) (hne : 5 ≠ t) (hk : Kept [g] w w') : Own w' base v l :=
 h.kept hk.grown1 (owns_obj h hp hne)
theorem u8_of (f : Nat) : ((f : Int) % 256) = ((UInt8.ofNat f).toNat : Int) := by simp
end Go.Proofs.YthlppbbejdeeoaaGreatDoor
namespace Go.Proofs.YthlppbbejdeeoaaGreatDoor
open Go.RowKit
def zDeed : Array Value := #[.int .i64 0, .string ⟨#[]⟩, .string ⟨#[]⟩, .string ⟨#[]⟩, .int .i64 0, .int .i64 0, .int .u8 0, .int .i64 0, .int .i64 0, .slice none 0 0]
theorem deed_info : (Tryz.prog.info? 90).map (fun i => (i.zero, i.size)) = some (some (.agg zDeed), 10) := by kernel_rfl
def ddC (d : Dd) (v : Value) : Array Value := #[.int .i64 d.dw, .string (st d.user), .string (st d.box), .string (st d.dest), .int .i64 d.uid, .int .i64 d.how, .int .u8 (d.flags.toNat : Int), .int .i64 d.shard, .int .i64 d.epoch, v]
/-- a deed of the call's own -/
def DdO (w : World) (base : Nat) (d : Dd) (v : Value) : Prop := ∃ pv, v = .agg (ddC d pv) ∧ Own w base pv d.bytes
set_option maxRecDepth 20000 in
set_option maxHeartbeats 4000000 in
theorem rdeed_any (w0 w : World) (R : Nat) (l : By) (h : RAt w0 w R l) (hl : l.length ≤ 140737488355328) :
 Calls Tryz.prog 73 #[pt R] w (Reads deedP l w0 w R fun d w' v => DdO w' w.heap.size d v) := by
 have hw0 := h.e.size
 obtain ⟨g0, hg0⟩ : ∃ g, g = w.heap.size := ⟨_, rfl⟩
 have HG0 := Lib.hid hg0
 have hr0 : RAt w0 (w.alloc (.cells zDeed 90)) R l := h.ext ((Ext.refl w).alloc _)
 have hk0 : Kept [R] w (w.alloc (.cells zDeed 90)) := .of_ext ((Ext.refl w).alloc _)
 have hrow0 : (w.alloc (.cells zDeed 90)).heap[g0]? = some (.cells zDeed 90 (0, 0)) := by rw [hg0]; exact heap_alloc_new w _
 have hne : g0 ≠ R := by have := h.lt; omega
 have hN := fun (w1 : World) (l1 : By) (n : Nat) (hn : n ≤ 4) (h1 : RAt w0 w1 R l1) => rnum_any w0 w1 R n l1 h1 hn
 have hS := fun (w1 : World) (l1 : By) (h1 : RAt w0 w1 R l1) => rshort_any w0 w1 R l1 h1
 have hL := fun (w1 : World) (l1 : By) (h1 : RAt w0 w1 R l1) (hl1 : l1.length ≤ 140737488355328) => rlong_any w0 w1 R l1 h1 hl1
 generalize hw1 : w.alloc (.cells zDeed 90) = wa at hr0 hk0 hrow0
 have HWA := Lib.hid hw1
 clear h hw1 hg0
 unfold pt at *
 go_enter Tryz.func73, Tryz.ntmps73
 go_wp2_with (with_reducible first | refine sA 90 ?_ | refine sS 90 ?_ | refine sL 90 ?_)
 refine go_on (wpList_alloc_ rfl rfl deed_info ?_)
 rw [HWA.out]
 go_wp2_with fail
 refine (hN _ _ 1 (by omega) hr0).mono ?_
 rintro e w1 hq
 unfold Reads at hq
 cases hp : numP 1 l with
 | inl k =>
  rw [hp] at hq
  obtain ⟨he, hk, hx⟩ := hq
  unfold Pan fv at he
  subst he
  have HP : Hid (deedP l = .inl k) := Lib.hid (by simp only [deedP, andP, hp])
  have hk9 := hk0.trans hk
  clear hk hp
  go_wp2
  unfold Reads
  rw [HP.out]
  exact ⟨rfl, rfl, hk9, hx⟩
 | inr q =>
  obtain ⟨o, l1⟩ := q
  rw [hp] at hq
  obtain ⟨⟨v, rfl, rfl⟩, hr1, hk10⟩ := hq
  have hk1 := hk0.trans hk10
  have hrow0 := hk10.heap hrow0 (by simpa using hne)
  have H1 := Lib.hid hp
  clear hp hk10 hr0 hk0
  go_wp2_with fail
  refine (hS _ _ hr1).mono ?_
  rintro e w2 hq
  unfold Reads at hq
  cases hp : shortP l1 with
  | inl k =>
   rw [hp] at hq
   obtain ⟨he, hk, hx⟩ := hq
   unfold Pan fv at he
   subst he
   have HP : Hid (deedP l = .inl k) := Lib.hid (by simp only [deedP, andP, H1.out, hp])
   have hk9 := hk1.trans hk
   clear hk hp
   go_wp2
   unfold Reads
   rw [HP.out]
   exact ⟨rfl, rfl, hk9, hx⟩
  | inr q =>
   obtain ⟨u, l2⟩ := q
   rw [hp] at hq
   obtain ⟨⟨v, rfl, rfl⟩, hr2, hk20⟩ := hq
   have hk2 := hk1.trans hk20
   have hrow0 := hk20.heap hrow0 (by simpa using hne)
   have H2 := Lib.hid hp
   clear hp hk20 hr1 hk1
   go_wp2_with fail
   refine (hS _ _ hr2).mono ?_
   rintro e w3 hq
   unfold Reads at hq
   cases hp : shortP l2 with
   | inl k =>
    rw [hp] at hq
    obtain ⟨he, hk, hx⟩ := hq
    unfold Pan fv at he
    subst he
    have HP : Hid (deedP l = .inl k) := Lib.hid (by simp only [deedP, andP, H1.out, H2.out, hp])
    have hk9 := hk2.trans hk
    clear hk hp
    go_wp2
    unfold Reads
    rw [HP.out]
    exact ⟨rfl, rfl, hk9, hx⟩
   | inr q =>
    obtain ⟨b, l3⟩ := q
    rw [hp] at hq
    obtain ⟨⟨v, rfl, rfl⟩, hr3, hk30⟩ := hq
    have hk3 := hk2.trans hk30
    have hrow0 := hk30.heap hrow0 (by simpa using hne)
    have H3 := Lib.hid hp
    clear hp hk30 hr2 hk2
    go_wp2_with fail
    refine (hS _ _ hr3).mono ?_
    rintro e w4 hq
    unfold Reads at hq
    cases hp : shortP l3 with
    | inl k =>
     rw [hp] at hq
     obtain ⟨he, hk, hx⟩ := hq
     unfold Pan fv at he
     subst he
     have HP : Hid (deedP l = .inl k) := Lib.hid (by simp only [deedP, andP, H1.out, H2.out, H3.out, hp])
     have hk9 := hk3.trans hk
     clear hk hp
     go_wp2
     unfold Reads
     rw [HP.out]
     exact ⟨rfl, rfl, hk9, hx⟩
    | inr q =>
     obtain ⟨t, l4⟩ := q
     rw [hp] at hq
     obtain ⟨⟨v, rfl, rfl⟩, hr4, hk40⟩ := hq
     have hk4 := hk3.trans hk40
     have hrow0 := hk40.heap hrow0 (by simpa using hne)
     have H4 := Lib.hid hp
     clear hp hk40 hr3 hk3
     go_wp2_with fail
     refine (hN _ _ 4 (by omega) hr4).mono ?_
     rintro e w5 hq
     unfold Reads at hq
     cases hp : numP 4 l4 with
     | inl k =>
      rw [hp] at hq
      obtain ⟨he, hk, hx⟩ := hq
      unfold Pan fv at he
      subst he
      have HP : Hid (deedP l = .inl k) := Lib.hid (by simp only [deedP, andP, H1.out, H2.out, H3.out, H4.out, hp])
      have hk9 := hk4.trans hk
      clear hk hp
      go_wp2
      unfold Reads
      rw [HP.out]
      exact ⟨rfl, rfl, hk9, hx⟩
     | inr q =>
      obtain ⟨i, l5⟩ := q
      rw [hp] at hq
      obtain ⟨⟨v, rfl, rfl⟩, hr5, hk50⟩ := hq
      have hk5 := hk4.trans hk50
      have hrow0 := hk50.heap hrow0 (by simpa using hne)
      have H5 := Lib.hid hp
      clear hp hk50 hr4 hk4
      go_wp2_with fail
      refine (hN _ _ 1 (by omega) hr5).mono ?_
      rintro e w6 hq
      unfold Reads at hq
      cases hp : numP 1 l5 with
      | inl k =>
       rw [hp] at hq
       obtain ⟨he, hk, hx⟩ := hq
       unfold Pan fv at he
       subst he
       have HP : Hid (deedP l = .inl k) := Lib.hid (by simp only [deedP, andP, H1.out, H2.out, H3.out, H4.out, H5.out, hp])
       have hk9 := hk5.trans hk
       clear hk hp
       go_wp2
       unfold Reads
       rw [HP.out]
       exact ⟨rfl, rfl, hk9, hx⟩
      | inr q =>
       obtain ⟨hw, l6⟩ := q
       rw [hp] at hq
       obtain ⟨⟨v, rfl, rfl⟩, hr6, hk60⟩ := hq
       have hk6 := hk5.trans hk60
       have hrow0 := hk60.heap hrow0 (by simpa using hne)
       have H6 := Lib.hid hp
       clear hp hk60 hr5 hk5
       go_wp2_with fail
       refine (hN _ _ 1 (by omega) hr6).mono ?_
       rintro e w7 hq
       unfold Reads at hq
       cases hp : numP 1 l6 with
       | inl k =>
        rw [hp] at hq
        obtain ⟨he, hk, hx⟩ := hq
        unfold Pan fv at he
        subst he
        have HP : Hid (deedP l = .inl k) := Lib.hid (by simp only [deedP, andP, H1.out, H2.out, H3.out, H4.out, H5.out, H6.out, hp])
        have hk9 := hk6.trans hk
        clear hk hp
        go_wp2
        unfold Reads
        rw [HP.out]
        exact ⟨rfl, rfl, hk9, hx⟩
       | inr q =>
        obtain ⟨f, l7⟩ := q
        rw [hp] at hq
        obtain ⟨⟨v, rfl, rfl⟩, hr7, hk70⟩ := hq
        have hk7 := hk6.trans hk70
        have hrow0 := hk70.heap hrow0 (by simpa using hne)
        have H7 := Lib.hid hp
        clear hp hk70 hr6 hk6
        go_wp2_with fail
        refine (hN _ _ 1 (by omega) hr7).mono ?_
        rintro e w8 hq
        unfold Reads at hq
        cases hp : numP 1 l7 with
        | inl k =>
         rw [hp] at hq
         obtain ⟨he, hk, hx⟩ := hq
         unfold Pan fv at he
         subst he
         have HP : Hid (deedP l = .inl k) := Lib.hid (by simp only [deedP, andP, H1.out, H2.out, H3.out, H4.out, H5.out, H6.out, H7.out, hp])
         have hk9 := hk7.trans hk
         clear hk hp
         go_wp2
         unfold Reads
         rw [HP.out]
         exact ⟨rfl, rfl, hk9, hx⟩
        | inr q =>
         obtain ⟨s, l8⟩ := q
         rw [hp] at hq
         obtain ⟨⟨v, rfl, rfl⟩, hr8, hk80⟩ := hq
         have hk8 := hk7.trans hk80
         have hrow0 := hk80.heap hrow0 (by simpa using hne)
         have H8 := Lib.hid hp
         clear hp hk80 hr7 hk7
         go_wp2_with fail
         refine (hN _ _ 4 (by omega) hr8).mono ?_
         rintro e w9 hq
         unfold Reads at hq
         cases hp : numP 4 l8 with
         | inl k =>
          rw [hp] at hq
          obtain ⟨he, hk, hx⟩ := hq
          unfold Pan fv at he
          subst he
          have HP : Hid (deedP l = .inl k) := Lib.hid (by simp only [deedP, andP, H1.out, H2.out, H3.out, H4.out, H5.out, H6.out, H7.out, H8.out, hp])
          have hk9 := hk8.trans hk
          clear hk hp
          go_wp2
          unfold Reads
          rw [HP.out]
          exact ⟨rfl, rfl, hk9, hx⟩
         | inr q =>
          obtain ⟨e, l9⟩ := q
          rw [hp] at hq
          obtain ⟨⟨v, rfl, rfl⟩, hr9, hk90⟩ := hq
          have hk9 := hk8.trans hk90
          have hrow0 := hk90.heap hrow0 (by simpa using hne)
          have H9 := Lib.hid hp
          clear hp hk90 hr8 hk8
          go_wp2_with (with_reducible first | refine sA 90 ?_ | refine sS 90 ?_ | refine sL 90 ?_)
          refine go_on (wpList_alloc_ rfl rfl deed_info ?_)
          go_wp2_with (with_reducible first | refine sA 90 ?_ | refine sS 90 ?_ | refine sL 90 ?_)
          refine go_on (wpList_store_last rfl rfl rfl rfl (by kernel_rfl) rfl (by simp [Value.oneCell']) ?_)
          intro wb hrow1 hxb hsb
          have hrb := hr9.ext hxb
          have hkb := hk9.ext hxb
          have hrow0b := hrow0
          go_wp2_with fail
          refine (hL _ _ hrb (by have a1 := le_num H1.out; have a2 := le_short H2.out; have a3 := le_short H3.out; have a4 := le_short H4.out; have a5 := le_num H5.out; have a6 := le_num H6.out; have a7 := le_num H7.out; have a8 := le_num H8.out; have a9 := le_num H9.out; omega)).mono ?_
          rintro e w10 hq
          unfold Reads at hq
          cases hp : longP l9 with
          | inl k =>
           rw [hp] at hq
           obtain ⟨he, hk, hx⟩ := hq
           unfold Pan fv at he
           subst he
           have HP : Hid (deedP l = .inl k) := Lib.hid (by simp only [deedP, andP, H1.out, H2.out, H3.out, H4.out, H5.out, H6.out, H7.out, H8.out, H9.out, hp])
           have hk9 := hkb.trans hk
           clear hk hp
           go_wp2
           unfold Reads
           rw [HP.out]
           exact ⟨rfl, rfl, hk9, hx⟩
          | inr q =>
           obtain ⟨p, l10⟩ := q
           rw [hp] at hq
           obtain ⟨⟨v, rfl, ho⟩, hr10, hk100⟩ := hq
           have hk10 := hkb.trans hk100
           have H10 := Lib.hid hp
           clear hp
           obtain ⟨A, c, rfl⟩ := ho.form
           have hR := hr9.lt
           have hrow1 := hk100.heap hrow1 (by simp; omega)
           have hrow0 := hk100.heap (hxb.obj hrow0) (by simpa using hne)
           have hg01 : g0 ≠ w9.heap.size := by have := obj_lt hrow0b; omega
           obtain ⟨C9, F9⟩ := (show w10.cell? ⟨w9.heap.size, 9, none⟩ = some (.slice none 0 0) ∧ w10.frozen? ⟨w9.heap.size, 9, none⟩ = false from ⟨by rw [cell_of_row w10 _ 9 _ _ _ hrow1]; rfl, frozen_of_row w10 _ 9 _ _ hrow1⟩)
           have hset := heap_setCell_same w10 w9.heap.size 9 _ _ (.slice A p.length c) hrow1
           have hset0 : (w10.setCell ⟨w9.heap.size, 9, none⟩ (.slice A p.length c)).heap[g0]? = some (.cells zDeed 90 (0, 0)) := by rw [heap_setCell_other _ _ _ _ hg01]; exact hrow0
           have hkS : Kept [w9.heap.size] w10 (w10.setCell ⟨w9.heap.size, 9, none⟩ (.slice A p.length c)) := (Kept.refl _ _).setCell (.inl (by simp)) _
           go_wp2_with (with_reducible first | refine sA 90 ?_ | refine sS 90 ?_ | refine sL 90 ?_)
           generalize w10.setCell ⟨w9.heap.size, 9, none⟩ (.slice A p.length c) = ws at *
           refine go_on (wpList_load_row rfl 90 _ rfl w9.heap.size rfl 90 _ (0, 0) _ hset Tryz.underlying90 rfl (by kernel_rfl) ?_)
           go_wp2_with (with_reducible first | refine sA 90 ?_ | refine sS 90 ?_ | refine sL 90 ?_)
           rw [HG0.out] at hset0
           refine go_on (wpList_store_whole (c := zDeed) rfl rfl rfl rfl hset0 (by kernel_rfl) rfl (by simp [Value.oneCell']) ?_)
           intro wz hrow hkz hsz
           go_wp2
           ((try simp only [Exit.inBlock, Exit.then]); refine bodyPost_ret (results_cell_row rfl _ _ w.heap.size _ _ _ _ rfl hrow Tryz.underlying90 rfl (by kernel_rfl)) rfl ?_)
           have hg0R : R ∉ [w.heap.size] := by rw [← HG0.out]; simpa using hne.symm
           have hg1R : R ∉ [w9.heap.size] := by simp; omega
           have hws : w.heap.size ≤ w9.heap.size := hk9.size
           have ho2 := (ho.off hrow1 (by decide) hkS).off hset0 (by decide) hkz
           unfold Reads
           rw [show deedP l = .inr (⟨(o : Nat), u, b, t, (i : Nat), (hw : Nat), UInt8.ofNat f, (s : Nat), (e : Nat), p⟩, l10) by simp only [deedP, andP, pureP, H1.out, H2.out, H3.out, H4.out, H5.out, H6.out, H7.out, H8.out, H9.out, H10.out]]
           refine ⟨⟨_, rfl, _, by rw [ddC, ← u8_of], ho2.low (by omega)⟩, (hr10.kept hkS hg1R ?_).kept hkz hg0R ?_, Kept.less (M := [R, w9.heap.size, w.heap.size]) ((hk10.mono (by simp)).trans ((hkS.mono (by simp)).trans (hkz.mono (by simp)))) ?_⟩
           ·intro k hk; simp at hk; omega
           ·intro k hk; simp at hk; omega
           ·intro k hk hlt; simp at hk; rcases hk with rfl | rfl | rfl
            ·simp
            ·omega
            ·omega
end Go.Proofs.YthlppbbejdeeoaaGreatDoor
namespace Go.Proofs.YthlppbbejdeeoaaGreatDoor
open Go.RowKit
theorem fault_is (W : World) (v : Value) : (Instr.typeAssert (.iface 126 v) 20 126 true).run Tryz.prog W = .ok (.tuple #[v, .bool true]) W := by kernel_rfl
theorem fault_no (W : World) : (Instr.typeAssert .nilIface 20 126 true).run Tryz.prog W = .ok (.tuple #[.agg #[.int .i64 0], .bool false]) W := by kernel_rfl
theorem rep17 : Array.replicate 17 undef = #[undef, undef, undef, undef, undef, undef, undef, undef, undef, undef, undef, undef, undef, undef, undef, undef, undef] := rfl
theorem catch_panicking (g : Nat) (k : Nat) (x : Value) (w : World) (hg : w.heap[g]? = some (.cells #[x] 30 (0, 0))) :
 CallsD Tryz.prog 85 #[pt g] (.panicking [{ v := fv k, recovered := false }]) w fun e u' w' =>
  e = .returned (.tuple #[]) ∧ u' = .panicking [{ v := fv k, recovered := true }] ∧ w'.heap[g]? = some (.cells #[.int .i64 (k : Nat)] 30 (0, 0)) ∧ Kept [g] w w' := by
 obtain ⟨C0, F0⟩ := row1_cell hg
 unfold fv pt
 refine callsD_of_wpS Tryz.func85 rfl fun c₀ cs hu => ?_
 apply wpS_seq
 apply wpS_region
 simp [wpOpsS, go_sem, recoverD, hu, Tryz.ntmps85, Exit.thenS, rep17]
 refine wpS_of_wp ?_
 have hta := fault_is
 go_wp2
 simp [go_sem, bodyPostS, results, Tryz.results85]
 refine ⟨?_, ?_⟩
 ·rw [heap_setCell_same _ g 0 _ _ _ (((Ext.refl w).alloc _).obj hg)]
  rfl
 ·exact ((Kept.refl _ _).alloc _).setCell (.inl (by simp)) _
theorem catch_idle (g : Nat) (x : Value) (w : World) (hg : w.heap[g]? = some (.cells #[x] 30 (0, 0))) :
 CallsD Tryz.prog 85 #[pt g] .returning w fun e u' w' =>
  e = .returned (.tuple #[]) ∧ u' = .returning ∧ w'.heap[g]? = some (.cells #[x] 30 (0, 0)) ∧ Ext w w' := by
 obtain ⟨C0, F0⟩ := row1_cell hg
 unfold pt
 refine callsD_of_wpS Tryz.func85 rfl fun c₀ cs hu => ?_
 apply wpS_seq
 apply wpS_region
 simp [wpOpsS, go_sem, recoverD, hu, Tryz.ntmps85, Exit.thenS, rep17]
 refine wpS_of_wp ?_
 have hta := fault_no
 go_wp2
 simp [go_sem, bodyPostS, results, Tryz.results85]
 refine ⟨.returning, ?_, rfl, ((Ext.refl w).alloc _).obj hg⟩
 cases c₀
 simp_all
def DoSays {α : Type} (q : Nat ⊕ (α × By)) (V : α → World → Prop) (Vb : World → Prop) (w0 w1 : World) (R O : Nat) (e : Ending) (w2 : World) : Prop :=
 match q with
 | .inl k => Pan k e ∧ Kept [R, O] w1 w2 ∧ Ext w0 w2 ∧ Vb w2
 | .inr (a, r) => e = .returned (.tuple #[]) ∧ V a w2 ∧ RAt w0 w2 R r ∧ Kept [R, O] w1 w2
def ReadSays {α : Type} (q : Nat ⊕ α) (V : α → World → Prop) (Vb : World → Prop) (w0 w : World) (O : Nat) (e : Ending) (w' : World) : Prop :=
 match q with
 | .inl k => e = .returned (.int .i64 (k : Nat)) ∧ Kept [O] w w' ∧ Ext w0 w' ∧ Vb w'
 | .inr a => e = .returned (.int .i64 0) ∧ V a w' ∧ Kept [O] w w' ∧ Ext w0 w'
set_option maxHeartbeats 2000000 in
theorem read_any {α : Type} (p : Prs α) (K O : Nat) (V : α → World → Prop) (Vb : World → Prop) (w0 w : World) (A : Option Addr) (c : Nat) (l : By) (hx : Ext w0 w) (hb : Bs w0 A l) (hlc : l.length ≤ c) (hO : O < w.heap.size) (hO0 : w0.heap.size ≤ O)
 (hcf : ∀ args w, (callFunc K args).run Tryz.prog w = .ok (.enter K args) w)
 (hdo : ∀ w1 R, Ext w w1 → w.heap.size ≤ R → RAt w0 w1 R l → Calls Tryz.prog K #[pt R, pt O] w1 (DoSays (p l) V Vb w0 w1 R O))
 (hV : ∀ a w1 w2 g x, V a w1 → w1.heap[g]? = some (.cells #[x] 30 (0, 0)) → Kept [g] w1 w2 → V a w2)
 (hVb : ∀ w1 w2 g x, Vb w1 → w1.heap[g]? = some (.cells #[x] 30 (0, 0)) → Kept [g] w1 w2 → Vb w2) (hVV : ∀ a w1, V a w1 → Vb w1) :
 Calls Tryz.prog 69 #[.slice A l.length c, .func (Fn.func K) #[] #[pt O]] w (ReadSays (readP p l) V Vb w0 w O) := by
 have hmf : ∀ (fn : Fn) (first cap : Array Value) (w : World), (Instr.makeFunc fn first cap).run Tryz.prog w = .ok (.func fn first cap) w := fun _ _ _ _ => rfl
 obtain ⟨wr, hwr⟩ : ∃ wr, wr = (w.alloc (.cells #[.int .i64 0] 30)).alloc (.cells #[.slice A l.length c] 129) := ⟨_, rfl⟩
 have hxr : Ext w wr := by rw [hwr]; exact ((Ext.refl w).alloc _).alloc _
 have hsz : wr.heap.size = w.heap.size + 2 := by rw [hwr]; simp
 have hg : wr.heap[w.heap.size]? = some (.cells #[.int .i64 0] 30 (0, 0)) := by
  rw [hwr]; exact ((Ext.refl _).alloc _).obj (heap_alloc_new w _)
 have hR : RAt w0 wr (w.heap.size + 1) l := ⟨by have := hx.size; omega, hx.trans hxr, A, c, by
  have := heap_alloc_new (w.alloc (.cells #[.int .i64 0] 30)) (.cells #[.slice A l.length c] 129)
  rw [hwr]; simpa using this, hlc, hb⟩
 have HD := hdo wr (w.heap.size + 1) hxr (by omega) hR
 have HWR := Lib.hid hwr
 clear hdo hwr
 unfold pt at *
 cases hp : p l with
 | inl k =>
  rw [hp] at HD
  have HP : Hid (readP p l = .inl k) := Lib.hid (by unfold readP; rw [hp])
  clear hp
  unfold DoSays at HD
  go_enter_defers Tryz.func69, Tryz.ntmps69
  go_wp2_with fail
  rw [← HWR.out]
  refine HD.mono ?_
  rintro e w2 ⟨he, hk, hx2, hvb⟩
  unfold Pan fv at he
  subst he
  have hg2 := hk.heap hg (by simp; omega)
  refine leaves_cons (f := 85) (args := #[.pointer (some ⟨w.heap.size, 0, none⟩)]) (by simp) (by simp [go_sem]) ?_
  refine (catch_panicking w.heap.size _ _ _ hg2).mono ?_
  rintro e u' w3 ⟨rfl, rfl, hg3, hk3⟩
  have C3 := (row1_cell hg3).1 _ (Ext.refl _)
  have hkk : Kept [O] w w3 := (Kept.of_ext hxr).trans (hk.mono (by simp)) |>.trans (hk3.mono (by simp)) |>.less (M := [O, w.heap.size + 1, w.heap.size]) (by intro k hk hlt; simp at hk; rcases hk with rfl | rfl | rfl <;> simp <;> omega)
  have hx3 : Ext w0 w3 := hx2.kept hk3 (by intro k hk; simp at hk; have := hx.size; omega)
  simp [Leaves, settle, results, Tryz.results69, go_sem]
  rw [C3]
  refine ⟨_, rfl, ?_⟩
  unfold ReadSays
  rw [HP.out]
  exact ⟨rfl, hkk, hx3, hVb _ _ _ _ hvb hg2 hk3⟩
 | inr q =>
  obtain ⟨a, r⟩ := q
  rw [hp] at HD
  unfold DoSays at HD
  by_cases hr0 : r = []
  ·subst hr0
   have HP : Hid (readP p l = .inr a) := Lib.hid (by unfold readP; rw [hp]; rfl)
   have HM := must_any true
   clear hp
   go_enter_defers Tryz.func69, Tryz.ntmps69
   go_wp2_with fail
   rw [← HWR.out]
   refine HD.mono ?_
   rintro e w2 ⟨rfl, hv, hr, hk⟩
   have hg2 := hk.heap hg (by simp; omega)
   obtain ⟨_, hx2, A2, c2, hrow, _, _⟩ := hr
   obtain ⟨C0, F0⟩ := row1_cell hrow
   obtain ⟨C1, F1⟩ := row1_cell hg2
   go_wp2_with fail
   refine (HM w2).mono ?_
   rintro e w3 ⟨he, rfl⟩
   unfold MustSays at he
   subst he
   go_wp2
   have hk2 : Kept [w.heap.size] w2 (w2.setCell ⟨w.heap.size, 0, none⟩ (.int .i64 0)) := (Kept.refl _ _).setCell (.inl (by simp)) _
   have hg2' := heap_setCell_same w2 w.heap.size 0 _ _ (.int .i64 0) hg2
   refine leaves_cons (f := 85) (args := #[.pointer (some ⟨w.heap.size, 0, none⟩)]) (by simp) (by simp [go_sem]) ?_
   refine (catch_idle w.heap.size _ _ hg2').mono ?_
   rintro e u' w3 ⟨rfl, rfl, hg3, hk3⟩
   have C3 := (row1_cell hg3).1 _ (Ext.refl _)
   have hk4 := hk2.ext hk3
   have hkk : Kept [O] w w3 := (Kept.of_ext hxr).trans (hk.mono (by simp)) |>.trans (hk4.mono (by simp)) |>.less (M := [O, w.heap.size + 1, w.heap.size]) (by intro k hk hlt; simp at hk; rcases hk with rfl | rfl | rfl <;> simp <;> omega)
   have hx3 : Ext w0 w3 := hx2.kept hk4 (by intro k hk; simp at hk; have := hx.size; omega)
   have hv3 := hV a _ _ _ _ hv hg2 hk4
   simp [Leaves, settle, results, Tryz.results69, go_sem]
   rw [C3]
   refine ⟨_, rfl, ?_⟩
   unfold ReadSays
   rw [HP.out]
   exact ⟨rfl, hv3, hkk, hx3⟩
  ·have HP : Hid (readP p l = .inl 4) := Lib.hid (by unfold readP; rw [hp]; simp [hr0])
   have HM := must_any false
   clear hp
   go_enter_defers Tryz.func69, Tryz.ntmps69
   go_wp2_with fail
   rw [← HWR.out]
   refine HD.mono ?_
   rintro e w2 ⟨rfl, hv, hr, hk⟩
   have hg2 := hk.heap hg (by simp; omega)
   obtain ⟨_, hx2, A2, c2, hrow, _, _⟩ := hr
   obtain ⟨C0, F0⟩ := row1_cell hrow
   have hrl : ((r.length : Int) == 0) = false := by simpa using hr0
   go_wp2_with fail
   refine (HM w2).mono ?_
   rintro e w3 ⟨he, rfl⟩
   unfold MustSays Pan fv at he
   subst he
   refine leaves_cons (f := 85) (args := #[.pointer (some ⟨w.heap.size, 0, none⟩)]) (by simp) (by simp [go_sem]) ?_
   refine (catch_panicking w.heap.size _ _ _ hg2).mono ?_
   rintro e u' w3 ⟨rfl, rfl, hg3, hk3⟩
   have C3 := (row1_cell hg3).1 _ (Ext.refl _)
   have hkk : Kept [O] w w3 := (Kept.of_ext hxr).trans (hk.mono (by simp)) |>.trans (hk3.mono (by simp)) |>.less (M := [O, w.heap.size + 1, w.heap.size]) (by intro k hk hlt; simp at hk; rcases hk with rfl | rfl | rfl <;> simp <;> omega)
   have hx3 : Ext w0 w3 := hx2.kept hk3 (by intro k hk; simp at hk; have := hx.size; omega)
   simp [Leaves, settle, results, Tryz.results69, go_sem]
   rw [C3]
   refine ⟨_, rfl, ?_⟩
   unfold ReadSays
   rw [HP.out]
   exact ⟨rfl, hkk, hx3, hVb _ _ _ _ (hVV a _ hv) hg2 hk3⟩
end Go.Proofs.YthlppbbejdeeoaaGreatDoor
namespace Go.Proofs.YthlppbbejdeeoaaGreatDoor
open Go.RowKit
section
variable {P : Program} {ops : Array Oper} {Q : Exit → Act → World → Prop} {md : Region.Mode} {S : World → Prop} {n : Nat} {T : Array Bool → Act → World → Prop}
/-- whatever order is picked of the first n; then T -/
def wpHead (P : Program) (md : Region.Mode) (ops : Array Oper) (Q : Exit → Act → World → Prop) (S : World → Prop) (n : Nat) (T : Array Bool → Act → World → Prop) : Nat → Array Bool → Act → World → Prop
 | 0, listed, a, w => T listed a w
 | f + 1, listed, a, w => Region.ready md ops listed ≠ [] ∧ ∀ i ∈ Region.ready md ops listed, i < n ∧ wpOp P ops Q i (fun a' w' => S w' ∧ wpHead P md ops Q S n T f (listed.setIfInBounds i true) a' w') a w
theorem wpAny_of_wpHead {g : Nat} (hT : ∀ listed a w, T listed a w → wpAny P md ops Q g listed a w) : ∀ (f : Nat) (listed : Array Bool) (a : Act) (w : World), wpHead P md ops Q S n T f listed a w → wpAny P md ops Q (f + g) listed a w
 | 0, listed, a, w, h => by rw [Nat.zero_add]; exact hT _ _ _ h
 | f + 1, listed, a, w, h => by
  rw [show f + 1 + g = (f + g) + 1 by omega]
  exact ⟨fun h0 => absurd h0 h.1, fun i hi => wpOp_mono (fun a' w' h' => wpAny_of_wpHead hT f _ a' w' h'.2) (h.2 i hi).2⟩
theorem wpHead_first {i : Nat} {oi : Oper} {v : Value} (hi : ops[i]? = some oi) (hsel : ∀ (j : Nat) (o : Oper) cs b, ops[j]? = some o → o.op ≠ .select cs b)
 (hQ : ∀ c a w, Q (.panic c) (a.put oi.dst v) w → Q (.panic c) a w)
 (hs : Region.sinkB md ops n = true) (hc : Region.chainB md ops n = true) (hn : n < ops.size) (hin : i < n) (hdone : ∀ listed a w, T listed a w → ∀ j ∈ Region.ready md ops listed, n ≤ j) :
 ∀ (f : Nat) (listed : Array Bool) (a : Act) (w : World), HeadInv md ops n listed →
  (∀ j oj, ops[j]? = some oj → j ≠ i → listed.getD j true = false → (∀ e ∈ oj.after, Region.binds md e = true → e.on ≠ i) → oi.apart ops oj = true) →
  i ∈ Region.ready md ops listed → YieldsIf P ops S oi v a → S w →
  wpHead P md ops Q S n T f (listed.setIfInBounds i true) (a.put oi.dst v) w → wpHead P md ops Q S n T (f + 1) listed a w := by
 intro f
 induction f with
 | zero =>
  intro listed a w inv _ hr hy hS H
  have hun := (mem_ready.1 hr).1
  refine ⟨fun h => (by rw [h] at hr; cases hr), fun j hj => ?_⟩
  have hjn : j < n := by
   rcases Nat.lt_or_ge j n with h | h
   ·exact h
   ·exact absurd hj (tail_waits hs hc hn inv _ i rfl hin hun j h)
  refine ⟨hjn, ?_⟩
  by_cases hji : j = i
  ·subst hji; exact hy.wpOp hi hS ⟨hS, H⟩
  ·have := hdone _ _ _ H j (ready_mono hj hji)
   omega
 | succ f ih =>
  intro listed a w inv hfree hr hy hS H
  have hun := (mem_ready.1 hr).1
  refine ⟨fun h => (by rw [h] at hr; cases hr), fun j hj => ?_⟩
  have hjn : j < n := by
   rcases Nat.lt_or_ge j n with h | h
   ·exact h
   ·exact absurd hj (tail_waits hs hc hn inv _ i rfl hin hun j h)
  refine ⟨hjn, ?_⟩
  by_cases hji : j = i
  ·subst hji; exact hy.wpOp hi hS ⟨hS, H⟩
  ·have h1 := (H.2 j (ready_mono hj hji)).2
   obtain ⟨hjun, oj, hoj, hall⟩ := mem_ready.1 hj
   have hnot : ∀ e ∈ oj.after, Region.binds md e = true → e.on ≠ i := fun e he hb heq => by
    have h1 := hall e he hb
    rw [heq, getD_both hun] at h1
    cases h1
   have h2 := wpOp_putIf hoj (hfree j oj hoj hji hjun hnot) (fun cs b => hsel i oi cs b hi) (fun cs b => hsel j oj cs b hoj) hQ hy h1
   have hfree' : ∀ k ok, ops[k]? = some ok → k ≠ i → (listed.setIfInBounds j true).getD k true = false →
    (∀ e ∈ ok.after, Region.binds md e = true → e.on ≠ i) → oi.apart ops ok = true := fun k ok hk hki hkun hno => by
    refine hfree k ok hk hki ?_ hno
    by_cases hjk : j = k
    ·subst hjk; exact hjun
    ·rw [getD_set_ne true hjk] at hkun; exact hkun
   refine wpOp_mono (fun a' w' h3 => ⟨h3.2.1, ih (listed.setIfInBounds j true) a' w' (inv.set hj hjn) hfree' (ready_mono hr (Ne.symm hji)) h3.1 h3.2.1 ?_⟩) h2
   rw [Array.setIfInBounds_comm _ _ hji]
   exact h3.2.2
/-! ### the moves -/
/-- the tail: its own list, once all others have come -/
def Tail (P : Program) (md : Region.Mode) (ops : Array Oper) (Q : Exit → Act → World → Prop) (n : Nat) (tail : List Oper) (listed : Array Bool) (a : Act) (w : World) : Prop :=
 Region.seqB md ops tail.length n listed = true ∧ wpList P ops Q tail a w
/-- what a kernel reckons of a region: its first n come ahead of the rest, and the rest one behind the other -/
def phaseB (md : Region.Mode) (ops : Array Oper) (n : Nat) : Bool := Region.noSelect ops && decide (n < ops.size) && Region.sinkB md ops n && Region.chainB md ops n
def headB (md : Region.Mode) (ops : Array Oper) (n : Nat) (listed : Array Bool) : Bool :=
 listed.size == ops.size && ((List.range ops.size).all fun j => match ops[j]? with
  | some oj => !listed.getD j false || oj.after.all fun e => !Region.binds md e || listed.getD e.on false
  | none => true) && ((List.range ops.size).all fun t => decide (t < n) || !listed.getD t true)
theorem headB_spec {listed : Array Bool} (h : headB md ops n listed = true) : HeadInv md ops n listed := by
 unfold headB at h
 simp only [Bool.and_eq_true, beq_iff_eq, List.all_eq_true, List.mem_range, Bool.or_eq_true, decide_eq_true_eq] at h
 obtain ⟨⟨h1, h2⟩, h3⟩ := h
 refine ⟨h1, fun j oj hj hl e he hb => ?_, fun t ht ht' => ?_⟩
 ·have hjs : j < ops.size := (Array.getElem?_eq_some_iff.1 hj).1
  have := h2 j hjs
  rw [hj] at this
  simp only [hl, Bool.not_true, Bool.false_eq_true, false_or, Bool.or_eq_true, Array.all_eq_true'] at this
  have h5 := this e he
  simpa [hb] using h5
 ·have := h3 t ht'
  rcases this with h | h
  ·omega
  ·simpa using h
theorem wp_region_phase {id : Nat} {a : Act} {w : World} {l : List Oper} (n : Nat) (hm : P.follows .mixedOrders = true) (hB : phaseB .any l.toArray n = true) (hS : S w.drew)
 (h : S w.drew → wpHead P .any l.toArray Q S n (Tail P .any l.toArray Q n (l.drop n)) n (Array.replicate l.length false) a w.drew) : (Code.region id l.toArray true).wp P Q a w := by
 refine wp_region_any hm ?_
 have hn : n < l.toArray.size := by
  unfold phaseB at hB
  simp only [Bool.and_eq_true, decide_eq_true_eq] at hB
  exact hB.1.1.2
 have hsz : l.toArray.size = n + (l.drop n).length := by simp at hn ⊢; omega
 rw [hsz]
 have := wpAny_of_wpHead (P := P) (md := .any) (ops := l.toArray) (Q := Q) (S := S) (n := n) (g := (l.drop n).length) (T := Tail P .any l.toArray Q n (l.drop n)) (fun listed a w ht => wpAny_of_seq (l.drop n) n listed a w (fun j => by simp) ht.1 ht.2) n _ _ _ (h hS)
 rw [show l.length = n + (l.drop n).length from List.size_toArray.symm.trans hsz] at this
 exact this
theorem wpHead_take {i : Nat} {oi : Oper} {v : Value} {fuel : Nat} {listed : Array Bool} {a : Act} {w : World} {tail : List Oper} (hi : ops[i]? = some oi) (hB : phaseB md ops n = true)
 (hb : (decide (i < n) && headB md ops n listed && Region.free md ops listed i && (Region.ready md ops listed).contains i) = true)
 (hQ : ∀ c a w, Q (.panic c) (a.put oi.dst v) w → Q (.panic c) a w) (hy : YieldsIf P ops S oi v a) (hS : S w)
 (h : wpHead P md ops Q S n (Tail P md ops Q n tail) fuel (listed.setIfInBounds i true) (a.put oi.dst v) w) : wpHead P md ops Q S n (Tail P md ops Q n tail) (fuel + 1) listed a w := by
 unfold phaseB at hB
 simp only [Bool.and_eq_true, decide_eq_true_eq] at hB hb
 obtain ⟨⟨⟨hb1, hb2⟩, hb3⟩, hb4⟩ := hb
 exact wpHead_first hi (Region.noSelect_spec hB.1.1.1) hQ hB.1.2 hB.2 hB.1.1.2 hb1 (fun listed a w ht => seqB_ready ht.1) fuel listed a w (headB_spec hb2) (Region.free_spec hi hb3) (by simpa using hb4) hy hS h
theorem name_head {f : Nat} {listed : Array Bool} {a : Act} {w : World} (h : ∀ w', w = w' → wpHead P md ops Q S n T f listed a w') : wpHead P md ops Q S n T f listed a w := h w rfl
theorem name_world {K : Act → World → Prop} {a : Act} {w : World} (h : ∀ w', w = w' → K a w') : K a w := h w rfl
theorem Sl.of_row {w : World} {g t : Nat} {l : List Value} {fr : Nat × Nat} (h : w.heap[g]? = some (.cells l.toArray t fr)) : Sl w (some ⟨g, 0, none⟩) l := by
 intro k v hk
 refine ⟨_, rfl, ?_⟩
 have : (⟨g, 0, none⟩ : Addr).add k = ⟨g, k, none⟩ := by unfold Addr.add; split <;> simp_all
 rw [this, cell_of_row _ _ k l.toArray t fr h]
 simpa using hk
def AllHead (P : Program) (md : Region.Mode) (ops : Array Oper) (Q : Exit → Act → World → Prop) (S : World → Prop) (n : Nat) (T : Array Bool → Act → World → Prop) (fuel : Nat) (listed : Array Bool) (a : Act) (w : World) (rs : List Nat) : Prop :=
 ∀ i ∈ rs, wpOp P ops Q i (fun a' w' => S w' ∧ wpHead P md ops Q S n T fuel (listed.setIfInBounds i true) a' w') a w
theorem AllHead.nil {fuel : Nat} {listed : Array Bool} {a : Act} {w : World} : AllHead P md ops Q S n T fuel listed a w [] := fun _ h => by cases h
theorem AllHead.cons {fuel : Nat} {listed : Array Bool} {a : Act} {w : World} {i : Nat} {o : Oper} {rs : List Nat} (ho : ops[i]? = some o)
 (h : ∀ K' : Act → World → Prop, Shut (∀ a w, S w → (S w → wpHead P md ops Q S n T fuel (listed.setIfInBounds i true) a w) → K' a w) → if Region.wanted o (yielded ops a.tmps) = true then Oper.wp P o a w K' Q else K' (a.put o.dst undef) w)
 (hs : AllHead P md ops Q S n T fuel listed a w rs) : AllHead P md ops Q S n T fuel listed a w (i :: rs) := fun j hj => by
 rcases List.mem_cons.1 hj with rfl | hj
 ·exact wpOp_step ho (fun K' hK => h K' (fun a w hS hW => hK a w ⟨hS, hW hS⟩))
 ·exact hs j hj
theorem wpHead_ready {rs : List Nat} {fuel : Nat} {listed : Array Bool} {a : Act} {w : World} (hr : Region.ready md ops listed = rs) (hne : rs ≠ []) (hlt : (rs.all fun i => decide (i < n)) = true)
 (h : AllHead P md ops Q S n T fuel listed a w rs) : wpHead P md ops Q S n T (fuel + 1) listed a w := by
 subst hr
 exact ⟨hne, fun i hi => ⟨by simpa using List.all_eq_true.1 hlt i hi, h i hi⟩⟩
theorem wpHead_done {listed : Array Bool} {a : Act} {w : World} {tail : List Oper} (hs : Region.seqB md ops tail.length n listed = true) (h : wpList P ops Q tail a w) : wpHead P md ops Q S n (Tail P md ops Q n tail) 0 listed a w := ⟨hs, h⟩
end
end Go.Proofs.YthlppbbejdeeoaaGreatDoor
namespace Go.Proofs.YthlppbbejdeeoaaGreatDoor
open Go.RowKit
section
variable {P : Program} {ops : Array Oper} {Q : Exit → Act → World → Prop} {a : Act} {w : World} {K : Act → World → Prop} {E : Prop}
theorem step_callG {o : Oper} {f : Nat} {args : Array Value} {R : Ending → World → Prop} (hw : Region.wanted o (yielded ops a.tmps) = true) (hrun : (execOp a.eval o).run P w = .ok (.enter f args) w) (hc : Calls P f args w R)
 (h : ∀ e w'', R e w'' → ∃ v, e = .returned v ∧ K (a.put o.dst v) w'') : if Region.wanted o (yielded ops a.tmps) = true then Oper.wp P o a w K Q else E := by
 rw [if_pos hw]
 unfold Oper.wp
 rw [hrun, Oper.upon_enter]
 refine hc.mono fun e w'' hh => ?_
 obtain ⟨v, rfl, hk⟩ := h e w'' hh
 exact hk
end
end Go.Proofs.YthlppbbejdeeoaaGreatDoor
namespace Go.Proofs.YthlppbbejdeeoaaGreatDoor
open Go.RowKit
theorem red {α : Type} : (∀ (l : List α) (i : Nat) (h : i < l.toArray.size), l.toArray[i] = l[i]'(by simpa using h)) ∧ (∀ (a : α) (l : List α) (i : Nat) (h : i + 1 < (a :: l).length), (a :: l)[i + 1] = l[i]'(by simpa using h)) ∧
 (∀ (a : α) (l : List α) (h : 0 < (a :: l).length), (a :: l)[0] = a) ∧ (∀ (l : List α) (i : Nat) (a : α), l.toArray.setIfInBounds i a = (l.set i a).toArray) ∧ (∀ (a b : α) (l : List α), (a :: l).set 0 b = b :: l) ∧ (∀ (a b : α) (l : List α) (n : Nat), (a :: l).set (n + 1) b = a :: l.set n b) :=
 ⟨fun _ _ _ => List.getElem_toArray .., fun _ _ _ _ => List.getElem_cons_succ .., fun _ _ _ => List.getElem_cons_zero .., fun _ _ _ => List.setIfInBounds_toArray .., fun _ _ _ => List.set_cons_zero .., fun _ _ _ _ => List.set_cons_succ ..⟩
section
variable {P : Program} {ops : Array Oper} {Q : Exit → Act → World → Prop} {md : Region.Mode} {S : World → Prop} {n : Nat}
/-- an operation that yields a value in each world that is held -/
theorem wt (i : Nat) {oi : Oper} (v : Value) {fuel : Nat} {listed : Array Bool} {a : Act} {w : World} {tail : List Oper}
 (h : wpHead P md ops Q S n (Tail P md ops Q n tail) fuel (listed.setIfInBounds i true) (a.put oi.dst v) w)
 (hi : ops[i]? = some oi := by rfl) (hB : phaseB md ops n = true := by kernel_rfl)
 (hb : (decide (i < n) && headB md ops n listed && Region.free md ops listed i && (Region.ready md ops listed).contains i) = true := by kernel_rfl)
 (hQ : ∀ c a w, Q (.panic c) (a.put oi.dst v) w → Q (.panic c) a w := by exact fun _ _ _ h => h) (hw : Region.wanted oi (yielded ops a.tmps) = true := by rfl) (hS : S w := by assumption)
 (hy : ∀ w, S w → (execOp a.eval oi).run P w = .ok (.value v) w := by intro w hSw; first | (go_simp; done) | (go_simp; with_reducible rfl)) :
 wpHead P md ops Q S n (Tail P md ops Q n tail) (fuel + 1) listed a w := wpHead_take hi hB hb hQ (.inl ⟨hw, hy⟩) hS h
/-- the same, where what it yields is told -/
theorem wy (i : Nat) {oi : Oper} {v : Value} {fuel : Nat} {listed : Array Bool} {a : Act} {w : World} {tail : List Oper} (hi : ops[i]? = some oi) (hy : YieldsIf P ops S oi v a)
 (h : wpHead P md ops Q S n (Tail P md ops Q n tail) fuel (listed.setIfInBounds i true) (a.put oi.dst v) w)
 (hB : phaseB md ops n = true := by kernel_rfl)
 (hb : (decide (i < n) && headB md ops n listed && Region.free md ops listed i && (Region.ready md ops listed).contains i) = true := by kernel_rfl)
 (hQ : ∀ c a w, Q (.panic c) (a.put oi.dst v) w → Q (.panic c) a w := by exact fun _ _ _ h => h) (hS : S w := by assumption) :
 wpHead P md ops Q S n (Tail P md ops Q n tail) (fuel + 1) listed a w := wpHead_take hi hB hb hQ hy hS h
/-- an operation whose guard is false -/
theorem ws (i : Nat) {oi : Oper} {fuel : Nat} {listed : Array Bool} {a : Act} {w : World} {tail : List Oper}
 (h : wpHead P md ops Q S n (Tail P md ops Q n tail) fuel (listed.setIfInBounds i true) (a.put oi.dst undef) w)
 (hi : ops[i]? = some oi := by rfl) (hB : phaseB md ops n = true := by kernel_rfl)
 (hb : (decide (i < n) && headB md ops n listed && Region.free md ops listed i && (Region.ready md ops listed).contains i) = true := by kernel_rfl)
 (hQ : ∀ c a w, Q (.panic c) (a.put oi.dst undef) w → Q (.panic c) a w := by exact fun _ _ _ h => h) (hw : Region.wanted oi (yielded ops a.tmps) = false := by rfl) (hS : S w := by assumption) :
 wpHead P md ops Q S n (Tail P md ops Q n tail) (fuel + 1) listed a w := wpHead_take hi hB hb hQ (.inr ⟨hw, rfl⟩) hS h
/-- which operations may come next -/
theorem rd (rs : List Nat) {T : Array Bool → Act → World → Prop} {fuel : Nat} {listed : Array Bool} {a : Act} {w : World} (h : AllHead P md ops Q S n T fuel listed a w rs)
 (hr : Region.ready md ops listed = rs := by kernel_rfl) (hne : rs ≠ [] := by simp) (hlt : (rs.all fun i => decide (i < n)) = true := by kernel_rfl) : wpHead P md ops Q S n T (fuel + 1) listed a w := wpHead_ready hr hne hlt h
theorem ac {T : Array Bool → Act → World → Prop} {fuel : Nat} {listed : Array Bool} {a : Act} {w : World} {i : Nat} {o : Oper} {rs : List Nat}
 (h : ∀ K' : Act → World → Prop, Shut (∀ a w, S w → (S w → wpHead P md ops Q S n T fuel (listed.setIfInBounds i true) a w) → K' a w) → if Region.wanted o (yielded ops a.tmps) = true then Oper.wp P o a w K' Q else K' (a.put o.dst undef) w)
 (hs : AllHead P md ops Q S n T fuel listed a w rs) (ho : ops[i]? = some o := by rfl) : AllHead P md ops Q S n T fuel listed a w (i :: rs) := AllHead.cons ho h hs
end
end Go.Proofs.YthlppbbejdeeoaaGreatDoor
namespace Go.Proofs.YthlppbbejdeeoaaGreatDoor
open Go.RowKit
/-- the blocks of these types have not turned -/
def Stp (ts : List Nat) (w w' : World) : Prop := w.heap.size ≤ w'.heap.size ∧ ∀ (k : Nat) cs t fr, w.heap[k]? = some (.cells cs t fr) → t ∈ ts → w'.heap[k]? = some (.cells cs t fr)
section
variable {ts us : List Nat} {w w' w'' : World}
theorem Stp.trans (h : Stp ts w w') (k : Stp ts w' w'') : Stp ts w w'' := ⟨Nat.le_trans h.1 k.1, fun a cs t fr h1 h2 => k.2 a cs t fr (h.2 a cs t fr h1 h2) h2⟩
theorem Stp.of_ext (h : Ext w w') : Stp ts w w' := ⟨h.size, fun _ _ _ _ h1 _ => h.obj h1⟩
theorem Stp.less (h : Stp ts w w') (hs : ∀ t ∈ us, t ∈ ts) : Stp us w w' := ⟨h.1, fun a cs t fr h1 h2 => h.2 a cs t fr h1 (hs t h2)⟩
theorem Stp.kept {M : List Nat} (h : Kept M w w') (hM : ∀ k ∈ M, k < w.heap.size → ∃ cs t fr, w.heap[k]? = some (.cells cs t fr) ∧ t ∉ ts) : Stp ts w w' :=
 ⟨h.size, fun a cs t fr h1 h2 => by
  by_cases ha : a ∈ M
  ·obtain ⟨cs', t', fr', h3, h4⟩ := hM a ha (obj_lt h1)
   rw [h1] at h3
   cases h3
   exact absurd h2 h4
  ·exact h.heap h1 ha⟩
theorem Stp.grown {row : Option Nat} (h : w.grownBy w' row) (hr : ∀ g, row = some g → g < w.heap.size → ∃ cs t fr, w.heap[g]? = some (.cells cs t fr) ∧ t ∉ ts) : Stp ts w w' :=
 ⟨h.size, fun a cs t fr h1 h2 => by
  by_cases ha : row = some a
  ·obtain ⟨cs', t', fr', h3, h4⟩ := hr a ha (obj_lt h1)
   rw [h1] at h3
   cases h3
   exact absurd h2 h4
  ·exact (h.block a (obj_lt h1) (fun e => ha e.symm)).trans h1⟩
end
theorem owns_stp {w w' : World} {base e size n : Nat} {v : Value} {xs : List Value} {ts : List Nat} (h : w.ownsRow base e size v n xs) (hs : Stp ts w w') (he : e ∈ ts) : w'.ownsRow base e size v n xs := by
 refine ⟨h.1, ?_⟩
 rcases h.2 with h0 | ⟨g, cap, cur, h1, h2, h3, h4⟩
 ·exact .inl h0
 ·exact .inr ⟨g, cap, cur, h1, h2, hs.2 g _ _ _ h3 he, h4⟩
theorem Own.stp {w w' : World} {base : Nat} {v : Value} {l : By} {ts : List Nat} (h : Own w base v l) (hs : Stp ts w w') (he : 5 ∈ ts) : Own w' base v l := owns_stp h hs he
/-- a row of the call's own, each element by s cells that say something -/
def OwnG {α : Type} (S : World → List Value → α → Prop) (s e : Nat) (w : World) (base : Nat) (v : Value) (xs : List α) : Prop :=
 ∃ css : List (List Value), css.length = xs.length ∧ (∀ cs ∈ css, cs.length = s) ∧ w.ownsRow base e s v xs.length css.flatten ∧ ∀ (k : Nat) (cs : List Value) (x : α), css[k]? = some cs → xs[k]? = some x → S w cs x
section
variable {α : Type} {S : World → List Value → α → Prop} {s e base : Nat} {w w' : World} {v : Value} {xs : List α}
theorem OwnG.nil (S : World → List Value → α → Prop) (s e : Nat) (w : World) (base : Nat) : OwnG S s e w base (.slice none 0 0) [] := ⟨[], rfl, by simp, World.ownsRow_nil _ _ _ _, by simp⟩
theorem OwnG.form (h : OwnG S s e w base v xs) : ∃ A cap, v = .slice A xs.length cap := by
 obtain ⟨css, _, _, h3, _⟩ := h
 exact own_form h3
theorem OwnG.stp {ts : List Nat} (h : OwnG S s e w base v xs) (hs : Stp ts w w') (he : e ∈ ts) (hS : ∀ cs x, S w cs x → S w' cs x) : OwnG S s e w' base v xs := by
 obtain ⟨css, h1, h2, h3, h4⟩ := h
 exact ⟨css, h1, h2, owns_stp h3 hs he, fun k cs x a b => hS cs x (h4 k cs x a b)⟩
theorem OwnG.low {b2 : Nat} (h : OwnG S s e w base v xs) (hb : b2 ≤ base) : OwnG S s e w b2 v xs := by
 obtain ⟨css, h1, h2, h3, h4⟩ := h
 exact ⟨css, h1, h2, owns_low h3 hb, h4⟩
theorem OwnG.push {css : List (List Value)} {x : α} {c : List Value} (h1 : css.length = xs.length) (h2 : ∀ cs ∈ css, cs.length = s) (h3 : w'.ownsRow base e s v (xs.length + 1) (css.flatten ++ c))
 (h4 : ∀ (k : Nat) (cs : List Value) (x : α), css[k]? = some cs → xs[k]? = some x → S w' cs x) (hc : c.length = s) (hx : S w' c x) : OwnG S s e w' base v (xs ++ [x]) := by
 refine ⟨css ++ [c], by simp [h1], ?_, by simpa using h3, ?_⟩
 ·intro d hd
  rcases List.mem_append.1 hd with h | h
  ·exact h2 d h
  ·simp at h; subst h; exact hc
 ·intro k d z hk hz
  rw [List.getElem?_append] at hk hz
  by_cases hlt : k < css.length
  ·rw [if_pos hlt] at hk
   rw [if_pos (by omega)] at hz
   exact h4 k d z hk hz
  ·rw [if_neg hlt] at hk
   rw [if_neg (by omega)] at hz
   have hk0 : k - css.length = 0 := by
    rcases Nat.eq_zero_or_pos (k - css.length) with h | h
    ·exact h
    ·rw [List.getElem?_eq_none (by simp; omega)] at hk; cases hk
   rw [hk0] at hk
   rw [show k - xs.length = 0 by omega] at hz
   simp at hk hz
   subst hk hz
   exact hx
end
/-- a call, guarded or not, that may end in a panic, as one step of a region that draws its order -/
theorem step_callP {P : Program} {ops : Array Oper} {Q : Exit → Act → World → Prop} {a : Act} {w : World} {K : Act → World → Prop} {E : Prop} {o : Oper} {f : Nat} {args : Array Value} {R : Ending → World → Prop} (hw : Region.wanted o (yielded ops a.tmps) = true) (hrun : (execOp a.eval o).run P w = .ok (.enter f args) w) (hc : Calls P f args w R)
 (h : ∀ e w'', R e w'' → (∃ v, e = .returned v ∧ K (a.put o.dst v) w'') ∨ (∃ ch, e = .panicked ch ∧ Q (.panic ch) a w'')) : if Region.wanted o (yielded ops a.tmps) = true then Oper.wp P o a w K Q else E := by
 rw [if_pos hw]
 unfold Oper.wp
 rw [hrun, Oper.upon_enter]
 refine hc.mono fun e w'' hh => ?_
 rcases h e w'' hh with ⟨v, rfl, hk⟩ | ⟨ch, rfl, hk⟩
 ·exact hk
 ·exact hk
/-! ## deeds -/
def SDd (base : Nat) (w : World) (cs : List Value) (d : Dd) : Prop := ∃ pv, cs = (ddC d pv).toList ∧ Own w base pv d.bytes
def OwnDs (w : World) (base : Nat) (v : Value) (ds : List Dd) : Prop := OwnG (SDd base) 10 90 w base v ds
theorem SDd.stp {base : Nat} {w w' : World} {cs : List Value} {d : Dd} {ts : List Nat} (h : SDd base w cs d) (hs : Stp ts w w') (he : 5 ∈ ts) : SDd base w' cs d := by
 obtain ⟨pv, h1, h2⟩ := h
 exact ⟨pv, h1, h2.stp hs he⟩
theorem OwnDs.stp {base : Nat} {w w' : World} {v : Value} {ds : List Dd} (h : OwnDs w base v ds) (hs : Stp [5, 90] w w') : OwnDs w' base v ds :=
 OwnG.stp h hs (by simp) fun _ _ hx => hx.stp hs (by simp)
theorem deedT : ElemOf Tryz.prog 27 90 10 120 := ElemOf.mk' (z := .agg zDeed) Tryz.underlying27 (by kernel_rfl) rfl (by omega)
theorem ddC_one (d : Dd) (A : Option Addr) (n c : Nat) : ∀ u ∈ (ddC d (.slice A n c)).toList, u.oneCell' = true := by
 intro u hu
 simp only [ddC, List.mem_cons, List.not_mem_nil, or_false] at hu
 rcases hu with rfl | rfl | rfl | rfl | rfl | rfl | rfl | rfl | rfl | rfl <;> rfl
def VDs (O base : Nat) (ds : List Dd) (w : World) : Prop := ∃ v, w.heap[O]? = some (.cells #[v] 27 (0, 0)) ∧ OwnDs w base v ds
theorem VDs.low {O base b2 : Nat} {ds : List Dd} {w : World} (h : VDs O base ds w) (hb : b2 ≤ base) : VDs O b2 ds w := by
 obtain ⟨v, h1, css, h2, h3, h4, h5⟩ := h
 refine ⟨v, h1, css, h2, h3, owns_low h4 hb, fun k cs x a b => ?_⟩
 obtain ⟨pv, h6, h7⟩ := h5 k cs x a b
 exact ⟨pv, h6, h7.low hb⟩
theorem Sl.row {w : World} {g : Nat} {cs : Array Value} {t : TypeId} {fr : Nat × Nat} (h : w.heap[g]? = some (.cells cs t fr)) : Sl w (some ⟨g, 0, none⟩) cs.toList := by
 intro k v hk
 refine ⟨_, rfl, ?_⟩
 have : (⟨g, 0, none⟩ : Addr).add k = ⟨g, k, none⟩ := by unfold Addr.add; split <;> simp_all
 rw [this, cell_of_row _ _ k cs t fr h]
 simpa using hk
theorem Kept.row {w w' : World} {base e s n : Nat} {v : Value} {xs : List Value} (ho : w.ownsRow base e s v n xs) (hg : w.grownBy w' v.ownBlock) : ∃ N, Kept N w w' ∧ (∀ k ∈ N, base ≤ k ∧ ∃ cs, w.heap[k]? = some (.cells cs e (0, 0))) := by
 rcases ho.2 with ⟨rfl, _⟩ | ⟨g, cap, cur, rfl, h2, h3, _⟩
 ·exact ⟨[], ⟨hg.os, hg.tape, hg.output, hg.size, fun k hk _ => hg.block k hk (by simp [Value.ownBlock])⟩, by simp⟩
 ·refine ⟨[g], ⟨hg.os, hg.tape, hg.output, hg.size, fun k hk hn => hg.block k hk (by simp [Value.ownBlock] at hn ⊢; exact hn)⟩, ?_⟩
  intro k hk
  simp at hk
  subst hk
  exact ⟨h2, cur, h3⟩
theorem obj_ne {w : World} {a b : Nat} {cs cs' : Array Value} {t t' : TypeId} {fr fr' : Nat × Nat} (h : w.heap[a]? = some (.cells cs t fr)) (h' : w.heap[b]? = some (.cells cs' t' fr')) (hne : t ≠ t') : a ≠ b := by
 rintro rfl
 rw [h] at h'
 cases h'
 exact hne rfl
theorem repA_step {α : Type} {p : Prs α} {n i : Nat} {acc : List α} {l : By} {res : Nat ⊕ (List α × By)} (h : repA p (n - i) acc l = res) (hi : i < n) :
 (∀ k, p l = .inl k → res = .inl k) ∧ ∀ a r, p l = .inr (a, r) → repA p (n - (i + 1)) (acc ++ [a]) r = res := by
 rw [show n - i = (n - (i + 1)) + 1 by omega] at h
 unfold repA andP at h
 constructor
 ·intro k hk
  rw [hk] at h
  exact h.symm
 ·intro a r hk
  rw [hk] at h
  exact h
theorem le_deed {a : Dd} {l r : By} (h : deedP l = .inr (a, r)) : r.length ≤ l.length := by
 have := congrArg List.length (Rt.deed.got _ _ _ h).1
 simp only [List.length_append] at this
 omega
set_option maxRecDepth 20000 in
set_option maxHeartbeats 4000000 in
theorem TakeAll1_any (w0 w : World) (R O : Nat) (l : By) (h : RAt w0 w R l) (hl : l.length ≤ 2000) (hO : w.heap[O]? = some (.cells #[.slice none 0 0] 27 (0, 0))) (hO0 : w0.heap.size ≤ O) (hOR : O ≠ R) :
 Calls Tryz.prog 70 #[pt R, pt O] w (DoSays (allP l) (VDs O w0.heap.size) (fun w' => ∃ ds, VDs O w0.heap.size ds w') w0 w R O) := by
 have HN := rnum_any w0 w R 1 l h (by omega)
 have HX := h.e
 unfold pt at *
 cases hp : numP 1 l with
 | inl k =>
  have HP : Hid (allP l = .inl k) := Lib.hid (by unfold allP andP; rw [hp])
  unfold Reads at HN
  rw [hp] at HN
  clear hp h
  go_enter Tryz.func70, Tryz.ntmps70
  go_wp2_with fail
  refine HN.mono ?_
  rintro e w1 ⟨he, hk, hx⟩
  unfold Pan fv at he
  subst he
  go_wp2
  unfold DoSays
  rw [HP.out]
  exact ⟨rfl, rfl, hk.mono (by simp), hx, [], _, hk.heap hO (by simpa using hOR), OwnG.nil _ _ _ _ _⟩
 | inr q =>
  obtain ⟨n, r⟩ := q
  unfold Reads at HN
  rw [hp] at HN
  by_cases hn : 1 ≤ n ∧ n ≤ 12
  ·have HP : Hid (allP l = repA deedP n [] r) := Lib.hid (by unfold allP; rw [andP_put hp]; unfold mustP andP; simp [hn])
   have HM := must_any true
   have h1 : (1 : Int) ≤ (n : Int) := by omega
   have h2 : (n : Int) ≤ 12 := by omega
   have hrl := le_num hp
   clear hp h hn
   go_enter Tryz.func70, Tryz.ntmps70
   go_wp2_with fail
   refine HN.mono ?_
   rintro e w1 ⟨⟨v, rfl, rfl⟩, hr, hk⟩
   have hO1 := hk.heap hO (by simpa using hOR)
   have hk1 : Kept [R, O] w w1 := hk.mono (by simp)
   clear hk HN hO
   go_wp2_with fail
   refine (HM w1).mono ?_
   rintro e w2 ⟨he, rfl⟩
   unfold MustSays at he
   subst he
   clear HM
   go_wp2
   go_loopw [14] (fun iv wr => ∃ (i : Nat) (acc : List Dd) (l' : By), iv = .int .i64 i ∧ i ≤ n ∧ acc.length = i ∧ RAt w0 wr R l' ∧ Kept [R, O] w wr ∧ VDs O w.heap.size acc wr ∧ repA deedP (n - i) acc l' = allP l ∧ l'.length ≤ 2000) (fun iv _ => n - (intOf iv).toNat)
   case atStart => exact ⟨0, [], r, rfl, by omega, rfl, hr, hk1, ⟨_, hO1, OwnG.nil _ _ _ _ _⟩, HP.out.symm, by omega⟩
   case round =>
    clear hr hk1 hO1
    obtain ⟨i, acc, l', rfl, hin, hacc, hr, hk, ⟨v, hOv, hds⟩, hrun, hll⟩ := hrel
    have hal : acc.length ≤ 12 := by omega
    have HACC := Lib.hid hacc
    clear hacc
    by_cases hlt : i < n
    ·obtain ⟨s1, s2⟩ := repA_step hrun hlt
     have HD := fun w1 (hr1 : RAt w0 w1 R l') => rdeed_any w0 w1 R l' hr1 (by omega)
     unfold pt at HD
     have hRlt := hr.lt
     have hOlt := obj_lt hOv
     have CO : ∀ w', Kept [R] wr w' → w'.cell? ⟨O, 0, none⟩ = some v := fun w' hk' => by rw [cell_of_row w' O 0 _ _ _ (hk'.heap hOv (by simpa using hOR))]; rfl
     have hS0 : Kept [R] wr wr := .refl _ _
     have HR := Lib.hid hr
     have HDS := Lib.hid hds
     clear hds hr
     go_wp2_with fail
     refine wp_region_phase (S := fun w' => Kept [R] wr w') 4 (by kernel_rfl) (by kernel_rfl) ?_ (fun hHeld => ?_)
     ·exact hS0.drew
     simp only [List.drop_succ_cons, List.drop_zero]
     refine name_head ?_
     intro wr0 hw0
     rw [hw0] at hHeld
     refine wt 0 _ ?_
     simp only [red, Act.put]
     refine wt 1 _ ?_
     simp only [red, Act.put]
     refine rd [2] ?_
     refine ac (fun K hK => ?_) ?_
     ·refine step_callP (by rfl) (by kernel_rfl) (HD _ (HR.out.ext (hw0 ▸ (Ext.refl wr).drew))) ?_
      rintro e wr2 hq
      unfold Reads at hq
      rcases hpd : deedP l' with k | ⟨d, r'⟩
      ·rw [hpd] at hq
       obtain ⟨he, hkd, hxd⟩ := hq
       unfold Pan fv at he
       refine Or.inr ⟨_, he, ?_⟩
       simp only [Exit.inBlock, Exit.then]
       have hQ : DoSays (allP l) (VDs O w0.heap.size) (fun w' => ∃ ds, VDs O w0.heap.size ds w') w0 w R O (.panicked [{ v := .iface 126 (.agg #[.int .i64 (k : Nat)]), recovered := false }]) wr2 := by
        unfold DoSays
        rw [s1 k hpd]
        exact ⟨rfl, (hk.trans (hHeld.mono (by simp))).trans (hkd.mono (by simp)), hxd, acc, VDs.low ⟨v, (hHeld.trans hkd).heap hOv (by simpa using hOR), HDS.out.stp (.kept (hHeld.trans hkd) (by intro k hk hlt; simp at hk; subst hk; obtain ⟨_, _, _, _, hrowR, _, _⟩ := HR.out; exact ⟨_, _, _, hrowR, by decide⟩))⟩ HX.size⟩
       exact ⟨rfl, hQ⟩
      rw [hpd] at hq
      obtain ⟨⟨dv, rfl, pv, rfl, hov⟩, hrd, hkd⟩ := hq
      obtain ⟨A, c, rfl⟩ := hov.form
      unfold ddC
      refine Or.inl ⟨_, rfl, ?_⟩
      refine hK.out _ _ ?_ (fun hHeld => ?_)
      ·exact hHeld.trans hkd
      clear hK K
      try simp only [red, Act.put]
      refine rd [3] ?_
      refine ac (fun K hK => ?_) ?_
      ·go_simp
       refine name_world ?_
       rintro wr3 hw3
       have hxn3 : Ext wr2 wr3 := hw3 ▸ (Ext.refl _).alloc _
       have hrow3 : wr3.heap[wr2.heap.size]? = some (.cells (ddC d (.slice A d.bytes.length c)) 90 (0, 0)) := hw3 ▸ heap_alloc_new wr2 _
       refine hK.out _ _ ?_ (fun hHeld => ?_)
       ·exact hHeld.ext hxn3
       clear hK K
       try simp only [red, Act.put]
       refine wpHead_done (by kernel_rfl) ?_
       obtain ⟨_, _, _, _, hrowR, _, _⟩ := HR.out
       have hst : Stp [5, 90] wr wr3 := .kept hHeld (by intro k hk hlt; simp at hk; subst hk; exact ⟨_, _, _, hrowR, by decide⟩)
       obtain ⟨css, q1, q2, q3, q4⟩ := HDS.out.stp hst
       have hO3 := hHeld.heap hOv (by simpa using hOR)
       have hrd3 := hrd.ext hxn3
       obtain ⟨_, hx3, _, _, hrowR3, _, _⟩ := hrd3
       have hx03 := hk.size
       refine wpList_app deedT q3 (Sl.row hrow3) rfl rfl rfl rfl rfl (ddC_one d A d.bytes.length c) (by omega) (by omega) (by have := hHeld.size; omega) ?_
       intro v' w5 ho5 hg5 _
       obtain ⟨A5, c5, rfl⟩ := own_form ho5
       obtain ⟨N, hkN, hN⟩ := Kept.row q3 hg5
       have hON : O ∉ N := fun hm => by obtain ⟨_, cs, hc⟩ := hN O hm; exact obj_ne hc hO3 (by decide) rfl
       have hRN : R ∉ N := fun hm => by obtain ⟨_, cs, hc⟩ := hN R hm; exact obj_ne hc hrowR3 (by decide) rfl
       have hO5 := hkN.heap hO3 hON
       have hst5 : Stp [5] wr3 w5 := .kept hkN (by intro k hk _; obtain ⟨_, cs, hc⟩ := hN k hk; exact ⟨_, _, _, hc, by decide⟩)
       obtain ⟨C5, F5⟩ := row1_cell hO5
       have hset := heap_setCell_same w5 O 0 _ _ (.slice A5 (acc.length + 1) c5) hO5
       have hkS : Kept [O] w5 (w5.setCell ⟨O, 0, none⟩ (.slice A5 (acc.length + 1) c5)) := (Kept.refl _ _).setCell (.inl (by simp)) _
       have hstS : Stp [5, 90] w5 (w5.setCell ⟨O, 0, none⟩ (.slice A5 (acc.length + 1) c5)) := .kept hkS (by intro k hk _; simp at hk; subst hk; exact ⟨_, _, _, hO5, by decide⟩)
       have hst8 := hst5.trans (hstS.less (us := [5]) (by simp))
       have hds6 : OwnDs (w5.setCell ⟨O, 0, none⟩ (.slice A5 (acc.length + 1) c5)) w.heap.size (.slice A5 (acc.length + 1) c5) (acc ++ [d]) := OwnG.push q1 q2 (owns_stp ho5 hstS (by simp)) (fun k cs x a b => (q4 k cs x a b).stp hst8 (by simp)) rfl
        ⟨_, rfl, ((hov.ext hxn3).low (by have := hk.size; have := (hw0 ▸ Nat.le_refl _ : wr.heap.size ≤ wr0.heap.size); omega)).stp hst8 (by simp)⟩
       have hr6 : RAt w0 (w5.setCell ⟨O, 0, none⟩ (.slice A5 (acc.length + 1) c5)) R r' := ((hrd.ext hxn3).kept hkN hRN (fun k hk => Nat.le_trans HX.size (hN k hk).1)).kept hkS (by simp; exact hOR.symm) (by intro k hk; simp at hk; omega)
       have hk6 : Kept [R, O] w (w5.setCell ⟨O, 0, none⟩ (.slice A5 (acc.length + 1) c5)) := Kept.less (M := [R, O] ++ N) (((hk.mono (by simp)).trans (hHeld.mono (by simp))).trans ((hkN.mono (by intro k hk; simp [hk])).trans (hkS.mono (by simp)))) (by
        intro k hk hlt
        simp only [List.mem_append] at hk
        rcases hk with hk | hk
        ·exact hk
        ·have := (hN k hk).1; omega)
       have hrun6 := s2 d r' hpd
       have hle6 := le_deed hpd
       go_wp2
       go_roundw
       case rel => exact ⟨i + 1, acc ++ [d], r', by go_num, by omega, by simp [HACC.out], hr6, hk6, ⟨_, hset, hds6⟩, hrun6, by omega⟩
       case measure => simp [intOf]; omega
      exact AllHead.nil
     exact AllHead.nil
    ·have hi : n - i = 0 := by omega
     rw [hi] at hrun
     have HF := Lib.hid hrun
     clear hrun
     go_wp2
     go_end0
     unfold DoSays
     rw [← HF.out]
     exact ⟨rfl, VDs.low ⟨v, hOv, hds⟩ HX.size, hr, hk⟩
  ·have HP : Hid (allP l = .inl 4) := Lib.hid (by unfold allP; rw [andP_put hp]; unfold mustP andP; simp [hn])
   have HM := must_any false
   clear hp h
   by_cases h1 : (1 : Int) ≤ (n : Int)
   ·have h2 : ¬ (n : Int) ≤ 12 := by omega
    clear hn
    go_enter Tryz.func70, Tryz.ntmps70
    go_wp2_with fail
    refine HN.mono ?_
    rintro e w1 ⟨⟨v, rfl, rfl⟩, hr, hk⟩
    go_wp2_with fail
    rw [decide_eq_false (show ¬ (n : Int) ≤ 12 by omega)]
    refine (HM w1).mono ?_
    rintro e w2 ⟨he, rfl⟩
    unfold MustSays Pan fv at he
    subst he
    have hx1 := hr.e
    go_wp2
    unfold DoSays
    rw [HP.out]
    exact ⟨rfl, rfl, hk.mono (by simp), hx1, [], _, hk.heap hO (by simpa using hOR), OwnG.nil _ _ _ _ _⟩
   ·have h2 : ¬ (n : Int) < 0 := by omega
    clear hn
    go_enter Tryz.func70, Tryz.ntmps70
    go_wp2_with fail
    refine HN.mono ?_
    rintro e w1 ⟨⟨v, rfl, rfl⟩, hr, hk⟩
    go_wp2_with fail
    skip
    refine (HM w1).mono ?_
    rintro e w2 ⟨he, rfl⟩
    unfold MustSays Pan fv at he
    subst he
    have hx1 := hr.e
    go_wp2
    unfold DoSays
    rw [HP.out]
    exact ⟨rfl, rfl, hk.mono (by simp), hx1, [], _, hk.heap hO (by simpa using hOR), OwnG.nil _ _ _ _ _⟩
end Go.Proofs.YthlppbbejdeeoaaGreatDoor
