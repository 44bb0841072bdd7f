/- A whole struct out of a slice, as the walk's list meets it. It holds for every program and world; the conditions are the hypotheses of the theorem. A region that draws its order, whose last operations wait for all others: the others come in whatever order, under a condition S on the world that holds behind each of them; the last come one behind the other, and S is not asked of them. Each holds for every program; the conditions are the hypotheses of each theorem. Transactions in memory; the walks of slices.Clone, IndexFunc, DeleteFunc, Delete at them, and of the closures that coord hands over. Conditions: the hypotheses of each theorem. The walks of slices.DeleteFunc and slices.Delete at transactions, on a row of the call's own. Conditions: the hypotheses of each theorem. The walks of slices.Delete at transactions; of the tests of shards (slices.IndexFunc, ContainsFunc, Contains, Equal at ints); of coord.tx.all. Conditions: the hypotheses of each theorem. A node in memory; the walks of coord.New, find, at, remove; slices.Contains and Equal of ints. Conditions: the hypotheses of each theorem. A call, guarded or not, as one step of a region that draws its order. It holds for every program; the conditions are the hypotheses of the theorem. The moves of a region that draws its order, said shortly: lists that are read and written at a number, and one operation taken. Each holds for every program; the conditions are the hypotheses of each theorem. The walks of coord.New, Boot, lives, remove and of tx.put. Conditions: the hypotheses of each theorem. The walks of tx.put and of coord.Begin. Conditions: the hypotheses of each theorem. -/
import Derived.Test.YtijopcdjlpafdaaC1
import Derived.Deep.MidRow
import Derived.OrdersHeld
import Derived.StillTail
import Derived.Deep.RegionHeld3
import Derived.Test.YtijopcdjlpafdaaC0
import Derived.Deep.RegionLaw
import Derived.Shelf.Abstract
import Derived.Deep.QuietTactic
namespace Go.Proofs.Ytijopcdjlpafdaa
open Go.RowKit
theorem run_loadVar_elem {P : Program} (w : World) (p : Addr) (ty : TypeId) (cs : List Value) (d : TypeDesc) (hc : ∀ j v, cs[j]? = some v → w.cell? (p.add j) = some v)
 (hu : P.underlying ty = some d) (hd : d.isRow = true) (hi : (P.info? ty).map (·.size) = some cs.length) :
 (loadVar ty p).run P w = .ok (.agg cs.toArray) w := by
 have hl : (loadCells p cs.length).run P w = .ok cs.toArray w := run_loadCells_list (P := P) w p cs hc
 cases hq : P.info? ty with
 | none => simp [hq] at hi
 | some i =>
  have hs : i.size = cs.length := by simpa [hq] using hi
  have hagg : (isAgg ty).run P w = .ok true w := by
   unfold isAgg
   rw [Sem.run_bind, run_underlying hu w]
   cases d <;> simp_all
  simp [loadVar, Sem.run_bind, hagg, sizeOf, typeInfo, hq, hs, hl]
theorem wpList_load_elem {P : Program} {ops : Array Oper} {rest : List Oper} {op : Oper} {a : Act} {w : World} {Q : Exit → Act → World → Prop} (hgd : op.guard = none) (ty : TypeId) (x : Operand) (ho : op.op = .load ty x)
 (p : Addr) (hx : a.eval x = .pointer (some p)) (cs : List Value) (d : TypeDesc) (hc : ∀ j v, cs[j]? = some v → w.cell? (p.add j) = some v)
 (hu : P.underlying ty = some d) (hd : d.isRow = true) (hi : (P.info? ty).map (·.size) = some cs.length)
 (h : wpList P ops Q rest (a.put op.dst (.agg cs.toArray)) w) : wpList P ops Q (op :: rest) a w :=
 wpList_plain hgd fun K hK => by
  unfold Oper.wp execOp
  simp only [ho, hx, Instr.loadAt, Instr.sureAddr, Sem.run_bind, Sem.run_pure, Result.andThen_ok, run_loadVar_elem w p ty cs d hc hu hd hi]
  exact hK _ _ h
theorem add_addB (a : Addr) (i j : Nat) : (a.add i).add j = a.add (i + j) := by
 unfold Addr.add
 by_cases hi : i = 0 <;> by_cases hj : j = 0 <;> simp [hi, hj, Nat.add_assoc]
end Go.Proofs.Ytijopcdjlpafdaa
namespace Go.Proofs.Ytijopcdjlpafdaa
open Go.RowKit
section
variable {P : Program} {ops : Array Oper} {Q : Exit → Act → World → Prop} {md : Region.Mode} {S : World → Prop} {n : Nat} {T : Array Bool → Act → World → Prop}
/-- whatever order is picked of the first n; then T -/
def wpHead (P : Program) (md : Region.Mode) (ops : Array Oper) (Q : Exit → Act → World → Prop) (S : World → Prop) (n : Nat) (T : Array Bool → Act → World → Prop) : Nat → Array Bool → Act → World → Prop
 | 0, listed, a, w => T listed a w
 | f + 1, listed, a, w => Region.ready md ops listed ≠ [] ∧ ∀ i ∈ Region.ready md ops listed, i < n ∧ wpOp P ops Q i (fun a' w' => S w' ∧ wpHead P md ops Q S n T f (listed.setIfInBounds i true) a' w') a w
theorem wpAny_of_wpHead {g : Nat} (hT : ∀ listed a w, T listed a w → wpAny P md ops Q g listed a w) : ∀ (f : Nat) (listed : Array Bool) (a : Act) (w : World), wpHead P md ops Q S n T f listed a w → wpAny P md ops Q (f + g) listed a w
 | 0, listed, a, w, h => by rw [Nat.zero_add]; exact hT _ _ _ h
 | f + 1, listed, a, w, h => by
  rw [show f + 1 + g = (f + g) + 1 by omega]
  exact ⟨fun h0 => absurd h0 h.1, fun i hi => wpOp_mono (fun a' w' h' => wpAny_of_wpHead hT f _ a' w' h'.2) (h.2 i hi).2⟩
theorem wpHead_first {i : Nat} {oi : Oper} {v : Value} (hi : ops[i]? = some oi) (hsel : ∀ (j : Nat) (o : Oper) cs b, ops[j]? = some o → o.op ≠ .select cs b)
 (hQ : ∀ c a w, Q (.panic c) (a.put oi.dst v) w → Q (.panic c) a w)
 (hs : Region.sinkB md ops n = true) (hc : Region.chainB md ops n = true) (hn : n < ops.size) (hin : i < n) (hdone : ∀ listed a w, T listed a w → ∀ j ∈ Region.ready md ops listed, n ≤ j) :
 ∀ (f : Nat) (listed : Array Bool) (a : Act) (w : World), HeadInv md ops n listed →
  (∀ j oj, ops[j]? = some oj → j ≠ i → listed.getD j true = false → (∀ e ∈ oj.after, Region.binds md e = true → e.on ≠ i) → oi.apart ops oj = true) →
  i ∈ Region.ready md ops listed → YieldsIf P ops S oi v a → S w →
  wpHead P md ops Q S n T f (listed.setIfInBounds i true) (a.put oi.dst v) w → wpHead P md ops Q S n T (f + 1) listed a w := by
 intro f
 induction f with
 | zero =>
  intro listed a w inv _ hr hy hS H
  have hun := (mem_ready.1 hr).1
  refine ⟨fun h => (by rw [h] at hr; cases hr), fun j hj => ?_⟩
  have hjn : j < n := by
   rcases Nat.lt_or_ge j n with h | h
   ·exact h
   ·exact absurd hj (tail_waits hs hc hn inv _ i rfl hin hun j h)
  refine ⟨hjn, ?_⟩
  by_cases hji : j = i
  ·subst hji; exact hy.wpOp hi hS ⟨hS, H⟩
  ·have := hdone _ _ _ H j (ready_mono hj hji)
   omega
 | succ f ih =>
  intro listed a w inv hfree hr hy hS H
  have hun := (mem_ready.1 hr).1
  refine ⟨fun h => (by rw [h] at hr; cases hr), fun j hj => ?_⟩
  have hjn : j < n := by
   rcases Nat.lt_or_ge j n with h | h
   ·exact h
   ·exact absurd hj (tail_waits hs hc hn inv _ i rfl hin hun j h)
  refine ⟨hjn, ?_⟩
  by_cases hji : j = i
  ·subst hji; exact hy.wpOp hi hS ⟨hS, H⟩
  ·have h1 := (H.2 j (ready_mono hj hji)).2
   obtain ⟨hjun, oj, hoj, hall⟩ := mem_ready.1 hj
   have hnot : ∀ e ∈ oj.after, Region.binds md e = true → e.on ≠ i := fun e he hb heq => by
    have h1 := hall e he hb
    rw [heq, getD_both hun] at h1
    cases h1
   have h2 := wpOp_putIf hoj (hfree j oj hoj hji hjun hnot) (fun cs b => hsel i oi cs b hi) (fun cs b => hsel j oj cs b hoj) hQ hy h1
   have hfree' : ∀ k ok, ops[k]? = some ok → k ≠ i → (listed.setIfInBounds j true).getD k true = false →
    (∀ e ∈ ok.after, Region.binds md e = true → e.on ≠ i) → oi.apart ops ok = true := fun k ok hk hki hkun hno => by
    refine hfree k ok hk hki ?_ hno
    by_cases hjk : j = k
    ·subst hjk; exact hjun
    ·rw [getD_set_ne true hjk] at hkun; exact hkun
   refine wpOp_mono (fun a' w' h3 => ⟨h3.2.1, ih (listed.setIfInBounds j true) a' w' (inv.set hj hjn) hfree' (ready_mono hr (Ne.symm hji)) h3.1 h3.2.1 ?_⟩) h2
   rw [Array.setIfInBounds_comm _ _ hji]
   exact h3.2.2
/-! ### the moves -/
/-- the tail: its own list, once all others have come -/
def Tail (P : Program) (md : Region.Mode) (ops : Array Oper) (Q : Exit → Act → World → Prop) (n : Nat) (tail : List Oper) (listed : Array Bool) (a : Act) (w : World) : Prop :=
 Region.seqB md ops tail.length n listed = true ∧ wpList P ops Q tail a w
/-- what a kernel reckons of a region: its first n come ahead of the rest, and the rest one behind the other -/
def phaseB (md : Region.Mode) (ops : Array Oper) (n : Nat) : Bool := Region.noSelect ops && decide (n < ops.size) && Region.sinkB md ops n && Region.chainB md ops n
def headB (md : Region.Mode) (ops : Array Oper) (n : Nat) (listed : Array Bool) : Bool :=
 listed.size == ops.size && ((List.range ops.size).all fun j => match ops[j]? with
  | some oj => !listed.getD j false || oj.after.all fun e => !Region.binds md e || listed.getD e.on false
  | none => true) && ((List.range ops.size).all fun t => decide (t < n) || !listed.getD t true)
theorem headB_spec {listed : Array Bool} (h : headB md ops n listed = true) : HeadInv md ops n listed := by
 unfold headB at h
 simp only [Bool.and_eq_true, beq_iff_eq, List.all_eq_true, List.mem_range, Bool.or_eq_true, decide_eq_true_eq] at h
 obtain ⟨⟨h1, h2⟩, h3⟩ := h
 refine ⟨h1, fun j oj hj hl e he hb => ?_, fun t ht ht' => ?_⟩
 ·have hjs : j < ops.size := (Array.getElem?_eq_some_iff.1 hj).1
  have := h2 j hjs
  rw [hj] at this
  simp only [hl, Bool.not_true, Bool.false_eq_true, false_or, Bool.or_eq_true, Array.all_eq_true'] at this
  have h5 := this e he
  simpa [hb] using h5
 ·have := h3 t ht'
  rcases this with h | h
  ·omega
  ·simpa using h
theorem wp_region_phase {id : Nat} {a : Act} {w : World} {l : List Oper} (n : Nat) (hm : P.follows .mixedOrders = true) (hB : phaseB .any l.toArray n = true) (hS : S w.drew)
 (h : S w.drew → wpHead P .any l.toArray Q S n (Tail P .any l.toArray Q n (l.drop n)) n (Array.replicate l.length false) a w.drew) : (Code.region id l.toArray true).wp P Q a w := by
 refine wp_region_any hm ?_
 have hn : n < l.toArray.size := by
  unfold phaseB at hB
  simp only [Bool.and_eq_true, decide_eq_true_eq] at hB
  exact hB.1.1.2
 have hsz : l.toArray.size = n + (l.drop n).length := by simp at hn ⊢; omega
 rw [hsz]
 have := wpAny_of_wpHead (P := P) (md := .any) (ops := l.toArray) (Q := Q) (S := S) (n := n) (g := (l.drop n).length) (T := Tail P .any l.toArray Q n (l.drop n)) (fun listed a w ht => wpAny_of_seq (l.drop n) n listed a w (fun j => by simp) ht.1 ht.2) n _ _ _ (h hS)
 rw [show l.length = n + (l.drop n).length from List.size_toArray.symm.trans hsz] at this
 exact this
theorem wpHead_take {i : Nat} {oi : Oper} {v : Value} {fuel : Nat} {listed : Array Bool} {a : Act} {w : World} {tail : List Oper} (hi : ops[i]? = some oi) (hB : phaseB md ops n = true)
 (hb : (decide (i < n) && headB md ops n listed && Region.free md ops listed i && (Region.ready md ops listed).contains i) = true)
 (hQ : ∀ c a w, Q (.panic c) (a.put oi.dst v) w → Q (.panic c) a w) (hy : YieldsIf P ops S oi v a) (hS : S w)
 (h : wpHead P md ops Q S n (Tail P md ops Q n tail) fuel (listed.setIfInBounds i true) (a.put oi.dst v) w) : wpHead P md ops Q S n (Tail P md ops Q n tail) (fuel + 1) listed a w := by
 unfold phaseB at hB
 simp only [Bool.and_eq_true, decide_eq_true_eq] at hB hb
 obtain ⟨⟨⟨hb1, hb2⟩, hb3⟩, hb4⟩ := hb
 exact wpHead_first hi (Region.noSelect_spec hB.1.1.1) hQ hB.1.2 hB.2 hB.1.1.2 hb1 (fun listed a w ht => seqB_ready ht.1) fuel listed a w (headB_spec hb2) (Region.free_spec hi hb3) (by simpa using hb4) hy hS h
theorem name_head {f : Nat} {listed : Array Bool} {a : Act} {w : World} (h : ∀ w', w = w' → wpHead P md ops Q S n T f listed a w') : wpHead P md ops Q S n T f listed a w := h w rfl
theorem name_world {K : Act → World → Prop} {a : Act} {w : World} (h : ∀ w', w = w' → K a w') : K a w := h w rfl
theorem Sl.of_row {w : World} {g t : Nat} {l : List Value} {fr : Nat × Nat} (h : w.heap[g]? = some (.cells l.toArray t fr)) : Sl w (some ⟨g, 0, none⟩) l := by
 intro k v hk
 refine ⟨_, rfl, ?_⟩
 have : (⟨g, 0, none⟩ : Addr).add k = ⟨g, k, none⟩ := by unfold Addr.add; split <;> simp_all
 rw [this, cell_of_row _ _ k l.toArray t fr h]
 simpa using hk
def AllHead (P : Program) (md : Region.Mode) (ops : Array Oper) (Q : Exit → Act → World → Prop) (S : World → Prop) (n : Nat) (T : Array Bool → Act → World → Prop) (fuel : Nat) (listed : Array Bool) (a : Act) (w : World) (rs : List Nat) : Prop :=
 ∀ i ∈ rs, wpOp P ops Q i (fun a' w' => S w' ∧ wpHead P md ops Q S n T fuel (listed.setIfInBounds i true) a' w') a w
theorem AllHead.nil {fuel : Nat} {listed : Array Bool} {a : Act} {w : World} : AllHead P md ops Q S n T fuel listed a w [] := fun _ h => by cases h
theorem AllHead.cons {fuel : Nat} {listed : Array Bool} {a : Act} {w : World} {i : Nat} {o : Oper} {rs : List Nat} (ho : ops[i]? = some o)
 (h : ∀ K' : Act → World → Prop, Shut (∀ a w, S w → (S w → wpHead P md ops Q S n T fuel (listed.setIfInBounds i true) a w) → K' a w) → if Region.wanted o (yielded ops a.tmps) = true then Oper.wp P o a w K' Q else K' (a.put o.dst undef) w)
 (hs : AllHead P md ops Q S n T fuel listed a w rs) : AllHead P md ops Q S n T fuel listed a w (i :: rs) := fun j hj => by
 rcases List.mem_cons.1 hj with rfl | hj
 ·exact wpOp_step ho (fun K' hK => h K' (fun a w hS hW => hK a w ⟨hS, hW hS⟩))
 ·exact hs j hj
theorem wpHead_ready {rs : List Nat} {fuel : Nat} {listed : Array Bool} {a : Act} {w : World} (hr : Region.ready md ops listed = rs) (hne : rs ≠ []) (hlt : (rs.all fun i => decide (i < n)) = true)
 (h : AllHead P md ops Q S n T fuel listed a w rs) : wpHead P md ops Q S n T (fuel + 1) listed a w := by
 subst hr
 exact ⟨hne, fun i hi => ⟨by simpa using List.all_eq_true.1 hlt i hi, h i hi⟩⟩
theorem wpHead_done {listed : Array Bool} {a : Act} {w : World} {tail : List Oper} (hs : Region.seqB md ops tail.length n listed = true) (h : wpList P ops Q tail a w) : wpHead P md ops Q S n (Tail P md ops Q n tail) 0 listed a w := ⟨hs, h⟩
end
/-- append onto a row of the call's own, as one step of a region that draws -/
theorem step_ap {P : Program} {ops : Array Oper} {o : Oper} {a : Act} {w : World} {K : Act → World → Prop} {Q : Exit → Act → World → Prop} {E : Prop} {t e size bytes : Nat} (T : ElemOf P t e size bytes) {s x : Operand}
 {base n m c : Nat} {v : Value} {xs news : List Value} {A : Option Addr} (hown : w.ownsRow base e size v n xs) (hr : Sl w A news)
 (hgd : o.guard = none) (ho : o.op = .call { callee := .builtin .append, args := #[s, x], argTypes := #[t, t] })
 (hs : a.eval s = v) (hx : a.eval x = .slice A m c)
 (hl : news.length = m * size) (h1 : ∀ u ∈ news, u.oneCell' = true)
 (hb : (n + m) * bytes ≤ 140737488355328) (h63 : n + m ≤ 140737488355328) (hbase : base ≤ w.heap.size)
 (h : ∀ v' w', w'.ownsRow base e size v' (n + m) (xs ++ news) → w.grownBy w' v.ownBlock → (v'.ownBlock = v.ownBlock ∨ v'.ownBlock = some w.heap.size) → K (a.put o.dst v') w') :
 if Region.wanted o (yielded ops a.tmps) = true then Oper.wp P o a w K Q else E := by
 have hw : Region.wanted o (yielded ops a.tmps) = true := by simp [Region.wanted, hgd]
 rw [if_pos hw]
 obtain ⟨i, z, hi, hz, hsize, hby, hzs⟩ := T.hi
 obtain ⟨v', w', hrun, h2, h3, h4⟩ := run_app (P := P) w base t o.type e i z size bytes T.ht hi hz hsize hby hzs T.hs v n xs hown A m c news hl hr h1 hb h63 hbase
 unfold Oper.wp execOp
 simp only [ho, resolve, invoke, builtin, Sem.run_bind, Sem.run_pure, Result.andThen_ok, List.map_toArray, List.map_cons, List.map_nil, hs, hx, hrun]
 exact h v' w' h2 h3 h4
end Go.Proofs.Ytijopcdjlpafdaa
namespace Go.Proofs.Ytijopcdjlpafdaa
open Go.RowKit
def trC (t : Tr) (v : Value) : List Value := [.int .i64 t.id.node, .int .i64 t.id.boot, .int .i64 t.id.n, v, .bool t.done, .bool (hasI t.yes 0), .bool (hasI t.yes 1), .bool (hasI t.yes 2), .bool (hasI t.yes 3), .bool (hasI t.ack 0), .bool (hasI t.ack 1), .bool (hasI t.ack 2), .bool (hasI t.ack 3)]
@[simp] theorem trC_length (t : Tr) (v : Value) : (trC t v).length = 13 := rfl
def RTr : Reading Tr where
 says M w cs t := ∃ A cap, cs = trC t (.slice A t.shards.length cap) ∧ SlM M w A (ib t.shards)
 kept := by
  rintro M w w' cs x ⟨A, cap, h1, h2⟩ hx
  exact ⟨A, cap, h1, h2.kept hx⟩
 old := by
  rintro M N w cs x ⟨A, cap, h1, h2⟩ hx
  exact ⟨A, cap, h1, SlM.old h2 hx⟩
def zTx : Array Value := #[.int .i64 0, .int .i64 0, .int .i64 0, .slice none 0 0, .bool false, .bool false, .bool false, .bool false, .bool false, .bool false, .bool false, .bool false, .bool false]
theorem txT : ElemOf Try.prog 70 85 13 64 := ElemOf.mk' (z := .agg zTx) Try.underlying70 (by kernel_rfl) rfl (by omega)
theorem tx_info : (Try.prog.info? 85).map (fun i => (i.zero, i.size)) = some (some (.agg zTx), 13) := by kernel_rfl
theorem tx_size {cs : List Value} (h : cs.length = 13) : (Try.prog.info? 85).map (·.size) = some cs.length := by
 rw [h]
 exact (zero_of_info tx_info).2
theorem zeroTx : ∀ w, (zeroValue 85).run Try.prog w = .ok (.agg zTx) w := fun _ => by kernel_rfl
theorem size13 : ∀ w, (Go.sizeOf 85).run Try.prog w = .ok 13 w := fun _ => by kernel_rfl
theorem trC_one (t : Tr) (A : Option Addr) (n c : Nat) : ∀ u ∈ trC t (.slice A n c), u.oneCell' = true := by
 intro u hu
 simp only [trC, List.mem_cons, List.not_mem_nil, or_false] at hu
 rcases hu with rfl | rfl | rfl | rfl | rfl | rfl | rfl | rfl | rfl | rfl | rfl | rfl | rfl <;> rfl
theorem RTr.one {M : List Nat} {w : World} {css : List (List Value)} {us : List Tr} (hl : css.length = us.length) (h : ∀ (k : Nat) (cs : List Value) (x : Tr), css[k]? = some cs → us[k]? = some x → RTr.says M w cs x) : ∀ u ∈ css.flatten, u.oneCell' = true := by
 intro u hu
 simp only [List.mem_flatten] at hu
 obtain ⟨cs, hc, hu⟩ := hu
 obtain ⟨k, hk, rfl⟩ := List.mem_iff_getElem.1 hc
 obtain ⟨A, cap, e, _⟩ := h k css[k] us[k] (List.getElem?_eq_getElem hk) (List.getElem?_eq_getElem (by omega))
 rw [e] at hu
 exact trC_one _ _ _ _ u hu
theorem tclone_any (A : Option Addr) (cap : Nat) (us : List Tr) (M : List Nat) (wr w : World) (h : RsM RTr 13 M wr A us) (hr : Ext wr w) (hn : us.length ≤ 1000000) :
 Calls Try.prog 36 #[.slice A us.length cap] w fun e w' => ∃ v, e = .returned v ∧ OwnR RTr 13 85 M wr w' w.heap.size v us ∧ Ext w w' := by
 have hnil := fun w A n c => Lib.run_eql_slice_nil (P := Try.prog) w 70 85 A n c 0 0 Try.underlying70
 cases A with
 | none =>
  have h0 : us = [] := by
   cases us with
   | nil => rfl
   | cons c l => obtain ⟨ad, cs, e, _⟩ := h.at_ (by omega) (k := 0) (by simp); cases e
  subst h0
  go_enter Try.func36, Try.ntmps36
  go_wp2
  go_ret
  exact ⟨_, rfl, OwnR.nil _ _ _ _ _ _ _, Ext.refl _⟩
 | some ad =>
  obtain ⟨css, h1, h2, h3, h4⟩ := h
  have hone := RTr.one h1 h4
  have hlen := flatten_length h2
  have hsl := h3.sl.ext hr
  go_enter Try.func36, Try.ntmps36
  go_wp2_with (at_builtin; refine unstop ?_)
  refine go_on (wpList_app txT (xs := []) (World.ownsRow_made w #[] 0 (Nat.le_refl _) (by simp [maxLen]) rfl) (hsl.ext ((Ext.refl _).alloc _)) rfl rfl rfl rfl (by rw [hlen, h1]) hone (by omega) (by omega) (by simp) ?_)
  intro v' w1 hown1 hg1 hor1
  go_wp2
  go_ret
  exact ⟨_, rfl, ⟨css, h1, h2, by simpa using hown1, h4⟩, ((Ext.refl _).alloc _).grown hg1 (by intro k hk; simp [Value.ownBlock] at hk; omega)⟩
def idI : Option Nat → Int
 | some i => i
 | none => -1
/-- what a predicate's closure tells of a transaction -/
def TellsT (g : Nat) (lb : Array Value) (p : Tr → Bool) (M : List Nat) (w : World) : Prop :=
 ∀ (W : World) (x : Tr) (cs : List Value), Ext w W → RTr.says M W cs x → Calls Try.prog g (#[.agg cs.toArray] ++ lb) W fun e W' => e = .returned (.bool (p x)) ∧ Ext W W'
theorem TellsT.ext {g : Nat} {lb : Array Value} {p : Tr → Bool} {M : List Nat} {w w' : World} (h : TellsT g lb p M w) (hx : Ext w w') : TellsT g lb p M w' :=
 fun W x cs hW hs => h W x cs (hx.trans hW) hs
theorem findIdx_hit {α : Type} {l : List α} {p : α → Bool} {k : Nat} (hk : k < l.length) (h1 : p l[k] = true) (h2 : ∀ j (h : j < k), p (l[j]'(by omega)) = false) : l.findIdx? p = some k := by
 rw [List.findIdx?_eq_some_iff_getElem]
 exact ⟨hk, h1, fun j hj => by simp [h2 j hj]⟩
theorem findIdx_miss {α : Type} {l : List α} {p : α → Bool} (h2 : ∀ j (h : j < l.length), p l[j] = false) : l.findIdx? p = none := by
 rw [List.findIdx?_eq_none_iff]
 intro x hx
 obtain ⟨i, hi, rfl⟩ := List.mem_iff_getElem.1 hx
 exact h2 i hi
set_option maxHeartbeats 1000000 in
theorem tindex_any (g : Nat) (lb : Array Value) (eg : ∀ args w, (callFunc g args).run Try.prog w = .ok (.enter g args) w) (p : Tr → Bool) (M : List Nat) (A : Option Addr) (cap : Nat) (xs : List Tr) (w : World) (h : RsM RTr 13 M w A xs) (hp : TellsT g lb p M w) (hn : xs.length ≤ 1000000) :
 Calls Try.prog 60 #[.slice A xs.length cap, .func (.func g) #[] lb] w fun e w' => e = .returned (.int .i64 (idI (xs.findIdx? p))) ∧ Ext w w' := by
 have HP := Lib.hid hp
 have HH := Lib.hid h
 clear hp h
 go_enter Try.func60, Try.ntmps60
 go_wp2
 go_loopw [5, 8] (fun _ i wr => ∃ k : Nat, k ≤ xs.length ∧ i = .int .i64 k ∧ Ext w wr ∧ Hid (∀ j (h : j < xs.length), j < k → p xs[j] = false)) (fun _ i _ => xs.length - (intOf i).toNat)
 case atStart => exact ⟨0, by omega, rfl, Ext.refl _, Lib.hid fun j _ hj => absurd hj (Nat.not_lt_zero _)⟩
 case round =>
  obtain ⟨k, hk, rfl, hx, HO⟩ := hrel
  by_cases hlt : k < xs.length
  ·have hlt2 : (k : Int) < (xs.length : Int) := by omega
   obtain ⟨ad, cs, rfl, _, hcl, hcell, hsays⟩ := HH.out.at_ (by omega) hlt
   have hcell : ∀ j v, cs[j]? = some v → wr.cell? ((ad.add (k * 13)).add j) = some v := fun j v hj => by
    rw [add_addB]
    exact hx.cell (hcell j v hj)
   have hcall := HP.out wr xs[k] cs hx (RTr.kept hsays (.of_ext hx))
   clear hsays
   have HX := Lib.hid hx
   cases hq : p xs[k] with
   | true =>
    rw [hq] at hcall
    have HF : Hid (xs.findIdx? p = some k) := Lib.hid (findIdx_hit hlt hq fun j hj => HO.out j (by omega) hj)
    clear hq
    go_wp2_with (with_reducible refine sL 85 ?_)
    refine go_on (wpList_load_elem rfl 85 _ rfl (ad.add (k * 13)) rfl cs _ hcell Try.underlying85 rfl (tx_size hcl) ?_)
    go_wp2_with fail
    refine hcall.mono ?_
    rintro e w2 ⟨rfl, hx2⟩
    go_wp2
    go_ret
    exact ⟨by rw [HF.out]; rfl, HX.out.trans hx2⟩
   | false =>
    rw [hq] at hcall
    have HT := Lib.hid hq
    clear hq
    go_wp2_with (with_reducible refine sL 85 ?_)
    refine go_on (wpList_load_elem rfl 85 _ rfl (ad.add (k * 13)) rfl cs _ hcell Try.underlying85 rfl (tx_size hcl) ?_)
    go_wp2_with fail
    refine hcall.mono ?_
    rintro e w2 ⟨rfl, hx2⟩
    go_wp2
    go_roundw
    case rel => exact ⟨k + 1, by omega, by go_num, HX.out.trans hx2, Lib.hid fun j h hj => by
     rcases Nat.lt_or_ge j k with h' | h'
     ·exact HO.out j h h'
     ·obtain rfl : j = k := by omega
      exact HT.out⟩
    case measure => simp [intOf]; omega
  ·have hlt2 : ¬ (k : Int) < (xs.length : Int) := by omega
   have HF : Hid (xs.findIdx? p = none) := Lib.hid (findIdx_miss fun j hj => HO.out j hj (by omega))
   have HX := Lib.hid hx
   go_wp2
   go_ret
   exact ⟨by rw [HF.out]; rfl, HX.out⟩
/-! ## the closures -/
theorem enters_find : ∀ args w, (callFunc 61 args).run Try.prog w = .ok (.enter 61 args) w := enters_of Try.func61 (by kernel_rfl) rfl
theorem enters_lives : ∀ args w, (callFunc 53 args).run Try.prog w = .ok (.enter 53 args) w := enters_of Try.func53 (by kernel_rfl) rfl
theorem enters_done : ∀ args w, (callFunc 56 args).run Try.prog w = .ok (.enter 56 args) w := enters_of Try.func56 (by kernel_rfl) rfl
theorem txi_iff (x y : TxI) : x = y ↔ x.node = y.node ∧ x.boot = y.boot ∧ x.n = y.n := by
 cases x; cases y; simp
def TxAt (w : World) (B : Nat) (id : TxI) : Prop := w.heap[B]? = some (.cells #[.int .i64 id.node, .int .i64 id.boot, .int .i64 id.n] 35 (0, 0))
/-- find's closure: is it the transaction whose name lies at B? -/
theorem find_tells (id : TxI) (B : Nat) (M : List Nat) (w : World) (h : TxAt w B id) :
 TellsT 61 #[.pointer (some ⟨B, 0, none⟩)] (fun t => decide (t.id = id)) M w := by
 intro W x cs hx hs
 obtain ⟨A, cap, rfl, _⟩ := hs
 have hB := hx.obj h
 obtain ⟨c0, c1, c2, cf⟩ := rows3 hB
 clear h cf hB hx
 show Calls Try.prog 61 #[.agg (trC x (.slice A x.shards.length cap)).toArray, .pointer (some ⟨B, 0, none⟩)] W _
 unfold trC
 go_enter Try.func61, Try.ntmps61
 go_wp2
 all_goals
  go_ret
  exact ⟨ret_bool (by simp [txi_iff, *]), (Ext.refl _).alloc _⟩
theorem done_tells (id : TxI) (B : Nat) (M : List Nat) (w : World) (h : TxAt w B id) :
 TellsT 56 #[.pointer (some ⟨B, 0, none⟩)] (fun t => decide (t.id = id)) M w := by
 intro W x cs hx hs
 obtain ⟨A, cap, rfl, _⟩ := hs
 have hB := hx.obj h
 obtain ⟨c0, c1, c2, cf⟩ := rows3 hB
 clear h cf hB hx
 show Calls Try.prog 56 #[.agg (trC x (.slice A x.shards.length cap)).toArray, .pointer (some ⟨B, 0, none⟩)] W _
 unfold trC
 go_enter Try.func56, Try.ntmps56
 go_wp2
 all_goals
  go_ret
  exact ⟨ret_bool (by simp [txi_iff, *]), (Ext.refl _).alloc _⟩
theorem lives_tells (M : List Nat) (w : World) : TellsT 53 #[] (fun t => !t.done) M w := by
 intro W x cs hx hs
 obtain ⟨A, cap, rfl, _⟩ := hs
 clear hx
 show Calls Try.prog 53 #[.agg (trC x (.slice A x.shards.length cap)).toArray] W _
 unfold trC
 go_enter Try.func53, Try.ntmps53
 go_wp2
 go_ret
 exact ⟨rfl, (Ext.refl _).alloc _⟩
end Go.Proofs.Ytijopcdjlpafdaa
namespace Go.Proofs.Ytijopcdjlpafdaa
open Go.RowKit
section
variable {P : Program}
theorem run_storeVar_at (w : World) (g o : Nat) (ty t : TypeId) (cs : List Value) (cur : Array Value) (hg : w.heap[g]? = some (.cells cur t (0, 0))) (hl : o + cs.length ≤ cur.size)
 (hi : (P.info? ty).map (·.size) = some cs.length) (h1 : ∀ v ∈ cs, v.oneCell' = true) :
 (storeVar ty ⟨g, o, none⟩ (.agg cs.toArray)).run P w = .ok () (w.setRow g (cur.toList.take o ++ cs ++ cur.toList.drop (o + cs.length)).toArray) := by
 have := run_storeCells_at P g o t cs 0 cur w hg (by omega) h1
 cases hq : P.info? ty with
 | none => simp [hq] at hi
 | some i =>
  have hs : cs.length = i.size := by simp [hq] at hi; omega
  simp only [Nat.add_zero] at this
  simp [storeVar, sizeOf, typeInfo, hq, Value.cells, ← hs, this]
theorem wpList_store_at {ops : Array Oper} {rest : List Oper} {op : Oper} {a : Act} {w : World} {Q : Exit → Act → World → Prop} (hgd : op.guard = none) (ty : TypeId) (x y : Operand) (ho : op.op = .store ty x y)
 {g o t : Nat} {ad : Addr} {cs : List Value} {cur : Array Value} (had : ad = ⟨g, o, none⟩) (hx : a.eval x = .pointer (some ad)) (hy : a.eval y = .agg cs.toArray) (hg : w.heap[g]? = some (.cells cur t (0, 0))) (hl : o + cs.length ≤ cur.size)
 (hi : (P.info? ty).map (·.size) = some cs.length) (h1 : ∀ v ∈ cs, v.oneCell' = true)
 (h : ∀ W, W.heap[g]? = some (.cells (cur.toList.take o ++ cs ++ cur.toList.drop (o + cs.length)).toArray t (0, 0)) → Kept [g] w W → W.heap.size = w.heap.size → wpList P ops Q rest (a.put op.dst undef) W) : wpList P ops Q (op :: rest) a w := by
 subst had
 refine wpList_plain hgd fun K hK => ?_
 unfold Oper.wp execOp
 simp only [ho, hx, hy, Instr.storeAt, Instr.sureAddr, Sem.run_bind, Sem.run_pure, Result.andThen_ok, run_storeVar_at w g o ty t cs cur hg hl hi h1]
 exact hK _ _ (h _ (setRow_heap w g _ _ t _ hg) ⟨rfl, rfl, rfl, by simp [World.setRow], fun k _ hk => setRow_other w g k _ (by simpa using hk)⟩ (by simp [World.setRow]))
/-- clear(s[n:n+m]) -/
theorem run_clear_many {t e size bytes : Nat} (T : ElemOf P t e size bytes) {z : Value} (hz : ∀ w, (zeroValue e).run P w = .ok z w) (hzs : z.cells.size = size) (hz1 : ∀ u ∈ z.cells.toList, u.oneCell' = true) {w : World} {g n m cap : Nat} {cur : Array Value}
 (hg : w.heap[g]? = some (.cells cur e (0, 0))) (hm : 0 < m) (hn : n + m ≤ cap) (hc : cur.size = cap * size) (ty c : Nat) (ad : Addr) (had : ad = ⟨g, n * size, none⟩) :
 ∃ X : List Value, X.length = m * size ∧ (Builtin.clear_ #[t] ty #[.slice (some ad) m c]).run P w = .ok (.tuple #[]) (w.setRow g (cur.toList.take (n * size) ++ X ++ cur.toList.drop (n * size + m * size)).toArray) := by
 subst had
 have hl : (Builtin.zeroCells z.cells m).toList.length = m * size := by rw [Array.length_toList, size_zeroCells, hzs]
 have h1 : ∀ u ∈ (Builtin.zeroCells z.cells m).toList, u.oneCell' = true := by
  intro u hu
  simp only [Builtin.zeroCells] at hu
  simp at hu
  obtain ⟨i, hi, rfl⟩ := hu
  have hpos : 0 < z.cells.size := Nat.pos_of_ne_zero fun e => by rw [e, Nat.mul_zero] at hi; omega
  rw [getElem!_pos z.cells _ (Nat.mod_lt _ hpos)]
  exact hz1 _ (by simp)
 have hle : n * size + m * size ≤ cap * size := by rw [← Nat.add_mul]; exact Nat.mul_le_mul_right _ hn
 have hst := run_storeCells_at P g (n * size) e (Builtin.zeroCells z.cells m).toList 0 cur w hg (by rw [hl, hc]; omega) h1
 simp only [Nat.add_zero, hl] at hst
 refine ⟨_, hl, ?_⟩
 obtain ⟨k, rfl⟩ : ∃ k, m = k + 1 := ⟨m - 1, by omega⟩
 simp [Builtin.clear_, run_underlying T.ht, hz, hst]
end
theorem zTx_one : ∀ u ∈ (Value.agg zTx).cells.toList, u.oneCell' = true := by
 intro u hu
 simp [Value.cells, zTx] at hu
 rcases hu with rfl | rfl | rfl <;> rfl
theorem RTr.cs13 {M : List Nat} {w : World} {cs : List Value} {x : Tr} (h : RTr.says M w cs x) : cs.length = 13 ∧ ∀ u ∈ cs, u.oneCell' = true := by
 obtain ⟨A, c, rfl, _⟩ := h
 exact ⟨rfl, trC_one _ _ _ _⟩
/-- what lies in the row while it is sifted: i that stay, then the old ones from j on -/
structure Sift (M : List Nat) (w0 : World) (css : List (List Value)) (ys : List Tr) (cap i j n : Nat) (cur : Array Value) : Prop where
 size : cur.size = cap * 13
 stay : ∃ ks : List (List Value), ks.length = i ∧ (∀ cs ∈ ks, cs.length = 13) ∧ cur.toList.take (i * 13) = ks.flatten ∧ ys.length = i ∧ ∀ (k : Nat) (cs : List Value) (x : Tr), ks[k]? = some cs → ys[k]? = some x → RTr.says M w0 cs x
 old : (cur.toList.drop (j * 13)).take ((n - j) * 13) = (css.drop j).flatten
theorem Sift.skip {M : List Nat} {w0 : World} {css : List (List Value)} {ys : List Tr} {cap i j n : Nat} {cur : Array Value} (h : Sift M w0 css ys cap i j n cur) (hj : j < n) (hl : css.length = n) (h2 : ∀ cs ∈ css, cs.length = 13) : Sift M w0 css ys cap i (j + 1) n cur := by
 refine ⟨h.size, h.stay, ?_⟩
 have := congrArg (List.drop 13) h.old
 rw [List.drop_take, List.drop_drop] at this
 rw [show (j + 1) * 13 = j * 13 + 13 by omega, show (n - (j + 1)) * 13 = (n - j) * 13 - 13 by omega, this]
 rw [List.drop_eq_getElem_cons (show j < css.length by omega), List.flatten_cons, List.drop_left' (h2 _ (List.getElem_mem _))]
theorem Sift.put {M : List Nat} {w0 : World} {css : List (List Value)} {ys : List Tr} {cap i j n : Nat} {cur : Array Value} (h : Sift M w0 css ys cap i j n cur) (hij : i ≤ j) (hj : j < n) (hn : n ≤ cap) (hl : css.length = n) (h2 : ∀ cs ∈ css, cs.length = 13) {x : Tr} {cs : List Value} (hs : RTr.says M w0 cs x) :
 Sift M w0 css (ys ++ [x]) cap (i + 1) (j + 1) n (cur.toList.take (i * 13) ++ cs ++ cur.toList.drop (i * 13 + cs.length)).toArray := by
 obtain ⟨hc, _⟩ := RTr.cs13 hs
 have hsz := h.size
 obtain ⟨ks, k1, k2, k3, k4, k5⟩ := h.stay
 have ht : (cur.toList.take (i * 13)).length = i * 13 := by rw [List.length_take, Array.length_toList]; omega
 refine ⟨by simp [hsz, hc]; omega, ⟨ks ++ [cs], by simp [k1], ?_, ?_, by simp [k4], ?_⟩, ?_⟩
 ·intro d hd
  rcases List.mem_append.1 hd with h | h
  ·exact k2 d h
  ·simp at h; subst h; exact hc
 ·simp only []
  rw [List.take_left' (by rw [List.length_append, ht, hc]; omega), k3]
  simp
 ·intro k d z hk hz
  rw [List.getElem?_append] at hk hz
  by_cases hlt : k < ks.length
  ·rw [if_pos hlt] at hk
   rw [if_pos (by omega)] at hz
   exact k5 k d z hk hz
  ·rw [if_neg hlt] at hk
   rw [if_neg (by omega)] at hz
   have hk0 : k - ks.length = 0 := by
    rcases Nat.eq_zero_or_pos (k - ks.length) with h | h
    ·exact h
    ·rw [List.getElem?_eq_none (by simp; omega)] at hk; cases hk
   rw [hk0] at hk
   rw [show k - ys.length = 0 by omega] at hz
   simp at hk hz
   subst hk hz
   exact hs
 ·rw [← (h.skip hj hl h2).old]
  congr 1
  simp only []
  have hA : (cur.toList.take (i * 13) ++ cs).length = i * 13 + 13 := by rw [List.length_append, ht, hc]
  rw [List.drop_append, List.drop_of_length_le (by rw [hA]; omega), List.nil_append, hA, List.drop_drop]
  congr 1
  omega
theorem Sift.own {M : List Nat} {w0 w : World} {css : List (List Value)} {ys : List Tr} {base g cap i j n : Nat} {cur : Array Value} (h : Sift M w0 css ys cap i j n cur) (X : List Value) (hX : X.length = (n - i) * 13) (hin : i ≤ n) (hn : n ≤ cap) (hcap : cap ≤ maxLen) (hb : base ≤ g)
 (hg : w.heap[g]? = some (.cells (cur.toList.take (i * 13) ++ X ++ cur.toList.drop (i * 13 + (n - i) * 13)).toArray 85 (0, 0))) : OwnR RTr 13 85 M w0 w base (.slice (some ⟨g, 0, none⟩) i cap) ys := by
 obtain ⟨ks, k1, k2, k3, k4, k5⟩ := h.stay
 have hsz := h.size
 have ht : (cur.toList.take (i * 13)).length = i * 13 := by rw [List.length_take, Array.length_toList]; omega
 refine ⟨ks, by omega, k2, ⟨by rw [flatten_length k2]; omega, .inr ⟨g, cap, _, by rw [k4], hb, hg, by omega, hcap, ?_, ?_⟩⟩, k5⟩
 ·simp
  omega
 ·simp only []
  rw [List.append_assoc, List.take_left' (by rw [ht]; omega), k3]
theorem Sift.cell {M : List Nat} {w0 w : World} {css : List (List Value)} {ys : List Tr} {g cap i j n : Nat} {cur : Array Value} (h : Sift M w0 css ys cap i j n cur) (hj : j < n) (hl : css.length = n) (h2 : ∀ cs ∈ css, cs.length = 13)
 (hg : w.heap[g]? = some (.cells cur 85 (0, 0))) : ∀ q v, (css[j]'(by omega))[q]? = some v → w.cell? ((⟨g, j * 13, none⟩ : Addr).add q) = some v := by
 intro q v hq
 have hq13 : q < 13 := by rw [← h2 _ (List.getElem_mem (show j < css.length by omega))]; exact (List.getElem?_eq_some_iff.1 hq).1
 have e := congrArg (fun l => l[q]?) h.old
 rw [List.getElem?_take_of_lt (by omega), List.getElem?_drop, List.drop_eq_getElem_cons (show j < css.length by omega), List.flatten_cons, List.getElem?_append_left (by rw [h2 _ (List.getElem_mem _)]; exact hq13), hq] at e
 rw [Addr.add_mid, cell_of_row _ _ _ cur 85 _ hg]
 simpa using e
theorem take_filter_hit {xs : List Tr} {p : Tr → Bool} {j : Nat} (hj : j < xs.length) (h : p xs[j] = true) : (xs.take (j + 1)).filter (fun t => !p t) = (xs.take j).filter fun t => !p t := by
 rw [List.take_succ_eq_append_getElem hj, List.filter_append]
 simp [h]
theorem take_filter_miss {xs : List Tr} {p : Tr → Bool} {j : Nat} (hj : j < xs.length) (h : p xs[j] = false) : (xs.take (j + 1)).filter (fun t => !p t) = ((xs.take j).filter fun t => !p t) ++ [xs[j]] := by
 rw [List.take_succ_eq_append_getElem hj, List.filter_append]
 simp [h]
theorem add0 (g k : Nat) : (⟨g, 0, none⟩ : Addr).add k = ⟨g, k, none⟩ := by unfold Addr.add; split <;> simp_all
set_option maxRecDepth 20000 in
set_option maxHeartbeats 2000000 in
theorem tdelf_any (f : Nat) (lb : Array Value) (eg : ∀ args w, (callFunc f args).run Try.prog w = .ok (.enter f args) w) (p : Tr → Bool) (M : List Nat) (base : Nat) (v : Value) (xs : List Tr) (w0 w : World) (h : OwnR RTr 13 85 M w0 w base v xs) (hx : Ext w0 w) (hb : w0.heap.size ≤ base) (hM : ∀ k ∈ M, k < w0.heap.size)
 (hp : TellsT f lb p M w0) (hn : xs.length ≤ 1000) :
 Calls Try.prog 52 #[v, .func (.func f) #[] lb] w fun e w' => ∃ v', e = .returned v' ∧ OwnR RTr 13 85 M w0 w' base v' (xs.filter fun t => !p t) ∧ Ext w0 w' := by
 have HOWN := Lib.hid h
 obtain ⟨A, cap, rfl⟩ := h.form
 have HT := tindex_any f lb eg p M A cap xs w (h.rsm (.of_ext hx) fun k hk => Nat.lt_of_lt_of_le (hM k hk) hb) (hp.ext hx) (by omega)
 have HP := Lib.hid hp
 have HX := Lib.hid hx
 obtain ⟨css, h1, h2, h3, h4⟩ := h
 have H2 := Lib.hid h2
 have H4 := Lib.hid h4
 cases hf : xs.findIdx? p with
 | none =>
  rw [hf] at HT
  have HF : Hid (xs.filter (fun t => !p t) = xs) := Lib.hid (List.filter_eq_self.2 fun x hx => by simpa using List.findIdx?_eq_none_iff.1 hf x hx)
  have hm : idI none = -1 := rfl
  rw [hm] at HT
  clear h2 h3 h4 hp hf hm hx
  go_enter Try.func52, Try.ntmps52
  go_wp2_with fail
  refine HT.mono ?_
  rintro e w1 ⟨rfl, hx1⟩
  go_wp2
  go_ret
  exact ⟨_, rfl, by rw [HF.out]; exact HOWN.out.ext hx1, HX.out.trans hx1⟩
 | some i0 =>
  rw [hf] at HT
  have hm : idI (some i0) = (i0 : Int) := rfl
  rw [hm] at HT
  obtain ⟨hi0, hpi, hbef⟩ := List.findIdx?_eq_some_iff_getElem.1 hf
  have hne : ((i0 : Int) == -1) = false := beq_eq_false_iff_ne.2 (by omega)
  rcases h3.2 with ⟨_, h0⟩ | ⟨g, cap', cur0, e1, hbg, hg, hnc, hcm, hsz, htk⟩
  ·exact absurd h0 (by omega)
  injection e1 with e1 e2 e3
  subst e1 e3
  have HS0 : Hid (Sift M w0 css ((xs.take (i0 + 1)).filter fun t => !p t) cap i0 (i0 + 1) xs.length cur0) := Lib.hid (by
   have e : (xs.take (i0 + 1)).filter (fun t => !p t) = xs.take i0 := by
    rw [take_filter_hit hi0 hpi]
    refine List.filter_eq_self.2 fun x hx => ?_
    obtain ⟨j, hj, rfl⟩ := List.mem_iff_getElem.1 hx
    rw [List.length_take] at hj
    rw [List.getElem_take]
    have := hbef j (by omega)
    simpa using this
   rw [e]
   refine ⟨hsz, ⟨css.take i0, by rw [List.length_take]; omega, fun cs hcs => h2 cs (List.mem_of_mem_take hcs), ?_, by rw [List.length_take]; omega, fun k cs x hk hx => h4 k cs x (by rw [List.getElem?_take] at hk; split at hk; exact hk; cases hk) (by rw [List.getElem?_take] at hx; split at hx; exact hx; cases hx)⟩, ?_⟩
   ·rw [← flatten_take h2, ← htk, List.take_take]
    congr 1
    omega
   ·rw [← flatten_drop h2, ← htk, List.drop_take]
    congr 1
    omega)
  have HB := Lib.hid hb
  have HBG := Lib.hid hbg
  have HCM := Lib.hid hcm
  have HG := Lib.hid hg
  have HMB := Lib.hid hM
  have HHB : Hid (base ≤ g) := Lib.hid hbg
  have h1' : css.length = xs.length := h1
  clear h2 h3 h4 hp hf hm hx hbef hpi htk hsz hb hbg hcm hg hM
  go_enter Try.func52, Try.ntmps52
  go_wp2_with fail
  refine HT.mono ?_
  rintro e w1 ⟨rfl, hx1⟩
  have HG1 := Lib.hid (hx1.obj HG.out)
  have HX1 := Lib.hid (HX.out.trans hx1)
  clear hx1 HT HG HX HOWN
  go_wp2
  go_loopw [5, 6] (fun a b wr => ∃ (i j : Nat) (cur : Array Value), a = .int .i64 i ∧ b = .int .i64 j ∧ i < j ∧ j ≤ xs.length ∧ Hid (wr.heap[g]? = some (.cells cur 85 (0, 0))) ∧ Hid (Sift M w0 css ((xs.take j).filter fun t => !p t) cap i j xs.length cur) ∧ Hid (Ext w0 wr)) (fun _ b _ => xs.length - (intOf b).toNat)
  case atStart => exact ⟨i0, i0 + 1, cur0, rfl, rfl, by omega, by omega, HG1, HS0, HX1⟩
  case round =>
   obtain ⟨i, j, cur, rfl, rfl, hij, hj, HGR, HSI, HXR⟩ := hrel
   clear HG1 HS0 HX1
   by_cases hlt : j < xs.length
   ·have hlt2 : (j : Int) < (xs.length : Int) := by omega
    have HSY : Hid (RTr.says M w0 (css[j]'(by omega)) xs[j]) := Lib.hid (H4.out j _ _ (List.getElem?_eq_getElem (by omega)) (List.getElem?_eq_getElem hlt))
    have HCE := Lib.hid (HSI.out.cell hlt h1' H2.out HGR.out)
    have HSK := Lib.hid (HSI.out.skip hlt h1' H2.out)
    have HPU := Lib.hid (HSI.out.put (by omega) hlt hnc h1' H2.out HSY.out)
    obtain ⟨hc13, hone⟩ := RTr.cs13 HSY.out
    have HONE := Lib.hid hone
    have HSZ := Lib.hid HSI.out.size
    have HIT := fun h => Lib.hid (take_filter_hit (p := p) hlt h)
    have MISS := fun h => Lib.hid (take_filter_miss (p := p) hlt h)
    generalize css[j]'(by omega) = cs at *
    clear hone
    obtain ⟨wo, rfl⟩ : ∃ x, x = wr := ⟨wr, rfl⟩
    go_wp2_with (with_reducible first | refine sL 85 ?_ | refine sA 85 ?_ | refine sS 85 ?_)
    refine go_on (wpList_load_elem rfl 85 _ rfl ⟨g, j * 13, none⟩ rfl cs _ HCE.out Try.underlying85 rfl (tx_size hc13) ?_)
    go_wp2_with (with_reducible first | refine sL 85 ?_ | refine sA 85 ?_ | refine sS 85 ?_)
    refine go_on (wpList_alloc_ rfl rfl tx_info ?_)
    go_wp2_with (with_reducible first | refine sL 85 ?_ | refine sA 85 ?_ | refine sS 85 ?_)
    refine go_on (wpList_store_last rfl rfl rfl rfl (by simpa using tx_size hc13) (by simp [zTx, hc13]) (all_oneCell_toArray HONE.out) ?_)
    intro W hW hxW hszW
    have hx2 := HXR.out.trans hxW
    have HGW := Lib.hid (hxW.obj HGR.out)
    have HW := Lib.hid hW
    have hcall := HP.out W xs[j] cs hx2 (RTr.kept HSY.out (.of_ext hx2))
    have HX2 := Lib.hid hx2
    clear hW hxW hszW hx2
    cases hq : p xs[j] with
    | true =>
     rw [hq] at hcall
     have HIT := HIT hq
     clear hq MISS
     go_wp2_with (with_reducible refine sL 85 ?_)
     refine go_on (wpList_load_row rfl 85 _ rfl wo.heap.size rfl 85 cs.toArray (0, 0) _ HW.out Try.underlying85 rfl (by simpa using tx_size hc13) ?_)
     go_wp2_with fail
     refine hcall.mono ?_
     rintro e w3 ⟨rfl, hx3⟩
     have HG3 := Lib.hid (hx3.obj HGW.out)
     have HX3 := Lib.hid (HX2.out.trans hx3)
     clear hx3
     go_wp2
     go_roundw
     case rel => exact ⟨i, j + 1, cur, rfl, by go_num, by omega, by omega, HG3, Lib.hid (by rw [HIT.out]; exact HSK.out), HX3⟩
     case measure => simp [intOf]; omega
    | false =>
     rw [hq] at hcall
     have MISS := MISS hq
     clear hq HIT
     go_wp2_with (with_reducible refine sL 85 ?_)
     refine go_on (wpList_load_row rfl 85 _ rfl wo.heap.size rfl 85 cs.toArray (0, 0) _ HW.out Try.underlying85 rfl (by simpa using tx_size hc13) ?_)
     go_wp2_with fail
     refine hcall.mono ?_
     rintro e w3 ⟨rfl, hx3⟩
     have HG3 := Lib.hid (hx3.obj HGW.out)
     have HW3 := Lib.hid (hx3.obj HW.out)
     have HX3 := Lib.hid (HX2.out.trans hx3)
     clear hx3
     go_wp2_with (with_reducible refine sL 85 ?_)
     refine go_on (wpList_load_row rfl 85 _ rfl wo.heap.size rfl 85 cs.toArray (0, 0) _ HW3.out Try.underlying85 rfl (by simpa using tx_size hc13) ?_)
     go_wp2_with (with_reducible first | refine sL 85 ?_ | refine sA 85 ?_ | refine sS 85 ?_)
     refine go_on (wpList_store_at rfl 85 _ _ rfl (o := i * 13) rfl rfl rfl HG3.out (by rw [HSZ.out, hc13]; omega) (tx_size hc13) HONE.out ?_)
     intro W4 hW4 hk4 hz4
     have HG4 := Lib.hid hW4
     have HX4 := Lib.hid (HX3.out.kept hk4 (by intro k hk; simp at hk; subst hk; exact Nat.le_trans HB.out HBG.out))
     clear hW4 hk4 hz4
     go_wp2
     go_roundw
     case rel => exact ⟨i + 1, j + 1, _, by go_num, by go_num, by omega, by omega, HG4, Lib.hid (by rw [MISS.out]; exact HPU.out), HX4⟩
     case measure => simp [intOf]; omega
   ·have hlt2 : ¬ (j : Int) < (xs.length : Int) := by omega
    obtain rfl : j = xs.length := by omega
    have hel : Try.prog.elem 70 = 85 := by kernel_rfl
    have hut : Try.prog.underlying 70 = some (.slice (Try.prog.elem 70)) := by rw [hel]; exact Try.underlying70
    have s1 : ∀ W, (Instr.slice 70 (.slice (some ⟨g, 0, none⟩) xs.length cap) none (some (.int .i64 (i : Int))) none).run Try.prog W = .ok (.slice (some ⟨g, 0, none⟩) i cap) W := fun W => by
     rw [run_slice_h W 70 _ _ _ hut .i64 _ (by omega) (by omega), hel, size13]
     simp [Result.andThen, sliced, Addr.add]
    have s2 : ∀ W, (Instr.slice 70 (.slice (some ⟨g, 0, none⟩) xs.length cap) (some (.int .i64 (i : Int))) none none).run Try.prog W = .ok (.slice (some ⟨g, i * 13, none⟩) (xs.length - i) (cap - i)) W := fun W => by
     rw [run_slice_l W 70 _ _ _ hut .i64 _ (by omega) (by omega), hel, size13]
     have q : ¬ cap = i := by omega
     simp [Result.andThen, sliced, q, add0]
    obtain ⟨X, hX, hcl⟩ := run_clear_many txT zeroTx rfl zTx_one HGR.out (n := i) (m := xs.length - i) (by omega) (by omega) HSI.out.size 0 (cap - i) _ rfl
    have HSE : Hid (OwnR RTr 13 85 M w0 (wr.setRow g (cur.toList.take (i * 13) ++ X ++ cur.toList.drop (i * 13 + (xs.length - i) * 13)).toArray) base (.slice (some ⟨g, 0, none⟩) i cap) (xs.filter fun t => !p t)) := Lib.hid (by
     have := HSI.out
     rw [List.take_length] at this
     exact this.own X hX (by omega) hnc HCM.out HBG.out (setRow_heap wr g cur _ 85 _ HGR.out))
    have HXE : Hid (Ext w0 (wr.setRow g (cur.toList.take (i * 13) ++ X ++ cur.toList.drop (i * 13 + (xs.length - i) * 13)).toArray)) := Lib.hid (HXR.out.grown (setRow_grown _) (by intro k hk; injection hk with hk; subst hk; exact Nat.le_trans HB.out HBG.out))
    generalize wr.setRow g (cur.toList.take (i * 13) ++ X ++ cur.toList.drop (i * 13 + (xs.length - i) * 13)).toArray = W2 at *
    clear hel hut hX
    go_wp2
    go_ret
    exact ⟨_, rfl, HSE.out, HXE.out⟩
end Go.Proofs.Ytijopcdjlpafdaa
namespace Go.Proofs.Ytijopcdjlpafdaa
open Go.RowKit
set_option maxHeartbeats 1000000 in
theorem tdel_row (g n cap i : Nat) (cur : Array Value) (w : World) (hg : w.heap[g]? = some (.cells cur 85 (0, 0))) (hn : n ≤ cap) (hc : cur.size = cap * 13) (hi : i < n) (h1 : ∀ u ∈ cur.toList.take (n * 13), u.oneCell' = true) :
 Calls Try.prog 54 #[.slice (some ⟨g, 0, none⟩) n cap, .int .i64 i, .int .i64 ((i : Int) + 1)] w fun e w' => e = .returned (.slice (some ⟨g, 0, none⟩) (n - 1) cap) ∧ w.grownBy w' (some g) ∧
  ∃ rest, w'.heap[g]? = some (.cells (cur.toList.take (i * 13) ++ (cur.toList.drop ((i + 1) * 13)).take ((n - (i + 1)) * 13) ++ rest).toArray 85 (0, 0)) ∧ i * 13 + (n - (i + 1)) * 13 + rest.length = cap * 13 := by
 obtain ⟨ad, had⟩ : ∃ ad : Addr, ad = if cap = i + 1 then ⟨g, 0, none⟩ else (⟨g, 0, none⟩ : Addr).add ((i + 1) * 13) := ⟨_, rfl⟩
 have hap := run_del_append txT hg hn hc hi h1 70 (cap - (i + 1)) (n - (i + 1)) rfl
 rw [← had] at hap
 have hel : Try.prog.elem 70 = 85 := by kernel_rfl
 have hut : Try.prog.underlying 70 = some (.slice (Try.prog.elem 70)) := by rw [hel]; exact Try.underlying70
 have e1 : ∀ W, (Instr.slice 70 (.slice (some ⟨g, 0, none⟩) n cap) none (some (.int .i64 (i : Int))) none).run Try.prog W = .ok (.slice (some ⟨g, 0, none⟩) i cap) W := fun W => by
  rw [run_slice_h W 70 _ _ _ hut .i64 _ (by omega) (by omega), hel, size13]
  simp [Result.andThen, sliced, Addr.add]
 have e2 : ∀ W, (Instr.slice 70 (.slice (some ⟨g, 0, none⟩) n cap) (some (.int .i64 ((i : Int) + 1))) none none).run Try.prog W = .ok (.slice (some ad) (n - (i + 1)) (cap - (i + 1))) W := fun W => by
  rw [run_slice_l W 70 _ _ _ hut .i64 _ (by omega) (by omega), hel, size13]
  have q : ((i : Int) + 1).toNat = i + 1 := by omega
  simp only [Result.andThen, sliced, q]
  rw [had]
  by_cases hq : cap = i + 1 <;> simp [hq]
 have hm1 : i + (n - (i + 1)) = n - 1 := by omega
 rw [hm1] at hap
 have hne : ((i : Int) == (i : Int) + 1) = false := beq_eq_false_iff_ne.2 (by omega)
 have e3 : ∀ W, (Instr.slice 70 (.slice (some ⟨g, 0, none⟩) (n - 1) cap) (some (.int .i64 ((n - 1 : Nat) : Int))) (some (.int .i64 (n : Int))) none).run Try.prog W = .ok (.slice (some ⟨g, (n - 1) * 13, none⟩) 1 (cap - (n - 1))) W := fun W => by
  rw [run_slice_lh W 70 _ _ _ hut .i64 .i64 _ _ (by omega) (by omega) (by omega), hel, size13]
  have q : n - (n - 1) = 1 := by omega
  have q2 : ¬ cap = n - 1 := by omega
  simp [Result.andThen, sliced, q, q2, Addr.add]
  intro h
  rw [h]
 have HAD := Lib.hid had
 have HM1 := Lib.hid hm1
 clear had hm1 hut hel
 go_enter Try.func54, Try.ntmps54
 go_wp2_with fail
 go_region_law (refine step_app_run (t := 70) (s := .tmp 22) (x := .tmp 25) rfl rfl (hap _ (Ext.refl _).drew) ?_)
 generalize hcl : (cur.toList.take (i * 13) ++ ((cur.toList.drop ((i + 1) * 13)).take ((n - (i + 1)) * 13) ++ cur.toList.drop (i * 13 + (n - (i + 1)) * 13))) = cl
 have hW : (w.drew.setRow g cl.toArray).heap[g]? = some (.cells cl.toArray 85 (0, 0)) := setRow_heap w.drew g cur cl.toArray 85 (0, 0) hg
 have hG : w.grownBy (w.drew.setRow g cl.toArray) (some g) := grown_drew (setRow_grown (w := w.drew) (g := g) cl.toArray)
 have hcs : cl.toArray.size = cap * 13 := by
  rw [← hcl]
  simp
  omega
 generalize w.drew.setRow g cl.toArray = W1 at hW hG
 have hcl := Lib.hid hcl
 have hn3 : n - 1 + 1 ≤ cap := by omega
 have hc3 := run_clear_one txT zeroTx rfl zTx_one hW hn3 hcs 0 (cap - (n - 1)) _ rfl
 generalize hcl2 : ((cl.toArray.toList.take ((n - 1) * 13)) ++ (Value.agg zTx).cells.toList ++ cl.toArray.toList.drop ((n - 1) * 13 + 13)) = cl2 at hc3
 have hW2 : (W1.setRow g cl2.toArray).heap[g]? = some (.cells cl2.toArray 85 (0, 0)) := setRow_heap W1 g cl.toArray cl2.toArray 85 (0, 0) hW
 have hG2 : w.grownBy (W1.setRow g cl2.toArray) (some g) := grown_step hG (setRow_grown cl2.toArray) (.inl rfl)
 have hcl2 := Lib.hid hcl2
 generalize W1.setRow g cl2.toArray = W2 at hc3 hW2 hG2
 go_wp2
 go_ret
 refine ⟨rfl, hG2, (Value.agg zTx).cells.toList ++ cl.drop ((n - 1) * 13 + 13), ?_, ?_⟩
 ·have hA : cl.toArray.toList.take ((n - 1) * 13) = cur.toList.take (i * 13) ++ (cur.toList.drop ((i + 1) * 13)).take ((n - (i + 1)) * 13) := by
   rw [← hcl.out]
   rw [← List.append_assoc, List.take_left' (by simp; omega)]
  rw [hW2, ← hcl2.out, hA]
  simp
 ·have := hcl.out
  rw [← this]
  simp [Value.cells, zTx]
  omega
theorem tdel_own (us : List Tr) (i base : Nat) (M : List Nat) (v : Value) (wr w : World) (h : OwnR RTr 13 85 M wr w base v us) (hi : i < us.length) :
 Calls Try.prog 54 #[v, .int .i64 i, .int .i64 ((i : Int) + 1)] w fun e w' => ∃ v', e = .returned v' ∧ OwnR RTr 13 85 M wr w' base v' (us.eraseIdx i) ∧ ∀ w0, Ext w0 w → w0.heap.size ≤ base → Ext w0 w' := by
 obtain ⟨css, h1, h2, h3, h4⟩ := h
 rcases h3.2 with ⟨_, hn⟩ | ⟨g, cap, cur, rfl, hb, hg, hc, hm, hs, ht⟩
 ·omega
 refine (tdel_row g us.length cap i cur w hg hc hs hi (by rw [ht]; exact RTr.one h1 h4)).mono ?_
 rintro e w' ⟨rfl, hG, rest, hw', hr⟩
 have hl : (us.eraseIdx i).length = us.length - 1 := by rw [List.length_eraseIdx]; simp [hi]
 have h2' : ∀ cs ∈ css.eraseIdx i, cs.length = 13 := fun cs hcs => h2 cs (List.mem_of_mem_eraseIdx hcs)
 have hl' : (css.eraseIdx i).length = us.length - 1 := by rw [List.length_eraseIdx]; simp [hi, h1]
 refine ⟨_, rfl, ⟨css.eraseIdx i, by rw [hl, hl'], h2', ⟨by rw [flatten_length h2', hl, hl'], .inr ⟨g, cap, _, by rw [hl], hb, hw', by omega, hm, ?_, ?_⟩⟩, ?_⟩, ?_⟩
 ·have := hs
  simp [List.length_take]
  omega
 ·have e1 : (cur.toList.drop ((i + 1) * 13)).take ((us.length - (i + 1)) * 13) = (css.drop (i + 1)).flatten := by
   rw [← flatten_drop h2, ← ht, List.drop_take]
   congr 1
   omega
  have e2 : cur.toList.take (i * 13) = (css.take i).flatten := by
   rw [← flatten_take h2, ← ht, List.take_take]
   congr 1
   omega
  simp only []
  rw [hl, e1, e2, List.eraseIdx_eq_take_drop_succ, List.flatten_append, List.take_left']
  rw [List.length_append, flatten_length fun cs hcs => h2 cs (List.mem_of_mem_take hcs), flatten_length fun cs hcs => h2 cs (List.mem_of_mem_drop hcs)]
  simp
  omega
 ·intro k cs x hk hx
  rw [List.getElem?_eraseIdx] at hk hx
  split at hk
  ·exact h4 k cs x hk (by simpa [*] using hx)
  ·exact h4 (k + 1) cs x hk (by simpa [*] using hx)
 ·intro w0 hx hb0
  exact hx.grown hG (by intro k hk; injection hk with hk; omega)
/-! ## shards -/
def TellsI (f : Nat) (lb : Array Value) (q : Int → Bool) (w : World) : Prop :=
 ∀ (W : World) (x : Int), Ext w W → 0 ≤ x → x ≤ 3 → Calls Try.prog f (#[.int .i64 x] ++ lb) W fun e W' => e = .returned (.bool (q x)) ∧ Ext W W'
set_option maxHeartbeats 1000000 in
theorem iindexf_any (f : Nat) (lb : Array Value) (eg : ∀ args w, (callFunc f args).run Try.prog w = .ok (.enter f args) w) (q : Int → Bool) (A : Option Addr) (cap : Nat) (l : List Int) (w : World) (h : Sl w A (ib l)) (hl : ∀ x ∈ l, 0 ≤ x ∧ x ≤ 3) (hp : TellsI f lb q w) (hn : l.length ≤ 1000000) :
 Calls Try.prog 67 #[.slice A l.length cap, .func (.func f) #[] lb] w fun e w' => e = .returned (.int .i64 (idI (l.findIdx? q))) ∧ Ext w w' := by
 have HP := Lib.hid hp
 have HH := Lib.hid h
 have HL := Lib.hid hl
 clear hp h hl
 go_enter Try.func67, Try.ntmps67
 go_wp2
 go_loopw [5, 8] (fun _ i wr => ∃ k : Nat, k ≤ l.length ∧ i = .int .i64 k ∧ Ext w wr ∧ Hid (∀ j (h : j < l.length), j < k → q l[j] = false)) (fun _ i _ => l.length - (intOf i).toNat)
 case atStart => exact ⟨0, by omega, rfl, Ext.refl _, Lib.hid fun j _ hj => absurd hj (Nat.not_lt_zero _)⟩
 case round =>
  obtain ⟨k, hk, rfl, hx, HO⟩ := hrel
  by_cases hlt : k < l.length
  ·have hlt2 : (k : Int) < (l.length : Int) := by omega
   obtain ⟨ad, rfl, hc⟩ := HH.out.int hlt
   have hc0 := hc _ hx
   obtain ⟨hx0, hx3⟩ := HL.out _ (List.getElem_mem hlt)
   have hcall := HP.out wr l[k] hx hx0 hx3
   have HX := Lib.hid hx
   clear hc hx hx0 hx3
   cases hq : q l[k] with
   | true =>
    rw [hq] at hcall
    have HF : Hid (l.findIdx? q = some k) := Lib.hid (findIdx_hit hlt hq fun j hj => HO.out j (by omega) hj)
    clear hq
    go_wp2_with fail
    refine hcall.mono ?_
    rintro e w2 ⟨rfl, hx2⟩
    go_wp2
    go_ret
    exact ⟨by rw [HF.out]; rfl, HX.out.trans hx2⟩
   | false =>
    rw [hq] at hcall
    have HT := Lib.hid hq
    clear hq
    go_wp2_with fail
    refine hcall.mono ?_
    rintro e w2 ⟨rfl, hx2⟩
    go_wp2
    go_roundw
    case rel => exact ⟨k + 1, by omega, by go_num, HX.out.trans hx2, Lib.hid fun j h hj => by
     rcases Nat.lt_or_ge j k with h' | h'
     ·exact HO.out j h h'
     ·obtain rfl : j = k := by omega
      exact HT.out⟩
    case measure => simp [intOf]; omega
  ·have hlt2 : ¬ (k : Int) < (l.length : Int) := by omega
   have HF : Hid (l.findIdx? q = none) := Lib.hid (findIdx_miss fun j hj => HO.out j hj (by omega))
   have HX := Lib.hid hx
   go_wp2
   go_ret
   exact ⟨by rw [HF.out]; rfl, HX.out⟩
theorem idI_any {α : Type} (l : List α) (q : α → Bool) : decide (0 ≤ idI (l.findIdx? q)) = l.any q := by
 cases hf : l.findIdx? q with
 | none =>
  have : l.any q = false := by
   rw [List.any_eq_false]
   intro x hx
   simp [List.findIdx?_eq_none_iff.1 hf x hx]
  rw [this]; rfl
 | some i =>
  obtain ⟨hi, hp, _⟩ := List.findIdx?_eq_some_iff_getElem.1 hf
  have : l.any q = true := List.any_eq_true.2 ⟨_, List.getElem_mem hi, hp⟩
  rw [this]
  simp [idI]
theorem icontf_any (f : Nat) (lb : Array Value) (eg : ∀ args w, (callFunc f args).run Try.prog w = .ok (.enter f args) w) (q : Int → Bool) (A : Option Addr) (cap : Nat) (l : List Int) (w : World) (h : Sl w A (ib l)) (hl : ∀ x ∈ l, 0 ≤ x ∧ x ≤ 3) (hp : TellsI f lb q w) (hn : l.length ≤ 1000000) :
 Calls Try.prog 58 #[.slice A l.length cap, .func (.func f) #[] lb] w fun e w' => e = .returned (.bool (l.any q)) ∧ Ext w w' := by
 have HC := iindexf_any f lb eg q A cap l w h hl hp hn
 rw [← idI_any]
 generalize idI (l.findIdx? q) = z at *
 go_enter Try.func58, Try.ntmps58
 go_wp2_with fail
 refine HC.mono ?_
 rintro e w1 ⟨rfl, hx1⟩
 go_wp2
 go_ret
 exact ⟨rfl, hx1⟩
def saidC (m : List Int) : List Value := [.bool (hasI m 0), .bool (hasI m 1), .bool (hasI m 2), .bool (hasI m 3)]
theorem saidC_get (m : List Int) {x : Nat} (h : x ≤ 3) : (saidC m)[x]? = some (.bool (hasI m x)) := by
 rcases x with _ | _ | _ | _ | x
 ·rfl
 ·rfl
 ·rfl
 ·rfl
 ·omega
theorem enters_all : ∀ args w, (callFunc 59 args).run Try.prog w = .ok (.enter 59 args) w := enters_of Try.func59 (by kernel_rfl) rfl
theorem all_tells (m : List Int) (B : Nat) (w : World) (h : w.heap[B]? = some (.cells (saidC m).toArray 83 (0, 0))) : TellsI 59 #[.pointer (some ⟨B, 0, none⟩)] (fun x => !hasI m x) w := by
 intro W x hx h0 h3
 obtain ⟨k, rfl⟩ := Int.eq_ofNat_of_zero_le h0
 have hk : k ≤ 3 := by omega
 have hB := hx.obj h
 have hc : W.cell? ⟨B, k, none⟩ = some (.bool (hasI m k)) := by
  rw [cell_of_row _ _ _ _ _ _ hB]
  simpa using saidC_get m hk
 have hk4 : (k : Int) < 4 := by omega
 clear h hB h3 hx
 show Calls Try.prog 59 #[.int .i64 (k : Int), .pointer (some ⟨B, 0, none⟩)] W _
 go_enter Try.func59, Try.ntmps59
 go_wp2
 go_ret
 exact ⟨rfl, Ext.refl _⟩
set_option maxHeartbeats 1000000 in
theorem txall_any (t : Tr) (m : List Int) (A : Option Addr) (cap : Nat) (w : World) (h : Sl w A (ib t.shards)) (hl : ∀ x ∈ t.shards, 0 ≤ x ∧ x ≤ 3) (hn : t.shards.length ≤ 1000000) :
 Calls Try.prog 39 #[.agg (trC t (.slice A t.shards.length cap)).toArray, .agg (saidC m).toArray] w fun e w' => e = .returned (.bool (allIn t.shards m)) ∧ Ext w w' := by
 have hmf : ∀ (fn : Fn) (first cap : Array Value) (w : World), (Instr.makeFunc fn first cap).run Try.prog w = .ok (.func fn first cap) w := fun _ _ _ _ => rfl
 have HL := Lib.hid hl
 have HH := Lib.hid h
 have HE : Hid ((!t.shards.any fun x => !hasI m x) = allIn t.shards m) := Lib.hid (by unfold allIn; simp [List.any_eq_not_all_not])
 have hx2 : ∀ o1 o2, Ext w ((w.alloc o1).alloc o2) := fun o1 o2 => ((Ext.refl w).alloc o1).alloc o2
 clear h hl
 unfold trC saidC
 go_enter Try.func39, Try.ntmps39
 go_wp2_with fail
 generalize hw1 : w.alloc _ = w1
 have hx1 : Ext w w1 := hw1 ▸ (Ext.refl w).alloc _
 have hz1 : w1.heap.size = w.heap.size + 1 := by rw [← hw1]; simp
 clear hw1
 generalize hw2 : w1.alloc _ = wb
 have hB : wb.heap[w1.heap.size]? = some (.cells (saidC m).toArray 83 (0, 0)) := hw2 ▸ heap_alloc_new w1 _
 have hxb : Ext w wb := hx1.trans (hw2 ▸ (Ext.refl w1).alloc _)
 rw [hz1] at hB
 clear hw2 hz1
 refine (icontf_any 59 _ enters_all _ A cap t.shards wb (HH.out.ext hxb) HL.out (all_tells m _ _ hB) hn).mono ?_
 rintro e w3 ⟨rfl, hx3⟩
 go_wp2
 go_ret
 exact ⟨ret_bool HE.out, hxb.trans hx3⟩
end Go.Proofs.Ytijopcdjlpafdaa
namespace Go.Proofs.Ytijopcdjlpafdaa
open Go.RowKit
set_option maxHeartbeats 1000000 in
theorem iindex_any (x : Int) (A : Option Addr) (cap : Nat) (l : List Int) (w : World) (h : Sl w A (ib l)) (hn : l.length ≤ 1000000) :
 Calls Try.prog 57 #[.slice A l.length cap, .int .i64 x] w fun e w' => e = .returned (.int .i64 (idI (l.findIdx? fun y => decide (y = x)))) ∧ w = w' := by
 have HH := Lib.hid h
 clear h
 go_enter Try.func57, Try.ntmps57
 go_wp2
 go_loop [5, 8] (fun _ i => ∃ k : Nat, k ≤ l.length ∧ i = .int .i64 k ∧ Hid (∀ j (h : j < l.length), j < k → decide (l[j] = x) = false)) (fun _ i => l.length - (intOf i).toNat)
 case atStart => exact ⟨0, by omega, rfl, Lib.hid fun j _ hj => absurd hj (Nat.not_lt_zero _)⟩
 case round =>
  obtain ⟨k, hk, rfl, HO⟩ := hrel
  by_cases hlt : k < l.length
  ·have hlt2 : (k : Int) < (l.length : Int) := by omega
   obtain ⟨ad, rfl, hc⟩ := HH.out.int hlt
   have hc0 := hc _ (Ext.refl _)
   clear hc
   by_cases hq : l[k] = x
   ·have HF : Hid (l.findIdx? (fun y => decide (y = x)) = some k) := Lib.hid (findIdx_hit hlt (by simpa using hq) fun j hj => HO.out j (by omega) hj)
    have hq2 : (x == l[k]) = true := by rw [hq]; simp
    generalize l[k] = y at *
    clear hq
    go_wp2
    go_ret
    exact ⟨by rw [HF.out]; rfl, rfl⟩
   ·have HT : Hid (decide (l[k] = x) = false) := Lib.hid (by simpa using hq)
    have hq2 : (x == l[k]) = false := by simpa using fun e => hq e.symm
    clear hq
    go_wp2
    go_round
    case rel => exact ⟨k + 1, by omega, by go_num, Lib.hid fun j h hj => by
     rcases Nat.lt_or_ge j k with h' | h'
     ·exact HO.out j h h'
     ·obtain rfl : j = k := by omega
      exact HT.out⟩
    case measure => simp [intOf]; omega
  ·have hlt2 : ¬ (k : Int) < (l.length : Int) := by omega
   have HF : Hid (l.findIdx? (fun y => decide (y = x)) = none) := Lib.hid (findIdx_miss fun j hj => HO.out j hj (by omega))
   go_wp2
   go_ret
   exact ⟨by rw [HF.out]; rfl, rfl⟩
theorem icont_any (x : Int) (A : Option Addr) (cap : Nat) (l : List Int) (w : World) (h : Sl w A (ib l)) (hn : l.length ≤ 1000000) :
 Calls Try.prog 38 #[.slice A l.length cap, .int .i64 x] w fun e w' => e = .returned (.bool (hasI l x)) ∧ w = w' := by
 have HC := iindex_any x A cap l w h hn
 have HE := Lib.hid (idI_any l fun y => decide (y = x))
 have HI : Hid (hasI l x = l.any fun y => decide (y = x)) := Lib.hid rfl
 generalize idI (l.findIdx? fun y => decide (y = x)) = z at *
 go_enter Try.func38, Try.ntmps38
 go_wp2_with fail
 refine HC.mono ?_
 rintro e w1 ⟨rfl, rfl⟩
 go_wp2
 go_ret
 exact ⟨ret_bool (HE.out.trans HI.out.symm), rfl⟩
set_option maxHeartbeats 1000000 in
theorem iequal_any (A B : Option Addr) (c1 c2 : Nat) (l m : List Int) (w : World) (h : Sl w A (ib l)) (h2 : Sl w B (ib m)) (hn : l.length ≤ 1000000) :
 Calls Try.prog 55 #[.slice A l.length c1, .slice B m.length c2] w fun e w' => e = .returned (.bool (decide (l = m))) ∧ Ext w w' := by
 by_cases hlen : l.length = m.length
 ·have HL := Lib.hid h
  have HM := Lib.hid h2
  have hle : (l.length : Int) = (m.length : Int) := by omega
  rw [← hlen]
  have HLEN := Lib.hid hlen
  have hne : ((l.length : Int) != (l.length : Int)) = false := by simp
  clear h h2 hlen hle
  go_enter Try.func55, Try.ntmps55
  go_wp2
  go_loopw [5, 13] (fun _ i wr => ∃ k : Nat, k ≤ l.length ∧ i = .int .i64 k ∧ Ext w wr ∧ Hid (∀ j (h : j < l.length), j < k → l[j] = m[j]'(by have := HLEN.out; omega))) (fun _ i _ => l.length - (intOf i).toNat)
  case atStart => exact ⟨0, by omega, rfl, Ext.refl _, Lib.hid fun j _ hj => absurd hj (Nat.not_lt_zero _)⟩
  case round =>
   obtain ⟨k, hk, rfl, hx, HO⟩ := hrel
   by_cases hlt : k < l.length
   ·have hlt2 : (k : Int) < (l.length : Int) := by omega
    have hltm : k < m.length := by have := HLEN.out; omega
    obtain ⟨ad, rfl, hc⟩ := HL.out.int hlt
    obtain ⟨ad2, rfl, hc2⟩ := HM.out.int hltm
    have hxd := hx.drew
    have HXD := Lib.hid hxd
    clear hxd
    by_cases hq : l[k] = m[k]
    ·have HT : ∀ j (h : j < l.length), j < k + 1 → l[j] = m[j]'(by have := HLEN.out; omega) := fun j h hj => by
      rcases Nat.lt_or_ge j k with h' | h'
      ·exact HO.out j h h'
      ·obtain rfl : j = k := by omega
       exact hq
     have HT := Lib.hid HT
     have hq2 : (l[k] != m[k]) = false := by rw [hq]; simp
     generalize l[k] = y at hc hq2
     generalize m[k] = z at hc2 hq2
     clear hq
     go_wp2_with fail
     go_quiet (fail)
     go_wp2
     go_roundw
     case rel => exact ⟨k + 1, by omega, by go_num, hx.drewN _, HT⟩
     case measure => simp [intOf]; omega
    ·have HT : Hid (decide (l = m) = false) := Lib.hid (by simpa using fun e => hq (by subst e; rfl))
     have hq2 : (l[k] != m[k]) = true := by simpa using hq
     generalize l[k] = y at *
     generalize m[k] = z at *
     clear hq
     go_wp2_with fail
     go_quiet (fail)
     go_wp2
     go_ret
     exact ⟨ret_bool HT.out.symm, hx.drewN _⟩
   ·have hlt2 : ¬ (k : Int) < (l.length : Int) := by omega
    have HT : Hid (decide (l = m) = true) := Lib.hid (by
     have := HLEN.out
     simpa using List.ext_getElem this fun j h1 h2 => HO.out j h1 (by omega))
    go_wp2
    go_ret
    exact ⟨ret_bool HT.out.symm, hx⟩
 ·have hne : ((l.length : Int) != (m.length : Int)) = true := by simp; omega
  have HT : Hid (decide (l = m) = false) := Lib.hid (by simpa using fun e => hlen (by rw [e]))
  clear hlen h h2
  go_enter Try.func55, Try.ntmps55
  go_wp2
  go_ret
  exact ⟨ret_bool HT.out.symm, Ext.refl _⟩
/-! ## a node in memory -/
structure CoR (M : List Nat) (w : World) (p : Nat) (s : Cs) (A : Option Addr) (cap : Nat) : Prop where
 row : w.heap[p]? = some (.cells #[.int .i64 s.node, .int .i64 s.boot, .int .i64 s.next, .slice A s.under.length cap] 72 (0, 0))
 rs : RsM RTr 13 M w A s.under
def Co (M : List Nat) (w : World) (p : Nat) (s : Cs) : Prop := ∃ A cap, CoR M w p s A cap
section
variable {M N : List Nat} {w w' : World} {p : Nat} {s : Cs}
theorem Co.lt (h : Co M w p s) : p < w.heap.size := by
 obtain ⟨A, cap, h⟩ := h
 exact obj_lt h.row
theorem Co.kept (h : Co M w p s) (k : Kept N w w') (hp : p ∉ N) (hs : ∀ k ∈ N, k ∈ M) : Co M w' p s := by
 obtain ⟨A, cap, h⟩ := h
 obtain ⟨css, h1, h2, h3, h4⟩ := h.rs
 have hk : Kept M w w' := k.mono hs
 exact ⟨A, cap, k.heap h.row hp, h.rs.kept hk⟩
theorem Co.ext (h : Co M w p s) (k : Ext w w') : Co M w' p s := h.kept (N := []) (.of_ext k) (by simp) (by simp)
theorem Co.old (h : Co M w p s) (hs : ∀ k ∈ N, k ∈ M ∨ w.heap.size ≤ k) : Co N w p s := by
 obtain ⟨A, cap, h⟩ := h
 exact ⟨A, cap, h.row, h.rs.old hs⟩
/-- a transaction of the node's -/
theorem RsM.tr {A : Option Addr} {xs : List Tr} (h : RsM RTr 13 M w A xs) {k : Nat} (hk : k < xs.length) :
 ∃ ad A1 c1, A = some ad ∧ Sl w A1 (ib xs[k].shards) ∧ (∀ W, Ext w W → ∀ j v, (trC xs[k] (.slice A1 xs[k].shards.length c1))[j]? = some v → W.cell? ((ad.add (k * 13)).add j) = some v) ∧
  (∀ W, Ext w W → W.cell? ⟨(ad.add (k * 13)).block, (ad.add (k * 13)).off + 4, none⟩ = some (.bool xs[k].done)) := by
 obtain ⟨ad, cs, e, _, _, hcell, A1, c1, rfl, h1⟩ := h.at_ (by omega) hk
 refine ⟨ad, A1, c1, e, h1.sl, fun W hx j v hj => ?_, fun W hx => ?_⟩
 ·rw [add_addB]
  exact hx.cell (hcell j v hj)
 ·have := hx.cell (hcell 4 _ rfl)
  rw [← add_addB, add_pos'] at this
  exact this
end
set_option maxHeartbeats 1000000 in
theorem cfind_any {M : List Nat} {w : World} {p : Nat} {s : Cs} (h : Co M w p s) (id : TxI) (hn : s.under.length ≤ 1000) :
 Calls Try.prog 41 #[pt p, .agg #[.int .i64 id.node, .int .i64 id.boot, .int .i64 id.n]] w fun e w' => e = .returned (.int .i64 (idI (findT s.under id))) ∧ Ext w w' := by
 obtain ⟨A, cap, h⟩ := h
 obtain ⟨c0, c1, c2, c3, cf⟩ := rows4 h.row
 have HRS := Lib.hid h.rs
 have HI : Hid (findT s.under id = s.under.findIdx? fun t => decide (t.id = id)) := Lib.hid rfl
 clear h c0 c1 c2 cf
 unfold pt
 go_enter Try.func41, Try.ntmps41
 go_wp2_with fail
 generalize hw1 : w.alloc _ = wb
 have hB : TxAt wb w.heap.size id := hw1 ▸ heap_alloc_new w _
 have hxb : Ext w wb := hw1 ▸ (Ext.refl w).alloc _
 clear hw1 c3
 refine (tindex_any 61 _ enters_find _ M A cap s.under wb (HRS.out.kept (.of_ext hxb)) (find_tells id _ M wb hB) (by omega)).mono ?_
 rintro e w2 ⟨rfl, hx2⟩
 go_wp2
 go_ret
 exact ⟨by rw [HI.out]; rfl, hxb.trans hx2⟩
/-- what at answers -/
def atV (s : Cs) (id : TxI) (d : Bool) : Value := match s.at_ id d with
 | some i => .tuple #[.int .i64 i, .int .i64 0]
 | none => .tuple #[.int .i64 0, .int .i64 9]
set_option maxHeartbeats 1000000 in
theorem cat_any {M : List Nat} {w : World} {p : Nat} {s : Cs} (h : Co M w p s) (id : TxI) (d : Bool) (hn : s.under.length ≤ 1000) :
 Calls Try.prog 31 #[pt p, .agg #[.int .i64 id.node, .int .i64 id.boot, .int .i64 id.n], .bool d] w fun e w' => e = .returned (atV s id d) ∧ Ext w w' := by
 have HF := fun W (hx : Ext w W) => cfind_any (h.ext hx) id hn
 obtain ⟨A, cap, h⟩ := h
 obtain ⟨c0, c1, c2, c3, cf⟩ := rows4 h.row
 have HRS := Lib.hid h.rs
 clear h c0 c1 c2 cf
 have hx0 := Ext.refl w
 cases hf : findT s.under id with
 | none =>
  rw [hf] at HF
  have HV : Hid (atV s id d = .tuple #[.int .i64 0, .int .i64 9]) := Lib.hid (by unfold atV Cs.at_; rw [hf])
  have hm : idI none = -1 := rfl
  rw [hm] at HF
  clear hm hf
  unfold pt at *
  go_enter Try.func31, Try.ntmps31
  go_wp2_with fail
  generalize hw1 : w.alloc _ = wb
  have hxb : Ext w wb := hw1 ▸ (Ext.refl w).alloc _
  clear hw1
  refine (HF _ hxb).mono ?_
  rintro e w2 ⟨rfl, hx2⟩
  go_wp2
  go_ret2
  exact ⟨by rw [HV.out]; rfl, hxb.trans hx2⟩
 | some i =>
  rw [hf] at HF
  obtain ⟨hi, hid⟩ := findT_some hf
  have hm : idI (some i) = (i : Int) := rfl
  rw [hm] at HF
  have hrow : s.row i = s.under[i] := by unfold Cs.row; rw [List.getD_eq_getElem?_getD, List.getElem?_eq_getElem hi]; rfl
  obtain ⟨ad, A1, c1', rfl, _, _, hd⟩ := HRS.out.tr hi
  have hnneg : ¬ (i : Int) < 0 := by omega
  have hilt : (i : Int) < (s.under.length : Int) := by omega
  have HV : Hid (atV s id d = if s.under[i].done = d then .tuple #[.int .i64 i, .int .i64 0] else .tuple #[.int .i64 0, .int .i64 9]) := Lib.hid (by
   unfold atV Cs.at_
   rw [hf]
   simp only
   rw [hrow]
   by_cases hdd : s.under[i].done = d
   ·rw [if_pos hdd, if_pos hdd]
   ·rw [if_neg hdd, if_neg hdd])
  generalize s.under[i].done = dd at *
  clear hm hf hid hrow
  unfold pt at *
  cases dd <;> cases d
  all_goals
   go_enter Try.func31, Try.ntmps31
   go_wp2_with fail
   generalize hw1 : w.alloc _ = wb
   have hxb : Ext w wb := hw1 ▸ (Ext.refl w).alloc _
   clear hw1
   refine (HF _ hxb).mono ?_
   rintro e w2 ⟨rfl, hx2⟩
   have hx3 := hxb.trans hx2
   clear hxb hx2 HF
   go_wp2
   go_ret2
   exact ⟨by rw [HV.out]; rfl, hx3⟩
end Go.Proofs.Ytijopcdjlpafdaa
namespace Go.Proofs.Ytijopcdjlpafdaa
open Go.RowKit
section
variable {P : Program} {ops : Array Oper} {Q : Exit → Act → World → Prop} {a : Act} {w : World} {K : Act → World → Prop} {E : Prop}
theorem step_callG {o : Oper} {f : Nat} {args : Array Value} {R : Ending → World → Prop} (hw : Region.wanted o (yielded ops a.tmps) = true) (hrun : (execOp a.eval o).run P w = .ok (.enter f args) w) (hc : Calls P f args w R)
 (h : ∀ e w'', R e w'' → ∃ v, e = .returned v ∧ K (a.put o.dst v) w'') : if Region.wanted o (yielded ops a.tmps) = true then Oper.wp P o a w K Q else E := by
 rw [if_pos hw]
 unfold Oper.wp
 rw [hrun, Oper.upon_enter]
 refine hc.mono fun e w'' hh => ?_
 obtain ⟨v, rfl, hk⟩ := h e w'' hh
 exact hk
end
end Go.Proofs.Ytijopcdjlpafdaa
namespace Go.Proofs.Ytijopcdjlpafdaa
open Go.RowKit
theorem red {α : Type} : (∀ (l : List α) (i : Nat) (h : i < l.toArray.size), l.toArray[i] = l[i]'(by simpa using h)) ∧ (∀ (a : α) (l : List α) (i : Nat) (h : i + 1 < (a :: l).length), (a :: l)[i + 1] = l[i]'(by simpa using h)) ∧
 (∀ (a : α) (l : List α) (h : 0 < (a :: l).length), (a :: l)[0] = a) ∧ (∀ (l : List α) (i : Nat) (a : α), l.toArray.setIfInBounds i a = (l.set i a).toArray) ∧ (∀ (a b : α) (l : List α), (a :: l).set 0 b = b :: l) ∧ (∀ (a b : α) (l : List α) (n : Nat), (a :: l).set (n + 1) b = a :: l.set n b) :=
 ⟨fun _ _ _ => List.getElem_toArray .., fun _ _ _ _ => List.getElem_cons_succ .., fun _ _ _ => List.getElem_cons_zero .., fun _ _ _ => List.setIfInBounds_toArray .., fun _ _ _ => List.set_cons_zero .., fun _ _ _ _ => List.set_cons_succ ..⟩
section
variable {P : Program} {ops : Array Oper} {Q : Exit → Act → World → Prop} {md : Region.Mode} {S : World → Prop} {n : Nat}
/-- an operation that yields a value in each world that is held -/
theorem wt (i : Nat) {oi : Oper} (v : Value) {fuel : Nat} {listed : Array Bool} {a : Act} {w : World} {tail : List Oper}
 (h : wpHead P md ops Q S n (Tail P md ops Q n tail) fuel (listed.setIfInBounds i true) (a.put oi.dst v) w)
 (hi : ops[i]? = some oi := by rfl) (hB : phaseB md ops n = true := by kernel_rfl)
 (hb : (decide (i < n) && headB md ops n listed && Region.free md ops listed i && (Region.ready md ops listed).contains i) = true := by kernel_rfl)
 (hQ : ∀ c a w, Q (.panic c) (a.put oi.dst v) w → Q (.panic c) a w := by exact fun _ _ _ h => h) (hw : Region.wanted oi (yielded ops a.tmps) = true := by rfl) (hS : S w := by assumption)
 (hy : ∀ w, S w → (execOp a.eval oi).run P w = .ok (.value v) w := by intro w hSw; first | (go_simp; done) | (go_simp; with_reducible rfl)) :
 wpHead P md ops Q S n (Tail P md ops Q n tail) (fuel + 1) listed a w := wpHead_take hi hB hb hQ (.inl ⟨hw, hy⟩) hS h
/-- the same, where what it yields is told -/
theorem wy (i : Nat) {oi : Oper} {v : Value} {fuel : Nat} {listed : Array Bool} {a : Act} {w : World} {tail : List Oper} (hi : ops[i]? = some oi) (hy : YieldsIf P ops S oi v a)
 (h : wpHead P md ops Q S n (Tail P md ops Q n tail) fuel (listed.setIfInBounds i true) (a.put oi.dst v) w)
 (hB : phaseB md ops n = true := by kernel_rfl)
 (hb : (decide (i < n) && headB md ops n listed && Region.free md ops listed i && (Region.ready md ops listed).contains i) = true := by kernel_rfl)
 (hQ : ∀ c a w, Q (.panic c) (a.put oi.dst v) w → Q (.panic c) a w := by exact fun _ _ _ h => h) (hS : S w := by assumption) :
 wpHead P md ops Q S n (Tail P md ops Q n tail) (fuel + 1) listed a w := wpHead_take hi hB hb hQ hy hS h
/-- an operation whose guard is false -/
theorem ws (i : Nat) {oi : Oper} {fuel : Nat} {listed : Array Bool} {a : Act} {w : World} {tail : List Oper}
 (h : wpHead P md ops Q S n (Tail P md ops Q n tail) fuel (listed.setIfInBounds i true) (a.put oi.dst undef) w)
 (hi : ops[i]? = some oi := by rfl) (hB : phaseB md ops n = true := by kernel_rfl)
 (hb : (decide (i < n) && headB md ops n listed && Region.free md ops listed i && (Region.ready md ops listed).contains i) = true := by kernel_rfl)
 (hQ : ∀ c a w, Q (.panic c) (a.put oi.dst undef) w → Q (.panic c) a w := by exact fun _ _ _ h => h) (hw : Region.wanted oi (yielded ops a.tmps) = false := by rfl) (hS : S w := by assumption) :
 wpHead P md ops Q S n (Tail P md ops Q n tail) (fuel + 1) listed a w := wpHead_take hi hB hb hQ (.inr ⟨hw, rfl⟩) hS h
/-- which operations may come next -/
theorem rd (rs : List Nat) {T : Array Bool → Act → World → Prop} {fuel : Nat} {listed : Array Bool} {a : Act} {w : World} (h : AllHead P md ops Q S n T fuel listed a w rs)
 (hr : Region.ready md ops listed = rs := by kernel_rfl) (hne : rs ≠ [] := by simp) (hlt : (rs.all fun i => decide (i < n)) = true := by kernel_rfl) : wpHead P md ops Q S n T (fuel + 1) listed a w := wpHead_ready hr hne hlt h
theorem ac {T : Array Bool → Act → World → Prop} {fuel : Nat} {listed : Array Bool} {a : Act} {w : World} {i : Nat} {o : Oper} {rs : List Nat}
 (h : ∀ K' : Act → World → Prop, Shut (∀ a w, S w → (S w → wpHead P md ops Q S n T fuel (listed.setIfInBounds i true) a w) → K' a w) → if Region.wanted o (yielded ops a.tmps) = true then Oper.wp P o a w K' Q else K' (a.put o.dst undef) w)
 (hs : AllHead P md ops Q S n T fuel listed a w rs) (ho : ops[i]? = some o := by rfl) : AllHead P md ops Q S n T fuel listed a w (i :: rs) := AllHead.cons ho h hs
end
end Go.Proofs.Ytijopcdjlpafdaa
namespace Go.Proofs.Ytijopcdjlpafdaa
open Go.RowKit
/-- the node's list is laid anew -/
theorem co_store {M : List Nat} {w w2 : World} {p base n' c' : Nat} {a b c : Int} {old : Value} {A' : Option Addr} {us' : List Tr} (hr : w2.heap[p]? = some (.cells #[.int .i64 a, .int .i64 b, .int .i64 c, old] 72 (0, 0))) (hp : p ∈ M) (hM : ∀ k ∈ M, k < w.heap.size) (hk : Kept [p] w w2)
 (hb : w.heap.size ≤ base) (ho : OwnR RTr 13 85 M w w2 base (.slice A' n' c') us') :
 Co M (w2.setCell ⟨p, 3, none⟩ (.slice A' n' c')) p ⟨a, b, c, us'⟩ ∧ Kept [p] w (w2.setCell ⟨p, 3, none⟩ (.slice A' n' c')) := by
 have h1 : ∀ k ∈ [p], k ∈ M := by intro k hk; simp at hk; subst hk; exact hp
 have h2 : Kept [p] w2 (w2.setCell ⟨p, 3, none⟩ (.slice A' n' c')) := (Kept.refl _ _).setCell (.inl (by simp)) _
 have hn := ho.cap.1
 subst hn
 refine ⟨⟨A', c', ?_, ((ho.rsm (hk.mono h1) fun k hk => Nat.lt_of_lt_of_le (hM k hk) hb).kept (h2.mono h1))⟩, hk.trans h2⟩
 have := heap_setCell_same w2 p 3 _ _ (.slice A' us'.length c') hr
 simpa using this
theorem CNew_any (n : Int) (w : World) (h0 : 0 ≤ n) (h1 : n ≤ 255) :
 Calls Try.prog 7 #[.int .i64 n] w fun e w' => e = .returned (.tuple #[pt w.heap.size, .int .i64 0]) ∧ Ext w w' ∧ w.heap.size < w'.heap.size ∧ ∀ M, Co M w' w.heap.size ⟨n, 0, 1, []⟩ := by
 have h0' : ¬ n < 0 := by omega
 have h1' : ¬ 255 < n := by omega
 clear h0 h1
 go_enter Try.func7, Try.ntmps7
 go_wp2
 go_ret2
 exact ⟨rfl, (Ext.refl _).alloc _, by simp, fun M => ⟨none, 0, heap_alloc_new w _, RsM.nil _ _ _ _ _⟩⟩
theorem CBoot_any {M : List Nat} {w : World} {p : Nat} {s : Cs} (h : Co M w p s) (hs : s.Ok) :
 Calls Try.prog 9 #[pt p] w fun e w' => ∃ v, e = .returned (.tuple #[v, .int .i64 (bootO s).2]) ∧ Own w' w.heap.size v (bootO s).1 ∧ Ext w w' := by
 obtain ⟨A, cap, h⟩ := h
 obtain ⟨c0, c1, c2, c3, cf⟩ := rows4 h.row
 have hb := hs.boot1
 clear h c0 c2 c3 cf
 have hx0 := Ext.refl w
 by_cases h1 : s.boot = 2147483647
 ·have HV : Hid (bootO s = ([], 8)) := Lib.hid (by unfold bootO; rw [if_pos h1])
  rw [h1] at c1
  clear hb h1
  unfold pt
  go_enter Try.func9, Try.ntmps9
  go_wp2
  go_ret2
  rw [HV.out]
  exact ⟨_, rfl, Own.nil _ _, Ext.refl _⟩
 ·have HV : Hid (bootO s = (1 :: be4 (s.boot + 1), 0)) := Lib.hid (by unfold bootO; rw [if_neg h1])
  have hb2 := hs.boot2
  have hne : (s.boot == 2147483647) = false := by simpa using h1
  have hw : IntKind.i64.wrap (s.boot + 1) = s.boot + 1 := by
   obtain ⟨k, hk⟩ := Int.eq_ofNat_of_zero_le hb
   rw [hk]
   exact wrap64_nat (k + 1) (by omega)
  have hN := fun W (b : Value) (l : By) (ho : Own W w.heap.size b l) (hx : Ext w W) (hl : l.length ≤ 1000) => num_i w W b l (s.boot + 1) 4 (by omega) hx ho (by omega) (by omega)
  clear h1
  unfold pt
  go_enter Try.func9, Try.ntmps9
  go_wp2_with fail
  have hx1 : Ext w (w.alloc (.cells #[.int .u8 1] 5)) := (Ext.refl w).alloc _
  have ho1 : Own (w.alloc (.cells #[.int .u8 1] 5)) w.heap.size (.slice (some ⟨w.heap.size, 0, none⟩) 1 1) [1] := Own.new w w.heap.size _ [1] 1 rfl rfl (Nat.le_refl _) (by simp [maxLen])
  refine (hN _ _ _ ho1 hx1 (by simp)).mono ?_
  rintro e w2 ⟨b2, rfl, ho2, hx2⟩
  have HO := Lib.hid ho2
  have HX := Lib.hid hx2
  clear hN ho1 ho2 hx1 hx2
  go_wp2
  go_ret2
  rw [HV.out]
  exact ⟨_, rfl, HO.out, HX.out⟩
set_option maxHeartbeats 1000000 in
theorem cremove_any {M : List Nat} {w : World} {p : Nat} {s : Cs} (h : Co M w p s) (hp : p ∈ M) (hM : ∀ k ∈ M, k < w.heap.size) (i : Nat) (hi : i < s.under.length) (hn : s.under.length ≤ 1000) :
 Calls Try.prog 32 #[pt p, .int .i64 i] w fun e w' => e = .returned (.tuple #[]) ∧ Co M w' p { s with under := s.under.eraseIdx i } ∧ Kept [p] w w' := by
 obtain ⟨A, cap, h⟩ := h
 obtain ⟨c0, c1, c2, c3, cf⟩ := rows4 h.row
 have HROW := Lib.hid h.row
 have HC := tclone_any A cap s.under M w w h.rs (Ext.refl _) (by omega)
 have hx0 := Ext.refl w
 clear h c0 c1 c2
 unfold pt
 go_enter Try.func32, Try.ntmps32
 go_wp2_with fail
 refine HC.mono ?_
 rintro e w1 ⟨v1, rfl, ho1, hx1⟩
 have hwi : IntKind.i64.wrap ((i : Int) + 1) = (i : Int) + 1 := wrap64_nat (i + 1) (by omega)
 go_wp2_with fail
 refine (tdel_own s.under i w.heap.size M v1 w w1 ho1 hi).mono ?_
 rintro e w2 ⟨v2, rfl, ho2, hxx⟩
 have hx2 := hxx w hx1 (Nat.le_refl _)
 obtain ⟨A2, c2, rfl⟩ := ho2.form
 have HST := Lib.hid (co_store (hx2.obj HROW.out) hp hM (.of_ext hx2) (Nat.le_refl _) ho2)
 clear ho1 ho2 hxx HC hwi
 go_wp2
 go_end0
 exact ⟨rfl, HST.out.1, HST.out.2⟩
set_option maxHeartbeats 1000000 in
theorem clives_any {M : List Nat} {w : World} {p : Nat} {s : Cs} (h : Co M w p s) (hp : p ∈ M) (hM : ∀ k ∈ M, k < w.heap.size) (b : Int) (hn : s.under.length ≤ 1000) :
 Calls Try.prog 30 #[pt p, .int .i64 b] w fun e w' => e = .returned (.int .i64 (livesO s b).1) ∧ Co M w' p (livesO s b).2 ∧ Kept [p] w w' := by
 have HCO := Lib.hid h
 obtain ⟨A, cap, h⟩ := h
 obtain ⟨c0, c1, c2, c3, cf⟩ := rows4 h.row
 have hx0 := Ext.refl w
 by_cases h1 : b ≤ s.boot
 ·have HV : Hid (livesO s b = (13, s)) := Lib.hid (by unfold livesO; rw [if_pos h1])
  clear h c0 c2 c3 cf
  unfold pt
  go_enter Try.func30, Try.ntmps30
  go_wp2
  go_ret
  rw [HV.out]
  exact ⟨rfl, HCO.out, Kept.refl _ _⟩
 ·have HV : Hid (livesO s b = (0, { s with boot := b, next := 1, under := s.under.filter (·.done) })) := Lib.hid (by unfold livesO; rw [if_neg h1])
  have hset : ((w.setCell ⟨p, 1, none⟩ (.int .i64 b)).setCell ⟨p, 2, none⟩ (.int .i64 1)).heap[p]? = some (.cells #[.int .i64 s.node, .int .i64 b, .int .i64 1, .slice A s.under.length cap] 72 (0, 0)) := by
   have e1 := heap_setCell_same w p 1 _ _ (.int .i64 b) h.row
   have e2 := heap_setCell_same _ p 2 _ _ (.int .i64 1) e1
   simpa using e2
  have hk : Kept [p] w ((w.setCell ⟨p, 1, none⟩ (.int .i64 b)).setCell ⟨p, 2, none⟩ (.int .i64 1)) := ((Kept.refl _ _).setCell (.inl (by simp)) _).setCell (.inl (by simp)) _
  have h1p : ∀ k ∈ [p], k ∈ M := by intro k hk; simp at hk; subst hk; exact hp
  have HRS := Lib.hid (h.rs.kept (hk.mono h1p))
  have HSET := Lib.hid hset
  have HK := Lib.hid hk
  have HM : Hid (∀ k ∈ M, k < ((w.setCell ⟨p, 1, none⟩ (.int .i64 b)).setCell ⟨p, 2, none⟩ (.int .i64 1)).heap.size) := Lib.hid (by simpa using hM)
  have d1 := c1 w hx0
  have d2 := c2 w hx0
  have d3 := c3 w hx0
  have df := fun j => cf w j hx0
  clear h hset hk c0 c1 c2 c3 cf
  unfold pt
  go_enter Try.func30, Try.ntmps30
  go_wp2_with fail
  generalize (w.setCell ⟨p, 1, none⟩ (.int .i64 b)).setCell ⟨p, 2, none⟩ (.int .i64 1) = w1 at *
  clear d1 d2 d3 df hx0 h1
  refine (tclone_any A cap s.under M w1 w1 HRS.out (Ext.refl _) (by omega)).mono ?_
  rintro e w2 ⟨v2, rfl, ho2, hx2⟩
  go_wp2_with fail
  refine (tdelf_any 53 #[] enters_lives (fun t => !t.done) M w1.heap.size v2 s.under w1 w2 ho2 hx2 (Nat.le_refl _) HM.out (lives_tells M w1) hn).mono ?_
  rintro e w3 ⟨v3, rfl, ho3, hx3⟩
  obtain ⟨A3, c3, rfl⟩ := ho3.form
  have hflt : (s.under.filter fun t => !(!t.done)) = s.under.filter (·.done) := by simp
  rw [hflt] at ho3 ⊢
  have HST := Lib.hid (co_store (hx3.obj HSET.out) hp HM.out (.of_ext hx3) (Nat.le_refl _) ho3)
  clear hflt
  obtain ⟨r0, r1, r2, r3, rf⟩ := row4_at (hx3.obj HSET.out)
  clear ho2 hx2 ho3 hx3 r0 r1 r2
  go_wp2
  go_ret
  rw [HV.out]
  exact ⟨rfl, HST.out.1, HK.out.trans HST.out.2⟩
end Go.Proofs.Ytijopcdjlpafdaa
namespace Go.Proofs.Ytijopcdjlpafdaa
open Go.RowKit
def putK (t : Tr) (k : Nat) : By := 2 :: be4 t.id.boot ++ be4 t.id.n ++ beN 1 t.shards.length ++ (t.shards.take k).map fun x => UInt8.ofNat x.toNat
theorem be1 (n : Nat) : beN 1 n = [UInt8.ofNat n] := by simp [beN]
theorem putK_step (t : Tr) (k : Nat) (hk : k < t.shards.length) : putK t (k + 1) = putK t k ++ beN 1 t.shards[k].toNat := by
 unfold putK
 rw [List.take_succ_eq_append_getElem hk, List.map_append, be1, be1]
 simp only [List.map_cons, List.map_nil, List.append_assoc]
theorem putK_all (t : Tr) : putK t t.shards.length = putD t := by
 unfold putK putD
 rw [List.take_length]
theorem putK_len (t : Tr) (k : Nat) : (putK t k).length ≤ 10 + t.shards.length := by
 unfold putK be4
 simp
 omega
set_option maxRecDepth 20000 in
set_option maxHeartbeats 2000000 in
theorem cput_any (t : Tr) (A : Option Addr) (cap : Nat) (w : World) (h : Sl w A (ib t.shards)) (hl : ∀ x ∈ t.shards, 0 ≤ x ∧ x ≤ 3) (hn : t.shards.length ≤ 1000) (hb : 0 ≤ t.id.boot) (hi : 0 ≤ t.id.n) :
 Calls Try.prog 40 #[.agg (trC t (.slice A t.shards.length cap)).toArray] w fun e w' => ∃ v, e = .returned v ∧ Own w' w.heap.size v (putD t) ∧ Ext w w' := by
 have HH := Lib.hid h
 have HL := Lib.hid hl
 have hN := fun w0 W (b : Value) (l : By) (v : Int) (n : Nat) (hv : 0 ≤ v) (hx : Ext w0 W) (ho : Own W w0.heap.size b l) (hl : l.length ≤ 2000) (hn : n ≤ 4) => num_i w0 W b l v n hv hx ho (by omega) hn
 obtain ⟨cs, hcs⟩ : ∃ cs, cs = trC t (.slice A t.shards.length cap) := ⟨_, rfl⟩
 have h1c : cs[1]? = some (.int .i64 t.id.boot) := by rw [hcs]; rfl
 have h2c : cs[2]? = some (.int .i64 t.id.n) := by rw [hcs]; rfl
 have h3c : cs[3]? = some (.slice A t.shards.length cap) := by rw [hcs]; rfl
 rw [← hcs]
 obtain ⟨wa, hwa⟩ : ∃ wa, wa = w.alloc (.cells cs.toArray 85) := ⟨_, rfl⟩
 have hxa : Ext w wa := by rw [hwa]; exact (Ext.refl w).alloc _
 have hrow : wa.heap[w.heap.size]? = some (.cells cs.toArray 85 (0, 0)) := by rw [hwa]; exact heap_alloc_new w _
 have cell : ∀ j v, cs[j]? = some v → ∀ W, Ext wa W → W.cell? ⟨w.heap.size, j, none⟩ = some v := fun j v hj W hx => by
  rw [cell_of_row _ _ _ _ _ _ (hx.obj hrow)]
  simpa using hj
 have C1 := cell 1 _ h1c
 have C2 := cell 2 _ h2c
 have C3 := cell 3 _ h3c
 have hx0 : Ext wa wa := Ext.refl _
 have hwaA := hwa.symm
 have HP : Hid (putK t 0 = [2] ++ beN 4 t.id.boot.toNat ++ beN 4 t.id.n.toNat ++ beN 1 t.shards.length) := Lib.hid (by unfold putK be4; simp)
 have HPA := Lib.hid (putK_all t)
 clear h hl hcs h1c h2c h3c hwa hrow cell
 go_enter Try.func40, Try.ntmps40
 go_wp2_with fail
 clear hwaA
 refine wp_region_phase (S := fun w' => Ext wa w') 13 (by kernel_rfl) (by kernel_rfl) ?_ (fun hHeld => ?_)
 ·exact hx0.drew
 simp only [List.drop_succ_cons, List.drop_zero]
 refine name_head ?_
 intro wr0 hw0
 rw [hw0] at hHeld
 refine wt 1 _ ?_
 simp only [red, Act.put]
 refine wt 2 _ ?_
 simp only [red, Act.put]
 refine wt 3 _ ?_
 simp only [red, Act.put]
 refine wt 5 _ ?_
 simp only [red, Act.put]
 refine wt 6 _ ?_
 simp only [red, Act.put]
 refine wt 7 _ ?_
 simp only [red, Act.put]
 refine wt 9 _ ?_
 simp only [red, Act.put]
 refine wt 10 _ ?_
 simp only [red, Act.put]
 refine wt 11 _ ?_
 simp only [red, Act.put]
 refine rd [0] ?_
 refine ac (fun K hK => ?_) ?_
 ·go_simp
  refine name_world ?_
  rintro wrz hw0
  have hxn0 : Ext wr0 wrz := hw0 ▸ (Ext.refl _).alloc _
  have hrow0 : wrz.heap[wr0.heap.size]? = some (.cells #[.int .u8 2] 5) := hw0 ▸ heap_alloc_new wr0 _
  have ho0 : Own wrz wa.heap.size (.slice (some ⟨wr0.heap.size, 0, none⟩) 1 1) [2] := hw0 ▸ Own.new wr0 wa.heap.size _ [2] 1 rfl rfl hHeld.size (by simp [maxLen])
  refine hK.out _ _ ?_ (fun hHeld => ?_)
  ·first | assumption | exact Ext.trans (by assumption) (by assumption) | exact Ext.trans hHeld (by assumption)
  clear hK K
  try simp only [red, Act.put]
  refine rd [4] ?_
  refine ac (fun K hK => ?_) ?_
  ·refine step_callG (by rfl) (by kernel_rfl) (hN wa _ _ _ t.id.boot 4 hb hHeld ho0 (by simp) (by omega)) ?_
   rintro e wr4 ⟨c4, rfl, ho4, hx4⟩
   refine ⟨_, rfl, ?_⟩
   refine hK.out _ _ ?_ (fun hHeld => ?_)
   ·first | assumption | exact Ext.trans (by assumption) (by assumption) | exact Ext.trans hHeld (by assumption)
   clear hK K
   try simp only [red, Act.put]
   refine rd [8] ?_
   refine ac (fun K hK => ?_) ?_
   ·refine step_callG (by rfl) (by kernel_rfl) (hN wa _ _ _ t.id.n 4 hi hHeld ho4 (by simp) (by omega)) ?_
    rintro e wr8 ⟨c8, rfl, ho8, hx8⟩
    refine ⟨_, rfl, ?_⟩
    refine hK.out _ _ ?_ (fun hHeld => ?_)
    ·first | assumption | exact Ext.trans (by assumption) (by assumption) | exact Ext.trans hHeld (by assumption)
    clear hK K
    try simp only [red, Act.put]
    refine rd [12] ?_
    refine ac (fun K hK => ?_) ?_
    ·refine step_callG (by rfl) (by kernel_rfl) (hN wa _ _ _ t.shards.length 1 (by omega) hHeld ho8 (by simp) (by omega)) ?_
     rintro e wr12 ⟨c12, rfl, ho12, hx12⟩
     refine ⟨_, rfl, ?_⟩
     refine hK.out _ _ ?_ (fun hHeld => ?_)
     ·first | assumption | exact Ext.trans (by assumption) (by assumption) | exact Ext.trans hHeld (by assumption)
     clear hK K
     try simp only [red, Act.put]
     refine wpHead_done (by kernel_rfl) ?_
     have ho12 : Own wr12 wa.heap.size c12 (putK t 0) := by rw [HP.out]; exact ho12
     have HX := Lib.hid hHeld
     clear ho0 ho4 ho8
     go_wp2
     go_loopw [3, 5, 22] (fun b _ i wr => ∃ k : Nat, i = .int .i64 k ∧ k ≤ t.shards.length ∧ Own wr wa.heap.size b (putK t k) ∧ Ext wa wr) (fun _ _ i _ => t.shards.length - (intOf i).toNat)
     case atStart => exact ⟨0, rfl, by omega, ho12, HX.out⟩
     case round =>
      obtain ⟨k, rfl, hk, hok, hxk⟩ := hrel
      clear ho12 hHeld HX
      by_cases hlt : k < t.shards.length
      ·have hlt2 : (k : Int) < (t.shards.length : Int) := by omega
       obtain ⟨ad, rfl, hc⟩ := HH.out.int hlt
       have hc0 := hc _ (hxa.trans hxk)
       have HS := Lib.hid (putK_step t k hlt)
       have hpl := putK_len t k
       have hx3 := HL.out _ (List.getElem_mem hlt)
       have HNK := hN wa wr _ (putK t k) t.shards[k] 1 hx3.1 hxk hok (by omega) (by omega)
       clear hc hpl hx3 hN
       go_wp2_with fail
       refine HNK.mono ?_
       rintro e w3 ⟨b3, rfl, ho3, hx3⟩
       have HO3 : Hid (Own w3 wa.heap.size b3 (putK t (k + 1))) := Lib.hid (by rw [HS.out]; exact ho3)
       clear ho3 HNK
       go_wp2
       go_roundw
       case rel => exact ⟨k + 1, by go_num, by omega, HO3.out, hx3⟩
       case measure => simp [intOf]; omega
      ·have hlt2 : ¬ (k : Int) < (t.shards.length : Int) := by omega
       obtain rfl : k = t.shards.length := by omega
       rw [HPA.out] at hok
       have HO := Lib.hid hok
       have HXK := Lib.hid hxk
       clear hok hxk hN
       go_wp2
       go_ret
       exact ⟨_, rfl, HO.out.low hxa.size, hxa.trans HXK.out⟩
    exact AllHead.nil
   exact AllHead.nil
  exact AllHead.nil
 exact AllHead.nil
end Go.Proofs.Ytijopcdjlpafdaa
