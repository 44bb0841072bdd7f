/- A region that draws its order, whose last operations wait for all others: the others come in whatever order, under a condition S on the world that holds behind each of them; the last come one behind the other, and S is not asked of them. Each holds for every program; the conditions are the hypotheses of each theorem. -/
import Derived.OrdersHeld
import Derived.StillTail
import Derived.Deep.RegionHeld3
import Derived.Test.YtchokelpimibdaaLib
namespace Go.Proofs.Ytchokelpimibdaa
open Go.RowKit
section
variable {P : Program} {ops : Array Oper} {Q : Exit → Act → World → Prop} {md : Region.Mode} {S : World → Prop} {n : Nat} {T : Array Bool → Act → World → Prop}
/-- whatever order is picked of the first n; then T -/
def wpHead (P : Program) (md : Region.Mode) (ops : Array Oper) (Q : Exit → Act → World → Prop) (S : World → Prop) (n : Nat) (T : Array Bool → Act → World → Prop) : Nat → Array Bool → Act → World → Prop
  | 0, listed, a, w => T listed a w
  | f + 1, listed, a, w => Region.ready md ops listed ≠ [] ∧ ∀ i ∈ Region.ready md ops listed, i < n ∧ wpOp P ops Q i (fun a' w' => S w' ∧ wpHead P md ops Q S n T f (listed.setIfInBounds i true) a' w') a w
theorem wpAny_of_wpHead {g : Nat} (hT : ∀ listed a w, T listed a w → wpAny P md ops Q g listed a w) : ∀ (f : Nat) (listed : Array Bool) (a : Act) (w : World), wpHead P md ops Q S n T f listed a w → wpAny P md ops Q (f + g) listed a w
  | 0, listed, a, w, h => by rw [Nat.zero_add]; exact hT _ _ _ h
  | f + 1, listed, a, w, h => by
    rw [show f + 1 + g = (f + g) + 1 by omega]
    exact ⟨fun h0 => absurd h0 h.1, fun i hi => wpOp_mono (fun a' w' h' => wpAny_of_wpHead hT f _ a' w' h'.2) (h.2 i hi).2⟩
theorem wpHead_first {i : Nat} {oi : Oper} {v : Value} (hi : ops[i]? = some oi) (hsel : ∀ (j : Nat) (o : Oper) cs b, ops[j]? = some o → o.op ≠ .select cs b)
    (hQ : ∀ c a w, Q (.panic c) (a.put oi.dst v) w → Q (.panic c) a w)
    (hs : Region.sinkB md ops n = true) (hc : Region.chainB md ops n = true) (hn : n < ops.size) (hin : i < n) (hdone : ∀ listed a w, T listed a w → ∀ j ∈ Region.ready md ops listed, n ≤ j) :
    ∀ (f : Nat) (listed : Array Bool) (a : Act) (w : World), HeadInv md ops n listed →
      (∀ j oj, ops[j]? = some oj → j ≠ i → listed.getD j true = false → (∀ e ∈ oj.after, Region.binds md e = true → e.on ≠ i) → oi.apart ops oj = true) →
      i ∈ Region.ready md ops listed → YieldsIf P ops S oi v a → S w →
      wpHead P md ops Q S n T f (listed.setIfInBounds i true) (a.put oi.dst v) w → wpHead P md ops Q S n T (f + 1) listed a w := by
  intro f
  induction f with
  | zero =>
    intro listed a w inv _ hr hy hS H
    have hun := (mem_ready.1 hr).1
    refine ⟨fun h => (by rw [h] at hr; cases hr), fun j hj => ?_⟩
    have hjn : j < n := by
      rcases Nat.lt_or_ge j n with h | h
      · exact h
      · exact absurd hj (tail_waits hs hc hn inv _ i rfl hin hun j h)
    refine ⟨hjn, ?_⟩
    by_cases hji : j = i
    · subst hji; exact hy.wpOp hi hS ⟨hS, H⟩
    · have := hdone _ _ _ H j (ready_mono hj hji)
      omega
  | succ f ih =>
    intro listed a w inv hfree hr hy hS H
    have hun := (mem_ready.1 hr).1
    refine ⟨fun h => (by rw [h] at hr; cases hr), fun j hj => ?_⟩
    have hjn : j < n := by
      rcases Nat.lt_or_ge j n with h | h
      · exact h
      · exact absurd hj (tail_waits hs hc hn inv _ i rfl hin hun j h)
    refine ⟨hjn, ?_⟩
    by_cases hji : j = i
    · subst hji; exact hy.wpOp hi hS ⟨hS, H⟩
    · have h1 := (H.2 j (ready_mono hj hji)).2
      obtain ⟨hjun, oj, hoj, hall⟩ := mem_ready.1 hj
      have hnot : ∀ e ∈ oj.after, Region.binds md e = true → e.on ≠ i := fun e he hb heq => by
        have h1 := hall e he hb
        rw [heq, getD_both hun] at h1
        cases h1
      have h2 := wpOp_putIf hoj (hfree j oj hoj hji hjun hnot) (fun cs b => hsel i oi cs b hi) (fun cs b => hsel j oj cs b hoj) hQ hy h1
      have hfree' : ∀ k ok, ops[k]? = some ok → k ≠ i → (listed.setIfInBounds j true).getD k true = false →
          (∀ e ∈ ok.after, Region.binds md e = true → e.on ≠ i) → oi.apart ops ok = true := fun k ok hk hki hkun hno => by
        refine hfree k ok hk hki ?_ hno
        by_cases hjk : j = k
        · subst hjk; exact hjun
        · rw [getD_set_ne true hjk] at hkun; exact hkun
      refine wpOp_mono (fun a' w' h3 => ⟨h3.2.1, ih (listed.setIfInBounds j true) a' w' (inv.set hj hjn) hfree' (ready_mono hr (Ne.symm hji)) h3.1 h3.2.1 ?_⟩) h2
      rw [Array.setIfInBounds_comm _ _ hji]
      exact h3.2.2
/-! ### the moves -/
/-- the tail: its own list, once all others have come -/
def Tail (P : Program) (md : Region.Mode) (ops : Array Oper) (Q : Exit → Act → World → Prop) (n : Nat) (tail : List Oper) (listed : Array Bool) (a : Act) (w : World) : Prop :=
  Region.seqB md ops tail.length n listed = true ∧ wpList P ops Q tail a w
/-- what a kernel reckons of a region: its first n come ahead of the rest, and the rest one behind the other -/
def phaseB (md : Region.Mode) (ops : Array Oper) (n : Nat) : Bool := Region.noSelect ops && decide (n < ops.size) && Region.sinkB md ops n && Region.chainB md ops n
def headB (md : Region.Mode) (ops : Array Oper) (n : Nat) (listed : Array Bool) : Bool :=
  listed.size == ops.size && ((List.range ops.size).all fun j => match ops[j]? with
    | some oj => !listed.getD j false || oj.after.all fun e => !Region.binds md e || listed.getD e.on false
    | none => true) && ((List.range ops.size).all fun t => decide (t < n) || !listed.getD t true)
theorem headB_spec {listed : Array Bool} (h : headB md ops n listed = true) : HeadInv md ops n listed := by
  unfold headB at h
  simp only [Bool.and_eq_true, beq_iff_eq, List.all_eq_true, List.mem_range, Bool.or_eq_true, decide_eq_true_eq] at h
  obtain ⟨⟨h1, h2⟩, h3⟩ := h
  refine ⟨h1, fun j oj hj hl e he hb => ?_, fun t ht ht' => ?_⟩
  · have hjs : j < ops.size := (Array.getElem?_eq_some_iff.1 hj).1
    have := h2 j hjs
    rw [hj] at this
    simp only [hl, Bool.not_true, Bool.false_eq_true, false_or, Bool.or_eq_true, Array.all_eq_true'] at this
    have h5 := this e he
    simpa [hb] using h5
  · have := h3 t ht'
    rcases this with h | h
    · omega
    · simpa using h
theorem wp_region_phase {id : Nat} {a : Act} {w : World} {l : List Oper} (n : Nat) (hm : P.follows .mixedOrders = true) (hB : phaseB .any l.toArray n = true) (hS : S w.drew)
    (h : S w.drew → wpHead P .any l.toArray Q S n (Tail P .any l.toArray Q n (l.drop n)) n (Array.replicate l.length false) a w.drew) : (Code.region id l.toArray true).wp P Q a w := by
  refine wp_region_any hm ?_
  have hn : n < l.toArray.size := by
    unfold phaseB at hB
    simp only [Bool.and_eq_true, decide_eq_true_eq] at hB
    exact hB.1.1.2
  have hsz : l.toArray.size = n + (l.drop n).length := by simp at hn ⊢; omega
  rw [hsz]
  have := wpAny_of_wpHead (P := P) (md := .any) (ops := l.toArray) (Q := Q) (S := S) (n := n) (g := (l.drop n).length) (T := Tail P .any l.toArray Q n (l.drop n)) (fun listed a w ht => wpAny_of_seq (l.drop n) n listed a w (fun j => by simp) ht.1 ht.2) n _ _ _ (h hS)
  rw [show l.length = n + (l.drop n).length from List.size_toArray.symm.trans hsz] at this
  exact this
theorem wpHead_take {i : Nat} {oi : Oper} {v : Value} {fuel : Nat} {listed : Array Bool} {a : Act} {w : World} {tail : List Oper} (hi : ops[i]? = some oi) (hB : phaseB md ops n = true)
    (hb : (decide (i < n) && headB md ops n listed && Region.free md ops listed i && (Region.ready md ops listed).contains i) = true)
    (hQ : ∀ c a w, Q (.panic c) (a.put oi.dst v) w → Q (.panic c) a w) (hy : YieldsIf P ops S oi v a) (hS : S w)
    (h : wpHead P md ops Q S n (Tail P md ops Q n tail) fuel (listed.setIfInBounds i true) (a.put oi.dst v) w) : wpHead P md ops Q S n (Tail P md ops Q n tail) (fuel + 1) listed a w := by
  unfold phaseB at hB
  simp only [Bool.and_eq_true, decide_eq_true_eq] at hB hb
  obtain ⟨⟨⟨hb1, hb2⟩, hb3⟩, hb4⟩ := hb
  exact wpHead_first hi (Region.noSelect_spec hB.1.1.1) hQ hB.1.2 hB.2 hB.1.1.2 hb1 (fun listed a w ht => seqB_ready ht.1) fuel listed a w (headB_spec hb2) (Region.free_spec hi hb3) (by simpa using hb4) hy hS h
theorem name_head {f : Nat} {listed : Array Bool} {a : Act} {w : World} (h : ∀ w', w = w' → wpHead P md ops Q S n T f listed a w') : wpHead P md ops Q S n T f listed a w := h w rfl
theorem name_world {K : Act → World → Prop} {a : Act} {w : World} (h : ∀ w', w = w' → K a w') : K a w := h w rfl
theorem Sl.of_row {w : World} {g t : Nat} {l : List Value} {fr : Nat × Nat} (h : w.heap[g]? = some (.cells l.toArray t fr)) : Sl w (some ⟨g, 0, none⟩) l := by
  intro k v hk
  refine ⟨_, rfl, ?_⟩
  have : (⟨g, 0, none⟩ : Addr).add k = ⟨g, k, none⟩ := by unfold Addr.add; split <;> simp_all
  rw [this, cell_of_row _ _ k l.toArray t fr h]
  simpa using hk
def AllHead (P : Program) (md : Region.Mode) (ops : Array Oper) (Q : Exit → Act → World → Prop) (S : World → Prop) (n : Nat) (T : Array Bool → Act → World → Prop) (fuel : Nat) (listed : Array Bool) (a : Act) (w : World) (rs : List Nat) : Prop :=
  ∀ i ∈ rs, wpOp P ops Q i (fun a' w' => S w' ∧ wpHead P md ops Q S n T fuel (listed.setIfInBounds i true) a' w') a w
theorem AllHead.nil {fuel : Nat} {listed : Array Bool} {a : Act} {w : World} : AllHead P md ops Q S n T fuel listed a w [] := fun _ h => by cases h
theorem AllHead.cons {fuel : Nat} {listed : Array Bool} {a : Act} {w : World} {i : Nat} {o : Oper} {rs : List Nat} (ho : ops[i]? = some o)
    (h : ∀ K' : Act → World → Prop, Shut (∀ a w, S w → (S w → wpHead P md ops Q S n T fuel (listed.setIfInBounds i true) a w) → K' a w) → if Region.wanted o (yielded ops a.tmps) = true then Oper.wp P o a w K' Q else K' (a.put o.dst undef) w)
    (hs : AllHead P md ops Q S n T fuel listed a w rs) : AllHead P md ops Q S n T fuel listed a w (i :: rs) := fun j hj => by
  rcases List.mem_cons.1 hj with rfl | hj
  · exact wpOp_step ho (fun K' hK => h K' (fun a w hS hW => hK a w ⟨hS, hW hS⟩))
  · exact hs j hj
theorem wpHead_ready {rs : List Nat} {fuel : Nat} {listed : Array Bool} {a : Act} {w : World} (hr : Region.ready md ops listed = rs) (hne : rs ≠ []) (hlt : (rs.all fun i => decide (i < n)) = true)
    (h : AllHead P md ops Q S n T fuel listed a w rs) : wpHead P md ops Q S n T (fuel + 1) listed a w := by
  subst hr
  exact ⟨hne, fun i hi => ⟨by simpa using List.all_eq_true.1 hlt i hi, h i hi⟩⟩
theorem wpHead_done {listed : Array Bool} {a : Act} {w : World} {tail : List Oper} (hs : Region.seqB md ops tail.length n listed = true) (h : wpList P ops Q tail a w) : wpHead P md ops Q S n (Tail P md ops Q n tail) 0 listed a w := ⟨hs, h⟩
end
/-- append onto a row of the call's own, as one step of a region that draws -/
theorem step_ap {P : Program} {ops : Array Oper} {o : Oper} {a : Act} {w : World} {K : Act → World → Prop} {Q : Exit → Act → World → Prop} {E : Prop} {t e size bytes : Nat} (T : ElemOf P t e size bytes) {s x : Operand}
    {base n m c : Nat} {v : Value} {xs news : List Value} {A : Option Addr} (hown : w.ownsRow base e size v n xs) (hr : Sl w A news)
    (hgd : o.guard = none) (ho : o.op = .call { callee := .builtin .append, args := #[s, x], argTypes := #[t, t] })
    (hs : a.eval s = v) (hx : a.eval x = .slice A m c)
    (hl : news.length = m * size) (h1 : ∀ u ∈ news, u.oneCell' = true)
    (hb : (n + m) * bytes ≤ 140737488355328) (h63 : n + m ≤ 140737488355328) (hbase : base ≤ w.heap.size)
    (h : ∀ v' w', w'.ownsRow base e size v' (n + m) (xs ++ news) → w.grownBy w' v.ownBlock → (v'.ownBlock = v.ownBlock ∨ v'.ownBlock = some w.heap.size) → K (a.put o.dst v') w') :
    if Region.wanted o (yielded ops a.tmps) = true then Oper.wp P o a w K Q else E := by
  have hw : Region.wanted o (yielded ops a.tmps) = true := by simp [Region.wanted, hgd]
  rw [if_pos hw]
  obtain ⟨i, z, hi, hz, hsize, hby, hzs⟩ := T.hi
  obtain ⟨v', w', hrun, h2, h3, h4⟩ := run_app (P := P) w base t o.type e i z size bytes T.ht hi hz hsize hby hzs T.hs v n xs hown A m c news hl hr h1 hb h63 hbase
  unfold Oper.wp execOp
  simp only [ho, resolve, invoke, builtin, Sem.run_bind, Sem.run_pure, Result.andThen_ok, List.map_toArray, List.map_cons, List.map_nil, hs, hx, hrun]
  exact h v' w' h2 h3 h4
theorem Sl.new_row {w w' : World} {g t : Nat} {l : List Value} {fr : Nat × Nat} (h : w.heap[g]? = some (.cells l.toArray t fr)) {row : Option Nat} (hg : w.grownBy w' row) (hne : row ≠ some g) : Sl w' (some ⟨g, 0, none⟩) l :=
  (Sl.of_row h).grown hg (by intro ad e; cases e; exact hne)
end Go.Proofs.Ytchokelpimibdaa
