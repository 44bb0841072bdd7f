/- The walks of bytes.Equal and of the log's other (which makes its iterator). Conditions: the hypotheses of each theorem. -/
import Derived.Test.YtklodimokhndoaaWa4
import Derived.Test.YtklodimokhndoaaRng
import Derived.Test.YtklodimokhndoaaZero
import Derived.Test.YtklodimokhndoaaWaA
import Derived.Test.YtklodimokhndoaaStep
namespace Go.Proofs.Ytklodimokhndoaa
open Go.RowKit
theorem Equal_any (A B : Option Addr) (a b : By) (c d : Nat) (w : World) (hA : Bs w A a) (hB : Bs w B b) : Calls Try.prog 54 #[.slice A a.length c, .slice B b.length d] w fun e w' => e = .returned (.bool (decide (a = b))) ∧ w' = w := by
  have h1 := run_str (P := Try.prog) Try.underlying46 Try.underlying5 Try.underlying9 hA a.length c rfl
  have h2 := run_str (P := Try.prog) Try.underlying46 Try.underlying5 Try.underlying9 hB b.length d rfl
  go_enter Try.func54, Try.ntmps54
  go_wp2
  go_ret
  refine ⟨ret_bool ?_, rfl⟩
  by_cases h : a = b
  · simp [h]
  · simp [h]
/-- cells of these types are kept -/
def Kt (w w' : World) : Prop := ∀ (k : Nat) (cs : Array Value) (t : TypeId) (fr : Nat × Nat), w.heap[k]? = some (Obj.cells cs t fr) → (t = 5 ∨ t = 29 ∨ t = 3 ∨ t = 46 ∨ t = 77) → w'.heap[k]? = some (Obj.cells cs t fr)
theorem Kt.refl (w : World) : Kt w w := fun _ _ _ _ h _ => h
theorem Kt.trans {a b c : World} (h : Kt a b) (k : Kt b c) : Kt a c := fun i cs t fr h1 h2 => k i cs t fr (h i cs t fr h1 h2) h2
theorem Kt.of_ext {w w' : World} (h : Ext w w') : Kt w w' := fun _ _ _ _ h1 _ => h.obj h1
theorem Kt.putObj (W : World) (l : Nat) (o o' : Obj) (hl : W.heap[l]? = some o) (ho : o.isCells = false) : Kt W (W.putObj l o') := fun k cs t fr h _ => by
  by_cases e : k = l
  · subst e
    rw [hl] at h
    injection h with h
    subst h
    cases ho
  · exact (World.putObj_heap_other e).trans h
theorem Kt.kept {M : List Nat} {w w' : World} (h : Kept M w w') (hM : ∀ k ∈ M, ∀ (cs : Array Value) (t : TypeId) (fr : Nat × Nat), w.heap[k]? = some (Obj.cells cs t fr) → ¬ (t = 5 ∨ t = 29 ∨ t = 3 ∨ t = 46 ∨ t = 77)) : Kt w w' := fun k cs t fr h1 h2 =>
  h.heap h1 fun hm => hM k hm cs t fr h1 h2
theorem wother_any (q : Nat) (k : Nat) (A : Option Addr) (n c : Nat) (w : World) :
    Calls Try.prog 56 #[pt q, .int .i64 k, .slice A n c] w fun e w' => e = .returned (.func (.func 72) #[] #[pt w.heap.size, pt (w.heap.size + 1), pt (w.heap.size + 1 + 1)]) ∧ Ext w w' ∧
      w'.heap[w.heap.size]? = some (.cells #[pt q] 29 (0, 0)) ∧ w'.heap[w.heap.size + 1]? = some (.cells #[.int .i64 k] 3 (0, 0)) ∧ w'.heap[w.heap.size + 1 + 1]? = some (.cells #[.slice A n c] 46 (0, 0)) := by
  have h1 := heap_alloc_new w (.cells #[pt q] 29)
  have h2 := heap_alloc_new (w.alloc (.cells #[pt q] 29)) (.cells #[.int .i64 k] 3)
  have h3 := heap_alloc_new ((w.alloc (.cells #[pt q] 29)).alloc (.cells #[.int .i64 k] 3)) (.cells #[.slice A n c] 46)
  have hx := (((Ext.refl w).alloc (.cells #[pt q] 29)).alloc (.cells #[.int .i64 k] 3)).alloc (.cells #[.slice A n c] 46)
  have hx2 := ((Ext.refl (w.alloc (.cells #[pt q] 29))).alloc (.cells #[.int .i64 k] 3)).alloc (.cells #[.slice A n c] 46)
  have hx3 := (Ext.refl ((w.alloc (.cells #[pt q] 29)).alloc (.cells #[.int .i64 k] 3))).alloc (.cells #[.slice A n c] 46)
  have k1 := Lib.hid (hx2.obj h1)
  have k2 := Lib.hid (hx3.obj h2)
  have k3 := Lib.hid h3
  have KX := Lib.hid hx
  simp only [World.size_alloc] at k2 k3
  unfold pt at *
  clear h1 h2 h3 hx hx2 hx3
  go_enter Try.func56, Try.ntmps56
  go_wp2
  go_ret
  exact ⟨rfl, KX.out, k1.out, k2.out, k3.out⟩
/-- zeros laid behind, as one step of a region that draws its order -/
theorem step_zeros {w : World} {ops : Array Oper} {o : Oper} {a : Act} {K : Act → World → Prop} {Q : Exit → Act → World → Prop} {E : Prop} {s x : Operand} {base k : Nat} {v : Value} {l : List UInt8} (hown : Own w base v l)
    (hgd : o.guard = none) (ho : o.op = .call { callee := .builtin .append, args := #[s, x], argTypes := #[46, 3] }) (hs : a.eval s = v) (hx : a.eval x = .int .i64 k) (hb : l.length + k ≤ 140737488355328) (hbase : base ≤ w.heap.size)
    (h : ∀ v' w', Own w' base v' (l ++ List.replicate k 0) → w.grownBy w' v.ownBlock → (v'.ownBlock = v.ownBlock ∨ v'.ownBlock = some w.heap.size) → K (a.put o.dst v') w') :
    if Region.wanted o (yielded ops a.tmps) = true then Oper.wp Try.prog o a w K Q else E := by
  have hw : Region.wanted o (yielded ops a.tmps) = true := by simp [Region.wanted, hgd]
  rw [if_pos hw]
  obtain ⟨v', w', hrun, h2, h3, h4⟩ := run_zeros w base o.type v l k hown hb hbase
  unfold Oper.wp execOp
  simp only [ho, resolve, invoke, builtin, Sem.run_bind, Sem.run_pure, Result.andThen_ok, List.map_toArray, List.map_cons, List.map_nil, hs, hx, hrun]
  exact h v' w' h2 h3 h4
end Go.Proofs.Ytklodimokhndoaa
