/- Steps on rows of bytes in a region that draws. Each holds for every program and world; the conditions are the hypotheses of each theorem. -/
import Derived.Test.YtklodimokhndoaaPhase
namespace Go.Proofs.Ytklodimokhndoaa
open Go.RowKit
theorem step_apB {P : Program} {ops : Array Oper} {o : Oper} {a : Act} {w : World} {K : Act → World → Prop} {Q : Exit → Act → World → Prop} {E : Prop} {t : Nat} (T : ElemOf P t 5 1 1) {s x : Operand}
    {base m c : Nat} {v : Value} {l l' : List UInt8} {A : Option Addr} (hown : Own w base v l) (hr : Bs w A l')
    (hgd : o.guard = none) (ho : o.op = .call { callee := .builtin .append, args := #[s, x], argTypes := #[t, t] })
    (hs : a.eval s = v) (hx : a.eval x = .slice A m c)
    (hm : m = l'.length) (hb : l.length + l'.length ≤ 140737488355328) (hbase : base ≤ w.heap.size)
    (h : ∀ v' w', Own w' base v' (l ++ l') → w.grownBy w' v.ownBlock → (v'.ownBlock = v.ownBlock ∨ v'.ownBlock = some w.heap.size) → K (a.put o.dst v') w') :
    if Region.wanted o (yielded ops a.tmps) = true then Oper.wp P o a w K Q else E := by
  subst hm
  exact step_ap T hown hr hgd ho hs hx (by simp) (bv_one _) (by omega) hb hbase fun v' w' h1 h2 h3 => h v' w' (own_of h1 (bv_append _ _).symm) h2 h3
/-- a slice that lies in no block of a row that may grow -/
structure Sd (w : World) (v : Value) (g : Nat) (l : List UInt8) : Prop where
  bs : Bs w (some ⟨g, 0, none⟩) l
  ne : v.ownBlock ≠ some g
  lt : g < w.heap.size
theorem Sd.ext {w w' : World} {v : Value} {g : Nat} {l : List UInt8} (h : Sd w v g l) (hx : Ext w w') : Sd w' v g l := ⟨h.bs.ext hx, h.ne, Nat.lt_of_lt_of_le h.lt hx.size⟩
theorem Sd.new {w w' : World} {v : Value} {base : Nat} {l : List UInt8} {ll : List UInt8} (ho : Own w base v ll) {cs : Array Value} (hr : w'.heap[w.heap.size]? = some (.cells cs 5 (0, 0))) (hc : cs = (bv l).toArray) : Sd w' v w.heap.size l := by
  subst hc
  exact ⟨Sl.of_row hr, fun e => by have := (ho.lt _ e).2; omega, (Array.getElem?_eq_some_iff.1 hr).1⟩
theorem Sd.app {w w' : World} {v v' : Value} {g : Nat} {l : List UInt8} (h : Sd w v g l) (hg : w.grownBy w' v.ownBlock) (hor : v'.ownBlock = v.ownBlock ∨ v'.ownBlock = some w.heap.size) : Sd w' v' g l := by
  refine ⟨Sl.grown h.bs hg (by intro ad e; cases e; exact h.ne), ?_, Nat.lt_of_lt_of_le h.lt hg.size⟩
  rcases hor with e | e
  · rw [e]; exact h.ne
  · rw [e]; intro e2; injection e2 with e2; have := h.lt; omega
end Go.Proofs.Ytklodimokhndoaa
