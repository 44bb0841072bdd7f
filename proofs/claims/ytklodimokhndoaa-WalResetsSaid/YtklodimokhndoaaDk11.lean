/- The walk of DiskTorn. It answers true. Conditions: the hypotheses of the theorem. -/
import Derived.Test.YtklodimokhndoaaChecked
import Derived.Test.YtklodimokhndoaaStr
import Derived.Test.YtklodimokhndoaaDk10
namespace Go.Proofs.Ytklodimokhndoaa
open Go.RowKit
attribute [local go_sem] pt
theorem padL_lens (l : List UInt8) (h : l.length ≤ 64) : (padL l).length = 64 := padL_len h
theorem torn_states (was is : List UInt8) (hw : was.length ≤ 64) (hi : is.length ≤ 64) (C : Cr) :
    writeE (newD 1) 0 was = 0 ∧ writeS (newD 1) 0 was = ⟨[zpage], [(0, padL was)], false, 0, 0⟩ ∧ flushS ⟨[zpage], [(0, padL was)], false, 0, 0⟩ = ⟨[padL was], [], false, 0, 0⟩ ∧
    writeS ⟨[padL was], [], false, 0, 0⟩ 0 is = ⟨[padL was], [(0, padL is)], false, 0, 0⟩ ∧ wrongE ⟨[padL was], [(0, padL is)], false, 0, 0⟩ 0 false = 0 ∧ wrongE ⟨[padL was], [(0, padL is)], false, 0, 0⟩ 0 true = 0 ∧
    sureL ⟨[padL was], [(0, padL is)], false, 0, 0⟩ 0 = padL was ∧ readL ⟨[padL was], [(0, padL is)], false, 0, 0⟩ 0 = padL is ∧
    crashed ⟨[padL was], [(0, padL is)], false, 0, 0⟩ C = ⟨[mix (padL is) (padL was) (cutAt C 0)], [], false, 0, 1⟩ ∧
    wrongE ⟨[mix (padL is) (padL was) (cutAt C 0)], [], false, 0, 1⟩ 0 true = 0 ∧ readL ⟨[mix (padL is) (padL was) (cutAt C 0)], [], false, 0, 1⟩ 0 = mix (padL is) (padL was) (cutAt C 0) := by
  have e1 : ¬ 64 < was.length := by omega
  have e2 : ¬ 64 < is.length := by omega
  refine ⟨?_, ?_, rfl, ?_, rfl, rfl, rfl, rfl, rfl, rfl, rfl⟩
  · have h0 : wrongE (newD 1) 0 true = 0 := by decide +kernel
    unfold writeE
    rw [h0, if_neg (by simp), if_neg e1]
    rfl
  · have h0 : wrongE (newD 1) 0 true = 0 := by decide +kernel
    unfold writeS
    rw [h0, if_neg (by simp), if_neg e1]
    rfl
  · have h0 : wrongE ⟨[padL was], [], false, 0, 0⟩ 0 true = 0 := rfl
    unfold writeS
    rw [h0, if_neg (by simp), if_neg e2]
    rfl
theorem old_sl {w0 w : World} {B : List Nat} {A : Option Addr} {xs : List Value} (h : Sl w0 A xs) (hx : Ext w0 w) (hB : ∀ k ∈ B, w0.heap.size ≤ k) : SlM B w A xs :=
  ((SlM.of_sl h).old (fun k hk => .inr (hB k hk))).kept (.of_ext hx)
end Go.Proofs.Ytklodimokhndoaa
