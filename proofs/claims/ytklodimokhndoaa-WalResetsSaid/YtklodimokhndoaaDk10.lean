/- The walk of the law's live. It answers true. -/
import Derived.Test.YtklodimokhndoaaChecked
import Derived.Lib.SlBytesConst
import Derived.Test.YtklodimokhndoaaDk9
namespace Go.Proofs.Ytklodimokhndoaa
open Go.RowKit
attribute [local go_sem] pt
theorem Disk.ext {B : List Nat} {w w' : World} {p : Nat} {s : Dk} (h : Disk B w p s) (hx : Ext w w') : Disk B w' p s := by
  obtain ⟨g, cap, v, h⟩ := h
  exact ⟨g, cap, v, h.ext hx⟩
theorem Disk.lt {B : List Nat} {w : World} {p : Nat} {s : Dk} (h : Disk B w p s) : ∀ k ∈ B, k < w.heap.size := by
  obtain ⟨g, cap, v, h⟩ := h
  exact h.lt
theorem Down_all {B : List Nat} {w : World} {p : Nat} {s : Dk} (h : Disk B w p s) : Calls Try.prog 26 #[pt p] w fun e w' => e = .returned (.bool s.down) ∧ Ext w w' := by
  obtain ⟨g, cap, v, h⟩ := h
  exact Down_any w h
theorem Age_all {B : List Nat} {w : World} {p : Nat} {s : Dk} (h : Disk B w p s) : Calls Try.prog 28 #[pt p] w fun e w' => e = .returned (.int .i64 s.age) ∧ Ext w w' := by
  obtain ⟨g, cap, v, h⟩ := h
  exact Age_any w h
theorem newD_few (n : Nat) : (newD n).Few 0 := ⟨by simp [newD], by simp [newD], by simp [newD]⟩
def lv1 : Dk := writeS (newD 2) 0 [97]
def lv2 : Dk := flushS lv1
def lv3 : Dk := writeS lv2 0 [98]
def lvC : Cr := ⟨[], -1, 0⟩
def lv4 : Dk := crashed lv3 lvC
theorem lv_facts : writeE (newD 2) 0 [97] = 0 ∧ lv1.waits.length = 1 ∧ flushE lv1 = 0 ∧ writeE lv2 0 [98] = 0 ∧ wrongE lv4 0 true = 0 ∧ readL lv4 0 = padL [97] ∧ lv4.age = 1 := by decide +kernel
theorem lv_ok : lv1.Ok ∧ lv2.Ok ∧ lv3.Ok ∧ lv4.Ok := by
  have h1 : lv1.Ok := writeS_ok (newD_ok (by omega) (by omega)) _ _
  have h2 : lv2.Ok := flushS_ok h1
  have h3 : lv3.Ok := writeS_ok h2 _ _
  exact ⟨h1, h2, h3, crashed_ok h3 _⟩
theorem lv_few : lv1.Few 1 ∧ lv2.Few 2 ∧ lv3.Few 3 ∧ lv4.Few 4 := by
  have h1 : lv1.Few 1 := writeS_few (newD_few 2) _ _
  have h2 : lv2.Few 2 := flushS_few h1
  have h3 : lv3.Few 3 := writeS_few h2 _ _
  exact ⟨h1, h2, h3, crashed_few h3 _⟩
end Go.Proofs.Ytklodimokhndoaa
