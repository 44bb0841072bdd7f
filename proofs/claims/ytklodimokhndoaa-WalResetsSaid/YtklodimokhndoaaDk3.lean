/- The walks of disk.Sure and Read. Conditions: those of IsDk. -/
import Derived.Test.YtklodimokhndoaaChecked
import Derived.Test.YtklodimokhndoaaDk2
import Derived.Test.YtklodimokhndoaaStop
namespace Go.Proofs.Ytklodimokhndoaa
open Go.RowKit
/-! ## whole pages out of and into memory, as the walk's list meets them -/
section
variable {P : Program} {ops : Array Oper} {Q : Exit → Act → World → Prop} {rest : List Oper} {a : Act} {w : World} {d : Option Nat} {x y : Operand} {ty : Nat} {ps : String} {es : Array Edge} {gd : Option (Nat × Bool)}
theorem stop_load59 (h : Stop (wpList P ops Q (Oper.mk d (.load 104 x) ty ps es gd :: rest) a w)) : wpList P ops Q (Oper.mk d (.load 104 x) ty ps es gd :: rest) a w := h
theorem stop_load61 (h : Stop (wpList P ops Q (Oper.mk d (.load 106 x) ty ps es gd :: rest) a w)) : wpList P ops Q (Oper.mk d (.load 106 x) ty ps es gd :: rest) a w := h
theorem stop_alloc59 (h : Stop (wpList P ops Q (Oper.mk d (.alloc 104) ty ps es gd :: rest) a w)) : wpList P ops Q (Oper.mk d (.alloc 104) ty ps es gd :: rest) a w := h
theorem stop_alloc61 (h : Stop (wpList P ops Q (Oper.mk d (.alloc 106) ty ps es gd :: rest) a w)) : wpList P ops Q (Oper.mk d (.alloc 106) ty ps es gd :: rest) a w := h
theorem stop_store59 (h : Stop (wpList P ops Q (Oper.mk d (.store 104 x y) ty ps es gd :: rest) a w)) : wpList P ops Q (Oper.mk d (.store 104 x y) ty ps es gd :: rest) a w := h
theorem stop_store61 (h : Stop (wpList P ops Q (Oper.mk d (.store 106 x y) ty ps es gd :: rest) a w)) : wpList P ops Q (Oper.mk d (.store 106 x y) ty ps es gd :: rest) a w := h
theorem stop_build61 {q : Array (Nat × Operand)} (h : Stop (wpList P ops Q (Oper.mk d (.build 106 q) ty ps es gd :: rest) a w)) : wpList P ops Q (Oper.mk d (.build 106 q) ty ps es gd :: rest) a w := h
end
theorem page_info : (Try.prog.info? 104).map (fun i => (i.zero, i.size)) = some (some (.agg (bv zpage).toArray), 64) := by kernel_rfl
theorem write_info : (Try.prog.info? 106).map (fun i => (i.zero, i.size)) = some (some (.agg (wc (0, zpage)).toArray), 65) := by kernel_rfl
theorem page_size {l : List UInt8} (h : l.length = 64) : (Try.prog.info? 104).map (·.size) = some (bv l).toArray.size := by
  rw [show (bv l).toArray.size = 64 by simp [h]]
  exact (zero_of_info page_info).2
theorem write_size {i : Nat} {l : List UInt8} (h : l.length = 64) : (Try.prog.info? 106).map (·.size) = some (wc (i, l)).toArray.size := by
  rw [show (wc (i, l)).toArray.size = 65 by simp [wc, h]]
  exact (zero_of_info write_info).2
theorem bv_all (l : List UInt8) : (bv l).toArray.all (·.oneCell') = true := all_oneCell_toArray (bv_one l)
theorem wc_one (x : Nat × List UInt8) : ∀ u ∈ wc x, u.oneCell' = true := by
  intro u hu
  rcases List.mem_cons.1 hu with rfl | hu
  · rfl
  · exact bv_one _ u hu
theorem wc_all (x : Nat × List UInt8) : (wc x).toArray.all (·.oneCell') = true := all_oneCell_toArray (wc_one x)
theorem zpage_len : zpage.length = 64 := rfl
section
variable {B : List Nat} {p g cap : Nat} {s : Dk} {v : Value}
end
end Go.Proofs.Ytklodimokhndoaa
