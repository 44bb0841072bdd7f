/- The walks of disk.Sure and Read. Conditions: those of IsDk. -/
import Derived.Test.YtcnikfmcefnmoaaChecked
import Derived.Test.YtcnikfmcefnmoaaDk2
namespace Go.Proofs.Ytcnikfmcefnmoaa
open Go.RowKit
/-! ## whole pages out of and into memory, as the walk's list meets them -/
section
variable {P : Program} {ops : Array Oper} {Q : Exit → Act → World → Prop} {rest : List Oper} {a : Act} {w : World} {d : Option Nat} {x y : Operand} {ty : Nat} {ps : String} {es : Array Edge} {gd : Option (Nat × Bool)}
theorem stop_load59 (h : Stop (wpList P ops Q (Oper.mk d (.load 59 x) ty ps es gd :: rest) a w)) : wpList P ops Q (Oper.mk d (.load 59 x) ty ps es gd :: rest) a w := h
theorem stop_load61 (h : Stop (wpList P ops Q (Oper.mk d (.load 61 x) ty ps es gd :: rest) a w)) : wpList P ops Q (Oper.mk d (.load 61 x) ty ps es gd :: rest) a w := h
theorem stop_alloc59 (h : Stop (wpList P ops Q (Oper.mk d (.alloc 59) ty ps es gd :: rest) a w)) : wpList P ops Q (Oper.mk d (.alloc 59) ty ps es gd :: rest) a w := h
theorem stop_alloc61 (h : Stop (wpList P ops Q (Oper.mk d (.alloc 61) ty ps es gd :: rest) a w)) : wpList P ops Q (Oper.mk d (.alloc 61) ty ps es gd :: rest) a w := h
theorem stop_store59 (h : Stop (wpList P ops Q (Oper.mk d (.store 59 x y) ty ps es gd :: rest) a w)) : wpList P ops Q (Oper.mk d (.store 59 x y) ty ps es gd :: rest) a w := h
theorem stop_store61 (h : Stop (wpList P ops Q (Oper.mk d (.store 61 x y) ty ps es gd :: rest) a w)) : wpList P ops Q (Oper.mk d (.store 61 x y) ty ps es gd :: rest) a w := h
theorem stop_build61 {q : Array (Nat × Operand)} (h : Stop (wpList P ops Q (Oper.mk d (.build 61 q) ty ps es gd :: rest) a w)) : wpList P ops Q (Oper.mk d (.build 61 q) ty ps es gd :: rest) a w := h
theorem wpList_alloc_ {o : Oper} {z : Array Value} {n : Nat} (hgd : o.guard = none) (ho : o.op = .alloc ty) (hi : (P.info? ty).map (fun i => (i.zero, i.size)) = some (some (.agg z), n))
    (h : wpList P ops Q rest (a.put o.dst (.pointer (some ⟨w.heap.size, 0, none⟩))) (w.alloc (.cells z ty))) : wpList P ops Q (o :: rest) a w := by
  refine wpList_plain hgd fun K hK => ?_
  have hz := (zero_of_info hi).1
  unfold Oper.wp execOp
  simp only [ho, Instr.alloc, Sem.run_bind, hz, Result.andThen_ok]
  simp [newVar, newRow, Value.cells]
  exact hK _ _ h
theorem wpList_store_new {o : Oper} {c c' : Array Value} (hgd : o.guard = none) (ho : o.op = .store ty x y) (hx : a.eval x = .pointer (some ⟨w.heap.size, 0, none⟩)) (hy : a.eval y = .agg c')
    (hi : (P.info? ty).map (·.size) = some c'.size) (hs : c.size = c'.size) (h1 : c'.all (·.oneCell') = true)
    (h : wpList P ops Q rest (a.put o.dst undef) (w.alloc (.cells c' ty))) : wpList P ops Q (o :: rest) a (w.alloc (.cells c ty)) := by
  refine wpList_plain hgd fun K hK => ?_
  unfold Oper.wp execOp
  simp only [ho, hx, hy, run_storeAt_new w ty c c' hi hs h1, Sem.run_bind, Sem.run_pure, Result.andThen_ok]
  exact hK _ _ h
end
theorem page_info : (Try.prog.info? 59).map (fun i => (i.zero, i.size)) = some (some (.agg (bv zpage).toArray), 64) := by kernel_rfl
theorem write_info : (Try.prog.info? 61).map (fun i => (i.zero, i.size)) = some (some (.agg (wc (0, zpage)).toArray), 65) := by kernel_rfl
theorem page_size {l : List UInt8} (h : l.length = 64) : (Try.prog.info? 59).map (·.size) = some (bv l).toArray.size := by
  rw [show (bv l).toArray.size = 64 by simp [h]]
  exact (zero_of_info page_info).2
theorem write_size {i : Nat} {l : List UInt8} (h : l.length = 64) : (Try.prog.info? 61).map (·.size) = some (wc (i, l)).toArray.size := by
  rw [show (wc (i, l)).toArray.size = 65 by simp [wc, h]]
  exact (zero_of_info write_info).2
theorem bv_all (l : List UInt8) : (bv l).toArray.all (·.oneCell') = true := all_oneCell_toArray (bv_one l)
theorem wc_one (x : Nat × List UInt8) : ∀ u ∈ wc x, u.oneCell' = true := by
  intro u hu
  rcases List.mem_cons.1 hu with rfl | hu
  · rfl
  · exact bv_one _ u hu
theorem wc_all (x : Nat × List UInt8) : (wc x).toArray.all (·.oneCell') = true := all_oneCell_toArray (wc_one x)
theorem zpage_len : zpage.length = 64 := rfl
section
variable {B : List Nat} {p g cap : Nat} {s : Dk} {v : Value}
theorem Sure_ok (w : World) (h : IsDk B w p s g cap v) (hs : s.Ok) (i : Nat) (hi : i < s.sure.length) : Calls Try.prog 12 #[pt p, .int .i64 i] w fun e w' => ∃ g', e = .returned (.tuple #[.slice (some ⟨g', 0, none⟩) 64 64, .int .i64 0]) ∧ Ext w w' ∧ w.heap.size ≤ g' ∧ w'.heap[g']? = some (.cells (bv s.sure[i]).toArray 59 (0, 0)) := by
  have HW := wrong_any w h i false
  rw [show wrongE s i false = 0 by unfold wrongE; rw [if_neg (by simp), if_pos (by omega)]] at HW
  have C0 := h.cells.1
  have hii : (i : Int) < (s.sure.length : Int) := by omega
  have hr := own_range h.own1 (i * 64) 64
  rw [pcs, flat_elem (bv_len64 hs.page) (by simpa using hi), List.getElem_map] at hr
  have hpl := hs.page _ (List.getElem_mem hi)
  generalize s.sure[i] = pg at *
  have H := Lib.hid h
  have HR := Lib.hid hr
  have HPL := Lib.hid hpl
  clear h hr hpl hs
  unfold pt at *
  go_enter Try.func12, Try.ntmps12
  go_wp2_with fail
  refine HW.mono ?_
  rintro e w1 ⟨rfl, hx⟩
  clear HW
  have c0 := C0 w1 hx
  clear C0
  go_wp2_with (first | (with_reducible refine stop_load59 ?_) | (with_reducible refine stop_alloc59 ?_) | (with_reducible refine stop_store59 ?_))
  refine go_on (wpList_load_mid rfl 59 _ rfl g (i * 64) rfl (bv pg) _ (range_ext HR.out hx) Try.underlying59 rfl (by simpa using page_size HPL.out) ?_)
  go_wp2_with (first | (with_reducible refine stop_load59 ?_) | (with_reducible refine stop_alloc59 ?_) | (with_reducible refine stop_store59 ?_))
  refine go_on (wpList_alloc_ rfl rfl page_info ?_)
  go_wp2_with (first | (with_reducible refine stop_load59 ?_) | (with_reducible refine stop_alloc59 ?_) | (with_reducible refine stop_store59 ?_))
  refine go_on (wpList_store_new rfl rfl rfl rfl (page_size HPL.out) (by simp [zpage_len, HPL.out]) (bv_all _) ?_)
  go_wp2
  go_ret2
  have := hx.size
  exact ⟨_, rfl, hx.alloc _, by omega, heap_alloc_new w1 _⟩
end
end Go.Proofs.Ytcnikfmcefnmoaa
