/- The walk of disk.Read. Conditions: those of IsDk. -/
import Derived.Test.YtklodimokhndoaaChecked
import Derived.Test.YtklodimokhndoaaDk3
namespace Go.Proofs.Ytklodimokhndoaa
open Go.RowKit
theorem wc_range {w : World} {g : Nat} {x : Nat × List UInt8} {t : Nat} (h : w.heap[g]? = some (.cells (wc x).toArray t (0, 0))) : w.cell? ⟨g, 0, none⟩ = some (.int .i64 (x.1 : Int)) ∧ w.rangeAt g 1 (bv x.2) ∧ (∀ j, w.frozen? ⟨g, j, none⟩ = false) := by
  refine ⟨by rw [cell_of_row w g 0 _ _ _ h]; rfl, fun j v hv => ?_, fun j => frozen_of_row w g j _ _ h⟩
  rw [cell_of_row w g (1 + j) _ _ _ h, Nat.add_comm 1 j]
  simpa [wc] using hv
def readS (s : Dk) (i : Nat) : List UInt8 := s.waits.foldl (fun p x => if x.1 = i then x.2 else p) (s.sure.getD i [])
theorem readS_len {s : Dk} (hs : s.Ok) {i : Nat} (hi : i < s.sure.length) : ∀ k, ((s.waits.take k).foldl (fun p x => if x.1 = i then x.2 else p) (s.sure.getD i [])).length = 64 := by
  intro k
  have : ∀ (l : List (Nat × List UInt8)) (q : List UInt8), q.length = 64 → (∀ x ∈ l, x.2.length = 64) → (l.foldl (fun p x => if x.1 = i then x.2 else p) q).length = 64 := by
    intro l
    induction l with
    | nil => intro q h _; exact h
    | cons x l ih =>
      intro q h hl
      simp only [List.foldl_cons]
      refine ih _ ?_ fun y hy => hl y (by simp [hy])
      split
      · exact hl x (by simp)
      · exact h
  refine this _ _ ?_ fun x hx => (hs.wait x (List.mem_of_mem_take hx)).1
  rw [List.getD_eq_getElem?_getD, List.getElem?_eq_getElem hi]
  exact hs.page _ (List.getElem_mem hi)
section
variable {B : List Nat} {p g cap : Nat} {s : Dk} {v : Value}
theorem IsDk.wait_at {w : World} {A : Option Addr} {n c : Nat} (h : IsDk B w p s g cap (.slice A n c)) (hs : s.Ok) {j : Nat} (hj : j < s.waits.length) : ∃ g2, A = some ⟨g2, 0, none⟩ ∧ g2 ∈ B ∧ w.rangeAt g2 (j * 65) (wc s.waits[j]) ∧ n = s.waits.length ∧ s.waits.length ≤ c := by
  have h2 := h.own2
  rcases h2.2 with ⟨_, h0⟩ | ⟨g2, cap2, cur, e, _, _, hc, _⟩
  · omega
  · injection e with e1 e2 e3
    subst e1 e2 e3
    have hr := own_range h2 (j * 65) 65
    rw [wcs, flat_elem (wc_len65 fun x hx => (hs.wait x hx).1) (by simpa using hj), List.getElem_map] at hr
    exact ⟨g2, rfl, h.vB _ rfl, hr, rfl, hc⟩
set_option maxHeartbeats 1000000 in
theorem Read_ok (w : World) (h : IsDk B w p s g cap v) (hs : s.Ok) (hd : s.down = false) (i : Nat) (hi : i < s.sure.length) (hm : s.waits.length ≤ 1000000) :
    Calls Try.prog 27 #[pt p, .int .i64 i] w fun e w' => ∃ g', e = .returned (.tuple #[.slice (some ⟨g', 0, none⟩) 64 64, .int .i64 0]) ∧ Ext w w' ∧ w.heap.size ≤ g' ∧ w'.heap[g']? = some (.cells (bv (readS s i)).toArray 104 (0, 0)) := by
  have HW := wrong_any w h i true
  rw [show wrongE s i true = 0 by unfold wrongE; rw [if_neg (by simp [hd]), if_pos (by omega)]] at HW
  have C0 := h.cells.1
  have C1 := h.cells.2.1
  have hii : (i : Int) < (s.sure.length : Int) := by omega
  have hr := own_range h.own1 (i * 64) 64
  rw [pcs, flat_elem (bv_len64 hs.page) (by simpa using hi), List.getElem_map] at hr
  have hpl := hs.page _ (List.getElem_mem hi)
  have HL := Lib.hid (readS_len hs hi)
  have HXL := Lib.hid (fun x hx => (hs.wait x hx).1)
  have hread : readS s i = (s.waits.take s.waits.length).foldl (fun p x => if x.1 = i then x.2 else p) s.sure[i] := by
    unfold readS
    rw [List.take_length, List.getD_eq_getElem?_getD, List.getElem?_eq_getElem hi]
    rfl
  have e0 : s.sure.getD i [] = s.sure[i] := by rw [List.getD_eq_getElem?_getD, List.getElem?_eq_getElem hi]; rfl
  rw [e0] at HL
  obtain ⟨A, c, rfl⟩ := own_form h.own2
  have HWT := Lib.hid (fun j (hj : j < s.waits.length) => h.wait_at hs hj)
  rw [hread]
  generalize s.sure[i] = pg at *
  have HR := Lib.hid hr
  have HPL := Lib.hid hpl
  clear h hr hpl hs e0 hread hd
  generalize s.waits = ws at *
  unfold pt at *
  go_enter Try.func27, Try.ntmps27
  go_wp2_with fail
  refine HW.mono ?_
  rintro e w1 ⟨rfl, hx⟩
  clear HW
  have c0 := C0 w1 hx
  clear C0
  go_wp2_with (first | (with_reducible refine stop_load59 ?_) | (with_reducible refine stop_alloc59 ?_) | (with_reducible refine stop_store59 ?_))
  refine go_on (wpList_load_mid rfl 104 _ rfl g (i * 64) rfl (bv pg) _ (range_ext HR.out hx) Try.underlying104 rfl (by simpa using page_size HPL.out) ?_)
  go_wp2_with (first | (with_reducible refine stop_load59 ?_) | (with_reducible refine stop_alloc59 ?_) | (with_reducible refine stop_store59 ?_))
  refine go_on (wpList_alloc_ rfl rfl page_info ?_)
  go_wp2_with (first | (with_reducible refine stop_load59 ?_) | (with_reducible refine stop_alloc59 ?_) | (with_reducible refine stop_store59 ?_))
  refine go_on (wpList_store_last rfl rfl rfl rfl (page_size HPL.out) (by simp [zpage_len, HPL.out]) (bv_all _) ?_)
  intro w2 hr2 hx2 hz2
  have c1 := C1 w2 (hx.trans hx2)
  have HR2 := Lib.hid hr2
  have hsz : w.heap.size ≤ w1.heap.size := hx.size
  have HX2 := Lib.hid hx2
  have HX1 := Lib.hid hx
  have hgl : w1.heap.size < w2.heap.size := by omega
  clear hr2 C1 c0 hx hx2 hz2
  go_wp2
  go_loopw [28] (fun k wr => ∃ j : Nat, k = .int .i64 j ∧ j ≤ ws.length ∧ Ext w1 wr ∧ w1.heap.size < wr.heap.size ∧ wr.heap[w1.heap.size]? = some (.cells (bv ((ws.take j).foldl (fun p x => if x.1 = i then x.2 else p) pg)).toArray 104 (0, 0))) (fun k _ => ws.length - (intOf k).toNat)
  case atStart => exact ⟨0, rfl, by omega, HX2.out, hgl, by simpa using HR2.out⟩
  case round =>
    obtain ⟨j, rfl, hj, hxr, hgr, hrr⟩ := hrel
    have HRR := Lib.hid hrr
    clear hrr
    by_cases hlt : j < ws.length
    · have hjn : (j : Int) < (ws.length : Int) := by omega
      obtain ⟨g2, rfl, hg2, hrw, -, hcl⟩ := HWT.out j hlt
      have HW := Lib.hid hrw
      have hstep : (ws.take (j + 1)).foldl (fun p x => if x.1 = i then x.2 else p) pg = if (ws[j]).1 = i then (ws[j]).2 else (ws.take j).foldl (fun p x => if x.1 = i then x.2 else p) pg := by
        rw [List.take_add_one, List.getElem?_eq_getElem hlt, Option.toList_some, List.foldl_append]
        rfl
      have HST := Lib.hid hstep
      have hll := HL.out (j + 1)
      have hl0 := HL.out j
      have hxl := HXL.out _ (List.getElem_mem hlt)
      rw [hstep] at hll
      have HLL := Lib.hid hll
      have HL0 := Lib.hid hl0
      have HXW := Lib.hid hxl
      clear hrw hstep hll hl0 hxl
      generalize ws[j] = xx at *
      obtain ⟨xi, xp⟩ := xx
      simp only at HLL HXW
      go_wp2_with (first | (with_reducible refine stop_load61 ?_) | (with_reducible refine stop_alloc61 ?_) | (with_reducible refine stop_store61 ?_))
      refine go_on (wpList_load_mid rfl 106 _ rfl g2 (j * 65) rfl (wc (xi, xp)) _ (range_ext HW.out (HX1.out.trans hxr)) Try.underlying106 rfl (by simpa using write_size HXW.out) ?_)
      go_wp2_with (first | (with_reducible refine stop_load61 ?_) | (with_reducible refine stop_alloc61 ?_) | (with_reducible refine stop_store61 ?_))
      refine go_on (wpList_alloc_ rfl rfl write_info ?_)
      go_wp2_with (first | (with_reducible refine stop_load61 ?_) | (with_reducible refine stop_alloc61 ?_) | (with_reducible refine stop_store61 ?_))
      refine go_on (wpList_store_last rfl rfl rfl rfl (write_size HXW.out) (by simp [wc, zpage_len, HXW.out]) (wc_all _) ?_)
      intro w5 hr5 hx5 hz5
      obtain ⟨d0, d1, d2⟩ := wc_range hr5
      have D1 := Lib.hid d1
      have hrr5 := Lib.hid (hx5.obj HRR.out)
      have hgr5 : w1.heap.size < w5.heap.size := by omega
      have HX5 := Lib.hid (hxr.trans hx5)
      have hne : w1.heap.size ≠ wr.heap.size := by omega
      clear hr5 hx5 hz5 d1
      by_cases hxi : xi = i
      · have ht : ((xi : Int) == (i : Int)) = true := by rw [hxi]; simp
        rw [if_pos hxi] at HST
        clear hxi
        go_wp2_with (first | (with_reducible refine stop_load59 ?_) | (with_reducible refine stop_store59 ?_))
        refine go_on (wpList_load_mid rfl 104 _ rfl wr.heap.size 1 rfl (bv xp) _ D1.out Try.underlying104 rfl (by simpa using page_size HXW.out) ?_)
        go_wp2_with (first | (with_reducible refine stop_load59 ?_) | (with_reducible refine stop_store59 ?_))
        refine go_on (wpList_store_whole rfl rfl rfl rfl hrr5.out (page_size HXW.out) (by simp [HL0.out, HXW.out]) (bv_all _) ?_)
        intro w6 hr6 hk6 hz6
        have HR6 := Lib.hid hr6
        have HX6 := Lib.hid (HX5.out.kept hk6 (by simp))
        have hgr6 : w1.heap.size < w6.heap.size := by omega
        clear hr6 hk6 hz6
        go_wp2
        go_roundw
        case rel => exact ⟨j + 1, by go_num, by omega, HX6.out, hgr6, by rw [HST.out]; exact HR6.out⟩
        case measure => simp [intOf]; omega
      · have ht : ((xi : Int) == (i : Int)) = false := by simpa using fun e => hxi (by omega)
        rw [if_neg hxi] at HST
        clear hxi
        go_wp2
        go_roundw
        case rel => exact ⟨j + 1, by go_num, by omega, HX5.out, hgr5, by rw [HST.out]; exact hrr5.out⟩
        case measure => simp [intOf]; omega
    · have hjn : ¬ (j : Int) < (ws.length : Int) := by omega
      have hjj : j = ws.length := by omega
      rw [hjj] at HRR
      clear hjj
      go_wp2
      go_ret2
      exact ⟨_, rfl, HX1.out.trans hxr, by omega, by have := HRR.out; rwa [List.take_length] at this⟩
end
end Go.Proofs.Ytklodimokhndoaa
