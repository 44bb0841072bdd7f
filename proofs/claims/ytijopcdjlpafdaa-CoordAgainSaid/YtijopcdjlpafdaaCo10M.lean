/- The walk of coord.Ask. Conditions: the hypotheses of the theorem. -/
import Derived.Test.YtijopcdjlpafdaaC2
import Derived.Test.YtijopcdjlpafdaaC3
namespace Go.Proofs.Ytijopcdjlpafdaa
open Go.RowKit
def fateF (s : Cs) : Option Nat → Int
 | none => 2
 | some i => if (s.row i).done then 1 else 0
theorem askF_known {s : Cs} {id : TxI} (h : ¬ (id.node ≠ s.node ∨ id.boot < 1 ∨ s.boot < id.boot ∨ id.n < 1 ∨ (id.boot = s.boot ∧ s.next ≤ id.n))) : askF s id = fateF s (findT s.under id) := by
 unfold askF
 rw [if_neg h]
 cases findT s.under id <;> rfl
set_option maxRecDepth 20000 in
set_option maxHeartbeats 4000000 in
theorem CAsk_any {M : List Nat} {w : World} {p : Nat} {s : Cs} (h : Co M w p s) (id : TxI) (hfew : s.under.length ≤ 1000) :
 Calls Try.prog 15 #[pt p, .agg #[.int .i64 id.node, .int .i64 id.boot, .int .i64 id.n]] w fun e w' => e = .returned (.int .i64 (askF s id)) ∧ Ext w w' := by
 have HF := fun W (hx : Ext w W) => cfind_any (h.ext hx) id hfew
 obtain ⟨A, cap, h⟩ := h
 obtain ⟨c0, c1, c2, c3, cf⟩ := rows4 h.row
 have HH := Lib.hid h
 clear h
 unfold pt at *
 by_cases hn : id.node = s.node; rotate_left
 ·have q0 : (id.node != s.node) = true := by simpa using hn
  have HV : Hid (askF s id = 0) := Lib.hid (by unfold askF; rw [if_pos (by omega)])
  clear HF c3 cf hn
  go_enter Try.func15, Try.ntmps15
  go_wp2_with fail
  obtain ⟨wb, hwb⟩ : ∃ wb, wb = w.alloc (.cells #[.int .i64 id.node, .int .i64 id.boot, .int .i64 id.n] 35) := ⟨_, rfl⟩
  rw [← hwb]
  have hxb : Ext w wb := hwb ▸ (Ext.refl w).alloc _
  have hrow : TxAt wb w.heap.size id := hwb ▸ heap_alloc_new w _
  obtain ⟨t0, t1, t2, tf⟩ := rows3 hrow
  have d0 := fun W (hx : Ext wb W) => c0 W (hxb.trans hx)
  have d1 := fun W (hx : Ext wb W) => c1 W (hxb.trans hx)
  have d2 := fun W (hx : Ext wb W) => c2 W (hxb.trans hx)
  have hx1 : Ext wb wb.drew := (Ext.refl wb).drew
  clear hwb hrow c0 c1 c2 tf
  refine wp_region_phase (S := fun w' => Ext wb w') 47 (by kernel_rfl) (by kernel_rfl) ?_ (fun hHeld => ?_)
  ·exact hx1
  simp only [List.drop_succ_cons, List.drop_zero]
  refine name_head ?_
  intro wr0 hw0
  rw [hw0] at hHeld
  refine wt 0 _ ?_
  simp only [red, Act.put]
  refine wt 1 _ ?_
  simp only [red, Act.put]
  refine wt 2 _ ?_
  simp only [red, Act.put]
  refine wt 3 _ ?_
  simp only [red, Act.put]
  refine wt 4 _ ?_
  simp only [red, Act.put]
  refine wt 5 _ ?_
  simp only [red, Act.put]
  refine wt 6 _ ?_
  simp only [red, Act.put]
  refine wt 7 _ ?_
  simp only [red, Act.put]
  refine wt 8 _ ?_
  simp only [red, Act.put]
  refine wt 9 _ ?_
  simp only [red, Act.put]
  refine wt 10 _ ?_
  simp only [red, Act.put]
  refine wt 11 _ ?_
  simp only [red, Act.put]
  refine ws 12 ?_
  simp only [red, Act.put]
  refine ws 13 ?_
  simp only [red, Act.put]
  refine ws 14 ?_
  simp only [red, Act.put]
  refine wt 15 _ ?_
  simp only [red, Act.put]
  refine wt 16 _ ?_
  simp only [red, Act.put]
  refine ws 17 ?_
  simp only [red, Act.put]
  refine ws 18 ?_
  simp only [red, Act.put]
  refine ws 19 ?_
  simp only [red, Act.put]
  refine ws 20 ?_
  simp only [red, Act.put]
  refine ws 21 ?_
  simp only [red, Act.put]
  refine ws 22 ?_
  simp only [red, Act.put]
  refine ws 23 ?_
  simp only [red, Act.put]
  refine wt 24 _ ?_
  simp only [red, Act.put]
  refine wt 25 _ ?_
  simp only [red, Act.put]
  refine ws 26 ?_
  simp only [red, Act.put]
  refine ws 27 ?_
  simp only [red, Act.put]
  refine ws 28 ?_
  simp only [red, Act.put]
  refine wt 29 _ ?_
  simp only [red, Act.put]
  refine wt 30 _ ?_
  simp only [red, Act.put]
  refine ws 31 ?_
  simp only [red, Act.put]
  refine ws 32 ?_
  simp only [red, Act.put]
  refine ws 33 ?_
  simp only [red, Act.put]
  refine ws 34 ?_
  simp only [red, Act.put]
  refine ws 35 ?_
  simp only [red, Act.put]
  refine ws 36 ?_
  simp only [red, Act.put]
  refine ws 37 ?_
  simp only [red, Act.put]
  refine ws 38 ?_
  simp only [red, Act.put]
  refine ws 39 ?_
  simp only [red, Act.put]
  refine ws 40 ?_
  simp only [red, Act.put]
  refine ws 41 ?_
  simp only [red, Act.put]
  refine ws 42 ?_
  simp only [red, Act.put]
  refine ws 43 ?_
  simp only [red, Act.put]
  refine ws 44 ?_
  simp only [red, Act.put]
  refine ws 45 ?_
  simp only [red, Act.put]
  refine ws 46 ?_
  simp only [red, Act.put]
  refine wpHead_done (by kernel_rfl) ?_
  have HX := Lib.hid (hxb.trans hHeld)
  go_wp2
  go_ret
  rw [HV.out]
  exact ⟨rfl, HX.out⟩
 have q0 : (id.node != s.node) = false := by rw [hn]; simp
 by_cases hb1 : id.boot < 1
 ·have q1 : decide (id.boot < 1) = true := by simpa using hb1
  have HV : Hid (askF s id = 0) := Lib.hid (by unfold askF; rw [if_pos (by omega)])
  clear HF c3 cf hn hb1
  go_enter Try.func15, Try.ntmps15
  go_wp2_with fail
  obtain ⟨wb, hwb⟩ : ∃ wb, wb = w.alloc (.cells #[.int .i64 id.node, .int .i64 id.boot, .int .i64 id.n] 35) := ⟨_, rfl⟩
  rw [← hwb]
  have hxb : Ext w wb := hwb ▸ (Ext.refl w).alloc _
  have hrow : TxAt wb w.heap.size id := hwb ▸ heap_alloc_new w _
  obtain ⟨t0, t1, t2, tf⟩ := rows3 hrow
  have d0 := fun W (hx : Ext wb W) => c0 W (hxb.trans hx)
  have d1 := fun W (hx : Ext wb W) => c1 W (hxb.trans hx)
  have d2 := fun W (hx : Ext wb W) => c2 W (hxb.trans hx)
  have hx1 : Ext wb wb.drew := (Ext.refl wb).drew
  clear hwb hrow c0 c1 c2 tf
  refine wp_region_phase (S := fun w' => Ext wb w') 47 (by kernel_rfl) (by kernel_rfl) ?_ (fun hHeld => ?_)
  ·exact hx1
  simp only [List.drop_succ_cons, List.drop_zero]
  refine name_head ?_
  intro wr0 hw0
  rw [hw0] at hHeld
  refine wt 0 _ ?_
  simp only [red, Act.put]
  refine wt 1 _ ?_
  simp only [red, Act.put]
  refine wt 2 _ ?_
  simp only [red, Act.put]
  refine wt 3 _ ?_
  simp only [red, Act.put]
  refine wt 4 _ ?_
  simp only [red, Act.put]
  refine wt 5 _ ?_
  simp only [red, Act.put]
  refine wt 6 _ ?_
  simp only [red, Act.put]
  refine wt 7 _ ?_
  simp only [red, Act.put]
  refine wt 8 _ ?_
  simp only [red, Act.put]
  refine wt 9 _ ?_
  simp only [red, Act.put]
  refine wt 10 _ ?_
  simp only [red, Act.put]
  refine wt 11 _ ?_
  simp only [red, Act.put]
  refine wt 12 _ ?_
  simp only [red, Act.put]
  refine wt 13 _ ?_
  simp only [red, Act.put]
  refine wt 14 _ ?_
  simp only [red, Act.put]
  refine wt 15 _ ?_
  simp only [red, Act.put]
  refine wt 16 _ ?_
  simp only [red, Act.put]
  refine ws 17 ?_
  simp only [red, Act.put]
  refine ws 18 ?_
  simp only [red, Act.put]
  refine ws 19 ?_
  simp only [red, Act.put]
  refine ws 20 ?_
  simp only [red, Act.put]
  refine ws 21 ?_
  simp only [red, Act.put]
  refine ws 22 ?_
  simp only [red, Act.put]
  refine ws 23 ?_
  simp only [red, Act.put]
  refine wt 24 _ ?_
  simp only [red, Act.put]
  refine wt 25 _ ?_
  simp only [red, Act.put]
  refine ws 26 ?_
  simp only [red, Act.put]
  refine ws 27 ?_
  simp only [red, Act.put]
  refine ws 28 ?_
  simp only [red, Act.put]
  refine wt 29 _ ?_
  simp only [red, Act.put]
  refine wt 30 _ ?_
  simp only [red, Act.put]
  refine ws 31 ?_
  simp only [red, Act.put]
  refine ws 32 ?_
  simp only [red, Act.put]
  refine ws 33 ?_
  simp only [red, Act.put]
  refine ws 34 ?_
  simp only [red, Act.put]
  refine ws 35 ?_
  simp only [red, Act.put]
  refine ws 36 ?_
  simp only [red, Act.put]
  refine ws 37 ?_
  simp only [red, Act.put]
  refine ws 38 ?_
  simp only [red, Act.put]
  refine ws 39 ?_
  simp only [red, Act.put]
  refine ws 40 ?_
  simp only [red, Act.put]
  refine ws 41 ?_
  simp only [red, Act.put]
  refine ws 42 ?_
  simp only [red, Act.put]
  refine ws 43 ?_
  simp only [red, Act.put]
  refine ws 44 ?_
  simp only [red, Act.put]
  refine ws 45 ?_
  simp only [red, Act.put]
  refine ws 46 ?_
  simp only [red, Act.put]
  refine wpHead_done (by kernel_rfl) ?_
  have HX := Lib.hid (hxb.trans hHeld)
  go_wp2
  go_ret
  rw [HV.out]
  exact ⟨rfl, HX.out⟩
 have q1 : decide (id.boot < 1) = false := by simpa using hb1
 by_cases hb2 : s.boot < id.boot
 ·have q2 : decide (s.boot < id.boot) = true := by simpa using hb2
  have HV : Hid (askF s id = 0) := Lib.hid (by unfold askF; rw [if_pos (by omega)])
  clear HF c3 cf hn hb1 hb2
  go_enter Try.func15, Try.ntmps15
  go_wp2_with fail
  obtain ⟨wb, hwb⟩ : ∃ wb, wb = w.alloc (.cells #[.int .i64 id.node, .int .i64 id.boot, .int .i64 id.n] 35) := ⟨_, rfl⟩
  rw [← hwb]
  have hxb : Ext w wb := hwb ▸ (Ext.refl w).alloc _
  have hrow : TxAt wb w.heap.size id := hwb ▸ heap_alloc_new w _
  obtain ⟨t0, t1, t2, tf⟩ := rows3 hrow
  have d0 := fun W (hx : Ext wb W) => c0 W (hxb.trans hx)
  have d1 := fun W (hx : Ext wb W) => c1 W (hxb.trans hx)
  have d2 := fun W (hx : Ext wb W) => c2 W (hxb.trans hx)
  have hx1 : Ext wb wb.drew := (Ext.refl wb).drew
  clear hwb hrow c0 c1 c2 tf
  refine wp_region_phase (S := fun w' => Ext wb w') 47 (by kernel_rfl) (by kernel_rfl) ?_ (fun hHeld => ?_)
  ·exact hx1
  simp only [List.drop_succ_cons, List.drop_zero]
  refine name_head ?_
  intro wr0 hw0
  rw [hw0] at hHeld
  refine wt 0 _ ?_
  simp only [red, Act.put]
  refine wt 1 _ ?_
  simp only [red, Act.put]
  refine wt 2 _ ?_
  simp only [red, Act.put]
  refine wt 3 _ ?_
  simp only [red, Act.put]
  refine wt 4 _ ?_
  simp only [red, Act.put]
  refine wt 5 _ ?_
  simp only [red, Act.put]
  refine wt 6 _ ?_
  simp only [red, Act.put]
  refine wt 7 _ ?_
  simp only [red, Act.put]
  refine wt 8 _ ?_
  simp only [red, Act.put]
  refine wt 9 _ ?_
  simp only [red, Act.put]
  refine wt 10 _ ?_
  simp only [red, Act.put]
  refine wt 11 _ ?_
  simp only [red, Act.put]
  refine wt 12 _ ?_
  simp only [red, Act.put]
  refine wt 13 _ ?_
  simp only [red, Act.put]
  refine wt 14 _ ?_
  simp only [red, Act.put]
  refine wt 15 _ ?_
  simp only [red, Act.put]
  refine wt 16 _ ?_
  simp only [red, Act.put]
  refine wt 17 _ ?_
  simp only [red, Act.put]
  refine wt 18 _ ?_
  simp only [red, Act.put]
  refine wt 19 _ ?_
  simp only [red, Act.put]
  refine wt 20 _ ?_
  simp only [red, Act.put]
  refine wt 21 _ ?_
  simp only [red, Act.put]
  refine wt 22 _ ?_
  simp only [red, Act.put]
  refine wt 23 _ ?_
  simp only [red, Act.put]
  refine wt 24 _ ?_
  simp only [red, Act.put]
  refine wt 25 _ ?_
  simp only [red, Act.put]
  refine ws 26 ?_
  simp only [red, Act.put]
  refine ws 27 ?_
  simp only [red, Act.put]
  refine ws 28 ?_
  simp only [red, Act.put]
  refine wt 29 _ ?_
  simp only [red, Act.put]
  refine wt 30 _ ?_
  simp only [red, Act.put]
  refine ws 31 ?_
  simp only [red, Act.put]
  refine ws 32 ?_
  simp only [red, Act.put]
  refine ws 33 ?_
  simp only [red, Act.put]
  refine ws 34 ?_
  simp only [red, Act.put]
  refine ws 35 ?_
  simp only [red, Act.put]
  refine ws 36 ?_
  simp only [red, Act.put]
  refine ws 37 ?_
  simp only [red, Act.put]
  refine ws 38 ?_
  simp only [red, Act.put]
  refine ws 39 ?_
  simp only [red, Act.put]
  refine ws 40 ?_
  simp only [red, Act.put]
  refine ws 41 ?_
  simp only [red, Act.put]
  refine ws 42 ?_
  simp only [red, Act.put]
  refine ws 43 ?_
  simp only [red, Act.put]
  refine ws 44 ?_
  simp only [red, Act.put]
  refine ws 45 ?_
  simp only [red, Act.put]
  refine ws 46 ?_
  simp only [red, Act.put]
  refine wpHead_done (by kernel_rfl) ?_
  have HX := Lib.hid (hxb.trans hHeld)
  go_wp2
  go_ret
  rw [HV.out]
  exact ⟨rfl, HX.out⟩
 have q2 : decide (s.boot < id.boot) = false := by simpa using hb2
 by_cases hn1 : id.n < 1
 ·have q3 : decide (id.n < 1) = true := by simpa using hn1
  have HV : Hid (askF s id = 0) := Lib.hid (by unfold askF; rw [if_pos (by omega)])
  clear HF c3 cf hn hb1 hb2 hn1
  go_enter Try.func15, Try.ntmps15
  go_wp2_with fail
  obtain ⟨wb, hwb⟩ : ∃ wb, wb = w.alloc (.cells #[.int .i64 id.node, .int .i64 id.boot, .int .i64 id.n] 35) := ⟨_, rfl⟩
  rw [← hwb]
  have hxb : Ext w wb := hwb ▸ (Ext.refl w).alloc _
  have hrow : TxAt wb w.heap.size id := hwb ▸ heap_alloc_new w _
  obtain ⟨t0, t1, t2, tf⟩ := rows3 hrow
  have d0 := fun W (hx : Ext wb W) => c0 W (hxb.trans hx)
  have d1 := fun W (hx : Ext wb W) => c1 W (hxb.trans hx)
  have d2 := fun W (hx : Ext wb W) => c2 W (hxb.trans hx)
  have hx1 : Ext wb wb.drew := (Ext.refl wb).drew
  clear hwb hrow c0 c1 c2 tf
  refine wp_region_phase (S := fun w' => Ext wb w') 47 (by kernel_rfl) (by kernel_rfl) ?_ (fun hHeld => ?_)
  ·exact hx1
  simp only [List.drop_succ_cons, List.drop_zero]
  refine name_head ?_
  intro wr0 hw0
  rw [hw0] at hHeld
  refine wt 0 _ ?_
  simp only [red, Act.put]
  refine wt 1 _ ?_
  simp only [red, Act.put]
  refine wt 2 _ ?_
  simp only [red, Act.put]
  refine wt 3 _ ?_
  simp only [red, Act.put]
  refine wt 4 _ ?_
  simp only [red, Act.put]
  refine wt 5 _ ?_
  simp only [red, Act.put]
  refine wt 6 _ ?_
  simp only [red, Act.put]
  refine wt 7 _ ?_
  simp only [red, Act.put]
  refine wt 8 _ ?_
  simp only [red, Act.put]
  refine wt 9 _ ?_
  simp only [red, Act.put]
  refine wt 10 _ ?_
  simp only [red, Act.put]
  refine wt 11 _ ?_
  simp only [red, Act.put]
  refine wt 12 _ ?_
  simp only [red, Act.put]
  refine wt 13 _ ?_
  simp only [red, Act.put]
  refine wt 14 _ ?_
  simp only [red, Act.put]
  refine wt 15 _ ?_
  simp only [red, Act.put]
  refine wt 16 _ ?_
  simp only [red, Act.put]
  refine wt 17 _ ?_
  simp only [red, Act.put]
  refine wt 18 _ ?_
  simp only [red, Act.put]
  refine wt 19 _ ?_
  simp only [red, Act.put]
  refine wt 20 _ ?_
  simp only [red, Act.put]
  refine wt 21 _ ?_
  simp only [red, Act.put]
  refine wt 22 _ ?_
  simp only [red, Act.put]
  refine wt 23 _ ?_
  simp only [red, Act.put]
  refine wt 24 _ ?_
  simp only [red, Act.put]
  refine wt 25 _ ?_
  simp only [red, Act.put]
  refine wt 26 _ ?_
  simp only [red, Act.put]
  refine wt 27 _ ?_
  simp only [red, Act.put]
  refine wt 28 _ ?_
  simp only [red, Act.put]
  refine wt 29 _ ?_
  simp only [red, Act.put]
  refine wt 30 _ ?_
  simp only [red, Act.put]
  refine ws 31 ?_
  simp only [red, Act.put]
  refine ws 32 ?_
  simp only [red, Act.put]
  refine ws 33 ?_
  simp only [red, Act.put]
  refine ws 34 ?_
  simp only [red, Act.put]
  refine ws 35 ?_
  simp only [red, Act.put]
  refine ws 36 ?_
  simp only [red, Act.put]
  refine ws 37 ?_
  simp only [red, Act.put]
  refine ws 38 ?_
  simp only [red, Act.put]
  refine ws 39 ?_
  simp only [red, Act.put]
  refine ws 40 ?_
  simp only [red, Act.put]
  refine ws 41 ?_
  simp only [red, Act.put]
  refine ws 42 ?_
  simp only [red, Act.put]
  refine ws 43 ?_
  simp only [red, Act.put]
  refine ws 44 ?_
  simp only [red, Act.put]
  refine ws 45 ?_
  simp only [red, Act.put]
  refine ws 46 ?_
  simp only [red, Act.put]
  refine wpHead_done (by kernel_rfl) ?_
  have HX := Lib.hid (hxb.trans hHeld)
  go_wp2
  go_ret
  rw [HV.out]
  exact ⟨rfl, HX.out⟩
 have q3 : decide (id.n < 1) = false := by simpa using hn1
 by_cases hbb : id.boot = s.boot
 ·have q4 : (id.boot == s.boot) = true := by rw [hbb]; simp
  by_cases hnx : s.next ≤ id.n
  ·have q5 : decide (s.next ≤ id.n) = true := by simpa using hnx
   have HV : Hid (askF s id = 0) := Lib.hid (by unfold askF; rw [if_pos (by omega)])
   clear HF c3 cf hn hb1 hb2 hn1 hbb hnx
   go_enter Try.func15, Try.ntmps15
   go_wp2_with fail
   obtain ⟨wb, hwb⟩ : ∃ wb, wb = w.alloc (.cells #[.int .i64 id.node, .int .i64 id.boot, .int .i64 id.n] 35) := ⟨_, rfl⟩
   rw [← hwb]
   have hxb : Ext w wb := hwb ▸ (Ext.refl w).alloc _
   have hrow : TxAt wb w.heap.size id := hwb ▸ heap_alloc_new w _
   obtain ⟨t0, t1, t2, tf⟩ := rows3 hrow
   have d0 := fun W (hx : Ext wb W) => c0 W (hxb.trans hx)
   have d1 := fun W (hx : Ext wb W) => c1 W (hxb.trans hx)
   have d2 := fun W (hx : Ext wb W) => c2 W (hxb.trans hx)
   have hx1 : Ext wb wb.drew := (Ext.refl wb).drew
   clear hwb hrow c0 c1 c2 tf
   refine wp_region_phase (S := fun w' => Ext wb w') 47 (by kernel_rfl) (by kernel_rfl) ?_ (fun hHeld => ?_)
   ·exact hx1
   simp only [List.drop_succ_cons, List.drop_zero]
   refine name_head ?_
   intro wr0 hw0
   rw [hw0] at hHeld
   refine wt 0 _ ?_
   simp only [red, Act.put]
   refine wt 1 _ ?_
   simp only [red, Act.put]
   refine wt 2 _ ?_
   simp only [red, Act.put]
   refine wt 3 _ ?_
   simp only [red, Act.put]
   refine wt 4 _ ?_
   simp only [red, Act.put]
   refine wt 5 _ ?_
   simp only [red, Act.put]
   refine wt 6 _ ?_
   simp only [red, Act.put]
   refine wt 7 _ ?_
   simp only [red, Act.put]
   refine wt 8 _ ?_
   simp only [red, Act.put]
   refine wt 9 _ ?_
   simp only [red, Act.put]
   refine wt 10 _ ?_
   simp only [red, Act.put]
   refine wt 11 _ ?_
   simp only [red, Act.put]
   refine wt 12 _ ?_
   simp only [red, Act.put]
   refine wt 13 _ ?_
   simp only [red, Act.put]
   refine wt 14 _ ?_
   simp only [red, Act.put]
   refine wt 15 _ ?_
   simp only [red, Act.put]
   refine wt 16 _ ?_
   simp only [red, Act.put]
   refine wt 17 _ ?_
   simp only [red, Act.put]
   refine wt 18 _ ?_
   simp only [red, Act.put]
   refine wt 19 _ ?_
   simp only [red, Act.put]
   refine wt 20 _ ?_
   simp only [red, Act.put]
   refine wt 21 _ ?_
   simp only [red, Act.put]
   refine wt 22 _ ?_
   simp only [red, Act.put]
   refine wt 23 _ ?_
   simp only [red, Act.put]
   refine wt 24 _ ?_
   simp only [red, Act.put]
   refine wt 25 _ ?_
   simp only [red, Act.put]
   refine wt 26 _ ?_
   simp only [red, Act.put]
   refine wt 27 _ ?_
   simp only [red, Act.put]
   refine wt 28 _ ?_
   simp only [red, Act.put]
   refine wt 29 _ ?_
   simp only [red, Act.put]
   refine wt 30 _ ?_
   simp only [red, Act.put]
   refine wt 31 _ ?_
   simp only [red, Act.put]
   refine wt 32 _ ?_
   simp only [red, Act.put]
   refine wt 33 _ ?_
   simp only [red, Act.put]
   refine wt 34 _ ?_
   simp only [red, Act.put]
   refine wt 35 _ ?_
   simp only [red, Act.put]
   refine wt 36 _ ?_
   simp only [red, Act.put]
   refine wt 37 _ ?_
   simp only [red, Act.put]
   refine wt 38 _ ?_
   simp only [red, Act.put]
   refine wt 39 _ ?_
   simp only [red, Act.put]
   refine wt 40 _ ?_
   simp only [red, Act.put]
   refine wt 41 _ ?_
   simp only [red, Act.put]
   refine wt 42 _ ?_
   simp only [red, Act.put]
   refine wt 43 _ ?_
   simp only [red, Act.put]
   refine wt 44 _ ?_
   simp only [red, Act.put]
   refine wt 45 _ ?_
   simp only [red, Act.put]
   refine wt 46 _ ?_
   simp only [red, Act.put]
   refine wpHead_done (by kernel_rfl) ?_
   have HX := Lib.hid (hxb.trans hHeld)
   go_wp2
   go_ret
   rw [HV.out]
   exact ⟨rfl, HX.out⟩
  ·have q5 : decide (s.next ≤ id.n) = false := by simpa using hnx
   have HV : Hid (askF s id = fateF s (findT s.under id)) := Lib.hid (askF_known (by omega))
   clear hn hb1 hb2 hn1 hbb hnx
   go_enter Try.func15, Try.ntmps15
   go_wp2_with fail
   obtain ⟨wb, hwb⟩ : ∃ wb, wb = w.alloc (.cells #[.int .i64 id.node, .int .i64 id.boot, .int .i64 id.n] 35) := ⟨_, rfl⟩
   rw [← hwb]
   have hxb : Ext w wb := hwb ▸ (Ext.refl w).alloc _
   have hrow : TxAt wb w.heap.size id := hwb ▸ heap_alloc_new w _
   obtain ⟨t0, t1, t2, tf⟩ := rows3 hrow
   have d0 := fun W (hx : Ext wb W) => c0 W (hxb.trans hx)
   have d1 := fun W (hx : Ext wb W) => c1 W (hxb.trans hx)
   have d2 := fun W (hx : Ext wb W) => c2 W (hxb.trans hx)
   have hx1 : Ext wb wb.drew := (Ext.refl wb).drew
   clear hwb hrow c0 c1 c2 tf
   have hc3 := c3 _ hxb
   refine wp_region_phase (S := fun w' => Ext wb w') 47 (by kernel_rfl) (by kernel_rfl) ?_ (fun hHeld => ?_)
   ·exact hx1
   simp only [List.drop_succ_cons, List.drop_zero]
   refine name_head ?_
   intro wr0 hw0
   rw [hw0] at hHeld
   refine wt 0 _ ?_
   simp only [red, Act.put]
   refine wt 1 _ ?_
   simp only [red, Act.put]
   refine wt 2 _ ?_
   simp only [red, Act.put]
   refine wt 3 _ ?_
   simp only [red, Act.put]
   refine wt 4 _ ?_
   simp only [red, Act.put]
   refine wt 5 _ ?_
   simp only [red, Act.put]
   refine wt 6 _ ?_
   simp only [red, Act.put]
   refine wt 7 _ ?_
   simp only [red, Act.put]
   refine wt 8 _ ?_
   simp only [red, Act.put]
   refine wt 9 _ ?_
   simp only [red, Act.put]
   refine wt 10 _ ?_
   simp only [red, Act.put]
   refine wt 11 _ ?_
   simp only [red, Act.put]
   refine wt 12 _ ?_
   simp only [red, Act.put]
   refine wt 13 _ ?_
   simp only [red, Act.put]
   refine wt 14 _ ?_
   simp only [red, Act.put]
   refine wt 15 _ ?_
   simp only [red, Act.put]
   refine wt 16 _ ?_
   simp only [red, Act.put]
   refine wt 17 _ ?_
   simp only [red, Act.put]
   refine wt 18 _ ?_
   simp only [red, Act.put]
   refine wt 19 _ ?_
   simp only [red, Act.put]
   refine wt 20 _ ?_
   simp only [red, Act.put]
   refine wt 21 _ ?_
   simp only [red, Act.put]
   refine wt 22 _ ?_
   simp only [red, Act.put]
   refine wt 23 _ ?_
   simp only [red, Act.put]
   refine wt 24 _ ?_
   simp only [red, Act.put]
   refine wt 25 _ ?_
   simp only [red, Act.put]
   refine wt 26 _ ?_
   simp only [red, Act.put]
   refine wt 27 _ ?_
   simp only [red, Act.put]
   refine wt 28 _ ?_
   simp only [red, Act.put]
   refine wt 29 _ ?_
   simp only [red, Act.put]
   refine wt 30 _ ?_
   simp only [red, Act.put]
   refine wt 31 _ ?_
   simp only [red, Act.put]
   refine wt 32 _ ?_
   simp only [red, Act.put]
   refine wt 33 _ ?_
   simp only [red, Act.put]
   refine wt 34 _ ?_
   simp only [red, Act.put]
   refine wt 35 _ ?_
   simp only [red, Act.put]
   refine wt 36 _ ?_
   simp only [red, Act.put]
   refine wt 37 _ ?_
   simp only [red, Act.put]
   refine wt 38 _ ?_
   simp only [red, Act.put]
   refine wt 39 _ ?_
   simp only [red, Act.put]
   refine wt 40 _ ?_
   simp only [red, Act.put]
   refine wt 41 _ ?_
   simp only [red, Act.put]
   refine wt 42 _ ?_
   simp only [red, Act.put]
   refine wt 43 _ ?_
   simp only [red, Act.put]
   refine wt 44 _ ?_
   simp only [red, Act.put]
   refine wt 45 _ ?_
   simp only [red, Act.put]
   refine wt 46 _ ?_
   simp only [red, Act.put]
   refine wpHead_done (by kernel_rfl) ?_
   have HX := Lib.hid (hxb.trans hHeld)
   have HF' := HF _ HX.out
   go_wp2_with fail
   refine HF'.mono ?_
   rintro e w4 ⟨rfl, hx4⟩
   have hxw := HX.out.trans hx4
   clear HF HF' hx4 d0 d1 d2 t0 t1 t2
   cases hf : findT s.under id with
   | none =>
    rw [hf] at HV
    have hm : idI none = -1 := rfl
    rw [hm]
    clear hm hf
    go_wp2
    go_ret
    rw [HV.out]
    exact ⟨rfl, hxw⟩
   | some i =>
    rw [hf] at HV
    obtain ⟨hi, _⟩ := findT_some hf
    obtain ⟨ad, A1, c1, rfl, _, _, hd⟩ := HH.out.rs.tr hi
    have hm : idI (some i) = (i : Int) := rfl
    rw [hm]
    simp only [fateF, row_eq hi] at HV
    have hilt : (i : Int) < (s.under.length : Int) := by omega
    have hi0 : ¬ (i : Int) < 0 := by omega
    have hdd := hd _ hxw
    have HX2 := Lib.hid hxw
    generalize s.under[i].done = dd at *
    clear hm hf hd
    cases dd
    ·go_wp2
     go_ret
     rw [HV.out]
     exact ⟨rfl, HX2.out⟩
    ·go_wp2
     go_ret
     rw [HV.out]
     exact ⟨rfl, HX2.out⟩
 ·have q4 : (id.boot == s.boot) = false := by simpa using hbb
  have HV : Hid (askF s id = fateF s (findT s.under id)) := Lib.hid (askF_known (by omega))
  clear hn hb1 hb2 hn1 hbb
  go_enter Try.func15, Try.ntmps15
  go_wp2_with fail
  obtain ⟨wb, hwb⟩ : ∃ wb, wb = w.alloc (.cells #[.int .i64 id.node, .int .i64 id.boot, .int .i64 id.n] 35) := ⟨_, rfl⟩
  rw [← hwb]
  have hxb : Ext w wb := hwb ▸ (Ext.refl w).alloc _
  have hrow : TxAt wb w.heap.size id := hwb ▸ heap_alloc_new w _
  obtain ⟨t0, t1, t2, tf⟩ := rows3 hrow
  have d0 := fun W (hx : Ext wb W) => c0 W (hxb.trans hx)
  have d1 := fun W (hx : Ext wb W) => c1 W (hxb.trans hx)
  have d2 := fun W (hx : Ext wb W) => c2 W (hxb.trans hx)
  have hx1 : Ext wb wb.drew := (Ext.refl wb).drew
  clear hwb hrow c0 c1 c2 tf
  have hc3 := c3 _ hxb
  refine wp_region_phase (S := fun w' => Ext wb w') 47 (by kernel_rfl) (by kernel_rfl) ?_ (fun hHeld => ?_)
  ·exact hx1
  simp only [List.drop_succ_cons, List.drop_zero]
  refine name_head ?_
  intro wr0 hw0
  rw [hw0] at hHeld
  refine wt 0 _ ?_
  simp only [red, Act.put]
  refine wt 1 _ ?_
  simp only [red, Act.put]
  refine wt 2 _ ?_
  simp only [red, Act.put]
  refine wt 3 _ ?_
  simp only [red, Act.put]
  refine wt 4 _ ?_
  simp only [red, Act.put]
  refine wt 5 _ ?_
  simp only [red, Act.put]
  refine wt 6 _ ?_
  simp only [red, Act.put]
  refine wt 7 _ ?_
  simp only [red, Act.put]
  refine wt 8 _ ?_
  simp only [red, Act.put]
  refine wt 9 _ ?_
  simp only [red, Act.put]
  refine wt 10 _ ?_
  simp only [red, Act.put]
  refine wt 11 _ ?_
  simp only [red, Act.put]
  refine wt 12 _ ?_
  simp only [red, Act.put]
  refine wt 13 _ ?_
  simp only [red, Act.put]
  refine wt 14 _ ?_
  simp only [red, Act.put]
  refine wt 15 _ ?_
  simp only [red, Act.put]
  refine wt 16 _ ?_
  simp only [red, Act.put]
  refine wt 17 _ ?_
  simp only [red, Act.put]
  refine wt 18 _ ?_
  simp only [red, Act.put]
  refine wt 19 _ ?_
  simp only [red, Act.put]
  refine wt 20 _ ?_
  simp only [red, Act.put]
  refine wt 21 _ ?_
  simp only [red, Act.put]
  refine wt 22 _ ?_
  simp only [red, Act.put]
  refine wt 23 _ ?_
  simp only [red, Act.put]
  refine wt 24 _ ?_
  simp only [red, Act.put]
  refine wt 25 _ ?_
  simp only [red, Act.put]
  refine wt 26 _ ?_
  simp only [red, Act.put]
  refine wt 27 _ ?_
  simp only [red, Act.put]
  refine wt 28 _ ?_
  simp only [red, Act.put]
  refine wt 29 _ ?_
  simp only [red, Act.put]
  refine wt 30 _ ?_
  simp only [red, Act.put]
  refine wt 31 _ ?_
  simp only [red, Act.put]
  refine wt 32 _ ?_
  simp only [red, Act.put]
  refine wt 33 _ ?_
  simp only [red, Act.put]
  refine wt 34 _ ?_
  simp only [red, Act.put]
  refine wt 35 _ ?_
  simp only [red, Act.put]
  refine wt 36 _ ?_
  simp only [red, Act.put]
  refine wt 37 _ ?_
  simp only [red, Act.put]
  refine wt 38 _ ?_
  simp only [red, Act.put]
  refine ws 39 ?_
  simp only [red, Act.put]
  refine ws 40 ?_
  simp only [red, Act.put]
  refine ws 41 ?_
  simp only [red, Act.put]
  refine ws 42 ?_
  simp only [red, Act.put]
  refine ws 43 ?_
  simp only [red, Act.put]
  refine ws 44 ?_
  simp only [red, Act.put]
  refine ws 45 ?_
  simp only [red, Act.put]
  refine wt 46 _ ?_
  simp only [red, Act.put]
  refine wpHead_done (by kernel_rfl) ?_
  have HX := Lib.hid (hxb.trans hHeld)
  have HF' := HF _ HX.out
  go_wp2_with fail
  refine HF'.mono ?_
  rintro e w4 ⟨rfl, hx4⟩
  have hxw := HX.out.trans hx4
  clear HF HF' hx4 d0 d1 d2 t0 t1 t2
  cases hf : findT s.under id with
  | none =>
   rw [hf] at HV
   have hm : idI none = -1 := rfl
   rw [hm]
   clear hm hf
   go_wp2
   go_ret
   rw [HV.out]
   exact ⟨rfl, hxw⟩
  | some i =>
   rw [hf] at HV
   obtain ⟨hi, _⟩ := findT_some hf
   obtain ⟨ad, A1, c1, rfl, _, _, hd⟩ := HH.out.rs.tr hi
   have hm : idI (some i) = (i : Int) := rfl
   rw [hm]
   simp only [fateF, row_eq hi] at HV
   have hilt : (i : Int) < (s.under.length : Int) := by omega
   have hi0 : ¬ (i : Int) < 0 := by omega
   have hdd := hd _ hxw
   have HX2 := Lib.hid hxw
   generalize s.under[i].done = dd at *
   clear hm hf hd
   cases dd
   ·go_wp2
    go_ret
    rw [HV.out]
    exact ⟨rfl, HX2.out⟩
   ·go_wp2
    go_ret
    rw [HV.out]
    exact ⟨rfl, HX2.out⟩
end Go.Proofs.Ytijopcdjlpafdaa
