/- The nil node; a pair is forked. Conditions: the hypotheses of each theorem. -/
import Derived.Test.YtijopcdjlpafdaaC2
import Derived.Test.YtijopcdjlpafdaaCoP6M
namespace Go.Proofs.Ytijopcdjlpafdaa
open Go.RowKit
theorem nil_boot (w : World) : Calls Try.prog 9 #[.pointer none] w fun e w' => e = .returned (.tuple #[.slice none 0 0, .int .i64 1]) ∧ Ext w w' := by
 go_enter Try.func9, Try.ntmps9
 go_wp2
 go_ret2
 exact ⟨rfl, Ext.refl _⟩
theorem nil_at (id : TxI) (d : Bool) (w : World) : Calls Try.prog 31 #[.pointer none, .agg #[.int .i64 id.node, .int .i64 id.boot, .int .i64 id.n], .bool d] w fun e w' => e = .returned (.tuple #[.int .i64 0, .int .i64 1]) ∧ Ext w w' := by
 go_enter Try.func31, Try.ntmps31
 go_wp2
 go_ret2
 exact ⟨rfl, (Ext.refl w).alloc _⟩
theorem nil_vote (id : TxI) (sh : Int) (y : Bool) (w : World) : Calls Try.prog 11 #[.pointer none, .agg #[.int .i64 id.node, .int .i64 id.boot, .int .i64 id.n], .int .i64 sh, .bool y] w fun e w' => e = .returned (.tuple #[.slice none 0 0, .int .i64 1]) ∧ Ext w w' := by
 have H := fun W => nil_at id false W
 go_enter Try.func11, Try.ntmps11
 go_wp2_with fail
 refine (H _).mono ?_
 rintro e w1 ⟨rfl, hx⟩
 go_wp2
 go_ret2
 exact ⟨rfl, ((Ext.refl w).alloc _).trans hx⟩
theorem nil_ack (id : TxI) (sh : Int) (w : World) : Calls Try.prog 12 #[.pointer none, .agg #[.int .i64 id.node, .int .i64 id.boot, .int .i64 id.n], .int .i64 sh] w fun e w' => e = .returned (.tuple #[.slice none 0 0, .int .i64 1]) ∧ Ext w w' := by
 have H := fun W => nil_at id true W
 go_enter Try.func12, Try.ntmps12
 go_wp2_with fail
 refine (H _).mono ?_
 rintro e w1 ⟨rfl, hx⟩
 go_wp2
 go_ret2
 exact ⟨rfl, ((Ext.refl w).alloc _).trans hx⟩
theorem nil_drop (id : TxI) (w : World) : Calls Try.prog 14 #[.pointer none, .agg #[.int .i64 id.node, .int .i64 id.boot, .int .i64 id.n]] w fun e w' => e = .returned (.int .i64 1) ∧ Ext w w' := by
 have H := fun W => nil_at id false W
 go_enter Try.func14, Try.ntmps14
 go_wp2_with fail
 refine (H _).mono ?_
 rintro e w1 ⟨rfl, hx⟩
 go_wp2
 go_ret
 exact ⟨rfl, ((Ext.refl w).alloc _).trans hx⟩
theorem nil_redo (A : Option Addr) (n c : Nat) (w : World) : Calls Try.prog 8 #[.pointer none, .slice A n c] w fun e w' => e = .returned (.int .i64 1) ∧ Ext w w' := by
 go_enter Try.func8, Try.ntmps8
 go_wp2
 go_ret
 exact ⟨rfl, Ext.refl _⟩
theorem nil_ask (id : TxI) (w : World) : Calls Try.prog 15 #[.pointer none, .agg #[.int .i64 id.node, .int .i64 id.boot, .int .i64 id.n]] w fun e w' => e = .returned (.int .i64 0) ∧ Ext w w' := by
 obtain ⟨wa, hwa⟩ : ∃ wa, wa = w.alloc (.cells #[.int .i64 id.node, .int .i64 id.boot, .int .i64 id.n] 35) := ⟨_, rfl⟩
 have hxa : Ext w wa := by rw [hwa]; exact (Ext.refl w).alloc _
 have hwaA := hwa.symm
 clear hwa
 have hxd := hxa.drew
 go_enter Try.func15, Try.ntmps15
 go_wp2_with fail
 clear hwaA
 refine wp_region_phase (S := fun w' => Ext w w') 47 (by kernel_rfl) (by kernel_rfl) ?_ (fun hHeld => ?_)
 ·exact hxd
 simp only [List.drop_succ_cons, List.drop_zero]
 refine name_head ?_
 intro wr0 hw0
 rw [hw0] at hHeld
 refine wt 0 _ ?_
 simp only [red, Act.put]
 refine wt 1 _ ?_
 simp only [red, Act.put]
 refine wt 2 _ ?_
 simp only [red, Act.put]
 refine ws 3 ?_
 simp only [red, Act.put]
 refine ws 4 ?_
 simp only [red, Act.put]
 refine ws 5 ?_
 simp only [red, Act.put]
 refine ws 6 ?_
 simp only [red, Act.put]
 refine ws 7 ?_
 simp only [red, Act.put]
 refine ws 8 ?_
 simp only [red, Act.put]
 refine ws 9 ?_
 simp only [red, Act.put]
 refine wt 10 _ ?_
 simp only [red, Act.put]
 refine wt 11 _ ?_
 simp only [red, Act.put]
 refine ws 12 ?_
 simp only [red, Act.put]
 refine ws 13 ?_
 simp only [red, Act.put]
 refine ws 14 ?_
 simp only [red, Act.put]
 refine wt 15 _ ?_
 simp only [red, Act.put]
 refine wt 16 _ ?_
 simp only [red, Act.put]
 refine ws 17 ?_
 simp only [red, Act.put]
 refine ws 18 ?_
 simp only [red, Act.put]
 refine ws 19 ?_
 simp only [red, Act.put]
 refine ws 20 ?_
 simp only [red, Act.put]
 refine ws 21 ?_
 simp only [red, Act.put]
 refine ws 22 ?_
 simp only [red, Act.put]
 refine ws 23 ?_
 simp only [red, Act.put]
 refine wt 24 _ ?_
 simp only [red, Act.put]
 refine wt 25 _ ?_
 simp only [red, Act.put]
 refine ws 26 ?_
 simp only [red, Act.put]
 refine ws 27 ?_
 simp only [red, Act.put]
 refine ws 28 ?_
 simp only [red, Act.put]
 refine wt 29 _ ?_
 simp only [red, Act.put]
 refine wt 30 _ ?_
 simp only [red, Act.put]
 refine ws 31 ?_
 simp only [red, Act.put]
 refine ws 32 ?_
 simp only [red, Act.put]
 refine ws 33 ?_
 simp only [red, Act.put]
 refine ws 34 ?_
 simp only [red, Act.put]
 refine ws 35 ?_
 simp only [red, Act.put]
 refine ws 36 ?_
 simp only [red, Act.put]
 refine ws 37 ?_
 simp only [red, Act.put]
 refine ws 38 ?_
 simp only [red, Act.put]
 refine ws 39 ?_
 simp only [red, Act.put]
 refine ws 40 ?_
 simp only [red, Act.put]
 refine ws 41 ?_
 simp only [red, Act.put]
 refine ws 42 ?_
 simp only [red, Act.put]
 refine ws 43 ?_
 simp only [red, Act.put]
 refine ws 44 ?_
 simp only [red, Act.put]
 refine ws 45 ?_
 simp only [red, Act.put]
 refine ws 46 ?_
 simp only [red, Act.put]
 refine wpHead_done (by kernel_rfl) ?_
 have HXJ := Lib.hid hHeld
 generalize wr0 = wj at *
 clear hxd hHeld
 go_wp2
 go_ret
 exact ⟨rfl, HXJ.out⟩
theorem nil_todo (w : World) : Calls Try.prog 25 #[.pointer none] w fun e w' => e = .returned (.slice none 0 0) ∧ Ext w w' := by
 go_enter Try.func25, Try.ntmps25
 go_wp2
 go_ret
 exact ⟨rfl, Ext.refl _⟩
theorem nil_snap (w : World) : Calls Try.prog 20 #[.pointer none] w fun e w' => e = .returned (.slice none 0 0) ∧ Ext w w' := by
 go_enter Try.func20, Try.ntmps20
 go_wp2
 go_ret
 exact ⟨rfl, Ext.refl _⟩
theorem nil_fork (w : World) : Calls Try.prog 17 #[.pointer none] w fun e w' => e = .returned (.pointer none) ∧ Ext w w' := by
 go_enter Try.func17, Try.ntmps17
 go_wp2
 go_ret
 exact ⟨rfl, Ext.refl _⟩
set_option maxHeartbeats 1000000 in
theorem nil_begin (A : Option Addr) (n c : Nat) (w : World) : Calls Try.prog 10 #[.pointer none, .slice A n c] w fun e w' => e = .returned (.tuple #[.agg #[.int .i64 0, .int .i64 0, .int .i64 0], .int .i64 1]) ∧ Ext w w' := by
 go_enter Try.func10, Try.ntmps10
 go_wp2_with (with_reducible refine sA 35 ?_)
 refine go_on (wpList_alloc_ rfl rfl apitx_info ?_)
 generalize hwa : w.alloc (.cells #[.int .i64 0, .int .i64 0, .int .i64 0] 35) = wa
 have hxa : Ext w wa := hwa ▸ (Ext.refl w).alloc _
 have HRA : Hid (wa.heap[w.heap.size]? = some (.cells #[.int .i64 0, .int .i64 0, .int .i64 0] 35 (0, 0))) := Lib.hid (hwa ▸ heap_alloc_new w _)
 clear hwa
 go_wp2_with (with_reducible refine sS 35 ?_)
 refine go_on (wpList_store_whole rfl rfl rfl rfl HRA.out (apitx_size 0 0 0) rfl (by simp [Value.oneCell']) ?_)
 intro W hrow hkW _
 have HXW := Lib.hid (hxa.kept hkW (one_ge (Nat.le_refl _)))
 clear hkW
 go_wp2
 ((try simp only [Exit.inBlock, Exit.then]); refine bodyPost_ret (results_cell1 rfl _ _ w.heap.size _ _ _ _ rfl hrow Try.underlying35 rfl (by kernel_rfl)) rfl ?_)
 exact ⟨rfl, HXW.out⟩
end Go.Proofs.Ytijopcdjlpafdaa
