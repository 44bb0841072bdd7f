/- The walks of the reference's SameVote and Same at messages that are the same: they answer true. Conditions: the hypotheses of each theorem. -/
import Derived.Test.YthlppbbejdeeoaaGreatDoorC3
import Derived.Test.YthlppbbejdeeoaaGreatDoorWrCM
import Derived.Deep.Cut
import Derived.Deep.CutRange
namespace Go.Proofs.YthlppbbejdeeoaaGreatDoor
open Go.RowKit
set_option maxRecDepth 20000 in
set_option maxHeartbeats 4000000 in
theorem SameVote_any (m : Ml) (An An' Av Av' : Option Addr) (cn cn' cv cv' : Nat) (w : World) (hN : Sl w An (doV m.nums)) (hN' : Sl w An' (doV m.nums)) (hV : Bs w Av m.vbytes) (hV' : Bs w Av' m.vbytes) (hl : m.nums.length ≤ 140737488351232) :
 Calls Tryz.prog 28 #[.agg (voC m (.slice An m.nums.length cn) (.slice Av m.vbytes.length cv)), .agg (voC m (.slice An' m.nums.length cn') (.slice Av' m.vbytes.length cv'))] w fun e w' => e = .returned (.bool true) ∧ Ext w w' := by
 obtain ⟨_, _, _, _, _, _, _, _, er, nums, su, sh, se, vb, _, _, _, _⟩ := m
 unfold voC
 simp only at *
 obtain ⟨wl, hwl⟩ : ∃ wl, wl = (w.alloc (.cells #[.int .i64 er, .slice An nums.length cn, .string (st su), .int .i64 sh, .int .i64 se, .slice Av vb.length cv] 34)).alloc (.cells #[.int .i64 er, .slice An' nums.length cn', .string (st su), .int .i64 sh, .int .i64 se, .slice Av' vb.length cv'] 34) := ⟨_, rfl⟩
 have hx0 : Ext w wl := by rw [hwl]; exact ((Ext.refl w).alloc _).alloc _
 have hrow1 : wl.heap[w.heap.size]? = some (.cells #[.int .i64 er, .slice An nums.length cn, .string (st su), .int .i64 sh, .int .i64 se, .slice Av vb.length cv] 34 (0, 0)) := by rw [hwl]; exact ((Ext.refl _).alloc _).obj (heap_alloc_new w _)
 have hrow2 : wl.heap[w.heap.size + 1]? = some (.cells #[.int .i64 er, .slice An' nums.length cn', .string (st su), .int .i64 sh, .int .i64 se, .slice Av' vb.length cv'] 34 (0, 0)) := by
  have := heap_alloc_new (w.alloc (.cells #[.int .i64 er, .slice An nums.length cn, .string (st su), .int .i64 sh, .int .i64 se, .slice Av vb.length cv] 34)) (.cells #[.int .i64 er, .slice An' nums.length cn', .string (st su), .int .i64 sh, .int .i64 se, .slice Av' vb.length cv'] 34)
  rw [hwl]; simpa using this
 have A1 := row_e hrow1 1 _ rfl
 have A5 := row_e hrow1 5 _ rfl
 have B1 := row_e hrow2 1 _ rfl
 have B5 := row_e hrow2 5 _ rfl
 have HM1 : wl.rangeAt w.heap.size 2 [.string (st su), .int .i64 sh, .int .i64 se] := World.rangeAt_of_block hrow1 2 3
 have HM2 : wl.rangeAt (w.heap.size + 1) 2 [.string (st su), .int .i64 sh, .int .i64 se] := World.rangeAt_of_block hrow2 2 3
 have s1 := run_str (P := Tryz.prog) Tryz.underlying22 Tryz.underlying5 Tryz.underlying9 hV vb.length cv rfl
 have s2 := run_str (P := Tryz.prog) Tryz.underlying22 Tryz.underlying5 Tryz.underlying9 hV' vb.length cv' rfl
 have hS1 := hN.ext hx0
 have hS2 := hN'.ext hx0
 have HWL := Lib.hid hwl
 clear hwl hrow1 hrow2 hN hN' hV hV'
 go_enter Tryz.func28, Tryz.ntmps28
 go_wp2_with (with_reducible refine sL 32 ?_)
 rw [← HWL.out]
 refine go_on (wpList_load_midG (by rfl) 32 _ rfl w.heap.size 2 rfl _ _ HM1 Tryz.underlying32 rfl (by kernel_rfl) ?_)
 go_wp2_with (with_reducible refine sL 32 ?_)
 refine go_on (wpList_load_midG (by rfl) 32 _ rfl (w.heap.size + 1) 2 rfl _ _ HM2 Tryz.underlying32 rfl (by kernel_rfl) ?_)
 clear HM1 HM2
 go_wp2
 go_loopw [5] (fun iv wr => ∃ k : Nat, iv = .int .i64 k ∧ k ≤ (nums).length ∧ Ext wl wr) (fun iv _ => (nums).length - (intOf iv).toNat)
 case atStart => exact ⟨0, rfl, by omega, Ext.refl _⟩
 case round =>
  obtain ⟨k, rfl, hkl, hx⟩ := hrel
  by_cases hlt : k < (nums).length
  ·obtain ⟨ad, rfl, hc⟩ := hS1.at_ (doV_get hlt)
   obtain ⟨ad', rfl, hc'⟩ := hS2.at_ (doV_get hlt)
   have hk0 : (0 : Int) ≤ (k : Int) := by omega
   have hlt2 : (k : Int) < ((nums).length : Int) := by omega
   generalize (nums)[k] = x at *
   clear hS1 hS2
   go_wp2_with fail
   go_quiet (fail)
   go_wp2
   go_roundw
   case rel => exact ⟨k + 1, by go_num, by omega, hx.drewN _⟩
   case measure => simp [intOf]; omega
  ·have hlt2 : ¬ (k : Int) < ((nums).length : Int) := by omega
   clear hS1 hS2
   (go_wp2; go_ret; exact ⟨rfl, hx0.trans hx⟩)
set_option maxRecDepth 20000 in
set_option maxHeartbeats 8000000 in
theorem MSame_any (m : Ml) (Ap Ad Ae An Av Ap' Ad' Ae' An' Av' : Option Addr) (cp cd ce cn cv cp' cd' ce' cn' cv' : Nat) (w : World)
 (hP : Sl w Ap (doV m.peers)) (hE : Sl w Ae (doV m.epochs)) (hN : Sl w An (doV m.nums)) (hV : Bs w Av m.vbytes) (hD : RsM RDd 10 [] w Ad m.deeds)
 (hP' : Sl w Ap' (doV m.peers)) (hE' : Sl w Ae' (doV m.epochs)) (hN' : Sl w An' (doV m.nums)) (hV' : Bs w Av' m.vbytes) (hD' : RsM RDd 10 [] w Ad' m.deeds)
 (hlp : m.peers.length ≤ 140737488351232) (hdl : m.deeds.length ≤ 140737488351232) (hle : m.epochs.length ≤ 140737488351232) (hln : m.nums.length ≤ 140737488351232) :
 Calls Tryz.prog 10 #[.agg (mlC m (.slice Ap m.peers.length cp) (.slice Ad m.deeds.length cd) (.slice Ae m.epochs.length ce) (.slice An m.nums.length cn) (.slice Av m.vbytes.length cv)),
  .agg (mlC m (.slice Ap' m.peers.length cp') (.slice Ad' m.deeds.length cd') (.slice Ae' m.epochs.length ce') (.slice An' m.nums.length cn') (.slice Av' m.vbytes.length cv'))] w fun e w' => e = .returned (.bool true) ∧ Ext w w' := by
 have HSV := fun W (hx : Ext w W) => SameVote_any m An An' Av Av' cn cn' cv cv' W (hN.ext hx) (hN'.ext hx) (hV.ext hx) (hV'.ext hx) hln
 obtain ⟨kind, src, dst, ⟨t1, t2, t3⟩, ⟨p1, p2, p3⟩, peers, deeds, epochs, er, nums, su, sh, se, vb, fate, us, ue, nn⟩ := m
 unfold voC at HSV
 unfold mlC
 simp only at *
 obtain ⟨wl, hwl⟩ : ∃ wl, wl = (w.alloc (.cells #[.int .i64 kind, .int .i64 src, .int .i64 dst, .int .i64 t1, .int .i64 t2, .int .i64 t3, .int .i64 p1, .int .i64 p2, .int .i64 p3, .slice Ap peers.length cp, .slice Ad deeds.length cd, .slice Ae epochs.length ce, .int .i64 er, .slice An nums.length cn, .string (st su), .int .i64 sh, .int .i64 se, .slice Av vb.length cv, .int .i64 fate, .string (st us), .int .i64 ue, .int .i64 nn] 37)).alloc (.cells #[.int .i64 kind, .int .i64 src, .int .i64 dst, .int .i64 t1, .int .i64 t2, .int .i64 t3, .int .i64 p1, .int .i64 p2, .int .i64 p3, .slice Ap' peers.length cp', .slice Ad' deeds.length cd', .slice Ae' epochs.length ce', .int .i64 er, .slice An' nums.length cn', .string (st su), .int .i64 sh, .int .i64 se, .slice Av' vb.length cv', .int .i64 fate, .string (st us), .int .i64 ue, .int .i64 nn] 37) := ⟨_, rfl⟩
 have hx0 : Ext w wl := by rw [hwl]; exact ((Ext.refl w).alloc _).alloc _
 have hrow1 : wl.heap[w.heap.size]? = some (.cells #[.int .i64 kind, .int .i64 src, .int .i64 dst, .int .i64 t1, .int .i64 t2, .int .i64 t3, .int .i64 p1, .int .i64 p2, .int .i64 p3, .slice Ap peers.length cp, .slice Ad deeds.length cd, .slice Ae epochs.length ce, .int .i64 er, .slice An nums.length cn, .string (st su), .int .i64 sh, .int .i64 se, .slice Av vb.length cv, .int .i64 fate, .string (st us), .int .i64 ue, .int .i64 nn] 37 (0, 0)) := by rw [hwl]; exact ((Ext.refl _).alloc _).obj (heap_alloc_new w _)
 have hrow2 : wl.heap[w.heap.size + 1]? = some (.cells #[.int .i64 kind, .int .i64 src, .int .i64 dst, .int .i64 t1, .int .i64 t2, .int .i64 t3, .int .i64 p1, .int .i64 p2, .int .i64 p3, .slice Ap' peers.length cp', .slice Ad' deeds.length cd', .slice Ae' epochs.length ce', .int .i64 er, .slice An' nums.length cn', .string (st su), .int .i64 sh, .int .i64 se, .slice Av' vb.length cv', .int .i64 fate, .string (st us), .int .i64 ue, .int .i64 nn] 37 (0, 0)) := by
  have := heap_alloc_new (w.alloc (.cells #[.int .i64 kind, .int .i64 src, .int .i64 dst, .int .i64 t1, .int .i64 t2, .int .i64 t3, .int .i64 p1, .int .i64 p2, .int .i64 p3, .slice Ap peers.length cp, .slice Ad deeds.length cd, .slice Ae epochs.length ce, .int .i64 er, .slice An nums.length cn, .string (st su), .int .i64 sh, .int .i64 se, .slice Av vb.length cv, .int .i64 fate, .string (st us), .int .i64 ue, .int .i64 nn] 37)) (.cells #[.int .i64 kind, .int .i64 src, .int .i64 dst, .int .i64 t1, .int .i64 t2, .int .i64 t3, .int .i64 p1, .int .i64 p2, .int .i64 p3, .slice Ap' peers.length cp', .slice Ad' deeds.length cd', .slice Ae' epochs.length ce', .int .i64 er, .slice An' nums.length cn', .string (st su), .int .i64 sh, .int .i64 se, .slice Av' vb.length cv', .int .i64 fate, .string (st us), .int .i64 ue, .int .i64 nn] 37)
  rw [hwl]; simpa using this
 have A6 := row_e hrow1 18 (.int .i64 fate) rfl
 have A7 := row_e hrow1 19 (.string (st us)) rfl
 have A8 := row_e hrow1 20 (.int .i64 ue) rfl
 have A9 := row_e hrow1 21 (.int .i64 nn) rfl
 have B6 := row_e hrow2 18 (.int .i64 fate) rfl
 have B7 := row_e hrow2 19 (.string (st us)) rfl
 have B8 := row_e hrow2 20 (.int .i64 ue) rfl
 have B9 := row_e hrow2 21 (.int .i64 nn) rfl
 have T1 : wl.rangeAt w.heap.size 3 [.int .i64 t1, .int .i64 t2, .int .i64 t3] := World.rangeAt_of_block hrow1 3 3
 have T2 : wl.rangeAt (w.heap.size + 1) 3 [.int .i64 t1, .int .i64 t2, .int .i64 t3] := World.rangeAt_of_block hrow2 3 3
 have V1 : wl.rangeAt w.heap.size 12 [.int .i64 er, .slice An nums.length cn, .string (st su), .int .i64 sh, .int .i64 se, .slice Av vb.length cv] := World.rangeAt_of_block hrow1 12 6
 have V2 : wl.rangeAt (w.heap.size + 1) 12 [.int .i64 er, .slice An' nums.length cn', .string (st su), .int .i64 sh, .int .i64 se, .slice Av' vb.length cv'] := World.rangeAt_of_block hrow2 12 6
 have P1 : ∀ W, Ext wl W → W.rangeAt w.heap.size 6 [.int .i64 p1, .int .i64 p2, .int .i64 p3, .slice Ap peers.length cp, .slice Ad deeds.length cd, .slice Ae epochs.length ce] := fun W hx => World.rangeAt_of_block (hx.obj hrow1) 6 6
 have P2 : ∀ W, Ext wl W → W.rangeAt (w.heap.size + 1) 6 [.int .i64 p1, .int .i64 p2, .int .i64 p3, .slice Ap' peers.length cp', .slice Ad' deeds.length cd', .slice Ae' epochs.length ce'] := fun W hx => World.rangeAt_of_block (hx.obj hrow2) 6 6
 have HSA := fun W (hx : Ext w W) => DSameAll_any deeds Ad Ad' cd cd' W (hD.kept (.of_ext hx)) (hD'.kept (.of_ext hx)) hdl
 have HWL := Lib.hid hwl
 clear hwl hrow1 hrow2 hN hN' hV hV' hD hD'
 go_enter Tryz.func10, Tryz.ntmps10
 go_wp2_with (with_reducible refine sL 25 ?_)
 rw [← HWL.out]
 refine go_on (wpList_load_midG (by rfl) 25 _ rfl w.heap.size 3 rfl _ _ T1 Tryz.underlying25 rfl (by kernel_rfl) ?_)
 go_wp2_with (with_reducible refine sL 25 ?_)
 refine go_on (wpList_load_midG (by rfl) 25 _ rfl (w.heap.size + 1) 3 rfl _ _ T2 Tryz.underlying25 rfl (by kernel_rfl) ?_)
 go_wp2_with (with_reducible refine sL 34 ?_)
 refine go_on (wpList_load_midG (by rfl) 34 _ rfl w.heap.size 12 rfl _ _ V1 Tryz.underlying34 rfl (by kernel_rfl) ?_)
 go_wp2_with (with_reducible refine sL 34 ?_)
 refine go_on (wpList_load_midG (by rfl) 34 _ rfl (w.heap.size + 1) 12 rfl _ _ V2 Tryz.underlying34 rfl (by kernel_rfl) ?_)
 clear T1 T2 V1 V2
 go_wp2_with fail
 refine (HSV wl hx0).mono ?_
 rintro e w2 ⟨rfl, hx2⟩
 have hx02 := hx0.trans hx2
 clear HSV A6 A7 A8 A9 B6 B7 B8 B9
 go_upto_region 3 with fail
 go_cut [5, 6] from 71 to 74 (fun a b wx => ∃ g1 g2 : Nat, a = .pointer (some ⟨g1, 0, none⟩) ∧ b = .pointer (some ⟨g2, 0, none⟩) ∧ wx.heap[g1]? = some (.cells ([.int .i64 p1, .int .i64 p2, .int .i64 p3, .slice Ap peers.length cp, .slice Ad deeds.length cd, .slice Ae epochs.length ce]).toArray 29 (0, 0)) ∧ wx.heap[g2]? = some (.cells ([.int .i64 p1, .int .i64 p2, .int .i64 p3, .slice Ap' peers.length cp', .slice Ad' deeds.length cd', .slice Ae' epochs.length ce']).toArray 29 (0, 0)) ∧ Ext w2 wx)
 case first =>
  have hd0 : Ext w2 w2.drew := (Ext.refl w2).drew
  refine wp_region_phase (S := fun w' => Ext w2 w') 7 (by kernel_rfl) (by kernel_rfl) ?_ (fun hHeld => ?_)
  ·exact hd0
  simp only [List.drop_succ_cons, List.drop_zero]
  refine name_head ?_
  intro wr0 hw0
  rw [hw0] at hHeld
  refine wt 0 _ ?_
  simp only [red, Act.put]
  refine wy 1 (v := .agg ([.int .i64 p1, .int .i64 p2, .int .i64 p3, .slice Ap peers.length cp, .slice Ad deeds.length cd, .slice Ae epochs.length ce]).toArray) (by rfl) (by exact yieldsIf_load_mid (by rfl) 29 _ rfl w.heap.size 6 rfl [.int .i64 p1, .int .i64 p2, .int .i64 p3, .slice Ap peers.length cp, .slice Ad deeds.length cd, .slice Ae epochs.length ce] _ (fun w' h => P1 w' (hx2.trans h)) Tryz.underlying29 rfl (by kernel_rfl)) ?_
  simp only [red, Act.put]
  refine wt 2 _ ?_
  simp only [red, Act.put]
  refine wy 3 (v := .agg ([.int .i64 p1, .int .i64 p2, .int .i64 p3, .slice Ap' peers.length cp', .slice Ad' deeds.length cd', .slice Ae' epochs.length ce']).toArray) (by rfl) (by exact yieldsIf_load_mid (by rfl) 29 _ rfl (w.heap.size + 1) 6 rfl [.int .i64 p1, .int .i64 p2, .int .i64 p3, .slice Ap' peers.length cp', .slice Ad' deeds.length cd', .slice Ae' epochs.length ce'] _ (fun w' h => P2 w' (hx2.trans h)) Tryz.underlying29 rfl (by kernel_rfl)) ?_
  simp only [red, Act.put]
  refine rd [4, 5] ?_
  refine ac (fun K hK => ?_) ?_
  ·go_simp
   refine name_world ?_
   rintro wr4 hw4
   have hxn4 : Ext wr0 wr4 := hw4 ▸ (Ext.refl _).alloc _
   have hrow4 : wr4.heap[wr0.heap.size]? = some (.cells #[.int .i64 0, .int .i64 0, .int .i64 0, .slice none 0 0, .slice none 0 0, .slice none 0 0] 29 (0, 0)) := hw4 ▸ heap_alloc_new wr0 _
   have hs4 := hHeld.size
   refine hK.out _ _ ?_ (fun hHeld => ?_)
   ·exact hHeld.trans hxn4
   clear hK K
   try simp only [red, Act.put]
   refine rd [5] ?_
   refine ac (fun K hK => ?_) ?_
   ·go_simp
    refine name_world ?_
    rintro wr5 hw5
    have hxn5 : Ext wr4 wr5 := hw5 ▸ (Ext.refl _).alloc _
    have hrow5 : wr5.heap[wr4.heap.size]? = some (.cells #[.int .i64 0, .int .i64 0, .int .i64 0, .slice none 0 0, .slice none 0 0, .slice none 0 0] 29 (0, 0)) := hw5 ▸ heap_alloc_new wr4 _
    have hs5 := hHeld.size
    refine hK.out _ _ ?_ (fun hHeld => ?_)
    ·exact hHeld.trans hxn5
    clear hK K
    try simp only [red, Act.put]
    refine rd [6] ?_
    refine ac (fun K hK => ?_) ?_
    ·refine step_store_whole (c := #[.int .i64 0, .int .i64 0, .int .i64 0, .slice none 0 0, .slice none 0 0, .slice none 0 0]) (c' := ([.int .i64 p1, .int .i64 p2, .int .i64 p3, .slice Ap peers.length cp, .slice Ad deeds.length cd, .slice Ae epochs.length ce]).toArray) (by rfl) rfl rfl rfl (by first | exact hrow4 | exact hxn5.obj hrow4) (by kernel_rfl) rfl (by simp [Value.oneCell']) ?_
     intro wr6 hrow6 hk6 _
     refine hK.out _ _ ?_ (fun hHeld => ?_)
     ·exact hHeld.kept hk6 (by intro k hk; simp at hk; omega)
     clear hK K
     try simp only [red, Act.put]
     refine wpHead_done (by kernel_rfl) ?_
     have h4l := obj_lt hrow4
     have h5l := obj_lt hrow5
     have hr5 := hk6.heap (by first | exact hrow5 | exact hxn4.obj hrow5) (by simp; omega)
     refine wpList_store_whole (c := #[.int .i64 0, .int .i64 0, .int .i64 0, .slice none 0 0, .slice none 0 0, .slice none 0 0]) (c' := ([.int .i64 p1, .int .i64 p2, .int .i64 p3, .slice Ap' peers.length cp', .slice Ad' deeds.length cd', .slice Ae' epochs.length ce']).toArray) rfl rfl rfl rfl hr5 (by kernel_rfl) rfl (by simp [Value.oneCell']) ?_
     intro wz hrowz hkz _
     have hg1 := hkz.heap hrow6 (by simp; omega)
     have hxz := hHeld.kept hkz (by intro k hk; simp at hk; omega)
     clear hrow4 hrow5 hrow6 hr5 hk6 hxn4 hxn5 hw0 h4l h5l
     go_wp2_with fail
     go_meet
     exact ⟨_, _, rfl, rfl, hg1, hrowz, hxz⟩
    exact AllHead.nil
   exact AllHead.nil
  refine ac (fun K hK => ?_) ?_
  ·go_simp
   refine name_world ?_
   rintro wr5 hw5
   have hxn5 : Ext wr0 wr5 := hw5 ▸ (Ext.refl _).alloc _
   have hrow5 : wr5.heap[wr0.heap.size]? = some (.cells #[.int .i64 0, .int .i64 0, .int .i64 0, .slice none 0 0, .slice none 0 0, .slice none 0 0] 29 (0, 0)) := hw5 ▸ heap_alloc_new wr0 _
   have hs5 := hHeld.size
   refine hK.out _ _ ?_ (fun hHeld => ?_)
   ·exact hHeld.trans hxn5
   clear hK K
   try simp only [red, Act.put]
   refine rd [4] ?_
   refine ac (fun K hK => ?_) ?_
   ·go_simp
    refine name_world ?_
    rintro wr4 hw4
    have hxn4 : Ext wr5 wr4 := hw4 ▸ (Ext.refl _).alloc _
    have hrow4 : wr4.heap[wr5.heap.size]? = some (.cells #[.int .i64 0, .int .i64 0, .int .i64 0, .slice none 0 0, .slice none 0 0, .slice none 0 0] 29 (0, 0)) := hw4 ▸ heap_alloc_new wr5 _
    have hs4 := hHeld.size
    refine hK.out _ _ ?_ (fun hHeld => ?_)
    ·exact hHeld.trans hxn4
    clear hK K
    try simp only [red, Act.put]
    refine rd [6] ?_
    refine ac (fun K hK => ?_) ?_
    ·refine step_store_whole (c := #[.int .i64 0, .int .i64 0, .int .i64 0, .slice none 0 0, .slice none 0 0, .slice none 0 0]) (c' := ([.int .i64 p1, .int .i64 p2, .int .i64 p3, .slice Ap peers.length cp, .slice Ad deeds.length cd, .slice Ae epochs.length ce]).toArray) (by rfl) rfl rfl rfl (by first | exact hrow4 | exact hxn5.obj hrow4) (by kernel_rfl) rfl (by simp [Value.oneCell']) ?_
     intro wr6 hrow6 hk6 _
     refine hK.out _ _ ?_ (fun hHeld => ?_)
     ·exact hHeld.kept hk6 (by intro k hk; simp at hk; omega)
     clear hK K
     try simp only [red, Act.put]
     refine wpHead_done (by kernel_rfl) ?_
     have h4l := obj_lt hrow4
     have h5l := obj_lt hrow5
     have hr5 := hk6.heap (by first | exact hrow5 | exact hxn4.obj hrow5) (by simp; omega)
     refine wpList_store_whole (c := #[.int .i64 0, .int .i64 0, .int .i64 0, .slice none 0 0, .slice none 0 0, .slice none 0 0]) (c' := ([.int .i64 p1, .int .i64 p2, .int .i64 p3, .slice Ap' peers.length cp', .slice Ad' deeds.length cd', .slice Ae' epochs.length ce']).toArray) rfl rfl rfl rfl hr5 (by kernel_rfl) rfl (by simp [Value.oneCell']) ?_
     intro wz hrowz hkz _
     have hg1 := hkz.heap hrow6 (by simp; omega)
     have hxz := hHeld.kept hkz (by intro k hk; simp at hk; omega)
     clear hrow4 hrow5 hrow6 hr5 hk6 hxn4 hxn5 hw0 h4l h5l
     go_wp2_with fail
     go_meet
     exact ⟨_, _, rfl, rfl, hg1, hrowz, hxz⟩
    exact AllHead.nil
   exact AllHead.nil
  exact AllHead.nil
 case rest =>
 obtain ⟨g1, g2, rfl, rfl, hg1, hg2, hx3⟩ := hcut
 have hx03 := hx02.trans hx3
 have X1 := row_e hg1 3 (.slice Ap peers.length cp) rfl
 have X2 := row_e hg1 4 (.slice Ad deeds.length cd) rfl
 have X3 := row_e hg1 5 (.slice Ae epochs.length ce) rfl
 have Y1 := row_e hg2 3 (.slice Ap' peers.length cp') rfl
 have Y2 := row_e hg2 4 (.slice Ad' deeds.length cd') rfl
 have Y3 := row_e hg2 5 (.slice Ae' epochs.length ce') rfl
 have R1 : wc.rangeAt g1 0 [.int .i64 p1, .int .i64 p2, .int .i64 p3] := World.rangeAt_of_block hg1 0 3
 have R2 : wc.rangeAt g2 0 [.int .i64 p1, .int .i64 p2, .int .i64 p3] := World.rangeAt_of_block hg2 0 3
 have hS1 := hP.ext hx03
 have hS2 := hP'.ext hx03
 clear hg1 hg2 P1 P2 hx3 hP hP'
 go_wp2_with (with_reducible refine sL 25 ?_)
 refine go_on (wpList_load_mid rfl 25 _ rfl g1 0 rfl _ _ R1 Tryz.underlying25 rfl (by kernel_rfl) ?_)
 go_wp2_with (with_reducible refine sL 25 ?_)
 refine go_on (wpList_load_mid rfl 25 _ rfl g2 0 rfl _ _ R2 Tryz.underlying25 rfl (by kernel_rfl) ?_)
 clear R1 R2
 go_wp2_with fail
 refine (HSA wc hx03).mono ?_
 rintro e w4 ⟨rfl, hx4⟩
 have hx04 := hx03.trans hx4
 have X1 := fun W hx => X1 W (hx4.trans hx)
 have X3 := fun W hx => X3 W (hx4.trans hx)
 have Y1 := fun W hx => Y1 W (hx4.trans hx)
 have Y3 := fun W hx => Y3 W (hx4.trans hx)
 have hS1 := hS1.ext hx4
 have hS2 := hS2.ext hx4
 clear HSA X2 Y2
 go_wp2
 go_loopw [7] (fun iv wr => ∃ k : Nat, iv = .int .i64 k ∧ k ≤ (peers).length ∧ Ext w4 wr) (fun iv _ => (peers).length - (intOf iv).toNat)
 case atStart => exact ⟨0, rfl, by omega, Ext.refl _⟩
 case round =>
  obtain ⟨k, rfl, hkl, hx⟩ := hrel
  by_cases hlt : k < (peers).length
  ·obtain ⟨ad, rfl, hc⟩ := hS1.at_ (doV_get hlt)
   obtain ⟨ad', rfl, hc'⟩ := hS2.at_ (doV_get hlt)
   have hk0 : (0 : Int) ≤ (k : Int) := by omega
   have hlt2 : (k : Int) < ((peers).length : Int) := by omega
   generalize (peers)[k] = x at *
   clear hS1 hS2
   go_wp2_with fail
   go_quiet (fail)
   go_wp2
   go_roundw
   case rel => exact ⟨k + 1, by go_num, by omega, hx.drewN _⟩
   case measure => simp [intOf]; omega
  ·have hlt2 : ¬ (k : Int) < ((peers).length : Int) := by omega
   clear hS1 hS2
   go_wp2
   have hT1 := hE.ext (hx04.trans hx)
   have hT2 := hE'.ext (hx04.trans hx)
   have hx05 := hx04.trans hx
   have X3 := fun W hx' => X3 W (hx.trans hx')
   have Y3 := fun W hx' => Y3 W (hx.trans hx')
   clear X1 Y1 hE hE' hx hx04 hx03 hx4
   obtain ⟨w5, hw5⟩ : ∃ x, x = wr := ⟨wr, rfl⟩
   subst hw5
   go_loopw [8] (fun iv wr => ∃ k : Nat, iv = .int .i64 k ∧ k ≤ (epochs).length ∧ Ext w5 wr) (fun iv _ => (epochs).length - (intOf iv).toNat)
   case atStart => exact ⟨0, rfl, by omega, Ext.refl _⟩
   case round =>
    obtain ⟨k, rfl, hkl, hx⟩ := hrel
    by_cases hlt : k < (epochs).length
    ·obtain ⟨ad, rfl, hc⟩ := hT1.at_ (doV_get hlt)
     obtain ⟨ad', rfl, hc'⟩ := hT2.at_ (doV_get hlt)
     have hk0 : (0 : Int) ≤ (k : Int) := by omega
     have hlt2 : (k : Int) < ((epochs).length : Int) := by omega
     generalize (epochs)[k] = x at *
     clear hT1 hT2
     go_wp2_with fail
     go_quiet (fail)
     go_wp2
     go_roundw
     case rel => exact ⟨k + 1, by go_num, by omega, hx.drewN _⟩
     case measure => simp [intOf]; omega
    ·have hlt2 : ¬ (k : Int) < ((epochs).length : Int) := by omega
     clear hT1 hT2
     (go_wp2; go_ret; exact ⟨rfl, hx05.trans hx⟩)
end Go.Proofs.YthlppbbejdeeoaaGreatDoor
