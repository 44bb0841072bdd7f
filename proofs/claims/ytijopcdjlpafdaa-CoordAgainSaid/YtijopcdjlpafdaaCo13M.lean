/- The walk of coord.isDone. Conditions: the hypotheses of the theorem. -/
import Derived.Test.YtijopcdjlpafdaaC2
import Derived.Test.YtijopcdjlpafdaaC3
import Derived.Lib.MinMax
namespace Go.Proofs.Ytijopcdjlpafdaa
open Go.RowKit
theorem co_next {M : List Nat} {w : World} {p : Nat} {s : Cs} (h : Co M w p s) (hp : p ∈ M) (n : Int) : Co M (w.setCell ⟨p, 2, none⟩ (.int .i64 n)) p { s with next := n } ∧ Kept [p] w (w.setCell ⟨p, 2, none⟩ (.int .i64 n)) := by
 obtain ⟨A, cap, h⟩ := h
 have hk : Kept [p] w (w.setCell ⟨p, 2, none⟩ (.int .i64 n)) := (Kept.refl _ _).setCell (.inl (by simp)) _
 refine ⟨⟨A, cap, ?_, h.rs.kept (hk.mono (by intro k hk; simp at hk; subst hk; exact hp))⟩, hk⟩
 have := heap_setCell_same w p 2 _ _ (.int .i64 n) h.row
 simpa using this
set_option maxRecDepth 20000 in
set_option maxHeartbeats 4000000 in
theorem CIsDone_any {M : List Nat} {w : World} {p : Nat} {s : Cs} (h : Co M w p s) (hs : s.Ok) (hp : p ∈ M) (hM : ∀ k ∈ M, k < w.heap.size) (id : TxI) (hn1 : 1 ≤ id.n) (hn2 : id.n ≤ 2147483647) (A2 : Option Addr) (c2 : Nat) (sh : List Int) (hsh : SlM M w A2 (ib sh)) (hr : rightF sh = true) :
 Calls Try.prog 34 #[pt p, .agg #[.int .i64 id.node, .int .i64 id.boot, .int .i64 id.n], .slice A2 sh.length c2] w fun e w' => e = .returned (.int .i64 (isDoneO s id sh).1) ∧ Co M w' p (isDoneO s id sh).2 ∧ Kept [p] w w' := by
 have hfew : s.under.length ≤ 1000 := by have := hs.few; omega
 have hshl : sh.length ≤ 4 := (rightF_len hr).2
 have HF := fun W (hx : Ext w W) => cfind_any (h.ext hx) id hfew
 have HCO := Lib.hid h
 have HM := Lib.hid hM
 have HPL := Lib.hid h.lt
 have HSH := Lib.hid hsh
 obtain ⟨A, cap, h⟩ := h
 obtain ⟨c0, c1', c2', c3, cf⟩ := rows4 h.row
 have HH := Lib.hid h
 clear h hM c0
 unfold pt at *
 go_enter Try.func34, Try.ntmps34
 go_wp2_with fail
 generalize hw1 : w.alloc _ = wb
 have hxb : Ext w wb := hw1 ▸ (Ext.refl w).alloc _
 have hIB : TxAt wb w.heap.size id := hw1 ▸ heap_alloc_new w _
 clear hw1
 refine (HF _ hxb).mono ?_
 rintro e w2 ⟨rfl, hx2⟩
 have hxw2 := hxb.trans hx2
 have HIB : Hid (TxAt w2 w.heap.size id) := Lib.hid (hx2.obj hIB)
 obtain ⟨t0, t1, t2, -⟩ := rows3 HIB.out
 have hx20 := Ext.refl w2
 have hxw20 : ∀ W, Ext w2 W → Ext w W := fun W hx => hxw2.trans hx
 have d1 := fun W (hx : Ext w2 W) => c1' W (hxw2.trans hx)
 clear HF hxb hx2 hIB t0 t2 c1'
 by_cases hb : s.boot < id.boot
 ·have q2 : decide (s.boot < id.boot) = true := by simpa using hb
  have HV : Hid (isDoneO s id sh = (13, s)) := Lib.hid (by unfold isDoneO; rw [if_pos hb])
  clear hb c3 cf c2'
  go_wp2_with fail
  have hx2d : Ext w2 w2.drew := hx20.drew
  refine wp_region_phase (S := fun w' => Ext w2 w') 7 (by kernel_rfl) (by kernel_rfl) ?_ (fun hHeld => ?_)
  ·exact hx2d
  simp only [List.drop_succ_cons, List.drop_zero]
  refine name_head ?_
  intro wr0 hw0
  rw [hw0] at hHeld
  refine wt 0 _ ?_
  simp only [red, Act.put]
  refine wt 1 _ ?_
  simp only [red, Act.put]
  refine wt 2 _ ?_
  simp only [red, Act.put]
  refine wt 3 _ ?_
  simp only [red, Act.put]
  refine wt 4 _ ?_
  simp only [red, Act.put]
  refine wt 5 _ ?_
  simp only [red, Act.put]
  refine wt 6 _ ?_
  simp only [red, Act.put]
  refine wpHead_done (by kernel_rfl) ?_
  have HX := Lib.hid (hxw2.trans hHeld)
  go_wp2
  go_ret
  rw [HV.out]
  exact ⟨rfl, HCO.out.ext HX.out, .of_ext HX.out⟩
 ·have q2 : decide (s.boot < id.boot) = false := by simpa using hb
  have HB := Lib.hid hb
  clear hb
  go_wp2_with fail
  have hx2d : Ext w2 w2.drew := hx20.drew
  refine wp_region_phase (S := fun w' => Ext w2 w') 7 (by kernel_rfl) (by kernel_rfl) ?_ (fun hHeld => ?_)
  ·exact hx2d
  simp only [List.drop_succ_cons, List.drop_zero]
  refine name_head ?_
  intro wr0 hw0
  rw [hw0] at hHeld
  refine wt 0 _ ?_
  simp only [red, Act.put]
  refine wt 1 _ ?_
  simp only [red, Act.put]
  refine wt 2 _ ?_
  simp only [red, Act.put]
  refine wt 3 _ ?_
  simp only [red, Act.put]
  refine wt 4 _ ?_
  simp only [red, Act.put]
  refine wt 5 _ ?_
  simp only [red, Act.put]
  refine wt 6 _ ?_
  simp only [red, Act.put]
  refine wpHead_done (by kernel_rfl) ?_
  have hx3 := hHeld
  have hxw3 := hxw2.trans hHeld
  have HIB3 : Hid (TxAt wr0 w.heap.size id) := Lib.hid (hHeld.obj HIB.out)
  generalize wr0 = w3 at *
  clear q2 d1 t1
  have e3 := fun W (hx : Ext w3 W) => c3 W (hxw3.trans hx)
  have hx33 := Ext.refl w3
  cases hf : findT s.under id with
  | none =>
   have hm : idI none = -1 := rfl
   rw [hm]
   clear hm
   have HBAD : Hid (badF s id sh = false) := Lib.hid (by unfold badF; rw [hf])
   by_cases h8 : 8 ≤ s.under.length
   ·have HV : Hid (isDoneO s id sh = (8, s)) := Lib.hid (by unfold isDoneO; rw [if_neg (by have := HB.out; omega), if_neg (by simp [HBAD.out]), if_pos ⟨hf, h8⟩])
    have h8' : (8 : Int) ≤ (s.under.length : Int) := by omega
    clear h8 hf
    go_wp2_with fail
    have hx3d : Ext w3 w3.drew := (Ext.refl _).drew
    refine wp_region_phase (S := fun w' => Ext w3 w') 44 (by kernel_rfl) (by kernel_rfl) ?_ (fun hHeld => ?_)
    ·exact hx3d
    simp only [List.drop_succ_cons, List.drop_zero]
    refine name_head ?_
    intro wr0 hw0
    rw [hw0] at hHeld
    refine wt 0 _ ?_
    simp only [red, Act.put]
    refine wt 1 _ ?_
    simp only [red, Act.put]
    refine wt 2 _ ?_
    simp only [red, Act.put]
    refine ws 3 ?_
    simp only [red, Act.put]
    refine ws 4 ?_
    simp only [red, Act.put]
    refine ws 5 ?_
    simp only [red, Act.put]
    refine ws 6 ?_
    simp only [red, Act.put]
    refine ws 7 ?_
    simp only [red, Act.put]
    refine ws 8 ?_
    simp only [red, Act.put]
    refine ws 9 ?_
    simp only [red, Act.put]
    refine ws 10 ?_
    simp only [red, Act.put]
    refine ws 11 ?_
    simp only [red, Act.put]
    refine ws 12 ?_
    simp only [red, Act.put]
    refine ws 13 ?_
    simp only [red, Act.put]
    refine ws 14 ?_
    simp only [red, Act.put]
    refine ws 15 ?_
    simp only [red, Act.put]
    refine ws 16 ?_
    simp only [red, Act.put]
    refine ws 17 ?_
    simp only [red, Act.put]
    refine ws 18 ?_
    simp only [red, Act.put]
    refine ws 19 ?_
    simp only [red, Act.put]
    refine ws 20 ?_
    simp only [red, Act.put]
    refine ws 21 ?_
    simp only [red, Act.put]
    refine ws 22 ?_
    simp only [red, Act.put]
    refine ws 23 ?_
    simp only [red, Act.put]
    refine ws 24 ?_
    simp only [red, Act.put]
    refine ws 25 ?_
    simp only [red, Act.put]
    refine ws 26 ?_
    simp only [red, Act.put]
    refine ws 27 ?_
    simp only [red, Act.put]
    refine ws 28 ?_
    simp only [red, Act.put]
    refine ws 29 ?_
    simp only [red, Act.put]
    refine ws 30 ?_
    simp only [red, Act.put]
    refine ws 31 ?_
    simp only [red, Act.put]
    refine ws 32 ?_
    simp only [red, Act.put]
    refine ws 33 ?_
    simp only [red, Act.put]
    refine ws 34 ?_
    simp only [red, Act.put]
    refine ws 35 ?_
    simp only [red, Act.put]
    refine ws 36 ?_
    simp only [red, Act.put]
    refine ws 37 ?_
    simp only [red, Act.put]
    refine ws 38 ?_
    simp only [red, Act.put]
    refine ws 39 ?_
    simp only [red, Act.put]
    refine ws 40 ?_
    simp only [red, Act.put]
    refine ws 41 ?_
    simp only [red, Act.put]
    refine ws 42 ?_
    simp only [red, Act.put]
    refine wt 43 _ ?_
    simp only [red, Act.put]
    refine wpHead_done (by kernel_rfl) ?_
    have hxwg := hxw3.trans hHeld
    have HIBG : Hid (TxAt wr0 w.heap.size id) := Lib.hid (hHeld.obj HIB3.out)
    generalize wr0 = wG at *
    have HX := Lib.hid hxwg
    clear HIBG
    go_wp2
    go_ret
    rw [HV.out]
    exact ⟨rfl, HCO.out.ext HX.out, .of_ext HX.out⟩
   ·have HV : Hid (isDoneO s id sh = (0, { s with under := (s.under.filter fun t => decide (t.id ≠ id)) ++ [⟨id, sh, true, [], []⟩], next := if id.boot = s.boot then max s.next (id.n + 1) else s.next })) := Lib.hid (by unfold isDoneO; rw [if_neg (by have := HB.out; omega), if_neg (by simp [HBAD.out]), if_neg (by omega)])
    have h8' : ¬ (8 : Int) ≤ (s.under.length : Int) := by omega
    clear h8 hf
    go_wp2_with fail
    have hx3d : Ext w3 w3.drew := (Ext.refl _).drew
    refine wp_region_phase (S := fun w' => Ext w3 w') 44 (by kernel_rfl) (by kernel_rfl) ?_ (fun hHeld => ?_)
    ·exact hx3d
    simp only [List.drop_succ_cons, List.drop_zero]
    refine name_head ?_
    intro wr0 hw0
    rw [hw0] at hHeld
    refine wt 0 _ ?_
    simp only [red, Act.put]
    refine wt 1 _ ?_
    simp only [red, Act.put]
    refine wt 2 _ ?_
    simp only [red, Act.put]
    refine ws 3 ?_
    simp only [red, Act.put]
    refine ws 4 ?_
    simp only [red, Act.put]
    refine ws 5 ?_
    simp only [red, Act.put]
    refine ws 6 ?_
    simp only [red, Act.put]
    refine ws 7 ?_
    simp only [red, Act.put]
    refine ws 8 ?_
    simp only [red, Act.put]
    refine ws 9 ?_
    simp only [red, Act.put]
    refine ws 10 ?_
    simp only [red, Act.put]
    refine ws 11 ?_
    simp only [red, Act.put]
    refine ws 12 ?_
    simp only [red, Act.put]
    refine ws 13 ?_
    simp only [red, Act.put]
    refine ws 14 ?_
    simp only [red, Act.put]
    refine ws 15 ?_
    simp only [red, Act.put]
    refine ws 16 ?_
    simp only [red, Act.put]
    refine ws 17 ?_
    simp only [red, Act.put]
    refine ws 18 ?_
    simp only [red, Act.put]
    refine ws 19 ?_
    simp only [red, Act.put]
    refine ws 20 ?_
    simp only [red, Act.put]
    refine ws 21 ?_
    simp only [red, Act.put]
    refine ws 22 ?_
    simp only [red, Act.put]
    refine ws 23 ?_
    simp only [red, Act.put]
    refine ws 24 ?_
    simp only [red, Act.put]
    refine ws 25 ?_
    simp only [red, Act.put]
    refine ws 26 ?_
    simp only [red, Act.put]
    refine ws 27 ?_
    simp only [red, Act.put]
    refine ws 28 ?_
    simp only [red, Act.put]
    refine ws 29 ?_
    simp only [red, Act.put]
    refine ws 30 ?_
    simp only [red, Act.put]
    refine ws 31 ?_
    simp only [red, Act.put]
    refine ws 32 ?_
    simp only [red, Act.put]
    refine ws 33 ?_
    simp only [red, Act.put]
    refine ws 34 ?_
    simp only [red, Act.put]
    refine ws 35 ?_
    simp only [red, Act.put]
    refine ws 36 ?_
    simp only [red, Act.put]
    refine ws 37 ?_
    simp only [red, Act.put]
    refine ws 38 ?_
    simp only [red, Act.put]
    refine ws 39 ?_
    simp only [red, Act.put]
    refine ws 40 ?_
    simp only [red, Act.put]
    refine ws 41 ?_
    simp only [red, Act.put]
    refine ws 42 ?_
    simp only [red, Act.put]
    refine wt 43 _ ?_
    simp only [red, Act.put]
    refine wpHead_done (by kernel_rfl) ?_
    have hxwg := hxw3.trans hHeld
    have HIBG : Hid (TxAt wr0 w.heap.size id) := Lib.hid (hHeld.obj HIB3.out)
    generalize wr0 = wG at *
    have HVG : Hid (isDoneO s id sh = (0, { s with under := (s.under.filter fun t => decide (t.id ≠ id)) ++ [⟨id, sh, true, [], []⟩], next := if id.boot = s.boot then max s.next (id.n + 1) else s.next })) := HV
    have hMG : ∀ k ∈ M, k < wG.heap.size := fun k hk => Nat.lt_of_lt_of_le (HM.out k hk) hxwg.size
    have HMG := Lib.hid hMG
    have e3g := c3 _ hxwg
    have HXG := Lib.hid hxwg
    have hip : ¬ w.heap.size = p := by have := HPL.out; omega
    clear hMG
    go_wp2_with fail
    refine (tclone_any _ cap s.under M wG wG (HH.out.rs.kept (.of_ext HXG.out)) (Ext.refl _) (by omega)).mono ?_
    rintro e w7 ⟨v7, rfl, ho7, hx7⟩
    go_wp2_with fail
    refine (tdelf_any 56 #[.pointer (some ⟨w.heap.size, 0, none⟩)] enters_done (fun t => decide (t.id = id)) M wG.heap.size v7 s.under wG w7 ho7 hx7 (Nat.le_refl _) HMG.out (done_tells id _ M wG HIBG.out) hfew).mono ?_
    rintro e w8 ⟨v8, rfl, ho8, hx8⟩
    have hfl : (s.under.filter fun t => !decide (t.id = id)) = s.under.filter fun t => decide (t.id ≠ id) := by simp
    rw [hfl] at ho8
    have hfll : (s.under.filter fun t => decide (t.id ≠ id)).length ≤ s.under.length := List.length_filter_le _ _
    generalize (s.under.filter fun t => decide (t.id ≠ id)) = fl at *
    clear hfl ho7 hx7
    obtain ⟨A8, c8, rfl⟩ := ho8.form
    obtain ⟨css8, q1, q2, q3, q4⟩ := ho8
    have HQ4 := Lib.hid q4
    have hxw8 := HXG.out.trans hx8
    have hrowp := hxw8.obj HH.out.row
    obtain ⟨-, -, -, p3, pf⟩ := row4_at hrowp
    have hset := heap_setCell_same w8 p 3 _ _ (.slice A8 fl.length c8) hrowp
    have hk9 : Kept [p] w8 (w8.setCell ⟨p, 3, none⟩ (.slice A8 fl.length c8)) := (Kept.refl _ _).setCell (.inl (by simp)) _
    have HP9 : Hid ((w8.setCell ⟨p, 3, none⟩ (.slice A8 fl.length c8)).heap[p]? = some (.cells #[.int .i64 s.node, .int .i64 s.boot, .int .i64 s.next, .slice A8 fl.length c8] 72 (0, 0))) := Lib.hid (by simpa using hset)
    have hpow : (Value.slice A8 fl.length c8).ownBlock = none ∨ (Value.slice A8 fl.length c8).ownBlock ≠ some p := owns_obj q3 hrowp (by decide)
    have hbow : (Value.slice A8 fl.length c8).ownBlock = none ∨ (Value.slice A8 fl.length c8).ownBlock ≠ some w.heap.size := owns_obj q3 (hx8.obj HIBG.out) (by decide)
    have q39 := q3.kept hk9.grown1 hpow
    have HI9 : Hid (TxAt (w8.setCell ⟨p, 3, none⟩ (.slice A8 fl.length c8)) w.heap.size id) := Lib.hid (hk9.heap (hx8.obj HIBG.out) (by simpa using hip))
    have HK9 := Lib.hid hk9
    have HX8 := Lib.hid hx8
    have hgb := q3.lt
    clear hset hk9 hrowp q3 q4 hx8 hxw8
    go_wp2_with fail
    obtain ⟨N8, hN8⟩ : ∃ N8 : List Nat, N8 = (Value.slice A8 fl.length c8).ownBlock.toList := ⟨_, rfl⟩
    have hNp : p ∉ N8 := by rw [hN8]; rcases hpow with h | h <;> simp [h]
    have hNb : w.heap.size ∉ N8 := by rw [hN8]; rcases hbow with h | h <;> simp [h]
    have HNG : Hid (∀ k ∈ N8, wG.heap.size ≤ k) := Lib.hid (by
     intro k hk
     rw [hN8] at hk
     exact (hgb k (by simpa using hk)).1)
    generalize w8.setCell ⟨p, 3, none⟩ (.slice A8 fl.length c8) = w9 at *
    clear p3 pf hpow hbow hgb e3g
    have HQ9 := Lib.hid q39
    have HN8 := Lib.hid hN8
    have HNP := Lib.hid hNp
    have hk90 : Kept N8 w9 w9.drew := (Kept.refl _ _).drew
    have k3 : ∀ W, Kept N8 w9 W → W.cell? ⟨p, 3, none⟩ = some (.slice A8 fl.length c8) := fun W hk => (row4_at (hk.heap HP9.out hNp)).2.2.2.1
    have i0 : ∀ W, Kept N8 w9 W → W.cell? ⟨w.heap.size, 0, none⟩ = some (.int .i64 id.node) := fun W hk => (row3_at (hk.heap HI9.out hNb)).1
    have i1 : ∀ W, Kept N8 w9 W → W.cell? ⟨w.heap.size, 1, none⟩ = some (.int .i64 id.boot) := fun W hk => (row3_at (hk.heap HI9.out hNb)).2.1
    have i2 : ∀ W, Kept N8 w9 W → W.cell? ⟨w.heap.size, 2, none⟩ = some (.int .i64 id.n) := fun W hk => (row3_at (hk.heap HI9.out hNb)).2.2.1
    have HNB := Lib.hid hNb
    clear q39 hN8 hNp hNb
    refine wp_region_phase (S := fun w' => Kept N8 w9 w') 10 (by kernel_rfl) (by kernel_rfl) ?_ (fun hHeld => ?_)
    ·exact hk90
    simp only [List.drop_succ_cons, List.drop_zero]
    refine name_head ?_
    intro wr0 hw0
    rw [hw0] at hHeld
    refine wt 0 _ ?_
    simp only [red, Act.put]
    refine wt 1 _ ?_
    simp only [red, Act.put]
    refine wt 2 _ ?_
    simp only [red, Act.put]
    refine wt 3 _ ?_
    simp only [red, Act.put]
    refine wt 4 _ ?_
    simp only [red, Act.put]
    refine wt 5 _ ?_
    simp only [red, Act.put]
    refine wt 6 _ ?_
    simp only [red, Act.put]
    refine wt 7 _ ?_
    simp only [red, Act.put]
    refine rd [8] ?_
    refine ac (fun K hK => ?_) ?_
    ·go_simp
     refine name_world ?_
     rintro wr8 hw8
     have hxn8 : Ext wr0 wr8 := hw8 ▸ (Ext.refl _).alloc _
     have hrow8 : wr8.heap[wr0.heap.size]? = some (.cells (trC ⟨id, sh, true, [], []⟩ (.slice A2 sh.length c2)).toArray 85 (0, 0)) := hw8 ▸ heap_alloc_new wr0 _
     have hq8 : wr8.ownsRow wG.heap.size 85 13 (.slice A8 fl.length c8) fl.length css8.flatten := owns_ext (by rw [← hw0]; exact HQ9.out) hxn8
     refine hK.out _ _ ?_ (fun hHeld => ?_)
     ·exact hHeld.ext hxn8
     clear hK K
     try simp only [red, Act.put]
     refine rd [9] ?_
     refine ac (fun K hK => ?_) ?_
     ·have hHw8 := hHeld
      have hsl : Sl wr8 (some ⟨_, 0, none⟩) (trC ⟨id, sh, true, [], []⟩ (.slice A2 sh.length c2)) := Sl.of_row hrow8
      refine step_ap txT hq8 hsl rfl rfl rfl rfl rfl (trC_one _ _ _ _) (by omega) (by omega) (by have := HX8.out.size; have := HK9.out.size; have := hHeld.size; omega) ?_
      rintro v10 wr9 ho10 hg10 hor10
      refine hK.out _ _ ?_ (fun hHeld => ?_)
      ·exact hHeld.grown hg10 fun k hk => .inl (by rw [HN8.out]; simpa using hk)
      clear hK K
      try simp only [red, Act.put]
      refine wpHead_done (by kernel_rfl) ?_
      obtain ⟨A10, c10, rfl⟩ := own_form ho10
      have HK10 := Lib.hid hHeld
      have hrowp := hHeld.heap HP9.out HNP.out
      obtain ⟨-, -, -, p3, pf⟩ := row4_at hrowp
      have hset := heap_setCell_same _ p 3 _ _ (.slice A10 (fl.length + 1) c10) hrowp
      have hk11 : Kept [p] wr9 (wr9.setCell ⟨p, 3, none⟩ (.slice A10 (fl.length + 1) c10)) := (Kept.refl _ _).setCell (.inl (by simp)) _
      have hpo : (Value.slice A10 (fl.length + 1) c10).ownBlock = none ∨ (Value.slice A10 (fl.length + 1) c10).ownBlock ≠ some p := owns_obj ho10 hrowp (by decide)
      have HI11 : Hid (TxAt (wr9.setCell ⟨p, 3, none⟩ (.slice A10 (fl.length + 1) c10)) w.heap.size id) := Lib.hid (hk11.heap (hHeld.heap HI9.out HNB.out) (by simpa using hip))
      have hKG : Kept [p] wG (wr9.setCell ⟨p, 3, none⟩ (.slice A10 (fl.length + 1) c10)) := ((((Kept.of_ext HX8.out).trans HK9.out).mono (N := p :: N8) (by intro k hk; simp at hk; simp [hk])).trans (hHeld.mono (by intro k hk; simp [hk])) |>.trans (hk11.mono (by intro k hk; simp at hk; simp [hk]))).less (by intro k hk hlt; rcases List.mem_cons.1 hk with h | h; exact List.mem_singleton.2 h; have := HNG.out k h; omega)
      have hpm : ∀ k ∈ [p], k ∈ M := by intro k hk; simp at hk; subst hk; exact hp
      have hNW : OwnR RTr 13 85 M wG (wr9.setCell ⟨p, 3, none⟩ (.slice A10 (fl.length + 1) c10)) wG.heap.size (.slice A10 (fl.length + 1) c10) (fl ++ [⟨id, sh, true, [], []⟩]) := OwnR.push q1 q2 HQ4.out rfl ⟨A2, c2, rfl, HSH.out.kept (.of_ext HXG.out)⟩ (ho10.kept hk11.grown1 hpo)
      have HCN := Lib.hid (co_own (by simpa using hset) HMG.out (hNW.read (hKG.mono hpm)))
      have HKN : Hid (Kept [p] w (wr9.setCell ⟨p, 3, none⟩ (.slice A10 (fl.length + 1) c10))) := Lib.hid ((Kept.of_ext HXG.out).trans hKG)
      have HBM := Lib.hid hp
      clear hset hk11 hpo hKG hNW hrowp ho10 hg10 hor10 hq8 hsl hrow8 hHeld k3 i0 i1 i2
      go_wp2_with fail
      generalize wr9.setCell ⟨p, 3, none⟩ (.slice A10 (fl.length + 1) c10) = w11 at *
      clear p3 pf
      obtain ⟨Af, cf2, hcr⟩ := HCN.out
      obtain ⟨-, r1, r2, -, rf⟩ := rows4 hcr.row
      obtain ⟨-, i1, i2, -⟩ := rows3 HI11.out
      have hxd11 : Ext w11 w11.drew := (Ext.refl _).drew
      clear hcr
      by_cases hbb : id.boot = s.boot
      ·have q4 : (id.boot == s.boot) = true := by rw [hbb]; simp
       rw [if_pos hbb] at HVG
       clear hbb
       refine wp_region_phase (S := fun w' => Ext w11 w') 6 (by kernel_rfl) (by kernel_rfl) ?_ (fun hHeld => ?_)
       ·exact hxd11
       simp only [List.drop_succ_cons, List.drop_zero]
       refine name_head ?_
       intro wr0 hw0
       rw [hw0] at hHeld
       refine wt 0 _ ?_
       simp only [red, Act.put]
       refine wt 1 _ ?_
       simp only [red, Act.put]
       refine wt 2 _ ?_
       simp only [red, Act.put]
       refine wt 3 _ ?_
       simp only [red, Act.put]
       refine wt 4 _ ?_
       simp only [red, Act.put]
       refine wt 5 _ ?_
       simp only [red, Act.put]
       refine wpHead_done (by kernel_rfl) ?_
       have HX12 := Lib.hid hHeld
       generalize wr0 = w12 at *
       clear hHeld
       go_wp2_with fail
       have hxd12 : Ext w11 w12.drew := HX12.out.drew
       have hwid : IntKind.i64.wrap (id.n + 1) = id.n + 1 := by
        obtain ⟨k, hk⟩ := Int.eq_ofNat_of_zero_le (show 0 ≤ id.n by omega)
        rw [hk]
        exact wrap64_nat (k + 1) (by omega)
       refine wp_region_phase (S := fun w' => Ext w11 w') 9 (by kernel_rfl) (by kernel_rfl) ?_ (fun hHeld => ?_)
       ·exact hxd12
       simp only [List.drop_succ_cons, List.drop_zero]
       refine name_head ?_
       intro wr0 hw0
       rw [hw0] at hHeld
       refine wt 0 _ ?_
       simp only [red, Act.put]
       refine wt 1 _ ?_
       simp only [red, Act.put]
       refine wt 2 _ ?_
       simp only [red, Act.put]
       refine wt 3 _ ?_
       simp only [red, Act.put]
       refine wt 4 _ ?_
       simp only [red, Act.put]
       refine wt 5 _ ?_
       simp only [red, Act.put]
       refine wt 6 _ ?_
       simp only [red, Act.put]
       refine wt 7 _ ?_
       simp only [red, Act.put]
       refine wt 8 _ ?_
       simp only [red, Act.put]
       refine wpHead_done (by kernel_rfl) ?_
       have HX13 := Lib.hid hHeld
       generalize wr0 = w13 at *
       have r2w := r2 w13 hHeld
       have rfw := fun j => rf w13 j hHeld
       have HNX := Lib.hid (co_next (HCN.out.ext HX13.out) HBM.out (max s.next (id.n + 1)))
       have HKX : Hid (Kept [p] w w13) := Lib.hid (HKN.out.ext HX13.out)
       clear hHeld r1 r2 rf i1 i2
       go_wp2
       go_ret
       rw [HVG.out]
       exact ⟨rfl, HNX.out.1, HKX.out.trans HNX.out.2⟩
      ·have q4 : (id.boot == s.boot) = false := by simpa using hbb
       rw [if_neg hbb] at HVG
       clear hbb
       refine wp_region_phase (S := fun w' => Ext w11 w') 6 (by kernel_rfl) (by kernel_rfl) ?_ (fun hHeld => ?_)
       ·exact hxd11
       simp only [List.drop_succ_cons, List.drop_zero]
       refine name_head ?_
       intro wr0 hw0
       rw [hw0] at hHeld
       refine wt 0 _ ?_
       simp only [red, Act.put]
       refine wt 1 _ ?_
       simp only [red, Act.put]
       refine wt 2 _ ?_
       simp only [red, Act.put]
       refine wt 3 _ ?_
       simp only [red, Act.put]
       refine wt 4 _ ?_
       simp only [red, Act.put]
       refine wt 5 _ ?_
       simp only [red, Act.put]
       refine wpHead_done (by kernel_rfl) ?_
       have HX12 := Lib.hid hHeld
       generalize wr0 = w12 at *
       clear hHeld r1 r2 rf i1 i2
       go_wp2
       go_ret
       rw [HVG.out]
       exact ⟨rfl, HCN.out.ext HX12.out, HKN.out.ext HX12.out⟩
     exact AllHead.nil
    exact AllHead.nil
  | some i =>
   obtain ⟨hi, _⟩ := findT_some hf
   have hm : idI (some i) = (i : Int) := rfl
   rw [hm]
   obtain ⟨ad, A1, c1, rfl, hsl, hcell, hd⟩ := HH.out.rs.tr hi
   have hok := hs.rows _ (List.getElem_mem hi)
   have HBAD : Hid (badF s id sh = (s.under[i].done || !allIn s.under[i].shards s.under[i].yes || decide (s.under[i].shards ≠ sh))) := Lib.hid (by unfold badF; rw [hf]; simp only [row_eq hi])
   have HALL := fun W (hx : Ext w W) => txall_any s.under[i] s.under[i].yes A1 c1 W (hsl.ext hx) (rightF_mem hok.right) (by have := rightF_len hok.right; omega)
   have HEQ := fun W (hx : Ext w W) => iequal_any A1 A2 c1 c2 s.under[i].shards sh W (hsl.ext hx) (HSH.out.sl.ext hx) (by have := rightF_len hok.right; omega)
   have f3 : ∀ W, Ext w W → W.cell? ⟨((ad.add (i * 13))).block, (ad.add (i * 13)).off + 3, none⟩ = some (.slice A1 s.under[i].shards.length c1) := fun W hx => by
    have := hcell W hx 3 _ rfl
    rwa [add_pos'] at this
   generalize s.under[i] = t at *
   have hilt : (i : Int) < (s.under.length : Int) := by omega
   have hi0 : (0 : Int) ≤ (i : Int) := by omega
   have HC := Lib.hid hcell
   have d3 := fun W (hx : Ext w3 W) => hd W (hxw3.trans hx)
   have s3 := fun W (hx : Ext w3 W) => f3 W (hxw3.trans hx)
   have HNI : Hid (¬ (findT s.under id = none ∧ 8 ≤ s.under.length)) := Lib.hid (by rw [hf]; simp)
   clear hm hf hsl hcell hok f3
   have bad : badF s id sh = true → Hid (isDoneO s id sh = (13, s)) := fun h => Lib.hid (by unfold isDoneO; rw [if_neg (by have := HB.out; omega), if_pos h])
   have good : badF s id sh = false → Hid (isDoneO s id sh = (0, { s with under := (s.under.filter fun t => decide (t.id ≠ id)) ++ [⟨id, sh, true, [], []⟩], next := if id.boot = s.boot then max s.next (id.n + 1) else s.next })) := fun h => Lib.hid (by unfold isDoneO; rw [if_neg (by have := HB.out; omega), if_neg (by simp [h]), if_neg HNI.out])
   cases hdd : t.done with
   | true =>
    rw [hdd] at d3
    have HV := bad (by rw [HBAD.out, hdd]; simp)
    clear hdd bad good hd
    go_wp2_with fail
    have hx3d : Ext w3 w3.drew := (Ext.refl _).drew
    refine wp_region_phase (S := fun w' => Ext w3 w') 44 (by kernel_rfl) (by kernel_rfl) ?_ (fun hHeld => ?_)
    ·exact hx3d
    simp only [List.drop_succ_cons, List.drop_zero]
    refine name_head ?_
    intro wr0 hw0
    rw [hw0] at hHeld
    refine wt 0 _ ?_
    simp only [red, Act.put]
    refine wt 1 _ ?_
    simp only [red, Act.put]
    refine wt 2 _ ?_
    simp only [red, Act.put]
    refine wt 3 _ ?_
    simp only [red, Act.put]
    refine wt 4 _ ?_
    simp only [red, Act.put]
    refine wt 5 _ ?_
    simp only [red, Act.put]
    refine wt 6 _ ?_
    simp only [red, Act.put]
    refine wt 7 _ ?_
    simp only [red, Act.put]
    refine wt 8 _ ?_
    simp only [red, Act.put]
    refine wt 9 _ ?_
    simp only [red, Act.put]
    refine wt 10 _ ?_
    simp only [red, Act.put]
    refine wt 11 _ ?_
    simp only [red, Act.put]
    refine ws 12 ?_
    simp only [red, Act.put]
    refine ws 13 ?_
    simp only [red, Act.put]
    refine ws 14 ?_
    simp only [red, Act.put]
    refine ws 15 ?_
    simp only [red, Act.put]
    refine ws 16 ?_
    simp only [red, Act.put]
    refine ws 17 ?_
    simp only [red, Act.put]
    refine ws 18 ?_
    simp only [red, Act.put]
    refine ws 19 ?_
    simp only [red, Act.put]
    refine ws 20 ?_
    simp only [red, Act.put]
    refine ws 21 ?_
    simp only [red, Act.put]
    refine ws 22 ?_
    simp only [red, Act.put]
    refine ws 23 ?_
    simp only [red, Act.put]
    refine ws 24 ?_
    simp only [red, Act.put]
    refine ws 25 ?_
    simp only [red, Act.put]
    refine ws 26 ?_
    simp only [red, Act.put]
    refine ws 27 ?_
    simp only [red, Act.put]
    refine ws 28 ?_
    simp only [red, Act.put]
    refine wt 29 _ ?_
    simp only [red, Act.put]
    refine wt 30 _ ?_
    simp only [red, Act.put]
    refine ws 31 ?_
    simp only [red, Act.put]
    refine ws 32 ?_
    simp only [red, Act.put]
    refine ws 33 ?_
    simp only [red, Act.put]
    refine ws 34 ?_
    simp only [red, Act.put]
    refine ws 35 ?_
    simp only [red, Act.put]
    refine ws 36 ?_
    simp only [red, Act.put]
    refine ws 37 ?_
    simp only [red, Act.put]
    refine ws 38 ?_
    simp only [red, Act.put]
    refine ws 39 ?_
    simp only [red, Act.put]
    refine ws 40 ?_
    simp only [red, Act.put]
    refine ws 41 ?_
    simp only [red, Act.put]
    refine wt 42 _ ?_
    simp only [red, Act.put]
    refine wt 43 _ ?_
    simp only [red, Act.put]
    refine wpHead_done (by kernel_rfl) ?_
    have hxwg := hxw3.trans hHeld
    have HIBG : Hid (TxAt wr0 w.heap.size id) := Lib.hid (hHeld.obj HIB3.out)
    generalize wr0 = wG at *
    have HX := Lib.hid hxwg
    clear HIBG
    go_wp2
    go_ret
    rw [HV.out]
    exact ⟨rfl, HCO.out.ext HX.out, .of_ext HX.out⟩
   | false =>
    rw [hdd] at d3
    by_cases hall : allIn t.shards t.yes = true; rotate_left
    ·have hall : allIn t.shards t.yes = false := by simpa using hall
     have HV := bad (by rw [HBAD.out, hall]; simp)
     rw [hall] at HALL
     clear hall hdd bad good hd
     go_wp2_with fail
     have hx3d : Ext w3 w3.drew := (Ext.refl _).drew
     refine wp_region_phase (S := fun w' => Ext w3 w') 44 (by kernel_rfl) (by kernel_rfl) ?_ (fun hHeld => ?_)
     ·exact hx3d
     simp only [List.drop_succ_cons, List.drop_zero]
     refine name_head ?_
     intro wr0 hw0
     rw [hw0] at hHeld
     refine wt 0 _ ?_
     simp only [red, Act.put]
     refine wt 1 _ ?_
     simp only [red, Act.put]
     refine wt 2 _ ?_
     simp only [red, Act.put]
     refine wt 3 _ ?_
     simp only [red, Act.put]
     refine wt 4 _ ?_
     simp only [red, Act.put]
     refine wt 5 _ ?_
     simp only [red, Act.put]
     refine wt 6 _ ?_
     simp only [red, Act.put]
     refine wt 7 _ ?_
     simp only [red, Act.put]
     refine wt 8 _ ?_
     simp only [red, Act.put]
     refine wt 9 _ ?_
     simp only [red, Act.put]
     refine wt 10 _ ?_
     simp only [red, Act.put]
     refine wt 11 _ ?_
     simp only [red, Act.put]
     refine wt 12 _ ?_
     simp only [red, Act.put]
     refine wt 13 _ ?_
     simp only [red, Act.put]
     refine wt 14 _ ?_
     simp only [red, Act.put]
     refine wt 15 _ ?_
     simp only [red, Act.put]
     refine wt 16 _ ?_
     simp only [red, Act.put]
     refine wt 17 _ ?_
     simp only [red, Act.put]
     refine wy 18 (v := .agg (trC t (.slice A1 t.shards.length c1)).toArray) (by rfl) (yieldsIf_load_elem (by rfl) 85 _ rfl (ad.add (i * 13)) rfl (trC t (.slice A1 t.shards.length c1)) _ (fun w' hx => HC.out w' (hxw3.trans hx)) Try.underlying85 rfl (tx_size rfl)) ?_
     simp only [red, Act.put]
     refine wt 19 _ ?_
     simp only [red, Act.put]
     refine wt 20 _ ?_
     simp only [red, Act.put]
     refine wt 21 _ ?_
     simp only [red, Act.put]
     refine wt 22 _ ?_
     simp only [red, Act.put]
     refine wt 23 _ ?_
     simp only [red, Act.put]
     refine wt 24 _ ?_
     simp only [red, Act.put]
     refine wt 25 _ ?_
     simp only [red, Act.put]
     refine wy 26 (v := .agg (saidC t.yes).toArray) (by rfl) (yieldsIf_load_mid (by rfl) 83 _ rfl (ad.add (i * 13)).block ((ad.add (i * 13)).off + 5) rfl (saidC t.yes) _ (fun w' hx => (said_range (HC.out w' (hxw3.trans hx))).1) Try.underlying83 rfl (said_size _)) ?_
     simp only [red, Act.put]
     refine rd [27] ?_
     refine ac (fun K hK => ?_) ?_
     ·refine step_callG (by rfl) (by kernel_rfl) (HALL _ (hxw3.trans hHeld)) ?_
      rintro e wr27 ⟨rfl, hx27⟩
      refine ⟨_, rfl, ?_⟩
      refine hK.out _ _ ?_ (fun hHeld => ?_)
      ·exact hHeld.trans hx27
      clear hK K
      try simp only [red, Act.put]
      refine wt 28 _ ?_
      simp only [red, Act.put]
      refine wt 29 _ ?_
      simp only [red, Act.put]
      refine wt 30 _ ?_
      simp only [red, Act.put]
      refine ws 31 ?_
      simp only [red, Act.put]
      refine ws 32 ?_
      simp only [red, Act.put]
      refine ws 33 ?_
      simp only [red, Act.put]
      refine ws 34 ?_
      simp only [red, Act.put]
      refine ws 35 ?_
      simp only [red, Act.put]
      refine ws 36 ?_
      simp only [red, Act.put]
      refine ws 37 ?_
      simp only [red, Act.put]
      refine ws 38 ?_
      simp only [red, Act.put]
      refine ws 39 ?_
      simp only [red, Act.put]
      refine ws 40 ?_
      simp only [red, Act.put]
      refine ws 41 ?_
      simp only [red, Act.put]
      refine wt 42 _ ?_
      simp only [red, Act.put]
      refine wt 43 _ ?_
      simp only [red, Act.put]
      refine wpHead_done (by kernel_rfl) ?_
      have hxwg := hxw3.trans hHeld
      have HIBG : Hid (TxAt wr27 w.heap.size id) := Lib.hid (hHeld.obj HIB3.out)
      generalize wr27 = wG at *
      have HX := Lib.hid hxwg
      clear HIBG
      go_wp2
      go_ret
      rw [HV.out]
      exact ⟨rfl, HCO.out.ext HX.out, .of_ext HX.out⟩
     exact AllHead.nil
    ·rw [hall] at HALL
     by_cases heq : t.shards = sh; rotate_left
     ·have HV := bad (by rw [HBAD.out]; simp [heq])
      have hde : decide (t.shards = sh) = false := by simpa using heq
      rw [hde] at HEQ
      clear hall hdd heq hde bad good hd
      go_wp2_with fail
      have hx3d : Ext w3 w3.drew := (Ext.refl _).drew
      refine wp_region_phase (S := fun w' => Ext w3 w') 44 (by kernel_rfl) (by kernel_rfl) ?_ (fun hHeld => ?_)
      ·exact hx3d
      simp only [List.drop_succ_cons, List.drop_zero]
      refine name_head ?_
      intro wr0 hw0
      rw [hw0] at hHeld
      refine wt 0 _ ?_
      simp only [red, Act.put]
      refine wt 1 _ ?_
      simp only [red, Act.put]
      refine wt 2 _ ?_
      simp only [red, Act.put]
      refine wt 3 _ ?_
      simp only [red, Act.put]
      refine wt 4 _ ?_
      simp only [red, Act.put]
      refine wt 5 _ ?_
      simp only [red, Act.put]
      refine wt 6 _ ?_
      simp only [red, Act.put]
      refine wt 7 _ ?_
      simp only [red, Act.put]
      refine wt 8 _ ?_
      simp only [red, Act.put]
      refine wt 9 _ ?_
      simp only [red, Act.put]
      refine wt 10 _ ?_
      simp only [red, Act.put]
      refine wt 11 _ ?_
      simp only [red, Act.put]
      refine wt 12 _ ?_
      simp only [red, Act.put]
      refine wt 13 _ ?_
      simp only [red, Act.put]
      refine wt 14 _ ?_
      simp only [red, Act.put]
      refine wt 15 _ ?_
      simp only [red, Act.put]
      refine wt 16 _ ?_
      simp only [red, Act.put]
      refine wt 17 _ ?_
      simp only [red, Act.put]
      refine wy 18 (v := .agg (trC t (.slice A1 t.shards.length c1)).toArray) (by rfl) (yieldsIf_load_elem (by rfl) 85 _ rfl (ad.add (i * 13)) rfl (trC t (.slice A1 t.shards.length c1)) _ (fun w' hx => HC.out w' (hxw3.trans hx)) Try.underlying85 rfl (tx_size rfl)) ?_
      simp only [red, Act.put]
      refine wt 19 _ ?_
      simp only [red, Act.put]
      refine wt 20 _ ?_
      simp only [red, Act.put]
      refine wt 21 _ ?_
      simp only [red, Act.put]
      refine wt 22 _ ?_
      simp only [red, Act.put]
      refine wt 23 _ ?_
      simp only [red, Act.put]
      refine wt 24 _ ?_
      simp only [red, Act.put]
      refine wt 25 _ ?_
      simp only [red, Act.put]
      refine wy 26 (v := .agg (saidC t.yes).toArray) (by rfl) (yieldsIf_load_mid (by rfl) 83 _ rfl (ad.add (i * 13)).block ((ad.add (i * 13)).off + 5) rfl (saidC t.yes) _ (fun w' hx => (said_range (HC.out w' (hxw3.trans hx))).1) Try.underlying83 rfl (said_size _)) ?_
      simp only [red, Act.put]
      refine rd [27] ?_
      refine ac (fun K hK => ?_) ?_
      ·refine step_callG (by rfl) (by kernel_rfl) (HALL _ (hxw3.trans hHeld)) ?_
       rintro e wr27 ⟨rfl, hx27⟩
       refine ⟨_, rfl, ?_⟩
       refine hK.out _ _ ?_ (fun hHeld => ?_)
       ·exact hHeld.trans hx27
       clear hK K
       try simp only [red, Act.put]
       refine wt 28 _ ?_
       simp only [red, Act.put]
       refine wt 29 _ ?_
       simp only [red, Act.put]
       refine wt 30 _ ?_
       simp only [red, Act.put]
       refine wt 31 _ ?_
       simp only [red, Act.put]
       refine wt 32 _ ?_
       simp only [red, Act.put]
       refine wt 33 _ ?_
       simp only [red, Act.put]
       refine wt 34 _ ?_
       simp only [red, Act.put]
       refine wt 35 _ ?_
       simp only [red, Act.put]
       refine wt 36 _ ?_
       simp only [red, Act.put]
       refine wt 37 _ ?_
       simp only [red, Act.put]
       refine wt 38 _ ?_
       simp only [red, Act.put]
       refine wt 39 _ ?_
       simp only [red, Act.put]
       refine rd [40] ?_
       refine ac (fun K hK => ?_) ?_
       ·refine step_callG (by rfl) (by kernel_rfl) (HEQ _ (hxw3.trans hHeld)) ?_
        rintro e wr40 ⟨rfl, hx40⟩
        refine ⟨_, rfl, ?_⟩
        refine hK.out _ _ ?_ (fun hHeld => ?_)
        ·exact hHeld.trans hx40
        clear hK K
        try simp only [red, Act.put]
        refine wt 41 _ ?_
        simp only [red, Act.put]
        refine wt 42 _ ?_
        simp only [red, Act.put]
        refine wt 43 _ ?_
        simp only [red, Act.put]
        refine wpHead_done (by kernel_rfl) ?_
        have hxwg := hxw3.trans hHeld
        have HIBG : Hid (TxAt wr40 w.heap.size id) := Lib.hid (hHeld.obj HIB3.out)
        generalize wr40 = wG at *
        have HX := Lib.hid hxwg
        clear HIBG
        go_wp2
        go_ret
        rw [HV.out]
        exact ⟨rfl, HCO.out.ext HX.out, .of_ext HX.out⟩
       exact AllHead.nil
      exact AllHead.nil
     ·have HV := good (by rw [HBAD.out, hall, hdd]; simp [heq])
      have hde : decide (t.shards = sh) = true := by simpa using heq
      rw [hde] at HEQ
      clear hall hdd heq hde bad good hd
      go_wp2_with fail
      have hx3d : Ext w3 w3.drew := (Ext.refl _).drew
      refine wp_region_phase (S := fun w' => Ext w3 w') 44 (by kernel_rfl) (by kernel_rfl) ?_ (fun hHeld => ?_)
      ·exact hx3d
      simp only [List.drop_succ_cons, List.drop_zero]
      refine name_head ?_
      intro wr0 hw0
      rw [hw0] at hHeld
      refine wt 0 _ ?_
      simp only [red, Act.put]
      refine wt 1 _ ?_
      simp only [red, Act.put]
      refine wt 2 _ ?_
      simp only [red, Act.put]
      refine wt 3 _ ?_
      simp only [red, Act.put]
      refine wt 4 _ ?_
      simp only [red, Act.put]
      refine wt 5 _ ?_
      simp only [red, Act.put]
      refine wt 6 _ ?_
      simp only [red, Act.put]
      refine wt 7 _ ?_
      simp only [red, Act.put]
      refine wt 8 _ ?_
      simp only [red, Act.put]
      refine wt 9 _ ?_
      simp only [red, Act.put]
      refine wt 10 _ ?_
      simp only [red, Act.put]
      refine wt 11 _ ?_
      simp only [red, Act.put]
      refine wt 12 _ ?_
      simp only [red, Act.put]
      refine wt 13 _ ?_
      simp only [red, Act.put]
      refine wt 14 _ ?_
      simp only [red, Act.put]
      refine wt 15 _ ?_
      simp only [red, Act.put]
      refine wt 16 _ ?_
      simp only [red, Act.put]
      refine wt 17 _ ?_
      simp only [red, Act.put]
      refine wy 18 (v := .agg (trC t (.slice A1 t.shards.length c1)).toArray) (by rfl) (yieldsIf_load_elem (by rfl) 85 _ rfl (ad.add (i * 13)) rfl (trC t (.slice A1 t.shards.length c1)) _ (fun w' hx => HC.out w' (hxw3.trans hx)) Try.underlying85 rfl (tx_size rfl)) ?_
      simp only [red, Act.put]
      refine wt 19 _ ?_
      simp only [red, Act.put]
      refine wt 20 _ ?_
      simp only [red, Act.put]
      refine wt 21 _ ?_
      simp only [red, Act.put]
      refine wt 22 _ ?_
      simp only [red, Act.put]
      refine wt 23 _ ?_
      simp only [red, Act.put]
      refine wt 24 _ ?_
      simp only [red, Act.put]
      refine wt 25 _ ?_
      simp only [red, Act.put]
      refine wy 26 (v := .agg (saidC t.yes).toArray) (by rfl) (yieldsIf_load_mid (by rfl) 83 _ rfl (ad.add (i * 13)).block ((ad.add (i * 13)).off + 5) rfl (saidC t.yes) _ (fun w' hx => (said_range (HC.out w' (hxw3.trans hx))).1) Try.underlying83 rfl (said_size _)) ?_
      simp only [red, Act.put]
      refine rd [27] ?_
      refine ac (fun K hK => ?_) ?_
      ·refine step_callG (by rfl) (by kernel_rfl) (HALL _ (hxw3.trans hHeld)) ?_
       rintro e wr27 ⟨rfl, hx27⟩
       refine ⟨_, rfl, ?_⟩
       refine hK.out _ _ ?_ (fun hHeld => ?_)
       ·exact hHeld.trans hx27
       clear hK K
       try simp only [red, Act.put]
       refine wt 28 _ ?_
       simp only [red, Act.put]
       refine wt 29 _ ?_
       simp only [red, Act.put]
       refine wt 30 _ ?_
       simp only [red, Act.put]
       refine wt 31 _ ?_
       simp only [red, Act.put]
       refine wt 32 _ ?_
       simp only [red, Act.put]
       refine wt 33 _ ?_
       simp only [red, Act.put]
       refine wt 34 _ ?_
       simp only [red, Act.put]
       refine wt 35 _ ?_
       simp only [red, Act.put]
       refine wt 36 _ ?_
       simp only [red, Act.put]
       refine wt 37 _ ?_
       simp only [red, Act.put]
       refine wt 38 _ ?_
       simp only [red, Act.put]
       refine wt 39 _ ?_
       simp only [red, Act.put]
       refine rd [40] ?_
       refine ac (fun K hK => ?_) ?_
       ·refine step_callG (by rfl) (by kernel_rfl) (HEQ _ (hxw3.trans hHeld)) ?_
        rintro e wr40 ⟨rfl, hx40⟩
        refine ⟨_, rfl, ?_⟩
        refine hK.out _ _ ?_ (fun hHeld => ?_)
        ·exact hHeld.trans hx40
        clear hK K
        try simp only [red, Act.put]
        refine wt 41 _ ?_
        simp only [red, Act.put]
        refine wt 42 _ ?_
        simp only [red, Act.put]
        refine wt 43 _ ?_
        simp only [red, Act.put]
        refine wpHead_done (by kernel_rfl) ?_
        have hxwg := hxw3.trans hHeld
        have HIBG : Hid (TxAt wr40 w.heap.size id) := Lib.hid (hHeld.obj HIB3.out)
        generalize wr40 = wG at *
        have HVG : Hid (isDoneO s id sh = (0, { s with under := (s.under.filter fun t => decide (t.id ≠ id)) ++ [⟨id, sh, true, [], []⟩], next := if id.boot = s.boot then max s.next (id.n + 1) else s.next })) := HV
        have hMG : ∀ k ∈ M, k < wG.heap.size := fun k hk => Nat.lt_of_lt_of_le (HM.out k hk) hxwg.size
        have HMG := Lib.hid hMG
        have e3g := c3 _ hxwg
        have HXG := Lib.hid hxwg
        have hip : ¬ w.heap.size = p := by have := HPL.out; omega
        clear hMG
        go_wp2_with fail
        refine (tclone_any _ cap s.under M wG wG (HH.out.rs.kept (.of_ext HXG.out)) (Ext.refl _) (by omega)).mono ?_
        rintro e w7 ⟨v7, rfl, ho7, hx7⟩
        go_wp2_with fail
        refine (tdelf_any 56 #[.pointer (some ⟨w.heap.size, 0, none⟩)] enters_done (fun t => decide (t.id = id)) M wG.heap.size v7 s.under wG w7 ho7 hx7 (Nat.le_refl _) HMG.out (done_tells id _ M wG HIBG.out) hfew).mono ?_
        rintro e w8 ⟨v8, rfl, ho8, hx8⟩
        have hfl : (s.under.filter fun t => !decide (t.id = id)) = s.under.filter fun t => decide (t.id ≠ id) := by simp
        rw [hfl] at ho8
        have hfll : (s.under.filter fun t => decide (t.id ≠ id)).length ≤ s.under.length := List.length_filter_le _ _
        generalize (s.under.filter fun t => decide (t.id ≠ id)) = fl at *
        clear hfl ho7 hx7
        obtain ⟨A8, c8, rfl⟩ := ho8.form
        obtain ⟨css8, q1, q2, q3, q4⟩ := ho8
        have HQ4 := Lib.hid q4
        have hxw8 := HXG.out.trans hx8
        have hrowp := hxw8.obj HH.out.row
        obtain ⟨-, -, -, p3, pf⟩ := row4_at hrowp
        have hset := heap_setCell_same w8 p 3 _ _ (.slice A8 fl.length c8) hrowp
        have hk9 : Kept [p] w8 (w8.setCell ⟨p, 3, none⟩ (.slice A8 fl.length c8)) := (Kept.refl _ _).setCell (.inl (by simp)) _
        have HP9 : Hid ((w8.setCell ⟨p, 3, none⟩ (.slice A8 fl.length c8)).heap[p]? = some (.cells #[.int .i64 s.node, .int .i64 s.boot, .int .i64 s.next, .slice A8 fl.length c8] 72 (0, 0))) := Lib.hid (by simpa using hset)
        have hpow : (Value.slice A8 fl.length c8).ownBlock = none ∨ (Value.slice A8 fl.length c8).ownBlock ≠ some p := owns_obj q3 hrowp (by decide)
        have hbow : (Value.slice A8 fl.length c8).ownBlock = none ∨ (Value.slice A8 fl.length c8).ownBlock ≠ some w.heap.size := owns_obj q3 (hx8.obj HIBG.out) (by decide)
        have q39 := q3.kept hk9.grown1 hpow
        have HI9 : Hid (TxAt (w8.setCell ⟨p, 3, none⟩ (.slice A8 fl.length c8)) w.heap.size id) := Lib.hid (hk9.heap (hx8.obj HIBG.out) (by simpa using hip))
        have HK9 := Lib.hid hk9
        have HX8 := Lib.hid hx8
        have hgb := q3.lt
        clear hset hk9 hrowp q3 q4 hx8 hxw8
        go_wp2_with fail
        obtain ⟨N8, hN8⟩ : ∃ N8 : List Nat, N8 = (Value.slice A8 fl.length c8).ownBlock.toList := ⟨_, rfl⟩
        have hNp : p ∉ N8 := by rw [hN8]; rcases hpow with h | h <;> simp [h]
        have hNb : w.heap.size ∉ N8 := by rw [hN8]; rcases hbow with h | h <;> simp [h]
        have HNG : Hid (∀ k ∈ N8, wG.heap.size ≤ k) := Lib.hid (by
         intro k hk
         rw [hN8] at hk
         exact (hgb k (by simpa using hk)).1)
        generalize w8.setCell ⟨p, 3, none⟩ (.slice A8 fl.length c8) = w9 at *
        clear p3 pf hpow hbow hgb e3g
        have HQ9 := Lib.hid q39
        have HN8 := Lib.hid hN8
        have HNP := Lib.hid hNp
        have hk90 : Kept N8 w9 w9.drew := (Kept.refl _ _).drew
        have k3 : ∀ W, Kept N8 w9 W → W.cell? ⟨p, 3, none⟩ = some (.slice A8 fl.length c8) := fun W hk => (row4_at (hk.heap HP9.out hNp)).2.2.2.1
        have i0 : ∀ W, Kept N8 w9 W → W.cell? ⟨w.heap.size, 0, none⟩ = some (.int .i64 id.node) := fun W hk => (row3_at (hk.heap HI9.out hNb)).1
        have i1 : ∀ W, Kept N8 w9 W → W.cell? ⟨w.heap.size, 1, none⟩ = some (.int .i64 id.boot) := fun W hk => (row3_at (hk.heap HI9.out hNb)).2.1
        have i2 : ∀ W, Kept N8 w9 W → W.cell? ⟨w.heap.size, 2, none⟩ = some (.int .i64 id.n) := fun W hk => (row3_at (hk.heap HI9.out hNb)).2.2.1
        have HNB := Lib.hid hNb
        clear q39 hN8 hNp hNb
        refine wp_region_phase (S := fun w' => Kept N8 w9 w') 10 (by kernel_rfl) (by kernel_rfl) ?_ (fun hHeld => ?_)
        ·exact hk90
        simp only [List.drop_succ_cons, List.drop_zero]
        refine name_head ?_
        intro wr0 hw0
        rw [hw0] at hHeld
        refine wt 0 _ ?_
        simp only [red, Act.put]
        refine wt 1 _ ?_
        simp only [red, Act.put]
        refine wt 2 _ ?_
        simp only [red, Act.put]
        refine wt 3 _ ?_
        simp only [red, Act.put]
        refine wt 4 _ ?_
        simp only [red, Act.put]
        refine wt 5 _ ?_
        simp only [red, Act.put]
        refine wt 6 _ ?_
        simp only [red, Act.put]
        refine wt 7 _ ?_
        simp only [red, Act.put]
        refine rd [8] ?_
        refine ac (fun K hK => ?_) ?_
        ·go_simp
         refine name_world ?_
         rintro wr8 hw8
         have hxn8 : Ext wr0 wr8 := hw8 ▸ (Ext.refl _).alloc _
         have hrow8 : wr8.heap[wr0.heap.size]? = some (.cells (trC ⟨id, sh, true, [], []⟩ (.slice A2 sh.length c2)).toArray 85 (0, 0)) := hw8 ▸ heap_alloc_new wr0 _
         have hq8 : wr8.ownsRow wG.heap.size 85 13 (.slice A8 fl.length c8) fl.length css8.flatten := owns_ext (by rw [← hw0]; exact HQ9.out) hxn8
         refine hK.out _ _ ?_ (fun hHeld => ?_)
         ·exact hHeld.ext hxn8
         clear hK K
         try simp only [red, Act.put]
         refine rd [9] ?_
         refine ac (fun K hK => ?_) ?_
         ·have hHw8 := hHeld
          have hsl : Sl wr8 (some ⟨_, 0, none⟩) (trC ⟨id, sh, true, [], []⟩ (.slice A2 sh.length c2)) := Sl.of_row hrow8
          refine step_ap txT hq8 hsl rfl rfl rfl rfl rfl (trC_one _ _ _ _) (by omega) (by omega) (by have := HX8.out.size; have := HK9.out.size; have := hHeld.size; omega) ?_
          rintro v10 wr9 ho10 hg10 hor10
          refine hK.out _ _ ?_ (fun hHeld => ?_)
          ·exact hHeld.grown hg10 fun k hk => .inl (by rw [HN8.out]; simpa using hk)
          clear hK K
          try simp only [red, Act.put]
          refine wpHead_done (by kernel_rfl) ?_
          obtain ⟨A10, c10, rfl⟩ := own_form ho10
          have HK10 := Lib.hid hHeld
          have hrowp := hHeld.heap HP9.out HNP.out
          obtain ⟨-, -, -, p3, pf⟩ := row4_at hrowp
          have hset := heap_setCell_same _ p 3 _ _ (.slice A10 (fl.length + 1) c10) hrowp
          have hk11 : Kept [p] wr9 (wr9.setCell ⟨p, 3, none⟩ (.slice A10 (fl.length + 1) c10)) := (Kept.refl _ _).setCell (.inl (by simp)) _
          have hpo : (Value.slice A10 (fl.length + 1) c10).ownBlock = none ∨ (Value.slice A10 (fl.length + 1) c10).ownBlock ≠ some p := owns_obj ho10 hrowp (by decide)
          have HI11 : Hid (TxAt (wr9.setCell ⟨p, 3, none⟩ (.slice A10 (fl.length + 1) c10)) w.heap.size id) := Lib.hid (hk11.heap (hHeld.heap HI9.out HNB.out) (by simpa using hip))
          have hKG : Kept [p] wG (wr9.setCell ⟨p, 3, none⟩ (.slice A10 (fl.length + 1) c10)) := ((((Kept.of_ext HX8.out).trans HK9.out).mono (N := p :: N8) (by intro k hk; simp at hk; simp [hk])).trans (hHeld.mono (by intro k hk; simp [hk])) |>.trans (hk11.mono (by intro k hk; simp at hk; simp [hk]))).less (by intro k hk hlt; rcases List.mem_cons.1 hk with h | h; exact List.mem_singleton.2 h; have := HNG.out k h; omega)
          have hpm : ∀ k ∈ [p], k ∈ M := by intro k hk; simp at hk; subst hk; exact hp
          have hNW : OwnR RTr 13 85 M wG (wr9.setCell ⟨p, 3, none⟩ (.slice A10 (fl.length + 1) c10)) wG.heap.size (.slice A10 (fl.length + 1) c10) (fl ++ [⟨id, sh, true, [], []⟩]) := OwnR.push q1 q2 HQ4.out rfl ⟨A2, c2, rfl, HSH.out.kept (.of_ext HXG.out)⟩ (ho10.kept hk11.grown1 hpo)
          have HCN := Lib.hid (co_own (by simpa using hset) HMG.out (hNW.read (hKG.mono hpm)))
          have HKN : Hid (Kept [p] w (wr9.setCell ⟨p, 3, none⟩ (.slice A10 (fl.length + 1) c10))) := Lib.hid ((Kept.of_ext HXG.out).trans hKG)
          have HBM := Lib.hid hp
          clear hset hk11 hpo hKG hNW hrowp ho10 hg10 hor10 hq8 hsl hrow8 hHeld k3 i0 i1 i2
          go_wp2_with fail
          generalize wr9.setCell ⟨p, 3, none⟩ (.slice A10 (fl.length + 1) c10) = w11 at *
          clear p3 pf
          obtain ⟨Af, cf2, hcr⟩ := HCN.out
          obtain ⟨-, r1, r2, -, rf⟩ := rows4 hcr.row
          obtain ⟨-, i1, i2, -⟩ := rows3 HI11.out
          have hxd11 : Ext w11 w11.drew := (Ext.refl _).drew
          clear hcr
          by_cases hbb : id.boot = s.boot
          ·have q4 : (id.boot == s.boot) = true := by rw [hbb]; simp
           rw [if_pos hbb] at HVG
           clear hbb
           refine wp_region_phase (S := fun w' => Ext w11 w') 6 (by kernel_rfl) (by kernel_rfl) ?_ (fun hHeld => ?_)
           ·exact hxd11
           simp only [List.drop_succ_cons, List.drop_zero]
           refine name_head ?_
           intro wr0 hw0
           rw [hw0] at hHeld
           refine wt 0 _ ?_
           simp only [red, Act.put]
           refine wt 1 _ ?_
           simp only [red, Act.put]
           refine wt 2 _ ?_
           simp only [red, Act.put]
           refine wt 3 _ ?_
           simp only [red, Act.put]
           refine wt 4 _ ?_
           simp only [red, Act.put]
           refine wt 5 _ ?_
           simp only [red, Act.put]
           refine wpHead_done (by kernel_rfl) ?_
           have HX12 := Lib.hid hHeld
           generalize wr0 = w12 at *
           clear hHeld
           go_wp2_with fail
           have hxd12 : Ext w11 w12.drew := HX12.out.drew
           have hwid : IntKind.i64.wrap (id.n + 1) = id.n + 1 := by
            obtain ⟨k, hk⟩ := Int.eq_ofNat_of_zero_le (show 0 ≤ id.n by omega)
            rw [hk]
            exact wrap64_nat (k + 1) (by omega)
           refine wp_region_phase (S := fun w' => Ext w11 w') 9 (by kernel_rfl) (by kernel_rfl) ?_ (fun hHeld => ?_)
           ·exact hxd12
           simp only [List.drop_succ_cons, List.drop_zero]
           refine name_head ?_
           intro wr0 hw0
           rw [hw0] at hHeld
           refine wt 0 _ ?_
           simp only [red, Act.put]
           refine wt 1 _ ?_
           simp only [red, Act.put]
           refine wt 2 _ ?_
           simp only [red, Act.put]
           refine wt 3 _ ?_
           simp only [red, Act.put]
           refine wt 4 _ ?_
           simp only [red, Act.put]
           refine wt 5 _ ?_
           simp only [red, Act.put]
           refine wt 6 _ ?_
           simp only [red, Act.put]
           refine wt 7 _ ?_
           simp only [red, Act.put]
           refine wt 8 _ ?_
           simp only [red, Act.put]
           refine wpHead_done (by kernel_rfl) ?_
           have HX13 := Lib.hid hHeld
           generalize wr0 = w13 at *
           have r2w := r2 w13 hHeld
           have rfw := fun j => rf w13 j hHeld
           have HNX := Lib.hid (co_next (HCN.out.ext HX13.out) HBM.out (max s.next (id.n + 1)))
           have HKX : Hid (Kept [p] w w13) := Lib.hid (HKN.out.ext HX13.out)
           clear hHeld r1 r2 rf i1 i2
           go_wp2
           go_ret
           rw [HVG.out]
           exact ⟨rfl, HNX.out.1, HKX.out.trans HNX.out.2⟩
          ·have q4 : (id.boot == s.boot) = false := by simpa using hbb
           rw [if_neg hbb] at HVG
           clear hbb
           refine wp_region_phase (S := fun w' => Ext w11 w') 6 (by kernel_rfl) (by kernel_rfl) ?_ (fun hHeld => ?_)
           ·exact hxd11
           simp only [List.drop_succ_cons, List.drop_zero]
           refine name_head ?_
           intro wr0 hw0
           rw [hw0] at hHeld
           refine wt 0 _ ?_
           simp only [red, Act.put]
           refine wt 1 _ ?_
           simp only [red, Act.put]
           refine wt 2 _ ?_
           simp only [red, Act.put]
           refine wt 3 _ ?_
           simp only [red, Act.put]
           refine wt 4 _ ?_
           simp only [red, Act.put]
           refine wt 5 _ ?_
           simp only [red, Act.put]
           refine wpHead_done (by kernel_rfl) ?_
           have HX12 := Lib.hid hHeld
           generalize wr0 = w12 at *
           clear hHeld r1 r2 rf i1 i2
           go_wp2
           go_ret
           rw [HVG.out]
           exact ⟨rfl, HCN.out.ext HX12.out, HKN.out.ext HX12.out⟩
         exact AllHead.nil
        exact AllHead.nil
       exact AllHead.nil
      exact AllHead.nil
end Go.Proofs.Ytijopcdjlpafdaa
