/- The walk of the reference's Begin. Conditions: the hypotheses of the theorem. -/
import Derived.Test.YtijopcdjlpafdaaC2
import Derived.Test.YtijopcdjlpafdaaC5
namespace Go.Proofs.Ytijopcdjlpafdaa
open Go.RowKit
theorem Sl.ne_new {w : World} {ad : Addr} {x : Value} {xs : List Value} (h : Sl w (some ad) (x :: xs)) : (some w.heap.size : Option Nat) ≠ some ad.block := by
 obtain ⟨ad', e, hc⟩ := h 0 x rfl
 cases e
 have := World.block_lt_of_cell? w _ hc
 rw [addr_add_block] at this
 intro e
 injection e with e
 omega
theorem own_ne {w : World} {b e s n : Nat} {v : Value} {xs : List Value} (h : w.ownsRow b e s v n xs) : v.ownBlock ≠ some w.heap.size := fun e => by
 have := (h.lt _ e).2
 omega
set_option maxRecDepth 20000 in
set_option maxHeartbeats 8000000 in
theorem RBegin_any {M : List Nat} {w : World} {q : Nat} {s : Cs} (h : Rc M w q s) (hs : s.Ok) (hp : q ∈ M) (hM : ∀ k ∈ M, k < w.heap.size) (A : Option Addr) (c : Nat) (sh : List Int) (hsh : SlM M w A (ib sh)) (hm : sh.length ≤ 140737488355328) :
 Calls Try.prog 43 #[pt q, .slice A sh.length c] w fun e w' => e = .returned (.tuple #[.agg #[.int .i64 (beginT s sh).node, .int .i64 (beginT s sh).boot, .int .i64 (beginT s sh).n], .int .i64 (beginE s sh)]) ∧ Rc M w' q (beginS s sh) ∧ Kept [q] w w' := by
 have HCO := Lib.hid h
 have HSH := Lib.hid hsh
 have HS := Lib.hid hs
 have HR := fun W (hx : Ext w W) => rright_any W A c sh (hsh.sl.ext hx) hm
 obtain ⟨Ac, cap, h⟩ := h
 obtain ⟨c0, c1, c2, c3, cf⟩ := rows4 h.row
 have HH := Lib.hid h
 have HM := Lib.hid hM
 have HPL : Hid (q < w.heap.size) := Lib.hid (obj_lt h.row)
 clear h hsh hs hM
 have bad : ∀ n, beginE s sh = n → n ≠ 0 → Hid (beginE s sh = n ∧ beginT s sh = ⟨0, 0, 0⟩ ∧ beginS s sh = s) := fun n e hn => Lib.hid ⟨e, by unfold beginT; rw [e, if_neg hn], by unfold beginS; rw [e, if_neg hn]⟩
 unfold pt
 go_enter Try.func43, Try.ntmps43
 go_wp2_with (with_reducible refine sA 35 ?_)
 refine go_on (wpList_alloc_ rfl rfl apitx_info ?_)
 generalize hwa : w.alloc (.cells #[.int .i64 0, .int .i64 0, .int .i64 0] 35) = wa
 have hxa : Ext w wa := hwa ▸ (Ext.refl w).alloc _
 have HRA : Hid (wa.heap[w.heap.size]? = some (.cells #[.int .i64 0, .int .i64 0, .int .i64 0] 35 (0, 0))) := Lib.hid (hwa ▸ heap_alloc_new w _)
 have HZA : Hid (w.heap.size < wa.heap.size) := Lib.hid (obj_lt HRA.out)
 clear hwa
 by_cases h1 : s.boot = 0
 ·have HV := bad 13 (by unfold beginE; rw [if_pos h1]) (by decide)
  rw [h1] at c1
  clear HR h1 bad c0 c2 c3 cf
  go_wp2_with (with_reducible refine sS 35 ?_)
  refine go_on (wpList_store_whole rfl rfl rfl rfl HRA.out (apitx_size 0 0 0) rfl (by simp [Value.oneCell']) ?_)
  intro W hrow hkW _
  have HXW := Lib.hid (hxa.kept hkW (one_ge (Nat.le_refl _)))
  clear hkW
  go_wp2
  ((try simp only [Exit.inBlock, Exit.then]); refine bodyPost_ret (results_cell1 rfl _ _ w.heap.size _ _ _ _ rfl hrow Try.underlying35 rfl (by kernel_rfl)) rfl ?_)
  rw [HV.out.1, HV.out.2.1, HV.out.2.2]
  exact ⟨rfl, HCO.out.ext HXW.out, .of_ext HXW.out⟩
 have hne : (s.boot == 0) = false := by simpa using h1
 by_cases hr : rightF sh = true; rotate_left
 ·have HV := bad 2 (by unfold beginE; rw [if_neg h1, if_pos (by simpa using hr)]) (by decide)
  have hr : rightF sh = false := by simpa using hr
  rw [hr] at HR
  clear h1 bad c0 c2 c3 cf
  go_wp2_with fail
  refine (HR _ hxa).mono ?_
  rintro e wb ⟨rfl, hxb⟩
  have hxab := hxa.trans hxb
  have HRB := Lib.hid (hxb.obj HRA.out)
  clear HRA hxb
  go_wp2_with (with_reducible refine sS 35 ?_)
  refine go_on (wpList_store_whole rfl rfl rfl rfl HRB.out (apitx_size 0 0 0) rfl (by simp [Value.oneCell']) ?_)
  intro W hrow hkW _
  have HXW := Lib.hid (hxab.kept hkW (one_ge (Nat.le_refl _)))
  clear hkW
  go_wp2
  ((try simp only [Exit.inBlock, Exit.then]); refine bodyPost_ret (results_cell1 rfl _ _ w.heap.size _ _ _ _ rfl hrow Try.underlying35 rfl (by kernel_rfl)) rfl ?_)
  rw [HV.out.1, HV.out.2.1, HV.out.2.2]
  exact ⟨rfl, HCO.out.ext HXW.out, .of_ext HXW.out⟩
 rw [hr] at HR
 have HRW := HR _ hxa
 clear HR
 by_cases h8 : 8 ≤ s.under.length
 ·have HV := bad 8 (by unfold beginE; rw [if_neg h1, if_neg (by simp [hr]), if_pos (.inl h8)]) (by decide)
  have h8' : (8 : Int) ≤ (s.under.length : Int) := by omega
  clear h1 bad c0 cf hr
  go_wp2_with fail
  refine HRW.mono ?_
  rintro e wb ⟨rfl, hxb⟩
  have hxab := hxa.trans hxb
  have HRB := Lib.hid (hxb.obj HRA.out)
  clear HRA hxb
  go_wp2_with (with_reducible refine sS 35 ?_)
  refine go_on (wpList_store_whole rfl rfl rfl rfl HRB.out (apitx_size 0 0 0) rfl (by simp [Value.oneCell']) ?_)
  intro W hrow hkW _
  have HXW := Lib.hid (hxab.kept hkW (one_ge (Nat.le_refl _)))
  clear hkW
  go_wp2
  ((try simp only [Exit.inBlock, Exit.then]); refine bodyPost_ret (results_cell1 rfl _ _ w.heap.size _ _ _ _ rfl hrow Try.underlying35 rfl (by kernel_rfl)) rfl ?_)
  rw [HV.out.1, HV.out.2.1, HV.out.2.2]
  exact ⟨rfl, HCO.out.ext HXW.out, .of_ext HXW.out⟩
 have h8' : ¬ (8 : Int) ≤ (s.under.length : Int) := by omega
 by_cases hnx : 2147483647 ≤ s.next
 ·have HV := bad 8 (by unfold beginE; rw [if_neg h1, if_neg (by simp [hr]), if_pos (.inr hnx)]) (by decide)
  clear h1 bad c0 cf hr h8
  go_wp2_with fail
  refine HRW.mono ?_
  rintro e wb ⟨rfl, hxb⟩
  have hxab := hxa.trans hxb
  have HRB := Lib.hid (hxb.obj HRA.out)
  clear HRA hxb
  go_wp2_with (with_reducible refine sS 35 ?_)
  refine go_on (wpList_store_whole rfl rfl rfl rfl HRB.out (apitx_size 0 0 0) rfl (by simp [Value.oneCell']) ?_)
  intro W hrow hkW _
  have HXW := Lib.hid (hxab.kept hkW (one_ge (Nat.le_refl _)))
  clear hkW
  go_wp2
  ((try simp only [Exit.inBlock, Exit.then]); refine bodyPost_ret (results_cell1 rfl _ _ w.heap.size _ _ _ _ rfl hrow Try.underlying35 rfl (by kernel_rfl)) rfl ?_)
  rw [HV.out.1, HV.out.2.1, HV.out.2.2]
  exact ⟨rfl, HCO.out.ext HXW.out, .of_ext HXW.out⟩
 have HV : Hid (beginE s sh = 0 ∧ beginT s sh = ⟨s.node, s.boot, s.next⟩ ∧ beginS s sh = ⟨s.node, s.boot, s.next + 1, s.under ++ [⟨⟨s.node, s.boot, s.next⟩, sh, false, [], []⟩]⟩) := Lib.hid (by
  have e : beginE s sh = 0 := by unfold beginE; rw [if_neg h1, if_neg (by simp [hr]), if_neg (by omega)]
  exact ⟨e, by unfold beginT; rw [if_pos e], by unfold beginS; rw [if_pos e]⟩)
 have hwn : IntKind.i64.wrap (s.next + 1) = s.next + 1 := by
  obtain ⟨k, hk⟩ := Int.eq_ofNat_of_zero_le (show 0 ≤ s.next by have := HS.out.next1; omega)
  rw [hk]
  exact wrap64_nat (k + 1) (by omega)
 have hfew : s.under.length ≤ 1000 := by omega
 have hshl : sh.length ≤ 4 := (rightF_len hr).2
 clear bad h1 hr h8
 go_wp2_with fail
 refine HRW.mono ?_
 rintro e wb ⟨rfl, hxb⟩
 have HRB := Lib.hid (hxb.obj HRA.out)
 have hxa := hxa.trans hxb
 have HZA : Hid (w.heap.size < wb.heap.size) := Lib.hid (obj_lt HRB.out)
 clear HRA hxb HRW
 go_wp2_with fail
 have c0a := fun W (hx : Ext wb W) => c0 W (hxa.trans hx)
 have c1a := fun W (hx : Ext wb W) => c1 W (hxa.trans hx)
 have c2a := fun W (hx : Ext wb W) => c2 W (hxa.trans hx)
 clear c0 c1 c2
 have hxad : Ext wb wb.drew := (Ext.refl _).drew
 refine wp_region_phase (S := fun w' => Ext wb w') 14 (by kernel_rfl) (by kernel_rfl) ?_ (fun hHeld => ?_)
 ·exact hxad
 simp only [List.drop_succ_cons, List.drop_zero]
 refine name_head ?_
 intro wr0 hw0
 rw [hw0] at hHeld
 refine wt 0 _ ?_
 simp only [red, Act.put]
 refine wt 1 _ ?_
 simp only [red, Act.put]
 refine wt 2 _ ?_
 simp only [red, Act.put]
 refine wt 3 _ ?_
 simp only [red, Act.put]
 refine wt 4 _ ?_
 simp only [red, Act.put]
 refine wt 5 _ ?_
 simp only [red, Act.put]
 refine wt 6 _ ?_
 simp only [red, Act.put]
 refine wt 7 _ ?_
 simp only [red, Act.put]
 refine wt 8 _ ?_
 simp only [red, Act.put]
 refine wt 9 _ ?_
 simp only [red, Act.put]
 refine wt 10 _ ?_
 simp only [red, Act.put]
 refine wt 11 _ ?_
 simp only [red, Act.put]
 refine wt 12 _ ?_
 simp only [red, Act.put]
 refine rd [13] ?_
 refine ac (fun K hK => ?_) ?_
 ·go_simp
  refine name_world ?_
  rintro wr13 hw13
  have hxn13 : Ext wr0 wr13 := hw13 ▸ (Ext.refl _).alloc _
  have hrow13 : wr13.heap[wr0.heap.size]? = some (.cells #[.int .i64 0, .int .i64 0, .int .i64 0] 35) := hw13 ▸ heap_alloc_new wr0 _
  have hHw := hHeld
  refine hK.out _ _ ?_ (fun hHeld => ?_)
  ·first | assumption | exact Ext.trans (by assumption) (by assumption)
  clear hK K
  try simp only [red, Act.put]
  refine wpHead_done (by kernel_rfl) ?_
  have hsz13 := hrow13
  go_wp2_with (with_reducible refine sS 35 ?_)
  refine go_on (wpList_store_whole rfl rfl rfl rfl hrow13 (apitx_size _ _ _) rfl (by simp [Value.oneCell']) ?_)
  intro w9 hrow9 hk9 _
  have hx9 : Ext wb w9 := hHeld.kept hk9 (one_ge hHw.size)
  have HG6 := Lib.hid hHw.size
  have HR9 := Lib.hid hrow9
  have HX9 := Lib.hid hx9
  generalize wr0.heap.size = g6 at *
  clear hk9 hsz13 hrow13 hrow9 hHeld
  have d0 := c0a w9 hx9
  have d1 := c1a w9 hx9
  have d2 := c2a w9 hx9
  have d3 := c3 w9 (hxa.trans hx9)
  have df := fun j => cf w9 j (hxa.trans hx9)
  clear c0a c1a c2a c3 cf hx9
  go_wp2_with fail
  have hxw9 := hxa.trans HX9.out
  have hset := heap_setCell_same w9 q 2 _ _ (.int .i64 (s.next + 1)) (hxw9.obj HH.out.row)
  have hk3 : Kept [q] w (w9.setCell ⟨q, 2, none⟩ (.int .i64 (s.next + 1))) := (Kept.of_ext hxw9).setCell (.inl (by simp)) _
  have hk93 : Kept [q] w9 (w9.setCell ⟨q, 2, none⟩ (.int .i64 (s.next + 1))) := (Kept.refl _ _).setCell (.inl (by simp)) _
  have hp0 : ¬ w.heap.size = q := by have := HPL.out; omega
  have hp6 : ¬ g6 = q := by have := HPL.out; have := HG6.out; have := hxa.size; omega
  have HR0 := Lib.hid (hk93.heap (HX9.out.obj HRB.out) (by simpa using hp0))
  have HR6 := Lib.hid (hk93.heap HR9.out (by simpa using hp6))
  have hg9 := obj_lt HR9.out
  have hz9 := hxw9.size
  have hz39 : w9.heap.size ≤ (w9.setCell ⟨q, 2, none⟩ (.int .i64 (s.next + 1))).heap.size := hk93.size
  generalize w9.setCell ⟨q, 2, none⟩ (.int .i64 (s.next + 1)) = w3 at *
  clear d0 d1 d2 d3 df hk93 HRB HX9 HR9
  have hsub : ∀ k ∈ [q], k ∈ w.heap.size :: g6 :: M := by intro k hk; simp at hk; subst hk; simp [hp]
  have hnew : ∀ k ∈ w.heap.size :: g6 :: M, k ∈ M ∨ w.heap.size ≤ k := by
   intro k hk
   simp only [List.mem_cons] at hk
   rcases hk with rfl | rfl | hk
   ·exact .inr (Nat.le_refl _)
   ·exact .inr (Nat.le_trans hxa.size HG6.out)
   ·exact .inl hk
  have HM3 : Hid (∀ k ∈ w.heap.size :: g6 :: M, k < w3.heap.size) := Lib.hid (by
   intro k hk
   simp only [List.mem_cons] at hk
   have h1 := HZA.out
   have h2 := HG6.out
   rcases hk with rfl | rfl | hk
   ·omega
   ·omega
   ·have := HM.out k hk; omega)
  have HPM : Hid (q ∈ w.heap.size :: g6 :: M) := Lib.hid (by simp [hp])
  have HMM : Hid (∀ k ∈ M, k ∈ w.heap.size :: g6 :: M) := Lib.hid fun k hk => by simp [hk]
  have HRS := Lib.hid ((HH.out.rs.old hnew).kept (hk3.mono hsub))
  have HS3 : Hid (SlM (w.heap.size :: g6 :: M) w3 A (ib sh)) := Lib.hid ((SlM.old HSH.out hnew).kept (hk3.mono hsub))
  have hset3 : w3.heap[q]? = some (.cells #[.int .i64 s.node, .int .i64 s.boot, .int .i64 (s.next + 1), .slice Ac s.under.length cap] 93 (0, 0)) := by simpa using hset
  have HP3 := Lib.hid hset3
  have HK3 := Lib.hid hk3
  have H0M : Hid (w.heap.size ∈ w.heap.size :: g6 :: M) := Lib.hid (by simp)
  have HNE : Hid (q ≠ w.heap.size) := Lib.hid fun e => hp0 e.symm
  generalize hMM : w.heap.size :: g6 :: M = M2 at *
  obtain ⟨ca, p1, p2, p3, p4⟩ := HRS.out
  have HP1 := Lib.hid p1
  have HP2 := Lib.hid p2
  have HP4 := Lib.hid p4
  have HSA := Lib.hid p3.sl
  have HOA := Lib.hid (RRr.one p1 p4)
  have HLA : Hid (ca.flatten.length = s.under.length * 7) := Lib.hid (by rw [flatten_length p2, p1])
  have HSI := Lib.hid HS3.out.sl
  obtain ⟨e0, e1, e2, e3, ef⟩ := rows4 hset3
  obtain ⟨t0, t1, t2, tf⟩ := rows3 HR6.out
  have htx : ∀ W, Ext w3 W → ∀ j v, (txiC ⟨s.node, s.boot, s.next⟩)[j]? = some v → W.cell? ((⟨g6, 0, none⟩ : Addr).add j) = some v := fun W hx j v hj => by
   have hj3 : j < 3 := (List.getElem?_eq_some_iff.1 hj).1
   have e : (⟨g6, 0, none⟩ : Addr).add j = ⟨g6, j, none⟩ := by
    unfold Addr.add
    by_cases h0 : j = 0 <;> simp [h0]
   rw [e]
   match j, hj3 with
   | 0, _ => simp [txiC] at hj; subst hj; exact t0 W hx
   | 1, _ => simp [txiC] at hj; subst hj; exact t1 W hx
   | 2, _ => simp [txiC] at hj; subst hj; exact t2 W hx
  have hp0' : w.heap.size ∉ [q] := by simpa using hp0
  have hp6' : g6 ∉ [q] := by simpa using hp6
  clear hset hset3 hk3 hsub hnew hg9 hz9 hz39 hMM e0 e1 e2 hxw9 hp0 hp6 tf p1 p2 p3 p4 t0 t1 t2
  have hx3 : Ext w3 w3.drew := (Ext.refl _).drew
  have hb0 : w3.heap.size ≤ w3.heap.size := Nat.le_refl _
  refine wp_region_phase (S := fun w' => Ext w3 w') 16 (by kernel_rfl) (by kernel_rfl) ?_ (fun hHeld => ?_)
  ·exact hx3
  simp only [List.drop_succ_cons, List.drop_zero]
  refine name_head ?_
  intro wr0 hw0
  rw [hw0] at hHeld
  refine wt 0 _ ?_
  simp only [red, Act.put]
  refine wt 2 _ ?_
  simp only [red, Act.put]
  refine wt 3 _ ?_
  simp only [red, Act.put]
  refine wt 4 _ ?_
  simp only [red, Act.put]
  refine wt 5 _ ?_
  simp only [red, Act.put]
  refine wy 7 (v := .agg #[.int .i64 s.node, .int .i64 s.boot, .int .i64 s.next]) (by rfl) (by exact yieldsIf_load_elem (by rfl) 35 _ rfl ⟨g6, 0, none⟩ rfl (txiC ⟨s.node, s.boot, s.next⟩) _ (fun w' hx => htx w' hx) Try.underlying35 rfl (by kernel_rfl)) ?_
  simp only [red, Act.put]
  refine wt 9 _ ?_
  simp only [red, Act.put]
  refine rd [1, 8] ?_
  refine ac (fun K hK => ?_) ?_
  ·go_simp
   refine name_world ?_
   rintro wr1 hw1
   have hxn1 : Ext wr0 wr1 := hw1 ▸ (Ext.refl _).alloc _
   have hrow1 : wr1.heap[wr0.heap.size]? = some (.cells #[] 98) := hw1 ▸ heap_alloc_new wr0 _
   have ho1 : wr1.ownsRow w3.heap.size 98 7 (.slice (some ⟨wr0.heap.size, 0, none⟩) 0 0) 0 [] := hw1 ▸ World.ownsRow_made wr0 #[] 0 hHeld.size (by simp [maxLen]) rfl
   try replace ho8 := owns_ext ho8 hxn1
   try replace ho10 := owns_ext ho10 hxn1
   try have hne12 := hsl12.ne_new
   try replace hsl12 := hsl12.ext hxn1
   refine hK.out _ _ ?_ (fun hHeld => ?_)
   ·first | assumption | exact Ext.trans (by assumption) (by assumption)
   clear hK K
   try simp only [red, Act.put]
   refine rd [6, 8] ?_
   refine ac (fun K hK => ?_) ?_
   ·refine step_ap rrT ho1 (HSA.out.ext hHeld) rfl rfl rfl rfl HLA.out HOA.out (by omega) (by omega) hHeld.size ?_
    rintro v6 wr6 ho6 hg6 hor6
    rw [Nat.zero_add] at ho6
    obtain ⟨A6, c6, rfl⟩ := own_form ho6
    have hx6 := hHeld.own ho1 hb0 hg6
    try replace ho8 := ho8.kept hg6 (owns_apart ho8 ho1 (by decide))
    try replace ho10 := ho10.kept hg6 (owns_apart ho10 ho1 (by decide))
    try replace hsl12 := hsl12.grown hg6 (fun ad e => by cases e; exact hne12)
    refine hK.out _ _ ?_ (fun hHeld => ?_)
    ·exact hx6
    clear hK K
    try simp only [red, Act.put]
    refine rd [8] ?_
    refine ac (fun K hK => ?_) ?_
    ·go_simp
     refine name_world ?_
     rintro wr8 hw8
     have hxn8 : Ext wr6 wr8 := hw8 ▸ (Ext.refl _).alloc _
     have hrow8 : wr8.heap[wr6.heap.size]? = some (.cells #[] 3) := hw8 ▸ heap_alloc_new wr6 _
     have ho8 : wr8.ownsRow w3.heap.size 3 1 (.slice (some ⟨wr6.heap.size, 0, none⟩) 0 0) 0 [] := hw8 ▸ World.ownsRow_made wr6 #[] 0 hHeld.size (by simp [maxLen]) rfl
     try replace ho1 := owns_ext ho1 hxn8
     try replace ho6 := owns_ext ho6 hxn8
     refine hK.out _ _ ?_ (fun hHeld => ?_)
     ·first | assumption | exact Ext.trans (by assumption) (by assumption)
     clear hK K
     try simp only [red, Act.put]
     refine rd [10] ?_
     refine ac (fun K hK => ?_) ?_
     ·refine step_ap intsT ho8 (HSI.out.ext hHeld) rfl rfl rfl rfl (by simp) (ib_one _) (by omega) (by omega) hHeld.size ?_
      rintro v10 wr10 ho10 hg10 hor10
      rw [Nat.zero_add] at ho10
      obtain ⟨A10, c10, rfl⟩ := own_form ho10
      have hx10 := hHeld.own ho8 hb0 hg10
      try replace ho1 := ho1.kept hg10 (owns_apart ho1 ho8 (by decide))
      try replace ho6 := ho6.kept hg10 (owns_apart ho6 ho8 (by decide))
      refine hK.out _ _ ?_ (fun hHeld => ?_)
      ·exact hx10
      clear hK K
      try simp only [red, Act.put]
      refine wt 11 _ ?_
      simp only [red, Act.put]
      refine rd [12] ?_
      refine ac (fun K hK => ?_) ?_
      ·go_simp
       refine name_world ?_
       rintro wr12 hw12
       have hxn12 : Ext wr10 wr12 := hw12 ▸ (Ext.refl _).alloc _
       have hrow12 : wr12.heap[wr10.heap.size]? = some (.cells #[.int .i64 s.node, .int .i64 s.boot, .int .i64 s.next, .slice A10 sh.length c10, .bool false, .slice none 0 0, .slice none 0 0] 98) := hw12 ▸ heap_alloc_new wr10 _
       try have hne12 := own_ne ho1
       replace ho10 := owns_ext ho10 hxn12
       try replace ho1 := owns_ext ho1 hxn12
       try replace ho6 := owns_ext ho6 hxn12
       have hsl12 : Sl wr12 (some ⟨wr10.heap.size, 0, none⟩) (rrC ⟨⟨s.node, s.boot, s.next⟩, sh, false, [], []⟩ (.slice A10 sh.length c10) (.slice none 0 0) (.slice none 0 0)) := Sl.of_row hrow12
       refine hK.out _ _ ?_ (fun hHeld => ?_)
       ·first | assumption | exact Ext.trans (by assumption) (by assumption)
       clear hK K
       try simp only [red, Act.put]
       refine rd [13] ?_
       refine ac (fun K hK => ?_) ?_
       ·refine step_ap rrT ho6 hsl12 rfl rfl rfl rfl rfl (rrC_one _ _ _ _ _ _ _ _ _ _) (by omega) (by omega) hHeld.size ?_
        rintro v13 wr13 ho13 hg13 hor13
        have ho10' := ho10.kept hg13 (owns_apart ho10 ho6 (by decide))
        have hx13 := hHeld.own ho6 hb0 hg13
        obtain ⟨A13, c13, rfl⟩ := own_form ho13
        refine hK.out _ _ ?_ (fun hHeld => ?_)
        ·exact hx13
        clear hK K
        try simp only [red, Act.put]
        refine wt 14 _ ?_
        simp only [red, Act.put]
        refine wt 15 _ ?_
        simp only [red, Act.put]
        refine wpHead_done (by kernel_rfl) ?_
        have HN : OwnR RRr 7 98 M2 wr13 wr13 w3.heap.size (.slice A13 (s.under.length + 1) c13) (s.under ++ [⟨⟨s.node, s.boot, s.next⟩, sh, false, [], []⟩]) := OwnR.push HP1.out HP2.out (fun k cs x h1 h2 => RRr.kept (HP4.out k cs x h1 h2) (.of_ext hHeld)) rfl ⟨A10, c10, none, 0, none, 0, rfl, SlM.own ho10' rfl (fun k hk => HM3.out k hk), SlM.nil _ _ _, SlM.nil _ _ _⟩ ho13
        have HST := Lib.hid (rc_storeR (hHeld.obj HP3.out) HPM.out (fun k hk => HM3.out k hk) (.of_ext hHeld) (Kept.refl _ _) HN)
        have f3 := e3 _ hHeld
        have ff := fun j => ef _ j hHeld
        clear HN ho10' ho10 ho13 hg13 hor13 hsl12 hrow12 hx13 e3 ef hHeld
        go_wp2_with (with_reducible first | refine sL 35 ?_ | refine sS 35 ?_)
        have HR6' := Lib.hid (HST.out.2.heap HR6.out hp6')
        have HR0' := Lib.hid (HST.out.2.heap HR0.out hp0')
        generalize wr13.setCell ⟨q, 3, none⟩ (.slice A13 (s.under.length + 1) c13) = w12 at *
        clear f3 ff
        refine go_on (wpList_load_row rfl 35 _ rfl g6 rfl 35 _ (0, 0) _ HR6'.out Try.underlying35 rfl (apitx_size _ _ _) ?_)
        go_wp2_with (with_reducible first | refine sL 35 ?_ | refine sS 35 ?_)
        refine go_on (wpList_store_whole rfl rfl rfl rfl HR0'.out (apitx_size _ _ _) rfl (by simp [Value.oneCell']) ?_)
        intro w13 hrow hk13 _
        have HCO : Hid (Rc M w13 q ⟨s.node, s.boot, s.next + 1, s.under ++ [⟨⟨s.node, s.boot, s.next⟩, sh, false, [], []⟩]⟩) := Lib.hid ((HST.out.1.kept hk13 (by simpa using HNE.out) (by intro k hk; simp at hk; subst hk; exact H0M.out)).old fun k hk => .inl (HMM.out k hk))
        have HKK : Hid (Kept [q] w w13) := Lib.hid ((((HK3.out.trans HST.out.2).mono (N := [q, w.heap.size]) (by intro k hk; simp at hk; simp [hk])).trans (hk13.mono (by intro k hk; simp at hk; simp [hk]))).less (by intro k hk hlt; simp at hk; rcases hk with h | h; exact List.mem_singleton.2 h; exact absurd hlt (by omega)))
        clear hk13
        go_wp2
        ((try simp only [Exit.inBlock, Exit.then]); refine bodyPost_ret (results_cell1 rfl _ _ w.heap.size _ _ _ _ rfl hrow Try.underlying35 rfl (by kernel_rfl)) rfl ?_)
        rw [HV.out.1, HV.out.2.1, HV.out.2.2]
        exact ⟨rfl, HCO.out, HKK.out⟩
       exact AllHead.nil
      exact AllHead.nil
     exact AllHead.nil
    exact AllHead.nil
   refine ac (fun K hK => ?_) ?_
   ·go_simp
    refine name_world ?_
    rintro wr8 hw8
    have hxn8 : Ext wr1 wr8 := hw8 ▸ (Ext.refl _).alloc _
    have hrow8 : wr8.heap[wr1.heap.size]? = some (.cells #[] 3) := hw8 ▸ heap_alloc_new wr1 _
    have ho8 : wr8.ownsRow w3.heap.size 3 1 (.slice (some ⟨wr1.heap.size, 0, none⟩) 0 0) 0 [] := hw8 ▸ World.ownsRow_made wr1 #[] 0 hHeld.size (by simp [maxLen]) rfl
    try replace ho1 := owns_ext ho1 hxn8
    try replace ho6 := owns_ext ho6 hxn8
    refine hK.out _ _ ?_ (fun hHeld => ?_)
    ·first | assumption | exact Ext.trans (by assumption) (by assumption)
    clear hK K
    try simp only [red, Act.put]
    refine rd [6] ?_
    refine ac (fun K hK => ?_) ?_
    ·refine step_ap rrT ho1 (HSA.out.ext hHeld) rfl rfl rfl rfl HLA.out HOA.out (by omega) (by omega) hHeld.size ?_
     rintro v6 wr6 ho6 hg6 hor6
     rw [Nat.zero_add] at ho6
     obtain ⟨A6, c6, rfl⟩ := own_form ho6
     have hx6 := hHeld.own ho1 hb0 hg6
     try replace ho8 := ho8.kept hg6 (owns_apart ho8 ho1 (by decide))
     try replace ho10 := ho10.kept hg6 (owns_apart ho10 ho1 (by decide))
     try replace hsl12 := hsl12.grown hg6 (fun ad e => by cases e; exact hne12)
     refine hK.out _ _ ?_ (fun hHeld => ?_)
     ·exact hx6
     clear hK K
     try simp only [red, Act.put]
     refine rd [10] ?_
     refine ac (fun K hK => ?_) ?_
     ·refine step_ap intsT ho8 (HSI.out.ext hHeld) rfl rfl rfl rfl (by simp) (ib_one _) (by omega) (by omega) hHeld.size ?_
      rintro v10 wr10 ho10 hg10 hor10
      rw [Nat.zero_add] at ho10
      obtain ⟨A10, c10, rfl⟩ := own_form ho10
      have hx10 := hHeld.own ho8 hb0 hg10
      try replace ho1 := ho1.kept hg10 (owns_apart ho1 ho8 (by decide))
      try replace ho6 := ho6.kept hg10 (owns_apart ho6 ho8 (by decide))
      refine hK.out _ _ ?_ (fun hHeld => ?_)
      ·exact hx10
      clear hK K
      try simp only [red, Act.put]
      refine wt 11 _ ?_
      simp only [red, Act.put]
      refine rd [12] ?_
      refine ac (fun K hK => ?_) ?_
      ·go_simp
       refine name_world ?_
       rintro wr12 hw12
       have hxn12 : Ext wr10 wr12 := hw12 ▸ (Ext.refl _).alloc _
       have hrow12 : wr12.heap[wr10.heap.size]? = some (.cells #[.int .i64 s.node, .int .i64 s.boot, .int .i64 s.next, .slice A10 sh.length c10, .bool false, .slice none 0 0, .slice none 0 0] 98) := hw12 ▸ heap_alloc_new wr10 _
       try have hne12 := own_ne ho1
       replace ho10 := owns_ext ho10 hxn12
       try replace ho1 := owns_ext ho1 hxn12
       try replace ho6 := owns_ext ho6 hxn12
       have hsl12 : Sl wr12 (some ⟨wr10.heap.size, 0, none⟩) (rrC ⟨⟨s.node, s.boot, s.next⟩, sh, false, [], []⟩ (.slice A10 sh.length c10) (.slice none 0 0) (.slice none 0 0)) := Sl.of_row hrow12
       refine hK.out _ _ ?_ (fun hHeld => ?_)
       ·first | assumption | exact Ext.trans (by assumption) (by assumption)
       clear hK K
       try simp only [red, Act.put]
       refine rd [13] ?_
       refine ac (fun K hK => ?_) ?_
       ·refine step_ap rrT ho6 hsl12 rfl rfl rfl rfl rfl (rrC_one _ _ _ _ _ _ _ _ _ _) (by omega) (by omega) hHeld.size ?_
        rintro v13 wr13 ho13 hg13 hor13
        have ho10' := ho10.kept hg13 (owns_apart ho10 ho6 (by decide))
        have hx13 := hHeld.own ho6 hb0 hg13
        obtain ⟨A13, c13, rfl⟩ := own_form ho13
        refine hK.out _ _ ?_ (fun hHeld => ?_)
        ·exact hx13
        clear hK K
        try simp only [red, Act.put]
        refine wt 14 _ ?_
        simp only [red, Act.put]
        refine wt 15 _ ?_
        simp only [red, Act.put]
        refine wpHead_done (by kernel_rfl) ?_
        have HN : OwnR RRr 7 98 M2 wr13 wr13 w3.heap.size (.slice A13 (s.under.length + 1) c13) (s.under ++ [⟨⟨s.node, s.boot, s.next⟩, sh, false, [], []⟩]) := OwnR.push HP1.out HP2.out (fun k cs x h1 h2 => RRr.kept (HP4.out k cs x h1 h2) (.of_ext hHeld)) rfl ⟨A10, c10, none, 0, none, 0, rfl, SlM.own ho10' rfl (fun k hk => HM3.out k hk), SlM.nil _ _ _, SlM.nil _ _ _⟩ ho13
        have HST := Lib.hid (rc_storeR (hHeld.obj HP3.out) HPM.out (fun k hk => HM3.out k hk) (.of_ext hHeld) (Kept.refl _ _) HN)
        have f3 := e3 _ hHeld
        have ff := fun j => ef _ j hHeld
        clear HN ho10' ho10 ho13 hg13 hor13 hsl12 hrow12 hx13 e3 ef hHeld
        go_wp2_with (with_reducible first | refine sL 35 ?_ | refine sS 35 ?_)
        have HR6' := Lib.hid (HST.out.2.heap HR6.out hp6')
        have HR0' := Lib.hid (HST.out.2.heap HR0.out hp0')
        generalize wr13.setCell ⟨q, 3, none⟩ (.slice A13 (s.under.length + 1) c13) = w12 at *
        clear f3 ff
        refine go_on (wpList_load_row rfl 35 _ rfl g6 rfl 35 _ (0, 0) _ HR6'.out Try.underlying35 rfl (apitx_size _ _ _) ?_)
        go_wp2_with (with_reducible first | refine sL 35 ?_ | refine sS 35 ?_)
        refine go_on (wpList_store_whole rfl rfl rfl rfl HR0'.out (apitx_size _ _ _) rfl (by simp [Value.oneCell']) ?_)
        intro w13 hrow hk13 _
        have HCO : Hid (Rc M w13 q ⟨s.node, s.boot, s.next + 1, s.under ++ [⟨⟨s.node, s.boot, s.next⟩, sh, false, [], []⟩]⟩) := Lib.hid ((HST.out.1.kept hk13 (by simpa using HNE.out) (by intro k hk; simp at hk; subst hk; exact H0M.out)).old fun k hk => .inl (HMM.out k hk))
        have HKK : Hid (Kept [q] w w13) := Lib.hid ((((HK3.out.trans HST.out.2).mono (N := [q, w.heap.size]) (by intro k hk; simp at hk; simp [hk])).trans (hk13.mono (by intro k hk; simp at hk; simp [hk]))).less (by intro k hk hlt; simp at hk; rcases hk with h | h; exact List.mem_singleton.2 h; exact absurd hlt (by omega)))
        clear hk13
        go_wp2
        ((try simp only [Exit.inBlock, Exit.then]); refine bodyPost_ret (results_cell1 rfl _ _ w.heap.size _ _ _ _ rfl hrow Try.underlying35 rfl (by kernel_rfl)) rfl ?_)
        rw [HV.out.1, HV.out.2.1, HV.out.2.2]
        exact ⟨rfl, HCO.out, HKK.out⟩
       exact AllHead.nil
      exact AllHead.nil
     exact AllHead.nil
    exact AllHead.nil
   exact AllHead.nil
  refine ac (fun K hK => ?_) ?_
  ·go_simp
   refine name_world ?_
   rintro wr8 hw8
   have hxn8 : Ext wr0 wr8 := hw8 ▸ (Ext.refl _).alloc _
   have hrow8 : wr8.heap[wr0.heap.size]? = some (.cells #[] 3) := hw8 ▸ heap_alloc_new wr0 _
   have ho8 : wr8.ownsRow w3.heap.size 3 1 (.slice (some ⟨wr0.heap.size, 0, none⟩) 0 0) 0 [] := hw8 ▸ World.ownsRow_made wr0 #[] 0 hHeld.size (by simp [maxLen]) rfl
   try replace ho1 := owns_ext ho1 hxn8
   try replace ho6 := owns_ext ho6 hxn8
   refine hK.out _ _ ?_ (fun hHeld => ?_)
   ·first | assumption | exact Ext.trans (by assumption) (by assumption)
   clear hK K
   try simp only [red, Act.put]
   refine rd [1] ?_
   refine ac (fun K hK => ?_) ?_
   ·go_simp
    refine name_world ?_
    rintro wr1 hw1
    have hxn1 : Ext wr8 wr1 := hw1 ▸ (Ext.refl _).alloc _
    have hrow1 : wr1.heap[wr8.heap.size]? = some (.cells #[] 98) := hw1 ▸ heap_alloc_new wr8 _
    have ho1 : wr1.ownsRow w3.heap.size 98 7 (.slice (some ⟨wr8.heap.size, 0, none⟩) 0 0) 0 [] := hw1 ▸ World.ownsRow_made wr8 #[] 0 hHeld.size (by simp [maxLen]) rfl
    try replace ho8 := owns_ext ho8 hxn1
    try replace ho10 := owns_ext ho10 hxn1
    try have hne12 := hsl12.ne_new
    try replace hsl12 := hsl12.ext hxn1
    refine hK.out _ _ ?_ (fun hHeld => ?_)
    ·first | assumption | exact Ext.trans (by assumption) (by assumption)
    clear hK K
    try simp only [red, Act.put]
    refine rd [6] ?_
    refine ac (fun K hK => ?_) ?_
    ·refine step_ap rrT ho1 (HSA.out.ext hHeld) rfl rfl rfl rfl HLA.out HOA.out (by omega) (by omega) hHeld.size ?_
     rintro v6 wr6 ho6 hg6 hor6
     rw [Nat.zero_add] at ho6
     obtain ⟨A6, c6, rfl⟩ := own_form ho6
     have hx6 := hHeld.own ho1 hb0 hg6
     try replace ho8 := ho8.kept hg6 (owns_apart ho8 ho1 (by decide))
     try replace ho10 := ho10.kept hg6 (owns_apart ho10 ho1 (by decide))
     try replace hsl12 := hsl12.grown hg6 (fun ad e => by cases e; exact hne12)
     refine hK.out _ _ ?_ (fun hHeld => ?_)
     ·exact hx6
     clear hK K
     try simp only [red, Act.put]
     refine rd [10] ?_
     refine ac (fun K hK => ?_) ?_
     ·refine step_ap intsT ho8 (HSI.out.ext hHeld) rfl rfl rfl rfl (by simp) (ib_one _) (by omega) (by omega) hHeld.size ?_
      rintro v10 wr10 ho10 hg10 hor10
      rw [Nat.zero_add] at ho10
      obtain ⟨A10, c10, rfl⟩ := own_form ho10
      have hx10 := hHeld.own ho8 hb0 hg10
      try replace ho1 := ho1.kept hg10 (owns_apart ho1 ho8 (by decide))
      try replace ho6 := ho6.kept hg10 (owns_apart ho6 ho8 (by decide))
      refine hK.out _ _ ?_ (fun hHeld => ?_)
      ·exact hx10
      clear hK K
      try simp only [red, Act.put]
      refine wt 11 _ ?_
      simp only [red, Act.put]
      refine rd [12] ?_
      refine ac (fun K hK => ?_) ?_
      ·go_simp
       refine name_world ?_
       rintro wr12 hw12
       have hxn12 : Ext wr10 wr12 := hw12 ▸ (Ext.refl _).alloc _
       have hrow12 : wr12.heap[wr10.heap.size]? = some (.cells #[.int .i64 s.node, .int .i64 s.boot, .int .i64 s.next, .slice A10 sh.length c10, .bool false, .slice none 0 0, .slice none 0 0] 98) := hw12 ▸ heap_alloc_new wr10 _
       try have hne12 := own_ne ho1
       replace ho10 := owns_ext ho10 hxn12
       try replace ho1 := owns_ext ho1 hxn12
       try replace ho6 := owns_ext ho6 hxn12
       have hsl12 : Sl wr12 (some ⟨wr10.heap.size, 0, none⟩) (rrC ⟨⟨s.node, s.boot, s.next⟩, sh, false, [], []⟩ (.slice A10 sh.length c10) (.slice none 0 0) (.slice none 0 0)) := Sl.of_row hrow12
       refine hK.out _ _ ?_ (fun hHeld => ?_)
       ·first | assumption | exact Ext.trans (by assumption) (by assumption)
       clear hK K
       try simp only [red, Act.put]
       refine rd [13] ?_
       refine ac (fun K hK => ?_) ?_
       ·refine step_ap rrT ho6 hsl12 rfl rfl rfl rfl rfl (rrC_one _ _ _ _ _ _ _ _ _ _) (by omega) (by omega) hHeld.size ?_
        rintro v13 wr13 ho13 hg13 hor13
        have ho10' := ho10.kept hg13 (owns_apart ho10 ho6 (by decide))
        have hx13 := hHeld.own ho6 hb0 hg13
        obtain ⟨A13, c13, rfl⟩ := own_form ho13
        refine hK.out _ _ ?_ (fun hHeld => ?_)
        ·exact hx13
        clear hK K
        try simp only [red, Act.put]
        refine wt 14 _ ?_
        simp only [red, Act.put]
        refine wt 15 _ ?_
        simp only [red, Act.put]
        refine wpHead_done (by kernel_rfl) ?_
        have HN : OwnR RRr 7 98 M2 wr13 wr13 w3.heap.size (.slice A13 (s.under.length + 1) c13) (s.under ++ [⟨⟨s.node, s.boot, s.next⟩, sh, false, [], []⟩]) := OwnR.push HP1.out HP2.out (fun k cs x h1 h2 => RRr.kept (HP4.out k cs x h1 h2) (.of_ext hHeld)) rfl ⟨A10, c10, none, 0, none, 0, rfl, SlM.own ho10' rfl (fun k hk => HM3.out k hk), SlM.nil _ _ _, SlM.nil _ _ _⟩ ho13
        have HST := Lib.hid (rc_storeR (hHeld.obj HP3.out) HPM.out (fun k hk => HM3.out k hk) (.of_ext hHeld) (Kept.refl _ _) HN)
        have f3 := e3 _ hHeld
        have ff := fun j => ef _ j hHeld
        clear HN ho10' ho10 ho13 hg13 hor13 hsl12 hrow12 hx13 e3 ef hHeld
        go_wp2_with (with_reducible first | refine sL 35 ?_ | refine sS 35 ?_)
        have HR6' := Lib.hid (HST.out.2.heap HR6.out hp6')
        have HR0' := Lib.hid (HST.out.2.heap HR0.out hp0')
        generalize wr13.setCell ⟨q, 3, none⟩ (.slice A13 (s.under.length + 1) c13) = w12 at *
        clear f3 ff
        refine go_on (wpList_load_row rfl 35 _ rfl g6 rfl 35 _ (0, 0) _ HR6'.out Try.underlying35 rfl (apitx_size _ _ _) ?_)
        go_wp2_with (with_reducible first | refine sL 35 ?_ | refine sS 35 ?_)
        refine go_on (wpList_store_whole rfl rfl rfl rfl HR0'.out (apitx_size _ _ _) rfl (by simp [Value.oneCell']) ?_)
        intro w13 hrow hk13 _
        have HCO : Hid (Rc M w13 q ⟨s.node, s.boot, s.next + 1, s.under ++ [⟨⟨s.node, s.boot, s.next⟩, sh, false, [], []⟩]⟩) := Lib.hid ((HST.out.1.kept hk13 (by simpa using HNE.out) (by intro k hk; simp at hk; subst hk; exact H0M.out)).old fun k hk => .inl (HMM.out k hk))
        have HKK : Hid (Kept [q] w w13) := Lib.hid ((((HK3.out.trans HST.out.2).mono (N := [q, w.heap.size]) (by intro k hk; simp at hk; simp [hk])).trans (hk13.mono (by intro k hk; simp at hk; simp [hk]))).less (by intro k hk hlt; simp at hk; rcases hk with h | h; exact List.mem_singleton.2 h; exact absurd hlt (by omega)))
        clear hk13
        go_wp2
        ((try simp only [Exit.inBlock, Exit.then]); refine bodyPost_ret (results_cell1 rfl _ _ w.heap.size _ _ _ _ rfl hrow Try.underlying35 rfl (by kernel_rfl)) rfl ?_)
        rw [HV.out.1, HV.out.2.1, HV.out.2.2]
        exact ⟨rfl, HCO.out, HKK.out⟩
       exact AllHead.nil
      exact AllHead.nil
     exact AllHead.nil
    exact AllHead.nil
   exact AllHead.nil
  exact AllHead.nil
 exact AllHead.nil
end Go.Proofs.Ytijopcdjlpafdaa
