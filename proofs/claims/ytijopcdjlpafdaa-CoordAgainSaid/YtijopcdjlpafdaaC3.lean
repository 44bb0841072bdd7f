/- The walk of coord.Begin. Conditions: the hypotheses of the theorem. The walks of coord.Drop and Ask. Conditions: the hypotheses of each theorem. A transaction in a row of the call's own is laid anew; the walk of coord.Vote. Conditions: the hypotheses of each theorem. The walk of coord.Ack. Conditions: the hypotheses of the theorem. -/
import Derived.Test.YtijopcdjlpafdaaC2
namespace Go.Proofs.Ytijopcdjlpafdaa
open Go.RowKit
theorem results_cell1 {P : Program} {fn : Func} {p u : Tmp} {ty : TypeId} (h : fn.results = #[.cell p ty, .tmp u]) (tmps : Array Value) (w : World) (g : Nat) (t : TypeId) (cs : Array Value) (fr : Nat × Nat) (d : TypeDesc)
 (hp : tmps.getD p undef = .pointer (some ⟨g, 0, none⟩)) (hg : w.heap[g]? = some (.cells cs t fr))
 (hu : P.underlying ty = some d) (hd : (match d with | .struct _ | .array _ _ => true | _ => false) = true) (hi : (P.info? ty).map (·.size) = some cs.size) :
 (results fn tmps).run P w = .ok (.tuple #[.agg cs, tmps.getD u undef]) w := by
 have hp' : tmps[p]?.getD undef = .pointer (some ⟨g, 0, none⟩) := by simpa using hp
 simp [results, h, hp', asAddr, run_loadVar_row w g t ty cs fr d hg hu hd hi]
theorem apitx_info : (Try.prog.info? 35).map (fun i => (i.zero, i.size)) = some (some (.agg #[.int .i64 0, .int .i64 0, .int .i64 0]), 3) := by kernel_rfl
theorem apitx_size (a b c : Int) : (Try.prog.info? 35).map (·.size) = some (#[Value.int .i64 a, .int .i64 b, .int .i64 c] : Array Value).size := (zero_of_info apitx_info).2
theorem OwnR.push {α : Type} {R : Reading α} {s e : Nat} {M : List Nat} {wr w' : World} {base : Nat} {v' : Value} {xs : List α} {css : List (List Value)} {cs : List Value} {x : α} (h1 : css.length = xs.length) (h2 : ∀ cs ∈ css, cs.length = s)
 (h4 : ∀ (k : Nat) (cs : List Value) (x : α), css[k]? = some cs → xs[k]? = some x → R.says M wr cs x) (hc : cs.length = s) (hs : R.says M wr cs x) (h3 : w'.ownsRow base e s v' (xs.length + 1) (css.flatten ++ cs)) : OwnR R s e M wr w' base v' (xs ++ [x]) := by
 refine ⟨css ++ [cs], by simp [h1], ?_, by simpa using h3, ?_⟩
 ·intro d hd
  rcases List.mem_append.1 hd with h | h
  ·exact h2 d h
  ·simp at h; subst h; exact hc
 ·intro k d z hk hz
  rw [List.getElem?_append] at hk hz
  by_cases hlt : k < css.length
  ·rw [if_pos hlt] at hk
   rw [if_pos (by omega)] at hz
   exact h4 k d z hk hz
  ·rw [if_neg hlt] at hk
   rw [if_neg (by omega)] at hz
   have hk0 : k - css.length = 0 := by
    rcases Nat.eq_zero_or_pos (k - css.length) with h | h
    ·exact h
    ·rw [List.getElem?_eq_none (by simp; omega)] at hk; cases hk
   rw [hk0] at hk
   rw [show k - xs.length = 0 by omega] at hz
   simp at hk hz
   subst hk hz
   exact hs
theorem co_storeR {M : List Nat} {w w2 wr : World} {p base n' c' : Nat} {a b c : Int} {old : Value} {A' : Option Addr} {us' : List Tr} (hr : w2.heap[p]? = some (.cells #[.int .i64 a, .int .i64 b, .int .i64 c, old] 72 (0, 0))) (hp : p ∈ M) (hM : ∀ k ∈ M, k < base) (hk : Kept [p] w w2) (hkr : Kept M wr w2)
 (ho : OwnR RTr 13 85 M wr w2 base (.slice A' n' c') us') :
 Co M (w2.setCell ⟨p, 3, none⟩ (.slice A' n' c')) p ⟨a, b, c, us'⟩ ∧ Kept [p] w (w2.setCell ⟨p, 3, none⟩ (.slice A' n' c')) := by
 have h1 : ∀ k ∈ [p], k ∈ M := by intro k hk; simp at hk; subst hk; exact hp
 have h2 : Kept [p] w2 (w2.setCell ⟨p, 3, none⟩ (.slice A' n' c')) := (Kept.refl _ _).setCell (.inl (by simp)) _
 have hn := ho.cap.1
 subst hn
 refine ⟨⟨A', c', ?_, ((ho.rsm hkr hM).kept (h2.mono h1))⟩, hk.trans h2⟩
 have := heap_setCell_same w2 p 3 _ _ (.slice A' us'.length c') hr
 simpa using this
set_option maxRecDepth 20000 in
set_option maxHeartbeats 4000000 in
theorem CBegin_any {M : List Nat} {w : World} {p : Nat} {s : Cs} (h : Co M w p s) (hs : s.Ok) (hp : p ∈ M) (hM : ∀ k ∈ M, k < w.heap.size) (A : Option Addr) (c : Nat) (sh : List Int) (hsh : SlM M w A (ib sh)) (hm : sh.length ≤ 140737488355328) :
 Calls Try.prog 10 #[pt p, .slice A sh.length c] w fun e w' => e = .returned (.tuple #[.agg #[.int .i64 (beginT s sh).node, .int .i64 (beginT s sh).boot, .int .i64 (beginT s sh).n], .int .i64 (beginE s sh)]) ∧ Co M w' p (beginS s sh) ∧ Kept [p] w w' := by
 have HCO := Lib.hid h
 have HSH := Lib.hid hsh
 have HS := Lib.hid hs
 have HR := fun W (hx : Ext w W) => right_any W A c sh (hsh.sl.ext hx) hm
 obtain ⟨Ac, cap, h⟩ := h
 obtain ⟨c0, c1, c2, c3, cf⟩ := rows4 h.row
 have HH := Lib.hid h
 have HM := Lib.hid hM
 have HPL : Hid (p < w.heap.size) := Lib.hid (obj_lt h.row)
 clear h hsh hs hM
 have bad : ∀ n, beginE s sh = n → n ≠ 0 → Hid (beginE s sh = n ∧ beginT s sh = ⟨0, 0, 0⟩ ∧ beginS s sh = s) := fun n e hn => Lib.hid ⟨e, by unfold beginT; rw [e, if_neg hn], by unfold beginS; rw [e, if_neg hn]⟩
 unfold pt
 go_enter Try.func10, Try.ntmps10
 go_wp2_with (with_reducible refine sA 35 ?_)
 refine go_on (wpList_alloc_ rfl rfl apitx_info ?_)
 generalize hwa : w.alloc (.cells #[.int .i64 0, .int .i64 0, .int .i64 0] 35) = wa
 have hxa : Ext w wa := hwa ▸ (Ext.refl w).alloc _
 have HRA : Hid (wa.heap[w.heap.size]? = some (.cells #[.int .i64 0, .int .i64 0, .int .i64 0] 35 (0, 0))) := Lib.hid (hwa ▸ heap_alloc_new w _)
 have HZA : Hid (w.heap.size < wa.heap.size) := Lib.hid (obj_lt HRA.out)
 clear hwa
 by_cases h1 : s.boot = 0
 ·have HV := bad 13 (by unfold beginE; rw [if_pos h1]) (by decide)
  rw [h1] at c1
  clear HR h1 bad c0 c2 c3 cf
  go_wp2_with (with_reducible refine sS 35 ?_)
  refine go_on (wpList_store_whole rfl rfl rfl rfl HRA.out (apitx_size 0 0 0) rfl (by simp [Value.oneCell']) ?_)
  intro W hrow hkW _
  have HXW := Lib.hid (hxa.kept hkW (one_ge (Nat.le_refl _)))
  clear hkW
  go_wp2
  ((try simp only [Exit.inBlock, Exit.then]); refine bodyPost_ret (results_cell1 rfl _ _ w.heap.size _ _ _ _ rfl hrow Try.underlying35 rfl (by kernel_rfl)) rfl ?_)
  rw [HV.out.1, HV.out.2.1, HV.out.2.2]
  exact ⟨rfl, HCO.out.ext HXW.out, .of_ext HXW.out⟩
 have hne : (s.boot == 0) = false := by simpa using h1
 by_cases hr : rightF sh = true; rotate_left
 ·have HV := bad 2 (by unfold beginE; rw [if_neg h1, if_pos (by simpa using hr)]) (by decide)
  have hr : rightF sh = false := by simpa using hr
  rw [hr] at HR
  clear h1 bad c0 c2 c3 cf
  go_wp2_with fail
  refine (HR _ hxa).mono ?_
  rintro e _ ⟨rfl, rfl⟩
  go_wp2_with (with_reducible refine sS 35 ?_)
  refine go_on (wpList_store_whole rfl rfl rfl rfl HRA.out (apitx_size 0 0 0) rfl (by simp [Value.oneCell']) ?_)
  intro W hrow hkW _
  have HXW := Lib.hid (hxa.kept hkW (one_ge (Nat.le_refl _)))
  clear hkW
  go_wp2
  ((try simp only [Exit.inBlock, Exit.then]); refine bodyPost_ret (results_cell1 rfl _ _ w.heap.size _ _ _ _ rfl hrow Try.underlying35 rfl (by kernel_rfl)) rfl ?_)
  rw [HV.out.1, HV.out.2.1, HV.out.2.2]
  exact ⟨rfl, HCO.out.ext HXW.out, .of_ext HXW.out⟩
 rw [hr] at HR
 by_cases h8 : 8 ≤ s.under.length
 ·have HV := bad 8 (by unfold beginE; rw [if_neg h1, if_neg (by simp [hr]), if_pos (.inl h8)]) (by decide)
  have h8' : (8 : Int) ≤ (s.under.length : Int) := by omega
  clear h1 bad c0 cf hr
  go_wp2_with fail
  refine (HR _ hxa).mono ?_
  rintro e _ ⟨rfl, rfl⟩
  go_wp2_with (with_reducible refine sS 35 ?_)
  refine go_on (wpList_store_whole rfl rfl rfl rfl HRA.out (apitx_size 0 0 0) rfl (by simp [Value.oneCell']) ?_)
  intro W hrow hkW _
  have HXW := Lib.hid (hxa.kept hkW (one_ge (Nat.le_refl _)))
  clear hkW
  go_wp2
  ((try simp only [Exit.inBlock, Exit.then]); refine bodyPost_ret (results_cell1 rfl _ _ w.heap.size _ _ _ _ rfl hrow Try.underlying35 rfl (by kernel_rfl)) rfl ?_)
  rw [HV.out.1, HV.out.2.1, HV.out.2.2]
  exact ⟨rfl, HCO.out.ext HXW.out, .of_ext HXW.out⟩
 have h8' : ¬ (8 : Int) ≤ (s.under.length : Int) := by omega
 by_cases hnx : 2147483647 ≤ s.next
 ·have HV := bad 8 (by unfold beginE; rw [if_neg h1, if_neg (by simp [hr]), if_pos (.inr hnx)]) (by decide)
  clear h1 bad c0 cf hr h8
  go_wp2_with fail
  refine (HR _ hxa).mono ?_
  rintro e _ ⟨rfl, rfl⟩
  go_wp2_with (with_reducible refine sS 35 ?_)
  refine go_on (wpList_store_whole rfl rfl rfl rfl HRA.out (apitx_size 0 0 0) rfl (by simp [Value.oneCell']) ?_)
  intro W hrow hkW _
  have HXW := Lib.hid (hxa.kept hkW (one_ge (Nat.le_refl _)))
  clear hkW
  go_wp2
  ((try simp only [Exit.inBlock, Exit.then]); refine bodyPost_ret (results_cell1 rfl _ _ w.heap.size _ _ _ _ rfl hrow Try.underlying35 rfl (by kernel_rfl)) rfl ?_)
  rw [HV.out.1, HV.out.2.1, HV.out.2.2]
  exact ⟨rfl, HCO.out.ext HXW.out, .of_ext HXW.out⟩
 have HV : Hid (beginE s sh = 0 ∧ beginT s sh = ⟨s.node, s.boot, s.next⟩ ∧ beginS s sh = ⟨s.node, s.boot, s.next + 1, s.under ++ [⟨⟨s.node, s.boot, s.next⟩, sh, false, [], []⟩]⟩) := Lib.hid (by
  have e : beginE s sh = 0 := by unfold beginE; rw [if_neg h1, if_neg (by simp [hr]), if_neg (by omega)]
  exact ⟨e, by unfold beginT; rw [if_pos e], by unfold beginS; rw [if_pos e]⟩)
 have hwn : IntKind.i64.wrap (s.next + 1) = s.next + 1 := by
  obtain ⟨k, hk⟩ := Int.eq_ofNat_of_zero_le (show 0 ≤ s.next by have := HS.out.next1; omega)
  rw [hk]
  exact wrap64_nat (k + 1) (by omega)
 have hfew : s.under.length ≤ 1000 := by omega
 have hshl : sh.length ≤ 4 := (rightF_len hr).2
 clear bad h1 hr h8
 go_wp2_with fail
 refine (HR _ hxa).mono ?_
 rintro e _ ⟨rfl, rfl⟩
 go_wp2_with fail
 have c0a := fun W (hx : Ext wa W) => c0 W (hxa.trans hx)
 have c1a := fun W (hx : Ext wa W) => c1 W (hxa.trans hx)
 have c2a := fun W (hx : Ext wa W) => c2 W (hxa.trans hx)
 clear c0 c1 c2 HR
 have hxad : Ext wa wa.drew := (Ext.refl _).drew
 refine wp_region_phase (S := fun w' => Ext wa w') 14 (by kernel_rfl) (by kernel_rfl) ?_ (fun hHeld => ?_)
 ·exact hxad
 simp only [List.drop_succ_cons, List.drop_zero]
 refine name_head ?_
 intro wr0 hw0
 rw [hw0] at hHeld
 refine wt 0 _ ?_
 simp only [red, Act.put]
 refine wt 1 _ ?_
 simp only [red, Act.put]
 refine wt 2 _ ?_
 simp only [red, Act.put]
 refine wt 3 _ ?_
 simp only [red, Act.put]
 refine wt 4 _ ?_
 simp only [red, Act.put]
 refine wt 5 _ ?_
 simp only [red, Act.put]
 refine wt 6 _ ?_
 simp only [red, Act.put]
 refine wt 7 _ ?_
 simp only [red, Act.put]
 refine wt 8 _ ?_
 simp only [red, Act.put]
 refine wt 9 _ ?_
 simp only [red, Act.put]
 refine wt 10 _ ?_
 simp only [red, Act.put]
 refine wt 11 _ ?_
 simp only [red, Act.put]
 refine wt 12 _ ?_
 simp only [red, Act.put]
 refine rd [13] ?_
 refine ac (fun K hK => ?_) ?_
 ·go_simp
  refine name_world ?_
  rintro wr13 hw13
  have hxn13 : Ext wr0 wr13 := hw13 ▸ (Ext.refl _).alloc _
  have hrow13 : wr13.heap[wr0.heap.size]? = some (.cells #[.int .i64 0, .int .i64 0, .int .i64 0] 35) := hw13 ▸ heap_alloc_new wr0 _
  have hHw := hHeld
  refine hK.out _ _ ?_ (fun hHeld => ?_)
  ·first | assumption | exact Ext.trans (by assumption) (by assumption)
  clear hK K
  try simp only [red, Act.put]
  refine wpHead_done (by kernel_rfl) ?_
  have hsz13 := hrow13
  go_wp2_with (with_reducible refine sS 35 ?_)
  refine go_on (wpList_store_whole rfl rfl rfl rfl hrow13 (apitx_size _ _ _) rfl (by simp [Value.oneCell']) ?_)
  intro w9 hrow9 hk9 _
  have hx9 : Ext wa w9 := hHeld.kept hk9 (one_ge hHw.size)
  have HG6 := Lib.hid hHw.size
  have HR9 := Lib.hid hrow9
  have HX9 := Lib.hid hx9
  generalize wr0.heap.size = g6 at *
  clear hk9 hsz13 hrow13 hrow9 hHeld
  have d0 := c0a w9 hx9
  have d1 := c1a w9 hx9
  have d2 := c2a w9 hx9
  have d3 := c3 w9 (hxa.trans hx9)
  have df := fun j => cf w9 j (hxa.trans hx9)
  clear c0a c1a c2a c3 cf hx9
  go_wp2_with fail
  have hxw9 := hxa.trans HX9.out
  have hset := heap_setCell_same w9 p 2 _ _ (.int .i64 (s.next + 1)) (hxw9.obj HH.out.row)
  have hk3 : Kept [p] w (w9.setCell ⟨p, 2, none⟩ (.int .i64 (s.next + 1))) := (Kept.of_ext hxw9).setCell (.inl (by simp)) _
  have hk93 : Kept [p] w9 (w9.setCell ⟨p, 2, none⟩ (.int .i64 (s.next + 1))) := (Kept.refl _ _).setCell (.inl (by simp)) _
  have hp0 : ¬ w.heap.size = p := by have := HPL.out; omega
  have hp6 : ¬ g6 = p := by have := HPL.out; have := HG6.out; have := hxa.size; omega
  have HR0 := Lib.hid (hk93.heap (HX9.out.obj HRA.out) (by simpa using hp0))
  have HR6 := Lib.hid (hk93.heap HR9.out (by simpa using hp6))
  have hg9 := obj_lt HR9.out
  have hz9 := hxw9.size
  have hz39 : w9.heap.size ≤ (w9.setCell ⟨p, 2, none⟩ (.int .i64 (s.next + 1))).heap.size := hk93.size
  generalize w9.setCell ⟨p, 2, none⟩ (.int .i64 (s.next + 1)) = w3 at *
  clear d0 d1 d2 d3 df hk93 HRA HX9 HR9
  have hsub : ∀ k ∈ [p], k ∈ w.heap.size :: g6 :: M := by intro k hk; simp at hk; subst hk; simp [hp]
  have hnew : ∀ k ∈ w.heap.size :: g6 :: M, k ∈ M ∨ w.heap.size ≤ k := by
   intro k hk
   simp only [List.mem_cons] at hk
   rcases hk with rfl | rfl | hk
   ·exact .inr (Nat.le_refl _)
   ·exact .inr (Nat.le_trans hxa.size HG6.out)
   ·exact .inl hk
  have HM3 : Hid (∀ k ∈ w.heap.size :: g6 :: M, k < w3.heap.size) := Lib.hid (by
   intro k hk
   simp only [List.mem_cons] at hk
   have h1 := HZA.out
   have h2 := HG6.out
   rcases hk with rfl | rfl | hk
   ·omega
   ·omega
   ·have := HM.out k hk; omega)
  have HPM : Hid (p ∈ w.heap.size :: g6 :: M) := Lib.hid (by simp [hp])
  have HMM : Hid (∀ k ∈ M, k ∈ w.heap.size :: g6 :: M) := Lib.hid fun k hk => by simp [hk]
  have HRS := Lib.hid ((HH.out.rs.old hnew).kept (hk3.mono hsub))
  have HS3 : Hid (SlM (w.heap.size :: g6 :: M) w3 A (ib sh)) := Lib.hid ((SlM.old HSH.out hnew).kept (hk3.mono hsub))
  have hset3 : w3.heap[p]? = some (.cells #[.int .i64 s.node, .int .i64 s.boot, .int .i64 (s.next + 1), .slice Ac s.under.length cap] 72 (0, 0)) := by simpa using hset
  have HP3 := Lib.hid hset3
  have HK3 := Lib.hid hk3
  have H0M : Hid (w.heap.size ∈ w.heap.size :: g6 :: M) := Lib.hid (by simp)
  have HNE : Hid (p ≠ w.heap.size) := Lib.hid fun e => hp0 e.symm
  generalize hMM : w.heap.size :: g6 :: M = M2 at *
  have HC := fun W (hx : Ext w3 W) => tclone_any Ac cap s.under M2 w3 W HRS.out hx (by omega)
  have HI := fun W (hx : Ext w3 W) => iclone_any A c sh W (HS3.out.sl.ext hx) (by omega)
  obtain ⟨e0, e1, e2, e3, ef⟩ := rows4 hset3
  obtain ⟨t0, t1, t2, tf⟩ := rows3 HR6.out
  have hp0' : w.heap.size ∉ [p] := by simpa using hp0
  have hp6' : g6 ∉ [p] := by simpa using hp6
  clear hset hset3 hk3 hsub hnew hg9 hz9 hz39 hMM e0 e1 e2 hxw9 hp0 hp6 tf
  have hx3 : Ext w3 w3.drew := (Ext.refl _).drew
  refine wp_region_phase (S := fun w' => Ext w3 w') 12 (by kernel_rfl) (by kernel_rfl) ?_ (fun hHeld => ?_)
  ·exact hx3
  simp only [List.drop_succ_cons, List.drop_zero]
  refine name_head ?_
  intro wr0 hw0
  rw [hw0] at hHeld
  refine wt 0 _ ?_
  simp only [red, Act.put]
  refine wt 1 _ ?_
  simp only [red, Act.put]
  refine wt 2 _ ?_
  simp only [red, Act.put]
  refine wt 3 _ ?_
  simp only [red, Act.put]
  refine wt 4 _ ?_
  simp only [red, Act.put]
  refine wt 6 _ ?_
  simp only [red, Act.put]
  refine wt 7 _ ?_
  simp only [red, Act.put]
  refine rd [5] ?_
  refine ac (fun K hK => ?_) ?_
  ·have hb5 := hHeld.size
   refine step_callG (by rfl) (by kernel_rfl) (HC _ hHeld) ?_
   rintro e wr5 ⟨v5, rfl, ho5, hx5⟩
   obtain ⟨A5, c5, rfl⟩ := ho5.form
   refine ⟨_, rfl, ?_⟩
   refine hK.out _ _ ?_ (fun hHeld => ?_)
   ·exact hHeld.trans hx5
   clear hK K
   try simp only [red, Act.put]
   refine rd [8] ?_
   refine ac (fun K hK => ?_) ?_
   ·refine step_callG (by rfl) (by kernel_rfl) (HI _ hHeld) ?_
    rintro e wr8 ⟨v8, rfl, ho8, hx8⟩
    obtain ⟨A8, c8, rfl⟩ := own_form ho8
    have ho5 := ho5.ext hx8
    have hb8 := hHeld.size
    refine ⟨_, rfl, ?_⟩
    refine hK.out _ _ ?_ (fun hHeld => ?_)
    ·exact hHeld.trans hx8
    clear hK K
    try simp only [red, Act.put]
    refine wt 9 _ ?_
    simp only [red, Act.put]
    refine rd [10] ?_
    refine ac (fun K hK => ?_) ?_
    ·go_simp
     refine name_world ?_
     rintro wr10 hw10
     have hxn10 : Ext wr8 wr10 := hw10 ▸ (Ext.refl _).alloc _
     have hrow10 : wr10.heap[wr8.heap.size]? = some (.cells #[.int .i64 s.node, .int .i64 s.boot, .int .i64 s.next, .slice A8 sh.length c8, .bool false, .bool false, .bool false, .bool false, .bool false, .bool false, .bool false, .bool false, .bool false] 85) := hw10 ▸ heap_alloc_new wr8 _
     have ho5 := ho5.ext hxn10
     have ho8 := owns_ext ho8 hxn10
     have hb10 := hxn10.size
     refine hK.out _ _ ?_ (fun hHeld => ?_)
     ·first | assumption | exact Ext.trans (by assumption) (by assumption)
     clear hK K
     try simp only [red, Act.put]
     refine rd [11] ?_
     refine ac (fun K hK => ?_) ?_
     ·have hHw10 := hHeld
      obtain ⟨css, q1, q2, q3, q4⟩ := ho5
      have hsl : Sl wr10 (some ⟨_, 0, none⟩) (trC ⟨⟨s.node, s.boot, s.next⟩, sh, false, [], []⟩ (.slice A8 sh.length c8)) := Sl.of_row hrow10
      refine step_ap txT q3 hsl rfl rfl rfl rfl rfl (trC_one _ _ _ _) (by omega) (by omega) (by have := hx8.size; have := hx5.size; omega) ?_
      rintro v11 wr11 ho11 hg11 hor11
      refine hK.out _ _ ?_ (fun hHeld => ?_)
      ·exact hHeld.own q3 hb5 hg11
      clear hK K
      try simp only [red, Act.put]
      refine wpHead_done (by kernel_rfl) ?_
      obtain ⟨A11, c11, rfl⟩ := own_form ho11
      have ho8' := ho8.kept hg11 (owns_apart ho8 q3 (by decide))
      have HN : OwnR RTr 13 85 M2 wr11 wr11 wr0.heap.size (.slice A11 (s.under.length + 1) c11) (s.under ++ [⟨⟨s.node, s.boot, s.next⟩, sh, false, [], []⟩]) := OwnR.push q1 q2 (fun k cs x h1 h2 => RTr.kept (q4 k cs x h1 h2) (.of_ext hHeld)) rfl ⟨A8, c8, rfl, SlM.own ho8' rfl fun k hk => Nat.lt_of_lt_of_le (HM3.out k hk) hb8⟩ ho11
      have HST := Lib.hid (co_storeR (hHeld.obj HP3.out) HPM.out (fun k hk => Nat.lt_of_lt_of_le (HM3.out k hk) hb5) (.of_ext hHeld) (Kept.refl _ _) HN)
      have f3 := e3 _ hHeld
      have ff := fun j => ef _ j hHeld
      have HE := Lib.hid hHeld
      clear HN ho8' ho11 hg11 hor11 hsl q1 q2 q3 q4 ho5 ho8 hrow10 hxn10 hw10 hx8 hx5 e3 ef t0 t1 t2 hHeld HC HI
      go_wp2_with (with_reducible first | refine sL 35 ?_ | refine sS 35 ?_)
      have HR6' := Lib.hid (HST.out.2.heap HR6.out hp6')
      have HR0' := Lib.hid (HST.out.2.heap HR0.out hp0')
      generalize wr11.setCell ⟨p, 3, none⟩ (.slice A11 (s.under.length + 1) c11) = w12 at *
      clear f3 ff
      refine go_on (wpList_load_row rfl 35 _ rfl g6 rfl 35 _ (0, 0) _ HR6'.out Try.underlying35 rfl (apitx_size _ _ _) ?_)
      go_wp2_with (with_reducible first | refine sL 35 ?_ | refine sS 35 ?_)
      refine go_on (wpList_store_whole rfl rfl rfl rfl HR0'.out (apitx_size _ _ _) rfl (by simp [Value.oneCell']) ?_)
      intro w13 hrow hk13 _
      have HCO : Hid (Co M w13 p ⟨s.node, s.boot, s.next + 1, s.under ++ [⟨⟨s.node, s.boot, s.next⟩, sh, false, [], []⟩]⟩) := Lib.hid ((HST.out.1.kept hk13 (by simpa using HNE.out) (by intro k hk; simp at hk; subst hk; exact H0M.out)).old fun k hk => .inl (HMM.out k hk))
      have HKK : Hid (Kept [p] w w13) := Lib.hid ((((HK3.out.trans HST.out.2).mono (N := [p, w.heap.size]) (by intro k hk; simp at hk; simp [hk])).trans (hk13.mono (by intro k hk; simp at hk; simp [hk]))).less (by intro k hk hlt; simp at hk; rcases hk with h | h; exact List.mem_singleton.2 h; exact absurd hlt (by omega)))
      clear hk13
      go_wp2
      ((try simp only [Exit.inBlock, Exit.then]); refine bodyPost_ret (results_cell1 rfl _ _ w.heap.size _ _ _ _ rfl hrow Try.underlying35 rfl (by kernel_rfl)) rfl ?_)
      rw [HV.out.1, HV.out.2.1, HV.out.2.2]
      exact ⟨rfl, HCO.out, HKK.out⟩
     exact AllHead.nil
    exact AllHead.nil
   exact AllHead.nil
  exact AllHead.nil
 exact AllHead.nil
end Go.Proofs.Ytijopcdjlpafdaa
namespace Go.Proofs.Ytijopcdjlpafdaa
open Go.RowKit
theorem yieldsIf_load_elem {P : Program} {ops : Array Oper} {S : World → Prop} {op : Oper} {a : Act} (hw : Region.wanted op (yielded ops a.tmps) = true) (ty : TypeId) (x : Operand) (ho : op.op = .load ty x)
 (p : Addr) (hx : a.eval x = .pointer (some p)) (cs : List Value) (d : TypeDesc) (hS : ∀ w, S w → ∀ j v, cs[j]? = some v → w.cell? (p.add j) = some v)
 (hu : P.underlying ty = some d) (hd : d.isRow = true) (hi : (P.info? ty).map (·.size) = some cs.length) : YieldsIf P ops S op (.agg cs.toArray) a :=
 .inl ⟨hw, fun w hw' => by
  unfold execOp
  simp only [ho, hx, Instr.loadAt, Instr.sureAddr, Sem.run_bind, Sem.run_pure, Result.andThen_ok, run_loadVar_elem w p ty cs d (hS w hw') hu hd hi]⟩
theorem said_size (m : List Int) : (Try.prog.info? 83).map (·.size) = some (saidC m).length := by
 show (Try.prog.info? 83).map (·.size) = some 4
 kernel_rfl
theorem trC_said (t : Tr) (v : Value) {j : Nat} {u : Value} (h : (saidC t.yes)[j]? = some u) : (trC t v)[5 + j]? = some u := by
 match j, h with
 | 0, h => exact h
 | 1, h => exact h
 | 2, h => exact h
 | 3, h => exact h
 | j + 4, h => simp [saidC] at h
theorem trC_ack (t : Tr) (v : Value) {j : Nat} {u : Value} (h : (saidC t.ack)[j]? = some u) : (trC t v)[9 + j]? = some u := by
 match j, h with
 | 0, h => exact h
 | 1, h => exact h
 | 2, h => exact h
 | 3, h => exact h
 | j + 4, h => simp [saidC] at h
theorem said_range {W : World} {ad : Addr} {t : Tr} {v : Value} (h : ∀ j u, (trC t v)[j]? = some u → W.cell? (ad.add j) = some u) : W.rangeAt ad.block (ad.off + 5) (saidC t.yes) ∧ W.rangeAt ad.block (ad.off + 9) (saidC t.ack) := by
 constructor
 ·intro j u hj
  have := h _ _ (trC_said t v hj)
  rw [show 5 + j = (4 + j) + 1 by omega, add_pos'] at this
  rw [show ad.off + 5 + j = ad.off + (4 + j + 1) by omega]
  exact this
 ·intro j u hj
  have := h _ _ (trC_ack t v hj)
  rw [show 9 + j = (8 + j) + 1 by omega, add_pos'] at this
  rw [show ad.off + 9 + j = ad.off + (8 + j + 1) by omega]
  exact this
theorem row_eq {s : Cs} {i : Nat} (hi : i < s.under.length) : s.row i = s.under[i] := by
 unfold Cs.row
 rw [List.getD_eq_getElem?_getD, List.getElem?_eq_getElem hi]
 rfl
set_option maxRecDepth 20000 in
set_option maxHeartbeats 2000000 in
theorem CDrop_any {M : List Nat} {w : World} {p : Nat} {s : Cs} (h : Co M w p s) (hs : s.Ok) (hp : p ∈ M) (hM : ∀ k ∈ M, k < w.heap.size) (id : TxI) :
 Calls Try.prog 14 #[pt p, .agg #[.int .i64 id.node, .int .i64 id.boot, .int .i64 id.n]] w fun e w' => e = .returned (.int .i64 (dropO s id).1) ∧ Co M w' p (dropO s id).2 ∧ Kept [p] w w' := by
 have hfew : s.under.length ≤ 1000 := by have := hs.few; omega
 have HA := fun W (hx : Ext w W) => cat_any (h.ext hx) id false hfew
 have HCO := Lib.hid h
 have HM := Lib.hid hM
 obtain ⟨A, cap, h⟩ := h
 obtain ⟨c0, c1, c2, c3, cf⟩ := rows4 h.row
 have HH := Lib.hid h
 clear h hM c0 c1 c2
 have hx0 := Ext.refl w
 cases hat : s.at_ id false with
 | none =>
  have HV : Hid (dropO s id = (9, s)) := Lib.hid (by unfold dropO; rw [hat])
  have ha : atV s id false = .tuple #[.int .i64 0, .int .i64 9] := by unfold atV; rw [hat]
  rw [ha] at HA
  clear ha hat
  unfold pt at *
  go_enter Try.func14, Try.ntmps14
  go_wp2_with fail
  generalize hw1 : w.alloc _ = wb
  have hxb : Ext w wb := hw1 ▸ (Ext.refl w).alloc _
  clear hw1
  refine (HA _ hxb).mono ?_
  rintro e w2 ⟨rfl, hx2⟩
  have HX := Lib.hid (hxb.trans hx2)
  clear HA hxb hx2
  go_wp2
  go_ret
  rw [HV.out]
  exact ⟨rfl, HCO.out.ext HX.out, .of_ext HX.out⟩
 | some i =>
  obtain ⟨hi, hid, hd, _⟩ := at_some hat
  have ha : atV s id false = .tuple #[.int .i64 i, .int .i64 0] := by unfold atV; rw [hat]
  rw [ha] at HA
  rw [row_eq hi] at hid hd
  have HV : Hid (dropO s id = if allIn s.under[i].shards s.under[i].yes then (13, s) else (0, { s with under := s.under.eraseIdx i })) := Lib.hid (by unfold dropO; rw [hat]; simp only [row_eq hi])
  obtain ⟨ad, A1, c1, rfl, hsl, hcell, _⟩ := HH.out.rs.tr hi
  have hok := hs.rows _ (List.getElem_mem hi)
  have HALL := fun W (hx : Ext w W) => txall_any s.under[i] s.under[i].yes A1 c1 W (hsl.ext hx) (rightF_mem hok.right) (by have := rightF_len hok.right; omega)
  generalize s.under[i] = t at *
  have hilt : (i : Int) < (s.under.length : Int) := by omega
  clear ha hat hok hid hd hsl
  have HC := Lib.hid hcell
  have HRG := Lib.hid fun W (hx : Ext w W) => said_range (hcell W hx)
  clear hcell
  unfold pt at *
  go_enter Try.func14, Try.ntmps14
  go_wp2_with fail
  generalize hw1 : w.alloc _ = wb
  have hxb : Ext w wb := hw1 ▸ (Ext.refl w).alloc _
  clear hw1
  refine (HA _ hxb).mono ?_
  rintro e w2 ⟨rfl, hx2⟩
  have hxw2 := hxb.trans hx2
  clear HA hxb hx2
  go_wp2_with fail
  have hxd : Ext w w2.drew := hxw2.drew
  refine wp_region_phase (S := fun w' => Ext w w') 16 (by kernel_rfl) (by kernel_rfl) ?_ (fun hHeld => ?_)
  ·exact hxd
  simp only [List.drop_succ_cons, List.drop_zero]
  refine name_head ?_
  intro wr0 hw0
  rw [hw0] at hHeld
  refine wt 0 _ ?_
  simp only [red, Act.put]
  refine wt 1 _ ?_
  simp only [red, Act.put]
  refine wt 2 _ ?_
  simp only [red, Act.put]
  refine wt 3 _ ?_
  simp only [red, Act.put]
  refine wt 4 _ ?_
  simp only [red, Act.put]
  refine wt 5 _ ?_
  simp only [red, Act.put]
  refine wy 6 (v := .agg (trC t (.slice A1 t.shards.length c1)).toArray) (by rfl) (yieldsIf_load_elem (by rfl) 85 _ rfl (ad.add (i * 13)) rfl (trC t (.slice A1 t.shards.length c1)) _ (fun w' hx => HC.out w' hx) Try.underlying85 rfl (tx_size rfl)) ?_
  simp only [red, Act.put]
  refine wt 7 _ ?_
  simp only [red, Act.put]
  refine wt 8 _ ?_
  simp only [red, Act.put]
  refine wt 9 _ ?_
  simp only [red, Act.put]
  refine wt 10 _ ?_
  simp only [red, Act.put]
  refine wt 11 _ ?_
  simp only [red, Act.put]
  refine wt 12 _ ?_
  simp only [red, Act.put]
  refine wt 13 _ ?_
  simp only [red, Act.put]
  refine wy 14 (v := .agg (saidC t.yes).toArray) (by rfl) (yieldsIf_load_mid (by rfl) 83 _ rfl (ad.add (i * 13)).block ((ad.add (i * 13)).off + 5) rfl (saidC t.yes) _ (fun w' hx => (HRG.out w' hx).1) Try.underlying83 rfl (said_size _)) ?_
  simp only [red, Act.put]
  refine rd [15] ?_
  refine ac (fun K hK => ?_) ?_
  ·refine step_callG (by rfl) (by kernel_rfl) (HALL _ hHeld) ?_
   rintro e wr15 ⟨rfl, hx15⟩
   refine ⟨_, rfl, ?_⟩
   refine hK.out _ _ ?_ (fun hHeld => ?_)
   ·exact hHeld.trans hx15
   clear hK K
   try simp only [red, Act.put]
   refine wpHead_done (by kernel_rfl) ?_
   have HX := Lib.hid hHeld
   by_cases hall : allIn t.shards t.yes = true
   ·rw [hall]
    have HV2 : Hid (dropO s id = (13, s)) := Lib.hid (by rw [HV.out, if_pos hall])
    clear hall
    go_wp2
    go_ret
    rw [HV2.out]
    exact ⟨rfl, HCO.out.ext HX.out, .of_ext HX.out⟩
   ·have HV2 : Hid (dropO s id = (0, { s with under := s.under.eraseIdx i })) := Lib.hid (by rw [HV.out, if_neg hall])
    have hall : allIn t.shards t.yes = false := by simpa using hall
    rw [hall]
    have HRM := cremove_any (HCO.out.ext HX.out) hp (fun k hk => Nat.lt_of_lt_of_le (HM.out k hk) HX.out.size) i hi hfew
    unfold pt at HRM
    clear hall
    go_wp2_with fail
    refine HRM.mono ?_
    rintro e w3 ⟨rfl, hco3, hk3⟩
    have HC3 := Lib.hid hco3
    have HK3 := Lib.hid ((Kept.of_ext HX.out).trans hk3)
    clear hco3 hk3
    go_wp2
    go_ret
    rw [HV2.out]
    exact ⟨rfl, HC3.out, HK3.out⟩
  exact AllHead.nil
end Go.Proofs.Ytijopcdjlpafdaa
namespace Go.Proofs.Ytijopcdjlpafdaa
open Go.RowKit
theorem hasI_snoc (l : List Int) (x y : Int) : hasI (l ++ [x]) y = (hasI l y || decide (x = y)) := by simp [hasI]
theorem trC_vote (t : Tr) (v : Value) (k : Nat) (hk : k ≤ 3) : (trC t v).set (5 + k) (.bool true) = trC { t with yes := t.yes ++ [(k : Int)] } v := by
 rcases k with _ | _ | _ | _ | k
 ·simp [trC, hasI_snoc]
 ·simp [trC, hasI_snoc]
 ·simp [trC, hasI_snoc]
 ·simp [trC, hasI_snoc]
 ·omega
theorem trC_acked (t : Tr) (v : Value) (k : Nat) (hk : k ≤ 3) : (trC t v).set (9 + k) (.bool true) = trC { t with ack := t.ack ++ [(k : Int)] } v := by
 rcases k with _ | _ | _ | _ | k
 ·simp [trC, hasI_snoc]
 ·simp [trC, hasI_snoc]
 ·simp [trC, hasI_snoc]
 ·simp [trC, hasI_snoc]
 ·omega
/-- a node whose list is a row of the call's own -/
theorem co_own {M : List Nat} {w : World} {p base n' c' : Nat} {a b c : Int} {A' : Option Addr} {us' : List Tr} (hr : w.heap[p]? = some (.cells #[.int .i64 a, .int .i64 b, .int .i64 c, .slice A' n' c'] 72 (0, 0))) (hM : ∀ k ∈ M, k < base)
 (ho : OwnR RTr 13 85 M w w base (.slice A' n' c') us') : Co M w p ⟨a, b, c, us'⟩ := by
 have hn := ho.cap.1
 subst hn
 exact ⟨A', c', hr, ho.rsm (Kept.refl _ _) hM⟩
theorem flatten_set {css : List (List Value)} (h : ∀ cs ∈ css, cs.length = 13) (i : Nat) (hi : i < css.length) (cs : List Value) :
 (css.set i cs).flatten = css.flatten.take (i * 13) ++ cs ++ css.flatten.drop (i * 13 + 13) := by
 rw [List.set_eq_take_append_cons_drop, if_pos hi, List.flatten_append, List.flatten_cons, flatten_take h, show i * 13 + 13 = (i + 1) * 13 by omega, flatten_drop h, List.append_assoc]
theorem OwnR.set {M : List Nat} {wr w W : World} {base g n c i : Nat} {xs : List Tr} {x : Tr} {cs : List Value} (h : OwnR RTr 13 85 M wr w base (.slice (some ⟨g, 0, none⟩) n c) xs) (hi : i < xs.length) (hs : RTr.says M wr cs x)
 (hW : ∀ cur : Array Value, w.heap[g]? = some (.cells cur 85 (0, 0)) → W.heap[g]? = some (.cells (cur.toList.take (i * 13) ++ cs ++ cur.toList.drop (i * 13 + cs.length)).toArray 85 (0, 0))) : OwnR RTr 13 85 M wr W base (.slice (some ⟨g, 0, none⟩) n c) (xs.set i x) := by
 obtain ⟨hc, _⟩ := RTr.cs13 hs
 obtain ⟨css, h1, h2, h3, h4⟩ := h
 rcases h3.2 with ⟨e, h0⟩ | ⟨g', cap', cur, e1, hb, hg, hnc, hcm, hsz, htk⟩
 ·exact absurd h0 (by omega)
 injection e1 with e1 e2 e3
 injection e1 with e1
 injection e1 with e1
 subst e1 e2 e3
 have hl : css.flatten.length = xs.length * 13 := by rw [flatten_length h2, h1]
 refine ⟨css.set i cs, by simp [h1], ?_, ⟨?_, .inr ⟨g, c, _, by rw [List.length_set], hb, hW cur hg, by rw [List.length_set]; exact hnc, hcm, ?_, ?_⟩⟩, ?_⟩
 ·intro d hd
  rcases List.mem_or_eq_of_mem_set hd with hd | rfl
  ·exact h2 d hd
  ·exact hc
 ·rw [List.length_set, flatten_length (s := 13) (fun d hd => by
   rcases List.mem_or_eq_of_mem_set hd with hd | rfl
   ·exact h2 d hd
   ·exact hc), List.length_set, h1]
 ·simp [hc]
  omega
 ·simp only [List.length_set]
  rw [flatten_set h2 i (by omega) cs, ← htk, List.take_take, hc, List.drop_take]
  rw [List.take_append, List.length_append, List.length_take, Array.length_toList, hc, List.take_append, List.take_take, List.length_take, Array.length_toList]
  have e : ({ toList := xs } : Array Tr).size = xs.length := rfl
  rw [Nat.min_eq_left (show i * 13 ≤ cur.size by omega)]
  simp only [e]
  rw [show min (xs.length * 13) (i * 13) = i * 13 by omega, show min (i * 13) (xs.length * 13) = i * 13 by omega]
  rw [List.take_of_length_le (l := cs) (by omega)]
 ·intro k d z hk hz
  rw [List.getElem?_set] at hk hz
  by_cases hik : i = k
  ·subst hik
   rw [if_pos rfl, if_pos (by omega)] at hk
   rw [if_pos rfl, if_pos hi] at hz
   cases hk
   cases hz
   exact hs
  ·rw [if_neg hik] at hk hz
   exact h4 k d z hk hz
theorem own_some {w : World} {base e s n m c : Nat} {A : Option Addr} {xs : List Value} (h : w.ownsRow base e s (.slice A m c) n xs) (hn : 0 < n) : ∃ g cur, A = some ⟨g, 0, none⟩ ∧ m = n ∧ base ≤ g ∧ w.heap[g]? = some (.cells cur e (0, 0)) ∧ n ≤ c ∧ cur.size = c * s := by
 rcases h.2 with ⟨e, h0⟩ | ⟨g, cap', cur, e1, hb, hg, hnc, _, hsz, _⟩
 ·omega
 ·injection e1 with e1 e2 e3
  subst e3
  exact ⟨g, cur, e1, e2, hb, hg, hnc, hsz⟩
/-- the cells of a transaction in a block of its own -/
theorem tr_cell {W : World} {g : Nat} {t : Tr} {v : Value} (h : W.heap[g]? = some (.cells (trC t v).toArray 85 (0, 0))) : ∀ j u, (trC t v)[j]? = some u → W.cell? ((⟨g, 0, none⟩ : Addr).add j) = some u := by
 intro j u hj
 rw [add0, cell_of_row _ _ _ _ _ _ h]
 simpa using hj
theorem tr_range {W : World} {g : Nat} {t : Tr} {v : Value} (h : W.heap[g]? = some (.cells (trC t v).toArray 85 (0, 0))) : W.rangeAt g 0 (trC t v) ∧ W.rangeAt g 5 (saidC t.yes) ∧ W.rangeAt g 9 (saidC t.ack) := by
 have h1 := said_range (tr_cell h)
 refine ⟨fun j u hj => ?_, by simpa using h1.1, by simpa using h1.2⟩
 have := tr_cell h j u hj
 rw [add0] at this
 simpa using this
theorem Kept.grown1 {g : Nat} {w w' : World} (h : Kept [g] w w') : w.grownBy w' (some g) :=
 ⟨h.os, h.tape, h.output, h.size, fun i hi hne => h.block i hi (by simp; exact fun e => hne (by rw [e]))⟩
set_option maxRecDepth 20000 in
set_option maxHeartbeats 4000000 in
theorem CVote_any {M : List Nat} {w : World} {p : Nat} {s : Cs} (h : Co M w p s) (hs : s.Ok) (hp : p ∈ M) (hM : ∀ k ∈ M, k < w.heap.size) (id : TxI) (shard : Int) (yes : Bool) :
 Calls Try.prog 11 #[pt p, .agg #[.int .i64 id.node, .int .i64 id.boot, .int .i64 id.n], .int .i64 shard, .bool yes] w fun e w' => ∃ v, e = .returned (.tuple #[v, .int .i64 (voteO s id shard yes).e]) ∧ Own w' w.heap.size v (voteO s id shard yes).r ∧ Co M w' p (voteO s id shard yes).s ∧ Kept [p] w w' := by
 have hfew : s.under.length ≤ 1000 := by have := hs.few; omega
 have HA := fun W (hx : Ext w W) => cat_any (h.ext hx) id false hfew
 have HCO := Lib.hid h
 have HM := Lib.hid hM
 have HPL := Lib.hid h.lt
 obtain ⟨A, cap, h⟩ := h
 obtain ⟨c0, c1, c2, c3, cf⟩ := rows4 h.row
 have HH := Lib.hid h
 clear h hM c0 c1 c2
 have hx0 := Ext.refl w
 cases hat : s.at_ id false with
 | none =>
  have HV : Hid (voteO s id shard yes = ⟨[], 9, s⟩) := Lib.hid (by unfold voteO; rw [hat])
  have ha : atV s id false = .tuple #[.int .i64 0, .int .i64 9] := by unfold atV; rw [hat]
  rw [ha] at HA
  clear ha hat
  unfold pt at *
  go_enter Try.func11, Try.ntmps11
  go_wp2_with fail
  generalize hw1 : w.alloc _ = wb
  have hxb : Ext w wb := hw1 ▸ (Ext.refl w).alloc _
  clear hw1
  refine (HA _ hxb).mono ?_
  rintro e w2 ⟨rfl, hx2⟩
  have HX := Lib.hid (hxb.trans hx2)
  clear HA hxb hx2
  go_wp2
  go_ret2
  rw [HV.out]
  exact ⟨_, rfl, Own.nil _ _, HCO.out.ext HX.out, .of_ext HX.out⟩
 | some i =>
  obtain ⟨hi, hid, hd, _⟩ := at_some hat
  have ha : atV s id false = .tuple #[.int .i64 i, .int .i64 0] := by unfold atV; rw [hat]
  rw [ha] at HA
  rw [row_eq hi] at hid hd
  have HV : Hid (voteO s id shard yes = if hasI s.under[i].shards shard = false then ⟨[], 2, s⟩
   else if yes = false then (if allIn s.under[i].shards s.under[i].yes then ⟨[], 13, s⟩ else ⟨[], 0, { s with under := s.under.eraseIdx i }⟩)
   else ⟨if allIn s.under[i].shards (s.under[i].yes ++ [shard]) then putD { s.under[i] with yes := s.under[i].yes ++ [shard] } else [], 0, { s with under := s.under.set i { s.under[i] with yes := s.under[i].yes ++ [shard] } }⟩) := Lib.hid (by unfold voteO; rw [hat]; simp only [row_eq hi])
  obtain ⟨ad, cs, rfl, _, _, hcell, A1, c1, rfl, hslM⟩ := HH.out.rs.at_ (by omega) hi
  have hok := hs.rows _ (List.getElem_mem hi)
  have hrl := rightF_mem hok.right
  have hlen := (rightF_len hok.right).2
  have hb1 := hok.boot1
  have hn1 := hok.n1
  generalize s.under[i] = t at *
  have hilt : (i : Int) < (s.under.length : Int) := by omega
  have HC := Lib.hid fun W (hx : Ext w W) (j : Nat) (v : Value) (hj : (trC t (.slice A1 t.shards.length c1))[j]? = some v) => hx.cell (show w.cell? ((ad.add (i * 13)).add j) = some v by rw [add_addB]; exact hcell j v hj)
  have HSM := Lib.hid hslM
  have HCT := fun W (hx : Ext w W) => icont_any shard A1 c1 t.shards W (hslM.sl.ext hx) (by omega)
  have HRL := Lib.hid hrl
  clear ha hat hok hid hd hcell hslM hrl
  unfold pt at *
  go_enter Try.func11, Try.ntmps11
  go_wp2_with fail
  generalize hw1 : w.alloc _ = wb
  have hxb : Ext w wb := hw1 ▸ (Ext.refl w).alloc _
  clear hw1
  refine (HA _ hxb).mono ?_
  rintro e w2 ⟨rfl, hx2⟩
  have hxw2 := hxb.trans hx2
  clear HA hxb hx2
  go_wp2_with (with_reducible first | refine sL 85 ?_ | refine sA 85 ?_ | refine sS 85 ?_ | refine sL 83 ?_)
  refine go_on (wpList_load_elem rfl 85 _ rfl (ad.add (i * 13)) rfl (trC t (.slice A1 t.shards.length c1)) _ (HC.out _ hxw2) Try.underlying85 rfl (tx_size rfl) ?_)
  go_wp2_with (with_reducible first | refine sL 85 ?_ | refine sA 85 ?_ | refine sS 85 ?_ | refine sL 83 ?_)
  refine go_on (wpList_alloc_ rfl rfl tx_info ?_)
  go_wp2_with (with_reducible first | refine sL 85 ?_ | refine sA 85 ?_ | refine sS 85 ?_ | refine sL 83 ?_)
  refine go_on (wpList_store_last rfl rfl rfl rfl (by simpa using tx_size (trC_length t (.slice A1 t.shards.length c1))) rfl (all_oneCell_toArray (trC_one _ _ _ _)) ?_)
  intro wc hrowc hxc _
  have hgw := hxw2.size
  have hgc := obj_lt hrowc
  generalize w2.heap.size = gt at *
  have hxwc := hxw2.trans hxc
  have HRC := Lib.hid hrowc
  have T3 : ∀ W, Ext wc W → W.cell? ⟨gt, 3, none⟩ = some (.slice A1 t.shards.length c1) := fun W hx => by rw [cell_of_row _ _ _ _ _ _ (hx.obj hrowc)]; rfl
  have hxcc := Ext.refl wc
  have HXC := Lib.hid hxwc
  clear hxw2 hxc hrowc
  go_wp2_with fail
  refine (HCT _ hxwc).mono ?_
  rintro e _ ⟨rfl, rfl⟩
  by_cases hhas : hasI t.shards shard = true; rotate_left
  ·have HV2 : Hid (voteO s id shard yes = ⟨[], 2, s⟩) := Lib.hid (by rw [HV.out, if_pos (by simpa using hhas)])
   have hhas : hasI t.shards shard = false := by simpa using hhas
   rw [hhas]
   clear hhas
   go_wp2
   go_ret2
   rw [HV2.out]
   exact ⟨_, rfl, Own.nil _ _, HCO.out.ext HXC.out, .of_ext HXC.out⟩
  have HV := Lib.hid (HV.out.trans (if_neg (by simp [hhas])))
  obtain ⟨hk0, hk3⟩ := HRL.out _ (hasI_iff.1 hhas)
  rw [hhas]
  clear hhas HCT
  cases yes
  ·have HV := Lib.hid (HV.out.trans (if_pos rfl))
   go_wp2_with (with_reducible refine sL 85 ?_)
   refine go_on (wpList_load_rowG (by rfl) 85 _ rfl gt rfl 85 _ (0, 0) _ HRC.out Try.underlying85 rfl (by simpa using tx_size (trC_length t (.slice A1 t.shards.length c1))) ?_)
   go_wp2_with (with_reducible first | refine sL 85 ?_ | refine sA 85 ?_ | refine sS 85 ?_ | refine sL 83 ?_)
   refine go_on (wpList_want (by rfl) (wp_load_mid 83 _ rfl gt 5 rfl (saidC t.yes) _ (tr_range HRC.out).2.1 Try.underlying83 rfl (said_size _) ?_))
   go_wp2_with fail
   refine (txall_any t t.yes A1 c1 wc (HSM.out.sl.ext HXC.out) HRL.out (by omega)).mono ?_
   rintro e w4 ⟨rfl, hx4⟩
   have HX4 := Lib.hid (HXC.out.trans hx4)
   clear hx4 T3 hxcc hxwc
   by_cases hall : allIn t.shards t.yes = true
   ·have HV := Lib.hid (HV.out.trans (if_pos hall))
    rw [hall]
    clear hall
    go_wp2
    go_ret2
    rw [HV.out]
    exact ⟨_, rfl, Own.nil _ _, HCO.out.ext HX4.out, .of_ext HX4.out⟩
   ·have HV := Lib.hid (HV.out.trans (if_neg hall))
    have hall : allIn t.shards t.yes = false := by simpa using hall
    rw [hall]
    have HRM := cremove_any (HCO.out.ext HX4.out) hp (fun k hk => Nat.lt_of_lt_of_le (HM.out k hk) HX4.out.size) i hi hfew
    unfold pt at HRM
    clear hall
    go_wp2_with fail
    refine HRM.mono ?_
    rintro e w3 ⟨rfl, hco3, hk3⟩
    have HC3 := Lib.hid hco3
    have HK3 := Lib.hid ((Kept.of_ext HX4.out).trans hk3)
    clear hco3 hk3
    go_wp2
    go_ret2
    rw [HV.out]
    exact ⟨_, rfl, Own.nil _ _, HC3.out, HK3.out⟩
  ·have HV := Lib.hid (HV.out.trans (if_neg (by simp)))
   obtain ⟨k, rfl⟩ := Int.eq_ofNat_of_zero_le hk0
   have hk3 : k ≤ 3 := by omega
   have hk4 : (k : Int) < 4 := by omega
   have HTN : Hid ((trC t (.slice A1 t.shards.length c1)).set (5 + k) (.bool true) = trC { t with yes := t.yes ++ [(k : Int)] } (.slice A1 t.shards.length c1)) := Lib.hid (trC_vote t _ k hk3)
   have T5 : wc.cell? ⟨gt, 5 + k, none⟩ = some (.bool (hasI t.yes k)) := by
    have := tr_cell HRC.out (5 + k) _ (trC_said t _ (saidC_get t.yes hk3))
    rwa [add0] at this
   have TF : ∀ j, wc.frozen? ⟨gt, j, none⟩ = false := fun j => frozen_of_row wc gt j _ _ HRC.out
   have c3c := c3 _ hxwc
   have hgp : ¬ gt = p := by have := HPL.out; omega
   have hset : (wc.setCell ⟨gt, 5 + k, none⟩ (.bool true)).heap[gt]? = some (.cells (trC { t with yes := t.yes ++ [(k : Int)] } (.slice A1 t.shards.length c1)).toArray 85 (0, 0)) := by
    have := heap_setCell_same wc gt (5 + k) _ _ (.bool true) HRC.out
    rw [← HTN.out]
    simpa using this
   have hkd : Kept [gt] wc (wc.setCell ⟨gt, 5 + k, none⟩ (.bool true)) := (Kept.refl _ _).setCell (.inl (by simp)) _
   have HSET := Lib.hid hset
   have HXD : Hid (Ext w (wc.setCell ⟨gt, 5 + k, none⟩ (.bool true))) := Lib.hid (HXC.out.kept hkd (one_ge hgw))
   have HSZ : Hid (gt < (wc.setCell ⟨gt, 5 + k, none⟩ (.bool true)).heap.size) := Lib.hid (obj_lt hset)
   clear hset hkd hk0 T3 hxcc c3 cf hxwc
   go_wp2_with fail
   generalize wc.setCell ⟨gt, 5 + k, none⟩ (.bool true) = wd at *
   clear T5 TF c3c
   have hMd : ∀ k ∈ M, k < wd.heap.size := fun k hk => Nat.lt_of_lt_of_le (HM.out k hk) HXD.out.size
   refine (tclone_any (some ad) cap s.under M wd wd (HH.out.rs.kept (.of_ext HXD.out)) (Ext.refl _) (by omega)).mono ?_
   rintro e we ⟨v5, rfl, ho5, hx5⟩
   obtain ⟨A5, c5, rfl⟩ := ho5.form
   obtain ⟨css5, q1, q2, q3, q4⟩ := ho5
   obtain ⟨g5, cur5, rfl, -, hb5, hg5, hnc5, hsz5⟩ := own_some q3 (by omega)
   have hp5 : ¬ p = g5 := by have := HPL.out; have := HXD.out.size; omega
   have hrowp := (HXD.out.trans hx5).obj HH.out.row
   obtain ⟨-, -, -, p3, pf⟩ := row4_at hrowp
   have hset := heap_setCell_same we p 3 _ _ (.slice (some ⟨g5, 0, none⟩) s.under.length c5) hrowp
   have hkf : Kept [p] we (we.setCell ⟨p, 3, none⟩ (.slice (some ⟨g5, 0, none⟩) s.under.length c5)) := (Kept.refl _ _).setCell (.inl (by simp)) _
   have HPF : Hid ((we.setCell ⟨p, 3, none⟩ (.slice (some ⟨g5, 0, none⟩) s.under.length c5)).heap[p]? = some (.cells #[.int .i64 s.node, .int .i64 s.boot, .int .i64 s.next, .slice (some ⟨g5, 0, none⟩) s.under.length c5] 72 (0, 0))) := Lib.hid (by simpa using hset)
   have HKF := Lib.hid hkf
   have HGF := Lib.hid (hkf.heap hg5 (by simpa using fun e => hp5 e.symm))
   have HTF := Lib.hid (hkf.heap (hx5.obj HSET.out) (by simpa using hgp))
   have HX5 := Lib.hid hx5
   have HOF : Hid (OwnR RTr 13 85 M wd (we.setCell ⟨p, 3, none⟩ (.slice (some ⟨g5, 0, none⟩) s.under.length c5)) wd.heap.size (.slice (some ⟨g5, 0, none⟩) s.under.length c5) s.under) := Lib.hid ⟨css5, q1, q2, q3.kept hkf.grown1 (.inr (by simpa [Value.ownBlock] using fun e => hp5 e.symm)), q4⟩
   have HB5 := Lib.hid hb5
   clear hset hkf hrowp q1 q2 q3 q4 hg5 hx5 hb5
   go_wp2_with fail
   generalize we.setCell ⟨p, 3, none⟩ (.slice (some ⟨g5, 0, none⟩) s.under.length c5) = wf at *
   clear p3 pf
   obtain ⟨-, -, -, p3, -⟩ := rows4 HPF.out
   have hxf : Ext wf wf.drew := (Ext.refl _).drew
   refine wp_region_phase (S := fun w' => Ext wf w') 7 (by kernel_rfl) (by kernel_rfl) ?_ (fun hHeld => ?_)
   ·exact hxf
   simp only [List.drop_succ_cons, List.drop_zero]
   refine name_head ?_
   intro wr0 hw0
   rw [hw0] at hHeld
   refine wt 0 _ ?_
   simp only [red, Act.put]
   refine wt 1 _ ?_
   simp only [red, Act.put]
   refine wt 2 _ ?_
   simp only [red, Act.put]
   refine wt 3 _ ?_
   simp only [red, Act.put]
   refine wt 4 _ ?_
   simp only [red, Act.put]
   refine wy 5 (v := .agg (trC { t with yes := t.yes ++ [(k : Int)] } (.slice A1 t.shards.length c1)).toArray) (by rfl) (yieldsIf_load_mid (by rfl) 85 _ rfl gt 0 rfl (trC { t with yes := t.yes ++ [(k : Int)] } (.slice A1 t.shards.length c1)) _ (fun w' hx => (tr_range (hx.obj HTF.out)).1) Try.underlying85 rfl (tx_size rfl)) ?_
   simp only [red, Act.put]
   refine wt 6 _ ?_
   simp only [red, Act.put]
   refine wpHead_done (by kernel_rfl) ?_
   go_wp2_with (with_reducible first | refine sL 85 ?_ | refine sA 85 ?_ | refine sS 85 ?_ | refine sL 83 ?_)
   refine go_on (wpList_store_at rfl 85 _ _ rfl (o := i * 13) rfl rfl rfl (hHeld.obj HGF.out) (by rw [hsz5, trC_length]; omega) (tx_size rfl) (trC_one _ _ _ _) ?_)
   intro wg hWg hkg _
   have hxfd := hHeld
   have hkfg : Kept [g5] wf wg := (Kept.of_ext hxfd).trans hkg
   have hgt5 : ¬ gt = g5 := by have := HSZ.out; have := HB5.out; omega
   have HPG := Lib.hid (hkfg.heap HPF.out (by simpa using hp5))
   have HTG := Lib.hid (hkfg.heap HTF.out (by simpa using hgt5))
   have HKD : Hid (Kept [p] wd wg) := Lib.hid ((((Kept.of_ext HX5.out).trans HKF.out).mono (N := [p, g5]) (by intro k hk; simp at hk; simp [hk])).trans (hkfg.mono (by intro k hk; simp at hk; simp [hk])) |>.less (by intro k hk hlt; have := HB5.out; simp at hk; rcases hk with h | h; exact List.mem_singleton.2 h; exact absurd hlt (by omega)))
   have HKW : Hid (Kept [p] w wg) := Lib.hid ((Kept.of_ext HXD.out).trans HKD.out)
   have hpm : ∀ k ∈ [p], k ∈ M := by intro k hk; simp at hk; subst hk; exact hp
   have hsm : RTr.says M wd (trC { t with yes := t.yes ++ [(k : Int)] } (.slice A1 t.shards.length c1)) { t with yes := t.yes ++ [(k : Int)] } := ⟨A1, c1, rfl, HSM.out.kept (.of_ext HXD.out)⟩
   have hset := OwnR.set (W := wg) (HOF.out.ext hxfd) hi hsm (fun cur hc => by
    have e := (hxfd.obj HGF.out).symm.trans hc
    injection e with e
    injection e with e
    subst e
    exact hWg)
   have HCG : Hid (Co M wg p ⟨s.node, s.boot, s.next, s.under.set i { t with yes := t.yes ++ [(k : Int)] }⟩) := Lib.hid (co_own HPG.out hMd (hset.read (HKD.out.mono hpm)))
   have HSG : Hid (Sl wg A1 (ib t.shards)) := Lib.hid (HSM.out.kept (HKW.out.mono hpm)).sl
   clear hset hsm hWg hkg hkfg hHeld hxfd p3
   go_wp2_with (with_reducible refine sL 85 ?_)
   refine go_on (wpList_load_row rfl 85 _ rfl gt rfl 85 _ (0, 0) _ HTG.out Try.underlying85 rfl (by simpa using tx_size (trC_length { t with yes := t.yes ++ [(k : Int)] } (.slice A1 t.shards.length c1))) ?_)
   go_wp2_with (with_reducible refine sL 83 ?_)
   refine go_on (wpList_load_mid rfl 83 _ rfl gt 5 rfl (saidC (t.yes ++ [(k : Int)])) _ (tr_range HTG.out).2.1 Try.underlying83 rfl (said_size _) ?_)
   go_wp2_with fail
   refine (txall_any { t with yes := t.yes ++ [(k : Int)] } (t.yes ++ [(k : Int)]) A1 c1 wg HSG.out HRL.out (by simp only []; omega)).mono ?_
   rintro e wh ⟨rfl, hxh⟩
   simp only []
   have HCH := Lib.hid (HCG.out.ext hxh)
   have HKH := Lib.hid (HKW.out.ext hxh)
   have HTH := Lib.hid (hxh.obj HTG.out)
   have HSH := Lib.hid (HSG.out.ext hxh)
   clear hxh
   by_cases hall : allIn t.shards (t.yes ++ [(k : Int)]) = true
   ·rw [if_pos hall] at HV
    rw [hall]
    clear hall
    go_wp2_with (with_reducible refine sL 85 ?_)
    refine go_on (wpList_load_row rfl 85 _ rfl gt rfl 85 _ (0, 0) _ HTH.out Try.underlying85 rfl (by simpa using tx_size (trC_length { t with yes := t.yes ++ [(k : Int)] } (.slice A1 t.shards.length c1))) ?_)
    go_wp2_with fail
    refine (cput_any { t with yes := t.yes ++ [(k : Int)] } A1 c1 wh HSH.out HRL.out (by simp only []; omega) (by simp only []; omega) (by simp only []; omega)).mono ?_
    rintro e wi ⟨v9, rfl, ho9, hx9⟩
    have HO9 := Lib.hid (ho9.low HKH.out.size)
    have HCI := Lib.hid (HCH.out.ext hx9)
    have HKI := Lib.hid (HKH.out.ext hx9)
    clear ho9 hx9
    go_wp2
    go_ret2
    rw [HV.out]
    exact ⟨_, rfl, HO9.out, HCI.out, HKI.out⟩
   ·rw [if_neg hall] at HV
    have hall : allIn t.shards (t.yes ++ [(k : Int)]) = false := by simpa using hall
    rw [hall]
    clear hall
    go_wp2
    go_ret2
    rw [HV.out]
    exact ⟨_, rfl, Own.nil _ _, HCH.out, HKH.out⟩
end Go.Proofs.Ytijopcdjlpafdaa
namespace Go.Proofs.Ytijopcdjlpafdaa
open Go.RowKit
set_option maxRecDepth 20000 in
set_option maxHeartbeats 4000000 in
theorem CAck_any {M : List Nat} {w : World} {p : Nat} {s : Cs} (h : Co M w p s) (hs : s.Ok) (hp : p ∈ M) (hM : ∀ k ∈ M, k < w.heap.size) (id : TxI) (shard : Int) :
 Calls Try.prog 12 #[pt p, .agg #[.int .i64 id.node, .int .i64 id.boot, .int .i64 id.n], .int .i64 shard] w fun e w' => ∃ v, e = .returned (.tuple #[v, .int .i64 (ackO s id shard).e]) ∧ Own w' w.heap.size v (ackO s id shard).r ∧ Co M w' p (ackO s id shard).s ∧ Kept [p] w w' := by
 have hfew : s.under.length ≤ 1000 := by have := hs.few; omega
 have HA := fun W (hx : Ext w W) => cat_any (h.ext hx) id true hfew
 have HCO := Lib.hid h
 have HM := Lib.hid hM
 have HPL := Lib.hid h.lt
 obtain ⟨A, cap, h⟩ := h
 obtain ⟨c0, c1, c2, c3, cf⟩ := rows4 h.row
 have HH := Lib.hid h
 clear h hM c0 c1 c2
 have hx0 := Ext.refl w
 cases hat : s.at_ id true with
 | none =>
  have HV : Hid (ackO s id shard = ⟨[], 9, s⟩) := Lib.hid (by unfold ackO; rw [hat])
  have ha : atV s id true = .tuple #[.int .i64 0, .int .i64 9] := by unfold atV; rw [hat]
  rw [ha] at HA
  clear ha hat
  unfold pt at *
  go_enter Try.func12, Try.ntmps12
  go_wp2_with fail
  generalize hw1 : w.alloc _ = wb
  have hxb : Ext w wb := hw1 ▸ (Ext.refl w).alloc _
  clear hw1
  refine (HA _ hxb).mono ?_
  rintro e w2 ⟨rfl, hx2⟩
  have HX := Lib.hid (hxb.trans hx2)
  clear HA hxb hx2
  go_wp2
  go_ret2
  rw [HV.out]
  exact ⟨_, rfl, Own.nil _ _, HCO.out.ext HX.out, .of_ext HX.out⟩
 | some i =>
  obtain ⟨hi, hid, hd, _⟩ := at_some hat
  have ha : atV s id true = .tuple #[.int .i64 i, .int .i64 0] := by unfold atV; rw [hat]
  rw [ha] at HA
  rw [row_eq hi] at hid hd
  have HV : Hid (ackO s id shard = if hasI s.under[i].shards shard = false then ⟨[], 2, s⟩
   else ⟨if allIn s.under[i].shards (s.under[i].ack ++ [shard]) then 3 :: be4 id.boot ++ be4 id.n else [], 0, { s with under := s.under.set i { s.under[i] with ack := s.under[i].ack ++ [shard] } }⟩) := Lib.hid (by unfold ackO; rw [hat]; simp only [row_eq hi])
  obtain ⟨ad, cs, rfl, _, _, hcell, A1, c1, rfl, hslM⟩ := HH.out.rs.at_ (by omega) hi
  have hok := hs.rows _ (List.getElem_mem hi)
  have hrl := rightF_mem hok.right
  have hlen := (rightF_len hok.right).2
  have hb1 : 0 ≤ id.boot := by rw [← hid]; have := hok.boot1; omega
  have hn1 : 0 ≤ id.n := by rw [← hid]; have := hok.n1; omega
  generalize s.under[i] = t at *
  have hilt : (i : Int) < (s.under.length : Int) := by omega
  have HC := Lib.hid fun W (hx : Ext w W) (j : Nat) (v : Value) (hj : (trC t (.slice A1 t.shards.length c1))[j]? = some v) => hx.cell (show w.cell? ((ad.add (i * 13)).add j) = some v by rw [add_addB]; exact hcell j v hj)
  have HSM := Lib.hid hslM
  have HCT := fun W (hx : Ext w W) => icont_any shard A1 c1 t.shards W (hslM.sl.ext hx) (by omega)
  have HRL := Lib.hid hrl
  clear ha hat hok hid hd hcell hslM hrl
  unfold pt at *
  go_enter Try.func12, Try.ntmps12
  go_wp2_with fail
  generalize hw1 : w.alloc _ = wb
  have hxb : Ext w wb := hw1 ▸ (Ext.refl w).alloc _
  have hIB : TxAt wb w.heap.size id := hw1 ▸ heap_alloc_new w _
  clear hw1
  refine (HA _ hxb).mono ?_
  rintro e w2 ⟨rfl, hx2⟩
  have HIB : Hid (TxAt w2 w.heap.size id) := Lib.hid (hx2.obj hIB)
  have hIL := obj_lt hIB
  have hz2 := hx2.size
  clear hIB
  have hxw2 := hxb.trans hx2
  clear HA hxb hx2
  go_wp2_with (with_reducible first | refine sL 85 ?_ | refine sA 85 ?_ | refine sS 85 ?_ | refine sL 83 ?_)
  refine go_on (wpList_load_elem rfl 85 _ rfl (ad.add (i * 13)) rfl (trC t (.slice A1 t.shards.length c1)) _ (HC.out _ hxw2) Try.underlying85 rfl (tx_size rfl) ?_)
  go_wp2_with (with_reducible first | refine sL 85 ?_ | refine sA 85 ?_ | refine sS 85 ?_ | refine sL 83 ?_)
  refine go_on (wpList_alloc_ rfl rfl tx_info ?_)
  go_wp2_with (with_reducible first | refine sL 85 ?_ | refine sA 85 ?_ | refine sS 85 ?_ | refine sL 83 ?_)
  refine go_on (wpList_store_last rfl rfl rfl rfl (by simpa using tx_size (trC_length t (.slice A1 t.shards.length c1))) rfl (all_oneCell_toArray (trC_one _ _ _ _)) ?_)
  intro wc hrowc hxc _
  have hgw := hxw2.size
  have hgc := obj_lt hrowc
  generalize w2.heap.size = gt at *
  have hxwc := hxw2.trans hxc
  have HIC : Hid (TxAt wc w.heap.size id) := Lib.hid (hxc.obj HIB.out)
  have hil : w.heap.size < gt := by omega
  clear hIL hz2 HIB
  have HRC := Lib.hid hrowc
  have T3 : ∀ W, Ext wc W → W.cell? ⟨gt, 3, none⟩ = some (.slice A1 t.shards.length c1) := fun W hx => by rw [cell_of_row _ _ _ _ _ _ (hx.obj hrowc)]; rfl
  have hxcc := Ext.refl wc
  have HXC := Lib.hid hxwc
  clear hxw2 hxc hrowc
  go_wp2_with fail
  refine (HCT _ hxwc).mono ?_
  rintro e _ ⟨rfl, rfl⟩
  by_cases hhas : hasI t.shards shard = true; rotate_left
  ·have HV2 : Hid (ackO s id shard = ⟨[], 2, s⟩) := Lib.hid (by rw [HV.out, if_pos (by simpa using hhas)])
   have hhas : hasI t.shards shard = false := by simpa using hhas
   rw [hhas]
   clear hhas
   go_wp2
   go_ret2
   rw [HV2.out]
   exact ⟨_, rfl, Own.nil _ _, HCO.out.ext HXC.out, .of_ext HXC.out⟩
  have HV := Lib.hid (HV.out.trans (if_neg (by simp [hhas])))
  obtain ⟨hk0, hk3⟩ := HRL.out _ (hasI_iff.1 hhas)
  rw [hhas]
  clear hhas HCT
  obtain ⟨k, rfl⟩ := Int.eq_ofNat_of_zero_le hk0
  have hk3 : k ≤ 3 := by omega
  have hk4 : (k : Int) < 4 := by omega
  have HTN : Hid ((trC t (.slice A1 t.shards.length c1)).set (9 + k) (.bool true) = trC { t with ack := t.ack ++ [(k : Int)] } (.slice A1 t.shards.length c1)) := Lib.hid (trC_acked t _ k hk3)
  have T5 : wc.cell? ⟨gt, 9 + k, none⟩ = some (.bool (hasI t.ack k)) := by
   have := tr_cell HRC.out (9 + k) _ (trC_ack t _ (saidC_get t.ack hk3))
   rwa [add0] at this
  have TF : ∀ j, wc.frozen? ⟨gt, j, none⟩ = false := fun j => frozen_of_row wc gt j _ _ HRC.out
  have c3c := c3 _ hxwc
  have hgp : ¬ gt = p := by have := HPL.out; omega
  have hset : (wc.setCell ⟨gt, 9 + k, none⟩ (.bool true)).heap[gt]? = some (.cells (trC { t with ack := t.ack ++ [(k : Int)] } (.slice A1 t.shards.length c1)).toArray 85 (0, 0)) := by
   have := heap_setCell_same wc gt (9 + k) _ _ (.bool true) HRC.out
   rw [← HTN.out]
   simpa using this
  have hkd : Kept [gt] wc (wc.setCell ⟨gt, 9 + k, none⟩ (.bool true)) := (Kept.refl _ _).setCell (.inl (by simp)) _
  have HSET := Lib.hid hset
  have HID : Hid (TxAt (wc.setCell ⟨gt, 9 + k, none⟩ (.bool true)) w.heap.size id) := Lib.hid (hkd.heap HIC.out (by simp; omega))
  have hip : ¬ w.heap.size = p := by have := HPL.out; omega
  have HXD : Hid (Ext w (wc.setCell ⟨gt, 9 + k, none⟩ (.bool true))) := Lib.hid (HXC.out.kept hkd (one_ge hgw))
  have HSZ : Hid (gt < (wc.setCell ⟨gt, 9 + k, none⟩ (.bool true)).heap.size) := Lib.hid (obj_lt hset)
  clear hset hkd hk0 T3 hxcc c3 cf hxwc
  go_wp2_with fail
  generalize wc.setCell ⟨gt, 9 + k, none⟩ (.bool true) = wd at *
  clear T5 TF c3c
  have hMd : ∀ k ∈ M, k < wd.heap.size := fun k hk => Nat.lt_of_lt_of_le (HM.out k hk) HXD.out.size
  refine (tclone_any (some ad) cap s.under M wd wd (HH.out.rs.kept (.of_ext HXD.out)) (Ext.refl _) (by omega)).mono ?_
  rintro e we ⟨v5, rfl, ho5, hx5⟩
  obtain ⟨A5, c5, rfl⟩ := ho5.form
  obtain ⟨css5, q1, q2, q3, q4⟩ := ho5
  obtain ⟨g5, cur5, rfl, -, hb5, hg5, hnc5, hsz5⟩ := own_some q3 (by omega)
  have hp5 : ¬ p = g5 := by have := HPL.out; have := HXD.out.size; omega
  have hrowp := (HXD.out.trans hx5).obj HH.out.row
  obtain ⟨-, -, -, p3, pf⟩ := row4_at hrowp
  have hset := heap_setCell_same we p 3 _ _ (.slice (some ⟨g5, 0, none⟩) s.under.length c5) hrowp
  have hkf : Kept [p] we (we.setCell ⟨p, 3, none⟩ (.slice (some ⟨g5, 0, none⟩) s.under.length c5)) := (Kept.refl _ _).setCell (.inl (by simp)) _
  have HPF : Hid ((we.setCell ⟨p, 3, none⟩ (.slice (some ⟨g5, 0, none⟩) s.under.length c5)).heap[p]? = some (.cells #[.int .i64 s.node, .int .i64 s.boot, .int .i64 s.next, .slice (some ⟨g5, 0, none⟩) s.under.length c5] 72 (0, 0))) := Lib.hid (by simpa using hset)
  have HKF := Lib.hid hkf
  have HGF := Lib.hid (hkf.heap hg5 (by simpa using fun e => hp5 e.symm))
  have HTF := Lib.hid (hkf.heap (hx5.obj HSET.out) (by simpa using hgp))
  have HX5 := Lib.hid hx5
  have HOF : Hid (OwnR RTr 13 85 M wd (we.setCell ⟨p, 3, none⟩ (.slice (some ⟨g5, 0, none⟩) s.under.length c5)) wd.heap.size (.slice (some ⟨g5, 0, none⟩) s.under.length c5) s.under) := Lib.hid ⟨css5, q1, q2, q3.kept hkf.grown1 (.inr (by simpa [Value.ownBlock] using fun e => hp5 e.symm)), q4⟩
  have HB5 := Lib.hid hb5
  clear hset hkf hrowp q1 q2 q3 q4 hg5 hx5 hb5
  go_wp2_with fail
  generalize we.setCell ⟨p, 3, none⟩ (.slice (some ⟨g5, 0, none⟩) s.under.length c5) = wf at *
  clear p3 pf
  obtain ⟨-, -, -, p3, -⟩ := rows4 HPF.out
  have hxf : Ext wf wf.drew := (Ext.refl _).drew
  refine wp_region_phase (S := fun w' => Ext wf w') 7 (by kernel_rfl) (by kernel_rfl) ?_ (fun hHeld => ?_)
  ·exact hxf
  simp only [List.drop_succ_cons, List.drop_zero]
  refine name_head ?_
  intro wr0 hw0
  rw [hw0] at hHeld
  refine wt 0 _ ?_
  simp only [red, Act.put]
  refine wt 1 _ ?_
  simp only [red, Act.put]
  refine wt 2 _ ?_
  simp only [red, Act.put]
  refine wt 3 _ ?_
  simp only [red, Act.put]
  refine wt 4 _ ?_
  simp only [red, Act.put]
  refine wy 5 (v := .agg (trC { t with ack := t.ack ++ [(k : Int)] } (.slice A1 t.shards.length c1)).toArray) (by rfl) (yieldsIf_load_mid (by rfl) 85 _ rfl gt 0 rfl (trC { t with ack := t.ack ++ [(k : Int)] } (.slice A1 t.shards.length c1)) _ (fun w' hx => (tr_range (hx.obj HTF.out)).1) Try.underlying85 rfl (tx_size rfl)) ?_
  simp only [red, Act.put]
  refine wt 6 _ ?_
  simp only [red, Act.put]
  refine wpHead_done (by kernel_rfl) ?_
  go_wp2_with (with_reducible first | refine sL 85 ?_ | refine sA 85 ?_ | refine sS 85 ?_ | refine sL 83 ?_)
  refine go_on (wpList_store_at rfl 85 _ _ rfl (o := i * 13) rfl rfl rfl (hHeld.obj HGF.out) (by rw [hsz5, trC_length]; omega) (tx_size rfl) (trC_one _ _ _ _) ?_)
  intro wg hWg hkg _
  have hxfd := hHeld
  have hkfg : Kept [g5] wf wg := (Kept.of_ext hxfd).trans hkg
  have hgt5 : ¬ gt = g5 := by have := HSZ.out; have := HB5.out; omega
  have HPG := Lib.hid (hkfg.heap HPF.out (by simpa using hp5))
  have HTG := Lib.hid (hkfg.heap HTF.out (by simpa using hgt5))
  have HKD : Hid (Kept [p] wd wg) := Lib.hid ((((Kept.of_ext HX5.out).trans HKF.out).mono (N := [p, g5]) (by intro k hk; simp at hk; simp [hk])).trans (hkfg.mono (by intro k hk; simp at hk; simp [hk])) |>.less (by intro k hk hlt; have := HB5.out; simp at hk; rcases hk with h | h; exact List.mem_singleton.2 h; exact absurd hlt (by omega)))
  have hi5 : ¬ w.heap.size = g5 := by have := HSZ.out; have := HB5.out; omega
  have HIG : Hid (TxAt wg w.heap.size id) := Lib.hid (hkfg.heap (HKF.out.heap (HX5.out.obj HID.out) (by simpa using hip)) (by simpa using hi5))
  have HKW : Hid (Kept [p] w wg) := Lib.hid ((Kept.of_ext HXD.out).trans HKD.out)
  have hpm : ∀ k ∈ [p], k ∈ M := by intro k hk; simp at hk; subst hk; exact hp
  have hsm : RTr.says M wd (trC { t with ack := t.ack ++ [(k : Int)] } (.slice A1 t.shards.length c1)) { t with ack := t.ack ++ [(k : Int)] } := ⟨A1, c1, rfl, HSM.out.kept (.of_ext HXD.out)⟩
  have hset := OwnR.set (W := wg) (HOF.out.ext hxfd) hi hsm (fun cur hc => by
   have e := (hxfd.obj HGF.out).symm.trans hc
   injection e with e
   injection e with e
   subst e
   exact hWg)
  have HCG : Hid (Co M wg p ⟨s.node, s.boot, s.next, s.under.set i { t with ack := t.ack ++ [(k : Int)] }⟩) := Lib.hid (co_own HPG.out hMd (hset.read (HKD.out.mono hpm)))
  have HSG : Hid (Sl wg A1 (ib t.shards)) := Lib.hid (HSM.out.kept (HKW.out.mono hpm)).sl
  clear hset hsm hWg hkg hkfg hHeld hxfd p3
  go_wp2_with (with_reducible refine sL 85 ?_)
  refine go_on (wpList_load_row rfl 85 _ rfl gt rfl 85 _ (0, 0) _ HTG.out Try.underlying85 rfl (by simpa using tx_size (trC_length { t with ack := t.ack ++ [(k : Int)] } (.slice A1 t.shards.length c1))) ?_)
  go_wp2_with (with_reducible refine sL 83 ?_)
  refine go_on (wpList_load_mid rfl 83 _ rfl gt 9 rfl (saidC (t.ack ++ [(k : Int)])) _ (tr_range HTG.out).2.2 Try.underlying83 rfl (said_size _) ?_)
  go_wp2_with fail
  refine (txall_any { t with ack := t.ack ++ [(k : Int)] } (t.ack ++ [(k : Int)]) A1 c1 wg HSG.out HRL.out (by simp only []; omega)).mono ?_
  rintro e wh ⟨rfl, hxh⟩
  simp only []
  have HCH := Lib.hid (HCG.out.ext hxh)
  have HKH := Lib.hid (HKW.out.ext hxh)
  have HIH : Hid (TxAt wh w.heap.size id) := Lib.hid (hxh.obj HIG.out)
  clear hxh
  by_cases hall : allIn t.shards (t.ack ++ [(k : Int)]) = true
  ·rw [if_pos hall] at HV
   rw [hall]
   clear hall
   have hwk : w.heap.size ≤ wh.heap.size := HKH.out.size
   obtain ⟨t0, t1, t2, -⟩ := rows3 HIH.out
   have hx0h : Ext wh wh.drew := (Ext.refl _).drew
   clear t0 hx0
   go_wp2_with fail
   refine wp_region_phase (S := fun w' => Ext wh w') 7 (by kernel_rfl) (by kernel_rfl) ?_ (fun hHeld => ?_)
   ·exact hx0h
   simp only [List.drop_succ_cons, List.drop_zero]
   refine name_head ?_
   intro wr0 hw0
   rw [hw0] at hHeld
   refine wt 1 _ ?_
   simp only [red, Act.put]
   refine wt 2 _ ?_
   simp only [red, Act.put]
   refine wt 4 _ ?_
   simp only [red, Act.put]
   refine wt 5 _ ?_
   simp only [red, Act.put]
   refine rd [0] ?_
   refine ac (fun K hK => ?_) ?_
   ·go_simp
    refine name_world ?_
    rintro wrz hw0
    have hxn0 : Ext wr0 wrz := hw0 ▸ (Ext.refl _).alloc _
    have hrow0 : wrz.heap[wr0.heap.size]? = some (.cells #[.int .u8 3] 5) := hw0 ▸ heap_alloc_new wr0 _
    have ho0 : Own wrz wh.heap.size (.slice (some ⟨wr0.heap.size, 0, none⟩) 1 1) [3] := hw0 ▸ Own.new wr0 wh.heap.size _ [3] 1 rfl rfl hHeld.size (by simp [maxLen])
    refine hK.out _ _ ?_ (fun hHeld => ?_)
    ·first | assumption | exact Ext.trans (by assumption) (by assumption) | exact Ext.trans hHeld (by assumption)
    clear hK K
    try simp only [red, Act.put]
    refine rd [3] ?_
    refine ac (fun K hK => ?_) ?_
    ·refine step_callG (by rfl) (by kernel_rfl) (num_i wh _ _ _ id.boot 4 hb1 hHeld ho0 (by simp) (by omega)) ?_
     rintro e wr3 ⟨c4, rfl, ho4, hx4⟩
     refine ⟨_, rfl, ?_⟩
     refine hK.out _ _ ?_ (fun hHeld => ?_)
     ·first | assumption | exact Ext.trans (by assumption) (by assumption) | exact Ext.trans hHeld (by assumption)
     clear hK K
     try simp only [red, Act.put]
     refine rd [6] ?_
     refine ac (fun K hK => ?_) ?_
     ·refine step_callG (by rfl) (by kernel_rfl) (num_i wh _ _ _ id.n 4 hn1 hHeld ho4 (by simp) (by omega)) ?_
      rintro e wr6 ⟨c8, rfl, ho8, hx8⟩
      refine ⟨_, rfl, ?_⟩
      refine hK.out _ _ ?_ (fun hHeld => ?_)
      ·first | assumption | exact Ext.trans (by assumption) (by assumption) | exact Ext.trans hHeld (by assumption)
      clear hK K
      try simp only [red, Act.put]
      refine wpHead_done (by kernel_rfl) ?_
      have HO9 : Hid (Own wr6 w.heap.size c8 (3 :: be4 id.boot ++ be4 id.n)) := Lib.hid (ho8.low hwk)
      have HCI := Lib.hid (HCH.out.ext hHeld)
      have HKI := Lib.hid (HKH.out.ext hHeld)
      clear ho0 ho4 ho8 hHeld
      go_wp2
      go_ret2
      rw [HV.out]
      exact ⟨_, rfl, HO9.out, HCI.out, HKI.out⟩
     exact AllHead.nil
    exact AllHead.nil
   exact AllHead.nil
  ·rw [if_neg hall] at HV
   have hall : allIn t.shards (t.ack ++ [(k : Int)]) = false := by simpa using hall
   rw [hall]
   clear hall
   go_wp2
   go_ret2
   rw [HV.out]
   exact ⟨_, rfl, Own.nil _ _, HCH.out, HKH.out⟩
end Go.Proofs.Ytijopcdjlpafdaa
