/- The walk of coord.Begin. Conditions: the hypotheses of the theorem. -/
import Derived.Test.YtijopcdjlpafdaaCo7
namespace Go.Proofs.Ytijopcdjlpafdaa
open Go.RowKit
theorem results_cell1 {P : Program} {fn : Func} {p u : Tmp} {ty : TypeId} (h : fn.results = #[.cell p ty, .tmp u]) (tmps : Array Value) (w : World) (g : Nat) (t : TypeId) (cs : Array Value) (fr : Nat × Nat) (d : TypeDesc)
    (hp : tmps.getD p undef = .pointer (some ⟨g, 0, none⟩)) (hg : w.heap[g]? = some (.cells cs t fr))
    (hu : P.underlying ty = some d) (hd : (match d with | .struct _ | .array _ _ => true | _ => false) = true) (hi : (P.info? ty).map (·.size) = some cs.size) :
    (results fn tmps).run P w = .ok (.tuple #[.agg cs, tmps.getD u undef]) w := by
  have hp' : tmps[p]?.getD undef = .pointer (some ⟨g, 0, none⟩) := by simpa using hp
  simp [results, h, hp', asAddr, run_loadVar_row w g t ty cs fr d hg hu hd hi]
theorem apitx_info : (Try.prog.info? 35).map (fun i => (i.zero, i.size)) = some (some (.agg #[.int .i64 0, .int .i64 0, .int .i64 0]), 3) := by kernel_rfl
theorem apitx_size (a b c : Int) : (Try.prog.info? 35).map (·.size) = some (#[Value.int .i64 a, .int .i64 b, .int .i64 c] : Array Value).size := (zero_of_info apitx_info).2
theorem OwnR.push {α : Type} {R : Reading α} {s e : Nat} {M : List Nat} {wr w' : World} {base : Nat} {v' : Value} {xs : List α} {css : List (List Value)} {cs : List Value} {x : α} (h1 : css.length = xs.length) (h2 : ∀ cs ∈ css, cs.length = s)
    (h4 : ∀ (k : Nat) (cs : List Value) (x : α), css[k]? = some cs → xs[k]? = some x → R.says M wr cs x) (hc : cs.length = s) (hs : R.says M wr cs x) (h3 : w'.ownsRow base e s v' (xs.length + 1) (css.flatten ++ cs)) : OwnR R s e M wr w' base v' (xs ++ [x]) := by
  refine ⟨css ++ [cs], by simp [h1], ?_, by simpa using h3, ?_⟩
  · intro d hd
    rcases List.mem_append.1 hd with h | h
    · exact h2 d h
    · simp at h; subst h; exact hc
  · intro k d z hk hz
    rw [List.getElem?_append] at hk hz
    by_cases hlt : k < css.length
    · rw [if_pos hlt] at hk
      rw [if_pos (by omega)] at hz
      exact h4 k d z hk hz
    · rw [if_neg hlt] at hk
      rw [if_neg (by omega)] at hz
      have hk0 : k - css.length = 0 := by
        rcases Nat.eq_zero_or_pos (k - css.length) with h | h
        · exact h
        · rw [List.getElem?_eq_none (by simp; omega)] at hk; cases hk
      rw [hk0] at hk
      rw [show k - xs.length = 0 by omega] at hz
      simp at hk hz
      subst hk hz
      exact hs
theorem co_storeR {M : List Nat} {w w2 wr : World} {p base n' c' : Nat} {a b c : Int} {old : Value} {A' : Option Addr} {us' : List Tr} (hr : w2.heap[p]? = some (.cells #[.int .i64 a, .int .i64 b, .int .i64 c, old] 72 (0, 0))) (hp : p ∈ M) (hM : ∀ k ∈ M, k < base) (hk : Kept [p] w w2) (hkr : Kept M wr w2)
    (ho : OwnR RTr 13 85 M wr w2 base (.slice A' n' c') us') :
    Co M (w2.setCell ⟨p, 3, none⟩ (.slice A' n' c')) p ⟨a, b, c, us'⟩ ∧ Kept [p] w (w2.setCell ⟨p, 3, none⟩ (.slice A' n' c')) := by
  have h1 : ∀ k ∈ [p], k ∈ M := by intro k hk; simp at hk; subst hk; exact hp
  have h2 : Kept [p] w2 (w2.setCell ⟨p, 3, none⟩ (.slice A' n' c')) := (Kept.refl _ _).setCell (.inl (by simp)) _
  have hn := ho.cap.1
  subst hn
  refine ⟨⟨A', c', ?_, ((ho.rsm hkr hM).kept (h2.mono h1))⟩, hk.trans h2⟩
  have := heap_setCell_same w2 p 3 _ _ (.slice A' us'.length c') hr
  simpa using this
set_option maxRecDepth 20000 in
set_option maxHeartbeats 4000000 in
theorem CBegin_any {M : List Nat} {w : World} {p : Nat} {s : Cs} (h : Co M w p s) (hs : s.Ok) (hp : p ∈ M) (hM : ∀ k ∈ M, k < w.heap.size) (A : Option Addr) (c : Nat) (sh : List Int) (hsh : SlM M w A (ib sh)) (hm : sh.length ≤ 140737488355328) :
    Calls Try.prog 10 #[pt p, .slice A sh.length c] w fun e w' => e = .returned (.tuple #[.agg #[.int .i64 (beginT s sh).node, .int .i64 (beginT s sh).boot, .int .i64 (beginT s sh).n], .int .i64 (beginE s sh)]) ∧ Co M w' p (beginS s sh) ∧ Kept [p] w w' := by
  have HCO := Lib.hid h
  have HSH := Lib.hid hsh
  have HS := Lib.hid hs
  have HR := fun W (hx : Ext w W) => right_any W A c sh (hsh.sl.ext hx) hm
  obtain ⟨Ac, cap, h⟩ := h
  obtain ⟨c0, c1, c2, c3, cf⟩ := rows4 h.row
  have HH := Lib.hid h
  have HM := Lib.hid hM
  have HPL : Hid (p < w.heap.size) := Lib.hid (obj_lt h.row)
  clear h hsh hs hM
  have bad : ∀ n, beginE s sh = n → n ≠ 0 → Hid (beginE s sh = n ∧ beginT s sh = ⟨0, 0, 0⟩ ∧ beginS s sh = s) := fun n e hn => Lib.hid ⟨e, by unfold beginT; rw [e, if_neg hn], by unfold beginS; rw [e, if_neg hn]⟩
  unfold pt
  go_enter Try.func10, Try.ntmps10
  go_wp2_with (with_reducible refine stop_alloc 35 ?_)
  refine go_on (wpList_alloc_ rfl rfl apitx_info ?_)
  generalize hwa : w.alloc (.cells #[.int .i64 0, .int .i64 0, .int .i64 0] 35) = wa
  have hxa : Ext w wa := hwa ▸ (Ext.refl w).alloc _
  have HRA : Hid (wa.heap[w.heap.size]? = some (.cells #[.int .i64 0, .int .i64 0, .int .i64 0] 35 (0, 0))) := Lib.hid (hwa ▸ heap_alloc_new w _)
  have HZA : Hid (w.heap.size < wa.heap.size) := Lib.hid (obj_lt HRA.out)
  clear hwa
  by_cases h1 : s.boot = 0
  · have HV := bad 13 (by unfold beginE; rw [if_pos h1]) (by decide)
    rw [h1] at c1
    clear HR h1 bad c0 c2 c3 cf
    go_wp2_with (with_reducible refine stop_store 35 ?_)
    refine go_on (wpList_store_whole rfl rfl rfl rfl HRA.out (apitx_size 0 0 0) rfl (by simp [Value.oneCell']) ?_)
    intro W hrow hkW _
    have HXW := Lib.hid (hxa.kept hkW (one_ge (Nat.le_refl _)))
    clear hkW
    go_wp2
    ((try simp only [Exit.inBlock, Exit.then]); refine bodyPost_ret (results_cell1 rfl _ _ w.heap.size _ _ _ _ rfl hrow Try.underlying35 rfl (by kernel_rfl)) rfl ?_)
    rw [HV.out.1, HV.out.2.1, HV.out.2.2]
    exact ⟨rfl, HCO.out.ext HXW.out, .of_ext HXW.out⟩
  have hne : (s.boot == 0) = false := by simpa using h1
  by_cases hr : rightF sh = true; rotate_left
  · have HV := bad 2 (by unfold beginE; rw [if_neg h1, if_pos (by simpa using hr)]) (by decide)
    have hr : rightF sh = false := by simpa using hr
    rw [hr] at HR
    clear h1 bad c0 c2 c3 cf
    go_wp2_with fail
    refine (HR _ hxa).mono ?_
    rintro e _ ⟨rfl, rfl⟩
    go_wp2_with (with_reducible refine stop_store 35 ?_)
    refine go_on (wpList_store_whole rfl rfl rfl rfl HRA.out (apitx_size 0 0 0) rfl (by simp [Value.oneCell']) ?_)
    intro W hrow hkW _
    have HXW := Lib.hid (hxa.kept hkW (one_ge (Nat.le_refl _)))
    clear hkW
    go_wp2
    ((try simp only [Exit.inBlock, Exit.then]); refine bodyPost_ret (results_cell1 rfl _ _ w.heap.size _ _ _ _ rfl hrow Try.underlying35 rfl (by kernel_rfl)) rfl ?_)
    rw [HV.out.1, HV.out.2.1, HV.out.2.2]
    exact ⟨rfl, HCO.out.ext HXW.out, .of_ext HXW.out⟩
  rw [hr] at HR
  by_cases h8 : 8 ≤ s.under.length
  · have HV := bad 8 (by unfold beginE; rw [if_neg h1, if_neg (by simp [hr]), if_pos (.inl h8)]) (by decide)
    have h8' : (8 : Int) ≤ (s.under.length : Int) := by omega
    clear h1 bad c0 cf hr
    go_wp2_with fail
    refine (HR _ hxa).mono ?_
    rintro e _ ⟨rfl, rfl⟩
    go_wp2_with (with_reducible refine stop_store 35 ?_)
    refine go_on (wpList_store_whole rfl rfl rfl rfl HRA.out (apitx_size 0 0 0) rfl (by simp [Value.oneCell']) ?_)
    intro W hrow hkW _
    have HXW := Lib.hid (hxa.kept hkW (one_ge (Nat.le_refl _)))
    clear hkW
    go_wp2
    ((try simp only [Exit.inBlock, Exit.then]); refine bodyPost_ret (results_cell1 rfl _ _ w.heap.size _ _ _ _ rfl hrow Try.underlying35 rfl (by kernel_rfl)) rfl ?_)
    rw [HV.out.1, HV.out.2.1, HV.out.2.2]
    exact ⟨rfl, HCO.out.ext HXW.out, .of_ext HXW.out⟩
  have h8' : ¬ (8 : Int) ≤ (s.under.length : Int) := by omega
  by_cases hnx : 2147483647 ≤ s.next
  · have HV := bad 8 (by unfold beginE; rw [if_neg h1, if_neg (by simp [hr]), if_pos (.inr hnx)]) (by decide)
    clear h1 bad c0 cf hr h8
    go_wp2_with fail
    refine (HR _ hxa).mono ?_
    rintro e _ ⟨rfl, rfl⟩
    go_wp2_with (with_reducible refine stop_store 35 ?_)
    refine go_on (wpList_store_whole rfl rfl rfl rfl HRA.out (apitx_size 0 0 0) rfl (by simp [Value.oneCell']) ?_)
    intro W hrow hkW _
    have HXW := Lib.hid (hxa.kept hkW (one_ge (Nat.le_refl _)))
    clear hkW
    go_wp2
    ((try simp only [Exit.inBlock, Exit.then]); refine bodyPost_ret (results_cell1 rfl _ _ w.heap.size _ _ _ _ rfl hrow Try.underlying35 rfl (by kernel_rfl)) rfl ?_)
    rw [HV.out.1, HV.out.2.1, HV.out.2.2]
    exact ⟨rfl, HCO.out.ext HXW.out, .of_ext HXW.out⟩
  have HV : Hid (beginE s sh = 0 ∧ beginT s sh = ⟨s.node, s.boot, s.next⟩ ∧ beginS s sh = ⟨s.node, s.boot, s.next + 1, s.under ++ [⟨⟨s.node, s.boot, s.next⟩, sh, false, [], []⟩]⟩) := Lib.hid (by
    have e : beginE s sh = 0 := by unfold beginE; rw [if_neg h1, if_neg (by simp [hr]), if_neg (by omega)]
    exact ⟨e, by unfold beginT; rw [if_pos e], by unfold beginS; rw [if_pos e]⟩)
  have hwn : IntKind.i64.wrap (s.next + 1) = s.next + 1 := by
    obtain ⟨k, hk⟩ := Int.eq_ofNat_of_zero_le (show 0 ≤ s.next by have := HS.out.next1; omega)
    rw [hk]
    exact wrap64_nat (k + 1) (by omega)
  have hfew : s.under.length ≤ 1000 := by omega
  have hshl : sh.length ≤ 4 := (rightF_len hr).2
  clear bad h1 hr h8
  go_wp2_with fail
  refine (HR _ hxa).mono ?_
  rintro e _ ⟨rfl, rfl⟩
  go_wp2_with fail
  have c0a := fun W (hx : Ext wa W) => c0 W (hxa.trans hx)
  have c1a := fun W (hx : Ext wa W) => c1 W (hxa.trans hx)
  have c2a := fun W (hx : Ext wa W) => c2 W (hxa.trans hx)
  clear c0 c1 c2 HR
  have hxad : Ext wa wa.drew := (Ext.refl _).drew
  refine wp_region_phase (S := fun w' => Ext wa w') 14 (by kernel_rfl) (by kernel_rfl) ?_ (fun hHeld => ?_)
  · exact hxad
  simp only [List.drop_succ_cons, List.drop_zero]
  refine name_head ?_
  intro wr0 hw0
  rw [hw0] at hHeld
  refine wpHead_take (i := 0) (v := ?_) (by rfl) (by kernel_rfl) (by kernel_rfl) (by exact fun _ _ _ h => h) (Or.inl ⟨by rfl, ?_⟩) (by assumption) ?_
  rotate_left
  · intro w hSw
    first | (go_simp; done) | (go_simp; with_reducible rfl)
  simp only [List.getElem_toArray, List.getElem_cons_zero, Act.put, List.setIfInBounds_toArray, List.set_cons_zero, List.set_cons_succ]
  refine wpHead_take (i := 1) (v := ?_) (by rfl) (by kernel_rfl) (by kernel_rfl) (by exact fun _ _ _ h => h) (Or.inl ⟨by rfl, ?_⟩) (by assumption) ?_
  rotate_left
  · intro w hSw
    first | (go_simp; done) | (go_simp; with_reducible rfl)
  simp only [List.getElem_toArray, List.getElem_cons_succ, List.getElem_cons_zero, Act.put, List.setIfInBounds_toArray, List.set_cons_zero, List.set_cons_succ]
  refine wpHead_take (i := 2) (v := ?_) (by rfl) (by kernel_rfl) (by kernel_rfl) (by exact fun _ _ _ h => h) (Or.inl ⟨by rfl, ?_⟩) (by assumption) ?_
  rotate_left
  · intro w hSw
    first | (go_simp; done) | (go_simp; with_reducible rfl)
  simp only [List.getElem_toArray, List.getElem_cons_succ, List.getElem_cons_zero, Act.put, List.setIfInBounds_toArray, List.set_cons_zero, List.set_cons_succ]
  refine wpHead_take (i := 3) (v := ?_) (by rfl) (by kernel_rfl) (by kernel_rfl) (by exact fun _ _ _ h => h) (Or.inl ⟨by rfl, ?_⟩) (by assumption) ?_
  rotate_left
  · intro w hSw
    first | (go_simp; done) | (go_simp; with_reducible rfl)
  simp only [List.getElem_toArray, List.getElem_cons_succ, List.getElem_cons_zero, Act.put, List.setIfInBounds_toArray, List.set_cons_zero, List.set_cons_succ]
  refine wpHead_take (i := 4) (v := ?_) (by rfl) (by kernel_rfl) (by kernel_rfl) (by exact fun _ _ _ h => h) (Or.inl ⟨by rfl, ?_⟩) (by assumption) ?_
  rotate_left
  · intro w hSw
    first | (go_simp; done) | (go_simp; with_reducible rfl)
  simp only [List.getElem_toArray, List.getElem_cons_succ, List.getElem_cons_zero, Act.put, List.setIfInBounds_toArray, List.set_cons_zero, List.set_cons_succ]
  refine wpHead_take (i := 5) (v := ?_) (by rfl) (by kernel_rfl) (by kernel_rfl) (by exact fun _ _ _ h => h) (Or.inl ⟨by rfl, ?_⟩) (by assumption) ?_
  rotate_left
  · intro w hSw
    first | (go_simp; done) | (go_simp; with_reducible rfl)
  simp only [List.getElem_toArray, List.getElem_cons_succ, List.getElem_cons_zero, Act.put, List.setIfInBounds_toArray, List.set_cons_zero, List.set_cons_succ]
  refine wpHead_take (i := 6) (v := ?_) (by rfl) (by kernel_rfl) (by kernel_rfl) (by exact fun _ _ _ h => h) (Or.inl ⟨by rfl, ?_⟩) (by assumption) ?_
  rotate_left
  · intro w hSw
    first | (go_simp; done) | (go_simp; with_reducible rfl)
  simp only [List.getElem_toArray, List.getElem_cons_succ, List.getElem_cons_zero, Act.put, List.setIfInBounds_toArray, List.set_cons_zero, List.set_cons_succ]
  refine wpHead_take (i := 7) (v := ?_) (by rfl) (by kernel_rfl) (by kernel_rfl) (by exact fun _ _ _ h => h) (Or.inl ⟨by rfl, ?_⟩) (by assumption) ?_
  rotate_left
  · intro w hSw
    first | (go_simp; done) | (go_simp; with_reducible rfl)
  simp only [List.getElem_toArray, List.getElem_cons_succ, List.getElem_cons_zero, Act.put, List.setIfInBounds_toArray, List.set_cons_zero, List.set_cons_succ]
  refine wpHead_take (i := 8) (v := ?_) (by rfl) (by kernel_rfl) (by kernel_rfl) (by exact fun _ _ _ h => h) (Or.inl ⟨by rfl, ?_⟩) (by assumption) ?_
  rotate_left
  · intro w hSw
    first | (go_simp; done) | (go_simp; with_reducible rfl)
  simp only [List.getElem_toArray, List.getElem_cons_succ, List.getElem_cons_zero, Act.put, List.setIfInBounds_toArray, List.set_cons_zero, List.set_cons_succ]
  refine wpHead_take (i := 9) (v := ?_) (by rfl) (by kernel_rfl) (by kernel_rfl) (by exact fun _ _ _ h => h) (Or.inl ⟨by rfl, ?_⟩) (by assumption) ?_
  rotate_left
  · intro w hSw
    first | (go_simp; done) | (go_simp; with_reducible rfl)
  simp only [List.getElem_toArray, List.getElem_cons_succ, List.getElem_cons_zero, Act.put, List.setIfInBounds_toArray, List.set_cons_zero, List.set_cons_succ]
  refine wpHead_take (i := 10) (v := ?_) (by rfl) (by kernel_rfl) (by kernel_rfl) (by exact fun _ _ _ h => h) (Or.inl ⟨by rfl, ?_⟩) (by assumption) ?_
  rotate_left
  · intro w hSw
    first | (go_simp; done) | (go_simp; with_reducible rfl)
  simp only [List.getElem_toArray, List.getElem_cons_succ, List.getElem_cons_zero, Act.put, List.setIfInBounds_toArray, List.set_cons_zero, List.set_cons_succ]
  refine wpHead_take (i := 11) (v := ?_) (by rfl) (by kernel_rfl) (by kernel_rfl) (by exact fun _ _ _ h => h) (Or.inl ⟨by rfl, ?_⟩) (by assumption) ?_
  rotate_left
  · intro w hSw
    first | (go_simp; done) | (go_simp; with_reducible rfl)
  simp only [List.getElem_toArray, List.getElem_cons_succ, List.getElem_cons_zero, Act.put, List.setIfInBounds_toArray, List.set_cons_zero, List.set_cons_succ]
  refine wpHead_take (i := 12) (v := ?_) (by rfl) (by kernel_rfl) (by kernel_rfl) (by exact fun _ _ _ h => h) (Or.inl ⟨by rfl, ?_⟩) (by assumption) ?_
  rotate_left
  · intro w hSw
    first | (go_simp; done) | (go_simp; with_reducible rfl)
  simp only [List.getElem_toArray, List.getElem_cons_succ, List.getElem_cons_zero, Act.put, List.setIfInBounds_toArray, List.set_cons_zero, List.set_cons_succ]
  refine wpHead_ready (rs := [13]) (by kernel_rfl) (by simp) (by kernel_rfl) ?_
  refine AllHead.cons (by rfl) (fun K hK => ?_) ?_
  · go_simp
    refine name_world ?_
    rintro wr13 hw13
    have hxn13 : Ext wr0 wr13 := hw13 ▸ (Ext.refl _).alloc _
    have hrow13 : wr13.heap[wr0.heap.size]? = some (.cells #[.int .i64 0, .int .i64 0, .int .i64 0] 35) := hw13 ▸ heap_alloc_new wr0 _
    have hHw := hHeld
    refine hK.out _ _ ?_ (fun hHeld => ?_)
    · first | assumption | exact Ext.trans (by assumption) (by assumption)
    clear hK K
    try simp only [List.getElem_toArray, List.getElem_cons_succ, List.getElem_cons_zero, Act.put, List.setIfInBounds_toArray, List.set_cons_zero, List.set_cons_succ]
    refine wpHead_done (by kernel_rfl) ?_
    have hsz13 := hrow13
    go_wp2_with (with_reducible refine stop_store 35 ?_)
    refine go_on (wpList_store_whole rfl rfl rfl rfl hrow13 (apitx_size _ _ _) rfl (by simp [Value.oneCell']) ?_)
    intro w9 hrow9 hk9 _
    have hx9 : Ext wa w9 := hHeld.kept hk9 (one_ge hHw.size)
    have HG6 := Lib.hid hHw.size
    have HR9 := Lib.hid hrow9
    have HX9 := Lib.hid hx9
    generalize wr0.heap.size = g6 at *
    clear hk9 hsz13 hrow13 hrow9 hHeld
    have d0 := c0a w9 hx9
    have d1 := c1a w9 hx9
    have d2 := c2a w9 hx9
    have d3 := c3 w9 (hxa.trans hx9)
    have df := fun j => cf w9 j (hxa.trans hx9)
    clear c0a c1a c2a c3 cf hx9
    go_wp2_with fail
    have hxw9 := hxa.trans HX9.out
    have hset := heap_setCell_same w9 p 2 _ _ (.int .i64 (s.next + 1)) (hxw9.obj HH.out.row)
    have hk3 : Kept [p] w (w9.setCell ⟨p, 2, none⟩ (.int .i64 (s.next + 1))) := (Kept.of_ext hxw9).setCell (.inl (by simp)) _
    have hk93 : Kept [p] w9 (w9.setCell ⟨p, 2, none⟩ (.int .i64 (s.next + 1))) := (Kept.refl _ _).setCell (.inl (by simp)) _
    have hp0 : ¬ w.heap.size = p := by have := HPL.out; omega
    have hp6 : ¬ g6 = p := by have := HPL.out; have := HG6.out; have := hxa.size; omega
    have HR0 := Lib.hid (hk93.heap (HX9.out.obj HRA.out) (by simpa using hp0))
    have HR6 := Lib.hid (hk93.heap HR9.out (by simpa using hp6))
    have hg9 := obj_lt HR9.out
    have hz9 := hxw9.size
    have hz39 : w9.heap.size ≤ (w9.setCell ⟨p, 2, none⟩ (.int .i64 (s.next + 1))).heap.size := hk93.size
    generalize w9.setCell ⟨p, 2, none⟩ (.int .i64 (s.next + 1)) = w3 at *
    clear d0 d1 d2 d3 df hk93 HRA HX9 HR9
    have hsub : ∀ k ∈ [p], k ∈ w.heap.size :: g6 :: M := by intro k hk; simp at hk; subst hk; simp [hp]
    have hnew : ∀ k ∈ w.heap.size :: g6 :: M, k ∈ M ∨ w.heap.size ≤ k := by
      intro k hk
      simp only [List.mem_cons] at hk
      rcases hk with rfl | rfl | hk
      · exact .inr (Nat.le_refl _)
      · exact .inr (Nat.le_trans hxa.size HG6.out)
      · exact .inl hk
    have HM3 : Hid (∀ k ∈ w.heap.size :: g6 :: M, k < w3.heap.size) := Lib.hid (by
      intro k hk
      simp only [List.mem_cons] at hk
      have h1 := HZA.out
      have h2 := HG6.out
      rcases hk with rfl | rfl | hk
      · omega
      · omega
      · have := HM.out k hk; omega)
    have HPM : Hid (p ∈ w.heap.size :: g6 :: M) := Lib.hid (by simp [hp])
    have HMM : Hid (∀ k ∈ M, k ∈ w.heap.size :: g6 :: M) := Lib.hid fun k hk => by simp [hk]
    have HRS := Lib.hid ((HH.out.rs.old hnew).kept (hk3.mono hsub))
    have HS3 : Hid (SlM (w.heap.size :: g6 :: M) w3 A (ib sh)) := Lib.hid ((SlM.old HSH.out hnew).kept (hk3.mono hsub))
    have hset3 : w3.heap[p]? = some (.cells #[.int .i64 s.node, .int .i64 s.boot, .int .i64 (s.next + 1), .slice Ac s.under.length cap] 72 (0, 0)) := by simpa using hset
    have HP3 := Lib.hid hset3
    have HK3 := Lib.hid hk3
    have H0M : Hid (w.heap.size ∈ w.heap.size :: g6 :: M) := Lib.hid (by simp)
    have HNE : Hid (p ≠ w.heap.size) := Lib.hid fun e => hp0 e.symm
    generalize hMM : w.heap.size :: g6 :: M = M2 at *
    have HC := fun W (hx : Ext w3 W) => tclone_any Ac cap s.under M2 w3 W HRS.out hx (by omega)
    have HI := fun W (hx : Ext w3 W) => iclone_any A c sh W (HS3.out.sl.ext hx) (by omega)
    obtain ⟨e0, e1, e2, e3, ef⟩ := rows4 hset3
    obtain ⟨t0, t1, t2, tf⟩ := rows3 HR6.out
    have hp0' : w.heap.size ∉ [p] := by simpa using hp0
    have hp6' : g6 ∉ [p] := by simpa using hp6
    clear hset hset3 hk3 hsub hnew hg9 hz9 hz39 hMM e0 e1 e2 hxw9 hp0 hp6 tf
    have hx3 : Ext w3 w3.drew := (Ext.refl _).drew
    refine wp_region_phase (S := fun w' => Ext w3 w') 12 (by kernel_rfl) (by kernel_rfl) ?_ (fun hHeld => ?_)
    · exact hx3
    simp only [List.drop_succ_cons, List.drop_zero]
    refine name_head ?_
    intro wr0 hw0
    rw [hw0] at hHeld
    refine wpHead_take (i := 0) (v := ?_) (by rfl) (by kernel_rfl) (by kernel_rfl) (by exact fun _ _ _ h => h) (Or.inl ⟨by rfl, ?_⟩) (by assumption) ?_
    rotate_left
    · intro w hSw
      first | (go_simp; done) | (go_simp; with_reducible rfl)
    simp only [List.getElem_toArray, List.getElem_cons_zero, Act.put, List.setIfInBounds_toArray, List.set_cons_zero, List.set_cons_succ]
    refine wpHead_take (i := 1) (v := ?_) (by rfl) (by kernel_rfl) (by kernel_rfl) (by exact fun _ _ _ h => h) (Or.inl ⟨by rfl, ?_⟩) (by assumption) ?_
    rotate_left
    · intro w hSw
      first | (go_simp; done) | (go_simp; with_reducible rfl)
    simp only [List.getElem_toArray, List.getElem_cons_succ, List.getElem_cons_zero, Act.put, List.setIfInBounds_toArray, List.set_cons_zero, List.set_cons_succ]
    refine wpHead_take (i := 2) (v := ?_) (by rfl) (by kernel_rfl) (by kernel_rfl) (by exact fun _ _ _ h => h) (Or.inl ⟨by rfl, ?_⟩) (by assumption) ?_
    rotate_left
    · intro w hSw
      first | (go_simp; done) | (go_simp; with_reducible rfl)
    simp only [List.getElem_toArray, List.getElem_cons_succ, List.getElem_cons_zero, Act.put, List.setIfInBounds_toArray, List.set_cons_zero, List.set_cons_succ]
    refine wpHead_take (i := 3) (v := ?_) (by rfl) (by kernel_rfl) (by kernel_rfl) (by exact fun _ _ _ h => h) (Or.inl ⟨by rfl, ?_⟩) (by assumption) ?_
    rotate_left
    · intro w hSw
      first | (go_simp; done) | (go_simp; with_reducible rfl)
    simp only [List.getElem_toArray, List.getElem_cons_succ, List.getElem_cons_zero, Act.put, List.setIfInBounds_toArray, List.set_cons_zero, List.set_cons_succ]
    refine wpHead_take (i := 4) (v := ?_) (by rfl) (by kernel_rfl) (by kernel_rfl) (by exact fun _ _ _ h => h) (Or.inl ⟨by rfl, ?_⟩) (by assumption) ?_
    rotate_left
    · intro w hSw
      first | (go_simp; done) | (go_simp; with_reducible rfl)
    simp only [List.getElem_toArray, List.getElem_cons_succ, List.getElem_cons_zero, Act.put, List.setIfInBounds_toArray, List.set_cons_zero, List.set_cons_succ]
    refine wpHead_take (i := 6) (v := ?_) (by rfl) (by kernel_rfl) (by kernel_rfl) (by exact fun _ _ _ h => h) (Or.inl ⟨by rfl, ?_⟩) (by assumption) ?_
    rotate_left
    · intro w hSw
      first | (go_simp; done) | (go_simp; with_reducible rfl)
    simp only [List.getElem_toArray, List.getElem_cons_succ, List.getElem_cons_zero, Act.put, List.setIfInBounds_toArray, List.set_cons_zero, List.set_cons_succ]
    refine wpHead_take (i := 7) (v := ?_) (by rfl) (by kernel_rfl) (by kernel_rfl) (by exact fun _ _ _ h => h) (Or.inl ⟨by rfl, ?_⟩) (by assumption) ?_
    rotate_left
    · intro w hSw
      first | (go_simp; done) | (go_simp; with_reducible rfl)
    simp only [List.getElem_toArray, List.getElem_cons_succ, List.getElem_cons_zero, Act.put, List.setIfInBounds_toArray, List.set_cons_zero, List.set_cons_succ]
    refine wpHead_ready (rs := [5]) (by kernel_rfl) (by simp) (by kernel_rfl) ?_
    refine AllHead.cons (by rfl) (fun K hK => ?_) ?_
    · have hb5 := hHeld.size
      refine step_callG (by rfl) (by kernel_rfl) (HC _ hHeld) ?_
      rintro e wr5 ⟨v5, rfl, ho5, hx5⟩
      obtain ⟨A5, c5, rfl⟩ := ho5.form
      refine ⟨_, rfl, ?_⟩
      refine hK.out _ _ ?_ (fun hHeld => ?_)
      · exact hHeld.trans hx5
      clear hK K
      try simp only [List.getElem_toArray, List.getElem_cons_succ, List.getElem_cons_zero, Act.put, List.setIfInBounds_toArray, List.set_cons_zero, List.set_cons_succ]
      refine wpHead_ready (rs := [8]) (by kernel_rfl) (by simp) (by kernel_rfl) ?_
      refine AllHead.cons (by rfl) (fun K hK => ?_) ?_
      · refine step_callG (by rfl) (by kernel_rfl) (HI _ hHeld) ?_
        rintro e wr8 ⟨v8, rfl, ho8, hx8⟩
        obtain ⟨A8, c8, rfl⟩ := own_form ho8
        have ho5 := ho5.ext hx8
        have hb8 := hHeld.size
        refine ⟨_, rfl, ?_⟩
        refine hK.out _ _ ?_ (fun hHeld => ?_)
        · exact hHeld.trans hx8
        clear hK K
        try simp only [List.getElem_toArray, List.getElem_cons_succ, List.getElem_cons_zero, Act.put, List.setIfInBounds_toArray, List.set_cons_zero, List.set_cons_succ]
        refine wpHead_take (i := 9) (v := ?_) (by rfl) (by kernel_rfl) (by kernel_rfl) (by exact fun _ _ _ h => h) (Or.inl ⟨by rfl, ?_⟩) (by assumption) ?_
        rotate_left
        · intro w hSw
          first | (go_simp; done) | (go_simp; with_reducible rfl)
        simp only [List.getElem_toArray, List.getElem_cons_succ, List.getElem_cons_zero, Act.put, List.setIfInBounds_toArray, List.set_cons_zero, List.set_cons_succ]
        refine wpHead_ready (rs := [10]) (by kernel_rfl) (by simp) (by kernel_rfl) ?_
        refine AllHead.cons (by rfl) (fun K hK => ?_) ?_
        · go_simp
          refine name_world ?_
          rintro wr10 hw10
          have hxn10 : Ext wr8 wr10 := hw10 ▸ (Ext.refl _).alloc _
          have hrow10 : wr10.heap[wr8.heap.size]? = some (.cells #[.int .i64 s.node, .int .i64 s.boot, .int .i64 s.next, .slice A8 sh.length c8, .bool false, .bool false, .bool false, .bool false, .bool false, .bool false, .bool false, .bool false, .bool false] 85) := hw10 ▸ heap_alloc_new wr8 _
          have ho5 := ho5.ext hxn10
          have ho8 := owns_ext ho8 hxn10
          have hb10 := hxn10.size
          refine hK.out _ _ ?_ (fun hHeld => ?_)
          · first | assumption | exact Ext.trans (by assumption) (by assumption)
          clear hK K
          try simp only [List.getElem_toArray, List.getElem_cons_succ, List.getElem_cons_zero, Act.put, List.setIfInBounds_toArray, List.set_cons_zero, List.set_cons_succ]
          refine wpHead_ready (rs := [11]) (by kernel_rfl) (by simp) (by kernel_rfl) ?_
          refine AllHead.cons (by rfl) (fun K hK => ?_) ?_
          · have hHw10 := hHeld
            obtain ⟨css, q1, q2, q3, q4⟩ := ho5
            have hsl : Sl wr10 (some ⟨_, 0, none⟩) (trC ⟨⟨s.node, s.boot, s.next⟩, sh, false, [], []⟩ (.slice A8 sh.length c8)) := Sl.of_row hrow10
            refine step_ap txT q3 hsl rfl rfl rfl rfl rfl (trC_one _ _ _ _) (by omega) (by omega) (by have := hx8.size; have := hx5.size; omega) ?_
            rintro v11 wr11 ho11 hg11 hor11
            refine hK.out _ _ ?_ (fun hHeld => ?_)
            · exact hHeld.own q3 hb5 hg11
            clear hK K
            try simp only [List.getElem_toArray, List.getElem_cons_succ, List.getElem_cons_zero, Act.put, List.setIfInBounds_toArray, List.set_cons_zero, List.set_cons_succ]
            refine wpHead_done (by kernel_rfl) ?_
            obtain ⟨A11, c11, rfl⟩ := own_form ho11
            have ho8' := ho8.kept hg11 (owns_apart ho8 q3 (by decide))
            have HN : OwnR RTr 13 85 M2 wr11 wr11 wr0.heap.size (.slice A11 (s.under.length + 1) c11) (s.under ++ [⟨⟨s.node, s.boot, s.next⟩, sh, false, [], []⟩]) := OwnR.push q1 q2 (fun k cs x h1 h2 => RTr.kept (q4 k cs x h1 h2) (.of_ext hHeld)) rfl ⟨A8, c8, rfl, SlM.own ho8' rfl fun k hk => Nat.lt_of_lt_of_le (HM3.out k hk) hb8⟩ ho11
            have HST := Lib.hid (co_storeR (hHeld.obj HP3.out) HPM.out (fun k hk => Nat.lt_of_lt_of_le (HM3.out k hk) hb5) (.of_ext hHeld) (Kept.refl _ _) HN)
            have f3 := e3 _ hHeld
            have ff := fun j => ef _ j hHeld
            have HE := Lib.hid hHeld
            clear HN ho8' ho11 hg11 hor11 hsl q1 q2 q3 q4 ho5 ho8 hrow10 hxn10 hw10 hx8 hx5 e3 ef t0 t1 t2 hHeld HC HI
            go_wp2_with (with_reducible first | refine stop_load 35 ?_ | refine stop_store 35 ?_)
            have HR6' := Lib.hid (HST.out.2.heap HR6.out hp6')
            have HR0' := Lib.hid (HST.out.2.heap HR0.out hp0')
            generalize wr11.setCell ⟨p, 3, none⟩ (.slice A11 (s.under.length + 1) c11) = w12 at *
            clear f3 ff
            refine go_on (wpList_load_row rfl 35 _ rfl g6 rfl 35 _ (0, 0) _ HR6'.out Try.underlying35 rfl (apitx_size _ _ _) ?_)
            go_wp2_with (with_reducible first | refine stop_load 35 ?_ | refine stop_store 35 ?_)
            refine go_on (wpList_store_whole rfl rfl rfl rfl HR0'.out (apitx_size _ _ _) rfl (by simp [Value.oneCell']) ?_)
            intro w13 hrow hk13 _
            have HCO : Hid (Co M w13 p ⟨s.node, s.boot, s.next + 1, s.under ++ [⟨⟨s.node, s.boot, s.next⟩, sh, false, [], []⟩]⟩) := Lib.hid ((HST.out.1.kept hk13 (by simpa using HNE.out) (by intro k hk; simp at hk; subst hk; exact H0M.out)).old fun k hk => .inl (HMM.out k hk))
            have HKK : Hid (Kept [p] w w13) := Lib.hid ((((HK3.out.trans HST.out.2).mono (N := [p, w.heap.size]) (by intro k hk; simp at hk; simp [hk])).trans (hk13.mono (by intro k hk; simp at hk; simp [hk]))).less (by intro k hk hlt; simp at hk; rcases hk with h | h; exact List.mem_singleton.2 h; exact absurd hlt (by omega)))
            clear hk13
            go_wp2
            ((try simp only [Exit.inBlock, Exit.then]); refine bodyPost_ret (results_cell1 rfl _ _ w.heap.size _ _ _ _ rfl hrow Try.underlying35 rfl (by kernel_rfl)) rfl ?_)
            rw [HV.out.1, HV.out.2.1, HV.out.2.2]
            exact ⟨rfl, HCO.out, HKK.out⟩
          exact AllHead.nil
        exact AllHead.nil
      exact AllHead.nil
    exact AllHead.nil
  exact AllHead.nil
end Go.Proofs.Ytijopcdjlpafdaa
