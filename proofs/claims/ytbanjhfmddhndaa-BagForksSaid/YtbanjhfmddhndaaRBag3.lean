/- The walk of the reference's Add. Conditions: those of IsRB; the bag's own block is older than the call. -/
import Derived.Test.YtbanjhfmddhndaaRBag2
import Derived.BigQuiet
import Derived.Deep.QuietTactic
namespace Go.Proofs.Ytbanjhfmddhndaa
open Go.RowKit
attribute [local go_sem] pt uv
theorem RAdd_arg (q : Nat) (u : U) (A : Option Addr) (cap : Nat) (w : World) (h : ¬ addOk u) :
    Calls Try.prog 28 #[pt q, uv u A cap] w fun e w' => e = .returned (.int .i64 2) ∧ Ext w w' := by
  unfold addOk at h
  have hx0 := (Ext.refl w).alloc (.cells #[.int .i64 u.from_, .int .i64 u.to_, .slice A u.by_.length cap] 30)
  unfold pt uv
  by_cases h1 : u.from_ < 0
  · clear h
    go_enter Try.func28, Try.ntmps28
    go_wp2
    go_ret
    exact ⟨rfl, hx0⟩
  · by_cases h2 : 7 < u.from_
    · clear h
      go_enter Try.func28, Try.ntmps28
      go_wp2
      go_ret
      exact ⟨rfl, hx0⟩
    · by_cases h3 : u.to_ < 0
      · clear h
        go_enter Try.func28, Try.ntmps28
        go_wp2
        go_ret
        exact ⟨rfl, hx0⟩
      · by_cases h4 : 7 < u.to_
        · clear h
          go_enter Try.func28, Try.ntmps28
          go_wp2
          go_ret
          exact ⟨rfl, hx0⟩
        · by_cases h5 : (u.by_.length : Int) < 1
          · clear h
            go_enter Try.func28, Try.ntmps28
            go_wp2
            go_ret
            exact ⟨rfl, hx0⟩
          · have h6 : (2006 : Int) < u.by_.length := by
              have : ¬ u.by_.length ≤ 2006 := fun hh => h ⟨⟨by omega, by omega⟩, ⟨by omega, by omega⟩, by omega, hh⟩
              omega
            clear h
            go_enter Try.func28, Try.ntmps28
            go_wp2
            go_ret
            exact ⟨rfl, hx0⟩
set_option maxHeartbeats 1000000 in
theorem RAdd_full (q : Nat) (u : U) (A : Option Addr) (cap : Nat) (r : Rg) (M : List Nat) (w : World) (h : IsRB M w q r) (hM : ∀ k ∈ M, k < w.heap.size) (hq : q ∈ M) (hu : addOk u) (hn : r.there.length ≤ 1000000) (hf : r.most ≤ cntB r.there) (hg : 0 ≤ r.gone ∧ r.gone ≤ 1000000) :
    Calls Try.prog 28 #[pt q, uv u A cap] w fun e w' => e = .returned (.int .i64 8) ∧ Kept [q] w w' ∧ IsRB M w' q ⟨r.most, r.all, r.there, r.gone + 1⟩ := by
  have HB := Lib.hid h
  obtain ⟨hu1, hu2, hu3, hu4⟩ := hu
  have hx0 := (Ext.refl w).alloc (.cells #[.int .i64 u.from_, .int .i64 u.to_, .slice A u.by_.length cap] 30)
  have HL : ∀ W, Ext w W → Calls Try.prog 20 #[pt q] W fun e w' => e = .returned (.int .i64 (cntB r.there)) ∧ w' = W := fun W hx => (RLen_any q r M W (h.ext hx) hn).mono fun _ _ ⟨a, b⟩ => ⟨a, b.symm⟩
  obtain ⟨A1, c1, T1, ct1, h1, h2, h3, h4⟩ := h
  obtain ⟨c0, c1', c2, c3, f0⟩ := rows4 (hx0.obj h1)
  have H1 := Lib.hid h1
  have HM := Lib.hid hM
  have h5 : (1 : Int) ≤ u.by_.length := by omega
  have h6 : (u.by_.length : Int) ≤ 2006 := by omega
  have hw2 : IntKind.i64.wrap (r.gone + 1) = r.gone + 1 := IntWalk.i64_in _ (by omega)
  have H4 := Lib.hid h4
  clear h1 h4 hM
  unfold pt uv
  unfold pt at HL
  go_enter Try.func28, Try.ntmps28
  go_wp2_with fail
  generalize w.alloc (.cells #[.int .i64 u.from_, .int .i64 u.to_, .slice A u.by_.length cap] 30) = w0 at *
  go_quiet ((go_at_call 20; exact Calls.quiet_of_same (HL _ (by first | exact hx0 | exact hx0.drew | exact hx0.drewN _))))
  go_wp2
  go_ret
  have hx1 : Ext w (w0.drewN nq) := hx0.drewN _
  have hrow := heap_setCell_same _ q 3 _ _ (.int .i64 (r.gone + 1)) (hx1.obj H1.out)
  have hkq := (Kept.refl [q] (w0.drewN nq)).setCell (p := ⟨q, 3, none⟩) (.inl (by simp)) (.int .i64 (r.gone + 1))
  have hkM := (Kept.of_ext hx1).trans (hkq.mono (N := M) (by simp; exact hq))
  exact ⟨rfl, (Kept.of_ext hx1).trans hkq, A1, c1, T1, ct1, by simpa using hrow, h2.kept hkM, h3.kept hkM, H4.out⟩
set_option maxHeartbeats 2000000 in
theorem RAdd_ok (q : Nat) (u : U) (A : Option Addr) (cap : Nat) (r : Rg) (M : List Nat) (w : World) (h : IsRB M w q r) (hM : ∀ k ∈ M, k < w.heap.size) (hq : q ∈ M) (hu : addOk u) (hn : r.there.length ≤ 1000000) (hf : ¬ r.most ≤ cntB r.there) (hA : BsM M w A u.by_) :
    Calls Try.prog 28 #[pt q, uv u A cap] w fun e w' => e = .returned (.int .i64 0) ∧ Kept [q] w w' ∧ IsRB M w' q ⟨r.most, r.all ++ [u], r.there ++ [true], r.gone⟩ := by
  have HB := Lib.hid h
  obtain ⟨hu1, hu2, hu3, hu4⟩ := hu
  have hx0 := (Ext.refl w).alloc (.cells #[.int .i64 u.from_, .int .i64 u.to_, .slice A u.by_.length cap] 30)
  have HL : ∀ W, Ext w W → Calls Try.prog 20 #[pt q] W fun e w' => e = .returned (.int .i64 (cntB r.there)) ∧ w' = W := fun W hx => (RLen_any q r M W (h.ext hx) hn).mono fun _ _ ⟨a, b⟩ => ⟨a, b.symm⟩
  obtain ⟨A1, c1, T1, ct1, h1, h2, h3, h4⟩ := h
  obtain ⟨c0, c1', c2, c3, f0⟩ := rows4 (hx0.obj h1)
  obtain ⟨b0, b1, b2, bf⟩ := rows3 (heap_alloc_new w (.cells #[.int .i64 u.from_, .int .i64 u.to_, .slice A u.by_.length cap] 30))
  obtain ⟨css, q1, q2, q3, q4⟩ := h2
  have hqlt := obj_lt h1
  have H1 := Lib.hid h1
  have HM := Lib.hid hM
  have h5 : (1 : Int) ≤ u.by_.length := by omega
  have h6 : (u.by_.length : Int) ≤ 2006 := by omega
  have hall : r.all.length ≤ 1000000 := by omega
  have hone := RU.one q1 q4
  have hlen := flatten_length q2
  have hb1 : (0 + r.all.length) * 40 ≤ 140737488355328 := by omega
  have hb2 : 0 + r.all.length ≤ 140737488355328 := by omega
  have hb3 : (r.all.length + 1) * 40 ≤ 140737488355328 := by omega
  have hb4 : r.all.length + 1 ≤ 140737488355328 := by omega
  have H4 := Lib.hid h4
  clear h1 h4 hM
  unfold pt uv
  unfold pt at HL
  go_enter Try.func28, Try.ntmps28
  go_wp2_with fail
  have hxw : Ext w (w.alloc (.cells #[.int .i64 u.from_, .int .i64 u.to_, .slice A u.by_.length cap] 30)) := hx0
  generalize w.alloc (.cells #[.int .i64 u.from_, .int .i64 u.to_, .slice A u.by_.length cap] 30) = w0 at *
  go_quiet ((go_at_call 20; exact Calls.quiet_of_same (HL _ (by first | exact hx0 | exact hx0.drew | exact hx0.drewN _))))
  go_wp2_with fail
  have hxn : Ext w0 (w0.drewN nq) := (Ext.refl w0).drewN nq
  have H5 := Lib.hid hlen
  clear hlen
  have hre1 : (30 : Nat) ≠ 63 := by decide
  refine wp_region_phase (S := fun w' => Ext w0 w') 10 (by kernel_rfl) (by kernel_rfl) ?_ (fun hHeld => ?_)
  · exact hxn.drew
  simp only [List.drop_succ_cons, List.drop_zero]
  refine name_head ?_
  intro wr0 hw0
  rw [hw0] at hHeld
  refine wpHead_take (i := 0) (v := ?_) (by rfl) (by kernel_rfl) (by kernel_rfl) (by exact fun _ _ _ h => h) (Or.inl ⟨by rfl, ?_⟩) (by assumption) ?_
  rotate_left
  · intro w hSw
    first | (go_simp; done) | (go_simp; with_reducible rfl)
  simp only [List.getElem_toArray, List.getElem_cons_zero, Act.put, List.setIfInBounds_toArray, List.set_cons_zero, List.set_cons_succ]
  refine wpHead_take (i := 2) (v := ?_) (by rfl) (by kernel_rfl) (by kernel_rfl) (by exact fun _ _ _ h => h) (Or.inl ⟨by rfl, ?_⟩) (by assumption) ?_
  rotate_left
  · intro w hSw
    first | (go_simp; done) | (go_simp; with_reducible rfl)
  simp only [List.getElem_toArray, List.getElem_cons_succ, List.getElem_cons_zero, Act.put, List.setIfInBounds_toArray, List.set_cons_zero, List.set_cons_succ]
  refine wpHead_take (i := 3) (v := ?_) (by rfl) (by kernel_rfl) (by kernel_rfl) (by exact fun _ _ _ h => h) (Or.inl ⟨by rfl, ?_⟩) (by assumption) ?_
  rotate_left
  · intro w hSw
    first | (go_simp; done) | (go_simp; with_reducible rfl)
  simp only [List.getElem_toArray, List.getElem_cons_succ, List.getElem_cons_zero, Act.put, List.setIfInBounds_toArray, List.set_cons_zero, List.set_cons_succ]
  refine wpHead_take (i := 4) (v := ?_) (by rfl) (by kernel_rfl) (by kernel_rfl) (by exact fun _ _ _ h => h) (Or.inl ⟨by rfl, ?_⟩) (by assumption) ?_
  rotate_left
  · intro w hSw
    first | (go_simp; done) | (go_simp; with_reducible rfl)
  simp only [List.getElem_toArray, List.getElem_cons_succ, List.getElem_cons_zero, Act.put, List.setIfInBounds_toArray, List.set_cons_zero, List.set_cons_succ]
  refine wpHead_take (i := 5) (v := ?_) (by rfl) (by kernel_rfl) (by kernel_rfl) (by exact fun _ _ _ h => h) (Or.inl ⟨by rfl, ?_⟩) (by assumption) ?_
  rotate_left
  · intro w hSw
    first | (go_simp; done) | (go_simp; with_reducible rfl)
  simp only [List.getElem_toArray, List.getElem_cons_succ, List.getElem_cons_zero, Act.put, List.setIfInBounds_toArray, List.set_cons_zero, List.set_cons_succ]
  refine wpHead_take (i := 7) (v := ?_) (by rfl) (by kernel_rfl) (by kernel_rfl) (by exact fun _ _ _ h => h) (Or.inl ⟨by rfl, ?_⟩) (by assumption) ?_
  rotate_left
  · intro w hSw
    first | (go_simp; done) | (go_simp; with_reducible rfl)
  simp only [List.getElem_toArray, List.getElem_cons_succ, List.getElem_cons_zero, Act.put, List.setIfInBounds_toArray, List.set_cons_zero, List.set_cons_succ]
  refine wpHead_ready (rs := [1, 8]) (by kernel_rfl) (by simp) (by kernel_rfl) ?_
  refine AllHead.cons (by rfl) (fun K hK => ?_) ?_
  · go_simp
    refine name_world ?_
    rintro wr1 hw1
    have hxn1 : Ext wr0 wr1 := hw1 ▸ (Ext.refl _).alloc _
    have hrow1 : wr1.heap[wr0.heap.size]? = some (.cells #[] 30) := hw1 ▸ heap_alloc_new wr0 _
    have ho1 : wr1.ownsRow w0.heap.size 30 3 (.slice (some ⟨wr0.heap.size, 0, none⟩) 0 0) 0 [] := by rw [← hw1]; exact World.ownsRow_made wr0 #[] 0 (Ext.size hHeld) (by simp [maxLen]) rfl
    have hz1 : wr0.heap.size < wr1.heap.size := by rw [← hw1]; simp
    try replace hs8 := hs8.ext hxn1
    refine hK.out _ _ ?_ (fun hHeld => ?_)
    · first | assumption | exact Ext.trans (by assumption) (by assumption)
    clear hK K
    try simp only [List.getElem_toArray, List.getElem_cons_succ, List.getElem_cons_zero, Act.put, List.setIfInBounds_toArray, List.set_cons_zero, List.set_cons_succ]
    refine wpHead_ready (rs := [6, 8]) (by kernel_rfl) (by simp) (by kernel_rfl) ?_
    refine AllHead.cons (by rfl) (fun K hK => ?_) ?_
    · refine step_ap undT ho1 (q3.sl.ext (hx0.trans hHeld)) (by rfl) (by rfl) (by rfl) (by rfl) (by rw [H5.out, q1]) hone hb1 hb2 (Ext.size hHeld) ?_
      rintro v6 wr6 ho6 hg6 hor6
      have hx6 : Ext w0 wr6 := Ext.own hHeld ho1 (Nat.le_refl _) hg6
      simp only [Nat.zero_add, List.nil_append] at ho6
      try replace hs8 := hs8.grown hg6 (by intro ad e0; cases e0; simp [Value.ownBlock]; omega)
      refine hK.out _ _ ?_ (fun hHeld => ?_)
      · first | assumption | exact Ext.trans (by assumption) (by assumption)
      clear hK K
      try simp only [List.getElem_toArray, List.getElem_cons_succ, List.getElem_cons_zero, Act.put, List.setIfInBounds_toArray, List.set_cons_zero, List.set_cons_succ]
      refine wpHead_ready (rs := [8]) (by kernel_rfl) (by simp) (by kernel_rfl) ?_
      refine AllHead.cons (by rfl) (fun K hK => ?_) ?_
      · go_simp
        refine name_world ?_
        rintro wr8 hw8
        have hxn8 : Ext wr6 wr8 := hw8 ▸ (Ext.refl _).alloc _
        have hrow8 : wr8.heap[wr6.heap.size]? = some (.cells #[.int .i64 u.from_, .int .i64 u.to_, .slice A u.by_.length cap] 30) := hw8 ▸ heap_alloc_new wr6 _
        have hs8 : Sl wr8 (some ⟨wr6.heap.size, 0, none⟩) [.int .i64 u.from_, .int .i64 u.to_, .slice A u.by_.length cap] := Sl.of_row hrow8
        have hz8 : wr6.heap.size < wr8.heap.size := by rw [← hw8]; simp
        try replace ho1 := owns_ext ho1 hxn8
        try replace ho6 := owns_ext ho6 hxn8
        refine hK.out _ _ ?_ (fun hHeld => ?_)
        · first | assumption | exact Ext.trans (by assumption) (by assumption)
        clear hK K
        try simp only [List.getElem_toArray, List.getElem_cons_succ, List.getElem_cons_zero, Act.put, List.setIfInBounds_toArray, List.set_cons_zero, List.set_cons_succ]
        refine wpHead_ready (rs := [9]) (by kernel_rfl) (by simp) (by kernel_rfl) ?_
        refine AllHead.cons (by rfl) (fun K hK => ?_) ?_
        · refine step_ap undT ho6 hs8 (by rfl) (by rfl) (by rfl) (by rfl) (by rfl) (by simp [Value.oneCell']) hb3 hb4 (Ext.size hHeld) ?_
          rintro v9 wr9 ho9 hg9 hor9
          have hx9 : Ext w0 wr9 := Ext.own hHeld ho6 (Nat.le_refl _) hg9
          refine hK.out _ _ ?_ (fun hHeld => ?_)
          · first | assumption | exact Ext.trans (by assumption) (by assumption)
          clear hK K
          try simp only [List.getElem_toArray, List.getElem_cons_succ, List.getElem_cons_zero, Act.put, List.setIfInBounds_toArray, List.set_cons_zero, List.set_cons_succ]
          refine wpHead_done (by kernel_rfl) ?_
          clear ho1 ho6 hs8 hHeld
          obtain ⟨A9, cap9, rfl⟩ := own_form ho9
          have hwx : Ext w wr9 := hx0.trans hx9
          have hrow9 := hwx.obj H1.out
          have hMw : ∀ k ∈ M, k < w0.heap.size := fun k hk => by have := HM.out k hk; have := hx0.size; omega
          have hsl9 := SlM.own (M := M) ho9 rfl hMw
          have hkq := (Kept.refl [q] wr9).setCell (p := ⟨q, 1, none⟩) (.inl (by simp)) (.slice A9 (r.all.length + 1) cap9)
          have hrowS := heap_setCell_same _ q 1 _ _ (.slice A9 (r.all.length + 1) cap9) hrow9
          simp at hrowS
          obtain ⟨d0, d1, d2, d3, df⟩ := rows4 hrowS
          have HRS := Lib.hid hrowS
          have HR9 := Lib.hid hrow9
          clear ho9 hrowS hrow9
          go_wp2_with (at_builtin; refine unstop ?_)
          have hza : (wr9.setCell ⟨q, 1, none⟩ (.slice A9 (r.all.length + 1) cap9)).heap.size = wr9.heap.size := by simp
          generalize wr9.setCell ⟨q, 1, none⟩ (.slice A9 (r.all.length + 1) cap9) = wa at *
          have hkw : Kept M w wa := (Kept.of_ext hwx).trans (hkq.mono (by simp; exact hq))
          have hm0 := World.ownsRow_made (base := wa.heap.size) (e := 4) (size := 1) wa #[] 0 (Nat.le_refl _) (by simp [maxLen]) rfl
          rw [hza] at hm0
          have HZA := Lib.hid hza
          have hza1 : wa.heap.size ≤ wr9.heap.size := by omega
          have hza2 : wr9.heap.size ≤ wa.heap.size := by omega
          clear hza
          have hxa := (Ext.refl wa).alloc (.cells #[] 4)
          refine go_on (wpList_app boolsT (xs := []) hm0 ((h3.kept hkw).sl.ext hxa) rfl rfl rfl rfl (by simp) (tv_one _) (by simp; omega) (by simp; omega) (by simp; omega) ?_)
          intro vb wb hownb hgb horb
          simp only [Nat.zero_add, List.nil_append] at hownb
          have hxb := Ext.own hxa hm0 hza1 hgb
          go_wp2_with (at_builtin; refine unstop ?_)
          have hxb2 := hxb.alloc (.cells #[.bool true] 4)
          refine go_on (wpList_app boolsT (World.ownsRow.alloc hownb _) (Sl.new wb [.bool true] 4 (0, 0)) rfl rfl rfl rfl rfl (by simp [Value.oneCell']) (by omega) (by omega) (by have := hxb.size; simp; omega) ?_)
          intro vc wc hownc hgc horc
          have hxc := Ext.own hxb2 (World.ownsRow.alloc hownb _) hza1 hgc
          obtain ⟨Ac, capc, rfl⟩ := own_form hownc
          have hslc := SlM.own (M := M) hownc rfl (fun k hk => by have := hMw k hk; have := hx9.size; have := hkq.size; omega)
          have hkc := (Kept.of_ext hxc).trans ((Kept.refl [q] wc).setCell (p := ⟨q, 2, none⟩) (.inl (by simp)) (.slice Ac (r.there.length + 1) capc))
          have hkcM := hkc.mono (N := M) (by simp; exact hq)
          have hrowc := heap_setCell_same _ q 2 _ _ (.slice Ac (r.there.length + 1) capc) (hxc.obj HRS.out)
          simp at hrowc
          have hslc2 := hslc.kept (((Kept.refl [q] wc).setCell (p := ⟨q, 2, none⟩) (.inl (by simp)) (.slice Ac (r.there.length + 1) capc)).mono (N := M) (by simp; exact hq))
          have htv : tv r.there ++ [.bool true] = tv (r.there ++ [true]) := by simp [tv]
          rw [htv] at hslc2
          have hfin : IsRB M (wc.setCell ⟨q, 2, none⟩ (.slice Ac (r.there.length + 1) capc)) q ⟨r.most, r.all ++ [u], r.there ++ [true], r.gone⟩ :=
            ⟨A9, cap9, Ac, capc, by simpa using hrowc, RsM.push q1 q2 q4 (hkw.trans hkcM) rfl ⟨A, cap, rfl, hA⟩ ((hsl9.kept (hkq.mono (by simp; exact hq))).kept hkcM), hslc2, by simpa using H4.out⟩
          have hkf : Kept [q] w (wc.setCell ⟨q, 2, none⟩ (.slice Ac (r.there.length + 1) capc)) := ((Kept.of_ext hwx).trans hkq).trans hkc
          have HRC := Lib.hid hrowc
          clear hrowc hslc hslc2 htv hownc hownb horb horc hgb hgc hsl9
          go_wp2
          go_ret
          exact ⟨rfl, hkf, hfin⟩
        exact AllHead.nil
      exact AllHead.nil
    refine AllHead.cons (by rfl) (fun K hK => ?_) ?_
    · go_simp
      refine name_world ?_
      rintro wr8 hw8
      have hxn8 : Ext wr1 wr8 := hw8 ▸ (Ext.refl _).alloc _
      have hrow8 : wr8.heap[wr1.heap.size]? = some (.cells #[.int .i64 u.from_, .int .i64 u.to_, .slice A u.by_.length cap] 30) := hw8 ▸ heap_alloc_new wr1 _
      have hs8 : Sl wr8 (some ⟨wr1.heap.size, 0, none⟩) [.int .i64 u.from_, .int .i64 u.to_, .slice A u.by_.length cap] := Sl.of_row hrow8
      have hz8 : wr1.heap.size < wr8.heap.size := by rw [← hw8]; simp
      try replace ho1 := owns_ext ho1 hxn8
      try replace ho6 := owns_ext ho6 hxn8
      refine hK.out _ _ ?_ (fun hHeld => ?_)
      · first | assumption | exact Ext.trans (by assumption) (by assumption)
      clear hK K
      try simp only [List.getElem_toArray, List.getElem_cons_succ, List.getElem_cons_zero, Act.put, List.setIfInBounds_toArray, List.set_cons_zero, List.set_cons_succ]
      refine wpHead_ready (rs := [6]) (by kernel_rfl) (by simp) (by kernel_rfl) ?_
      refine AllHead.cons (by rfl) (fun K hK => ?_) ?_
      · refine step_ap undT ho1 (q3.sl.ext (hx0.trans hHeld)) (by rfl) (by rfl) (by rfl) (by rfl) (by rw [H5.out, q1]) hone hb1 hb2 (Ext.size hHeld) ?_
        rintro v6 wr6 ho6 hg6 hor6
        have hx6 : Ext w0 wr6 := Ext.own hHeld ho1 (Nat.le_refl _) hg6
        simp only [Nat.zero_add, List.nil_append] at ho6
        try replace hs8 := hs8.grown hg6 (by intro ad e0; cases e0; simp [Value.ownBlock]; omega)
        refine hK.out _ _ ?_ (fun hHeld => ?_)
        · first | assumption | exact Ext.trans (by assumption) (by assumption)
        clear hK K
        try simp only [List.getElem_toArray, List.getElem_cons_succ, List.getElem_cons_zero, Act.put, List.setIfInBounds_toArray, List.set_cons_zero, List.set_cons_succ]
        refine wpHead_ready (rs := [9]) (by kernel_rfl) (by simp) (by kernel_rfl) ?_
        refine AllHead.cons (by rfl) (fun K hK => ?_) ?_
        · refine step_ap undT ho6 hs8 (by rfl) (by rfl) (by rfl) (by rfl) (by rfl) (by simp [Value.oneCell']) hb3 hb4 (Ext.size hHeld) ?_
          rintro v9 wr9 ho9 hg9 hor9
          have hx9 : Ext w0 wr9 := Ext.own hHeld ho6 (Nat.le_refl _) hg9
          refine hK.out _ _ ?_ (fun hHeld => ?_)
          · first | assumption | exact Ext.trans (by assumption) (by assumption)
          clear hK K
          try simp only [List.getElem_toArray, List.getElem_cons_succ, List.getElem_cons_zero, Act.put, List.setIfInBounds_toArray, List.set_cons_zero, List.set_cons_succ]
          refine wpHead_done (by kernel_rfl) ?_
          clear ho1 ho6 hs8 hHeld
          obtain ⟨A9, cap9, rfl⟩ := own_form ho9
          have hwx : Ext w wr9 := hx0.trans hx9
          have hrow9 := hwx.obj H1.out
          have hMw : ∀ k ∈ M, k < w0.heap.size := fun k hk => by have := HM.out k hk; have := hx0.size; omega
          have hsl9 := SlM.own (M := M) ho9 rfl hMw
          have hkq := (Kept.refl [q] wr9).setCell (p := ⟨q, 1, none⟩) (.inl (by simp)) (.slice A9 (r.all.length + 1) cap9)
          have hrowS := heap_setCell_same _ q 1 _ _ (.slice A9 (r.all.length + 1) cap9) hrow9
          simp at hrowS
          obtain ⟨d0, d1, d2, d3, df⟩ := rows4 hrowS
          have HRS := Lib.hid hrowS
          have HR9 := Lib.hid hrow9
          clear ho9 hrowS hrow9
          go_wp2_with (at_builtin; refine unstop ?_)
          have hza : (wr9.setCell ⟨q, 1, none⟩ (.slice A9 (r.all.length + 1) cap9)).heap.size = wr9.heap.size := by simp
          generalize wr9.setCell ⟨q, 1, none⟩ (.slice A9 (r.all.length + 1) cap9) = wa at *
          have hkw : Kept M w wa := (Kept.of_ext hwx).trans (hkq.mono (by simp; exact hq))
          have hm0 := World.ownsRow_made (base := wa.heap.size) (e := 4) (size := 1) wa #[] 0 (Nat.le_refl _) (by simp [maxLen]) rfl
          rw [hza] at hm0
          have HZA := Lib.hid hza
          have hza1 : wa.heap.size ≤ wr9.heap.size := by omega
          have hza2 : wr9.heap.size ≤ wa.heap.size := by omega
          clear hza
          have hxa := (Ext.refl wa).alloc (.cells #[] 4)
          refine go_on (wpList_app boolsT (xs := []) hm0 ((h3.kept hkw).sl.ext hxa) rfl rfl rfl rfl (by simp) (tv_one _) (by simp; omega) (by simp; omega) (by simp; omega) ?_)
          intro vb wb hownb hgb horb
          simp only [Nat.zero_add, List.nil_append] at hownb
          have hxb := Ext.own hxa hm0 hza1 hgb
          go_wp2_with (at_builtin; refine unstop ?_)
          have hxb2 := hxb.alloc (.cells #[.bool true] 4)
          refine go_on (wpList_app boolsT (World.ownsRow.alloc hownb _) (Sl.new wb [.bool true] 4 (0, 0)) rfl rfl rfl rfl rfl (by simp [Value.oneCell']) (by omega) (by omega) (by have := hxb.size; simp; omega) ?_)
          intro vc wc hownc hgc horc
          have hxc := Ext.own hxb2 (World.ownsRow.alloc hownb _) hza1 hgc
          obtain ⟨Ac, capc, rfl⟩ := own_form hownc
          have hslc := SlM.own (M := M) hownc rfl (fun k hk => by have := hMw k hk; have := hx9.size; have := hkq.size; omega)
          have hkc := (Kept.of_ext hxc).trans ((Kept.refl [q] wc).setCell (p := ⟨q, 2, none⟩) (.inl (by simp)) (.slice Ac (r.there.length + 1) capc))
          have hkcM := hkc.mono (N := M) (by simp; exact hq)
          have hrowc := heap_setCell_same _ q 2 _ _ (.slice Ac (r.there.length + 1) capc) (hxc.obj HRS.out)
          simp at hrowc
          have hslc2 := hslc.kept (((Kept.refl [q] wc).setCell (p := ⟨q, 2, none⟩) (.inl (by simp)) (.slice Ac (r.there.length + 1) capc)).mono (N := M) (by simp; exact hq))
          have htv : tv r.there ++ [.bool true] = tv (r.there ++ [true]) := by simp [tv]
          rw [htv] at hslc2
          have hfin : IsRB M (wc.setCell ⟨q, 2, none⟩ (.slice Ac (r.there.length + 1) capc)) q ⟨r.most, r.all ++ [u], r.there ++ [true], r.gone⟩ :=
            ⟨A9, cap9, Ac, capc, by simpa using hrowc, RsM.push q1 q2 q4 (hkw.trans hkcM) rfl ⟨A, cap, rfl, hA⟩ ((hsl9.kept (hkq.mono (by simp; exact hq))).kept hkcM), hslc2, by simpa using H4.out⟩
          have hkf : Kept [q] w (wc.setCell ⟨q, 2, none⟩ (.slice Ac (r.there.length + 1) capc)) := ((Kept.of_ext hwx).trans hkq).trans hkc
          have HRC := Lib.hid hrowc
          clear hrowc hslc hslc2 htv hownc hownb horb horc hgb hgc hsl9
          go_wp2
          go_ret
          exact ⟨rfl, hkf, hfin⟩
        exact AllHead.nil
      exact AllHead.nil
    exact AllHead.nil
  refine AllHead.cons (by rfl) (fun K hK => ?_) ?_
  · go_simp
    refine name_world ?_
    rintro wr8 hw8
    have hxn8 : Ext wr0 wr8 := hw8 ▸ (Ext.refl _).alloc _
    have hrow8 : wr8.heap[wr0.heap.size]? = some (.cells #[.int .i64 u.from_, .int .i64 u.to_, .slice A u.by_.length cap] 30) := hw8 ▸ heap_alloc_new wr0 _
    have hs8 : Sl wr8 (some ⟨wr0.heap.size, 0, none⟩) [.int .i64 u.from_, .int .i64 u.to_, .slice A u.by_.length cap] := Sl.of_row hrow8
    have hz8 : wr0.heap.size < wr8.heap.size := by rw [← hw8]; simp
    try replace ho1 := owns_ext ho1 hxn8
    try replace ho6 := owns_ext ho6 hxn8
    refine hK.out _ _ ?_ (fun hHeld => ?_)
    · first | assumption | exact Ext.trans (by assumption) (by assumption)
    clear hK K
    try simp only [List.getElem_toArray, List.getElem_cons_succ, List.getElem_cons_zero, Act.put, List.setIfInBounds_toArray, List.set_cons_zero, List.set_cons_succ]
    refine wpHead_ready (rs := [1]) (by kernel_rfl) (by simp) (by kernel_rfl) ?_
    refine AllHead.cons (by rfl) (fun K hK => ?_) ?_
    · go_simp
      refine name_world ?_
      rintro wr1 hw1
      have hxn1 : Ext wr8 wr1 := hw1 ▸ (Ext.refl _).alloc _
      have hrow1 : wr1.heap[wr8.heap.size]? = some (.cells #[] 30) := hw1 ▸ heap_alloc_new wr8 _
      have ho1 : wr1.ownsRow w0.heap.size 30 3 (.slice (some ⟨wr8.heap.size, 0, none⟩) 0 0) 0 [] := by rw [← hw1]; exact World.ownsRow_made wr8 #[] 0 (Ext.size hHeld) (by simp [maxLen]) rfl
      have hz1 : wr8.heap.size < wr1.heap.size := by rw [← hw1]; simp
      try replace hs8 := hs8.ext hxn1
      refine hK.out _ _ ?_ (fun hHeld => ?_)
      · first | assumption | exact Ext.trans (by assumption) (by assumption)
      clear hK K
      try simp only [List.getElem_toArray, List.getElem_cons_succ, List.getElem_cons_zero, Act.put, List.setIfInBounds_toArray, List.set_cons_zero, List.set_cons_succ]
      refine wpHead_ready (rs := [6]) (by kernel_rfl) (by simp) (by kernel_rfl) ?_
      refine AllHead.cons (by rfl) (fun K hK => ?_) ?_
      · refine step_ap undT ho1 (q3.sl.ext (hx0.trans hHeld)) (by rfl) (by rfl) (by rfl) (by rfl) (by rw [H5.out, q1]) hone hb1 hb2 (Ext.size hHeld) ?_
        rintro v6 wr6 ho6 hg6 hor6
        have hx6 : Ext w0 wr6 := Ext.own hHeld ho1 (Nat.le_refl _) hg6
        simp only [Nat.zero_add, List.nil_append] at ho6
        try replace hs8 := hs8.grown hg6 (by intro ad e0; cases e0; simp [Value.ownBlock]; omega)
        refine hK.out _ _ ?_ (fun hHeld => ?_)
        · first | assumption | exact Ext.trans (by assumption) (by assumption)
        clear hK K
        try simp only [List.getElem_toArray, List.getElem_cons_succ, List.getElem_cons_zero, Act.put, List.setIfInBounds_toArray, List.set_cons_zero, List.set_cons_succ]
        refine wpHead_ready (rs := [9]) (by kernel_rfl) (by simp) (by kernel_rfl) ?_
        refine AllHead.cons (by rfl) (fun K hK => ?_) ?_
        · refine step_ap undT ho6 hs8 (by rfl) (by rfl) (by rfl) (by rfl) (by rfl) (by simp [Value.oneCell']) hb3 hb4 (Ext.size hHeld) ?_
          rintro v9 wr9 ho9 hg9 hor9
          have hx9 : Ext w0 wr9 := Ext.own hHeld ho6 (Nat.le_refl _) hg9
          refine hK.out _ _ ?_ (fun hHeld => ?_)
          · first | assumption | exact Ext.trans (by assumption) (by assumption)
          clear hK K
          try simp only [List.getElem_toArray, List.getElem_cons_succ, List.getElem_cons_zero, Act.put, List.setIfInBounds_toArray, List.set_cons_zero, List.set_cons_succ]
          refine wpHead_done (by kernel_rfl) ?_
          clear ho1 ho6 hs8 hHeld
          obtain ⟨A9, cap9, rfl⟩ := own_form ho9
          have hwx : Ext w wr9 := hx0.trans hx9
          have hrow9 := hwx.obj H1.out
          have hMw : ∀ k ∈ M, k < w0.heap.size := fun k hk => by have := HM.out k hk; have := hx0.size; omega
          have hsl9 := SlM.own (M := M) ho9 rfl hMw
          have hkq := (Kept.refl [q] wr9).setCell (p := ⟨q, 1, none⟩) (.inl (by simp)) (.slice A9 (r.all.length + 1) cap9)
          have hrowS := heap_setCell_same _ q 1 _ _ (.slice A9 (r.all.length + 1) cap9) hrow9
          simp at hrowS
          obtain ⟨d0, d1, d2, d3, df⟩ := rows4 hrowS
          have HRS := Lib.hid hrowS
          have HR9 := Lib.hid hrow9
          clear ho9 hrowS hrow9
          go_wp2_with (at_builtin; refine unstop ?_)
          have hza : (wr9.setCell ⟨q, 1, none⟩ (.slice A9 (r.all.length + 1) cap9)).heap.size = wr9.heap.size := by simp
          generalize wr9.setCell ⟨q, 1, none⟩ (.slice A9 (r.all.length + 1) cap9) = wa at *
          have hkw : Kept M w wa := (Kept.of_ext hwx).trans (hkq.mono (by simp; exact hq))
          have hm0 := World.ownsRow_made (base := wa.heap.size) (e := 4) (size := 1) wa #[] 0 (Nat.le_refl _) (by simp [maxLen]) rfl
          rw [hza] at hm0
          have HZA := Lib.hid hza
          have hza1 : wa.heap.size ≤ wr9.heap.size := by omega
          have hza2 : wr9.heap.size ≤ wa.heap.size := by omega
          clear hza
          have hxa := (Ext.refl wa).alloc (.cells #[] 4)
          refine go_on (wpList_app boolsT (xs := []) hm0 ((h3.kept hkw).sl.ext hxa) rfl rfl rfl rfl (by simp) (tv_one _) (by simp; omega) (by simp; omega) (by simp; omega) ?_)
          intro vb wb hownb hgb horb
          simp only [Nat.zero_add, List.nil_append] at hownb
          have hxb := Ext.own hxa hm0 hza1 hgb
          go_wp2_with (at_builtin; refine unstop ?_)
          have hxb2 := hxb.alloc (.cells #[.bool true] 4)
          refine go_on (wpList_app boolsT (World.ownsRow.alloc hownb _) (Sl.new wb [.bool true] 4 (0, 0)) rfl rfl rfl rfl rfl (by simp [Value.oneCell']) (by omega) (by omega) (by have := hxb.size; simp; omega) ?_)
          intro vc wc hownc hgc horc
          have hxc := Ext.own hxb2 (World.ownsRow.alloc hownb _) hza1 hgc
          obtain ⟨Ac, capc, rfl⟩ := own_form hownc
          have hslc := SlM.own (M := M) hownc rfl (fun k hk => by have := hMw k hk; have := hx9.size; have := hkq.size; omega)
          have hkc := (Kept.of_ext hxc).trans ((Kept.refl [q] wc).setCell (p := ⟨q, 2, none⟩) (.inl (by simp)) (.slice Ac (r.there.length + 1) capc))
          have hkcM := hkc.mono (N := M) (by simp; exact hq)
          have hrowc := heap_setCell_same _ q 2 _ _ (.slice Ac (r.there.length + 1) capc) (hxc.obj HRS.out)
          simp at hrowc
          have hslc2 := hslc.kept (((Kept.refl [q] wc).setCell (p := ⟨q, 2, none⟩) (.inl (by simp)) (.slice Ac (r.there.length + 1) capc)).mono (N := M) (by simp; exact hq))
          have htv : tv r.there ++ [.bool true] = tv (r.there ++ [true]) := by simp [tv]
          rw [htv] at hslc2
          have hfin : IsRB M (wc.setCell ⟨q, 2, none⟩ (.slice Ac (r.there.length + 1) capc)) q ⟨r.most, r.all ++ [u], r.there ++ [true], r.gone⟩ :=
            ⟨A9, cap9, Ac, capc, by simpa using hrowc, RsM.push q1 q2 q4 (hkw.trans hkcM) rfl ⟨A, cap, rfl, hA⟩ ((hsl9.kept (hkq.mono (by simp; exact hq))).kept hkcM), hslc2, by simpa using H4.out⟩
          have hkf : Kept [q] w (wc.setCell ⟨q, 2, none⟩ (.slice Ac (r.there.length + 1) capc)) := ((Kept.of_ext hwx).trans hkq).trans hkc
          have HRC := Lib.hid hrowc
          clear hrowc hslc hslc2 htv hownc hownb horb horc hgb hgc hsl9
          go_wp2
          go_ret
          exact ⟨rfl, hkf, hfin⟩
        exact AllHead.nil
      exact AllHead.nil
    exact AllHead.nil
  exact AllHead.nil
end Go.Proofs.Ytbanjhfmddhndaa
