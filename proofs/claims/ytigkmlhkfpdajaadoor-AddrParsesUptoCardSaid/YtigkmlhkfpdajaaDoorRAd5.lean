/- The walk of the reference's Path; AddrParses and AddrPaths: each answers true. Conditions: the text is at most 2^43 bytes long, and the library's two tables are laid. -/
import Derived.Test.YtigkmlhkfpdajaaDoorRAd4
import Derived.Test.YtigkmlhkfpdajaaDoorAd5
import Derived.Test.YtigkmlhkfpdajaaDoorAd7
namespace Go.Proofs.YtigkmlhkfpdajaaDoor
open Go.RowKit
theorem prefix_2 (l : List UInt8) : Lib.hasPrefix l [60, 62] = true ↔ 2 ≤ l.length ∧ l.take 2 = [60, 62] := by
  unfold Lib.hasPrefix
  rw [List.isPrefixOf_iff_prefix, List.prefix_iff_eq_take]
  constructor
  · intro h
    have := congrArg List.length h
    simp at this
    exact ⟨by omega, h.symm⟩
  · rintro ⟨_, h⟩
    exact h.symm
set_option maxRecDepth 20000 in
set_option maxHeartbeats 1600000 in
theorem RPath_any (l : List UInt8) (w : World) (hs : l.length ≤ 8796093022000) (hT : Tabs w) : Calls Tryd.prog 12 #[.string (st l)] w (PaSays l w) := by
  obtain ⟨g0, hg0⟩ : ∃ g, g = w.heap.size := ⟨_, rfl⟩
  have HT := Lib.hid hT
  clear hT
  go_enter Tryd.func12, Tryd.ntmps12
  go_wp2_with (first | (with_reducible refine stop_alloc 23 ?_) | (with_reducible refine stop_store 23 ?_) | (with_reducible refine stop_load 23 ?_))
  refine go_on (wpList_alloc_ rfl rfl addr_info ?_)
  have hr0 := heap_alloc_new w (.cells zAddr 23 (0, 0))
  have hx0 : Ext w (w.alloc (.cells zAddr 23)) := (Ext.refl w).alloc _
  rw [← hg0] at hr0 ⊢
  have hgw : w.heap.size ≤ g0 := by omega
  have HGW := Lib.hid hgw
  generalize w.alloc (.cells zAddr 23) = w0 at *
  clear hg0 hgw
  cases hp : Lib.hasPrefix l [60, 62] with
  | true =>
    obtain ⟨h2, h22⟩ := (prefix_2 l).1 hp
    have h2i : (2 : Int) ≤ (l.length : Int) := by omega
    have hX : (st l).extract 0 2 = st (l.take 2) := by rw [ex_st, tl_st]; rfl
    have hq : (l.take 2 == [60, 62]) = true := by rw [h22]; rfl
    have HE : Hid (pathT l = ([], [], l.drop 2, 0)) := Lib.hid (by unfold pathT; rw [if_pos hp])
    have HD : Hid ((st l).extract 2 l.length = st (l.drop 2)) := Lib.hid (by rw [ex_st, tl_st, List.take_length])
    clear hp h22
    go_wp2_with fail
    refine wp_region_phase (S := fun w' => Kept [g0] w0 w') 4 (by kernel_rfl) (by kernel_rfl) ?_ (fun hHeld => ?_)
    · exact (Kept.refl _ _).drew
    simp only [List.drop_succ_cons, List.drop_zero]
    refine name_head ?_
    intro wr0 hw0
    rw [hw0] at hHeld
    refine wpHead_take (i := 0) (v := ?_) (by rfl) (by kernel_rfl) (by kernel_rfl) (by exact fun _ _ _ h => h) (Or.inl ⟨by rfl, ?_⟩) (by assumption) ?_
    rotate_left
    · intro w hSw
      first | (go_simp; done) | (go_simp; with_reducible rfl)
    simp only [List.getElem_toArray, List.getElem_cons_zero, Act.put, List.setIfInBounds_toArray, List.set_cons_zero, List.set_cons_succ]
    refine wpHead_take (i := 1) (v := ?_) (by rfl) (by kernel_rfl) (by kernel_rfl) (by exact fun _ _ _ h => h) (Or.inl ⟨by rfl, ?_⟩) (by assumption) ?_
    rotate_left
    · intro w hSw
      first | (go_simp; done) | (go_simp; with_reducible rfl)
    simp only [List.getElem_toArray, List.getElem_cons_succ, List.getElem_cons_zero, Act.put, List.setIfInBounds_toArray, List.set_cons_zero, List.set_cons_succ]
    refine wpHead_take (i := 2) (v := ?_) (by rfl) (by kernel_rfl) (by kernel_rfl) (by exact fun _ _ _ h => h) (Or.inl ⟨by rfl, ?_⟩) (by assumption) ?_
    rotate_left
    · intro w hSw
      first | (go_simp; done) | (go_simp; with_reducible rfl)
    simp only [List.getElem_toArray, List.getElem_cons_succ, List.getElem_cons_zero, Act.put, List.setIfInBounds_toArray, List.set_cons_zero, List.set_cons_succ]
    refine wpHead_ready (rs := [3]) (by kernel_rfl) (by simp) (by kernel_rfl) ?_
    refine AllHead.cons (by rfl) (fun K hK => ?_) ?_
    · refine step_store_whole (c := zAddr) (by rfl) rfl rfl rfl (by rw [← hw0]; exact hr0) (by kernel_rfl) rfl (by simp [Value.oneCell']) ?_
      intro wr3 hrow hk5 hz5
      refine hK.out _ _ ?_ (fun hHeld => ?_)
      · exact hHeld.trans hk5
      clear hK K
      try simp only [List.getElem_toArray, List.getElem_cons_succ, List.getElem_cons_zero, Act.put]
      refine wpHead_done (by kernel_rfl) ?_
      have hx5 := hx0.kept hHeld (one_ge HGW.out)
      go_wp2
      ((try simp only [Exit.inBlock, Exit.then]); refine bodyPost_ret (results_cell2 rfl _ _ g0 _ _ _ _ rfl hrow Tryd.underlying23 rfl (by kernel_rfl)) rfl ?_)
      unfold PaSays
      rw [HE.out, ← HD.out]
      exact ⟨by first | rfl | simp, hx5⟩
    exact AllHead.nil
  | false =>
    have hpn : ¬ (2 ≤ l.length ∧ l.take 2 = [60, 62]) := fun h => by rw [(prefix_2 l).2 h] at hp; cases hp
    have HPT : Hid (pathT l = match (List.range l.length).find? (okAt l) with
      | some i => ((parseT ((l.take i).drop 1)).1, (parseT ((l.take i).drop 1)).2.1, l.drop (i + 1), 0)
      | none => ([], [], [], 4)) := Lib.hid (by unfold pathT; rw [if_neg (by rw [hp]; decide)]; rfl)
    have hok0 : okAt l 0 = false := by
      unfold okAt
      rw [decide_eq_false]
      rintro ⟨h1, h2, _⟩
      rw [h1] at h2
      cases h2
    have HOK0 := Lib.hid hok0
    clear hp hok0
    by_cases h2 : (2 : Int) ≤ (l.length : Int)
    · have hX : (st l).extract 0 2 = st (l.take 2) := by rw [ex_st, tl_st]; rfl
      have hq : (l.take 2 == [60, 62]) = false := beq_eq_false_iff_ne.2 fun e => hpn ⟨by omega, e⟩
      clear hpn
      go_wp2
      go_loopw [5] (fun a wr => ∃ i : Nat, a = .int .i64 i ∧ 1 ≤ i ∧ (i = 1 ∨ i ≤ l.length) ∧ (∀ j, j < i → okAt l j = false) ∧ Ext w0 wr) (fun a _ => l.length + 1 - (intOf a).toNat)
      case atStart => exact ⟨1, rfl, by omega, .inl rfl, fun j hj => (by obtain rfl : j = 0 := by omega
                                                                         exact HOK0.out), Ext.refl _⟩
      case round =>
        obtain ⟨i, rfl, hi1, hi, hn, hx⟩ := hrel
        have HN := Lib.hid hn
        have HXR := Lib.hid hx
        clear hn
        by_cases hlt : i < l.length
        · have hlt2 : (i : Int) < (l.length : Int) := by omega
          have h0s : 0 < (st l).size := by rw [st_size]; omega
          have his : i < (st l).size := by rw [st_size]; omega
          have HG0 : Hid (l[0]? = some (st l)[0]) := Lib.hid (by have := tl_get? (st l) 0 h0s; rwa [tl_st] at this)
          have HGI : Hid (l[i]? = some (st l)[i]) := Lib.hid (by have := tl_get? (st l) i his; rwa [tl_st] at this)
          by_cases h60 : (st l)[0].toNat = 60
          · have e60 : (((st l)[0].toNat : Int) == 60) = true := by rw [h60]; rfl
            by_cases h62 : (st l)[i].toNat = 62
            · have e62 : (((st l)[i].toNat : Int) == 62) = true := by rw [h62]; rfl
              have hi1' : (1 : Int) ≤ (i : Int) := by omega
              have hi2 : (i : Int) ≤ (l.length : Int) := by omega
              have hXX : (st l).extract 1 i = st ((l.take i).drop 1) := by rw [ex_st, tl_st]
              have HP := fun wz hx => RParse_any ((l.take i).drop 1) wz (by simp; omega) (HT.out.ext (hx0.trans hx))
              rw [← hXX] at HP
              have HB : Hid (okAt l i = decide ((parseT ((l.take i).drop 1)).2.2.2 = 0)) := Lib.hid (by
                unfold okAt
                rw [HG0.out, HGI.out, show (st l)[0] = 60 from UInt8.toNat_inj.1 h60, show (st l)[i] = 62 from UInt8.toNat_inj.1 h62]
                simp)
              have HFD : Hid (okAt l i = true → pathT l = ((parseT ((l.take i).drop 1)).1, (parseT ((l.take i).drop 1)).2.1, l.drop (i + 1), 0)) := Lib.hid (fun hb => by rw [HPT.out, okAt_find hlt HN.out hb])
              clear h60 h62 hXX
              unfold PSays at HP
              generalize parseT ((l.take i).drop 1) = pr at *
              obtain ⟨pa, pb, pc, pd⟩ := pr
              dsimp only at HP HB HFD
              go_wp2_with fail
              refine (HP _ HXR.out).mono ?_
              rintro e w3 ⟨rfl, hx3'⟩
              have hx3 := hx.trans hx3'
              clear HP hx3' hx HXR
              go_wp2_with (first | (with_reducible refine stop_alloc 23 ?_) | (with_reducible refine stop_store 23 ?_) | (with_reducible refine stop_load 23 ?_))
              refine go_on (wpList_alloc_ rfl rfl addr_info ?_)
              go_wp2_with (first | (with_reducible refine stop_alloc 23 ?_) | (with_reducible refine stop_store 23 ?_) | (with_reducible refine stop_load 23 ?_))
              refine go_on (wpList_store_whole rfl rfl rfl rfl (heap_alloc_new w3 _) (by kernel_rfl) rfl (by simp [Value.oneCell']) ?_)
              intro w4 hrow4 hk4 hz4
              have hx4 : Ext w0 w4 := (hx3.alloc _).kept hk4 (one_ge hx3.size)
              have hne : w3.heap.size ≠ g0 := by have := obj_lt (hx3.obj hr0); omega
              clear hk4 hz4 hx3
              generalize w3.heap.size = g3 at *
              by_cases h0 : pd = 0
              · subst h0
                have HE := Lib.hid (HFD.out (by rw [HB.out]; rfl))
                have hci : (i : Int) + 1 ≤ (l.length : Int) := by omega
                have hw1 : IntKind.i64.wrap ((i : Int) + 1) = (i : Int) + 1 := IntWalk.i64_in _ (by omega)
                have hb0 : (0 : Int) ≤ (i : Int) + 1 := by omega
                have hb4 : ((i : Int) + 1).toNat = i + 1 := by omega
                have HD : Hid ((st l).extract (i + 1) l.length = st (l.drop (i + 1))) := Lib.hid (by rw [ex_st, tl_st, List.take_length])
                have K0 := kc (N := [g0]) (row2_at hrow4).1 (by simpa using hne)
                have K1 := kc (N := [g0]) (row2_at hrow4).2.1 (by simpa using hne)
                have hr04 := hx4.obj hr0
                clear hne hrow4
                go_wp2_with fail
                refine wp_region_phase (S := fun w' => Kept [g0] w4 w') 6 (by kernel_rfl) (by kernel_rfl) ?_ (fun hHeld => ?_)
                · exact (Kept.refl _ _).drew
                simp only [List.drop_succ_cons, List.drop_zero]
                refine name_head ?_
                intro wr0 hw0
                rw [hw0] at hHeld
                refine wpHead_take (i := 0) (v := ?_) (by rfl) (by kernel_rfl) (by kernel_rfl) (by exact fun _ _ _ h => h) (Or.inl ⟨by rfl, ?_⟩) (by assumption) ?_
                rotate_left
                · intro w hSw
                  first | (go_simp; done) | (go_simp; with_reducible rfl)
                simp only [List.getElem_toArray, List.getElem_cons_zero, Act.put, List.setIfInBounds_toArray, List.set_cons_zero, List.set_cons_succ]
                refine wpHead_take (i := 1) (v := ?_) (by rfl) (by kernel_rfl) (by kernel_rfl) (by exact fun _ _ _ h => h) (Or.inl ⟨by rfl, ?_⟩) (by assumption) ?_
                rotate_left
                · intro w hSw
                  first | (go_simp; done) | (go_simp; with_reducible rfl)
                simp only [List.getElem_toArray, List.getElem_cons_succ, List.getElem_cons_zero, Act.put, List.setIfInBounds_toArray, List.set_cons_zero, List.set_cons_succ]
                refine wpHead_take (i := 2) (v := ?_) (by rfl) (by kernel_rfl) (by kernel_rfl) (by exact fun _ _ _ h => h) (Or.inl ⟨by rfl, ?_⟩) (by assumption) ?_
                rotate_left
                · intro w hSw
                  first | (go_simp; done) | (go_simp; with_reducible rfl)
                simp only [List.getElem_toArray, List.getElem_cons_succ, List.getElem_cons_zero, Act.put, List.setIfInBounds_toArray, List.set_cons_zero, List.set_cons_succ]
                refine wpHead_take (i := 3) (v := ?_) (by rfl) (by kernel_rfl) (by kernel_rfl) (by exact fun _ _ _ h => h) (Or.inl ⟨by rfl, ?_⟩) (by assumption) ?_
                rotate_left
                · intro w hSw
                  first | (go_simp; done) | (go_simp; with_reducible rfl)
                simp only [List.getElem_toArray, List.getElem_cons_succ, List.getElem_cons_zero, Act.put, List.setIfInBounds_toArray, List.set_cons_zero, List.set_cons_succ]
                refine wpHead_take (i := 4) (v := ?_) (by rfl) (by kernel_rfl) (by kernel_rfl) (by exact fun _ _ _ h => h) (Or.inl ⟨by rfl, ?_⟩) (by assumption) ?_
                rotate_left
                · intro w hSw
                  first | (go_simp; done) | (go_simp; with_reducible rfl)
                simp only [List.getElem_toArray, List.getElem_cons_succ, List.getElem_cons_zero, Act.put, List.setIfInBounds_toArray, List.set_cons_zero, List.set_cons_succ]
                refine wpHead_ready (rs := [5]) (by kernel_rfl) (by simp) (by kernel_rfl) ?_
                refine AllHead.cons (by rfl) (fun K hK => ?_) ?_
                · refine step_store_whole (c := zAddr) (by rfl) rfl rfl rfl (by rw [← hw0]; exact hr04) (by kernel_rfl) rfl (by simp [Value.oneCell']) ?_
                  intro wr5 hrow hk5 hz5
                  refine hK.out _ _ ?_ (fun hHeld => ?_)
                  · exact hHeld.trans hk5
                  clear hK K
                  try simp only [List.getElem_toArray, List.getElem_cons_succ, List.getElem_cons_zero, Act.put]
                  refine wpHead_done (by kernel_rfl) ?_
                  have hx5 := (hx0.trans hx4).kept hHeld (one_ge HGW.out)
                  go_wp2
                  ((try simp only [Exit.inBlock, Exit.then]); refine bodyPost_ret (results_cell2 rfl _ _ g0 _ _ _ _ rfl hrow Tryd.underlying23 rfl (by kernel_rfl)) rfl ?_)
                  unfold PaSays
                  rw [HE.out, ← HD.out]
                  exact ⟨by first | rfl | simp, hx5⟩
                exact AllHead.nil
              · have q0 : ((pd : Int) == 0) = false := beq_eq_false_iff_ne.2 (by omega)
                have HB2 : Hid (okAt l i = false) := Lib.hid (by rw [HB.out, decide_eq_false h0])
                clear h0 HB HFD
                go_wp2
                go_roundw
                case rel => exact ⟨i + 1, by go_num, by omega, .inr (by omega), okAt_step HN.out HB2.out, hx4⟩
                case measure => simp [intOf]; omega
            · have e62 : (((st l)[i].toNat : Int) == 62) = false := beq_eq_false_iff_ne.2 (by omega)
              have HB : Hid (okAt l i = false) := Lib.hid (by unfold okAt; rw [decide_eq_false]; rintro ⟨_, h2, _⟩; rw [HGI.out] at h2; exact h62 (by rw [Option.some.inj h2]; rfl))
              clear h60 h62
              go_wp2
              go_roundw
              case rel => exact ⟨i + 1, by go_num, by omega, .inr (by omega), okAt_step HN.out HB.out, hx⟩
              case measure => simp [intOf]; omega
          · have e60 : (((st l)[0].toNat : Int) == 60) = false := beq_eq_false_iff_ne.2 (by omega)
            have HE : Hid (pathT l = ([], [], [], 4)) := Lib.hid (by rw [HPT.out, okAt_none (fun j _ => by unfold okAt; rw [decide_eq_false]; rintro ⟨h2, _⟩; rw [HG0.out] at h2; exact h60 (by rw [Option.some.inj h2]; rfl))])
            clear h60
            go_wp2_with (first | (with_reducible refine stop_alloc 23 ?_) | (with_reducible refine stop_store 23 ?_) | (with_reducible refine stop_load 23 ?_))
            refine go_on (wpList_store_whole rfl rfl rfl rfl (hx.obj hr0) (by kernel_rfl) rfl (by simp [Value.oneCell']) ?_)
            intro w6 hrow hk6 hz6
            have hx6 := (hx0.trans hx).kept hk6 (one_ge HGW.out)
            go_wp2
            ((try simp only [Exit.inBlock, Exit.then]); refine bodyPost_ret (results_cell2 rfl _ _ g0 _ _ _ _ rfl hrow Tryd.underlying23 rfl (by kernel_rfl)) rfl ?_)
            unfold PaSays
            rw [HE.out]
            exact ⟨rfl, hx6⟩
        · have hlt2 : ¬ (i : Int) < (l.length : Int) := by omega
          have HE : Hid (pathT l = ([], [], [], 4)) := Lib.hid (by rw [HPT.out, okAt_none (fun j hj => HN.out j (by omega))])
          go_wp2_with (first | (with_reducible refine stop_alloc 23 ?_) | (with_reducible refine stop_store 23 ?_) | (with_reducible refine stop_load 23 ?_))
          refine go_on (wpList_store_whole rfl rfl rfl rfl (hx.obj hr0) (by kernel_rfl) rfl (by simp [Value.oneCell']) ?_)
          intro w6 hrow hk6 hz6
          have hx6 := (hx0.trans hx).kept hk6 (one_ge HGW.out)
          go_wp2
          ((try simp only [Exit.inBlock, Exit.then]); refine bodyPost_ret (results_cell2 rfl _ _ g0 _ _ _ _ rfl hrow Tryd.underlying23 rfl (by kernel_rfl)) rfl ?_)
          unfold PaSays
          rw [HE.out]
          exact ⟨rfl, hx6⟩
    · clear hpn
      go_wp2
      go_loopw [5] (fun a wr => ∃ i : Nat, a = .int .i64 i ∧ 1 ≤ i ∧ (i = 1 ∨ i ≤ l.length) ∧ (∀ j, j < i → okAt l j = false) ∧ Ext w0 wr) (fun a _ => l.length + 1 - (intOf a).toNat)
      case atStart => exact ⟨1, rfl, by omega, .inl rfl, fun j hj => (by obtain rfl : j = 0 := by omega
                                                                         exact HOK0.out), Ext.refl _⟩
      case round =>
        obtain ⟨i, rfl, hi1, hi, hn, hx⟩ := hrel
        have HN := Lib.hid hn
        have HXR := Lib.hid hx
        clear hn
        by_cases hlt : i < l.length
        · exact absurd hlt (by omega)
        · have hlt2 : ¬ (i : Int) < (l.length : Int) := by omega
          have HE : Hid (pathT l = ([], [], [], 4)) := Lib.hid (by rw [HPT.out, okAt_none (fun j hj => HN.out j (by omega))])
          go_wp2_with (first | (with_reducible refine stop_alloc 23 ?_) | (with_reducible refine stop_store 23 ?_) | (with_reducible refine stop_load 23 ?_))
          refine go_on (wpList_store_whole rfl rfl rfl rfl (hx.obj hr0) (by kernel_rfl) rfl (by simp [Value.oneCell']) ?_)
          intro w6 hrow hk6 hz6
          have hx6 := (hx0.trans hx).kept hk6 (one_ge HGW.out)
          go_wp2
          ((try simp only [Exit.inBlock, Exit.then]); refine bodyPost_ret (results_cell2 rfl _ _ g0 _ _ _ _ rfl hrow Tryd.underlying23 rfl (by kernel_rfl)) rfl ?_)
          unfold PaSays
          rw [HE.out]
          exact ⟨rfl, hx6⟩
theorem AddrParses_l (l : List UInt8) (w : World) (hs : l.length ≤ 8796093022000) (hT : Tabs w) : Calls Tryd.prog 3 #[.string (st l)] w fun e w' => e = .returned (.bool true) ∧ Ext w w' := by
  have H1 := Parse_any (st l) w (by rw [st_size]; omega)
  have H2 := fun wz (hx : Ext w wz) => RParse_any l wz hs (hT.ext hx)
  rw [tl_st] at H1
  unfold PSays at H1 H2
  generalize parseT l = pr at *
  obtain ⟨pa, pb, pc, pd⟩ := pr
  dsimp only at H1 H2
  clear hT hs
  go_enter Tryd.func3, Tryd.ntmps3
  go_wp2_with fail
  refine H1.mono ?_
  rintro e w1 ⟨rfl, hx1⟩
  go_wp2_with (first | (with_reducible refine stop_alloc 23 ?_) | (with_reducible refine stop_store 23 ?_) | (with_reducible refine stop_load 23 ?_))
  refine go_on (wpList_alloc_ rfl rfl addr_info ?_)
  go_wp2_with (first | (with_reducible refine stop_alloc 23 ?_) | (with_reducible refine stop_store 23 ?_) | (with_reducible refine stop_load 23 ?_))
  refine go_on (wpList_store_whole rfl rfl rfl rfl (heap_alloc_new w1 _) (by kernel_rfl) rfl (by simp [Value.oneCell']) ?_)
  intro w2 hrow hk2 hz2
  have hx2 : Ext w w2 := (hx1.alloc _).kept hk2 (one_ge hx1.size)
  have HR := Lib.hid hrow
  clear hrow hk2 hz2 H1
  generalize w1.heap.size = g1 at *
  go_wp2_with (first | fail | (with_reducible refine stop_alloc 23 ?_))
  refine (H2 _ hx2).mono ?_
  rintro e w3 ⟨rfl, hx3⟩
  have HR3 := Lib.hid (hx3.obj HR.out)
  go_wp2_with (first | (with_reducible refine stop_alloc 23 ?_) | (with_reducible refine stop_store 23 ?_) | (with_reducible refine stop_load 23 ?_))
  refine go_on (wpList_alloc_ rfl rfl addr_info ?_)
  go_wp2_with (first | (with_reducible refine stop_alloc 23 ?_) | (with_reducible refine stop_store 23 ?_) | (with_reducible refine stop_load 23 ?_))
  refine go_on (wpList_store_whole rfl rfl rfl rfl (heap_alloc_new w3 _) (by kernel_rfl) rfl (by simp [Value.oneCell']) ?_)
  intro w4 hrow4 hk4 hz4
  have hx34 : Ext w3 w4 := ((Ext.refl _).alloc _).kept hk4 (one_ge (Nat.le_refl _))
  have HX4 := Lib.hid (hx2.trans (hx3.trans hx34))
  have HRA := Lib.hid (hx34.obj HR3.out)
  have HRB := Lib.hid hrow4
  clear hrow4 hk4 hz4 H2
  generalize w3.heap.size = g3 at *
  go_wp2_with (first | fail | (with_reducible refine stop_load 23 ?_))
  refine (live_any _).mono ?_
  rintro e w5 ⟨rfl, hx5⟩
  have HX5 := Lib.hid (HX4.out.trans hx5)
  have HRA5 := Lib.hid (hx5.obj HRA.out)
  have HRB5 := Lib.hid (hx5.obj HRB.out)
  clear hx5 hx34 hx3 hx2 hx1
  go_wp2_with (first | (with_reducible refine stop_alloc 23 ?_) | (with_reducible refine stop_store 23 ?_) | (with_reducible refine stop_load 23 ?_))
  refine go_on (wpList_load_rowG (by rfl) 23 _ rfl g1 rfl 23 _ (0, 0) _ HRA5.out Tryd.underlying23 rfl (by kernel_rfl) ?_)
  go_wp2_with (first | (with_reducible refine stop_alloc 23 ?_) | (with_reducible refine stop_store 23 ?_) | (with_reducible refine stop_load 23 ?_))
  refine go_on (wpList_load_rowG (by rfl) 23 _ rfl g3 rfl 23 _ (0, 0) _ HRB5.out Tryd.underlying23 rfl (by kernel_rfl) ?_)
  go_wp2
  go_ret
  exact ⟨by first | rfl | simp, HX5.out⟩
theorem AddrParses_any (a : ByteArray) (w : World) (ha : a.size ≤ 8796093022000) (hT : Tabs w) : Calls Tryd.prog 3 #[.string a] w fun e w' => e = .returned (.bool true) ∧ Ext w w' := by
  have := AddrParses_l (tl a) w (by rw [tl_length]; exact ha) hT
  rwa [st_tl] at this
theorem AddrPaths_l (l : List UInt8) (w : World) (hs : l.length ≤ 8796093022000) (hT : Tabs w) : Calls Tryd.prog 5 #[.string (st l)] w fun e w' => e = .returned (.bool true) ∧ Ext w w' := by
  have H1 := Path_any (st l) w (by rw [st_size]; omega)
  have H2 := fun wz (hx : Ext w wz) => RPath_any l wz hs (hT.ext hx)
  rw [tl_st] at H1
  unfold PaSays at H1 H2
  generalize pathT l = pr at *
  obtain ⟨pa, pb, pc, pd⟩ := pr
  dsimp only at H1 H2
  clear hT hs
  go_enter Tryd.func5, Tryd.ntmps5
  go_wp2_with fail
  refine H1.mono ?_
  rintro e w1 ⟨rfl, hx1⟩
  go_wp2_with (first | (with_reducible refine stop_alloc 23 ?_) | (with_reducible refine stop_store 23 ?_) | (with_reducible refine stop_load 23 ?_))
  refine go_on (wpList_alloc_ rfl rfl addr_info ?_)
  go_wp2_with (first | (with_reducible refine stop_alloc 23 ?_) | (with_reducible refine stop_store 23 ?_) | (with_reducible refine stop_load 23 ?_))
  refine go_on (wpList_store_whole rfl rfl rfl rfl (heap_alloc_new w1 _) (by kernel_rfl) rfl (by simp [Value.oneCell']) ?_)
  intro w2 hrow hk2 hz2
  have hx2 : Ext w w2 := (hx1.alloc _).kept hk2 (one_ge hx1.size)
  have HR := Lib.hid hrow
  clear hrow hk2 hz2 H1
  generalize w1.heap.size = g1 at *
  go_wp2_with (first | fail | (with_reducible refine stop_alloc 23 ?_))
  refine (H2 _ hx2).mono ?_
  rintro e w3 ⟨rfl, hx3⟩
  have HR3 := Lib.hid (hx3.obj HR.out)
  go_wp2_with (first | (with_reducible refine stop_alloc 23 ?_) | (with_reducible refine stop_store 23 ?_) | (with_reducible refine stop_load 23 ?_))
  refine go_on (wpList_alloc_ rfl rfl addr_info ?_)
  go_wp2_with (first | (with_reducible refine stop_alloc 23 ?_) | (with_reducible refine stop_store 23 ?_) | (with_reducible refine stop_load 23 ?_))
  refine go_on (wpList_store_whole rfl rfl rfl rfl (heap_alloc_new w3 _) (by kernel_rfl) rfl (by simp [Value.oneCell']) ?_)
  intro w4 hrow4 hk4 hz4
  have hx34 : Ext w3 w4 := ((Ext.refl _).alloc _).kept hk4 (one_ge (Nat.le_refl _))
  have HX4 := Lib.hid (hx2.trans (hx3.trans hx34))
  have HRA := Lib.hid (hx34.obj HR3.out)
  have HRB := Lib.hid hrow4
  clear hrow4 hk4 hz4 H2
  generalize w3.heap.size = g3 at *
  go_wp2_with (first | fail | (with_reducible refine stop_load 23 ?_))
  refine (live_any _).mono ?_
  rintro e w5 ⟨rfl, hx5⟩
  have HX5 := Lib.hid (HX4.out.trans hx5)
  have HRA5 := Lib.hid (hx5.obj HRA.out)
  have HRB5 := Lib.hid (hx5.obj HRB.out)
  clear hx5 hx34 hx3 hx2 hx1
  go_wp2_with (first | (with_reducible refine stop_alloc 23 ?_) | (with_reducible refine stop_store 23 ?_) | (with_reducible refine stop_load 23 ?_))
  refine go_on (wpList_load_rowG (by rfl) 23 _ rfl g1 rfl 23 _ (0, 0) _ HRA5.out Tryd.underlying23 rfl (by kernel_rfl) ?_)
  go_wp2_with (first | (with_reducible refine stop_alloc 23 ?_) | (with_reducible refine stop_store 23 ?_) | (with_reducible refine stop_load 23 ?_))
  refine go_on (wpList_load_rowG (by rfl) 23 _ rfl g3 rfl 23 _ (0, 0) _ HRB5.out Tryd.underlying23 rfl (by kernel_rfl) ?_)
  go_wp2
  go_ret
  exact ⟨by first | rfl | simp, HX5.out⟩
theorem AddrPaths_any (a : ByteArray) (w : World) (ha : a.size ≤ 8796093022000) (hT : Tabs w) : Calls Tryd.prog 5 #[.string a] w fun e w' => e = .returned (.bool true) ∧ Ext w w' := by
  have := AddrPaths_l (tl a) w (by rw [tl_length]; exact ha) hT
  rwa [st_tl] at this
end Go.Proofs.YtigkmlhkfpdajaaDoor
