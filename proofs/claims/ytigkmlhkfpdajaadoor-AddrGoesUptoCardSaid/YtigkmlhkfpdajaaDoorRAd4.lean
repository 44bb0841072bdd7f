/- The walk of the reference's Parse. Conditions: the text is at most 2^43 bytes long, and the library's two tables are laid. -/
import Derived.Test.YtigkmlhkfpdajaaDoorRAd3
namespace Go.Proofs.YtigkmlhkfpdajaaDoor
open Go.RowKit
set_option maxRecDepth 20000 in
set_option maxHeartbeats 3200000 in
theorem RParse_any (l : List UInt8) (w : World) (hs : l.length ≤ 8796093022000) (hT : Tabs w) : Calls Tryd.prog 8 #[.string (st l)] w (PSays l w) := by
  have hx0 : Ext w (w.alloc (.cells zAddr 23)) := (Ext.refl w).alloc _
  have hr0 := heap_alloc_new w (.cells zAddr 23 (0, 0))
  have HL := Letters_any l (w.alloc (.cells zAddr 23)) hs (hT.ext hx0)
  have hlq := lets_length l
  have hln : (letL l).length ≤ l.length := lets_len' l
  have HOK := Lib.hid (letL_ok _ l (Nat.le_refl _))
  obtain ⟨g0, hg0⟩ : ∃ g, g = w.heap.size := ⟨_, rfl⟩
  have HGW : Hid (w.heap.size ≤ g0) := Lib.hid (by omega)
  go_enter Tryd.func8, Tryd.ntmps8
  go_wp2_with (first | (with_reducible refine stop_alloc 23 ?_) | (with_reducible refine stop_store 23 ?_) | (with_reducible refine stop_load 23 ?_))
  refine go_on (wpList_alloc_ rfl rfl addr_info ?_)
  rw [← hg0] at hr0 ⊢
  go_wp2_with (first | fail | (with_reducible refine stop_store 23 ?_))
  refine HL.mono ?_
  rintro e w1 ⟨v, rfl, ho, hx1⟩
  have HX1 := Lib.hid (hx0.trans hx1)
  have hr1 := hx1.obj hr0
  try rw [← hg0]
  clear HL hT hg0
  by_cases hne : l = []
  · subst hne
    obtain ⟨A, cap, rfl⟩ := ho.form
    rw [lets_nil]
    have HE : Hid (parseT [] = ([], [], 0, 3)) := Lib.hid (by decide +kernel)
    clear ho hlq hln
    go_wp2
    go_loopw [6, 7, 8] (fun o i f wr => o = .string (st []) ∧ i = .int .i64 0 ∧ f = .bool true ∧ wr = w1) (fun _ _ _ _ => 0)
    case atStart => exact ⟨rfl, rfl, rfl, rfl⟩
    case round =>
      obtain ⟨rfl, rfl, rfl, rfl⟩ := hrel
      go_wp2_with (first | (with_reducible refine stop_alloc 23 ?_) | (with_reducible refine stop_store 23 ?_) | (with_reducible refine stop_load 23 ?_))
      refine go_on (wpList_store_whole rfl rfl rfl rfl hr1 (by kernel_rfl) rfl (by simp [Value.oneCell']) ?_)
      intro w6 hrow hk6 hz6
      have hx6 := HX1.out.kept hk6 (one_ge HGW.out)
      go_wp2
      ((try simp only [Exit.inBlock, Exit.then]); refine bodyPost_ret (results_cell2 rfl _ _ g0 _ _ _ _ rfl hrow Tryd.underlying23 rfl (by kernel_rfl)) rfl ?_)
      unfold PSays
      rw [HE.out]
      exact ⟨by first | rfl | simp, hx6⟩
  · have h00 : 0 < (letL l).length := by rw [letL_step l hne]; simp
    obtain ⟨ad, cap, rfl, hc1, hc2, hcell⟩ := ho.cells (by rw [lets_length]; exact h00)
    rw [lets_length] at hc1 ⊢
    have HC : Hid (∀ k d, (letL l)[k]? = some d → w1.cell? (ad.add k) = some (.string (st d.2))) := Lib.hid (fun k d hd => hcell k d.2 w1 (lets_get hd) (Ext.refl _))
    clear hcell ho hx0 hx1 hr0 hlq hne
    have h00' : (0 : Int) < ((letL l).length : Int) := by omega
    obtain ⟨⟨c0, b0⟩, hd0⟩ : ∃ d, (letL l)[0]? = some d := ⟨_, List.getElem?_eq_getElem h00⟩
    have hok0 := HOK.out (c0, b0) (List.mem_of_getElem? hd0)
    have hcl0 := HC.out 0 (c0, b0) hd0
    rw [sl_add0] at hcl0
    simp only at hcl0
    have e34 := let_eq hok0 34 (by omega)
    by_cases h34 : c0 = 34
    · have q34 : (b0 == [34]) = true := by simpa using e34.2 h34
      have H34 : Hid (l[0]? = some 34) := Lib.hid ((head_34 l).2 ⟨b0, by rw [hd0, h34]⟩)
      have HQ0 := Lib.hid (QAt.first (b := b0) (by rw [hd0, h34]))
      clear e34 hok0 hd0 h34
      go_wp2
      clear q34 hcl0 h00'
      go_loopw [6, 7] (fun a b wr => ∃ i said, a = .string (st said) ∧ b = .int .i64 (i : Nat) ∧ QAt l i said ∧ wr = w1) (fun _ b _ => (letL l).length - (intOf b).toNat)
      case atStart => exact ⟨1, [], rfl, rfl, HQ0.out, rfl⟩
      case round =>
        obtain ⟨i, said, rfl, rfl, hq, rfl⟩ := hrel
        have HQ := Lib.hid hq
        have hil := hq.a.len
        have hsl := hq.ln
        have hi1 := hq.one
        clear hq
        by_cases hlt : i < (letL l).length
        · have qi : ((i : Int) == ((letL l).length : Int)) = false := beq_eq_false_iff_ne.2 (by omega)
          have qi2 : (i : Int) < ((letL l).length : Int) := by omega
          obtain ⟨⟨c, b⟩, hd⟩ : ∃ d, (letL l)[i]? = some d := ⟨_, List.getElem?_eq_getElem hlt⟩
          have hdok := HOK.out (c, b) (List.mem_of_getElem? hd)
          have HDI := Lib.hid hd
          have hcl := HC.out i (c, b) hd
          simp only at hcl
          by_cases hb : b.length = 1
          · obtain ⟨x, rfl⟩ := List.length_eq_one_iff.1 hb
            have hxl := x.toNat_lt
            have hx0 : (st [x])[0]'(by rw [st_size]; exact Nat.one_pos) = x := rfl
            have hone := let_one hdok
            have e34 := let_eq hdok 34 (by omega)
            have e92 := let_eq hdok 92 (by omega)
            clear hd hb
            by_cases hx1 : (x.toNat : Int) < 32
            · have HE := Lib.hid (quoted_err H34.out (HQ.out.bad HDI.out (by omega)) (by decide))
              clear hone e34 e92
              go_wp2_with (first | (with_reducible refine stop_alloc 23 ?_) | (with_reducible refine stop_store 23 ?_) | (with_reducible refine stop_load 23 ?_))
              refine go_on (wpList_store_whole rfl rfl rfl rfl hr1 (by kernel_rfl) rfl (by simp [Value.oneCell']) ?_)
              intro w6 hrow hk6 hz6
              have hx6 := HX1.out.kept hk6 (one_ge HGW.out)
              go_wp2
              ((try simp only [Exit.inBlock, Exit.then]); refine bodyPost_ret (results_cell2 rfl _ _ g0 _ _ _ _ rfl hrow Tryd.underlying23 rfl (by kernel_rfl)) rfl ?_)
              unfold PSays
              rw [HE.out]
              exact ⟨by first | rfl | simp, hx6⟩
            · by_cases hx2 : (126 : Int) < (x.toNat : Int)
              · have HE := Lib.hid (quoted_err H34.out (HQ.out.bad HDI.out (by omega)) (by decide))
                clear hone e34 e92
                go_wp2_with (first | (with_reducible refine stop_alloc 23 ?_) | (with_reducible refine stop_store 23 ?_) | (with_reducible refine stop_load 23 ?_))
                refine go_on (wpList_store_whole rfl rfl rfl rfl hr1 (by kernel_rfl) rfl (by simp [Value.oneCell']) ?_)
                intro w6 hrow hk6 hz6
                have hx6 := HX1.out.kept hk6 (one_ge HGW.out)
                go_wp2
                ((try simp only [Exit.inBlock, Exit.then]); refine bodyPost_ret (results_cell2 rfl _ _ g0 _ _ _ _ rfl hrow Tryd.underlying23 rfl (by kernel_rfl)) rfl ?_)
                unfold PSays
                rw [HE.out]
                exact ⟨by first | rfl | simp, hx6⟩
              · have HG : Hid (¬ (c < 32 ∨ 126 < c)) := Lib.hid (by omega)
                clear hone
                by_cases h34 : c = 34
                · have q34 : (([x] : List UInt8) == [34]) = true := by simpa using e34.2 h34
                  have HLT := Lib.hid (HQ.out.end_ (b := [x]) (by rw [HDI.out, h34]))
                  have HA1 := Lib.hid (HQ.out.a.step HDI.out (by omega)).1
                  have HPT := Lib.hid (quoted_rest H34.out HLT.out HA1.out)
                  obtain ⟨k, hk⟩ : ∃ k, k = i + 1 := ⟨_, rfl⟩
                  rw [← hk] at HPT HA1
                  have hkl := HA1.out.len
                  have hke : (i : Int) + 1 = (k : Int) := by omega
                  have HK := Lib.hid hk
                  have hsl2 : said.length ≤ l.length := by omega
                  have hk0 : k ≠ 0 := by omega
                  clear e34 e92 h34 HLT HDI HQ hk hi1 hsl
                  clear hdok
                  by_cases hlk : k < (letL l).length
                  · have qk : ((k : Int) == ((letL l).length : Int)) = false := beq_eq_false_iff_ne.2 (by omega)
                    have qk2 : (k : Int) < ((letL l).length : Int) := by omega
                    obtain ⟨⟨c2, b2⟩, hd⟩ : ∃ d, (letL l)[k]? = some d := ⟨_, List.getElem?_eq_getElem hlk⟩
                    have hdok := HOK.out (c2, b2) (List.mem_of_getElem? hd)
                    have HDI := Lib.hid hd
                    have hclk := HC.out k (c2, b2) hd
                    simp only at hclk
                    have e64 := let_eq hdok 64 (by omega)
                    clear hd
                    by_cases h64 : c2 = 64
                    · have q64 : (b2 == [64]) = true := by simpa using e64.2 h64
                      have hj := signed_join (said := said) hk0 HA1.out (b := b2) (by rw [HDI.out, h64])
                      have HJ := Lib.hid (HPT.out.trans hj.1)
                      have HA2 := Lib.hid hj.2
                      clear hj e64 h64 hk0 HPT HA1
                      have HDM : Calls Tryd.prog 21 #[.slice (some ad) (letL l).length cap, .int .i64 ((k : Int) + 1)] wr fun e w' => e = .returned (.int .i64 (domV (letL l) (k + 1))) ∧ wr = w' := by
                        have := domain_any (letL l) HOK.out (k + 1) (by omega) (by omega) (by omega) ad cap hc1 hc2 wr (fun k d hd => HC.out k d hd)
                        rwa [show ((k + 1 : Nat) : Int) = (k : Int) + 1 by simp] at this
                      rcases dom_cases l said k (by omega) with ⟨hd1, hj1⟩ | ⟨q, hd1, hq, hi1, hj1⟩ | ⟨hd1, hi1, hj1⟩
                      · rw [hd1] at HDM
                        have HE := Lib.hid (HJ.out.trans hj1)
                        clear hd1 hj1
                        go_wp2_with (first | fail | (with_reducible refine stop_store 23 ?_))
                        refine HDM.mono ?_
                        rintro e w5 ⟨rfl, rfl⟩
                        go_wp2_with (first | (with_reducible refine stop_alloc 23 ?_) | (with_reducible refine stop_store 23 ?_) | (with_reducible refine stop_load 23 ?_))
                        refine go_on (wpList_store_whole rfl rfl rfl rfl hr1 (by kernel_rfl) rfl (by simp [Value.oneCell']) ?_)
                        intro w6 hrow hk6 hz6
                        have hx6 := HX1.out.kept hk6 (one_ge HGW.out)
                        go_wp2
                        ((try simp only [Exit.inBlock, Exit.then]); refine bodyPost_ret (results_cell2 rfl _ _ g0 _ _ _ _ rfl hrow Tryd.underlying23 rfl (by kernel_rfl)) rfl ?_)
                        unfold PSays
                        rw [HE.out]
                        exact ⟨by first | rfl | simp, hx6⟩
                      · rw [hd1] at HDM
                        have HE := Lib.hid (HJ.out.trans hj1)
                        have qn : ¬ (q : Int) < 0 := by omega
                        have qe : (((k : Int) + 1) == ((letL l).length : Int)) = false := beq_eq_false_iff_ne.2 (by omega)
                        have ql : (q : Int) < ((letL l).length : Int) := by omega
                        clear hd1 hj1
                        go_wp2_with (first | fail | (with_reducible refine stop_store 23 ?_))
                        refine HDM.mono ?_
                        rintro e w5 ⟨rfl, rfl⟩
                        go_wp2_with (first | (with_reducible refine stop_alloc 23 ?_) | (with_reducible refine stop_store 23 ?_) | (with_reducible refine stop_load 23 ?_))
                        refine go_on (wpList_store_whole rfl rfl rfl rfl hr1 (by kernel_rfl) rfl (by simp [Value.oneCell']) ?_)
                        intro w6 hrow hk6 hz6
                        have hx6 := HX1.out.kept hk6 (one_ge HGW.out)
                        go_wp2
                        ((try simp only [Exit.inBlock, Exit.then]); refine bodyPost_ret (results_cell2 rfl _ _ g0 _ _ _ _ rfl hrow Tryd.underlying23 rfl (by kernel_rfl)) rfl ?_)
                        unfold PSays
                        rw [HE.out]
                        exact ⟨by first | rfl | simp, hx6⟩
                      · rw [hd1] at HDM
                        have HE := Lib.hid (HJ.out.trans hj1)
                        have qn : ¬ ((letL l).length : Int) < 0 := by omega
                        have qe : (((k : Int) + 1) == ((letL l).length : Int)) = false := beq_eq_false_iff_ne.2 (by omega)
                        have ql : ¬ ((letL l).length : Int) < ((letL l).length : Int) := by omega
                        have HDR := Lib.hid HA2.out.drop
                        clear hd1 hj1
                        go_wp2_with (first | fail | (with_reducible refine stop_store 23 ?_))
                        refine HDM.mono ?_
                        rintro e w5 ⟨rfl, rfl⟩
                        go_wp2
                        go_loopw [10, 11] (fun a b wr' => ∃ (kk : Nat) (x : List UInt8), a = .string (st x) ∧ b = .int .i64 (kk : Nat) ∧ k + 1 ≤ kk ∧ kk ≤ (letL l).length ∧ x ++ ((letL l).drop kk).flatMap (fun d => d.2) = l.drop (k + 1) ∧ wr' = wr) (fun _ b _ => (letL l).length - (intOf b).toNat)
                        case atStart => exact ⟨k + 1, [], rfl, by simp, by omega, by omega, by rw [List.nil_append, ← HDR.out, let_bytes _ _ (Nat.le_refl _)], rfl⟩
                        case round =>
                          obtain ⟨kk, x, rfl, rfl, hk0, hk, hxx, rfl⟩ := hrel
                          have HXX := Lib.hid hxx
                          have hxl : x.length ≤ l.length := by have := congrArg List.length hxx; simp only [List.length_append, List.length_drop] at this; omega
                          clear hxx
                          by_cases hlt : kk < (letL l).length
                          · have hlt2 : (kk : Int) < ((letL l).length : Int) := by omega
                            obtain ⟨⟨c, b⟩, hd⟩ : ∃ d, (letL l)[kk]? = some d := ⟨_, List.getElem?_eq_getElem hlt⟩
                            have hcl := HC.out kk (c, b) hd
                            simp only at hcl
                            have hnx : (x ++ b) ++ ((letL l).drop (kk + 1)).flatMap (fun d => d.2) = l.drop (k + 1) := by
                              rw [← HXX.out, drop_here hd, List.flatMap_cons, List.append_assoc]
                            have HNX := Lib.hid hnx
                            have hbl : x.length + b.length ≤ l.length := by have := congrArg List.length hnx; simp only [List.length_append, List.length_drop] at this; omega
                            have hcc : ¬ (9223372036854775807 : Int) < (x.length : Int) + (b.length : Int) := by omega
                            clear hnx hd
                            go_wp2
                            go_roundw
                            case rel => exact ⟨kk + 1, x ++ b, by first | rfl | rw [st_append] | simp [st_append], by go_num, by omega, by omega, HNX.out, (by first | rfl | trivial)⟩
                            case measure => simp [intOf]; omega
                          · have hlt2 : ¬ (kk : Int) < ((letL l).length : Int) := by omega
                            have hxe : x = l.drop (k + 1) := by
                              have := HXX.out
                              rw [List.drop_eq_nil_of_le (by omega)] at this
                              simpa using this
                            rw [← hxe] at HE
                            have HL := RLower_any (st x) wr (by rw [st_size]; omega)
                            rw [tl_st] at HL
                            clear hxe
                            by_cases h64 : (64 : Int) < ((said).length : Int)
                            · have HE := Lib.hid (HE.out.trans (if_pos (.inl (by omega))))
                              go_wp2_with (first | (with_reducible refine stop_alloc 23 ?_) | (with_reducible refine stop_store 23 ?_) | (with_reducible refine stop_load 23 ?_))
                              refine go_on (wpList_store_whole rfl rfl rfl rfl hr1 (by kernel_rfl) rfl (by simp [Value.oneCell']) ?_)
                              intro w6 hrow hk6 hz6
                              have hx6 := HX1.out.kept hk6 (one_ge HGW.out)
                              go_wp2
                              ((try simp only [Exit.inBlock, Exit.then]); refine bodyPost_ret (results_cell2 rfl _ _ g0 _ _ _ _ rfl hrow Tryd.underlying23 rfl (by kernel_rfl)) rfl ?_)
                              unfold PSays
                              rw [HE.out]
                              exact ⟨by first | rfl | simp, hx6⟩
                            · by_cases h255 : (255 : Int) < (x.length : Int)
                              · have HE := Lib.hid (HE.out.trans (if_pos (.inr (by omega))))
                                go_wp2_with (first | (with_reducible refine stop_alloc 23 ?_) | (with_reducible refine stop_store 23 ?_) | (with_reducible refine stop_load 23 ?_))
                                refine go_on (wpList_store_whole rfl rfl rfl rfl hr1 (by kernel_rfl) rfl (by simp [Value.oneCell']) ?_)
                                intro w6 hrow hk6 hz6
                                have hx6 := HX1.out.kept hk6 (one_ge HGW.out)
                                go_wp2
                                ((try simp only [Exit.inBlock, Exit.then]); refine bodyPost_ret (results_cell2 rfl _ _ g0 _ _ _ _ rfl hrow Tryd.underlying23 rfl (by kernel_rfl)) rfl ?_)
                                unfold PSays
                                rw [HE.out]
                                exact ⟨by first | rfl | simp, hx6⟩
                              · have HE := Lib.hid (HE.out.trans (if_neg (by omega)))
                                go_wp2_with (first | fail | (with_reducible refine stop_store 23 ?_))
                                refine HL.mono ?_
                                rintro e w5 ⟨rfl, hx5⟩
                                have hr5 := hx5.obj hr1
                                go_wp2_with (first | (with_reducible refine stop_alloc 23 ?_) | (with_reducible refine stop_store 23 ?_) | (with_reducible refine stop_load 23 ?_))
                                refine go_on (wpList_store_whole rfl rfl rfl rfl hr5 (by kernel_rfl) rfl (by simp [Value.oneCell']) ?_)
                                intro w6 hrow hk6 hz6
                                have hx6 := (HX1.out.trans hx5).kept hk6 (one_ge HGW.out)
                                go_wp2
                                ((try simp only [Exit.inBlock, Exit.then]); refine bodyPost_ret (results_cell2 rfl _ _ g0 _ _ _ _ rfl hrow Tryd.underlying23 rfl (by kernel_rfl)) rfl ?_)
                                unfold PSays
                                rw [HE.out]
                                exact ⟨by first | rfl | simp, hx6⟩
                    · have q64 : (b2 == [64]) = false := by
                        have : b2 ≠ [64] := fun e => h64 (e64.1 e)
                        simpa using this
                      have HE := Lib.hid (HPT.out.trans (signed_bad HA1.out HDI.out h64))
                      clear e64 h64
                      go_wp2_with (first | (with_reducible refine stop_alloc 23 ?_) | (with_reducible refine stop_store 23 ?_) | (with_reducible refine stop_load 23 ?_))
                      refine go_on (wpList_store_whole rfl rfl rfl rfl hr1 (by kernel_rfl) rfl (by simp [Value.oneCell']) ?_)
                      intro w6 hrow hk6 hz6
                      have hx6 := HX1.out.kept hk6 (one_ge HGW.out)
                      go_wp2
                      ((try simp only [Exit.inBlock, Exit.then]); refine bodyPost_ret (results_cell2 rfl _ _ g0 _ _ _ _ rfl hrow Tryd.underlying23 rfl (by kernel_rfl)) rfl ?_)
                      unfold PSays
                      rw [HE.out]
                      exact ⟨by first | rfl | simp, hx6⟩
                  · have qk : ((k : Int) == ((letL l).length : Int)) = true := beq_iff_eq.2 (by omega)
                    have HE := Lib.hid (HPT.out.trans (signed_short HA1.out hlk))
                    go_wp2_with (first | (with_reducible refine stop_alloc 23 ?_) | (with_reducible refine stop_store 23 ?_) | (with_reducible refine stop_load 23 ?_))
                    refine go_on (wpList_store_whole rfl rfl rfl rfl hr1 (by kernel_rfl) rfl (by simp [Value.oneCell']) ?_)
                    intro w6 hrow hk6 hz6
                    have hx6 := HX1.out.kept hk6 (one_ge HGW.out)
                    go_wp2
                    ((try simp only [Exit.inBlock, Exit.then]); refine bodyPost_ret (results_cell2 rfl _ _ g0 _ _ _ _ rfl hrow Tryd.underlying23 rfl (by kernel_rfl)) rfl ?_)
                    unfold PSays
                    rw [HE.out]
                    exact ⟨by first | rfl | simp, hx6⟩
                · have q34 : (([x] : List UInt8) == [34]) = false := by
                    have : ([x] : List UInt8) ≠ [34] := fun e => h34 (e34.1 e)
                    simpa using this
                  by_cases h92 : c = 92
                  · have q92 : (([x] : List UInt8) == [92]) = true := by simpa using e92.2 h92
                    have HDQ : Hid ((letL l)[i]? = some (92, [x])) := Lib.hid (by rw [HDI.out, h92])
                    clear e34 e92 h34 h92 HDI
                    obtain ⟨k, hk⟩ : ∃ k, k = i + 1 := ⟨_, rfl⟩
                    have hke : (i : Int) + 1 = (k : Int) := by omega
                    have HK := Lib.hid hk
                    clear hk
                    by_cases hlk : k < (letL l).length
                    · have qk : ((k : Int) == ((letL l).length : Int)) = false := beq_eq_false_iff_ne.2 (by omega)
                      have qk2 : (k : Int) < ((letL l).length : Int) := by omega
                      obtain ⟨⟨c', b'⟩, hd'⟩ : ∃ d, (letL l)[k]? = some d := ⟨_, List.getElem?_eq_getElem hlk⟩
                      have hdok' := HOK.out (c', b') (List.mem_of_getElem? hd')
                      have HDI' := Lib.hid hd'
                      have hcl' := HC.out k (c', b') hd'
                      simp only at hcl'
                      have e34 := let_eq hdok' 34 (by omega)
                      have e92 := let_eq hdok' 92 (by omega)
                      have HDK : Hid ((letL l)[i + 1]? = some (c', b')) := Lib.hid (by rw [← HK.out]; exact HDI'.out)
                      clear hd'
                      by_cases h34 : c' = 34
                      · have p34 : (b' == [34]) = true := by simpa using e34.2 h34
                        have HN := Lib.hid (HQ.out.escOn HDQ.out HDK.out (.inl h34))
                        have hbl : b'.length = 1 := by rw [e34.2 h34]; rfl
                        clear e34 e92
                        have hcc : ¬ (9223372036854775807 : Int) < (said.length : Int) + (b'.length : Int) := by omega
                        have hcc1 : ¬ (9223372036854775807 : Int) < (said.length : Int) + 1 := by omega
                        have hk2 : i + 2 = k + 1 := by have := HK.out; omega
                        rw [hk2] at HN
                        clear hk2
                        go_wp2
                        go_roundw
                        case rel => exact ⟨k + 1, said ++ b', by first | rfl | rw [st_append] | simp [st_append], by go_num, HN.out, (by first | rfl | trivial)⟩
                        case measure => simp [intOf]; have := HK.out; omega
                      · have p34 : (b' == [34]) = false := by
                          have : b' ≠ [34] := fun e => h34 (e34.1 e)
                          simpa using this
                        by_cases h92 : c' = 92
                        · have p92 : (b' == [92]) = true := by simpa using e92.2 h92
                          have HN := Lib.hid (HQ.out.escOn HDQ.out HDK.out (.inr h92))
                          have hbl : b'.length = 1 := by rw [e92.2 h92]; rfl
                          clear e34 e92
                          have hcc : ¬ (9223372036854775807 : Int) < (said.length : Int) + (b'.length : Int) := by omega
                          have hcc1 : ¬ (9223372036854775807 : Int) < (said.length : Int) + 1 := by omega
                          have hk2 : i + 2 = k + 1 := by have := HK.out; omega
                          rw [hk2] at HN
                          clear hk2
                          go_wp2
                          go_roundw
                          case rel => exact ⟨k + 1, said ++ b', by first | rfl | rw [st_append] | simp [st_append], by go_num, HN.out, (by first | rfl | trivial)⟩
                          case measure => simp [intOf]; have := HK.out; omega
                        · have p92 : (b' == [92]) = false := by
                            have : b' ≠ [92] := fun e => h92 (e92.1 e)
                            simpa using this
                          have HE : Hid (parseT l = ([], [], k, 4)) := Lib.hid (by rw [HK.out]; exact quoted_err H34.out (HQ.out.escBad HDQ.out rfl HDK.out h34 h92) (by decide))
                          clear e34 e92 h34 h92
                          go_wp2_with (first | (with_reducible refine stop_alloc 23 ?_) | (with_reducible refine stop_store 23 ?_) | (with_reducible refine stop_load 23 ?_))
                          refine go_on (wpList_store_whole rfl rfl rfl rfl hr1 (by kernel_rfl) rfl (by simp [Value.oneCell']) ?_)
                          intro w6 hrow hk6 hz6
                          have hx6 := HX1.out.kept hk6 (one_ge HGW.out)
                          go_wp2
                          ((try simp only [Exit.inBlock, Exit.then]); refine bodyPost_ret (results_cell2 rfl _ _ g0 _ _ _ _ rfl hrow Tryd.underlying23 rfl (by kernel_rfl)) rfl ?_)
                          unfold PSays
                          rw [HE.out]
                          exact ⟨by first | rfl | simp, hx6⟩
                    · have qk : ((k : Int) == ((letL l).length : Int)) = true := beq_iff_eq.2 (by omega)
                      have HE : Hid (parseT l = ([], [], k, 3)) := Lib.hid (by rw [HK.out]; exact quoted_err H34.out (HQ.out.escShort HDQ.out rfl (by have := HK.out; omega)) (by decide))
                      go_wp2_with (first | (with_reducible refine stop_alloc 23 ?_) | (with_reducible refine stop_store 23 ?_) | (with_reducible refine stop_load 23 ?_))
                      refine go_on (wpList_store_whole rfl rfl rfl rfl hr1 (by kernel_rfl) rfl (by simp [Value.oneCell']) ?_)
                      intro w6 hrow hk6 hz6
                      have hx6 := HX1.out.kept hk6 (one_ge HGW.out)
                      go_wp2
                      ((try simp only [Exit.inBlock, Exit.then]); refine bodyPost_ret (results_cell2 rfl _ _ g0 _ _ _ _ rfl hrow Tryd.underlying23 rfl (by kernel_rfl)) rfl ?_)
                      unfold PSays
                      rw [HE.out]
                      exact ⟨by first | rfl | simp, hx6⟩
                  · have q92 : (([x] : List UInt8) == [92]) = false := by
                      have : ([x] : List UInt8) ≠ [92] := fun e => h92 (e92.1 e)
                      simpa using this
                    have HN := Lib.hid (HQ.out.on HDI.out HG.out h34 h92)
                    have hcc : ¬ (9223372036854775807 : Int) < (said.length : Int) + 1 := by omega
                    clear e34 e92 h34 h92
                    go_wp2
                    go_roundw
                    case rel => exact ⟨i + 1, said ++ [x], by first | rfl | rw [st_append] | simp [st_append], by go_num, HN.out, (by first | rfl | trivial)⟩
                    case measure => simp [intOf]; omega
          · have q1 : ((b.length : Int) != 1) = true := by simp; omega
            have hbig := let_many hdok hb
            have HE := Lib.hid (quoted_err H34.out (HQ.out.bad HDI.out (by omega)) (by decide))
            clear hd hb
            go_wp2_with (first | (with_reducible refine stop_alloc 23 ?_) | (with_reducible refine stop_store 23 ?_) | (with_reducible refine stop_load 23 ?_))
            refine go_on (wpList_store_whole rfl rfl rfl rfl hr1 (by kernel_rfl) rfl (by simp [Value.oneCell']) ?_)
            intro w6 hrow hk6 hz6
            have hx6 := HX1.out.kept hk6 (one_ge HGW.out)
            go_wp2
            ((try simp only [Exit.inBlock, Exit.then]); refine bodyPost_ret (results_cell2 rfl _ _ g0 _ _ _ _ rfl hrow Tryd.underlying23 rfl (by kernel_rfl)) rfl ?_)
            unfold PSays
            rw [HE.out]
            exact ⟨by first | rfl | simp, hx6⟩
        · have qi : ((i : Int) == ((letL l).length : Int)) = true := beq_iff_eq.2 (by omega)
          have HE := Lib.hid (quoted_err H34.out (HQ.out.short hlt) (by decide))
          go_wp2_with (first | (with_reducible refine stop_alloc 23 ?_) | (with_reducible refine stop_store 23 ?_) | (with_reducible refine stop_load 23 ?_))
          refine go_on (wpList_store_whole rfl rfl rfl rfl hr1 (by kernel_rfl) rfl (by simp [Value.oneCell']) ?_)
          intro w6 hrow hk6 hz6
          have hx6 := HX1.out.kept hk6 (one_ge HGW.out)
          go_wp2
          ((try simp only [Exit.inBlock, Exit.then]); refine bodyPost_ret (results_cell2 rfl _ _ g0 _ _ _ _ rfl hrow Tryd.underlying23 rfl (by kernel_rfl)) rfl ?_)
          unfold PSays
          rw [HE.out]
          exact ⟨by first | rfl | simp, hx6⟩
    · have q34 : (b0 == [34]) = false := by
        have : b0 ≠ [34] := fun e => h34 (e34.1 e)
        simpa using this
      have H34 : Hid (¬ l[0]? = some 34) := Lib.hid (by
        intro h
        obtain ⟨b, hb⟩ := (head_34 l).1 h
        rw [hd0] at hb
        cases hb
        exact h34 rfl)
      clear e34 hok0 hd0 h34
      go_wp2
      clear q34 hcl0 h00'
      go_loopw [6, 7, 8] (fun a b f wr => ∃ i z, a = .string (st (l.take i)) ∧ b = .int .i64 (i : Nat) ∧ f = .bool (decide (z ≠ 1)) ∧ BAt l i z ∧ wr = w1) (fun _ b _ _ => (letL l).length - (intOf b).toNat)
      case atStart => exact ⟨0, 0, rfl, rfl, rfl, BAt.zero l, rfl⟩
      case round =>
        obtain ⟨i, z, rfl, rfl, rfl, hb, rfl⟩ := hrel
        have HB := Lib.hid hb
        have hil := hb.a.len
        have hz := hb.hz
        clear hb
        by_cases hlt : i < (letL l).length
        · have qi : ((i : Int) == ((letL l).length : Int)) = false := beq_eq_false_iff_ne.2 (by omega)
          have qi2 : (i : Int) < ((letL l).length : Int) := by omega
          obtain ⟨⟨c, b⟩, hd⟩ : ∃ d, (letL l)[i]? = some d := ⟨_, List.getElem?_eq_getElem hlt⟩
          have hdok := HOK.out (c, b) (List.mem_of_getElem? hd)
          have HDI := Lib.hid hd
          have hcl := HC.out i (c, b) hd
          simp only at hcl
          have HONE := fun w => one_any b signsL w (by decide)
          rw [one_signs hdok] at HONE
          have e46 := let_eq hdok 46 (by omega)
          have e64 := let_eq hdok 64 (by omega)
          have htl : (l.take i).length ≤ i := by simp; omega
          unfold signsL at HONE
          rw [show (st [33, 35, 36, 37, 38, 39, 42, 43, 45, 47, 61, 63, 94, 95, 96, 123, 124, 125, 126] : ByteArray) = ⟨#[33, 35, 36, 37, 38, 39, 42, 43, 45, 47, 61, 63, 94, 95, 96, 123, 124, 125, 126]⟩ from rfl] at HONE
          clear hd
          by_cases hz1 : z = 1
          · subst hz1
            by_cases h64 : c = 64
            · have q64 : (b == [64]) = true := by simpa using e64.2 h64
              have hj := HB.out.join H34.out (b := b) (by rw [HDI.out, h64])
              have HJ := Lib.hid hj.1
              have HA2 := Lib.hid hj.2
              have hsl2 : (l.take i).length ≤ l.length := by simp; omega
              clear hj e64 e46 h64 HONE HB
              generalize l.take i = said at *
              have HDM : Calls Tryd.prog 21 #[.slice (some ad) (letL l).length cap, .int .i64 ((i : Int) + 1)] wr fun e w' => e = .returned (.int .i64 (domV (letL l) (i + 1))) ∧ wr = w' := by
                have := domain_any (letL l) HOK.out (i + 1) (by omega) (by omega) (by omega) ad cap hc1 hc2 wr (fun k d hd => HC.out k d hd)
                rwa [show ((i + 1 : Nat) : Int) = (i : Int) + 1 by simp] at this
              rcases dom_cases l said i (by omega) with ⟨hd1, hj1⟩ | ⟨q, hd1, hq, hi1, hj1⟩ | ⟨hd1, hi1, hj1⟩
              · rw [hd1] at HDM
                have HE := Lib.hid (HJ.out.trans hj1)
                clear hd1 hj1
                go_wp2_with (first | fail | (with_reducible refine stop_store 23 ?_))
                refine HDM.mono ?_
                rintro e w5 ⟨rfl, rfl⟩
                go_wp2_with (first | (with_reducible refine stop_alloc 23 ?_) | (with_reducible refine stop_store 23 ?_) | (with_reducible refine stop_load 23 ?_))
                refine go_on (wpList_store_whole rfl rfl rfl rfl hr1 (by kernel_rfl) rfl (by simp [Value.oneCell']) ?_)
                intro w6 hrow hk6 hz6
                have hx6 := HX1.out.kept hk6 (one_ge HGW.out)
                go_wp2
                ((try simp only [Exit.inBlock, Exit.then]); refine bodyPost_ret (results_cell2 rfl _ _ g0 _ _ _ _ rfl hrow Tryd.underlying23 rfl (by kernel_rfl)) rfl ?_)
                unfold PSays
                rw [HE.out]
                exact ⟨by first | rfl | simp, hx6⟩
              · rw [hd1] at HDM
                have HE := Lib.hid (HJ.out.trans hj1)
                have qn : ¬ (q : Int) < 0 := by omega
                have qe : (((i : Int) + 1) == ((letL l).length : Int)) = false := beq_eq_false_iff_ne.2 (by omega)
                have ql : (q : Int) < ((letL l).length : Int) := by omega
                clear hd1 hj1
                go_wp2_with (first | fail | (with_reducible refine stop_store 23 ?_))
                refine HDM.mono ?_
                rintro e w5 ⟨rfl, rfl⟩
                go_wp2_with (first | (with_reducible refine stop_alloc 23 ?_) | (with_reducible refine stop_store 23 ?_) | (with_reducible refine stop_load 23 ?_))
                refine go_on (wpList_store_whole rfl rfl rfl rfl hr1 (by kernel_rfl) rfl (by simp [Value.oneCell']) ?_)
                intro w6 hrow hk6 hz6
                have hx6 := HX1.out.kept hk6 (one_ge HGW.out)
                go_wp2
                ((try simp only [Exit.inBlock, Exit.then]); refine bodyPost_ret (results_cell2 rfl _ _ g0 _ _ _ _ rfl hrow Tryd.underlying23 rfl (by kernel_rfl)) rfl ?_)
                unfold PSays
                rw [HE.out]
                exact ⟨by first | rfl | simp, hx6⟩
              · rw [hd1] at HDM
                have HE := Lib.hid (HJ.out.trans hj1)
                have qn : ¬ ((letL l).length : Int) < 0 := by omega
                have qe : (((i : Int) + 1) == ((letL l).length : Int)) = false := beq_eq_false_iff_ne.2 (by omega)
                have ql : ¬ ((letL l).length : Int) < ((letL l).length : Int) := by omega
                have HDR := Lib.hid HA2.out.drop
                clear hd1 hj1
                go_wp2_with (first | fail | (with_reducible refine stop_store 23 ?_))
                refine HDM.mono ?_
                rintro e w5 ⟨rfl, rfl⟩
                go_wp2
                go_loopw [10, 11] (fun a b wr' => ∃ (kk : Nat) (x : List UInt8), a = .string (st x) ∧ b = .int .i64 (kk : Nat) ∧ i + 1 ≤ kk ∧ kk ≤ (letL l).length ∧ x ++ ((letL l).drop kk).flatMap (fun d => d.2) = l.drop (i + 1) ∧ wr' = wr) (fun _ b _ => (letL l).length - (intOf b).toNat)
                case atStart => exact ⟨i + 1, [], rfl, by simp, by omega, by omega, by rw [List.nil_append, ← HDR.out, let_bytes _ _ (Nat.le_refl _)], rfl⟩
                case round =>
                  obtain ⟨kk, x, rfl, rfl, hk0, hk, hxx, rfl⟩ := hrel
                  have HXX := Lib.hid hxx
                  have hxl : x.length ≤ l.length := by have := congrArg List.length hxx; simp only [List.length_append, List.length_drop] at this; omega
                  clear hxx
                  by_cases hlt : kk < (letL l).length
                  · have hlt2 : (kk : Int) < ((letL l).length : Int) := by omega
                    obtain ⟨⟨c, b⟩, hd⟩ : ∃ d, (letL l)[kk]? = some d := ⟨_, List.getElem?_eq_getElem hlt⟩
                    have hcl := HC.out kk (c, b) hd
                    simp only at hcl
                    have hnx : (x ++ b) ++ ((letL l).drop (kk + 1)).flatMap (fun d => d.2) = l.drop (i + 1) := by
                      rw [← HXX.out, drop_here hd, List.flatMap_cons, List.append_assoc]
                    have HNX := Lib.hid hnx
                    have hbl : x.length + b.length ≤ l.length := by have := congrArg List.length hnx; simp only [List.length_append, List.length_drop] at this; omega
                    have hcc : ¬ (9223372036854775807 : Int) < (x.length : Int) + (b.length : Int) := by omega
                    clear hnx hd
                    go_wp2
                    go_roundw
                    case rel => exact ⟨kk + 1, x ++ b, by first | rfl | rw [st_append] | simp [st_append], by go_num, by omega, by omega, HNX.out, (by first | rfl | trivial)⟩
                    case measure => simp [intOf]; omega
                  · have hlt2 : ¬ (kk : Int) < ((letL l).length : Int) := by omega
                    have hxe : x = l.drop (i + 1) := by
                      have := HXX.out
                      rw [List.drop_eq_nil_of_le (by omega)] at this
                      simpa using this
                    rw [← hxe] at HE
                    have HL := RLower_any (st x) wr (by rw [st_size]; omega)
                    rw [tl_st] at HL
                    clear hxe
                    by_cases h64 : (64 : Int) < ((said).length : Int)
                    · have HE := Lib.hid (HE.out.trans (if_pos (.inl (by omega))))
                      go_wp2_with (first | (with_reducible refine stop_alloc 23 ?_) | (with_reducible refine stop_store 23 ?_) | (with_reducible refine stop_load 23 ?_))
                      refine go_on (wpList_store_whole rfl rfl rfl rfl hr1 (by kernel_rfl) rfl (by simp [Value.oneCell']) ?_)
                      intro w6 hrow hk6 hz6
                      have hx6 := HX1.out.kept hk6 (one_ge HGW.out)
                      go_wp2
                      ((try simp only [Exit.inBlock, Exit.then]); refine bodyPost_ret (results_cell2 rfl _ _ g0 _ _ _ _ rfl hrow Tryd.underlying23 rfl (by kernel_rfl)) rfl ?_)
                      unfold PSays
                      rw [HE.out]
                      exact ⟨by first | rfl | simp, hx6⟩
                    · by_cases h255 : (255 : Int) < (x.length : Int)
                      · have HE := Lib.hid (HE.out.trans (if_pos (.inr (by omega))))
                        go_wp2_with (first | (with_reducible refine stop_alloc 23 ?_) | (with_reducible refine stop_store 23 ?_) | (with_reducible refine stop_load 23 ?_))
                        refine go_on (wpList_store_whole rfl rfl rfl rfl hr1 (by kernel_rfl) rfl (by simp [Value.oneCell']) ?_)
                        intro w6 hrow hk6 hz6
                        have hx6 := HX1.out.kept hk6 (one_ge HGW.out)
                        go_wp2
                        ((try simp only [Exit.inBlock, Exit.then]); refine bodyPost_ret (results_cell2 rfl _ _ g0 _ _ _ _ rfl hrow Tryd.underlying23 rfl (by kernel_rfl)) rfl ?_)
                        unfold PSays
                        rw [HE.out]
                        exact ⟨by first | rfl | simp, hx6⟩
                      · have HE := Lib.hid (HE.out.trans (if_neg (by omega)))
                        go_wp2_with (first | fail | (with_reducible refine stop_store 23 ?_))
                        refine HL.mono ?_
                        rintro e w5 ⟨rfl, hx5⟩
                        have hr5 := hx5.obj hr1
                        go_wp2_with (first | (with_reducible refine stop_alloc 23 ?_) | (with_reducible refine stop_store 23 ?_) | (with_reducible refine stop_load 23 ?_))
                        refine go_on (wpList_store_whole rfl rfl rfl rfl hr5 (by kernel_rfl) rfl (by simp [Value.oneCell']) ?_)
                        intro w6 hrow hk6 hz6
                        have hx6 := (HX1.out.trans hx5).kept hk6 (one_ge HGW.out)
                        go_wp2
                        ((try simp only [Exit.inBlock, Exit.then]); refine bodyPost_ret (results_cell2 rfl _ _ g0 _ _ _ _ rfl hrow Tryd.underlying23 rfl (by kernel_rfl)) rfl ?_)
                        unfold PSays
                        rw [HE.out]
                        exact ⟨by first | rfl | simp, hx6⟩
            · have q64 : (b == [64]) = false := by
                have : b ≠ [64] := fun e => h64 (e64.1 e)
                simpa using this
              by_cases h46 : c = 46
              · have q46 : (b == [46]) = true := by simpa using e46.2 h46
                have hns : nextS 1 c 0 = (2, true) := by rw [h46]; rfl
                have hon := HB.out.on HDI.out (by rw [hns]) (by rw [hns]; decide) (by omega)
                rw [hns] at hon
                have hbl : b.length = 1 := by rw [e46.2 h46]; rfl
                clear HONE
                have HTK := Lib.hid hon.2
                have HN := Lib.hid hon.1
                have hcc : ¬ (9223372036854775807 : Int) < ((l.take i).length : Int) + (b.length : Int) := by omega
                have hcc1 : ¬ (9223372036854775807 : Int) < ((l.take i).length : Int) + 1 := by omega
                clear e64 e46 hns hon
                generalize l.take i = said at *
                go_wp2_with fail
                skip
                go_wp2
                go_roundw
                case rel => exact ⟨i + 1, 2, by (rw [HTK.out]) <;> (first | rfl | rw [st_append] | simp [st_append]), by go_num, rfl, HN.out, (by first | rfl | trivial)⟩
                case measure => simp [intOf]; omega
              · have q46 : (b == [46]) = false := by
                  have : b ≠ [46] := fun e => h46 (e46.1 e)
                  simpa using this
                have hns : nextS 1 c 0 = (1, localB c) := by simp [nextS, h46, h64]
                cases hlc : localB c with
                | true =>
                  rw [hlc] at HONE hns
                  have hon := HB.out.on HDI.out (by rw [hns]) (by rw [hns]; decide) (by have := localB_asc hlc; omega)
                  rw [hns] at hon
                  have hbl : b.length = 1 := by rw [(let_eq hdok c (by have := localB_asc hlc; omega)).2 rfl]; rfl
                  have HTK := Lib.hid hon.2
                  have HN := Lib.hid hon.1
                  have hcc : ¬ (9223372036854775807 : Int) < ((l.take i).length : Int) + (b.length : Int) := by omega
                  have hcc1 : ¬ (9223372036854775807 : Int) < ((l.take i).length : Int) + 1 := by omega
                  clear e64 e46 hns hon
                  generalize l.take i = said at *
                  go_wp2_with fail
                  refine (HONE _).mono ?_
                  rintro e w9 ⟨rfl, rfl⟩
                  go_wp2
                  go_roundw
                  case rel => exact ⟨i + 1, 1, by (rw [HTK.out]) <;> (first | rfl | rw [st_append] | simp [st_append]), by go_num, rfl, HN.out, (by first | rfl | trivial)⟩
                  case measure => simp [intOf]; omega
                | false =>
                  rw [hlc] at HONE hns
                  have HE := Lib.hid (HB.out.bad H34.out HDI.out (by rw [hns]))
                  clear e64 e46 hns
                  go_wp2_with (first | fail | (with_reducible refine stop_store 23 ?_))
                  refine (HONE _).mono ?_
                  rintro e w9 ⟨rfl, rfl⟩
                  go_wp2_with (first | (with_reducible refine stop_alloc 23 ?_) | (with_reducible refine stop_store 23 ?_) | (with_reducible refine stop_load 23 ?_))
                  refine go_on (wpList_store_whole rfl rfl rfl rfl hr1 (by kernel_rfl) rfl (by simp [Value.oneCell']) ?_)
                  intro w6 hrow hk6 hz6
                  have hx6 := HX1.out.kept hk6 (one_ge HGW.out)
                  go_wp2
                  ((try simp only [Exit.inBlock, Exit.then]); refine bodyPost_ret (results_cell2 rfl _ _ g0 _ _ _ _ rfl hrow Tryd.underlying23 rfl (by kernel_rfl)) rfl ?_)
                  unfold PSays
                  rw [HE.out]
                  exact ⟨by first | rfl | simp, hx6⟩
          · have hdz : decide (z ≠ 1) = true := decide_eq_true hz1
            have hns : nextS z c 0 = (1, localB c) := by
              have : z = 0 ∨ z = 2 := by omega
              rcases this with rfl | rfl <;> simp [nextS]
            rw [hdz]
            clear hdz hz1
            by_cases h46 : c = 46
            · have q46 : (b == [46]) = true := by simpa using e46.2 h46
              cases hlc : localB c with
              | true =>
                rw [hlc] at HONE hns
                have hon := HB.out.on HDI.out (by rw [hns]) (by rw [hns]; decide) (by have := localB_asc hlc; omega)
                rw [hns] at hon
                have hbl : b.length = 1 := by rw [(let_eq hdok c (by have := localB_asc hlc; omega)).2 rfl]; rfl
                have HTK := Lib.hid hon.2
                have HN := Lib.hid hon.1
                have hcc : ¬ (9223372036854775807 : Int) < ((l.take i).length : Int) + (b.length : Int) := by omega
                have hcc1 : ¬ (9223372036854775807 : Int) < ((l.take i).length : Int) + 1 := by omega
                clear e64 e46 hns hon
                generalize l.take i = said at *
                go_wp2_with fail
                refine (HONE _).mono ?_
                rintro e w9 ⟨rfl, rfl⟩
                go_wp2
                go_roundw
                case rel => exact ⟨i + 1, 1, by (rw [HTK.out]) <;> (first | rfl | rw [st_append] | simp [st_append]), by go_num, rfl, HN.out, (by first | rfl | trivial)⟩
                case measure => simp [intOf]; omega
              | false =>
                rw [hlc] at HONE hns
                have HE := Lib.hid (HB.out.bad H34.out HDI.out (by rw [hns]))
                clear e64 e46 hns
                go_wp2_with (first | fail | (with_reducible refine stop_store 23 ?_))
                refine (HONE _).mono ?_
                rintro e w9 ⟨rfl, rfl⟩
                go_wp2_with (first | (with_reducible refine stop_alloc 23 ?_) | (with_reducible refine stop_store 23 ?_) | (with_reducible refine stop_load 23 ?_))
                refine go_on (wpList_store_whole rfl rfl rfl rfl hr1 (by kernel_rfl) rfl (by simp [Value.oneCell']) ?_)
                intro w6 hrow hk6 hz6
                have hx6 := HX1.out.kept hk6 (one_ge HGW.out)
                go_wp2
                ((try simp only [Exit.inBlock, Exit.then]); refine bodyPost_ret (results_cell2 rfl _ _ g0 _ _ _ _ rfl hrow Tryd.underlying23 rfl (by kernel_rfl)) rfl ?_)
                unfold PSays
                rw [HE.out]
                exact ⟨by first | rfl | simp, hx6⟩
            · have q46 : (b == [46]) = false := by
                have : b ≠ [46] := fun e => h46 (e46.1 e)
                simpa using this
              cases hlc : localB c with
              | true =>
                rw [hlc] at HONE hns
                have hon := HB.out.on HDI.out (by rw [hns]) (by rw [hns]; decide) (by have := localB_asc hlc; omega)
                rw [hns] at hon
                have hbl : b.length = 1 := by rw [(let_eq hdok c (by have := localB_asc hlc; omega)).2 rfl]; rfl
                have HTK := Lib.hid hon.2
                have HN := Lib.hid hon.1
                have hcc : ¬ (9223372036854775807 : Int) < ((l.take i).length : Int) + (b.length : Int) := by omega
                have hcc1 : ¬ (9223372036854775807 : Int) < ((l.take i).length : Int) + 1 := by omega
                clear e64 e46 hns hon
                generalize l.take i = said at *
                go_wp2_with fail
                refine (HONE _).mono ?_
                rintro e w9 ⟨rfl, rfl⟩
                go_wp2
                go_roundw
                case rel => exact ⟨i + 1, 1, by (rw [HTK.out]) <;> (first | rfl | rw [st_append] | simp [st_append]), by go_num, rfl, HN.out, (by first | rfl | trivial)⟩
                case measure => simp [intOf]; omega
              | false =>
                rw [hlc] at HONE hns
                have HE := Lib.hid (HB.out.bad H34.out HDI.out (by rw [hns]))
                clear e64 e46 hns
                go_wp2_with (first | fail | (with_reducible refine stop_store 23 ?_))
                refine (HONE _).mono ?_
                rintro e w9 ⟨rfl, rfl⟩
                go_wp2_with (first | (with_reducible refine stop_alloc 23 ?_) | (with_reducible refine stop_store 23 ?_) | (with_reducible refine stop_load 23 ?_))
                refine go_on (wpList_store_whole rfl rfl rfl rfl hr1 (by kernel_rfl) rfl (by simp [Value.oneCell']) ?_)
                intro w6 hrow hk6 hz6
                have hx6 := HX1.out.kept hk6 (one_ge HGW.out)
                go_wp2
                ((try simp only [Exit.inBlock, Exit.then]); refine bodyPost_ret (results_cell2 rfl _ _ g0 _ _ _ _ rfl hrow Tryd.underlying23 rfl (by kernel_rfl)) rfl ?_)
                unfold PSays
                rw [HE.out]
                exact ⟨by first | rfl | simp, hx6⟩
        · have qi : ((i : Int) == ((letL l).length : Int)) = true := beq_iff_eq.2 (by omega)
          have qi2 : ¬ (i : Int) < ((letL l).length : Int) := by omega
          have HE := Lib.hid (HB.out.short H34.out hlt)
          go_wp2_with (first | (with_reducible refine stop_alloc 23 ?_) | (with_reducible refine stop_store 23 ?_) | (with_reducible refine stop_load 23 ?_))
          refine go_on (wpList_store_whole rfl rfl rfl rfl hr1 (by kernel_rfl) rfl (by simp [Value.oneCell']) ?_)
          intro w6 hrow hk6 hz6
          have hx6 := HX1.out.kept hk6 (one_ge HGW.out)
          go_wp2
          ((try simp only [Exit.inBlock, Exit.then]); refine bodyPost_ret (results_cell2 rfl _ _ g0 _ _ _ _ rfl hrow Tryd.underlying23 rfl (by kernel_rfl)) rfl ?_)
          unfold PSays
          rw [HE.out]
          exact ⟨by first | rfl | simp, hx6⟩
end Go.Proofs.YtigkmlhkfpdajaaDoor
