/- The walk of the reference's Ack. Conditions: the hypotheses of the theorem. -/
import Derived.Test.YtijopcdjlpafdaaC2
import Derived.Test.YtijopcdjlpafdaaRCo4M
namespace Go.Proofs.Ytijopcdjlpafdaa
open Go.RowKit
set_option maxRecDepth 20000 in
set_option maxHeartbeats 8000000 in
theorem RAck_any {M : List Nat} {w : World} {q : Nat} {s : Cs} (h : Rc M w q s) (hs : s.Ok) (hf : s.Few 1000) (hq : q ∈ M) (hM : ∀ k ∈ M, k < w.heap.size) (id : TxI) (shard : Int) :
 Calls Try.prog 46 #[pt q, .agg #[.int .i64 id.node, .int .i64 id.boot, .int .i64 id.n], .int .i64 shard] w fun e w' => ∃ v, e = .returned (.tuple #[v, .int .i64 (ackO s id shard).e]) ∧ Own w' w.heap.size v (ackO s id shard).r ∧ Rc M w' q (ackO s id shard).s ∧ Kept [q] w w' := by
 have hfew : s.under.length ≤ 1000 := by have := hs.few; omega
 have HF := fun W (hx : Ext w W) => rfind_any (h.ext hx) id hfew
 have HSET := fun W (hx : Ext w W) (i : Nat) (hi : i < s.under.length) A2 c2 ys (h2 : RsM RRr 7 M W A2 ys) (hy : ys.length ≤ 1000) => rset_any (h.ext hx) hq (fun k hk => Nat.lt_of_lt_of_le (hM k hk) hx.size) i hi A2 c2 ys h2 hfew hy
 have HCO := Lib.hid h
 have HPL := Lib.hid h.lt
 have HS := Lib.hid hs
 have HFW := Lib.hid hf
 have HM := Lib.hid hM
 have HQ := Lib.hid hq
 obtain ⟨A, cap, h⟩ := h
 obtain ⟨c0, c1, c2, c3, cf⟩ := rows4 h.row
 have HRS := Lib.hid h.rs
 clear h c0 c1 c2 cf hs hf hM
 unfold pt at *
 obtain ⟨wa, hwa⟩ : ∃ wa, wa = w.alloc (.cells #[.int .i64 id.node, .int .i64 id.boot, .int .i64 id.n] 35) := ⟨_, rfl⟩
 have hxa : Ext w wa := by rw [hwa]; exact (Ext.refl w).alloc _
 have hrow : wa.heap[w.heap.size]? = some (.cells #[.int .i64 id.node, .int .i64 id.boot, .int .i64 id.n] 35 (0, 0)) := by rw [hwa]; exact heap_alloc_new w _
 have HT5 := Lib.hid hrow
 have hwaA := hwa.symm
 clear hwa hrow
 go_enter Try.func46, Try.ntmps46
 go_wp2_with (with_reducible first | refine sL 35 ?_ | refine sL 98 ?_ | refine sA 98 ?_ | refine sS 98 ?_)
 clear hwaA
 have HG5 := Lib.hid (Nat.le_refl w.heap.size)
 obtain ⟨g5, hg5⟩ : ∃ g, g = w.heap.size := ⟨_, rfl⟩
 rw [← hg5] at HT5 ⊢
 replace HG5 : Hid (w.heap.size ≤ g5) := Lib.hid (Nat.le_of_eq hg5.symm)
 clear hg5
 refine go_on (wpList_load_row rfl 35 _ rfl g5 rfl 35 _ (0, 0) _ HT5.out Try.underlying35 rfl (apitx_size _ _ _) ?_)
 go_wp2_with fail
 refine (HF _ hxa).mono ?_
 rintro e w2 ⟨rfl, hx2⟩
 have HT5 := Lib.hid (hx2.obj HT5.out)
 replace hxa := hxa.trans hx2
 have c3a := c3 w2 hxa
 clear hx2
 cases hfi : findT s.under id with
 | none =>
  have HV : Hid (ackO s id shard = ⟨[], 9, s⟩) := Lib.hid (by unfold ackO Cs.at_; rw [hfi])
  have hm : idI none = -1 := rfl
  rw [hm]
  clear hm hfi c3
  clear HSET HF
  go_wp2
  go_ret2
  rw [HV.out]
  exact ⟨_, rfl, Own.nil _ _, HCO.out.ext hxa, .of_ext hxa⟩
 | some i =>
  obtain ⟨hi, hid⟩ := findT_some hfi
  have hm : idI (some i) = (i : Int) := rfl
  rw [hm]
  obtain ⟨ad, A0, d0, A1, d1, A2, d2, rfl, hs0, hs1, hs2, hcell⟩ := HRS.out.rr hi
  have hok := HS.out.rows _ (List.getElem_mem hi)
  have hfw := HFW.out _ (List.getElem_mem hi)
  have hidt : s.under[i].id = id := by
   rw [← row_of hi]
   exact hid
  have HAT := Lib.hid (fun d => at_of (s := s) (d := d) hfi hi)
  have HRO := Lib.hid (row_of hi)
  have hnneg : ¬ (i : Int) < 0 := by omega
  have hilt : (i : Int) < (s.under.length : Int) := by omega
  have hc4 : w2.cell? ((ad.add (i * 7)).add 4) = some (.bool s.under[i].done) := hcell w2 hxa 4 _ rfl
  rw [add_pos'] at hc4
  clear hm hfi hid
  generalize htt : s.under[i] = t at *
  clear htt
  cases hdd : t.done with
  | false =>
   have HV : Hid (ackO s id shard = ⟨[], 9, s⟩) := Lib.hid (by unfold ackO; rw [HAT.out, if_neg (by rw [hdd]; simp)])
   rw [hdd] at hc4
   clear hcell hs0 hs1 hs2 hok hfw hidt hdd HAT HRO c3
   clear HSET HF
   go_wp2
   go_ret2
   rw [HV.out]
   exact ⟨_, rfl, Own.nil _ _, HCO.out.ext hxa, .of_ext hxa⟩
  | true =>
   rw [hdd] at hc4
   have HV : Hid (ackO s id shard = if hasI t.shards shard = false then ⟨[], 2, s⟩ else ⟨if allIn t.shards (t.ack ++ [shard]) then 3 :: be4 id.boot ++ be4 id.n else [], 0, { s with under := s.under.set i { t with ack := t.ack ++ [shard] } }⟩) := Lib.hid (by unfold ackO; rw [HAT.out, if_pos hdd]; simp only; rw [HRO.out])
   have hs0' := hs0
   have H0 := Lib.hid hs0
   have H1 := Lib.hid hs1
   have H2 := Lib.hid hs2
   have HC := Lib.hid hcell
   have hy1 := hfw.1
   have hy2 := hfw.2
   have hsl : t.shards.length ≤ 4 := (rightF_len hok.right).2
   have HOK := Lib.hid hok
   have hz2 := hxa.size
   have HZ2 := Lib.hid hz2
   have HFS := Lib.hid (fun W (hx : Ext w W) => (hs0.sl.ext hx))
   clear hcell hs0 hs1 hs2 hok hfw hdd HAT HRO HF hs0' hz2
   go_wp2_with (with_reducible first | refine sL 35 ?_ | refine sL 98 ?_ | refine sA 98 ?_ | refine sS 98 ?_)
   refine go_on (wpList_load_elem rfl 98 _ rfl (ad.add (i * 7)) rfl (rrC t (.slice A0 t.shards.length d0) (.slice A1 t.yes.length d1) (.slice A2 t.ack.length d2)) _ (HC.out _ hxa) Try.underlying98 rfl (rr_size rfl) ?_)
   go_wp2_with (with_reducible first | refine sL 35 ?_ | refine sL 98 ?_ | refine sA 98 ?_ | refine sS 98 ?_)
   refine go_on (wpList_alloc_ rfl rfl rr_info ?_)
   go_wp2_with (with_reducible first | refine sL 35 ?_ | refine sL 98 ?_ | refine sA 98 ?_ | refine sS 98 ?_)
   refine go_on (wpList_store_last rfl rfl rfl rfl (by simpa using rr_size (rrC_length t (.slice A0 t.shards.length d0) (.slice A1 t.yes.length d1) (.slice A2 t.ack.length d2))) rfl (all_oneCell_toArray (rrC_one _ _ _ _ _ _ _ _ _ _)) ?_)
   intro wc hrowc hxc hzc
   have HT5 := Lib.hid (hxc.obj HT5.out)
   replace hxa := hxa.trans hxc
   have HG := Lib.hid HZ2.out
   have HGL := Lib.hid (show w2.heap.size < wc.heap.size by rw [hzc]; omega)
   generalize w2.heap.size = g at *
   have c3c := c3 wc hxa
   have HRC := Lib.hid hrowc
   have g3 : ∀ W, Ext wc W → W.cell? ⟨g, 3, none⟩ = some (.slice A0 t.shards.length d0) := fun W hx => by rw [cell_of_row _ _ _ _ _ _ (hx.obj hrowc)]; rfl
   have g5' : ∀ W, Ext wc W → W.cell? ⟨g, 6, none⟩ = some (.slice A2 t.ack.length d2) := fun W hx => by rw [cell_of_row _ _ _ _ _ _ (hx.obj hrowc)]; rfl
   clear hxc hrowc hzc hc4 c3a
   have hxcc := Ext.refl wc
   have HIN := rin_any wc A0 d0 t.shards shard (HFS.out _ hxa) (by omega)
   cases hin : hasI t.shards shard with
   | false =>
    rw [hin] at HIN HV
    rw [if_pos rfl] at HV
    clear HSET
    go_wp2_with fail
    refine HIN.mono ?_
    rintro e _ ⟨rfl, rfl⟩
    go_wp2
    go_ret2
    rw [HV.out]
    exact ⟨_, rfl, Own.nil _ _, HCO.out.ext hxa, .of_ext hxa⟩
   | true =>
    rw [hin] at HIN HV
    rw [if_neg (by simp)] at HV
    go_wp2_with fail
    refine HIN.mono ?_
    rintro e _ ⟨rfl, rfl⟩
    clear HIN
    subst hidt
    go_wp2_with (at_builtin; refine unstop ?_)
    have hmade := World.ownsRow_made (base := wc.heap.size) (e := 3) (size := 1) wc #[] 0 (Nat.le_refl _) (by simp [maxLen]) rfl
    refine go_on (wpList_app intsT hmade (H2.out.sl.ext (hxa.alloc _)) rfl rfl rfl rfl (by simp) (ib_one _) (by omega) (by omega) (by simp) ?_)
    intro v1 w1 ho1 hg1 _
    have hx1 : Ext wc w1 := ((Ext.refl wc).alloc _).own hmade (Nat.le_refl _) hg1
    rw [Nat.zero_add] at ho1
    obtain ⟨Av1, cv1, rfl⟩ := own_form ho1
    have HO1 := Lib.hid ho1
    clear hmade ho1 hg1
    go_wp2_with (at_builtin; refine unstop ?_)
    have hnw : Sl (w1.alloc (.cells #[.int .i64 shard] 3)) (some ⟨w1.heap.size, 0, none⟩) [.int .i64 shard] := Sl.new w1 _ _ _
    have hoa := HO1.out.alloc (.cells #[.int .i64 shard] 3)
    refine go_on (wpList_app intsT hoa hnw rfl rfl rfl rfl rfl (by intro u hu; simp at hu; subst hu; rfl) (by omega) (by omega) (by have := hx1.size; simp; omega) ?_)
    intro v2 w2 ho2 hg2 _
    have hx2 : Ext wc w2 := (hx1.alloc _).own hoa (Nat.le_refl _) hg2
    obtain ⟨ys, hys⟩ : ∃ ys, ys = t.ack ++ [shard] := ⟨_, rfl⟩
    have hyl : t.ack.length + 1 = ys.length := by rw [hys]; simp
    have hib : [] ++ ib t.ack ++ [.int .i64 shard] = ib ys := by rw [hys]; simp [ib]
    rw [hyl, hib] at ho2
    rw [← hys] at HV
    have hyl3 : ys.length ≤ 2000 := by omega
    obtain ⟨Av2, cv2, rfl⟩ := own_form ho2
    have hrow2 := hx2.obj HRC.out
    have hset := heap_setCell_same w2 g 6 _ _ (.slice Av2 ys.length cv2) hrow2
    have hk3 : Kept [g] w2 (w2.setCell ⟨g, 6, none⟩ (.slice Av2 ys.length cv2)) := (Kept.refl _ _).setCell (.inl (by simp)) _
    have HO3 := Lib.hid (World.ownsRow.kept ho2 hk3.grown1 (owns_obj ho2 hrow2 (by decide)))
    have HX3 := Lib.hid ((hxa.trans hx2).kept hk3 (one_ge HG.out))
    have HR3 : Hid ((w2.setCell ⟨g, 6, none⟩ (.slice Av2 ys.length cv2)).heap[g]? = some (.cells (rrC ⟨t.id, t.shards, t.done, t.yes, ys⟩ (.slice A0 t.shards.length d0) (.slice A1 t.yes.length d1) (.slice Av2 ys.length cv2)).toArray 98 (0, 0))) := Lib.hid (by simpa [rrC] using hset)
    have HT3 := Lib.hid (hk3.heap (hx2.obj HT5.out) (by
     intro hm
     simp at hm
     subst hm
     have h1 := hx2.obj HT5.out
     rw [hrow2] at h1
     cases h1))
    have HZ3 := Lib.hid (show wc.heap.size ≤ (w2.setCell ⟨g, 6, none⟩ (.slice Av2 ys.length cv2)).heap.size from Nat.le_trans hx2.size hk3.size)
    obtain ⟨G0, GF⟩ : w2.cell? ⟨g, 6, none⟩ = some (.slice A2 t.ack.length d2) ∧ ∀ j, w2.frozen? ⟨g, j, none⟩ = false := ⟨by rw [cell_of_row _ _ _ _ _ _ hrow2]; rfl, fun j => frozen_of_row _ _ _ _ _ hrow2⟩
    clear hnw hoa ho2 hg2 hx2 hys hyl hib hset hk3 hrow2 HO1 g3 g5' HRC hx1
    go_wp2_with (with_reducible first | refine sL 35 ?_ | refine sL 98 ?_ | refine sA 98 ?_ | refine sS 98 ?_)
    clear G0 GF
    generalize w2.setCell ⟨g, 6, none⟩ (.slice Av2 ys.length cv2) = w3 at *
    refine go_on (wpList_load_row rfl 98 _ rfl g rfl 98 _ (0, 0) _ HR3.out Try.underlying98 rfl (by simpa using rr_size (rrC_length ⟨t.id, t.shards, t.done, t.yes, ys⟩ (.slice A0 t.shards.length d0) (.slice A1 t.yes.length d1) (.slice Av2 ys.length cv2))) ?_)
    have HM3 : Hid (∀ k ∈ M, k < w3.heap.size) := Lib.hid fun k hk => Nat.lt_of_lt_of_le (HM.out k hk) HX3.out.size
    have HB3 : Hid (∀ k ∈ M, k < wc.heap.size) := Lib.hid fun k hk => Nat.lt_of_lt_of_le (HM.out k hk) hxa.size
    have HRS3 := Lib.hid (rr_one w3 (t := ⟨t.id, t.shards, t.done, t.yes, ys⟩) (c0 := d0) (c1 := d1) (c2 := cv2) (SlM.kept H0.out (.of_ext HX3.out)) (SlM.kept H1.out (.of_ext HX3.out)) (SlM.own HO3.out rfl HB3.out) HM3.out)
    have c33 := c3 w3 HX3.out
    have HX4 := Lib.hid (HX3.out.alloc (.cells (rrC ⟨t.id, t.shards, t.done, t.yes, ys⟩ (.slice A0 t.shards.length d0) (.slice A1 t.yes.length d1) (.slice Av2 ys.length cv2)).toArray 98))
    have HS2 := HSET _ HX4.out i hi (some ⟨w3.heap.size, 0, none⟩) 1 [⟨t.id, t.shards, t.done, t.yes, ys⟩] HRS3.out (by simp)
    rw [set_cut hi] at HS2
    have HNG : Hid (g ∉ [q]) := Lib.hid (by have := HG.out; have := HPL.out; simp; omega)
    have HN5 : Hid (g5 ∉ [q]) := Lib.hid (by have := HG5.out; have := HPL.out; simp; omega)
    clear HSET c3
    go_wp2_with fail
    refine HS2.mono ?_
    rintro e w5 ⟨rfl, hr5, hk5⟩
    have hxw4 : Ext w3 (w3.alloc (.cells (rrC ⟨t.id, t.shards, t.done, t.yes, ys⟩ (.slice A0 t.shards.length d0) (.slice A1 t.yes.length d1) (.slice Av2 ys.length cv2)).toArray 98)) := (Ext.refl w3).alloc _
    have hg5 := hk5.heap (hxw4.obj HR3.out) HNG.out
    have HT6 := Lib.hid (hk5.heap (hxw4.obj HT3.out) HN5.out)
    have HR5 := Lib.hid hr5
    have HK5 := Lib.hid ((Kept.of_ext (M := [q]) HX4.out).trans hk5)
    have HSH := Lib.hid (SlM.kept H0.out (HK5.out.mono (by intro k hk; simp at hk; subst hk; exact HQ.out))).sl
    have HYS : Hid (Sl w5 Av2 (ib ys)) := Lib.hid (SlM.kept (SlM.own (owns_ext HO3.out hxw4) rfl HB3.out) (hk5.mono (by intro k hk; simp at hk; subst hk; exact HQ.out))).sl
    have HAL := rall_any w5 A0 d0 t.shards Av2 cv2 ys HSH.out HYS.out (by omega) (by omega)
    have G3 : w5.cell? ⟨g, 3, none⟩ = some (.slice A0 t.shards.length d0) := by rw [cell_of_row _ _ _ _ _ _ hg5]; rfl
    have G5 : w5.cell? ⟨g, 6, none⟩ = some (.slice Av2 ys.length cv2) := by rw [cell_of_row _ _ _ _ _ _ hg5]; rfl
    have hN := fun W (b : Value) (l : By) (v : Int) (hv : 0 ≤ v) (hv2 : v < 9223372036854775808) (hx : Ext w5 W) (ho : Own W w5.heap.size b l) (hl : l.length ≤ 2000) => RNumB_i w5 W b l v 4 hv hv2 hx ho (by omega) (by omega)
    have hb1 : 0 ≤ t.id.boot := by have := HOK.out.boot1; omega
    have hn1 : 0 ≤ t.id.n := by have := HOK.out.n1; omega
    have hb2 : t.id.boot < 9223372036854775808 := by have := HOK.out.boot2; have := HS.out.boot2; omega
    have hn2 : t.id.n < 9223372036854775808 := by have := HOK.out.n2; omega
    have HSZ := Lib.hid HK5.out.size
    clear hr5 hk5 hg5 HS2 hxw4 c3c c33
    cases hall : allIn t.shards ys with
    | true =>
     rw [hall] at HAL HV
     rw [if_pos rfl] at HV
     go_wp2_with fail
     refine HAL.mono ?_
     rintro e _ ⟨rfl, rfl⟩
     clear HAL
     obtain ⟨b0, b1, b2, bf⟩ := rows3 HT6.out
     have hx5 := Ext.refl w5
     clear b0 bf G3 G5
     go_wp2_with fail
     refine wp_region_phase (S := fun w' => Ext w5 w') 8 (by kernel_rfl) (by kernel_rfl) ?_ (fun hHeld => ?_)
     ·exact hx5.drew
     simp only [List.drop_succ_cons, List.drop_zero]
     refine name_head ?_
     intro wr0 hw0
     rw [hw0] at hHeld
     refine wt 1 _ ?_
     simp only [red, Act.put]
     refine wt 2 _ ?_
     simp only [red, Act.put]
     refine wt 4 _ ?_
     simp only [red, Act.put]
     refine wt 5 _ ?_
     simp only [red, Act.put]
     refine rd [0] ?_
     refine ac (fun K hK => ?_) ?_
     ·go_simp
      refine name_world ?_
      rintro wrz hw0
      have hxn0 : Ext wr0 wrz := hw0 ▸ (Ext.refl _).alloc _
      have hrow0 : wrz.heap[wr0.heap.size]? = some (.cells #[.int .u8 3] 5) := hw0 ▸ heap_alloc_new wr0 _
      have ho0 : Own wrz w5.heap.size (.slice (some ⟨wr0.heap.size, 0, none⟩) 1 1) [3] := hw0 ▸ Own.new wr0 w5.heap.size _ [3] 1 rfl rfl hHeld.size (by simp [maxLen])
      refine hK.out _ _ ?_ (fun hHeld => ?_)
      ·first | assumption | exact Ext.trans (by assumption) (by assumption) | exact Ext.trans hHeld (by assumption)
      clear hK K
      try simp only [red, Act.put]
      refine rd [3] ?_
      refine ac (fun K hK => ?_) ?_
      ·refine step_callG (by rfl) (by kernel_rfl) (hN _ _ _ t.id.boot hb1 hb2 hHeld ho0 (by simp)) ?_
       rintro e wr3 ⟨k4, rfl, ho4, hx4⟩
       refine ⟨_, rfl, ?_⟩
       refine hK.out _ _ ?_ (fun hHeld => ?_)
       ·first | assumption | exact Ext.trans (by assumption) (by assumption) | exact Ext.trans hHeld (by assumption)
       clear hK K
       try simp only [red, Act.put]
       refine rd [6] ?_
       refine ac (fun K hK => ?_) ?_
       ·refine step_callG (by rfl) (by kernel_rfl) (hN _ _ _ t.id.n hn1 hn2 hHeld ho4 (by simp)) ?_
        rintro e wr6 ⟨k8, rfl, ho8, hx8⟩
        refine ⟨_, rfl, ?_⟩
        refine hK.out _ _ ?_ (fun hHeld => ?_)
        ·first | assumption | exact Ext.trans (by assumption) (by assumption) | exact Ext.trans hHeld (by assumption)
        clear hK K
        try simp only [red, Act.put]
        refine wt 7 _ ?_
        simp only [red, Act.put]
        refine wpHead_done (by kernel_rfl) ?_
        have HO7 := Lib.hid (ho8.low HSZ.out)
        have HX7 := Lib.hid hHeld
        clear ho0 ho4 ho8 hN hHeld b1 b2
        generalize wr6 = w8 at *
        go_wp2
        go_ret2
        rw [HV.out]
        exact ⟨_, rfl, HO7.out, HR5.out.ext HX7.out, HK5.out.ext HX7.out⟩
       exact AllHead.nil
      exact AllHead.nil
     exact AllHead.nil
    | false =>
     rw [hall] at HAL HV
     rw [if_neg (by simp)] at HV
     clear hN hb1 hb2 hn1 hn2
     go_wp2_with fail
     refine HAL.mono ?_
     rintro e _ ⟨rfl, rfl⟩
     go_wp2
     go_ret2
     rw [HV.out]
     exact ⟨_, rfl, Own.nil _ _, HR5.out, HK5.out⟩
end Go.Proofs.Ytijopcdjlpafdaa
