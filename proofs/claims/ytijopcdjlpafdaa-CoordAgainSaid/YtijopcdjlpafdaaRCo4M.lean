/- The walk of the reference's Vote. Conditions: the hypotheses of the theorem. -/
import Derived.Test.YtijopcdjlpafdaaRCo3M
namespace Go.Proofs.Ytijopcdjlpafdaa
open Go.RowKit
theorem erase_cut (l : List Tr) (i : Nat) : l.take i ++ [] ++ l.drop (i + 1) = l.eraseIdx i := by
 rw [List.append_nil, List.eraseIdx_eq_take_drop_succ]
theorem set_cut {l : List Tr} {i : Nat} (hi : i < l.length) (t : Tr) : l.take i ++ [t] ++ l.drop (i + 1) = l.set i t := by
 rw [List.set_eq_take_append_cons_drop, if_pos hi, List.append_assoc]
 rfl
theorem row_of {s : Cs} {i : Nat} (hi : i < s.under.length) : s.row i = s.under[i] := by
 unfold Cs.row
 rw [List.getD_eq_getElem?_getD, List.getElem?_eq_getElem hi]
 rfl
theorem at_of {s : Cs} {id : TxI} {d : Bool} {i : Nat} (h : findT s.under id = some i) (hi : i < s.under.length) : s.at_ id d = if s.under[i].done = d then some i else none := by
 unfold Cs.at_
 rw [h]
 simp only
 rw [row_of hi]
theorem rr_one (w : World) {M : List Nat} {t : Tr} {A0 A1 A2 : Option Addr} {c0 c1 c2 : Nat} (h0 : SlM M w A0 (ib t.shards)) (h1 : SlM M w A1 (ib t.yes)) (h2 : SlM M w A2 (ib t.ack)) (hM : ∀ k ∈ M, k < w.heap.size) :
 RsM RRr 7 M (w.alloc (.cells (rrC t (.slice A0 t.shards.length c0) (.slice A1 t.yes.length c1) (.slice A2 t.ack.length c2)).toArray 98)) (some ⟨w.heap.size, 0, none⟩) [t] := by
 refine ⟨[rrC t (.slice A0 t.shards.length c0) (.slice A1 t.yes.length c1) (.slice A2 t.ack.length c2)], rfl, by simp, ?_, ?_⟩
 ·rw [List.flatten_cons, List.flatten_nil, List.append_nil]
  intro k v hk
  obtain ⟨ad, e, hc⟩ := Sl.new w (rrC t (.slice A0 t.shards.length c0) (.slice A1 t.yes.length c1) (.slice A2 t.ack.length c2)) 98 (0, 0) k v hk
  refine ⟨ad, e, fun hm => ?_, hc⟩
  cases e
  exact Nat.lt_irrefl _ (hM _ hm)
 ·intro k cs x hk hx
  have hk0 : k = 0 := by
   have := (List.getElem?_eq_some_iff.1 hk).1
   simp at this
   exact this
  subst hk0
  simp at hk hx
  subst hk hx
  have hx := Kept.of_ext (M := M) ((Ext.refl w).alloc (.cells (rrC t (.slice A0 t.shards.length c0) (.slice A1 t.yes.length c1) (.slice A2 t.ack.length c2)).toArray 98))
  exact ⟨A0, c0, A1, c1, A2, c2, rfl, h0.kept hx, h1.kept hx, h2.kept hx⟩
set_option maxRecDepth 20000 in
set_option maxHeartbeats 8000000 in
theorem RVote_any {M : List Nat} {w : World} {q : Nat} {s : Cs} (h : Rc M w q s) (hs : s.Ok) (hf : s.Few 1000) (hq : q ∈ M) (hM : ∀ k ∈ M, k < w.heap.size) (id : TxI) (shard : Int) (yes : Bool) :
 Calls Try.prog 44 #[pt q, .agg #[.int .i64 id.node, .int .i64 id.boot, .int .i64 id.n], .int .i64 shard, .bool yes] w fun e w' => ∃ v, e = .returned (.tuple #[v, .int .i64 (voteO s id shard yes).e]) ∧ Own w' w.heap.size v (voteO s id shard yes).r ∧ Rc M w' q (voteO s id shard yes).s ∧ Kept [q] w w' := by
 have hfew : s.under.length ≤ 1000 := by have := hs.few; omega
 have HF := fun W (hx : Ext w W) => rfind_any (h.ext hx) id hfew
 have HSET := fun W (hx : Ext w W) (i : Nat) (hi : i < s.under.length) A2 c2 ys (h2 : RsM RRr 7 M W A2 ys) (hy : ys.length ≤ 1000) => rset_any (h.ext hx) hq (fun k hk => Nat.lt_of_lt_of_le (hM k hk) hx.size) i hi A2 c2 ys h2 hfew hy
 have HCO := Lib.hid h
 have HPL := Lib.hid h.lt
 have HS := Lib.hid hs
 have HFW := Lib.hid hf
 have HM := Lib.hid hM
 have HQ := Lib.hid hq
 obtain ⟨A, cap, h⟩ := h
 obtain ⟨c0, c1, c2, c3, cf⟩ := rows4 h.row
 have HRS := Lib.hid h.rs
 clear h c0 c1 c2 cf hs hf hM
 unfold pt at *
 obtain ⟨wa, hwa⟩ : ∃ wa, wa = w.alloc (.cells #[.int .i64 id.node, .int .i64 id.boot, .int .i64 id.n] 35) := ⟨_, rfl⟩
 have hxa : Ext w wa := by rw [hwa]; exact (Ext.refl w).alloc _
 have hrow : wa.heap[w.heap.size]? = some (.cells #[.int .i64 id.node, .int .i64 id.boot, .int .i64 id.n] 35 (0, 0)) := by rw [hwa]; exact heap_alloc_new w _
 have HT5 := Lib.hid hrow
 have hwaA := hwa.symm
 clear hwa hrow
 go_enter Try.func44, Try.ntmps44
 go_wp2_with (with_reducible first | refine sL 35 ?_ | refine sL 98 ?_ | refine sA 98 ?_ | refine sS 98 ?_)
 clear hwaA
 have HG5 := Lib.hid (Nat.le_refl w.heap.size)
 obtain ⟨g5, hg5⟩ : ∃ g, g = w.heap.size := ⟨_, rfl⟩
 rw [← hg5] at HT5 ⊢
 replace HG5 : Hid (w.heap.size ≤ g5) := Lib.hid (Nat.le_of_eq hg5.symm)
 clear hg5
 refine go_on (wpList_load_row rfl 35 _ rfl g5 rfl 35 _ (0, 0) _ HT5.out Try.underlying35 rfl (apitx_size _ _ _) ?_)
 go_wp2_with fail
 refine (HF _ hxa).mono ?_
 rintro e w2 ⟨rfl, hx2⟩
 have HT5 := Lib.hid (hx2.obj HT5.out)
 replace hxa := hxa.trans hx2
 have c3a := c3 w2 hxa
 clear hx2
 cases hfi : findT s.under id with
 | none =>
  have HV : Hid (voteO s id shard yes = ⟨[], 9, s⟩) := Lib.hid (by unfold voteO Cs.at_; rw [hfi])
  have hm : idI none = -1 := rfl
  rw [hm]
  clear hm hfi c3
  clear HSET HF
  go_wp2
  go_ret2
  rw [HV.out]
  exact ⟨_, rfl, Own.nil _ _, HCO.out.ext hxa, .of_ext hxa⟩
 | some i =>
  obtain ⟨hi, hid⟩ := findT_some hfi
  have hm : idI (some i) = (i : Int) := rfl
  rw [hm]
  obtain ⟨ad, A0, d0, A1, d1, A2, d2, rfl, hs0, hs1, hs2, hcell⟩ := HRS.out.rr hi
  have hok := HS.out.rows _ (List.getElem_mem hi)
  have hfw := HFW.out _ (List.getElem_mem hi)
  have hidt : s.under[i].id = id := by
   rw [← row_of hi]
   exact hid
  have HAT := Lib.hid (fun d => at_of (s := s) (d := d) hfi hi)
  have HRO := Lib.hid (row_of hi)
  have hnneg : ¬ (i : Int) < 0 := by omega
  have hilt : (i : Int) < (s.under.length : Int) := by omega
  have hc4 : w2.cell? ((ad.add (i * 7)).add 4) = some (.bool s.under[i].done) := hcell w2 hxa 4 _ rfl
  rw [add_pos'] at hc4
  clear hm hfi hid
  generalize htt : s.under[i] = t at *
  clear htt
  cases hdd : t.done with
  | true =>
   have HV : Hid (voteO s id shard yes = ⟨[], 9, s⟩) := Lib.hid (by unfold voteO; rw [HAT.out, if_neg (by rw [hdd]; simp)])
   rw [hdd] at hc4
   clear hcell hs0 hs1 hs2 hok hfw hidt hdd HAT HRO c3
   clear HSET HF
   go_wp2
   go_ret2
   rw [HV.out]
   exact ⟨_, rfl, Own.nil _ _, HCO.out.ext hxa, .of_ext hxa⟩
  | false =>
   rw [hdd] at hc4
   have HV : Hid (voteO s id shard yes = if hasI t.shards shard = false then ⟨[], 2, s⟩ else if yes = false then (if allIn t.shards t.yes then ⟨[], 13, s⟩ else ⟨[], 0, { s with under := s.under.eraseIdx i }⟩) else ⟨if allIn t.shards (t.yes ++ [shard]) then putD { t with yes := t.yes ++ [shard] } else [], 0, { s with under := s.under.set i { t with yes := t.yes ++ [shard] } }⟩) := Lib.hid (by unfold voteO; rw [HAT.out, if_pos hdd]; simp only; rw [HRO.out])
   have hs0' := hs0
   have H0 := Lib.hid hs0
   have H1 := Lib.hid hs1
   have H2 := Lib.hid hs2
   have HC := Lib.hid hcell
   have hy1 := hfw.1
   have hy2 := hfw.2
   have hsl : t.shards.length ≤ 4 := (rightF_len hok.right).2
   have HOK := Lib.hid hok
   have hz2 := hxa.size
   have HZ2 := Lib.hid hz2
   have HFS := Lib.hid (fun W (hx : Ext w W) => (hs0.sl.ext hx))
   clear hcell hs0 hs1 hs2 hok hfw hdd HAT HRO HF hs0' hz2
   go_wp2_with (with_reducible first | refine sL 35 ?_ | refine sL 98 ?_ | refine sA 98 ?_ | refine sS 98 ?_)
   refine go_on (wpList_load_elem rfl 98 _ rfl (ad.add (i * 7)) rfl (rrC t (.slice A0 t.shards.length d0) (.slice A1 t.yes.length d1) (.slice A2 t.ack.length d2)) _ (HC.out _ hxa) Try.underlying98 rfl (rr_size rfl) ?_)
   go_wp2_with (with_reducible first | refine sL 35 ?_ | refine sL 98 ?_ | refine sA 98 ?_ | refine sS 98 ?_)
   refine go_on (wpList_alloc_ rfl rfl rr_info ?_)
   go_wp2_with (with_reducible first | refine sL 35 ?_ | refine sL 98 ?_ | refine sA 98 ?_ | refine sS 98 ?_)
   refine go_on (wpList_store_last rfl rfl rfl rfl (by simpa using rr_size (rrC_length t (.slice A0 t.shards.length d0) (.slice A1 t.yes.length d1) (.slice A2 t.ack.length d2))) rfl (all_oneCell_toArray (rrC_one _ _ _ _ _ _ _ _ _ _)) ?_)
   intro wc hrowc hxc hzc
   have HT5 := Lib.hid (hxc.obj HT5.out)
   replace hxa := hxa.trans hxc
   have HG := Lib.hid HZ2.out
   have HGL := Lib.hid (show w2.heap.size < wc.heap.size by rw [hzc]; omega)
   generalize w2.heap.size = g at *
   have c3c := c3 wc hxa
   have HRC := Lib.hid hrowc
   have g3 : ∀ W, Ext wc W → W.cell? ⟨g, 3, none⟩ = some (.slice A0 t.shards.length d0) := fun W hx => by rw [cell_of_row _ _ _ _ _ _ (hx.obj hrowc)]; rfl
   have g5' : ∀ W, Ext wc W → W.cell? ⟨g, 5, none⟩ = some (.slice A1 t.yes.length d1) := fun W hx => by rw [cell_of_row _ _ _ _ _ _ (hx.obj hrowc)]; rfl
   clear hxc hrowc hzc hc4 c3a
   have hxcc := Ext.refl wc
   have HIN := rin_any wc A0 d0 t.shards shard (HFS.out _ hxa) (by omega)
   cases hin : hasI t.shards shard with
   | false =>
    rw [hin] at HIN HV
    rw [if_pos rfl] at HV
    clear HSET
    go_wp2_with fail
    refine HIN.mono ?_
    rintro e _ ⟨rfl, rfl⟩
    go_wp2
    go_ret2
    rw [HV.out]
    exact ⟨_, rfl, Own.nil _ _, HCO.out.ext hxa, .of_ext hxa⟩
   | true =>
    rw [hin] at HIN HV
    rw [if_neg (by simp)] at HV
    cases yes with
    | false =>
     rw [if_pos rfl] at HV
     have HAL := rall_any wc A0 d0 t.shards A1 d1 t.yes (HFS.out _ hxa) (H1.out.sl.ext hxa) (by omega) (by omega)
     cases hall : allIn t.shards t.yes with
     | true =>
      rw [hall] at HAL HV
      rw [if_pos rfl] at HV
      clear HSET
      go_wp2_with fail
      refine HIN.mono ?_
      rintro e _ ⟨rfl, rfl⟩
      go_wp2_with fail
      refine HAL.mono ?_
      rintro e _ ⟨rfl, rfl⟩
      go_wp2
      go_ret2
      rw [HV.out]
      exact ⟨_, rfl, Own.nil _ _, HCO.out.ext hxa, .of_ext hxa⟩
     | false =>
      rw [hall] at HAL HV
      rw [if_neg (by simp)] at HV
      have HS2 := HSET wc hxa i hi none 0 [] (RsM.nil _ _ _ _ _) (by simp)
      rw [erase_cut] at HS2
      clear HSET
      go_wp2_with fail
      refine HIN.mono ?_
      rintro e _ ⟨rfl, rfl⟩
      go_wp2_with fail
      refine HAL.mono ?_
      rintro e _ ⟨rfl, rfl⟩
      go_wp2_with fail
      refine HS2.mono ?_
      rintro e w5 ⟨rfl, hr5, hk5⟩
      have HR5 := Lib.hid hr5
      have HK5 := Lib.hid ((Kept.of_ext (M := [q]) hxa).trans hk5)
      clear HS2 hr5 hk5
      go_wp2
      go_ret2
      rw [HV.out]
      exact ⟨_, rfl, Own.nil _ _, HR5.out, HK5.out⟩
    | true =>
     rw [if_neg (by simp)] at HV
     go_wp2_with fail
     refine HIN.mono ?_
     rintro e _ ⟨rfl, rfl⟩
     clear HIN
     subst hidt
     go_wp2_with (at_builtin; refine unstop ?_)
     have hmade := World.ownsRow_made (base := wc.heap.size) (e := 3) (size := 1) wc #[] 0 (Nat.le_refl _) (by simp [maxLen]) rfl
     refine go_on (wpList_app intsT hmade (H1.out.sl.ext (hxa.alloc _)) rfl rfl rfl rfl (by simp) (ib_one _) (by omega) (by omega) (by simp) ?_)
     intro v1 w1 ho1 hg1 _
     have hx1 : Ext wc w1 := ((Ext.refl wc).alloc _).own hmade (Nat.le_refl _) hg1
     rw [Nat.zero_add] at ho1
     obtain ⟨Av1, cv1, rfl⟩ := own_form ho1
     have HO1 := Lib.hid ho1
     clear hmade ho1 hg1
     go_wp2_with (at_builtin; refine unstop ?_)
     have hnw : Sl (w1.alloc (.cells #[.int .i64 shard] 3)) (some ⟨w1.heap.size, 0, none⟩) [.int .i64 shard] := Sl.new w1 _ _ _
     have hoa := HO1.out.alloc (.cells #[.int .i64 shard] 3)
     refine go_on (wpList_app intsT hoa hnw rfl rfl rfl rfl rfl (by intro u hu; simp at hu; subst hu; rfl) (by omega) (by omega) (by have := hx1.size; simp; omega) ?_)
     intro v2 w2 ho2 hg2 _
     have hx2 : Ext wc w2 := (hx1.alloc _).own hoa (Nat.le_refl _) hg2
     obtain ⟨ys, hys⟩ : ∃ ys, ys = t.yes ++ [shard] := ⟨_, rfl⟩
     have hyl : t.yes.length + 1 = ys.length := by rw [hys]; simp
     have hib : [] ++ ib t.yes ++ [.int .i64 shard] = ib ys := by rw [hys]; simp [ib]
     rw [hyl, hib] at ho2
     rw [← hys] at HV
     have hyl3 : ys.length ≤ 2000 := by omega
     obtain ⟨Av2, cv2, rfl⟩ := own_form ho2
     have hrow2 := hx2.obj HRC.out
     have hset := heap_setCell_same w2 g 5 _ _ (.slice Av2 ys.length cv2) hrow2
     have hk3 : Kept [g] w2 (w2.setCell ⟨g, 5, none⟩ (.slice Av2 ys.length cv2)) := (Kept.refl _ _).setCell (.inl (by simp)) _
     have HO3 := Lib.hid (World.ownsRow.kept ho2 hk3.grown1 (owns_obj ho2 hrow2 (by decide)))
     have HX3 := Lib.hid ((hxa.trans hx2).kept hk3 (one_ge HG.out))
     have HR3 : Hid ((w2.setCell ⟨g, 5, none⟩ (.slice Av2 ys.length cv2)).heap[g]? = some (.cells (rrC ⟨t.id, t.shards, t.done, ys, t.ack⟩ (.slice A0 t.shards.length d0) (.slice Av2 ys.length cv2) (.slice A2 t.ack.length d2)).toArray 98 (0, 0))) := Lib.hid (by simpa [rrC] using hset)
     have HT3 := Lib.hid (hk3.heap (hx2.obj HT5.out) (by
      intro hm
      simp at hm
      subst hm
      have h1 := hx2.obj HT5.out
      rw [hrow2] at h1
      cases h1))
     have HZ3 := Lib.hid (show wc.heap.size ≤ (w2.setCell ⟨g, 5, none⟩ (.slice Av2 ys.length cv2)).heap.size from Nat.le_trans hx2.size hk3.size)
     obtain ⟨G0, GF⟩ : w2.cell? ⟨g, 5, none⟩ = some (.slice A1 t.yes.length d1) ∧ ∀ j, w2.frozen? ⟨g, j, none⟩ = false := ⟨by rw [cell_of_row _ _ _ _ _ _ hrow2]; rfl, fun j => frozen_of_row _ _ _ _ _ hrow2⟩
     clear hnw hoa ho2 hg2 hx2 hys hyl hib hset hk3 hrow2 HO1 g3 g5' HRC hx1
     go_wp2_with (with_reducible first | refine sL 35 ?_ | refine sL 98 ?_ | refine sA 98 ?_ | refine sS 98 ?_)
     clear G0 GF
     generalize w2.setCell ⟨g, 5, none⟩ (.slice Av2 ys.length cv2) = w3 at *
     refine go_on (wpList_load_row rfl 98 _ rfl g rfl 98 _ (0, 0) _ HR3.out Try.underlying98 rfl (by simpa using rr_size (rrC_length ⟨t.id, t.shards, t.done, ys, t.ack⟩ (.slice A0 t.shards.length d0) (.slice Av2 ys.length cv2) (.slice A2 t.ack.length d2))) ?_)
     have HM3 : Hid (∀ k ∈ M, k < w3.heap.size) := Lib.hid fun k hk => Nat.lt_of_lt_of_le (HM.out k hk) HX3.out.size
     have HB3 : Hid (∀ k ∈ M, k < wc.heap.size) := Lib.hid fun k hk => Nat.lt_of_lt_of_le (HM.out k hk) hxa.size
     have HRS3 := Lib.hid (rr_one w3 (t := ⟨t.id, t.shards, t.done, ys, t.ack⟩) (c0 := d0) (c1 := cv2) (c2 := d2) (SlM.kept H0.out (.of_ext HX3.out)) (SlM.own HO3.out rfl HB3.out) (SlM.kept H2.out (.of_ext HX3.out)) HM3.out)
     have c33 := c3 w3 HX3.out
     have HX4 := Lib.hid (HX3.out.alloc (.cells (rrC ⟨t.id, t.shards, t.done, ys, t.ack⟩ (.slice A0 t.shards.length d0) (.slice Av2 ys.length cv2) (.slice A2 t.ack.length d2)).toArray 98))
     have HS2 := HSET _ HX4.out i hi (some ⟨w3.heap.size, 0, none⟩) 1 [⟨t.id, t.shards, t.done, ys, t.ack⟩] HRS3.out (by simp)
     rw [set_cut hi] at HS2
     have HNG : Hid (g ∉ [q]) := Lib.hid (by have := HG.out; have := HPL.out; simp; omega)
     have HN5 : Hid (g5 ∉ [q]) := Lib.hid (by have := HG5.out; have := HPL.out; simp; omega)
     clear HSET c3
     go_wp2_with fail
     refine HS2.mono ?_
     rintro e w5 ⟨rfl, hr5, hk5⟩
     have hxw4 : Ext w3 (w3.alloc (.cells (rrC ⟨t.id, t.shards, t.done, ys, t.ack⟩ (.slice A0 t.shards.length d0) (.slice Av2 ys.length cv2) (.slice A2 t.ack.length d2)).toArray 98)) := (Ext.refl w3).alloc _
     have hg5 := hk5.heap (hxw4.obj HR3.out) HNG.out
     have HT6 := Lib.hid (hk5.heap (hxw4.obj HT3.out) HN5.out)
     have HR5 := Lib.hid hr5
     have HK5 := Lib.hid ((Kept.of_ext (M := [q]) HX4.out).trans hk5)
     have HSH := Lib.hid (SlM.kept H0.out (HK5.out.mono (by intro k hk; simp at hk; subst hk; exact HQ.out))).sl
     have HYS : Hid (Sl w5 Av2 (ib ys)) := Lib.hid (SlM.kept (SlM.own (owns_ext HO3.out hxw4) rfl HB3.out) (hk5.mono (by intro k hk; simp at hk; subst hk; exact HQ.out))).sl
     have HAL := rall_any w5 A0 d0 t.shards Av2 cv2 ys HSH.out HYS.out (by omega) (by omega)
     have G3 : w5.cell? ⟨g, 3, none⟩ = some (.slice A0 t.shards.length d0) := by rw [cell_of_row _ _ _ _ _ _ hg5]; rfl
     have G5 : w5.cell? ⟨g, 5, none⟩ = some (.slice Av2 ys.length cv2) := by rw [cell_of_row _ _ _ _ _ _ hg5]; rfl
     have HPD := RPutD_any ⟨t.id, t.shards, t.done, ys, t.ack⟩ A0 d0 w5 HSH.out (rightF_mem HOK.out.right) (by simp only; omega) (by have := HOK.out.boot1; simp only; omega) (by have := HOK.out.n1; simp only; omega) (by have := HOK.out.boot2; have := HS.out.boot2; simp only; omega) (by have := HOK.out.n2; simp only; omega)
     have HSZ := Lib.hid HK5.out.size
     clear hr5 hk5 hg5 HS2 hxw4 c3c c33
     cases hall : allIn t.shards ys with
     | true =>
      rw [hall] at HAL HV
      rw [if_pos rfl] at HV
      go_wp2_with fail
      refine HAL.mono ?_
      rintro e _ ⟨rfl, rfl⟩
      clear HAL
      go_wp2_with (with_reducible refine sL 35 ?_)
      refine go_on (wpList_load_row rfl 35 _ rfl g5 rfl 35 _ (0, 0) _ HT6.out Try.underlying35 rfl (apitx_size _ _ _) ?_)
      go_wp2_with fail
      refine HPD.mono ?_
      rintro e w7 ⟨v7, rfl, ho7, hx7⟩
      have HO7 := Lib.hid (ho7.low HSZ.out)
      have HX7 := Lib.hid hx7
      clear HPD ho7 hx7 G3 G5
      go_wp2
      go_ret2
      rw [HV.out]
      exact ⟨_, rfl, HO7.out, HR5.out.ext HX7.out, HK5.out.ext HX7.out⟩
     | false =>
      rw [hall] at HAL HV
      rw [if_neg (by simp)] at HV
      clear HPD
      go_wp2_with fail
      refine HAL.mono ?_
      rintro e _ ⟨rfl, rfl⟩
      go_wp2
      go_ret2
      rw [HV.out]
      exact ⟨_, rfl, Own.nil _ _, HR5.out, HK5.out⟩
end Go.Proofs.Ytijopcdjlpafdaa
