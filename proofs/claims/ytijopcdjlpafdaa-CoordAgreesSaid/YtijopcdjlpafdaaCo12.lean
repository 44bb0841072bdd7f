/- The walk of coord.Ack. Conditions: the hypotheses of the theorem. -/
import Derived.Test.YtijopcdjlpafdaaCo11
namespace Go.Proofs.Ytijopcdjlpafdaa
open Go.RowKit
set_option maxRecDepth 20000 in
set_option maxHeartbeats 4000000 in
theorem CAck_any {M : List Nat} {w : World} {p : Nat} {s : Cs} (h : Co M w p s) (hs : s.Ok) (hp : p ∈ M) (hM : ∀ k ∈ M, k < w.heap.size) (id : TxI) (shard : Int) :
    Calls Try.prog 12 #[pt p, .agg #[.int .i64 id.node, .int .i64 id.boot, .int .i64 id.n], .int .i64 shard] w fun e w' => ∃ v, e = .returned (.tuple #[v, .int .i64 (ackO s id shard).e]) ∧ Own w' w.heap.size v (ackO s id shard).r ∧ Co M w' p (ackO s id shard).s ∧ Kept [p] w w' := by
  have hfew : s.under.length ≤ 1000 := by have := hs.few; omega
  have HA := fun W (hx : Ext w W) => cat_any (h.ext hx) id true hfew
  have HCO := Lib.hid h
  have HM := Lib.hid hM
  have HPL := Lib.hid h.lt
  obtain ⟨A, cap, h⟩ := h
  obtain ⟨c0, c1, c2, c3, cf⟩ := rows4 h.row
  have HH := Lib.hid h
  clear h hM c0 c1 c2
  have hx0 := Ext.refl w
  cases hat : s.at_ id true with
  | none =>
    have HV : Hid (ackO s id shard = ⟨[], 9, s⟩) := Lib.hid (by unfold ackO; rw [hat])
    have ha : atV s id true = .tuple #[.int .i64 0, .int .i64 9] := by unfold atV; rw [hat]
    rw [ha] at HA
    clear ha hat
    unfold pt at *
    go_enter Try.func12, Try.ntmps12
    go_wp2_with fail
    generalize hw1 : w.alloc _ = wb
    have hxb : Ext w wb := hw1 ▸ (Ext.refl w).alloc _
    clear hw1
    refine (HA _ hxb).mono ?_
    rintro e w2 ⟨rfl, hx2⟩
    have HX := Lib.hid (hxb.trans hx2)
    clear HA hxb hx2
    go_wp2
    go_ret2
    rw [HV.out]
    exact ⟨_, rfl, Own.nil _ _, HCO.out.ext HX.out, .of_ext HX.out⟩
  | some i =>
    obtain ⟨hi, hid, hd, _⟩ := at_some hat
    have ha : atV s id true = .tuple #[.int .i64 i, .int .i64 0] := by unfold atV; rw [hat]
    rw [ha] at HA
    rw [row_eq hi] at hid hd
    have HV : Hid (ackO s id shard = if hasI s.under[i].shards shard = false then ⟨[], 2, s⟩
      else ⟨if allIn s.under[i].shards (s.under[i].ack ++ [shard]) then 3 :: be4 id.boot ++ be4 id.n else [], 0, { s with under := s.under.set i { s.under[i] with ack := s.under[i].ack ++ [shard] } }⟩) := Lib.hid (by unfold ackO; rw [hat]; simp only [row_eq hi])
    obtain ⟨ad, cs, rfl, _, _, hcell, A1, c1, rfl, hslM⟩ := HH.out.rs.at_ (by omega) hi
    have hok := hs.rows _ (List.getElem_mem hi)
    have hrl := rightF_mem hok.right
    have hlen := (rightF_len hok.right).2
    have hb1 : 0 ≤ id.boot := by rw [← hid]; have := hok.boot1; omega
    have hn1 : 0 ≤ id.n := by rw [← hid]; have := hok.n1; omega
    generalize s.under[i] = t at *
    have hilt : (i : Int) < (s.under.length : Int) := by omega
    have HC := Lib.hid fun W (hx : Ext w W) (j : Nat) (v : Value) (hj : (trC t (.slice A1 t.shards.length c1))[j]? = some v) => hx.cell (show w.cell? ((ad.add (i * 13)).add j) = some v by rw [add_addB]; exact hcell j v hj)
    have HSM := Lib.hid hslM
    have HCT := fun W (hx : Ext w W) => icont_any shard A1 c1 t.shards W (hslM.sl.ext hx) (by omega)
    have HRL := Lib.hid hrl
    clear ha hat hok hid hd hcell hslM hrl
    unfold pt at *
    go_enter Try.func12, Try.ntmps12
    go_wp2_with fail
    generalize hw1 : w.alloc _ = wb
    have hxb : Ext w wb := hw1 ▸ (Ext.refl w).alloc _
    have hIB : TxAt wb w.heap.size id := hw1 ▸ heap_alloc_new w _
    clear hw1
    refine (HA _ hxb).mono ?_
    rintro e w2 ⟨rfl, hx2⟩
    have HIB : Hid (TxAt w2 w.heap.size id) := Lib.hid (hx2.obj hIB)
    have hIL := obj_lt hIB
    have hz2 := hx2.size
    clear hIB
    have hxw2 := hxb.trans hx2
    clear HA hxb hx2
    go_wp2_with (with_reducible first | refine stop_load 85 ?_ | refine stop_alloc 85 ?_ | refine stop_store 85 ?_ | refine stop_load 83 ?_)
    refine go_on (wpList_load_elem rfl 85 _ rfl (ad.add (i * 13)) rfl (trC t (.slice A1 t.shards.length c1)) _ (HC.out _ hxw2) Try.underlying85 rfl (tx_size rfl) ?_)
    go_wp2_with (with_reducible first | refine stop_load 85 ?_ | refine stop_alloc 85 ?_ | refine stop_store 85 ?_ | refine stop_load 83 ?_)
    refine go_on (wpList_alloc_ rfl rfl tx_info ?_)
    go_wp2_with (with_reducible first | refine stop_load 85 ?_ | refine stop_alloc 85 ?_ | refine stop_store 85 ?_ | refine stop_load 83 ?_)
    refine go_on (wpList_store_last rfl rfl rfl rfl (by simpa using tx_size (trC_length t (.slice A1 t.shards.length c1))) rfl (all_oneCell_toArray (trC_one _ _ _ _)) ?_)
    intro wc hrowc hxc _
    have hgw := hxw2.size
    have hgc := obj_lt hrowc
    generalize w2.heap.size = gt at *
    have hxwc := hxw2.trans hxc
    have HIC : Hid (TxAt wc w.heap.size id) := Lib.hid (hxc.obj HIB.out)
    have hil : w.heap.size < gt := by omega
    clear hIL hz2 HIB
    have HRC := Lib.hid hrowc
    have T3 : ∀ W, Ext wc W → W.cell? ⟨gt, 3, none⟩ = some (.slice A1 t.shards.length c1) := fun W hx => by rw [cell_of_row _ _ _ _ _ _ (hx.obj hrowc)]; rfl
    have hxcc := Ext.refl wc
    have HXC := Lib.hid hxwc
    clear hxw2 hxc hrowc
    go_wp2_with fail
    refine (HCT _ hxwc).mono ?_
    rintro e _ ⟨rfl, rfl⟩
    by_cases hhas : hasI t.shards shard = true; rotate_left
    · have HV2 : Hid (ackO s id shard = ⟨[], 2, s⟩) := Lib.hid (by rw [HV.out, if_pos (by simpa using hhas)])
      have hhas : hasI t.shards shard = false := by simpa using hhas
      rw [hhas]
      clear hhas
      go_wp2
      go_ret2
      rw [HV2.out]
      exact ⟨_, rfl, Own.nil _ _, HCO.out.ext HXC.out, .of_ext HXC.out⟩
    have HV := Lib.hid (HV.out.trans (if_neg (by simp [hhas])))
    obtain ⟨hk0, hk3⟩ := HRL.out _ (hasI_iff.1 hhas)
    rw [hhas]
    clear hhas HCT
    obtain ⟨k, rfl⟩ := Int.eq_ofNat_of_zero_le hk0
    have hk3 : k ≤ 3 := by omega
    have hk4 : (k : Int) < 4 := by omega
    have HTN : Hid ((trC t (.slice A1 t.shards.length c1)).set (9 + k) (.bool true) = trC { t with ack := t.ack ++ [(k : Int)] } (.slice A1 t.shards.length c1)) := Lib.hid (trC_acked t _ k hk3)
    have T5 : wc.cell? ⟨gt, 9 + k, none⟩ = some (.bool (hasI t.ack k)) := by
      have := tr_cell HRC.out (9 + k) _ (trC_ack t _ (saidC_get t.ack hk3))
      rwa [add0] at this
    have TF : ∀ j, wc.frozen? ⟨gt, j, none⟩ = false := fun j => frozen_of_row wc gt j _ _ HRC.out
    have c3c := c3 _ hxwc
    have hgp : ¬ gt = p := by have := HPL.out; omega
    have hset : (wc.setCell ⟨gt, 9 + k, none⟩ (.bool true)).heap[gt]? = some (.cells (trC { t with ack := t.ack ++ [(k : Int)] } (.slice A1 t.shards.length c1)).toArray 85 (0, 0)) := by
      have := heap_setCell_same wc gt (9 + k) _ _ (.bool true) HRC.out
      rw [← HTN.out]
      simpa using this
    have hkd : Kept [gt] wc (wc.setCell ⟨gt, 9 + k, none⟩ (.bool true)) := (Kept.refl _ _).setCell (.inl (by simp)) _
    have HSET := Lib.hid hset
    have HID : Hid (TxAt (wc.setCell ⟨gt, 9 + k, none⟩ (.bool true)) w.heap.size id) := Lib.hid (hkd.heap HIC.out (by simp; omega))
    have hip : ¬ w.heap.size = p := by have := HPL.out; omega
    have HXD : Hid (Ext w (wc.setCell ⟨gt, 9 + k, none⟩ (.bool true))) := Lib.hid (HXC.out.kept hkd (one_ge hgw))
    have HSZ : Hid (gt < (wc.setCell ⟨gt, 9 + k, none⟩ (.bool true)).heap.size) := Lib.hid (obj_lt hset)
    clear hset hkd hk0 T3 hxcc c3 cf hxwc
    go_wp2_with fail
    generalize wc.setCell ⟨gt, 9 + k, none⟩ (.bool true) = wd at *
    clear T5 TF c3c
    have hMd : ∀ k ∈ M, k < wd.heap.size := fun k hk => Nat.lt_of_lt_of_le (HM.out k hk) HXD.out.size
    refine (tclone_any (some ad) cap s.under M wd wd (HH.out.rs.kept (.of_ext HXD.out)) (Ext.refl _) (by omega)).mono ?_
    rintro e we ⟨v5, rfl, ho5, hx5⟩
    obtain ⟨A5, c5, rfl⟩ := ho5.form
    obtain ⟨css5, q1, q2, q3, q4⟩ := ho5
    obtain ⟨g5, cur5, rfl, -, hb5, hg5, hnc5, hsz5⟩ := own_some q3 (by omega)
    have hp5 : ¬ p = g5 := by have := HPL.out; have := HXD.out.size; omega
    have hrowp := (HXD.out.trans hx5).obj HH.out.row
    obtain ⟨-, -, -, p3, pf⟩ := row4_at hrowp
    have hset := heap_setCell_same we p 3 _ _ (.slice (some ⟨g5, 0, none⟩) s.under.length c5) hrowp
    have hkf : Kept [p] we (we.setCell ⟨p, 3, none⟩ (.slice (some ⟨g5, 0, none⟩) s.under.length c5)) := (Kept.refl _ _).setCell (.inl (by simp)) _
    have HPF : Hid ((we.setCell ⟨p, 3, none⟩ (.slice (some ⟨g5, 0, none⟩) s.under.length c5)).heap[p]? = some (.cells #[.int .i64 s.node, .int .i64 s.boot, .int .i64 s.next, .slice (some ⟨g5, 0, none⟩) s.under.length c5] 72 (0, 0))) := Lib.hid (by simpa using hset)
    have HKF := Lib.hid hkf
    have HGF := Lib.hid (hkf.heap hg5 (by simpa using fun e => hp5 e.symm))
    have HTF := Lib.hid (hkf.heap (hx5.obj HSET.out) (by simpa using hgp))
    have HX5 := Lib.hid hx5
    have HOF : Hid (OwnR RTr 13 85 M wd (we.setCell ⟨p, 3, none⟩ (.slice (some ⟨g5, 0, none⟩) s.under.length c5)) wd.heap.size (.slice (some ⟨g5, 0, none⟩) s.under.length c5) s.under) := Lib.hid ⟨css5, q1, q2, q3.kept hkf.grown1 (.inr (by simpa [Value.ownBlock] using fun e => hp5 e.symm)), q4⟩
    have HB5 := Lib.hid hb5
    clear hset hkf hrowp q1 q2 q3 q4 hg5 hx5 hb5
    go_wp2_with fail
    generalize we.setCell ⟨p, 3, none⟩ (.slice (some ⟨g5, 0, none⟩) s.under.length c5) = wf at *
    clear p3 pf
    obtain ⟨-, -, -, p3, -⟩ := rows4 HPF.out
    have hxf : Ext wf wf.drew := (Ext.refl _).drew
    refine wp_region_phase (S := fun w' => Ext wf w') 7 (by kernel_rfl) (by kernel_rfl) ?_ (fun hHeld => ?_)
    · exact hxf
    simp only [List.drop_succ_cons, List.drop_zero]
    refine name_head ?_
    intro wr0 hw0
    rw [hw0] at hHeld
    refine wpHead_take (i := 0) (v := ?_) (by rfl) (by kernel_rfl) (by kernel_rfl) (by exact fun _ _ _ h => h) (Or.inl ⟨by rfl, ?_⟩) (by assumption) ?_
    rotate_left
    · intro w hSw
      first | (go_simp; done) | (go_simp; with_reducible rfl)
    simp only [List.getElem_toArray, List.getElem_cons_zero, Act.put, List.setIfInBounds_toArray, List.set_cons_zero, List.set_cons_succ]
    refine wpHead_take (i := 1) (v := ?_) (by rfl) (by kernel_rfl) (by kernel_rfl) (by exact fun _ _ _ h => h) (Or.inl ⟨by rfl, ?_⟩) (by assumption) ?_
    rotate_left
    · intro w hSw
      first | (go_simp; done) | (go_simp; with_reducible rfl)
    simp only [List.getElem_toArray, List.getElem_cons_succ, List.getElem_cons_zero, Act.put, List.setIfInBounds_toArray, List.set_cons_zero, List.set_cons_succ]
    refine wpHead_take (i := 2) (v := ?_) (by rfl) (by kernel_rfl) (by kernel_rfl) (by exact fun _ _ _ h => h) (Or.inl ⟨by rfl, ?_⟩) (by assumption) ?_
    rotate_left
    · intro w hSw
      first | (go_simp; done) | (go_simp; with_reducible rfl)
    simp only [List.getElem_toArray, List.getElem_cons_succ, List.getElem_cons_zero, Act.put, List.setIfInBounds_toArray, List.set_cons_zero, List.set_cons_succ]
    refine wpHead_take (i := 3) (v := ?_) (by rfl) (by kernel_rfl) (by kernel_rfl) (by exact fun _ _ _ h => h) (Or.inl ⟨by rfl, ?_⟩) (by assumption) ?_
    rotate_left
    · intro w hSw
      first | (go_simp; done) | (go_simp; with_reducible rfl)
    simp only [List.getElem_toArray, List.getElem_cons_succ, List.getElem_cons_zero, Act.put, List.setIfInBounds_toArray, List.set_cons_zero, List.set_cons_succ]
    refine wpHead_take (i := 4) (v := ?_) (by rfl) (by kernel_rfl) (by kernel_rfl) (by exact fun _ _ _ h => h) (Or.inl ⟨by rfl, ?_⟩) (by assumption) ?_
    rotate_left
    · intro w hSw
      first | (go_simp; done) | (go_simp; with_reducible rfl)
    simp only [List.getElem_toArray, List.getElem_cons_succ, List.getElem_cons_zero, Act.put, List.setIfInBounds_toArray, List.set_cons_zero, List.set_cons_succ]
    refine wpHead_take (i := 5) (v := (.agg (trC { t with ack := t.ack ++ [(k : Int)] } (.slice A1 t.shards.length c1)).toArray)) (by rfl) (by kernel_rfl) (by kernel_rfl) (by exact fun _ _ _ h => h) (yieldsIf_load_mid (by rfl) 85 _ rfl gt 0 rfl (trC { t with ack := t.ack ++ [(k : Int)] } (.slice A1 t.shards.length c1)) _ (fun w' hx => (tr_range (hx.obj HTF.out)).1) Try.underlying85 rfl (tx_size rfl)) (by assumption) ?_
    simp only [List.getElem_toArray, List.getElem_cons_succ, List.getElem_cons_zero, Act.put, List.setIfInBounds_toArray, List.set_cons_zero, List.set_cons_succ]
    refine wpHead_take (i := 6) (v := ?_) (by rfl) (by kernel_rfl) (by kernel_rfl) (by exact fun _ _ _ h => h) (Or.inl ⟨by rfl, ?_⟩) (by assumption) ?_
    rotate_left
    · intro w hSw
      first | (go_simp; done) | (go_simp; with_reducible rfl)
    simp only [List.getElem_toArray, List.getElem_cons_succ, List.getElem_cons_zero, Act.put, List.setIfInBounds_toArray, List.set_cons_zero, List.set_cons_succ]
    refine wpHead_done (by kernel_rfl) ?_
    go_wp2_with (with_reducible first | refine stop_load 85 ?_ | refine stop_alloc 85 ?_ | refine stop_store 85 ?_ | refine stop_load 83 ?_)
    refine go_on (wpList_store_at rfl 85 _ _ rfl (o := i * 13) rfl rfl rfl (hHeld.obj HGF.out) (by rw [hsz5, trC_length]; omega) (tx_size rfl) (trC_one _ _ _ _) ?_)
    intro wg hWg hkg _
    have hxfd := hHeld
    have hkfg : Kept [g5] wf wg := (Kept.of_ext hxfd).trans hkg
    have hgt5 : ¬ gt = g5 := by have := HSZ.out; have := HB5.out; omega
    have HPG := Lib.hid (hkfg.heap HPF.out (by simpa using hp5))
    have HTG := Lib.hid (hkfg.heap HTF.out (by simpa using hgt5))
    have HKD : Hid (Kept [p] wd wg) := Lib.hid ((((Kept.of_ext HX5.out).trans HKF.out).mono (N := [p, g5]) (by intro k hk; simp at hk; simp [hk])).trans (hkfg.mono (by intro k hk; simp at hk; simp [hk])) |>.less (by intro k hk hlt; have := HB5.out; simp at hk; rcases hk with h | h; exact List.mem_singleton.2 h; exact absurd hlt (by omega)))
    have hi5 : ¬ w.heap.size = g5 := by have := HSZ.out; have := HB5.out; omega
    have HIG : Hid (TxAt wg w.heap.size id) := Lib.hid (hkfg.heap (HKF.out.heap (HX5.out.obj HID.out) (by simpa using hip)) (by simpa using hi5))
    have HKW : Hid (Kept [p] w wg) := Lib.hid ((Kept.of_ext HXD.out).trans HKD.out)
    have hpm : ∀ k ∈ [p], k ∈ M := by intro k hk; simp at hk; subst hk; exact hp
    have hsm : RTr.says M wd (trC { t with ack := t.ack ++ [(k : Int)] } (.slice A1 t.shards.length c1)) { t with ack := t.ack ++ [(k : Int)] } := ⟨A1, c1, rfl, HSM.out.kept (.of_ext HXD.out)⟩
    have hset := OwnR.set (W := wg) (HOF.out.ext hxfd) hi hsm (fun cur hc => by
      have e := (hxfd.obj HGF.out).symm.trans hc
      injection e with e
      injection e with e
      subst e
      exact hWg)
    have HCG : Hid (Co M wg p ⟨s.node, s.boot, s.next, s.under.set i { t with ack := t.ack ++ [(k : Int)] }⟩) := Lib.hid (co_own HPG.out hMd (hset.read (HKD.out.mono hpm)))
    have HSG : Hid (Sl wg A1 (ib t.shards)) := Lib.hid (HSM.out.kept (HKW.out.mono hpm)).sl
    clear hset hsm hWg hkg hkfg hHeld hxfd p3
    go_wp2_with (with_reducible first | refine stop_load 85 ?_ | refine stop_alloc 85 ?_ | refine stop_store 85 ?_ | refine stop_load 83 ?_)
    refine go_on (wpList_load_row rfl 85 _ rfl gt rfl 85 _ (0, 0) _ HTG.out Try.underlying85 rfl (by simpa using tx_size (trC_length { t with ack := t.ack ++ [(k : Int)] } (.slice A1 t.shards.length c1))) ?_)
    go_wp2_with (with_reducible first | refine stop_load 85 ?_ | refine stop_alloc 85 ?_ | refine stop_store 85 ?_ | refine stop_load 83 ?_)
    refine go_on (wpList_load_mid rfl 83 _ rfl gt 9 rfl (saidC (t.ack ++ [(k : Int)])) _ (tr_range HTG.out).2.2 Try.underlying83 rfl (said_size _) ?_)
    go_wp2_with fail
    refine (txall_any { t with ack := t.ack ++ [(k : Int)] } (t.ack ++ [(k : Int)]) A1 c1 wg HSG.out HRL.out (by simp only []; omega)).mono ?_
    rintro e wh ⟨rfl, hxh⟩
    simp only []
    have HCH := Lib.hid (HCG.out.ext hxh)
    have HKH := Lib.hid (HKW.out.ext hxh)
    have HIH : Hid (TxAt wh w.heap.size id) := Lib.hid (hxh.obj HIG.out)
    clear hxh
    by_cases hall : allIn t.shards (t.ack ++ [(k : Int)]) = true
    · rw [if_pos hall] at HV
      rw [hall]
      clear hall
      have hwk : w.heap.size ≤ wh.heap.size := HKH.out.size
      obtain ⟨t0, t1, t2, -⟩ := rows3 HIH.out
      have hx0h : Ext wh wh.drew := (Ext.refl _).drew
      clear t0 hx0
      go_wp2_with fail
      refine wp_region_phase (S := fun w' => Ext wh w') 7 (by kernel_rfl) (by kernel_rfl) ?_ (fun hHeld => ?_)
      · exact hx0h
      simp only [List.drop_succ_cons, List.drop_zero]
      refine name_head ?_
      intro wr0 hw0
      rw [hw0] at hHeld
      refine wpHead_take (i := 1) (v := ?_) (by rfl) (by kernel_rfl) (by kernel_rfl) (by exact fun _ _ _ h => h) (Or.inl ⟨by rfl, ?_⟩) (by assumption) ?_
      rotate_left
      · intro w hSw
        first | (go_simp; done) | (go_simp; with_reducible rfl)
      simp only [List.getElem_toArray, List.getElem_cons_succ, List.getElem_cons_zero, Act.put, List.setIfInBounds_toArray, List.set_cons_zero, List.set_cons_succ]
      refine wpHead_take (i := 2) (v := ?_) (by rfl) (by kernel_rfl) (by kernel_rfl) (by exact fun _ _ _ h => h) (Or.inl ⟨by rfl, ?_⟩) (by assumption) ?_
      rotate_left
      · intro w hSw
        first | (go_simp; done) | (go_simp; with_reducible rfl)
      simp only [List.getElem_toArray, List.getElem_cons_succ, List.getElem_cons_zero, Act.put, List.setIfInBounds_toArray, List.set_cons_zero, List.set_cons_succ]
      refine wpHead_take (i := 4) (v := ?_) (by rfl) (by kernel_rfl) (by kernel_rfl) (by exact fun _ _ _ h => h) (Or.inl ⟨by rfl, ?_⟩) (by assumption) ?_
      rotate_left
      · intro w hSw
        first | (go_simp; done) | (go_simp; with_reducible rfl)
      simp only [List.getElem_toArray, List.getElem_cons_succ, List.getElem_cons_zero, Act.put, List.setIfInBounds_toArray, List.set_cons_zero, List.set_cons_succ]
      refine wpHead_take (i := 5) (v := ?_) (by rfl) (by kernel_rfl) (by kernel_rfl) (by exact fun _ _ _ h => h) (Or.inl ⟨by rfl, ?_⟩) (by assumption) ?_
      rotate_left
      · intro w hSw
        first | (go_simp; done) | (go_simp; with_reducible rfl)
      simp only [List.getElem_toArray, List.getElem_cons_succ, List.getElem_cons_zero, Act.put, List.setIfInBounds_toArray, List.set_cons_zero, List.set_cons_succ]
      refine wpHead_ready (rs := [0]) (by kernel_rfl) (by simp) (by kernel_rfl) ?_
      refine AllHead.cons (by rfl) (fun K hK => ?_) ?_
      · go_simp
        refine name_world ?_
        rintro wrz hw0
        have hxn0 : Ext wr0 wrz := hw0 ▸ (Ext.refl _).alloc _
        have hrow0 : wrz.heap[wr0.heap.size]? = some (.cells #[.int .u8 3] 5) := hw0 ▸ heap_alloc_new wr0 _
        have ho0 : Own wrz wh.heap.size (.slice (some ⟨wr0.heap.size, 0, none⟩) 1 1) [3] := hw0 ▸ Own.new wr0 wh.heap.size _ [3] 1 rfl rfl hHeld.size (by simp [maxLen])
        refine hK.out _ _ ?_ (fun hHeld => ?_)
        · first | assumption | exact Ext.trans (by assumption) (by assumption) | exact Ext.trans hHeld (by assumption)
        clear hK K
        try simp only [List.getElem_toArray, List.getElem_cons_zero, Act.put, List.setIfInBounds_toArray, List.set_cons_zero, List.set_cons_succ]
        refine wpHead_ready (rs := [3]) (by kernel_rfl) (by simp) (by kernel_rfl) ?_
        refine AllHead.cons (by rfl) (fun K hK => ?_) ?_
        · refine step_callG (by rfl) (by kernel_rfl) (num_i wh _ _ _ id.boot 4 hb1 hHeld ho0 (by simp) (by omega)) ?_
          rintro e wr3 ⟨c4, rfl, ho4, hx4⟩
          refine ⟨_, rfl, ?_⟩
          refine hK.out _ _ ?_ (fun hHeld => ?_)
          · first | assumption | exact Ext.trans (by assumption) (by assumption) | exact Ext.trans hHeld (by assumption)
          clear hK K
          try simp only [List.getElem_toArray, List.getElem_cons_succ, List.getElem_cons_zero, Act.put, List.setIfInBounds_toArray, List.set_cons_zero, List.set_cons_succ]
          refine wpHead_ready (rs := [6]) (by kernel_rfl) (by simp) (by kernel_rfl) ?_
          refine AllHead.cons (by rfl) (fun K hK => ?_) ?_
          · refine step_callG (by rfl) (by kernel_rfl) (num_i wh _ _ _ id.n 4 hn1 hHeld ho4 (by simp) (by omega)) ?_
            rintro e wr6 ⟨c8, rfl, ho8, hx8⟩
            refine ⟨_, rfl, ?_⟩
            refine hK.out _ _ ?_ (fun hHeld => ?_)
            · first | assumption | exact Ext.trans (by assumption) (by assumption) | exact Ext.trans hHeld (by assumption)
            clear hK K
            try simp only [List.getElem_toArray, List.getElem_cons_succ, List.getElem_cons_zero, Act.put, List.setIfInBounds_toArray, List.set_cons_zero, List.set_cons_succ]
            refine wpHead_done (by kernel_rfl) ?_
            have HO9 : Hid (Own wr6 w.heap.size c8 (3 :: be4 id.boot ++ be4 id.n)) := Lib.hid (ho8.low hwk)
            have HCI := Lib.hid (HCH.out.ext hHeld)
            have HKI := Lib.hid (HKH.out.ext hHeld)
            clear ho0 ho4 ho8 hHeld
            go_wp2
            go_ret2
            rw [HV.out]
            exact ⟨_, rfl, HO9.out, HCI.out, HKI.out⟩
          exact AllHead.nil
        exact AllHead.nil
      exact AllHead.nil
    · rw [if_neg hall] at HV
      have hall : allIn t.shards (t.ack ++ [(k : Int)]) = false := by simpa using hall
      rw [hall]
      clear hall
      go_wp2
      go_ret2
      rw [HV.out]
      exact ⟨_, rfl, Own.nil _ _, HCH.out, HKH.out⟩
end Go.Proofs.Ytijopcdjlpafdaa
