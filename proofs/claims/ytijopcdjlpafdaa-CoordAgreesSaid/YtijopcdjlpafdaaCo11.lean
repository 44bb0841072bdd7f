/- A transaction in a row of the call's own is laid anew; the walk of coord.Vote. Conditions: the hypotheses of each theorem. -/
import Derived.Test.YtijopcdjlpafdaaCo9
namespace Go.Proofs.Ytijopcdjlpafdaa
open Go.RowKit
theorem hasI_snoc (l : List Int) (x y : Int) : hasI (l ++ [x]) y = (hasI l y || decide (x = y)) := by simp [hasI]
theorem trC_vote (t : Tr) (v : Value) (k : Nat) (hk : k ≤ 3) : (trC t v).set (5 + k) (.bool true) = trC { t with yes := t.yes ++ [(k : Int)] } v := by
  rcases k with _ | _ | _ | _ | k
  · simp [trC, hasI_snoc]
  · simp [trC, hasI_snoc]
  · simp [trC, hasI_snoc]
  · simp [trC, hasI_snoc]
  · omega
theorem trC_acked (t : Tr) (v : Value) (k : Nat) (hk : k ≤ 3) : (trC t v).set (9 + k) (.bool true) = trC { t with ack := t.ack ++ [(k : Int)] } v := by
  rcases k with _ | _ | _ | _ | k
  · simp [trC, hasI_snoc]
  · simp [trC, hasI_snoc]
  · simp [trC, hasI_snoc]
  · simp [trC, hasI_snoc]
  · omega
/-- a node whose list is a row of the call's own -/
theorem co_own {M : List Nat} {w : World} {p base n' c' : Nat} {a b c : Int} {A' : Option Addr} {us' : List Tr} (hr : w.heap[p]? = some (.cells #[.int .i64 a, .int .i64 b, .int .i64 c, .slice A' n' c'] 72 (0, 0))) (hM : ∀ k ∈ M, k < base)
    (ho : OwnR RTr 13 85 M w w base (.slice A' n' c') us') : Co M w p ⟨a, b, c, us'⟩ := by
  have hn := ho.cap.1
  subst hn
  exact ⟨A', c', hr, ho.rsm (Kept.refl _ _) hM⟩
theorem flatten_set {css : List (List Value)} (h : ∀ cs ∈ css, cs.length = 13) (i : Nat) (hi : i < css.length) (cs : List Value) :
    (css.set i cs).flatten = css.flatten.take (i * 13) ++ cs ++ css.flatten.drop (i * 13 + 13) := by
  rw [List.set_eq_take_append_cons_drop, if_pos hi, List.flatten_append, List.flatten_cons, flatten_take h, show i * 13 + 13 = (i + 1) * 13 by omega, flatten_drop h, List.append_assoc]
theorem OwnR.set {M : List Nat} {wr w W : World} {base g n c i : Nat} {xs : List Tr} {x : Tr} {cs : List Value} (h : OwnR RTr 13 85 M wr w base (.slice (some ⟨g, 0, none⟩) n c) xs) (hi : i < xs.length) (hs : RTr.says M wr cs x)
    (hW : ∀ cur : Array Value, w.heap[g]? = some (.cells cur 85 (0, 0)) → W.heap[g]? = some (.cells (cur.toList.take (i * 13) ++ cs ++ cur.toList.drop (i * 13 + cs.length)).toArray 85 (0, 0))) : OwnR RTr 13 85 M wr W base (.slice (some ⟨g, 0, none⟩) n c) (xs.set i x) := by
  obtain ⟨hc, _⟩ := RTr.cs13 hs
  obtain ⟨css, h1, h2, h3, h4⟩ := h
  rcases h3.2 with ⟨e, h0⟩ | ⟨g', cap', cur, e1, hb, hg, hnc, hcm, hsz, htk⟩
  · exact absurd h0 (by omega)
  injection e1 with e1 e2 e3
  injection e1 with e1
  injection e1 with e1
  subst e1 e2 e3
  have hl : css.flatten.length = xs.length * 13 := by rw [flatten_length h2, h1]
  refine ⟨css.set i cs, by simp [h1], ?_, ⟨?_, .inr ⟨g, c, _, by rw [List.length_set], hb, hW cur hg, by rw [List.length_set]; exact hnc, hcm, ?_, ?_⟩⟩, ?_⟩
  · intro d hd
    rcases List.mem_or_eq_of_mem_set hd with hd | rfl
    · exact h2 d hd
    · exact hc
  · rw [List.length_set, flatten_length (s := 13) (fun d hd => by
      rcases List.mem_or_eq_of_mem_set hd with hd | rfl
      · exact h2 d hd
      · exact hc), List.length_set, h1]
  · simp [hc]
    omega
  · simp only [List.length_set]
    rw [flatten_set h2 i (by omega) cs, ← htk, List.take_take, hc, List.drop_take]
    rw [List.take_append, List.length_append, List.length_take, Array.length_toList, hc, List.take_append, List.take_take, List.length_take, Array.length_toList]
    have e : ({ toList := xs } : Array Tr).size = xs.length := rfl
    rw [Nat.min_eq_left (show i * 13 ≤ cur.size by omega)]
    simp only [e]
    rw [show min (xs.length * 13) (i * 13) = i * 13 by omega, show min (i * 13) (xs.length * 13) = i * 13 by omega]
    rw [List.take_of_length_le (l := cs) (by omega)]
  · intro k d z hk hz
    rw [List.getElem?_set] at hk hz
    by_cases hik : i = k
    · subst hik
      rw [if_pos rfl, if_pos (by omega)] at hk
      rw [if_pos rfl, if_pos hi] at hz
      cases hk
      cases hz
      exact hs
    · rw [if_neg hik] at hk hz
      exact h4 k d z hk hz
theorem own_some {w : World} {base e s n m c : Nat} {A : Option Addr} {xs : List Value} (h : w.ownsRow base e s (.slice A m c) n xs) (hn : 0 < n) : ∃ g cur, A = some ⟨g, 0, none⟩ ∧ m = n ∧ base ≤ g ∧ w.heap[g]? = some (.cells cur e (0, 0)) ∧ n ≤ c ∧ cur.size = c * s := by
  rcases h.2 with ⟨e, h0⟩ | ⟨g, cap', cur, e1, hb, hg, hnc, _, hsz, _⟩
  · omega
  · injection e1 with e1 e2 e3
    subst e3
    exact ⟨g, cur, e1, e2, hb, hg, hnc, hsz⟩
/-- the cells of a transaction in a block of its own -/
theorem tr_cell {W : World} {g : Nat} {t : Tr} {v : Value} (h : W.heap[g]? = some (.cells (trC t v).toArray 85 (0, 0))) : ∀ j u, (trC t v)[j]? = some u → W.cell? ((⟨g, 0, none⟩ : Addr).add j) = some u := by
  intro j u hj
  rw [add0, cell_of_row _ _ _ _ _ _ h]
  simpa using hj
theorem tr_range {W : World} {g : Nat} {t : Tr} {v : Value} (h : W.heap[g]? = some (.cells (trC t v).toArray 85 (0, 0))) : W.rangeAt g 0 (trC t v) ∧ W.rangeAt g 5 (saidC t.yes) ∧ W.rangeAt g 9 (saidC t.ack) := by
  have h1 := said_range (tr_cell h)
  refine ⟨fun j u hj => ?_, by simpa using h1.1, by simpa using h1.2⟩
  have := tr_cell h j u hj
  rw [add0] at this
  simpa using this
theorem Kept.grown1 {g : Nat} {w w' : World} (h : Kept [g] w w') : w.grownBy w' (some g) :=
  ⟨h.os, h.tape, h.output, h.size, fun i hi hne => h.block i hi (by simp; exact fun e => hne (by rw [e]))⟩
set_option maxRecDepth 20000 in
set_option maxHeartbeats 4000000 in
theorem CVote_any {M : List Nat} {w : World} {p : Nat} {s : Cs} (h : Co M w p s) (hs : s.Ok) (hp : p ∈ M) (hM : ∀ k ∈ M, k < w.heap.size) (id : TxI) (shard : Int) (yes : Bool) :
    Calls Try.prog 11 #[pt p, .agg #[.int .i64 id.node, .int .i64 id.boot, .int .i64 id.n], .int .i64 shard, .bool yes] w fun e w' => ∃ v, e = .returned (.tuple #[v, .int .i64 (voteO s id shard yes).e]) ∧ Own w' w.heap.size v (voteO s id shard yes).r ∧ Co M w' p (voteO s id shard yes).s ∧ Kept [p] w w' := by
  have hfew : s.under.length ≤ 1000 := by have := hs.few; omega
  have HA := fun W (hx : Ext w W) => cat_any (h.ext hx) id false hfew
  have HCO := Lib.hid h
  have HM := Lib.hid hM
  have HPL := Lib.hid h.lt
  obtain ⟨A, cap, h⟩ := h
  obtain ⟨c0, c1, c2, c3, cf⟩ := rows4 h.row
  have HH := Lib.hid h
  clear h hM c0 c1 c2
  have hx0 := Ext.refl w
  cases hat : s.at_ id false with
  | none =>
    have HV : Hid (voteO s id shard yes = ⟨[], 9, s⟩) := Lib.hid (by unfold voteO; rw [hat])
    have ha : atV s id false = .tuple #[.int .i64 0, .int .i64 9] := by unfold atV; rw [hat]
    rw [ha] at HA
    clear ha hat
    unfold pt at *
    go_enter Try.func11, Try.ntmps11
    go_wp2_with fail
    generalize hw1 : w.alloc _ = wb
    have hxb : Ext w wb := hw1 ▸ (Ext.refl w).alloc _
    clear hw1
    refine (HA _ hxb).mono ?_
    rintro e w2 ⟨rfl, hx2⟩
    have HX := Lib.hid (hxb.trans hx2)
    clear HA hxb hx2
    go_wp2
    go_ret2
    rw [HV.out]
    exact ⟨_, rfl, Own.nil _ _, HCO.out.ext HX.out, .of_ext HX.out⟩
  | some i =>
    obtain ⟨hi, hid, hd, _⟩ := at_some hat
    have ha : atV s id false = .tuple #[.int .i64 i, .int .i64 0] := by unfold atV; rw [hat]
    rw [ha] at HA
    rw [row_eq hi] at hid hd
    have HV : Hid (voteO s id shard yes = if hasI s.under[i].shards shard = false then ⟨[], 2, s⟩
      else if yes = false then (if allIn s.under[i].shards s.under[i].yes then ⟨[], 13, s⟩ else ⟨[], 0, { s with under := s.under.eraseIdx i }⟩)
      else ⟨if allIn s.under[i].shards (s.under[i].yes ++ [shard]) then putD { s.under[i] with yes := s.under[i].yes ++ [shard] } else [], 0, { s with under := s.under.set i { s.under[i] with yes := s.under[i].yes ++ [shard] } }⟩) := Lib.hid (by unfold voteO; rw [hat]; simp only [row_eq hi])
    obtain ⟨ad, cs, rfl, _, _, hcell, A1, c1, rfl, hslM⟩ := HH.out.rs.at_ (by omega) hi
    have hok := hs.rows _ (List.getElem_mem hi)
    have hrl := rightF_mem hok.right
    have hlen := (rightF_len hok.right).2
    have hb1 := hok.boot1
    have hn1 := hok.n1
    generalize s.under[i] = t at *
    have hilt : (i : Int) < (s.under.length : Int) := by omega
    have HC := Lib.hid fun W (hx : Ext w W) (j : Nat) (v : Value) (hj : (trC t (.slice A1 t.shards.length c1))[j]? = some v) => hx.cell (show w.cell? ((ad.add (i * 13)).add j) = some v by rw [add_addB]; exact hcell j v hj)
    have HSM := Lib.hid hslM
    have HCT := fun W (hx : Ext w W) => icont_any shard A1 c1 t.shards W (hslM.sl.ext hx) (by omega)
    have HRL := Lib.hid hrl
    clear ha hat hok hid hd hcell hslM hrl
    unfold pt at *
    go_enter Try.func11, Try.ntmps11
    go_wp2_with fail
    generalize hw1 : w.alloc _ = wb
    have hxb : Ext w wb := hw1 ▸ (Ext.refl w).alloc _
    clear hw1
    refine (HA _ hxb).mono ?_
    rintro e w2 ⟨rfl, hx2⟩
    have hxw2 := hxb.trans hx2
    clear HA hxb hx2
    go_wp2_with (with_reducible first | refine stop_load 85 ?_ | refine stop_alloc 85 ?_ | refine stop_store 85 ?_ | refine stop_load 83 ?_)
    refine go_on (wpList_load_elem rfl 85 _ rfl (ad.add (i * 13)) rfl (trC t (.slice A1 t.shards.length c1)) _ (HC.out _ hxw2) Try.underlying85 rfl (tx_size rfl) ?_)
    go_wp2_with (with_reducible first | refine stop_load 85 ?_ | refine stop_alloc 85 ?_ | refine stop_store 85 ?_ | refine stop_load 83 ?_)
    refine go_on (wpList_alloc_ rfl rfl tx_info ?_)
    go_wp2_with (with_reducible first | refine stop_load 85 ?_ | refine stop_alloc 85 ?_ | refine stop_store 85 ?_ | refine stop_load 83 ?_)
    refine go_on (wpList_store_last rfl rfl rfl rfl (by simpa using tx_size (trC_length t (.slice A1 t.shards.length c1))) rfl (all_oneCell_toArray (trC_one _ _ _ _)) ?_)
    intro wc hrowc hxc _
    have hgw := hxw2.size
    have hgc := obj_lt hrowc
    generalize w2.heap.size = gt at *
    have hxwc := hxw2.trans hxc
    have HRC := Lib.hid hrowc
    have T3 : ∀ W, Ext wc W → W.cell? ⟨gt, 3, none⟩ = some (.slice A1 t.shards.length c1) := fun W hx => by rw [cell_of_row _ _ _ _ _ _ (hx.obj hrowc)]; rfl
    have hxcc := Ext.refl wc
    have HXC := Lib.hid hxwc
    clear hxw2 hxc hrowc
    go_wp2_with fail
    refine (HCT _ hxwc).mono ?_
    rintro e _ ⟨rfl, rfl⟩
    by_cases hhas : hasI t.shards shard = true; rotate_left
    · have HV2 : Hid (voteO s id shard yes = ⟨[], 2, s⟩) := Lib.hid (by rw [HV.out, if_pos (by simpa using hhas)])
      have hhas : hasI t.shards shard = false := by simpa using hhas
      rw [hhas]
      clear hhas
      go_wp2
      go_ret2
      rw [HV2.out]
      exact ⟨_, rfl, Own.nil _ _, HCO.out.ext HXC.out, .of_ext HXC.out⟩
    have HV := Lib.hid (HV.out.trans (if_neg (by simp [hhas])))
    obtain ⟨hk0, hk3⟩ := HRL.out _ (hasI_iff.1 hhas)
    rw [hhas]
    clear hhas HCT
    cases yes
    · have HV := Lib.hid (HV.out.trans (if_pos rfl))
      go_wp2_with (with_reducible first | refine stop_load 85 ?_ | refine stop_alloc 85 ?_ | refine stop_store 85 ?_ | refine stop_load 83 ?_)
      refine go_on (wpList_load_rowG (by rfl) 85 _ rfl gt rfl 85 _ (0, 0) _ HRC.out Try.underlying85 rfl (by simpa using tx_size (trC_length t (.slice A1 t.shards.length c1))) ?_)
      go_wp2_with (with_reducible first | refine stop_load 85 ?_ | refine stop_alloc 85 ?_ | refine stop_store 85 ?_ | refine stop_load 83 ?_)
      refine go_on (wpList_want (by rfl) (wp_load_mid 83 _ rfl gt 5 rfl (saidC t.yes) _ (tr_range HRC.out).2.1 Try.underlying83 rfl (said_size _) ?_))
      go_wp2_with fail
      refine (txall_any t t.yes A1 c1 wc (HSM.out.sl.ext HXC.out) HRL.out (by omega)).mono ?_
      rintro e w4 ⟨rfl, hx4⟩
      have HX4 := Lib.hid (HXC.out.trans hx4)
      clear hx4 T3 hxcc hxwc
      by_cases hall : allIn t.shards t.yes = true
      · have HV := Lib.hid (HV.out.trans (if_pos hall))
        rw [hall]
        clear hall
        go_wp2
        go_ret2
        rw [HV.out]
        exact ⟨_, rfl, Own.nil _ _, HCO.out.ext HX4.out, .of_ext HX4.out⟩
      · have HV := Lib.hid (HV.out.trans (if_neg hall))
        have hall : allIn t.shards t.yes = false := by simpa using hall
        rw [hall]
        have HRM := cremove_any (HCO.out.ext HX4.out) hp (fun k hk => Nat.lt_of_lt_of_le (HM.out k hk) HX4.out.size) i hi hfew
        unfold pt at HRM
        clear hall
        go_wp2_with fail
        refine HRM.mono ?_
        rintro e w3 ⟨rfl, hco3, hk3⟩
        have HC3 := Lib.hid hco3
        have HK3 := Lib.hid ((Kept.of_ext HX4.out).trans hk3)
        clear hco3 hk3
        go_wp2
        go_ret2
        rw [HV.out]
        exact ⟨_, rfl, Own.nil _ _, HC3.out, HK3.out⟩
    · have HV := Lib.hid (HV.out.trans (if_neg (by simp)))
      obtain ⟨k, rfl⟩ := Int.eq_ofNat_of_zero_le hk0
      have hk3 : k ≤ 3 := by omega
      have hk4 : (k : Int) < 4 := by omega
      have HTN : Hid ((trC t (.slice A1 t.shards.length c1)).set (5 + k) (.bool true) = trC { t with yes := t.yes ++ [(k : Int)] } (.slice A1 t.shards.length c1)) := Lib.hid (trC_vote t _ k hk3)
      have T5 : wc.cell? ⟨gt, 5 + k, none⟩ = some (.bool (hasI t.yes k)) := by
        have := tr_cell HRC.out (5 + k) _ (trC_said t _ (saidC_get t.yes hk3))
        rwa [add0] at this
      have TF : ∀ j, wc.frozen? ⟨gt, j, none⟩ = false := fun j => frozen_of_row wc gt j _ _ HRC.out
      have c3c := c3 _ hxwc
      have hgp : ¬ gt = p := by have := HPL.out; omega
      have hset : (wc.setCell ⟨gt, 5 + k, none⟩ (.bool true)).heap[gt]? = some (.cells (trC { t with yes := t.yes ++ [(k : Int)] } (.slice A1 t.shards.length c1)).toArray 85 (0, 0)) := by
        have := heap_setCell_same wc gt (5 + k) _ _ (.bool true) HRC.out
        rw [← HTN.out]
        simpa using this
      have hkd : Kept [gt] wc (wc.setCell ⟨gt, 5 + k, none⟩ (.bool true)) := (Kept.refl _ _).setCell (.inl (by simp)) _
      have HSET := Lib.hid hset
      have HXD : Hid (Ext w (wc.setCell ⟨gt, 5 + k, none⟩ (.bool true))) := Lib.hid (HXC.out.kept hkd (one_ge hgw))
      have HSZ : Hid (gt < (wc.setCell ⟨gt, 5 + k, none⟩ (.bool true)).heap.size) := Lib.hid (obj_lt hset)
      clear hset hkd hk0 T3 hxcc c3 cf hxwc
      go_wp2_with fail
      generalize wc.setCell ⟨gt, 5 + k, none⟩ (.bool true) = wd at *
      clear T5 TF c3c
      have hMd : ∀ k ∈ M, k < wd.heap.size := fun k hk => Nat.lt_of_lt_of_le (HM.out k hk) HXD.out.size
      refine (tclone_any (some ad) cap s.under M wd wd (HH.out.rs.kept (.of_ext HXD.out)) (Ext.refl _) (by omega)).mono ?_
      rintro e we ⟨v5, rfl, ho5, hx5⟩
      obtain ⟨A5, c5, rfl⟩ := ho5.form
      obtain ⟨css5, q1, q2, q3, q4⟩ := ho5
      obtain ⟨g5, cur5, rfl, -, hb5, hg5, hnc5, hsz5⟩ := own_some q3 (by omega)
      have hp5 : ¬ p = g5 := by have := HPL.out; have := HXD.out.size; omega
      have hrowp := (HXD.out.trans hx5).obj HH.out.row
      obtain ⟨-, -, -, p3, pf⟩ := row4_at hrowp
      have hset := heap_setCell_same we p 3 _ _ (.slice (some ⟨g5, 0, none⟩) s.under.length c5) hrowp
      have hkf : Kept [p] we (we.setCell ⟨p, 3, none⟩ (.slice (some ⟨g5, 0, none⟩) s.under.length c5)) := (Kept.refl _ _).setCell (.inl (by simp)) _
      have HPF : Hid ((we.setCell ⟨p, 3, none⟩ (.slice (some ⟨g5, 0, none⟩) s.under.length c5)).heap[p]? = some (.cells #[.int .i64 s.node, .int .i64 s.boot, .int .i64 s.next, .slice (some ⟨g5, 0, none⟩) s.under.length c5] 72 (0, 0))) := Lib.hid (by simpa using hset)
      have HKF := Lib.hid hkf
      have HGF := Lib.hid (hkf.heap hg5 (by simpa using fun e => hp5 e.symm))
      have HTF := Lib.hid (hkf.heap (hx5.obj HSET.out) (by simpa using hgp))
      have HX5 := Lib.hid hx5
      have HOF : Hid (OwnR RTr 13 85 M wd (we.setCell ⟨p, 3, none⟩ (.slice (some ⟨g5, 0, none⟩) s.under.length c5)) wd.heap.size (.slice (some ⟨g5, 0, none⟩) s.under.length c5) s.under) := Lib.hid ⟨css5, q1, q2, q3.kept hkf.grown1 (.inr (by simpa [Value.ownBlock] using fun e => hp5 e.symm)), q4⟩
      have HB5 := Lib.hid hb5
      clear hset hkf hrowp q1 q2 q3 q4 hg5 hx5 hb5
      go_wp2_with fail
      generalize we.setCell ⟨p, 3, none⟩ (.slice (some ⟨g5, 0, none⟩) s.under.length c5) = wf at *
      clear p3 pf
      obtain ⟨-, -, -, p3, -⟩ := rows4 HPF.out
      have hxf : Ext wf wf.drew := (Ext.refl _).drew
      refine wp_region_phase (S := fun w' => Ext wf w') 7 (by kernel_rfl) (by kernel_rfl) ?_ (fun hHeld => ?_)
      · exact hxf
      simp only [List.drop_succ_cons, List.drop_zero]
      refine name_head ?_
      intro wr0 hw0
      rw [hw0] at hHeld
      refine wpHead_take (i := 0) (v := ?_) (by rfl) (by kernel_rfl) (by kernel_rfl) (by exact fun _ _ _ h => h) (Or.inl ⟨by rfl, ?_⟩) (by assumption) ?_
      rotate_left
      · intro w hSw
        first | (go_simp; done) | (go_simp; with_reducible rfl)
      simp only [List.getElem_toArray, List.getElem_cons_zero, Act.put, List.setIfInBounds_toArray, List.set_cons_zero, List.set_cons_succ]
      refine wpHead_take (i := 1) (v := ?_) (by rfl) (by kernel_rfl) (by kernel_rfl) (by exact fun _ _ _ h => h) (Or.inl ⟨by rfl, ?_⟩) (by assumption) ?_
      rotate_left
      · intro w hSw
        first | (go_simp; done) | (go_simp; with_reducible rfl)
      simp only [List.getElem_toArray, List.getElem_cons_succ, List.getElem_cons_zero, Act.put, List.setIfInBounds_toArray, List.set_cons_zero, List.set_cons_succ]
      refine wpHead_take (i := 2) (v := ?_) (by rfl) (by kernel_rfl) (by kernel_rfl) (by exact fun _ _ _ h => h) (Or.inl ⟨by rfl, ?_⟩) (by assumption) ?_
      rotate_left
      · intro w hSw
        first | (go_simp; done) | (go_simp; with_reducible rfl)
      simp only [List.getElem_toArray, List.getElem_cons_succ, List.getElem_cons_zero, Act.put, List.setIfInBounds_toArray, List.set_cons_zero, List.set_cons_succ]
      refine wpHead_take (i := 3) (v := ?_) (by rfl) (by kernel_rfl) (by kernel_rfl) (by exact fun _ _ _ h => h) (Or.inl ⟨by rfl, ?_⟩) (by assumption) ?_
      rotate_left
      · intro w hSw
        first | (go_simp; done) | (go_simp; with_reducible rfl)
      simp only [List.getElem_toArray, List.getElem_cons_succ, List.getElem_cons_zero, Act.put, List.setIfInBounds_toArray, List.set_cons_zero, List.set_cons_succ]
      refine wpHead_take (i := 4) (v := ?_) (by rfl) (by kernel_rfl) (by kernel_rfl) (by exact fun _ _ _ h => h) (Or.inl ⟨by rfl, ?_⟩) (by assumption) ?_
      rotate_left
      · intro w hSw
        first | (go_simp; done) | (go_simp; with_reducible rfl)
      simp only [List.getElem_toArray, List.getElem_cons_succ, List.getElem_cons_zero, Act.put, List.setIfInBounds_toArray, List.set_cons_zero, List.set_cons_succ]
      refine wpHead_take (i := 5) (v := (.agg (trC { t with yes := t.yes ++ [(k : Int)] } (.slice A1 t.shards.length c1)).toArray)) (by rfl) (by kernel_rfl) (by kernel_rfl) (by exact fun _ _ _ h => h) (yieldsIf_load_mid (by rfl) 85 _ rfl gt 0 rfl (trC { t with yes := t.yes ++ [(k : Int)] } (.slice A1 t.shards.length c1)) _ (fun w' hx => (tr_range (hx.obj HTF.out)).1) Try.underlying85 rfl (tx_size rfl)) (by assumption) ?_
      simp only [List.getElem_toArray, List.getElem_cons_succ, List.getElem_cons_zero, Act.put, List.setIfInBounds_toArray, List.set_cons_zero, List.set_cons_succ]
      refine wpHead_take (i := 6) (v := ?_) (by rfl) (by kernel_rfl) (by kernel_rfl) (by exact fun _ _ _ h => h) (Or.inl ⟨by rfl, ?_⟩) (by assumption) ?_
      rotate_left
      · intro w hSw
        first | (go_simp; done) | (go_simp; with_reducible rfl)
      simp only [List.getElem_toArray, List.getElem_cons_succ, List.getElem_cons_zero, Act.put, List.setIfInBounds_toArray, List.set_cons_zero, List.set_cons_succ]
      refine wpHead_done (by kernel_rfl) ?_
      go_wp2_with (with_reducible first | refine stop_load 85 ?_ | refine stop_alloc 85 ?_ | refine stop_store 85 ?_ | refine stop_load 83 ?_)
      refine go_on (wpList_store_at rfl 85 _ _ rfl (o := i * 13) rfl rfl rfl (hHeld.obj HGF.out) (by rw [hsz5, trC_length]; omega) (tx_size rfl) (trC_one _ _ _ _) ?_)
      intro wg hWg hkg _
      have hxfd := hHeld
      have hkfg : Kept [g5] wf wg := (Kept.of_ext hxfd).trans hkg
      have hgt5 : ¬ gt = g5 := by have := HSZ.out; have := HB5.out; omega
      have HPG := Lib.hid (hkfg.heap HPF.out (by simpa using hp5))
      have HTG := Lib.hid (hkfg.heap HTF.out (by simpa using hgt5))
      have HKD : Hid (Kept [p] wd wg) := Lib.hid ((((Kept.of_ext HX5.out).trans HKF.out).mono (N := [p, g5]) (by intro k hk; simp at hk; simp [hk])).trans (hkfg.mono (by intro k hk; simp at hk; simp [hk])) |>.less (by intro k hk hlt; have := HB5.out; simp at hk; rcases hk with h | h; exact List.mem_singleton.2 h; exact absurd hlt (by omega)))
      have HKW : Hid (Kept [p] w wg) := Lib.hid ((Kept.of_ext HXD.out).trans HKD.out)
      have hpm : ∀ k ∈ [p], k ∈ M := by intro k hk; simp at hk; subst hk; exact hp
      have hsm : RTr.says M wd (trC { t with yes := t.yes ++ [(k : Int)] } (.slice A1 t.shards.length c1)) { t with yes := t.yes ++ [(k : Int)] } := ⟨A1, c1, rfl, HSM.out.kept (.of_ext HXD.out)⟩
      have hset := OwnR.set (W := wg) (HOF.out.ext hxfd) hi hsm (fun cur hc => by
        have e := (hxfd.obj HGF.out).symm.trans hc
        injection e with e
        injection e with e
        subst e
        exact hWg)
      have HCG : Hid (Co M wg p ⟨s.node, s.boot, s.next, s.under.set i { t with yes := t.yes ++ [(k : Int)] }⟩) := Lib.hid (co_own HPG.out hMd (hset.read (HKD.out.mono hpm)))
      have HSG : Hid (Sl wg A1 (ib t.shards)) := Lib.hid (HSM.out.kept (HKW.out.mono hpm)).sl
      clear hset hsm hWg hkg hkfg hHeld hxfd p3
      go_wp2_with (with_reducible first | refine stop_load 85 ?_ | refine stop_alloc 85 ?_ | refine stop_store 85 ?_ | refine stop_load 83 ?_)
      refine go_on (wpList_load_row rfl 85 _ rfl gt rfl 85 _ (0, 0) _ HTG.out Try.underlying85 rfl (by simpa using tx_size (trC_length { t with yes := t.yes ++ [(k : Int)] } (.slice A1 t.shards.length c1))) ?_)
      go_wp2_with (with_reducible first | refine stop_load 85 ?_ | refine stop_alloc 85 ?_ | refine stop_store 85 ?_ | refine stop_load 83 ?_)
      refine go_on (wpList_load_mid rfl 83 _ rfl gt 5 rfl (saidC (t.yes ++ [(k : Int)])) _ (tr_range HTG.out).2.1 Try.underlying83 rfl (said_size _) ?_)
      go_wp2_with fail
      refine (txall_any { t with yes := t.yes ++ [(k : Int)] } (t.yes ++ [(k : Int)]) A1 c1 wg HSG.out HRL.out (by simp only []; omega)).mono ?_
      rintro e wh ⟨rfl, hxh⟩
      simp only []
      have HCH := Lib.hid (HCG.out.ext hxh)
      have HKH := Lib.hid (HKW.out.ext hxh)
      have HTH := Lib.hid (hxh.obj HTG.out)
      have HSH := Lib.hid (HSG.out.ext hxh)
      clear hxh
      by_cases hall : allIn t.shards (t.yes ++ [(k : Int)]) = true
      · rw [if_pos hall] at HV
        rw [hall]
        clear hall
        go_wp2_with (with_reducible first | refine stop_load 85 ?_ | refine stop_alloc 85 ?_ | refine stop_store 85 ?_ | refine stop_load 83 ?_)
        refine go_on (wpList_load_row rfl 85 _ rfl gt rfl 85 _ (0, 0) _ HTH.out Try.underlying85 rfl (by simpa using tx_size (trC_length { t with yes := t.yes ++ [(k : Int)] } (.slice A1 t.shards.length c1))) ?_)
        go_wp2_with fail
        refine (cput_any { t with yes := t.yes ++ [(k : Int)] } A1 c1 wh HSH.out HRL.out (by simp only []; omega) (by simp only []; omega) (by simp only []; omega)).mono ?_
        rintro e wi ⟨v9, rfl, ho9, hx9⟩
        have HO9 := Lib.hid (ho9.low HKH.out.size)
        have HCI := Lib.hid (HCH.out.ext hx9)
        have HKI := Lib.hid (HKH.out.ext hx9)
        clear ho9 hx9
        go_wp2
        go_ret2
        rw [HV.out]
        exact ⟨_, rfl, HO9.out, HCI.out, HKI.out⟩
      · rw [if_neg hall] at HV
        have hall : allIn t.shards (t.yes ++ [(k : Int)]) = false := by simpa using hall
        rw [hall]
        clear hall
        go_wp2
        go_ret2
        rw [HV.out]
        exact ⟨_, rfl, Own.nil _ _, HCH.out, HKH.out⟩
end Go.Proofs.Ytijopcdjlpafdaa
