/- The walks of the reference's Drop and Ask. Conditions: the hypotheses of each theorem. -/
import Derived.Test.YtijopcdjlpafdaaC2
import Derived.Test.YtijopcdjlpafdaaRCo5M
namespace Go.Proofs.Ytijopcdjlpafdaa
open Go.RowKit
set_option maxRecDepth 20000 in
set_option maxHeartbeats 8000000 in
theorem RDrop_any {M : List Nat} {w : World} {q : Nat} {s : Cs} (h : Rc M w q s) (hs : s.Ok) (hf : s.Few 1000) (hq : q ∈ M) (hM : ∀ k ∈ M, k < w.heap.size) (id : TxI) :
 Calls Try.prog 45 #[pt q, .agg #[.int .i64 id.node, .int .i64 id.boot, .int .i64 id.n]] w fun e w' => e = .returned (.int .i64 (dropO s id).1) ∧ Rc M w' q (dropO s id).2 ∧ Kept [q] w w' := by
 have hfew : s.under.length ≤ 1000 := by have := hs.few; omega
 have HF := fun W (hx : Ext w W) => rfind_any (h.ext hx) id hfew
 have HSET := fun W (hx : Ext w W) (i : Nat) (hi : i < s.under.length) A2 c2 ys (h2 : RsM RRr 7 M W A2 ys) (hy : ys.length ≤ 1000) => rset_any (h.ext hx) hq (fun k hk => Nat.lt_of_lt_of_le (hM k hk) hx.size) i hi A2 c2 ys h2 hfew hy
 have HCO := Lib.hid h
 have HS := Lib.hid hs
 have HFW := Lib.hid hf
 obtain ⟨A, cap, h⟩ := h
 obtain ⟨c0, c1, c2, c3, cf⟩ := rows4 h.row
 have HRS := Lib.hid h.rs
 clear h c0 c1 c2 cf hs hf hM
 unfold pt at *
 obtain ⟨wa, hwa⟩ : ∃ wa, wa = w.alloc (.cells #[.int .i64 id.node, .int .i64 id.boot, .int .i64 id.n] 35) := ⟨_, rfl⟩
 have hxa : Ext w wa := by rw [hwa]; exact (Ext.refl w).alloc _
 have hrow : wa.heap[w.heap.size]? = some (.cells #[.int .i64 id.node, .int .i64 id.boot, .int .i64 id.n] 35 (0, 0)) := by rw [hwa]; exact heap_alloc_new w _
 have HT5 := Lib.hid hrow
 have hwaA := hwa.symm
 clear hwa hrow
 go_enter Try.func45, Try.ntmps45
 go_wp2_with (with_reducible refine sL 35 ?_)
 clear hwaA
 obtain ⟨g5, hg5⟩ : ∃ g, g = w.heap.size := ⟨_, rfl⟩
 rw [← hg5] at HT5 ⊢
 clear hg5
 refine go_on (wpList_load_row rfl 35 _ rfl g5 rfl 35 _ (0, 0) _ HT5.out Try.underlying35 rfl (apitx_size _ _ _) ?_)
 go_wp2_with fail
 refine (HF _ hxa).mono ?_
 rintro e w2 ⟨rfl, hx2⟩
 replace hxa := hxa.trans hx2
 have c3a := c3 w2 hxa
 clear hx2 HT5
 cases hfi : findT s.under id with
 | none =>
  have HV : Hid (dropO s id = (9, s)) := Lib.hid (by unfold dropO Cs.at_; rw [hfi])
  have hm : idI none = -1 := rfl
  rw [hm]
  clear hm hfi c3
  clear HSET HF
  go_wp2
  go_ret
  rw [HV.out]
  exact ⟨rfl, HCO.out.ext hxa, .of_ext hxa⟩
 | some i =>
  obtain ⟨hi, hid⟩ := findT_some hfi
  have hm : idI (some i) = (i : Int) := rfl
  rw [hm]
  obtain ⟨ad, A0, d0, A1, d1, A2, d2, rfl, hs0, hs1, hs2, hcell⟩ := HRS.out.rr hi
  have hok := HS.out.rows _ (List.getElem_mem hi)
  have hfw := HFW.out _ (List.getElem_mem hi)
  have HAT := Lib.hid (fun d => at_of (s := s) (d := d) hfi hi)
  have HRO := Lib.hid (row_of hi)
  have hnneg : ¬ (i : Int) < 0 := by omega
  have hilt : (i : Int) < (s.under.length : Int) := by omega
  have hc4 : w2.cell? ((ad.add (i * 7)).add 4) = some (.bool s.under[i].done) := hcell w2 hxa 4 _ rfl
  rw [add_pos'] at hc4
  clear hm hfi hid
  generalize htt : s.under[i] = t at *
  clear htt
  cases hdd : t.done with
  | true =>
   have HV : Hid (dropO s id = (9, s)) := Lib.hid (by unfold dropO; rw [HAT.out, if_neg (by rw [hdd]; simp)])
   rw [hdd] at hc4
   clear hcell hs0 hs1 hs2 hok hfw hdd HAT HRO c3
   clear HSET HF
   go_wp2
   go_ret
   rw [HV.out]
   exact ⟨rfl, HCO.out.ext hxa, .of_ext hxa⟩
  | false =>
   rw [hdd] at hc4
   have HV : Hid (dropO s id = if allIn t.shards t.yes then (13, s) else (0, { s with under := s.under.eraseIdx i })) := Lib.hid (by unfold dropO; rw [HAT.out, if_pos hdd]; simp only; rw [HRO.out])
   have hy1 := hfw.1
   have hsl : t.shards.length ≤ 4 := (rightF_len hok.right).2
   have HH0 := Lib.hid hs0
   have HH1 := Lib.hid hs1
   have g3 : ∀ W, Ext w W → W.cell? ⟨(ad.add (i * 7)).block, (ad.add (i * 7)).off + 3, none⟩ = some (.slice A0 t.shards.length d0) := fun W hx => by
    have := hcell W hx 3 _ rfl
    rwa [add_pos'] at this
   have g5' : ∀ W, Ext w W → W.cell? ⟨(ad.add (i * 7)).block, (ad.add (i * 7)).off + 5, none⟩ = some (.slice A1 t.yes.length d1) := fun W hx => by
    have := hcell W hx 5 _ rfl
    rwa [add_pos'] at this
   have hxd := hxa.drew
   have HXA := Lib.hid hxa
   have hi1000 : i < 1000 := by omega
   clear hcell hs0 hs1 hs2 hok hfw hdd HAT HRO HF hxa
   go_wp2_with fail
   refine wp_region_phase (S := fun w' => Ext w w') 16 (by kernel_rfl) (by kernel_rfl) ?_ (fun hHeld => ?_)
   ·exact hxd
   simp only [List.drop_succ_cons, List.drop_zero]
   refine name_head ?_
   intro wr0 hw0
   rw [hw0] at hHeld
   refine wt 0 _ ?_
   simp only [red, Act.put]
   refine wt 1 _ ?_
   simp only [red, Act.put]
   refine wt 2 _ ?_
   simp only [red, Act.put]
   refine wt 3 _ ?_
   simp only [red, Act.put]
   refine wt 4 _ ?_
   simp only [red, Act.put]
   refine wt 5 _ ?_
   simp only [red, Act.put]
   refine wt 6 _ ?_
   simp only [red, Act.put]
   refine wt 7 _ ?_
   simp only [red, Act.put]
   refine wt 8 _ ?_
   simp only [red, Act.put]
   refine wt 9 _ ?_
   simp only [red, Act.put]
   refine wt 10 _ ?_
   simp only [red, Act.put]
   refine wt 11 _ ?_
   simp only [red, Act.put]
   refine wt 12 _ ?_
   simp only [red, Act.put]
   refine wt 13 _ ?_
   simp only [red, Act.put]
   refine wt 14 _ ?_
   simp only [red, Act.put]
   refine wt 15 _ ?_
   simp only [red, Act.put]
   refine wpHead_done (by kernel_rfl) ?_
   have HXJ := Lib.hid hHeld
   have c3j := c3 wr0 hHeld
   generalize wr0 = wj at *
   have HAL := rall_any wj A0 d0 t.shards A1 d1 t.yes (HH0.out.sl.ext HXJ.out) (HH1.out.sl.ext HXJ.out) (by omega) (by omega)
   clear hxd hHeld c3 g3 g5' c3a hc4
   cases hall : allIn t.shards t.yes with
   | true =>
    rw [hall] at HAL HV
    rw [if_pos rfl] at HV
    clear HSET
    go_wp2_with fail
    refine HAL.mono ?_
    rintro e _ ⟨rfl, rfl⟩
    go_wp2
    go_ret
    rw [HV.out]
    exact ⟨rfl, HCO.out.ext HXJ.out, .of_ext HXJ.out⟩
   | false =>
    rw [hall] at HAL HV
    rw [if_neg (by simp)] at HV
    have HS2 := HSET wj HXJ.out i hi none 0 [] (RsM.nil _ _ _ _ _) (by simp)
    rw [erase_cut] at HS2
    clear HSET
    go_wp2_with fail
    refine HAL.mono ?_
    rintro e _ ⟨rfl, rfl⟩
    go_wp2_with fail
    refine HS2.mono ?_
    rintro e w5 ⟨rfl, hr5, hk5⟩
    have HR5 := Lib.hid hr5
    have HK5 := Lib.hid ((Kept.of_ext (M := [q]) HXJ.out).trans hk5)
    clear HS2 hr5 hk5
    go_wp2
    go_ret
    rw [HV.out]
    exact ⟨rfl, HR5.out, HK5.out⟩
set_option maxRecDepth 20000 in
set_option maxHeartbeats 8000000 in
theorem RAsk_any {M : List Nat} {w : World} {q : Nat} {s : Cs} (h : Rc M w q s) (id : TxI) (hfew : s.under.length ≤ 1000) :
 Calls Try.prog 48 #[pt q, .agg #[.int .i64 id.node, .int .i64 id.boot, .int .i64 id.n]] w fun e w' => e = .returned (.int .i64 (askF s id)) ∧ Ext w w' := by
 have HF := fun W (hx : Ext w W) => rfind_any (h.ext hx) id hfew
 obtain ⟨A, cap, h⟩ := h
 obtain ⟨c0, c1, c2, c3, cf⟩ := rows4 h.row
 have HRS := Lib.hid h.rs
 clear h cf
 unfold pt at *
 obtain ⟨wa, hwa⟩ : ∃ wa, wa = w.alloc (.cells #[.int .i64 id.node, .int .i64 id.boot, .int .i64 id.n] 35) := ⟨_, rfl⟩
 have hxa : Ext w wa := by rw [hwa]; exact (Ext.refl w).alloc _
 have hrow : wa.heap[w.heap.size]? = some (.cells #[.int .i64 id.node, .int .i64 id.boot, .int .i64 id.n] 35 (0, 0)) := by rw [hwa]; exact heap_alloc_new w _
 have HT5 := Lib.hid hrow
 have hwaA := hwa.symm
 obtain ⟨b0, b1, b2, bf⟩ := rows3 hrow
 replace c0 := fun W (hx : Ext wa W) => c0 W (hxa.trans hx)
 replace c1 := fun W (hx : Ext wa W) => c1 W (hxa.trans hx)
 replace c2 := fun W (hx : Ext wa W) => c2 W (hxa.trans hx)
 clear hwa hrow bf
 go_enter Try.func48, Try.ntmps48
 go_wp2_with fail
 clear hwaA
 obtain ⟨g5, hg5⟩ : ∃ g, g = w.heap.size := ⟨_, rfl⟩
 rw [← hg5] at HT5 b0 b1 b2 ⊢
 clear hg5
 have hxd : Ext wa wa.drew := (Ext.refl wa).drew
 have hno : id.node ≠ s.node ∨ id.boot < 1 ∨ s.boot < id.boot ∨ id.n < 1 ∨ (id.boot = s.boot ∧ s.next ≤ id.n) → Hid (askF s id = 0) := fun h => Lib.hid (by unfold askF; rw [if_pos h])
 have hon : ¬ (id.node ≠ s.node ∨ id.boot < 1 ∨ s.boot < id.boot ∨ id.n < 1 ∨ (id.boot = s.boot ∧ s.next ≤ id.n)) → Hid (askF s id = match findT s.under id with | none => 2 | some i => if (s.row i).done then 1 else 0) := fun h => Lib.hid (by unfold askF; rw [if_neg h]; cases findT s.under id <;> rfl)
 by_cases h1 : id.node ≠ s.node
 ·have HV := hno (.inl h1)
  have k1 : (id.node != s.node) = true := by simpa using h1
  clear h1 hno hon
  refine wp_region_phase (S := fun w' => Ext wa w') 47 (by kernel_rfl) (by kernel_rfl) ?_ (fun hHeld => ?_)
  ·exact hxd
  simp only [List.drop_succ_cons, List.drop_zero]
  refine name_head ?_
  intro wr0 hw0
  rw [hw0] at hHeld
  refine wt 0 _ ?_
  simp only [red, Act.put]
  refine wt 1 _ ?_
  simp only [red, Act.put]
  refine wt 2 _ ?_
  simp only [red, Act.put]
  refine wt 3 _ ?_
  simp only [red, Act.put]
  refine wt 4 _ ?_
  simp only [red, Act.put]
  refine wt 5 _ ?_
  simp only [red, Act.put]
  refine wt 6 _ ?_
  simp only [red, Act.put]
  refine wt 7 _ ?_
  simp only [red, Act.put]
  refine wt 8 _ ?_
  simp only [red, Act.put]
  refine wt 9 _ ?_
  simp only [red, Act.put]
  refine wt 10 _ ?_
  simp only [red, Act.put]
  refine wt 11 _ ?_
  simp only [red, Act.put]
  refine ws 12 ?_
  simp only [red, Act.put]
  refine ws 13 ?_
  simp only [red, Act.put]
  refine ws 14 ?_
  simp only [red, Act.put]
  refine wt 15 _ ?_
  simp only [red, Act.put]
  refine wt 16 _ ?_
  simp only [red, Act.put]
  refine ws 17 ?_
  simp only [red, Act.put]
  refine ws 18 ?_
  simp only [red, Act.put]
  refine ws 19 ?_
  simp only [red, Act.put]
  refine ws 20 ?_
  simp only [red, Act.put]
  refine ws 21 ?_
  simp only [red, Act.put]
  refine ws 22 ?_
  simp only [red, Act.put]
  refine ws 23 ?_
  simp only [red, Act.put]
  refine wt 24 _ ?_
  simp only [red, Act.put]
  refine wt 25 _ ?_
  simp only [red, Act.put]
  refine ws 26 ?_
  simp only [red, Act.put]
  refine ws 27 ?_
  simp only [red, Act.put]
  refine ws 28 ?_
  simp only [red, Act.put]
  refine wt 29 _ ?_
  simp only [red, Act.put]
  refine wt 30 _ ?_
  simp only [red, Act.put]
  refine ws 31 ?_
  simp only [red, Act.put]
  refine ws 32 ?_
  simp only [red, Act.put]
  refine ws 33 ?_
  simp only [red, Act.put]
  refine ws 34 ?_
  simp only [red, Act.put]
  refine ws 35 ?_
  simp only [red, Act.put]
  refine ws 36 ?_
  simp only [red, Act.put]
  refine ws 37 ?_
  simp only [red, Act.put]
  refine ws 38 ?_
  simp only [red, Act.put]
  refine ws 39 ?_
  simp only [red, Act.put]
  refine ws 40 ?_
  simp only [red, Act.put]
  refine ws 41 ?_
  simp only [red, Act.put]
  refine ws 42 ?_
  simp only [red, Act.put]
  refine ws 43 ?_
  simp only [red, Act.put]
  refine ws 44 ?_
  simp only [red, Act.put]
  refine ws 45 ?_
  simp only [red, Act.put]
  refine ws 46 ?_
  simp only [red, Act.put]
  refine wpHead_done (by kernel_rfl) ?_
  have HXJ := Lib.hid (hxa.trans hHeld)
  generalize wr0 = wj at *
  clear hxd hHeld b0 b1 b2 c0 c1 c2 c3 HF
  go_wp2
  go_ret
  rw [HV.out]
  exact ⟨rfl, HXJ.out⟩
 have k1 : (id.node != s.node) = false := by simpa using h1
 by_cases h2 : id.boot < 1
 ·have HV := hno (.inr (.inl h2))
  have k2 : decide (id.boot < 1) = true := by simpa using h2
  clear h1 h2 hno hon
  refine wp_region_phase (S := fun w' => Ext wa w') 47 (by kernel_rfl) (by kernel_rfl) ?_ (fun hHeld => ?_)
  ·exact hxd
  simp only [List.drop_succ_cons, List.drop_zero]
  refine name_head ?_
  intro wr0 hw0
  rw [hw0] at hHeld
  refine wt 0 _ ?_
  simp only [red, Act.put]
  refine wt 1 _ ?_
  simp only [red, Act.put]
  refine wt 2 _ ?_
  simp only [red, Act.put]
  refine wt 3 _ ?_
  simp only [red, Act.put]
  refine wt 4 _ ?_
  simp only [red, Act.put]
  refine wt 5 _ ?_
  simp only [red, Act.put]
  refine wt 6 _ ?_
  simp only [red, Act.put]
  refine wt 7 _ ?_
  simp only [red, Act.put]
  refine wt 8 _ ?_
  simp only [red, Act.put]
  refine wt 9 _ ?_
  simp only [red, Act.put]
  refine wt 10 _ ?_
  simp only [red, Act.put]
  refine wt 11 _ ?_
  simp only [red, Act.put]
  refine wt 12 _ ?_
  simp only [red, Act.put]
  refine wt 13 _ ?_
  simp only [red, Act.put]
  refine wt 14 _ ?_
  simp only [red, Act.put]
  refine wt 15 _ ?_
  simp only [red, Act.put]
  refine wt 16 _ ?_
  simp only [red, Act.put]
  refine ws 17 ?_
  simp only [red, Act.put]
  refine ws 18 ?_
  simp only [red, Act.put]
  refine ws 19 ?_
  simp only [red, Act.put]
  refine ws 20 ?_
  simp only [red, Act.put]
  refine ws 21 ?_
  simp only [red, Act.put]
  refine ws 22 ?_
  simp only [red, Act.put]
  refine ws 23 ?_
  simp only [red, Act.put]
  refine wt 24 _ ?_
  simp only [red, Act.put]
  refine wt 25 _ ?_
  simp only [red, Act.put]
  refine ws 26 ?_
  simp only [red, Act.put]
  refine ws 27 ?_
  simp only [red, Act.put]
  refine ws 28 ?_
  simp only [red, Act.put]
  refine wt 29 _ ?_
  simp only [red, Act.put]
  refine wt 30 _ ?_
  simp only [red, Act.put]
  refine ws 31 ?_
  simp only [red, Act.put]
  refine ws 32 ?_
  simp only [red, Act.put]
  refine ws 33 ?_
  simp only [red, Act.put]
  refine ws 34 ?_
  simp only [red, Act.put]
  refine ws 35 ?_
  simp only [red, Act.put]
  refine ws 36 ?_
  simp only [red, Act.put]
  refine ws 37 ?_
  simp only [red, Act.put]
  refine ws 38 ?_
  simp only [red, Act.put]
  refine ws 39 ?_
  simp only [red, Act.put]
  refine ws 40 ?_
  simp only [red, Act.put]
  refine ws 41 ?_
  simp only [red, Act.put]
  refine ws 42 ?_
  simp only [red, Act.put]
  refine ws 43 ?_
  simp only [red, Act.put]
  refine ws 44 ?_
  simp only [red, Act.put]
  refine ws 45 ?_
  simp only [red, Act.put]
  refine ws 46 ?_
  simp only [red, Act.put]
  refine wpHead_done (by kernel_rfl) ?_
  have HXJ := Lib.hid (hxa.trans hHeld)
  generalize wr0 = wj at *
  clear hxd hHeld b0 b1 b2 c0 c1 c2 c3 HF
  go_wp2
  go_ret
  rw [HV.out]
  exact ⟨rfl, HXJ.out⟩
 have k2 : decide (id.boot < 1) = false := by simpa using h2
 by_cases h3 : s.boot < id.boot
 ·have HV := hno (.inr (.inr (.inl h3)))
  have k3 : decide (s.boot < id.boot) = true := by simpa using h3
  clear h1 h2 h3 hno hon
  refine wp_region_phase (S := fun w' => Ext wa w') 47 (by kernel_rfl) (by kernel_rfl) ?_ (fun hHeld => ?_)
  ·exact hxd
  simp only [List.drop_succ_cons, List.drop_zero]
  refine name_head ?_
  intro wr0 hw0
  rw [hw0] at hHeld
  refine wt 0 _ ?_
  simp only [red, Act.put]
  refine wt 1 _ ?_
  simp only [red, Act.put]
  refine wt 2 _ ?_
  simp only [red, Act.put]
  refine wt 3 _ ?_
  simp only [red, Act.put]
  refine wt 4 _ ?_
  simp only [red, Act.put]
  refine wt 5 _ ?_
  simp only [red, Act.put]
  refine wt 6 _ ?_
  simp only [red, Act.put]
  refine wt 7 _ ?_
  simp only [red, Act.put]
  refine wt 8 _ ?_
  simp only [red, Act.put]
  refine wt 9 _ ?_
  simp only [red, Act.put]
  refine wt 10 _ ?_
  simp only [red, Act.put]
  refine wt 11 _ ?_
  simp only [red, Act.put]
  refine wt 12 _ ?_
  simp only [red, Act.put]
  refine wt 13 _ ?_
  simp only [red, Act.put]
  refine wt 14 _ ?_
  simp only [red, Act.put]
  refine wt 15 _ ?_
  simp only [red, Act.put]
  refine wt 16 _ ?_
  simp only [red, Act.put]
  refine wt 17 _ ?_
  simp only [red, Act.put]
  refine wt 18 _ ?_
  simp only [red, Act.put]
  refine wt 19 _ ?_
  simp only [red, Act.put]
  refine wt 20 _ ?_
  simp only [red, Act.put]
  refine wt 21 _ ?_
  simp only [red, Act.put]
  refine wt 22 _ ?_
  simp only [red, Act.put]
  refine wt 23 _ ?_
  simp only [red, Act.put]
  refine wt 24 _ ?_
  simp only [red, Act.put]
  refine wt 25 _ ?_
  simp only [red, Act.put]
  refine ws 26 ?_
  simp only [red, Act.put]
  refine ws 27 ?_
  simp only [red, Act.put]
  refine ws 28 ?_
  simp only [red, Act.put]
  refine wt 29 _ ?_
  simp only [red, Act.put]
  refine wt 30 _ ?_
  simp only [red, Act.put]
  refine ws 31 ?_
  simp only [red, Act.put]
  refine ws 32 ?_
  simp only [red, Act.put]
  refine ws 33 ?_
  simp only [red, Act.put]
  refine ws 34 ?_
  simp only [red, Act.put]
  refine ws 35 ?_
  simp only [red, Act.put]
  refine ws 36 ?_
  simp only [red, Act.put]
  refine ws 37 ?_
  simp only [red, Act.put]
  refine ws 38 ?_
  simp only [red, Act.put]
  refine ws 39 ?_
  simp only [red, Act.put]
  refine ws 40 ?_
  simp only [red, Act.put]
  refine ws 41 ?_
  simp only [red, Act.put]
  refine ws 42 ?_
  simp only [red, Act.put]
  refine ws 43 ?_
  simp only [red, Act.put]
  refine ws 44 ?_
  simp only [red, Act.put]
  refine ws 45 ?_
  simp only [red, Act.put]
  refine ws 46 ?_
  simp only [red, Act.put]
  refine wpHead_done (by kernel_rfl) ?_
  have HXJ := Lib.hid (hxa.trans hHeld)
  generalize wr0 = wj at *
  clear hxd hHeld b0 b1 b2 c0 c1 c2 c3 HF
  go_wp2
  go_ret
  rw [HV.out]
  exact ⟨rfl, HXJ.out⟩
 have k3 : decide (s.boot < id.boot) = false := by simpa using h3
 by_cases h4 : id.n < 1
 ·have HV := hno (.inr (.inr (.inr (.inl h4))))
  have k4 : decide (id.n < 1) = true := by simpa using h4
  clear h1 h2 h3 h4 hno hon
  refine wp_region_phase (S := fun w' => Ext wa w') 47 (by kernel_rfl) (by kernel_rfl) ?_ (fun hHeld => ?_)
  ·exact hxd
  simp only [List.drop_succ_cons, List.drop_zero]
  refine name_head ?_
  intro wr0 hw0
  rw [hw0] at hHeld
  refine wt 0 _ ?_
  simp only [red, Act.put]
  refine wt 1 _ ?_
  simp only [red, Act.put]
  refine wt 2 _ ?_
  simp only [red, Act.put]
  refine wt 3 _ ?_
  simp only [red, Act.put]
  refine wt 4 _ ?_
  simp only [red, Act.put]
  refine wt 5 _ ?_
  simp only [red, Act.put]
  refine wt 6 _ ?_
  simp only [red, Act.put]
  refine wt 7 _ ?_
  simp only [red, Act.put]
  refine wt 8 _ ?_
  simp only [red, Act.put]
  refine wt 9 _ ?_
  simp only [red, Act.put]
  refine wt 10 _ ?_
  simp only [red, Act.put]
  refine wt 11 _ ?_
  simp only [red, Act.put]
  refine wt 12 _ ?_
  simp only [red, Act.put]
  refine wt 13 _ ?_
  simp only [red, Act.put]
  refine wt 14 _ ?_
  simp only [red, Act.put]
  refine wt 15 _ ?_
  simp only [red, Act.put]
  refine wt 16 _ ?_
  simp only [red, Act.put]
  refine wt 17 _ ?_
  simp only [red, Act.put]
  refine wt 18 _ ?_
  simp only [red, Act.put]
  refine wt 19 _ ?_
  simp only [red, Act.put]
  refine wt 20 _ ?_
  simp only [red, Act.put]
  refine wt 21 _ ?_
  simp only [red, Act.put]
  refine wt 22 _ ?_
  simp only [red, Act.put]
  refine wt 23 _ ?_
  simp only [red, Act.put]
  refine wt 24 _ ?_
  simp only [red, Act.put]
  refine wt 25 _ ?_
  simp only [red, Act.put]
  refine wt 26 _ ?_
  simp only [red, Act.put]
  refine wt 27 _ ?_
  simp only [red, Act.put]
  refine wt 28 _ ?_
  simp only [red, Act.put]
  refine wt 29 _ ?_
  simp only [red, Act.put]
  refine wt 30 _ ?_
  simp only [red, Act.put]
  refine ws 31 ?_
  simp only [red, Act.put]
  refine ws 32 ?_
  simp only [red, Act.put]
  refine ws 33 ?_
  simp only [red, Act.put]
  refine ws 34 ?_
  simp only [red, Act.put]
  refine ws 35 ?_
  simp only [red, Act.put]
  refine ws 36 ?_
  simp only [red, Act.put]
  refine ws 37 ?_
  simp only [red, Act.put]
  refine ws 38 ?_
  simp only [red, Act.put]
  refine ws 39 ?_
  simp only [red, Act.put]
  refine ws 40 ?_
  simp only [red, Act.put]
  refine ws 41 ?_
  simp only [red, Act.put]
  refine ws 42 ?_
  simp only [red, Act.put]
  refine ws 43 ?_
  simp only [red, Act.put]
  refine ws 44 ?_
  simp only [red, Act.put]
  refine ws 45 ?_
  simp only [red, Act.put]
  refine ws 46 ?_
  simp only [red, Act.put]
  refine wpHead_done (by kernel_rfl) ?_
  have HXJ := Lib.hid (hxa.trans hHeld)
  generalize wr0 = wj at *
  clear hxd hHeld b0 b1 b2 c0 c1 c2 c3 HF
  go_wp2
  go_ret
  rw [HV.out]
  exact ⟨rfl, HXJ.out⟩
 have k4 : decide (id.n < 1) = false := by simpa using h4
 by_cases h5 : id.boot = s.boot
 ·have k5 : (id.boot == s.boot) = true := by simpa using h5
  by_cases h6 : s.next ≤ id.n
  ·have HV := hno (.inr (.inr (.inr (.inr ⟨h5, h6⟩))))
   have k6 : decide (s.next ≤ id.n) = true := by simpa using h6
   clear h1 h2 h3 h4 h5 h6 hno hon
   refine wp_region_phase (S := fun w' => Ext wa w') 47 (by kernel_rfl) (by kernel_rfl) ?_ (fun hHeld => ?_)
   ·exact hxd
   simp only [List.drop_succ_cons, List.drop_zero]
   refine name_head ?_
   intro wr0 hw0
   rw [hw0] at hHeld
   refine wt 0 _ ?_
   simp only [red, Act.put]
   refine wt 1 _ ?_
   simp only [red, Act.put]
   refine wt 2 _ ?_
   simp only [red, Act.put]
   refine wt 3 _ ?_
   simp only [red, Act.put]
   refine wt 4 _ ?_
   simp only [red, Act.put]
   refine wt 5 _ ?_
   simp only [red, Act.put]
   refine wt 6 _ ?_
   simp only [red, Act.put]
   refine wt 7 _ ?_
   simp only [red, Act.put]
   refine wt 8 _ ?_
   simp only [red, Act.put]
   refine wt 9 _ ?_
   simp only [red, Act.put]
   refine wt 10 _ ?_
   simp only [red, Act.put]
   refine wt 11 _ ?_
   simp only [red, Act.put]
   refine wt 12 _ ?_
   simp only [red, Act.put]
   refine wt 13 _ ?_
   simp only [red, Act.put]
   refine wt 14 _ ?_
   simp only [red, Act.put]
   refine wt 15 _ ?_
   simp only [red, Act.put]
   refine wt 16 _ ?_
   simp only [red, Act.put]
   refine wt 17 _ ?_
   simp only [red, Act.put]
   refine wt 18 _ ?_
   simp only [red, Act.put]
   refine wt 19 _ ?_
   simp only [red, Act.put]
   refine wt 20 _ ?_
   simp only [red, Act.put]
   refine wt 21 _ ?_
   simp only [red, Act.put]
   refine wt 22 _ ?_
   simp only [red, Act.put]
   refine wt 23 _ ?_
   simp only [red, Act.put]
   refine wt 24 _ ?_
   simp only [red, Act.put]
   refine wt 25 _ ?_
   simp only [red, Act.put]
   refine wt 26 _ ?_
   simp only [red, Act.put]
   refine wt 27 _ ?_
   simp only [red, Act.put]
   refine wt 28 _ ?_
   simp only [red, Act.put]
   refine wt 29 _ ?_
   simp only [red, Act.put]
   refine wt 30 _ ?_
   simp only [red, Act.put]
   refine wt 31 _ ?_
   simp only [red, Act.put]
   refine wt 32 _ ?_
   simp only [red, Act.put]
   refine wt 33 _ ?_
   simp only [red, Act.put]
   refine wt 34 _ ?_
   simp only [red, Act.put]
   refine wt 35 _ ?_
   simp only [red, Act.put]
   refine wt 36 _ ?_
   simp only [red, Act.put]
   refine wt 37 _ ?_
   simp only [red, Act.put]
   refine wt 38 _ ?_
   simp only [red, Act.put]
   refine wt 39 _ ?_
   simp only [red, Act.put]
   refine wt 40 _ ?_
   simp only [red, Act.put]
   refine wt 41 _ ?_
   simp only [red, Act.put]
   refine wt 42 _ ?_
   simp only [red, Act.put]
   refine wt 43 _ ?_
   simp only [red, Act.put]
   refine wt 44 _ ?_
   simp only [red, Act.put]
   refine wt 45 _ ?_
   simp only [red, Act.put]
   refine wt 46 _ ?_
   simp only [red, Act.put]
   refine wpHead_done (by kernel_rfl) ?_
   have HXJ := Lib.hid (hxa.trans hHeld)
   generalize wr0 = wj at *
   clear hxd hHeld b0 b1 b2 c0 c1 c2 c3 HF
   go_wp2
   go_ret
   rw [HV.out]
   exact ⟨rfl, HXJ.out⟩
  ·have HV := hon (by rintro (h | h | h | h | h); exact h1 h; exact h2 h; exact h3 h; exact h4 h; exact h6 h.2)
   have k6 : decide (s.next ≤ id.n) = false := by simpa using h6
   clear h1 h2 h3 h4 h5 h6 hno hon
   refine wp_region_phase (S := fun w' => Ext wa w') 47 (by kernel_rfl) (by kernel_rfl) ?_ (fun hHeld => ?_)
   ·exact hxd
   simp only [List.drop_succ_cons, List.drop_zero]
   refine name_head ?_
   intro wr0 hw0
   rw [hw0] at hHeld
   refine wt 0 _ ?_
   simp only [red, Act.put]
   refine wt 1 _ ?_
   simp only [red, Act.put]
   refine wt 2 _ ?_
   simp only [red, Act.put]
   refine wt 3 _ ?_
   simp only [red, Act.put]
   refine wt 4 _ ?_
   simp only [red, Act.put]
   refine wt 5 _ ?_
   simp only [red, Act.put]
   refine wt 6 _ ?_
   simp only [red, Act.put]
   refine wt 7 _ ?_
   simp only [red, Act.put]
   refine wt 8 _ ?_
   simp only [red, Act.put]
   refine wt 9 _ ?_
   simp only [red, Act.put]
   refine wt 10 _ ?_
   simp only [red, Act.put]
   refine wt 11 _ ?_
   simp only [red, Act.put]
   refine wt 12 _ ?_
   simp only [red, Act.put]
   refine wt 13 _ ?_
   simp only [red, Act.put]
   refine wt 14 _ ?_
   simp only [red, Act.put]
   refine wt 15 _ ?_
   simp only [red, Act.put]
   refine wt 16 _ ?_
   simp only [red, Act.put]
   refine wt 17 _ ?_
   simp only [red, Act.put]
   refine wt 18 _ ?_
   simp only [red, Act.put]
   refine wt 19 _ ?_
   simp only [red, Act.put]
   refine wt 20 _ ?_
   simp only [red, Act.put]
   refine wt 21 _ ?_
   simp only [red, Act.put]
   refine wt 22 _ ?_
   simp only [red, Act.put]
   refine wt 23 _ ?_
   simp only [red, Act.put]
   refine wt 24 _ ?_
   simp only [red, Act.put]
   refine wt 25 _ ?_
   simp only [red, Act.put]
   refine wt 26 _ ?_
   simp only [red, Act.put]
   refine wt 27 _ ?_
   simp only [red, Act.put]
   refine wt 28 _ ?_
   simp only [red, Act.put]
   refine wt 29 _ ?_
   simp only [red, Act.put]
   refine wt 30 _ ?_
   simp only [red, Act.put]
   refine wt 31 _ ?_
   simp only [red, Act.put]
   refine wt 32 _ ?_
   simp only [red, Act.put]
   refine wt 33 _ ?_
   simp only [red, Act.put]
   refine wt 34 _ ?_
   simp only [red, Act.put]
   refine wt 35 _ ?_
   simp only [red, Act.put]
   refine wt 36 _ ?_
   simp only [red, Act.put]
   refine wt 37 _ ?_
   simp only [red, Act.put]
   refine wt 38 _ ?_
   simp only [red, Act.put]
   refine wt 39 _ ?_
   simp only [red, Act.put]
   refine wt 40 _ ?_
   simp only [red, Act.put]
   refine wt 41 _ ?_
   simp only [red, Act.put]
   refine wt 42 _ ?_
   simp only [red, Act.put]
   refine wt 43 _ ?_
   simp only [red, Act.put]
   refine wt 44 _ ?_
   simp only [red, Act.put]
   refine wt 45 _ ?_
   simp only [red, Act.put]
   refine wt 46 _ ?_
   simp only [red, Act.put]
   refine wpHead_done (by kernel_rfl) ?_
   have HXJ := Lib.hid (hxa.trans hHeld)
   have HTJ := Lib.hid (hHeld.obj HT5.out)
   generalize wr0 = wj at *
   clear hxd hHeld b0 b1 b2 c0 c1 c2
   go_wp2_with (with_reducible refine sL 35 ?_)
   refine go_on (wpList_load_row rfl 35 _ rfl g5 rfl 35 _ (0, 0) _ HTJ.out Try.underlying35 rfl (apitx_size _ _ _) ?_)
   go_wp2_with fail
   refine (HF _ HXJ.out).mono ?_
   rintro e w2 ⟨rfl, hx2⟩
   have HX2 := Lib.hid (HXJ.out.trans hx2)
   clear hx2 HF
   cases hfi : findT s.under id with
   | none =>
    rw [hfi] at HV
    have hm : idI none = -1 := rfl
    rw [hm]
    clear hm hfi c3
    go_wp2
    go_ret
    rw [HV.out]
    exact ⟨rfl, HX2.out⟩
   | some i =>
    rw [hfi] at HV
    obtain ⟨hi, hid⟩ := findT_some hfi
    have hm : idI (some i) = (i : Int) := rfl
    rw [hm]
    obtain ⟨ad, A0, d0, A1, d1, A2, d2, rfl, -, -, -, hcell⟩ := HRS.out.rr hi
    have HRO := Lib.hid (row_of hi)
    have hnneg : ¬ (i : Int) < 0 := by omega
    have hilt : (i : Int) < (s.under.length : Int) := by omega
    have hc4 : w2.cell? ((ad.add (i * 7)).add 4) = some (.bool s.under[i].done) := hcell w2 HX2.out 4 _ rfl
    rw [add_pos'] at hc4
    have c32 := c3 w2 HX2.out
    have HV : Hid (askF s id = if s.under[i].done = true then 1 else 0) := Lib.hid (by rw [HV.out]; simp only; rw [HRO.out])
    clear hm hfi hid hcell HRO c3
    generalize s.under[i].done = dd at *
    cases dd with
    | true =>
     rw [if_pos rfl] at HV
     go_wp2
     go_ret
     rw [HV.out]
     exact ⟨rfl, HX2.out⟩
    | false =>
     rw [if_neg (by simp)] at HV
     go_wp2
     go_ret
     rw [HV.out]
     exact ⟨rfl, HX2.out⟩
 ·have HV := hon (by rintro (h | h | h | h | h); exact h1 h; exact h2 h; exact h3 h; exact h4 h; exact h5 h.1)
  have k5 : (id.boot == s.boot) = false := by simpa using h5
  clear h1 h2 h3 h4 h5 hno hon
  refine wp_region_phase (S := fun w' => Ext wa w') 47 (by kernel_rfl) (by kernel_rfl) ?_ (fun hHeld => ?_)
  ·exact hxd
  simp only [List.drop_succ_cons, List.drop_zero]
  refine name_head ?_
  intro wr0 hw0
  rw [hw0] at hHeld
  refine wt 0 _ ?_
  simp only [red, Act.put]
  refine wt 1 _ ?_
  simp only [red, Act.put]
  refine wt 2 _ ?_
  simp only [red, Act.put]
  refine wt 3 _ ?_
  simp only [red, Act.put]
  refine wt 4 _ ?_
  simp only [red, Act.put]
  refine wt 5 _ ?_
  simp only [red, Act.put]
  refine wt 6 _ ?_
  simp only [red, Act.put]
  refine wt 7 _ ?_
  simp only [red, Act.put]
  refine wt 8 _ ?_
  simp only [red, Act.put]
  refine wt 9 _ ?_
  simp only [red, Act.put]
  refine wt 10 _ ?_
  simp only [red, Act.put]
  refine wt 11 _ ?_
  simp only [red, Act.put]
  refine wt 12 _ ?_
  simp only [red, Act.put]
  refine wt 13 _ ?_
  simp only [red, Act.put]
  refine wt 14 _ ?_
  simp only [red, Act.put]
  refine wt 15 _ ?_
  simp only [red, Act.put]
  refine wt 16 _ ?_
  simp only [red, Act.put]
  refine wt 17 _ ?_
  simp only [red, Act.put]
  refine wt 18 _ ?_
  simp only [red, Act.put]
  refine wt 19 _ ?_
  simp only [red, Act.put]
  refine wt 20 _ ?_
  simp only [red, Act.put]
  refine wt 21 _ ?_
  simp only [red, Act.put]
  refine wt 22 _ ?_
  simp only [red, Act.put]
  refine wt 23 _ ?_
  simp only [red, Act.put]
  refine wt 24 _ ?_
  simp only [red, Act.put]
  refine wt 25 _ ?_
  simp only [red, Act.put]
  refine wt 26 _ ?_
  simp only [red, Act.put]
  refine wt 27 _ ?_
  simp only [red, Act.put]
  refine wt 28 _ ?_
  simp only [red, Act.put]
  refine wt 29 _ ?_
  simp only [red, Act.put]
  refine wt 30 _ ?_
  simp only [red, Act.put]
  refine wt 31 _ ?_
  simp only [red, Act.put]
  refine wt 32 _ ?_
  simp only [red, Act.put]
  refine wt 33 _ ?_
  simp only [red, Act.put]
  refine wt 34 _ ?_
  simp only [red, Act.put]
  refine wt 35 _ ?_
  simp only [red, Act.put]
  refine wt 36 _ ?_
  simp only [red, Act.put]
  refine wt 37 _ ?_
  simp only [red, Act.put]
  refine wt 38 _ ?_
  simp only [red, Act.put]
  refine ws 39 ?_
  simp only [red, Act.put]
  refine ws 40 ?_
  simp only [red, Act.put]
  refine ws 41 ?_
  simp only [red, Act.put]
  refine ws 42 ?_
  simp only [red, Act.put]
  refine ws 43 ?_
  simp only [red, Act.put]
  refine ws 44 ?_
  simp only [red, Act.put]
  refine ws 45 ?_
  simp only [red, Act.put]
  refine wt 46 _ ?_
  simp only [red, Act.put]
  refine wpHead_done (by kernel_rfl) ?_
  have HXJ := Lib.hid (hxa.trans hHeld)
  have HTJ := Lib.hid (hHeld.obj HT5.out)
  generalize wr0 = wj at *
  clear hxd hHeld b0 b1 b2 c0 c1 c2
  go_wp2_with (with_reducible refine sL 35 ?_)
  refine go_on (wpList_load_row rfl 35 _ rfl g5 rfl 35 _ (0, 0) _ HTJ.out Try.underlying35 rfl (apitx_size _ _ _) ?_)
  go_wp2_with fail
  refine (HF _ HXJ.out).mono ?_
  rintro e w2 ⟨rfl, hx2⟩
  have HX2 := Lib.hid (HXJ.out.trans hx2)
  clear hx2 HF
  cases hfi : findT s.under id with
  | none =>
   rw [hfi] at HV
   have hm : idI none = -1 := rfl
   rw [hm]
   clear hm hfi c3
   go_wp2
   go_ret
   rw [HV.out]
   exact ⟨rfl, HX2.out⟩
  | some i =>
   rw [hfi] at HV
   obtain ⟨hi, hid⟩ := findT_some hfi
   have hm : idI (some i) = (i : Int) := rfl
   rw [hm]
   obtain ⟨ad, A0, d0, A1, d1, A2, d2, rfl, -, -, -, hcell⟩ := HRS.out.rr hi
   have HRO := Lib.hid (row_of hi)
   have hnneg : ¬ (i : Int) < 0 := by omega
   have hilt : (i : Int) < (s.under.length : Int) := by omega
   have hc4 : w2.cell? ((ad.add (i * 7)).add 4) = some (.bool s.under[i].done) := hcell w2 HX2.out 4 _ rfl
   rw [add_pos'] at hc4
   have c32 := c3 w2 HX2.out
   have HV : Hid (askF s id = if s.under[i].done = true then 1 else 0) := Lib.hid (by rw [HV.out]; simp only; rw [HRO.out])
   clear hm hfi hid hcell HRO c3
   generalize s.under[i].done = dd at *
   cases dd with
   | true =>
    rw [if_pos rfl] at HV
    go_wp2
    go_ret
    rw [HV.out]
    exact ⟨rfl, HX2.out⟩
   | false =>
    rw [if_neg (by simp)] at HV
    go_wp2
    go_ret
    rw [HV.out]
    exact ⟨rfl, HX2.out⟩
end Go.Proofs.Ytijopcdjlpafdaa
