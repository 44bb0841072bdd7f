/- The walks of coord.Snapshot and of the reference's Snapshot. Conditions: the hypotheses of each theorem. -/
import Derived.Test.YtijopcdjlpafdaaC2
import Derived.Test.YtijopcdjlpafdaaRCo11M
namespace Go.Proofs.Ytijopcdjlpafdaa
open Go.RowKit
def snK (s : Cs) (k : Nat) : List By := (1 :: be4 s.boot) :: ((s.under.take k).filter (·.done)).map putD
theorem snK_all {s : Cs} (h : s.boot ≠ 0) : snapF s = snK s s.under.length := by unfold snapF snK; rw [if_neg h, List.take_length]
theorem snK_len (s : Cs) (k : Nat) : (snK s k).length ≤ k + 1 := by
 unfold snK
 have := List.length_filter_le (fun t : Tr => t.done) (s.under.take k)
 rw [List.length_take] at this
 simp
 omega
theorem snK_step (s : Cs) {k : Nat} (hk : k < s.under.length) : snK s (k + 1) = snK s k ++ if s.under[k].done then [putD s.under[k]] else [] := by
 unfold snK
 rw [List.take_succ_eq_append_getElem hk, List.filter_append, List.map_append, List.cons_append]
 congr 2
 cases hd : s.under[k].done <;> simp [hd]
theorem OwnS.new1 {w w' : World} {base : Nat} {u : Value} {l : By} (hu : Own w base u l) (hb : base ≤ w.heap.size) (hx : w' = w.alloc (.cells #[u] 23)) : OwnS w' base (.slice (some ⟨w.heap.size, 0, none⟩) 1 1) [l] := by
 subst hx
 refine ⟨[u], owns_new w base 23 #[u] [u] 1 rfl rfl hb (by simp [maxLen]), fun k x hk => ?_⟩
 have hk0 : k = 0 := by
  have := (List.getElem?_eq_some_iff.1 hk).1
  simpa using this
 subst hk0
 simp at hk
 subst hk
 exact ⟨u, rfl, hu.alloc _⟩
set_option maxRecDepth 20000 in
set_option maxHeartbeats 4000000 in
theorem CSnap_any {M : List Nat} {w : World} {p : Nat} {s : Cs} (h : Co M w p s) (hs : s.Ok) :
 Calls Try.prog 20 #[pt p] w fun e w' => ∃ v, e = .returned v ∧ OwnS w' w.heap.size v (snapF s) ∧ Ext w w' := by
 have HS := Lib.hid hs
 have hfew := hs.few
 have hbt := hs.boot1
 obtain ⟨A, cap, h⟩ := h
 obtain ⟨c0, c1, c2', c3, cf⟩ := rows4 h.row
 have HH := Lib.hid h
 have hx0 := Ext.refl w
 clear h c0 c2' cf hs
 unfold pt
 by_cases hb0 : s.boot = 0
 ·have HV : Hid (snapF s = []) := Lib.hid (by unfold snapF; rw [if_pos hb0])
  rw [hb0] at c1
  clear hb0 c3
  go_enter Try.func20, Try.ntmps20
  go_wp2
  go_ret
  rw [HV.out]
  exact ⟨_, rfl, OwnS.nil _ _, Ext.refl _⟩
 have HV := Lib.hid (snK_all hb0)
 have hne : (s.boot == 0) = false := by simpa using hb0
 have hN := fun W (b : Value) (l : By) (ho : Own W w.heap.size b l) (hx : Ext w W) (hl : l.length ≤ 1000) => num_i w W b l s.boot 4 (by omega) hx ho (by omega) (by omega)
 have HK0 : Hid (snK s 0 = [[1] ++ beN 4 s.boot.toNat]) := Lib.hid (by unfold snK be4; simp)
 clear hb0
 go_enter Try.func20, Try.ntmps20
 go_wp2_with fail
 have hx1 : Ext w (w.alloc (.cells #[.int .u8 1] 5)) := (Ext.refl w).alloc _
 have ho1 : Own (w.alloc (.cells #[.int .u8 1] 5)) w.heap.size (.slice (some ⟨w.heap.size, 0, none⟩) 1 1) [1] := Own.new w w.heap.size _ [1] 1 rfl rfl (Nat.le_refl _) (by simp [maxLen])
 refine (hN _ _ _ ho1 hx1 (by simp)).mono ?_
 rintro e w2 ⟨b2, rfl, ho2, hx2⟩
 obtain ⟨A2, k2, rfl⟩ := ho2.form
 generalize hll : ([1] ++ beN 4 s.boot.toNat).length = ll at *
 have hos : OwnS (w2.alloc (.cells #[.slice A2 ll k2] 23)) w.heap.size (.slice (some ⟨w2.heap.size, 0, none⟩) 1 1) (snK s 0) := by rw [HK0.out]; exact OwnS.new1 ho2 hx2.size rfl
 have hxs : Ext w (w2.alloc (.cells #[.slice A2 ll k2] 23)) := hx2.alloc _
 have HOS := Lib.hid hos
 clear hll ho1 hx1 hN ho2 hx2 hos
 go_wp2
 go_loopw [3, 27] (fun ov iv wr => ∃ j : Nat, iv = .int .i64 j ∧ j ≤ s.under.length ∧ Hid (OwnS wr w.heap.size ov (snK s j)) ∧ Ext w wr) (fun _ iv _ => s.under.length - (intOf iv).toNat)
 case atStart => exact ⟨0, rfl, by omega, HOS, hxs⟩
 case round =>
  obtain ⟨j, rfl, hj, HO, hxj⟩ := hrel
  clear HOS hxs
  obtain ⟨Ao, co, rfl⟩ := HO.out.form
  by_cases hlt : j < s.under.length
  ·have hlt2 : (j : Int) < (s.under.length : Int) := by omega
   obtain ⟨ad, A1, c1', rfl, hsl, hcell, hdc⟩ := HH.out.rs.tr hlt
   have hok := HS.out.rows _ (List.getElem_mem hlt)
   have HST := Lib.hid (snK_step s hlt)
   have hsl1 := snK_len s j
   have HSL := Lib.hid hsl
   have HOK := Lib.hid hok
   have HC := Lib.hid hcell
   clear hsl hok hcell hdc
   generalize s.under[j] = t at *
   obtain ⟨wo, rfl⟩ : ∃ x, x = wr := ⟨wr, rfl⟩
   go_wp2_with (with_reducible first | refine sL 85 ?_ | refine sA 85 ?_ | refine sS 85 ?_)
   refine go_on (wpList_load_elem rfl 85 _ rfl (ad.add (j * 13)) rfl (trC t (.slice A1 t.shards.length c1')) _ (HC.out _ hxj) Try.underlying85 rfl (tx_size rfl) ?_)
   go_wp2_with (with_reducible first | refine sL 85 ?_ | refine sA 85 ?_ | refine sS 85 ?_)
   refine go_on (wpList_alloc_ rfl rfl tx_info ?_)
   go_wp2_with (with_reducible first | refine sL 85 ?_ | refine sA 85 ?_ | refine sS 85 ?_)
   refine go_on (wpList_store_last rfl rfl rfl rfl (by simpa using tx_size (trC_length t (.slice A1 t.shards.length c1'))) rfl (all_oneCell_toArray (trC_one _ _ _ _)) ?_)
   intro wc hrowc hxc _
   have HO := Lib.hid (HO.out.ext hxc)
   have HX := Lib.hid (hxj.trans hxc)
   have HRC := Lib.hid hrowc
   have hc4 : wc.cell? ⟨wo.heap.size, 4, none⟩ = some (.bool t.done) := by rw [cell_of_row _ _ _ _ _ _ hrowc]; rfl
   generalize wo.heap.size = g at *
   have HP := cput_any t A1 c1' wc (HSL.out.ext HX.out) (rightF_mem HOK.out.right) (by have := (rightF_len HOK.out.right).2; omega) (by have := HOK.out.boot1; omega) (by have := HOK.out.n1; omega)
   clear hrowc hxc hxj
   cases hdd : t.done with
   | false =>
    rw [hdd] at hc4 HST
    have HO2 : Hid (OwnS wc w.heap.size (.slice Ao (snK s j).length co) (snK s (j + 1))) := Lib.hid (by rw [HST.out]; simpa using HO.out)
    clear hdd HP
    go_wp2
    go_roundw
    case rel => exact ⟨j + 1, by go_num, by omega, HO2, HX.out⟩
    case measure => simp [intOf]; omega
   | true =>
    rw [hdd] at hc4 HST
    clear hdd
    go_wp2_with (with_reducible refine sL 85 ?_)
    refine go_on (wpList_load_row rfl 85 _ rfl g rfl 85 _ (0, 0) _ HRC.out Try.underlying85 rfl (by simpa using tx_size (trC_length t (.slice A1 t.shards.length c1'))) ?_)
    clear hc4
    go_wp2_with fail
    refine HP.mono ?_
    rintro e w5 ⟨v5, rfl, ho5, hx5⟩
    have HO := Lib.hid (HO.out.ext hx5)
    have HU := Lib.hid (ho5.low HX.out.size)
    have HX := Lib.hid (HX.out.trans hx5)
    obtain ⟨A5, k5, rfl⟩ := ho5.form
    have hpl : (putD t).length = (putD t).length := rfl
    generalize hpd : (putD t).length = pl at *
    clear HP ho5 hx5 hpl hpd
    obtain ⟨vs, q1, q2⟩ := HO.out
    have HQ1 := Lib.hid q1
    have HQ2 := Lib.hid q2
    clear q1 q2
    go_wp2_with (at_builtin; refine unstop ?_)
    have hnw : Sl (w5.alloc (.cells #[.slice A5 pl k5] 23)) (some ⟨w5.heap.size, 0, none⟩) [.slice A5 pl k5] := Sl.new w5 _ _ _
    refine go_on (wpList_app bytessT (HQ1.out.alloc _) hnw rfl rfl rfl rfl rfl (by intro u hu; simp at hu; subst hu; rfl) (by omega) (by omega) (by have := HX.out.size; simp; omega) ?_)
    intro v7 w7 ho7 hg7 _
    have HO7 : Hid (OwnS w7 w.heap.size v7 (snK s (j + 1))) := Lib.hid (by
     rw [HST.out]
     exact OwnS.push (HQ1.out.alloc _) (fun k l hl => by obtain ⟨u, a, b⟩ := HQ2.out k l hl; exact ⟨u, a, b.alloc _⟩) (HU.out.alloc _) ho7 hg7)
    have HX7 := Lib.hid ((HX.out.alloc (.cells #[.slice A5 pl k5] 23)).own (HQ1.out.alloc _) (Nat.le_refl _) hg7)
    clear hnw ho7 hg7
    go_wp2
    go_roundw
    case rel => exact ⟨j + 1, by go_num, by omega, HO7, HX7.out⟩
    case measure => simp [intOf]; omega
  ·have hlt2 : ¬ (j : Int) < (s.under.length : Int) := by omega
   obtain rfl : j = s.under.length := by omega
   have HX := Lib.hid hxj
   clear hxj
   go_wp2
   go_ret
   rw [HV.out]
   exact ⟨_, rfl, HO.out, HX.out⟩
set_option maxRecDepth 20000 in
set_option maxHeartbeats 4000000 in
theorem RSnap_any {M : List Nat} {w : World} {q : Nat} {s : Cs} (h : Rc M w q s) (hs : s.Ok) :
 Calls Try.prog 27 #[pt q] w fun e w' => ∃ v, e = .returned v ∧ OwnS w' w.heap.size v (snapF s) ∧ Ext w w' := by
 have HS := Lib.hid hs
 have hfew := hs.few
 have hbt := hs.boot1
 have hbt2 := hs.boot2
 obtain ⟨A, cap, h⟩ := h
 obtain ⟨c0, c1, c2', c3, cf⟩ := rows4 h.row
 have HRS := Lib.hid h.rs
 have hxa : Ext w (w.alloc (.cells #[] 23)) := (Ext.refl w).alloc _
 have hoa := OwnS.empty w w.heap.size (Nat.le_refl _)
 clear h c0 c2' cf hs
 unfold pt
 by_cases hb0 : s.boot = 0
 ·have HV : Hid (snapF s = []) := Lib.hid (by unfold snapF; rw [if_pos hb0])
  rw [hb0] at c1
  clear hb0 c3
  go_enter Try.func27, Try.ntmps27
  go_wp2
  go_ret
  rw [HV.out]
  exact ⟨_, rfl, hoa, hxa⟩
 have HV := Lib.hid (snK_all hb0)
 have hne : (s.boot == 0) = false := by simpa using hb0
 have HK0 : Hid (snK s 0 = [] ++ [[1] ++ beN 4 s.boot.toNat]) := Lib.hid (by unfold snK be4; simp)
 clear hb0
 obtain ⟨wa, hwa⟩ : ∃ wa, wa = w.alloc (.cells #[] 23) := ⟨_, rfl⟩
 rw [← hwa] at hxa hoa
 have hwaA := hwa.symm
 have hx1 : Ext wa (wa.alloc (.cells #[.int .u8 1] 5)) := (Ext.refl _).alloc _
 have HNB := RNumB_i wa (wa.alloc (.cells #[.int .u8 1] 5)) (.slice (some ⟨wa.heap.size, 0, none⟩) 1 1) [1] s.boot 4 (by omega) (by omega) hx1 (Own.new wa wa.heap.size _ [1] 1 rfl rfl (Nat.le_refl _) (by simp [maxLen])) (by simp) (by omega)
 have hx1w := hxa.trans hx1
 clear hwa
 go_enter Try.func27, Try.ntmps27
 go_wp2_with fail
 clear hwaA
 refine HNB.mono ?_
 rintro e w2 ⟨b2, rfl, ho2, hx2⟩
 obtain ⟨A2, k2, rfl⟩ := ho2.form
 generalize hll : ([1] ++ beN 4 s.boot.toNat).length = ll at *
 have HO2 := Lib.hid (hoa.ext hx2)
 have HX2 := Lib.hid (hxa.trans hx2)
 have HU2 := Lib.hid (ho2.low hxa.size)
 clear hll HNB hx1 hx1w ho2 hx2 hoa
 obtain ⟨vs, q1, q2'⟩ := HO2.out
 have HQ1 := Lib.hid q1
 have HQ2 := Lib.hid q2'
 clear q1 q2'
 go_wp2_with (at_builtin; refine unstop ?_)
 have hnw : Sl (w2.alloc (.cells #[.slice A2 ll k2] 23)) (some ⟨w2.heap.size, 0, none⟩) [.slice A2 ll k2] := Sl.new w2 _ _ _
 refine go_on (wpList_app bytessT (HQ1.out.alloc _) hnw rfl rfl rfl rfl rfl (by intro u hu; simp at hu; subst hu; rfl) (by simp) (by simp) (by have := HX2.out.size; simp; omega) ?_)
 intro v3 w3 ho3 hg3 _
 have HO3 : Hid (OwnS w3 w.heap.size v3 (snK s 0)) := Lib.hid (by
  rw [HK0.out]
  exact OwnS.push (HQ1.out.alloc _) (fun k l hl => by obtain ⟨u, a, b⟩ := HQ2.out k l hl; exact ⟨u, a, b.alloc _⟩) (HU2.out.alloc _) ho3 hg3)
 have hx3 : Ext w w3 := (HX2.out.alloc (.cells #[.slice A2 ll k2] 23)).own (HQ1.out.alloc _) (Nat.le_refl _) hg3
 clear hnw ho3 hg3 HO2 HU2 HX2 HQ1 HQ2 hxa
 go_wp2
 go_loopw [3, 4] (fun ov iv wr => ∃ j : Nat, iv = .int .i64 j ∧ j ≤ s.under.length ∧ Hid (OwnS wr w.heap.size ov (snK s j)) ∧ Ext w wr) (fun _ iv _ => s.under.length - (intOf iv).toNat)
 case atStart => exact ⟨0, rfl, by omega, HO3, hx3⟩
 case round =>
  obtain ⟨j, rfl, hj, HO, hxj⟩ := hrel
  clear HO3 hx3
  obtain ⟨Ao, co, rfl⟩ := HO.out.form
  have c3j := c3 wr hxj
  by_cases hlt : j < s.under.length
  ·have hlt2 : (j : Int) < (s.under.length : Int) := by omega
   obtain ⟨ad, A0, d0, A1, d1, A2, d2, rfl, hs0, -, -, hcell⟩ := HRS.out.rr hlt
   have hok := HS.out.rows _ (List.getElem_mem hlt)
   have HST := Lib.hid (snK_step s hlt)
   have hsl1 := snK_len s j
   have HSL := Lib.hid hs0
   have HOK := Lib.hid hok
   have hc4 : wr.cell? ((ad.add (j * 7)).add 4) = some (.bool s.under[j].done) := hcell wr hxj 4 _ rfl
   rw [add_pos'] at hc4
   have hct : ∀ W, Ext w W → ∀ i v, (txiC s.under[j].id)[i]? = some v → W.cell? ((ad.add (j * 7)).add i) = some v := fun W hW i v hi => by
    refine hcell W hW i v ?_
    have hj3 : i < 3 := (List.getElem?_eq_some_iff.1 hi).1
    match i, hj3 with
    | 0, _ => exact hi
    | 1, _ => exact hi
    | 2, _ => exact hi
   have g3 : ∀ W, Ext w W → W.cell? ⟨(ad.add (j * 7)).block, (ad.add (j * 7)).off + 3, none⟩ = some (.slice A0 s.under[j].shards.length d0) := fun W hx => by
    have := hcell W hx 3 _ rfl
    rwa [add_pos'] at this
   have hHP := fun W (hx : Ext w W) => RPutD_any s.under[j] A0 d0 W (hs0.sl.ext hx) (rightF_mem hok.right) (by have := (rightF_len hok.right).2; omega) (by have := hok.boot1; omega) (by have := hok.n1; omega) (by have := hok.boot2; omega) (by have := hok.n2; omega)
   have hj1000 : j < 1000 := by omega
   clear hs0 hok hcell
   generalize s.under[j] = t at *
   cases hdd : t.done with
   | false =>
    rw [hdd] at hc4 HST
    have HO2 : Hid (OwnS wr w.heap.size (.slice Ao (snK s j).length co) (snK s (j + 1))) := Lib.hid (by rw [HST.out]; simpa using HO.out)
    clear hdd hHP hct g3
    go_wp2
    go_roundw
    case rel => exact ⟨j + 1, by go_num, by omega, HO2, hxj⟩
    case measure => simp [intOf]; omega
   | true =>
    rw [hdd] at hc4 HST
    clear hdd
    have c3r := fun W (hx : Ext wr W) => c3 W (hxj.trans hx)
    have g3r := fun W (hx : Ext wr W) => g3 W (hxj.trans hx)
    go_wp2_with fail
    clear g3
    have hxr := Ext.refl wr
    refine wp_region_phase (S := fun w' => Ext wr w') 19 (by kernel_rfl) (by kernel_rfl) ?_ (fun hHeld => ?_)
    ·exact hxr.drew
    simp only [List.drop_succ_cons, List.drop_zero]
    refine name_head ?_
    intro wr0 hw0
    rw [hw0] at hHeld
    refine wt 0 _ ?_
    simp only [red, Act.put]
    refine wt 1 _ ?_
    simp only [red, Act.put]
    refine wt 2 _ ?_
    simp only [red, Act.put]
    refine wt 3 _ ?_
    simp only [red, Act.put]
    refine wt 4 _ ?_
    simp only [red, Act.put]
    refine wt 5 _ ?_
    simp only [red, Act.put]
    refine wt 6 _ ?_
    simp only [red, Act.put]
    refine wt 7 _ ?_
    simp only [red, Act.put]
    refine wy 8 (v := .agg #[.int .i64 t.id.node, .int .i64 t.id.boot, .int .i64 t.id.n]) (by rfl) (by exact yieldsIf_load_elem (by rfl) 35 _ rfl (ad.add (j * 7)) rfl (txiC t.id) _ (fun w' hx => hct w' (hxj.trans hx)) Try.underlying35 rfl (by kernel_rfl)) ?_
    simp only [red, Act.put]
    refine wt 9 _ ?_
    simp only [red, Act.put]
    refine wt 10 _ ?_
    simp only [red, Act.put]
    refine wt 11 _ ?_
    simp only [red, Act.put]
    refine wt 12 _ ?_
    simp only [red, Act.put]
    refine wt 13 _ ?_
    simp only [red, Act.put]
    refine wt 14 _ ?_
    simp only [red, Act.put]
    refine wt 15 _ ?_
    simp only [red, Act.put]
    refine wt 16 _ ?_
    simp only [red, Act.put]
    refine rd [17] ?_
    refine ac (fun K hK => ?_) ?_
    ·refine step_callG (by rfl) (by kernel_rfl) (hHP _ (hxj.trans hHeld)) ?_
     rintro e wr17 ⟨v5, rfl, ho5, hx5⟩
     have HU := Lib.hid (ho5.low (hxj.trans hHeld).size)
     obtain ⟨A5, k5, rfl⟩ := ho5.form
     refine ⟨_, rfl, ?_⟩
     refine hK.out _ _ ?_ (fun hHeld => ?_)
     ·exact hHeld.trans hx5
     clear hK K
     try simp only [red, Act.put]
     refine rd [18] ?_
     refine ac (fun K hK => ?_) ?_
     ·go_simp
      refine name_world ?_
      rintro wr18 hw18
      have hxn18 : Ext wr17 wr18 := hw18 ▸ (Ext.refl _).alloc _
      have hrow18 : wr18.heap[wr17.heap.size]? = some (.cells #[.slice A5 (putD t).length k5] 23) := hw18 ▸ heap_alloc_new wr17 _
      have hnw : Sl wr18 (some ⟨wr17.heap.size, 0, none⟩) [.slice A5 (putD t).length k5] := Sl.of_row hrow18
      have HU := Lib.hid (HU.out.ext hxn18)
      refine hK.out _ _ ?_ (fun hHeld => ?_)
      ·first | assumption | exact Ext.trans (by assumption) (by assumption)
      clear hK K
      try simp only [red, Act.put]
      refine wpHead_done (by kernel_rfl) ?_
      have HO9 := Lib.hid (HO.out.ext hHeld)
      have HXW := Lib.hid (hxj.trans hHeld)
      generalize wr18 = w9 at *
      clear hHeld hxr c3r g3r hHP hct hc4
      obtain ⟨vs, q1, q2'⟩ := HO9.out
      have HQ1 := Lib.hid q1
      have HQ2 := Lib.hid q2'
      clear q1 q2'
      go_wp2_with (at_builtin; refine unstop ?_)
      refine go_on (wpList_app bytessT HQ1.out hnw rfl rfl rfl rfl rfl (by intro u hu; simp at hu; subst hu; rfl) (by omega) (by omega) HXW.out.size ?_)
      intro v7 w7 ho7 hg7 _
      have HO7 : Hid (OwnS w7 w.heap.size v7 (snK s (j + 1))) := Lib.hid (by
       rw [HST.out]
       exact OwnS.push HQ1.out HQ2.out HU.out ho7 hg7)
      have HX7 := Lib.hid (HXW.out.own HQ1.out (Nat.le_refl _) hg7)
      clear hnw ho7 hg7
      go_wp2
      go_roundw
      case rel => exact ⟨j + 1, by go_num, by omega, HO7, HX7.out⟩
      case measure => simp [intOf]; omega
     exact AllHead.nil
    exact AllHead.nil
  ·have hlt2 : ¬ (j : Int) < (s.under.length : Int) := by omega
   obtain rfl : j = s.under.length := by omega
   have HX := Lib.hid hxj
   clear hxj
   go_wp2
   go_ret
   rw [HV.out]
   exact ⟨_, rfl, HO.out, HX.out⟩
end Go.Proofs.Ytijopcdjlpafdaa
