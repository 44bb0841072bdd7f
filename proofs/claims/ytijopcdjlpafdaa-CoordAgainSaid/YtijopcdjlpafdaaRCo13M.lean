/- The walk of the reference's Todo. Conditions: the hypotheses of the theorem. -/
import Derived.Test.YtijopcdjlpafdaaC2
import Derived.Test.YtijopcdjlpafdaaRCo12M
namespace Go.Proofs.Ytijopcdjlpafdaa
open Go.RowKit
theorem rin_x (w : World) (A : Option Addr) (c : Nat) (l : List Int) (n : Int) (hb : Sl w A (ib l)) (hm : l.length ≤ 1000000) :
 Calls Try.prog 49 #[.slice A l.length c, .int .i64 n] w fun e w' => e = .returned (.bool (hasI l n)) ∧ Ext w w' :=
 (rin_any w A c l n hb hm).mono fun _ _ ⟨h1, h2⟩ => ⟨h1, h2 ▸ Ext.refl _⟩
set_option maxRecDepth 20000 in
set_option maxHeartbeats 4000000 in
theorem RTodo_any {M : List Nat} {w : World} {q : Nat} {s : Cs} (h : Rc M w q s) (hs : s.Ok) (hf : s.Few 1000) :
 Calls Try.prog 26 #[pt q] w fun e w' => ∃ v, e = .returned v ∧ OwnTd w' w.heap.size v (todoF s) ∧ Ext w w' := by
 have HS := Lib.hid hs
 have HFW := Lib.hid hf
 have hfew := hs.few
 obtain ⟨A, cap, h⟩ := h
 obtain ⟨c0, c1', c2', c3, cf⟩ := rows4 h.row
 have HRS := Lib.hid h.rs
 have hxa : Ext w (w.alloc (.cells #[] 96)) := (Ext.refl w).alloc _
 have hoa : OwnTd (w.alloc (.cells #[] 96)) w.heap.size (.slice (some ⟨w.heap.size, 0, none⟩) 0 0) [] := World.ownsRow_made w #[] 0 (Nat.le_refl _) (by simp [maxLen]) rfl
 have HT : Hid (todoF s = s.under.flatMap todoT) := Lib.hid rfl
 clear h c0 c1' c2' cf hs hf
 unfold pt
 go_enter Try.func26, Try.ntmps26
 go_wp2
 go_loopw [3, 4] (fun ov i wr => ∃ j : Nat, i = .int .i64 j ∧ j ≤ s.under.length ∧ OwnTd wr w.heap.size ov ((s.under.take j).flatMap todoT) ∧ Ext w wr) (fun _ i _ => s.under.length - (intOf i).toNat)
 case atStart => exact ⟨0, rfl, by omega, hoa, hxa⟩
 case round =>
  obtain ⟨j, rfl, hj, hown, hxj⟩ := hrel
  clear hoa hxa
  have c3j := c3 wr hxj
  by_cases hlt : j < s.under.length
  ·have hlt2 : (j : Int) < (s.under.length : Int) := by omega
   obtain ⟨ad, A0, d0, A1, d1, A2, d2, rfl, hs0, hs1, hs2, hcell⟩ := HRS.out.rr hlt
   have hok := HS.out.rows _ (List.getElem_mem hlt)
   have hfw := HFW.out _ (List.getElem_mem hlt)
   have hyl := hfw.1
   have hal := hfw.2
   have hrl := rightF_mem hok.right
   have hlen := (rightF_len hok.right).2
   have HJS : Hid ((s.under.take (j + 1)).flatMap todoT = (s.under.take j).flatMap todoT ++ s.under[j].shards.flatMap (todoN s.under[j])) := Lib.hid (by
    rw [List.take_succ_eq_append_getElem hlt, List.flatMap_append]
    simp [todoT_eq])
   have hprel := flatT_len (s.under.take j) (fun t ht => (rightF_len (HS.out.rows t (List.mem_of_mem_take ht)).right).2)
   have htl : (s.under.take j).length ≤ 8 := by rw [List.length_take]; omega
   generalize (s.under.take j).flatMap todoT = pre at *
   generalize s.under[j] = t at *
   have HC := Lib.hid hcell
   have HRL := Lib.hid hrl
   have HSL := Lib.hid hs0.sl
   have HSY := Lib.hid hs1.sl
   have HSK := Lib.hid hs2.sl
   obtain ⟨Ao, co, rfl⟩ := own_form hown
   have HOW0 := Lib.hid hown
   clear hcell hok hrl hown hs0 hs1 hs2 hfw
   obtain ⟨wo, rfl⟩ : ∃ x, x = wr := ⟨wr, rfl⟩
   go_wp2_with (with_reducible first | refine sL 98 ?_ | refine sA 98 ?_ | refine sS 98 ?_)
   refine go_on (wpList_load_elem rfl 98 _ rfl (ad.add (j * 7)) rfl (rrC t (.slice A0 t.shards.length d0) (.slice A1 t.yes.length d1) (.slice A2 t.ack.length d2)) _ (HC.out _ hxj) Try.underlying98 rfl (rr_size rfl) ?_)
   go_wp2_with (with_reducible first | refine sL 98 ?_ | refine sA 98 ?_ | refine sS 98 ?_)
   refine go_on (wpList_alloc_ rfl rfl rr_info ?_)
   go_wp2_with (with_reducible first | refine sL 98 ?_ | refine sA 98 ?_ | refine sS 98 ?_)
   refine go_on (wpList_store_last rfl rfl rfl rfl (by simpa using rr_size (rrC_length t (.slice A0 t.shards.length d0) (.slice A1 t.yes.length d1) (.slice A2 t.ack.length d2))) rfl (all_oneCell_toArray (rrC_one _ _ _ _ _ _ _ _ _ _)) ?_)
   intro wc hrowc hxc _
   have hxwc := hxj.trans hxc
   have HOWC : Hid (OwnTd wc w.heap.size (.slice Ao pre.length co) pre) := Lib.hid (owns_ext HOW0.out hxc)
   generalize wo.heap.size = g at *
   have HRC := Lib.hid hrowc
   clear hxc hrowc hxj HOW0 c3j
   go_wp2
   go_loopw [3, 6] (fun ov i wr => ∃ k : Nat, i = .int .i64 k ∧ k ≤ t.shards.length ∧ OwnTd wr w.heap.size ov (pre ++ (t.shards.take k).flatMap (todoN t)) ∧ Hid (wr.heap[g]? = some (.cells (rrC t (.slice A0 t.shards.length d0) (.slice A1 t.yes.length d1) (.slice A2 t.ack.length d2)).toArray 98 (0, 0))) ∧ Ext w wr) (fun _ i _ => t.shards.length - (intOf i).toNat)
   case atStart => exact ⟨0, rfl, by omega, by simpa using HOWC.out, HRC, hxwc⟩
   case round =>
    obtain ⟨k, rfl, hk, hown, HGT, hxk⟩ := hrel
    clear HOWC HRC hxwc
    obtain ⟨Av, cv, rfl⟩ := own_form hown
    have HOW := Lib.hid hown
    clear hown
    have T3 : ∀ W, Ext wr W → W.cell? ⟨g, 3, none⟩ = some (.slice A0 t.shards.length d0) := fun W hx => by rw [cell_of_row _ _ _ _ _ _ (hx.obj HGT.out)]; rfl
    have t3 := T3 wr (Ext.refl _)
    by_cases hltk : k < t.shards.length
    ·have hltk2 : (k : Int) < (t.shards.length : Int) := by omega
     have T4 : ∀ W, Ext wr W → W.cell? ⟨g, 4, none⟩ = some (.bool t.done) := fun W hx => by rw [cell_of_row _ _ _ _ _ _ (hx.obj HGT.out)]; rfl
     have T5 : ∀ W, Ext wr W → W.cell? ⟨g, 5, none⟩ = some (.slice A1 t.yes.length d1) := fun W hx => by rw [cell_of_row _ _ _ _ _ _ (hx.obj HGT.out)]; rfl
     have T6 : ∀ W, Ext wr W → W.cell? ⟨g, 6, none⟩ = some (.slice A2 t.ack.length d2) := fun W hx => by rw [cell_of_row _ _ _ _ _ _ (hx.obj HGT.out)]; rfl
     have htx : ∀ W, Ext wr W → ∀ i v, (txiC t.id)[i]? = some v → W.cell? ((⟨g, 0, none⟩ : Addr).add i) = some v := fun W hx i v hi => by
      have hj3 : i < 3 := (List.getElem?_eq_some_iff.1 hi).1
      have e : (⟨g, 0, none⟩ : Addr).add i = ⟨g, i, none⟩ := by
       unfold Addr.add
       by_cases h0 : i = 0 <;> simp [h0]
      rw [e, cell_of_row _ _ _ _ _ _ (hx.obj HGT.out)]
      match i, hj3 with
      | 0, _ => exact hi
      | 1, _ => exact hi
      | 2, _ => exact hi
     obtain ⟨ad2, rfl, hc2⟩ := HSL.out.int hltk
     obtain ⟨m0, m3⟩ := HRL.out _ (List.getElem_mem hltk)
     have HSTEP : Hid (pre ++ (t.shards.take (k + 1)).flatMap (todoN t) = (pre ++ (t.shards.take k).flatMap (todoN t)) ++ todoN t t.shards[k]) := Lib.hid (by
      rw [List.take_succ_eq_append_getElem hltk, List.flatMap_append]
      simp)
     have hfl := flatN_len t (t.shards.take k)
     have hpl : (pre ++ (t.shards.take k).flatMap (todoN t)).length ≤ 100 := by
      rw [List.length_append]
      rw [List.length_take] at hfl
      omega
     obtain ⟨m, hm⟩ := Int.eq_ofNat_of_zero_le m0
     rw [hm] at hc2 m3 HSTEP
     have hc20 : ∀ W, Ext wr W → W.cell? (ad2.add k) = some (.int .i64 (m : Int)) := fun W hx => hc2 W (hxk.trans hx)
     clear hc2 m0 m3 hm hfl t3
     generalize pre ++ (t.shards.take k).flatMap (todoN t) = cur at *
     have hxr := Ext.refl wr
     cases hdd : t.done with
     | true =>
      rw [hdd] at T4
      have hIN := fun W (hx : Ext wr W) => rin_x W A2 d2 t.ack m (HSK.out.ext (hxk.trans hx)) (by omega)
      cases hq : hasI t.ack m with
      | true =>
       rw [hq] at hIN
       go_wp2_with fail
       refine wp_region_phase (S := fun w' => Ext wr w') 12 (by kernel_rfl) (by kernel_rfl) ?_ (fun hHeld => ?_)
       ·exact hxr.drew
       simp only [List.drop_succ_cons, List.drop_zero]
       refine name_head ?_
       intro wr0 hw0
       rw [hw0] at hHeld
       refine wt 0 _ ?_
       simp only [red, Act.put]
       refine wt 1 _ ?_
       simp only [red, Act.put]
       refine wt 2 _ ?_
       simp only [red, Act.put]
       refine wt 3 _ ?_
       simp only [red, Act.put]
       refine wt 4 _ ?_
       simp only [red, Act.put]
       refine wt 5 _ ?_
       simp only [red, Act.put]
       refine wt 6 _ ?_
       simp only [red, Act.put]
       refine wt 7 _ ?_
       simp only [red, Act.put]
       refine wt 8 _ ?_
       simp only [red, Act.put]
       refine wt 9 _ ?_
       simp only [red, Act.put]
       refine rd [10] ?_
       refine ac (fun K hK => ?_) ?_
       ·refine step_callG (by rfl) (by kernel_rfl) (hIN _ hHeld) ?_
        rintro e wr10 ⟨rfl, hx10⟩
        refine ⟨_, rfl, ?_⟩
        refine hK.out _ _ ?_ (fun hHeld => ?_)
        ·exact hHeld.trans hx10
        clear hK K
        try simp only [red, Act.put]
        refine wt 11 _ ?_
        simp only [red, Act.put]
        refine wpHead_done (by kernel_rfl) ?_
        have HXW := Lib.hid hHeld
        clear hHeld hxr
        generalize wr10 = wq at *
        go_wp2_with fail
        have hxq : Ext wr wq := HXW.out
        refine wp_region_phase (S := fun w' => Ext wr w') 13 (by kernel_rfl) (by kernel_rfl) ?_ (fun hHeld => ?_)
        ·exact hxq.drew
        simp only [List.drop_succ_cons, List.drop_zero]
        refine name_head ?_
        intro wr0 hw0
        rw [hw0] at hHeld
        refine wt 0 _ ?_
        simp only [red, Act.put]
        refine wt 1 _ ?_
        simp only [red, Act.put]
        refine wt 2 _ ?_
        simp only [red, Act.put]
        refine wt 3 _ ?_
        simp only [red, Act.put]
        refine ws 4 ?_
        simp only [red, Act.put]
        refine ws 5 ?_
        simp only [red, Act.put]
        refine ws 6 ?_
        simp only [red, Act.put]
        refine ws 7 ?_
        simp only [red, Act.put]
        refine ws 8 ?_
        simp only [red, Act.put]
        refine ws 9 ?_
        simp only [red, Act.put]
        refine ws 10 ?_
        simp only [red, Act.put]
        refine ws 11 ?_
        simp only [red, Act.put]
        refine ws 12 ?_
        simp only [red, Act.put]
        refine wpHead_done (by kernel_rfl) ?_
        have HXW := Lib.hid hHeld
        clear hHeld hxq T3 T4 T5 T6 htx hc20 hIN
        generalize wr0 = wz at *
        have HN : Hid (todoN t m = []) := Lib.hid (by unfold todoN; simp [hdd, hq])
        have HST := Lib.hid (HSTEP.out.trans (congrArg (cur ++ ·) HN.out))
        have HO5 : Hid (OwnTd wz w.heap.size (.slice Av cur.length cv) (pre ++ ((t.shards.take (k + 1)).flatMap (todoN t)))) := Lib.hid (by
         rw [HST.out, List.append_nil]
         exact owns_ext HOW.out HXW.out)
        have HG5 := Lib.hid (HXW.out.obj HGT.out)
        have HX5 := Lib.hid (hxk.trans HXW.out)
        go_wp2
        go_roundw
        case rel => exact ⟨k + 1, by go_num, by omega, HO5.out, HG5, HX5.out⟩
        case measure => simp [intOf]; omega
       exact AllHead.nil
      | false =>
       rw [hq] at hIN
       go_wp2_with fail
       refine wp_region_phase (S := fun w' => Ext wr w') 12 (by kernel_rfl) (by kernel_rfl) ?_ (fun hHeld => ?_)
       ·exact hxr.drew
       simp only [List.drop_succ_cons, List.drop_zero]
       refine name_head ?_
       intro wr0 hw0
       rw [hw0] at hHeld
       refine wt 0 _ ?_
       simp only [red, Act.put]
       refine wt 1 _ ?_
       simp only [red, Act.put]
       refine wt 2 _ ?_
       simp only [red, Act.put]
       refine wt 3 _ ?_
       simp only [red, Act.put]
       refine wt 4 _ ?_
       simp only [red, Act.put]
       refine wt 5 _ ?_
       simp only [red, Act.put]
       refine wt 6 _ ?_
       simp only [red, Act.put]
       refine wt 7 _ ?_
       simp only [red, Act.put]
       refine wt 8 _ ?_
       simp only [red, Act.put]
       refine wt 9 _ ?_
       simp only [red, Act.put]
       refine rd [10] ?_
       refine ac (fun K hK => ?_) ?_
       ·refine step_callG (by rfl) (by kernel_rfl) (hIN _ hHeld) ?_
        rintro e wr10 ⟨rfl, hx10⟩
        refine ⟨_, rfl, ?_⟩
        refine hK.out _ _ ?_ (fun hHeld => ?_)
        ·exact hHeld.trans hx10
        clear hK K
        try simp only [red, Act.put]
        refine wt 11 _ ?_
        simp only [red, Act.put]
        refine wpHead_done (by kernel_rfl) ?_
        have HXW := Lib.hid hHeld
        generalize wr10 = wq at *
        clear hIN
        clear hxr hHeld
        go_wp2_with fail
        have hxq := HXW.out
        refine wp_region_phase (S := fun w' => Ext wr w') 10 (by kernel_rfl) (by kernel_rfl) ?_ (fun hHeld => ?_)
        ·exact hxq.drew
        simp only [List.drop_succ_cons, List.drop_zero]
        refine name_head ?_
        intro wr0 hw0
        rw [hw0] at hHeld
        refine wt 0 _ ?_
        simp only [red, Act.put]
        refine wt 1 _ ?_
        simp only [red, Act.put]
        refine wy 2 (v := .agg #[.int .i64 t.id.node, .int .i64 t.id.boot, .int .i64 t.id.n]) (by rfl) (by exact yieldsIf_load_elem (by rfl) 35 _ rfl ⟨g, 0, none⟩ rfl (txiC t.id) _ (fun w' hx => htx w' hx) Try.underlying35 rfl (by kernel_rfl)) ?_
        simp only [red, Act.put]
        refine wt 3 _ ?_
        simp only [red, Act.put]
        refine wt 4 _ ?_
        simp only [red, Act.put]
        refine wt 5 _ ?_
        simp only [red, Act.put]
        refine wt 6 _ ?_
        simp only [red, Act.put]
        refine wt 7 _ ?_
        simp only [red, Act.put]
        refine wt 8 _ ?_
        simp only [red, Act.put]
        refine rd [9] ?_
        refine ac (fun K hK => ?_) ?_
        ·go_simp
         refine name_world ?_
         rintro wr9 hw9
         have hxn9 : Ext wr0 wr9 := hw9 ▸ (Ext.refl _).alloc _
         have hrow9 : wr9.heap[wr0.heap.size]? = some (.cells #[.int .i64 t.id.node, .int .i64 t.id.boot, .int .i64 t.id.n, .int .i64 (m : Int), .int .i64 1] 96) := hw9 ▸ heap_alloc_new wr0 _
         have hnw : Sl wr9 (some ⟨wr0.heap.size, 0, none⟩) (tdC (t.id, (m : Int), 1)) := Sl.of_row hrow9
         refine hK.out _ _ ?_ (fun hHeld => ?_)
         ·first | assumption | exact Ext.trans (by assumption) (by assumption)
         clear hK K
         try simp only [red, Act.put]
         refine wpHead_done (by kernel_rfl) ?_
         have HN : Hid (todoN t m = [(t.id, (m : Int), 1)]) := Lib.hid (by unfold todoN; simp [hdd, hq])
         have HST := Lib.hid (HSTEP.out.trans (congrArg (cur ++ ·) HN.out))
         have HX9 := Lib.hid hHeld
         have HO9 := Lib.hid (owns_ext HOW.out HX9.out)
         have HW9 := Lib.hid (hxk.trans HX9.out)
         have HG9 := Lib.hid (HX9.out.obj HGT.out)
         have hnw9 := hnw
         generalize wr9 = w9 at *
         clear hHeld hxq T3 T4 T5 T6 htx hnw hc20
         go_wp2_with (at_builtin; refine unstop ?_)
         refine go_on (wpList_app todoT' HO9.out hnw9 rfl rfl rfl rfl rfl (tdC_one _) (by have := hpl; omega) (by have := hpl; omega) HW9.out.size ?_)
         intro v' w5 ho5 hg5 _
         have HG5 := Lib.hid ((hg5.block g (obj_lt HG9.out) (by have h2 := owns_obj HO9.out HG9.out (by decide); rcases h2 with h | h; rw [h]; simp; exact fun e => h e.symm)).trans HG9.out)
         have HO5 : Hid (OwnTd w5 w.heap.size v' (pre ++ ((t.shards.take (k + 1)).flatMap (todoN t)))) := Lib.hid (by
          unfold OwnTd
          rw [HST.out]
          simpa [List.flatMap_append] using ho5)
         have HX5 : Hid (Ext w w5) := Lib.hid (HW9.out.own HO9.out (Nat.le_refl _) hg5)
         clear hnw9 ho5 hg5
         have T4 : ∀ W, Ext w5 W → W.cell? ⟨g, 4, none⟩ = some (.bool true) := fun W hx => by
          have h1 := cell_of_row _ g 4 _ _ _ (hx.obj HG5.out)
          rw [h1]
          simp [rrC, hdd]
         have hx5r := Ext.refl w5
         obtain ⟨L5, hL5⟩ : ∃ L, L = pre ++ ((t.shards.take (k + 1)).flatMap (todoN t)) := ⟨_, rfl⟩
         rw [← hL5] at HO5
         have HL5 := Lib.hid hL5
         clear hL5
         obtain ⟨Av5, cv5, rfl⟩ := own_form HO5.out
         go_wp2_with fail
         refine wp_region_phase (S := fun w' => Ext w5 w') 13 (by kernel_rfl) (by kernel_rfl) ?_ (fun hHeld => ?_)
         ·exact hx5r.drew
         simp only [List.drop_succ_cons, List.drop_zero]
         refine name_head ?_
         intro wr0 hw0
         rw [hw0] at hHeld
         refine wt 0 _ ?_
         simp only [red, Act.put]
         refine wt 1 _ ?_
         simp only [red, Act.put]
         refine wt 2 _ ?_
         simp only [red, Act.put]
         refine wt 3 _ ?_
         simp only [red, Act.put]
         refine ws 4 ?_
         simp only [red, Act.put]
         refine ws 5 ?_
         simp only [red, Act.put]
         refine ws 6 ?_
         simp only [red, Act.put]
         refine ws 7 ?_
         simp only [red, Act.put]
         refine ws 8 ?_
         simp only [red, Act.put]
         refine ws 9 ?_
         simp only [red, Act.put]
         refine ws 10 ?_
         simp only [red, Act.put]
         refine ws 11 ?_
         simp only [red, Act.put]
         refine ws 12 ?_
         simp only [red, Act.put]
         refine wpHead_done (by kernel_rfl) ?_
         have HO6 := Lib.hid (owns_ext HO5.out hHeld)
         have HG6 := Lib.hid (hHeld.obj HG5.out)
         have HX6 := Lib.hid (HX5.out.trans hHeld)
         clear hHeld hx5r T4
         generalize wr0 = wz at *
         go_wp2
         go_roundw
         case rel => exact ⟨k + 1, by go_num, by omega, by rw [← HL5.out]; exact HO6.out, HG6, HX6.out⟩
         case measure => simp [intOf]; omega
        exact AllHead.nil
       exact AllHead.nil
     | false =>
      rw [hdd] at T4
      have hIN := fun W (hx : Ext wr W) => rin_x W A1 d1 t.yes m (HSY.out.ext (hxk.trans hx)) (by omega)
      go_wp2_with fail
      refine wp_region_phase (S := fun w' => Ext wr w') 12 (by kernel_rfl) (by kernel_rfl) ?_ (fun hHeld => ?_)
      ·exact hxr.drew
      simp only [List.drop_succ_cons, List.drop_zero]
      refine name_head ?_
      intro wr0 hw0
      rw [hw0] at hHeld
      refine wt 0 _ ?_
      simp only [red, Act.put]
      refine wt 1 _ ?_
      simp only [red, Act.put]
      refine wt 2 _ ?_
      simp only [red, Act.put]
      refine ws 3 ?_
      simp only [red, Act.put]
      refine ws 4 ?_
      simp only [red, Act.put]
      refine ws 5 ?_
      simp only [red, Act.put]
      refine ws 6 ?_
      simp only [red, Act.put]
      refine ws 7 ?_
      simp only [red, Act.put]
      refine ws 8 ?_
      simp only [red, Act.put]
      refine ws 9 ?_
      simp only [red, Act.put]
      refine ws 10 ?_
      simp only [red, Act.put]
      refine ws 11 ?_
      simp only [red, Act.put]
      refine wpHead_done (by kernel_rfl) ?_
      have hxq : Ext wr wr0 := hHeld
      clear hHeld hxr
      generalize wr0 = wp at *
      cases hq : hasI t.yes m with
      | true =>
       rw [hq] at hIN
       go_wp2_with fail
       refine wp_region_phase (S := fun w' => Ext wr w') 13 (by kernel_rfl) (by kernel_rfl) ?_ (fun hHeld => ?_)
       ·exact hxq.drew
       simp only [List.drop_succ_cons, List.drop_zero]
       refine name_head ?_
       intro wr0 hw0
       rw [hw0] at hHeld
       refine wt 0 _ ?_
       simp only [red, Act.put]
       refine wt 1 _ ?_
       simp only [red, Act.put]
       refine wt 2 _ ?_
       simp only [red, Act.put]
       refine wt 3 _ ?_
       simp only [red, Act.put]
       refine wt 4 _ ?_
       simp only [red, Act.put]
       refine wt 5 _ ?_
       simp only [red, Act.put]
       refine wt 6 _ ?_
       simp only [red, Act.put]
       refine wt 7 _ ?_
       simp only [red, Act.put]
       refine wt 8 _ ?_
       simp only [red, Act.put]
       refine wt 9 _ ?_
       simp only [red, Act.put]
       refine wt 10 _ ?_
       simp only [red, Act.put]
       refine rd [11] ?_
       refine ac (fun K hK => ?_) ?_
       ·refine step_callG (by rfl) (by kernel_rfl) (hIN _ hHeld) ?_
        rintro e wr11 ⟨rfl, hx10⟩
        refine ⟨_, rfl, ?_⟩
        refine hK.out _ _ ?_ (fun hHeld => ?_)
        ·exact hHeld.trans hx10
        clear hK K
        try simp only [red, Act.put]
        refine wt 12 _ ?_
        simp only [red, Act.put]
        refine wpHead_done (by kernel_rfl) ?_
        have HXW := Lib.hid hHeld
        clear hHeld hxq T3 T4 T5 T6 htx hc20 hIN
        generalize wr11 = wz at *
        have HN : Hid (todoN t m = []) := Lib.hid (by unfold todoN; simp [hdd, hq])
        have HST := Lib.hid (HSTEP.out.trans (congrArg (cur ++ ·) HN.out))
        have HO5 : Hid (OwnTd wz w.heap.size (.slice Av cur.length cv) (pre ++ ((t.shards.take (k + 1)).flatMap (todoN t)))) := Lib.hid (by
         rw [HST.out, List.append_nil]
         exact owns_ext HOW.out HXW.out)
        have HG5 := Lib.hid (HXW.out.obj HGT.out)
        have HX5 := Lib.hid (hxk.trans HXW.out)
        go_wp2
        go_roundw
        case rel => exact ⟨k + 1, by go_num, by omega, HO5.out, HG5, HX5.out⟩
        case measure => simp [intOf]; omega
       exact AllHead.nil
      | false =>
       rw [hq] at hIN
       go_wp2_with fail
       refine wp_region_phase (S := fun w' => Ext wr w') 13 (by kernel_rfl) (by kernel_rfl) ?_ (fun hHeld => ?_)
       ·exact hxq.drew
       simp only [List.drop_succ_cons, List.drop_zero]
       refine name_head ?_
       intro wr0 hw0
       rw [hw0] at hHeld
       refine wt 0 _ ?_
       simp only [red, Act.put]
       refine wt 1 _ ?_
       simp only [red, Act.put]
       refine wt 2 _ ?_
       simp only [red, Act.put]
       refine wt 3 _ ?_
       simp only [red, Act.put]
       refine wt 4 _ ?_
       simp only [red, Act.put]
       refine wt 5 _ ?_
       simp only [red, Act.put]
       refine wt 6 _ ?_
       simp only [red, Act.put]
       refine wt 7 _ ?_
       simp only [red, Act.put]
       refine wt 8 _ ?_
       simp only [red, Act.put]
       refine wt 9 _ ?_
       simp only [red, Act.put]
       refine wt 10 _ ?_
       simp only [red, Act.put]
       refine rd [11] ?_
       refine ac (fun K hK => ?_) ?_
       ·refine step_callG (by rfl) (by kernel_rfl) (hIN _ hHeld) ?_
        rintro e wr11 ⟨rfl, hx10⟩
        refine ⟨_, rfl, ?_⟩
        refine hK.out _ _ ?_ (fun hHeld => ?_)
        ·exact hHeld.trans hx10
        clear hK K
        try simp only [red, Act.put]
        refine wt 12 _ ?_
        simp only [red, Act.put]
        refine wpHead_done (by kernel_rfl) ?_
        have HXW := Lib.hid hHeld
        have hxr := hxq
        generalize wr11 = wq at *
        clear hIN hxq
        clear hxr hHeld
        go_wp2_with fail
        have hxq := HXW.out
        refine wp_region_phase (S := fun w' => Ext wr w') 10 (by kernel_rfl) (by kernel_rfl) ?_ (fun hHeld => ?_)
        ·exact hxq.drew
        simp only [List.drop_succ_cons, List.drop_zero]
        refine name_head ?_
        intro wr0 hw0
        rw [hw0] at hHeld
        refine wt 0 _ ?_
        simp only [red, Act.put]
        refine wt 1 _ ?_
        simp only [red, Act.put]
        refine wy 2 (v := .agg #[.int .i64 t.id.node, .int .i64 t.id.boot, .int .i64 t.id.n]) (by rfl) (by exact yieldsIf_load_elem (by rfl) 35 _ rfl ⟨g, 0, none⟩ rfl (txiC t.id) _ (fun w' hx => htx w' hx) Try.underlying35 rfl (by kernel_rfl)) ?_
        simp only [red, Act.put]
        refine wt 3 _ ?_
        simp only [red, Act.put]
        refine wt 4 _ ?_
        simp only [red, Act.put]
        refine wt 5 _ ?_
        simp only [red, Act.put]
        refine wt 6 _ ?_
        simp only [red, Act.put]
        refine wt 7 _ ?_
        simp only [red, Act.put]
        refine wt 8 _ ?_
        simp only [red, Act.put]
        refine rd [9] ?_
        refine ac (fun K hK => ?_) ?_
        ·go_simp
         refine name_world ?_
         rintro wr9 hw9
         have hxn9 : Ext wr0 wr9 := hw9 ▸ (Ext.refl _).alloc _
         have hrow9 : wr9.heap[wr0.heap.size]? = some (.cells #[.int .i64 t.id.node, .int .i64 t.id.boot, .int .i64 t.id.n, .int .i64 (m : Int), .int .i64 0] 96) := hw9 ▸ heap_alloc_new wr0 _
         have hnw : Sl wr9 (some ⟨wr0.heap.size, 0, none⟩) (tdC (t.id, (m : Int), 0)) := Sl.of_row hrow9
         refine hK.out _ _ ?_ (fun hHeld => ?_)
         ·first | assumption | exact Ext.trans (by assumption) (by assumption)
         clear hK K
         try simp only [red, Act.put]
         refine wpHead_done (by kernel_rfl) ?_
         have HN : Hid (todoN t m = [(t.id, (m : Int), 0)]) := Lib.hid (by unfold todoN; simp [hdd, hq])
         have HST := Lib.hid (HSTEP.out.trans (congrArg (cur ++ ·) HN.out))
         have HX9 := Lib.hid hHeld
         have HO9 := Lib.hid (owns_ext HOW.out HX9.out)
         have HW9 := Lib.hid (hxk.trans HX9.out)
         have HG9 := Lib.hid (HX9.out.obj HGT.out)
         have hnw9 := hnw
         generalize wr9 = w9 at *
         clear hHeld hxq T3 T4 T5 T6 htx hnw hc20
         go_wp2_with (at_builtin; refine unstop ?_)
         refine go_on (wpList_app todoT' HO9.out hnw9 rfl rfl rfl rfl rfl (tdC_one _) (by have := hpl; omega) (by have := hpl; omega) HW9.out.size ?_)
         intro v' w5 ho5 hg5 _
         have HG5 := Lib.hid ((hg5.block g (obj_lt HG9.out) (by have h2 := owns_obj HO9.out HG9.out (by decide); rcases h2 with h | h; rw [h]; simp; exact fun e => h e.symm)).trans HG9.out)
         have HO5 : Hid (OwnTd w5 w.heap.size v' (pre ++ ((t.shards.take (k + 1)).flatMap (todoN t)))) := Lib.hid (by
          unfold OwnTd
          rw [HST.out]
          simpa [List.flatMap_append] using ho5)
         have HX5 : Hid (Ext w w5) := Lib.hid (HW9.out.own HO9.out (Nat.le_refl _) hg5)
         clear hnw9 ho5 hg5
         go_wp2
         go_roundw
         case rel => exact ⟨k + 1, by go_num, by omega, HO5.out, HG5, HX5.out⟩
         case measure => simp [intOf]; omega
        exact AllHead.nil
       exact AllHead.nil
    ·have hltk2 : ¬ (k : Int) < (t.shards.length : Int) := by omega
     obtain rfl : k = t.shards.length := by omega
     have HO6 : Hid (OwnTd wr w.heap.size (.slice Av (pre ++ (t.shards.take t.shards.length).flatMap (todoN t)).length cv) ((s.under.take (j + 1)).flatMap todoT)) := Lib.hid (by
      have := HOW.out
      rw [List.take_length] at *
      rw [HJS.out]
      exact this)
     clear T3
     go_wp2
     go_roundw
     case rel => exact ⟨j + 1, by go_num, by omega, HO6.out, hxk⟩
     case measure => simp [intOf]; omega
  ·have hlt2 : ¬ (j : Int) < (s.under.length : Int) := by omega
   obtain rfl : j = s.under.length := by omega
   rw [List.take_length] at hown
   generalize s.under.flatMap todoT = L at *
   have HO := Lib.hid hown
   have HX := Lib.hid hxj
   obtain ⟨Ao, co, rfl⟩ := own_form hown
   clear hown hxj
   go_wp2
   go_ret
   rw [HT.out]
   exact ⟨_, rfl, HO.out, HX.out⟩
end Go.Proofs.Ytijopcdjlpafdaa
