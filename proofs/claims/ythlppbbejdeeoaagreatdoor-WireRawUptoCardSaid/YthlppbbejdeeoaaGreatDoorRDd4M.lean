/- The walks of the reference's Size of boxes and CheckUser. Conditions: the hypotheses of each theorem; the library's two tables. -/
import Derived.Test.YthlppbbejdeeoaaGreatDoorC3
import Derived.Test.YthlppbbejdeeoaaGreatDoorC12
import Derived.Test.YthlppbbejdeeoaaGreatDoorC13
namespace Go.Proofs.YthlppbbejdeeoaaGreatDoor
open Go.RowKit
set_option maxRecDepth 20000 in
set_option maxHeartbeats 2000000 in
theorem R8Size_any (b : Bx) (A : Option Addr) (cap : Nat) (w : World) (h : RsM RLt 3 [] w A b.letters) (h32 : b.letters.length ≤ 32) (h600 : ∀ l ∈ b.letters, l.bytes.length ≤ 600) :
 Calls Tryz.prog 102 #[.agg (bxC b (.slice A b.letters.length cap))] w fun e w' => e = .returned (.int .i64 (sizeB b : Nat)) ∧ Ext w w' := by
 have hx0 : Ext w (w.alloc (.cells (bxC b (.slice A b.letters.length cap)) 136)) := (Ext.refl w).alloc _
 have hrow := heap_alloc_new w (.cells (bxC b (.slice A b.letters.length cap)) 136)
 obtain ⟨wa, hwa⟩ : ∃ wa, wa = w.alloc (.cells (bxC b (.slice A b.letters.length cap)) 136) := ⟨_, rfl⟩
 rw [← hwa] at hx0 hrow
 obtain ⟨bn, bvv, bnx, bls⟩ := b
 simp only at *
 obtain ⟨C0, C1, C2, C3, FF⟩ := rows4 hrow
 clear FF
 have h := h.kept (.of_ext hx0)
 have HWA := Lib.hid hwa
 clear hwa hrow
 unfold bxC at *
 go_enter Tryz.func102, Tryz.ntmps102
 go_wp2
 rw [← HWA.out]
 go_loopw [3, 4] (fun nv iv wr => ∃ (k : Nat), iv = .int .i64 k ∧ k ≤ bls.length ∧ nv = .int .i64 (sizeF 0 (bls.take k) : Nat) ∧ Ext wa wr) (fun _ iv _ => bls.length - (intOf iv).toNat)
 case atStart => exact ⟨0, rfl, by omega, rfl, Ext.refl _⟩
 case round =>
  obtain ⟨k, rfl, hk, rfl, hx⟩ := hrel
  by_cases hlt : k < bls.length
  ·obtain ⟨ad, A2, c2, rfl, _, hc⟩ := h.lt_at hlt
   have hle := sizeF_le bls h600 k hk
   have h6 := h600 _ (List.getElem_mem hlt)
   have HT := Lib.hid (sizeF_take bls k hlt)
   generalize sizeF 0 (bls.take k) = n0 at *
   have hlt2 : (k : Int) < bls.length := by omega
   have E2 := fun w' (hx' : Ext wa w') => (hc w' hx').2.2
   clear hc
   generalize bls[k] = lt at *
   obtain ⟨lu, lf, lb⟩ := lt
   simp only at *
   go_wp2
   go_roundw
   case rel => exact ⟨k + 1, by go_num, by omega, by rw [HT.out]; go_num, hx⟩
   case measure => simp [intOf]; omega
  ·have HT : Hid (sizeF 0 (bls.take k) = sizeB ⟨bn, bvv, bnx, bls⟩) := Lib.hid (by rw [List.take_of_length_le (by omega)]; rfl)
   go_wp2
   go_ret
   exact ⟨by rw [← HT.out]; rfl, hx0.trans hx⟩
set_option maxRecDepth 20000 in
set_option maxHeartbeats 8000000 in
theorem RCheckUser_any (u : Us) (A : Option Addr) (cap : Nat) (w : World) (h : RsM RBx 4 [] w A u.boxes) (hn : u.name.length ≤ 8796093022000) (hbn : ∀ b ∈ u.boxes, b.name.length ≤ 8796093022000) (hT : Tabs w) :
 Calls Tryz.prog 91 #[.agg (usC u (.slice A u.boxes.length cap))] w fun e w' => e = .returned (.int .i64 (checkU u : Nat)) ∧ Ext w w' := by
 have hx0 : Ext w (w.alloc (.cells (usC u (.slice A u.boxes.length cap)) 116)) := (Ext.refl w).alloc _
 have hrow := heap_alloc_new w (.cells (usC u (.slice A u.boxes.length cap)) 116)
 obtain ⟨wa, hwa⟩ : ∃ wa, wa = w.alloc (.cells (usC u (.slice A u.boxes.length cap)) 116) := ⟨_, rfl⟩
 rw [← hwa] at hx0 hrow
 obtain ⟨un, uv, bs⟩ := u
 simp only at *
 obtain ⟨C0, C1, C2, FF⟩ := rows3 hrow
 clear FF
 have h := h.kept (.of_ext hx0)
 have hTa := hT.ext hx0
 have HWA := Lib.hid hwa
 have HRU := fun w => RRightUser_any un w hn
 have HE : Hid (checkU ⟨un, uv, bs⟩ = if rightU un = false then 4 else if uv < 1 ∨ 4294967295 < uv then 2 else if bs.length = 0 ∨ 6 < bs.length then 8 else boxesC uv bs none ⟨0, 0, false⟩) := Lib.hid rfl
 clear hwa hrow
 unfold usC at *
 go_enter Tryz.func91, Tryz.ntmps91
 go_wp2_with fail
 rw [← HWA.out]
 refine (HRU wa).mono ?_
 rintro e w1 ⟨rfl, hx1⟩
 cases hru : rightU un with
 | false =>
  have HB : Hid (checkU ⟨un, uv, bs⟩ = 4) := Lib.hid (by rw [HE.out, hru]; rfl)
  clear hru HE
  go_wp2
  go_ret
  exact ⟨by rw [HB.out]; rfl, hx0.trans hx1⟩
 | true =>
  have HE2 : Hid (checkU ⟨un, uv, bs⟩ = if uv < 1 ∨ 4294967295 < uv then 2 else if bs.length = 0 ∨ 6 < bs.length then 8 else boxesC uv bs none ⟨0, 0, false⟩) := Lib.hid (by rw [HE.out, hru]; rfl)
  clear hru HE HRU
  by_cases hv1 : uv < 1
  ·have HB : Hid (checkU ⟨un, uv, bs⟩ = 2) := Lib.hid (by rw [HE2.out, if_pos (.inl hv1)])
   go_wp2
   go_ret
   exact ⟨by rw [HB.out]; rfl, hx0.trans hx1⟩
  ·by_cases hv2 : 4294967295 < uv
   ·have HB : Hid (checkU ⟨un, uv, bs⟩ = 2) := Lib.hid (by rw [HE2.out, if_pos (.inr hv2)])
    go_wp2
    go_ret
    exact ⟨by rw [HB.out]; rfl, hx0.trans hx1⟩
   ·have HE3 := Lib.hid (HE2.out.trans (if_neg (by omega)))
    clear HE2
    by_cases hl0 : (bs.length : Int) < 1
    ·have HB : Hid (checkU ⟨un, uv, bs⟩ = 8) := Lib.hid (by rw [HE3.out, if_pos (.inl (by omega))])
     go_wp2
     go_ret
     exact ⟨by rw [HB.out]; rfl, hx0.trans hx1⟩
    ·by_cases hl6 : (6 : Int) < (bs.length : Int)
     ·have HB : Hid (checkU ⟨un, uv, bs⟩ = 8) := Lib.hid (by rw [HE3.out, if_pos (.inr (by omega))])
      go_wp2
      go_ret
      exact ⟨by rw [HB.out]; rfl, hx0.trans hx1⟩
     ·have HU := Lib.hid (HE3.out.trans (if_neg (by omega)))
      clear HE3
      have hl6' : bs.length ≤ 6 := by omega
      go_wp2
      go_loopw [3, 4, 5, 6] (fun fv lv sv iv wr => ∃ (k : Nat) (t : Tot), iv = .int .i64 k ∧ k ≤ bs.length ∧ lv = .int .i64 (t.letters : Nat) ∧ sv = .int .i64 (t.size : Nat) ∧ fv = .bool t.found ∧ t.letters ≤ 32 * k ∧ t.size ≤ 19200 * k ∧ boxesC uv (bs.drop k) (prevN bs k) t = boxesC uv bs none ⟨0, 0, false⟩ ∧ Ext wa wr) (fun _ _ _ iv _ => bs.length - (intOf iv).toNat)
      case atStart => exact ⟨0, ⟨0, 0, false⟩, rfl, by omega, rfl, rfl, rfl, by simp, by simp, rfl, hx1⟩
      case round =>
       clear hx1
       obtain ⟨k, t, rfl, hk, rfl, rfl, rfl, hb1, hb2, hrun, hx⟩ := hrel
       obtain ⟨tl_, ts, tf⟩ := t
       simp only at *
       by_cases hlt : k < bs.length
       ·rw [boxesC_drop _ _ _ _ hlt] at hrun
        have HC := Lib.hid hrun
        clear hrun
        obtain ⟨ad, cs, hA, had, hcs, hcell, A2, cap2, hcs2, hby⟩ := h.at_ (by omega) hlt
        subst hA hcs2
        have HRB := fun w' (hx' : Ext wa w') => RRightBox_any bs[k].name w' (hbn _ (List.getElem_mem hlt)) (hTa.ext hx')
        have HBC := fun w' (hx' : Ext wa w') => R8Check_any bs[k] A2 cap2 w' (hby.kept (.of_ext hx'))
        have HBZ := fun w' (hx' : Ext wa w') => R8Size_any bs[k] A2 cap2 w' (hby.kept (.of_ext hx'))
        have hlt2 : (k : Int) < bs.length := by omega
        have hcl := fun j v hj => hx.cell (show wa.cell? ((ad.add (k * 4)).add j) = some v by rw [add_addB]; exact hcell j v hj)
        have hbh0 := fun (e : k = 0) => (by subst e; rfl : behindB (prevN bs k) bs[k].name = false)
        have hbh1 := fun (k' : Nat) (e : k = k' + 1) (hk' : k' < bs.length) => (by subst e; simp [behindB, prevN, hk'] : behindB (prevN bs k) bs[k].name = leB bs[k].name bs[k'].name)
        clear hcs hcell hby had hbn
        generalize bs[k] = bb at *
        obtain ⟨bn, bval, bnx, bls⟩ := bb
        unfold bxC at HBC HBZ hcl
        try simp only at hcl HBC HBZ HRB
        go_wp2_with (with_reducible first | refine sA 138 ?_ | refine sS 138 ?_ | refine sL 138 ?_ | refine sA 136 ?_ | refine sS 136 ?_ | refine sL 136 ?_)
        refine go_on (wpList_load_elem rfl 136 _ rfl (ad.add (k * 4)) rfl _ _ hcl Tryz.underlying136 rfl (by kernel_rfl) ?_)
        go_wp2_with (with_reducible first | refine sA 138 ?_ | refine sS 138 ?_ | refine sL 138 ?_ | refine sA 136 ?_ | refine sS 136 ?_ | refine sL 136 ?_)
        refine go_on (wpList_alloc_ rfl rfl box_info ?_)
        go_wp2_with (with_reducible first | refine sA 138 ?_ | refine sS 138 ?_ | refine sL 138 ?_ | refine sA 136 ?_ | refine sS 136 ?_ | refine sL 136 ?_)
        refine go_on (wpList_store_last rfl rfl rfl rfl (by kernel_rfl) rfl (by simp [Value.oneCell']) ?_)
        intro wb hrowB hxb _
        have hxwb := hx.trans hxb
        obtain ⟨D0, D1, D2, D3, _⟩ := rows4 hrowB
        try simp only at D0 D1 D2 D3
        have C1' := fun w' hx' => C1 w' (Ext.trans hxwb hx')
        have C2' := fun w' hx' => C2 w' (Ext.trans hxwb hx')
        have hxn : Ext wb wb.drew := (Ext.refl _).drew
        clear C0 C1 C2 hcl hx hxb
        cases hrb : rightB bn with
        | false =>
         go_wp2_with fail
         refine wp_region_phase (S := fun w' => Ext wb w') 19 (by kernel_rfl) (by kernel_rfl) ?_ (fun hHeld => ?_)
         ·exact hxn
         simp only [List.drop_succ_cons, List.drop_zero]
         refine name_head ?_
         intro wr0 hw0
         rw [hw0] at hHeld
         refine wt 0 _ ?_
         simp only [red, Act.put]
         refine wt 1 _ ?_
         simp only [red, Act.put]
         refine rd [2] ?_
         refine ac (fun K hK => ?_) ?_
         ·refine step_callG (by rfl) (by kernel_rfl) (HRB _ (hxwb.trans hHeld)) ?_
          rintro e wr2 ⟨rfl, hx2⟩
          rw [hrb]
          refine ⟨_, rfl, ?_⟩
          refine hK.out _ _ ?_ (fun hHeld => ?_)
          ·exact hHeld.trans hx2
          clear hK K
          try simp only [red, Act.put]
          refine wt 3 _ ?_
          simp only [red, Act.put]
          refine wt 4 _ ?_
          simp only [red, Act.put]
          refine ws 5 ?_
          simp only [red, Act.put]
          refine ws 6 ?_
          simp only [red, Act.put]
          refine ws 7 ?_
          simp only [red, Act.put]
          refine ws 8 ?_
          simp only [red, Act.put]
          refine ws 9 ?_
          simp only [red, Act.put]
          refine ws 10 ?_
          simp only [red, Act.put]
          refine ws 11 ?_
          simp only [red, Act.put]
          refine ws 12 ?_
          simp only [red, Act.put]
          refine ws 13 ?_
          simp only [red, Act.put]
          refine ws 14 ?_
          simp only [red, Act.put]
          refine ws 15 ?_
          simp only [red, Act.put]
          refine ws 16 ?_
          simp only [red, Act.put]
          refine ws 17 ?_
          simp only [red, Act.put]
          refine ws 18 ?_
          simp only [red, Act.put]
          refine wpHead_done (by kernel_rfl) ?_
          skip
          have HB2 : Hid (checkU ⟨un, uv, bs⟩ = 4) := Lib.hid (by rw [HU.out, ← HC.out, oneC_form (.inl hrb)]; rfl)
          go_wp2
          go_ret
          exact ⟨by rw [HB2.out]; rfl, (hx0.trans hxwb).trans hHeld⟩
         exact AllHead.nil
        | true =>
         have HRT := Lib.hid hrb
         have HRB2 : ∀ (w' : World), Ext wa w' → Calls Tryz.prog 75 #[.string (st bn)] w' fun e w' => e = .returned (.bool true) ∧ Ext _ w' := fun w' hx' => by have := HRB w' hx'; rwa [hrb] at this
         clear HRB hrb
         rcases (by cases k with | zero => exact .inl rfl | succ k' => exact .inr ⟨k', rfl⟩ : k = 0 ∨ ∃ k', k = k' + 1) with rfl | ⟨k', rfl⟩
         ·
          have HBH := Lib.hid (hbh0 rfl)
          clear hbh0 hbh1
          go_wp2_with fail
          refine wp_region_phase (S := fun w' => Ext wb w') 19 (by kernel_rfl) (by kernel_rfl) ?_ (fun hHeld => ?_)
          ·exact hxn
          simp only [List.drop_succ_cons, List.drop_zero]
          refine name_head ?_
          intro wr0 hw0
          rw [hw0] at hHeld
          refine wt 0 _ ?_
          simp only [red, Act.put]
          refine wt 1 _ ?_
          simp only [red, Act.put]
          refine rd [2] ?_
          refine ac (fun K hK => ?_) ?_
          ·refine step_callG (by rfl) (by kernel_rfl) (HRB2 _ (hxwb.trans hHeld)) ?_
           rintro e wr2 ⟨rfl, hx2⟩
           refine ⟨_, rfl, ?_⟩
           refine hK.out _ _ ?_ (fun hHeld => ?_)
           ·exact hHeld.trans hx2
           clear hK K
           try simp only [red, Act.put]
           refine wt 3 _ ?_
           simp only [red, Act.put]
           refine wt 4 _ ?_
           simp only [red, Act.put]
           refine wt 5 _ ?_
           simp only [red, Act.put]
           refine wt 6 _ ?_
           simp only [red, Act.put]
           refine wt 7 _ ?_
           simp only [red, Act.put]
           refine ws 8 ?_
           simp only [red, Act.put]
           refine ws 9 ?_
           simp only [red, Act.put]
           refine ws 10 ?_
           simp only [red, Act.put]
           refine ws 11 ?_
           simp only [red, Act.put]
           refine ws 12 ?_
           simp only [red, Act.put]
           refine ws 13 ?_
           simp only [red, Act.put]
           refine ws 14 ?_
           simp only [red, Act.put]
           refine ws 15 ?_
           simp only [red, Act.put]
           refine ws 16 ?_
           simp only [red, Act.put]
           refine ws 17 ?_
           simp only [red, Act.put]
           refine wt 18 _ ?_
           simp only [red, Act.put]
           refine wpHead_done (by kernel_rfl) ?_
           skip
           have HOB := Lib.hid (oneC_box (valid := uv) (b := ⟨bn, bval, bnx, bls⟩) HRT.out HBH.out)
           go_wp2_with (with_reducible refine sL 136 ?_)
           refine go_on (wpList_load_row rfl 136 _ rfl wr.heap.size rfl 136 _ (0, 0) _ (Ext.obj hrowB hHeld) Tryz.underlying136 rfl (by kernel_rfl) ?_)
           go_wp2_with fail
           refine (HBC _ ((hxwb).trans hHeld)).mono ?_
           rintro e w5 ⟨rfl, hx5⟩
           have hx5b := Ext.trans hHeld hx5
           clear hx5
           by_cases hbc : boxC ⟨bn, bval, bnx, bls⟩ = 0
           ·rw [hbc]
            have HBX := Lib.hid hbc
            have HO2 := Lib.hid (HOB.out.trans (if_neg (by simpa using hbc)))
            clear HOB hbc
            by_cases hvv : uv < bval
            ·have HB2 : Hid (checkU ⟨un, uv, bs⟩ = 2) := Lib.hid (by rw [HU.out, ← HC.out, HO2.out, if_pos hvv]; rfl)
             go_wp2
             go_ret
             exact ⟨by rw [HB2.out]; rfl, (hx0.trans hxwb).trans hx5b⟩
            ·have HC2 : Hid (boxesC uv (bs.drop (0 + 1)) (prevN bs (0 + 1)) (Tot.add ⟨tl_, ts, tf⟩ ⟨bn, bval, bnx, bls⟩) = boxesC uv bs none ⟨0, 0, false⟩) := Lib.hid (by rw [← HC.out, HO2.out, if_neg hvv]; simp)
             obtain ⟨_, _, hok3, hok4⟩ := boxC_ok HBX.out
             have HBS := fun w' hx' => HBZ w' hx' hok3 (fun l hl => (hok4 l hl).2.2.2)
             have hszle : sizeB ⟨bn, bval, bnx, bls⟩ ≤ 19200 := by
              have := sizeF_le bls (fun l hl => (hok4 l hl).2.2.2) bls.length (Nat.le_refl _)
              rw [List.take_length] at this
              have h3 : bls.length ≤ 32 := hok3
              show sizeF 0 bls ≤ 19200
              omega
             have h3 : bls.length ≤ 32 := hok3
             have HSZ : Hid (∃ z, sizeB ⟨bn, bval, bnx, bls⟩ = z) := Lib.hid ⟨_, rfl⟩
             obtain ⟨sz, hsz⟩ := HSZ.out
             rw [hsz] at HBS hszle
             have HSZ2 := Lib.hid hsz
             have e1 : IntKind.i64.wrap ((tl_ : Int) + (bls.length : Int)) = (tl_ : Int) + (bls.length : Int) := wrap64_nat (tl_ + bls.length) (by omega)
             have e2 : IntKind.i64.wrap ((ts : Int) + (sz : Int)) = (ts : Int) + (sz : Int) := wrap64_nat (ts + sz) (by omega)
             clear hok3 hok4 hsz HBZ HSZ
             cases tf with
             | true =>
              go_wp2_with (with_reducible refine sL 136 ?_)
              refine go_on (wpList_load_row rfl 136 _ rfl wr.heap.size rfl 136 _ (0, 0) _ (Ext.obj hrowB hx5b) Tryz.underlying136 rfl (by kernel_rfl) ?_)
              go_wp2_with fail
              refine (HBS _ (hxwb.trans hx5b)).mono ?_
              rintro e w7 ⟨rfl, hx7⟩
              go_wp2
              go_roundw
              case rel => exact ⟨0 + 1, Tot.add ⟨tl_, ts, true⟩ ⟨bn, bval, bnx, bls⟩, by go_num, by omega, by simp [Tot.add], by simp [Tot.add, HSZ2.out], by simp [Tot.add], by simp only [Tot.add]; omega, by simp only [Tot.add, HSZ2.out]; omega, HC2.out, (hxwb.trans hx5b).trans hx7⟩
              case measure => simp [intOf]; omega
             | false =>
              go_wp2_with (with_reducible refine sL 136 ?_)
              refine go_on (wpList_load_row rfl 136 _ rfl wr.heap.size rfl 136 _ (0, 0) _ (Ext.obj hrowB hx5b) Tryz.underlying136 rfl (by kernel_rfl) ?_)
              go_wp2_with fail
              refine (HBS _ (hxwb.trans hx5b)).mono ?_
              rintro e w7 ⟨rfl, hx7⟩
              go_wp2
              go_roundw
              case rel => exact ⟨0 + 1, Tot.add ⟨tl_, ts, false⟩ ⟨bn, bval, bnx, bls⟩, by go_num, by omega, by simp [Tot.add], by simp [Tot.add, HSZ2.out], by simp only [Tot.add, Bool.false_or]; exact congrArg Value.bool (inbox_dec bn), by simp only [Tot.add]; omega, by simp only [Tot.add, HSZ2.out]; omega, HC2.out, (hxwb.trans hx5b).trans hx7⟩
              case measure => simp [intOf]; omega
           ·have hbc2 : (((boxC ⟨bn, bval, bnx, bls⟩ : Nat) : Int) == 0) = false := by simpa using hbc
            have HB2 : Hid (checkU ⟨un, uv, bs⟩ = boxC ⟨bn, bval, bnx, bls⟩) := Lib.hid (by rw [HU.out, ← HC.out, HOB.out]; simp [hbc])
            generalize boxC ⟨bn, bval, bnx, bls⟩ = z at *
            go_wp2
            go_ret
            exact ⟨by rw [HB2.out]; rfl, (hx0.trans hxwb).trans hx5b⟩
          exact AllHead.nil
         ·
          have hk'lt : k' < bs.length := by omega
          have HBH := Lib.hid (hbh1 k' rfl hk'lt)
          clear hbh0 hbh1
          obtain ⟨ad', cs', hA', _, _, hcell', A3, cap3, hcs3, _⟩ := h.at_ (by omega) hk'lt
          cases hA'
          subst hcs3
          have E0 : ∀ w', Ext wb w' → w'.cell? (ad.add (k' * 4)) = some (.string (st bs[k'].name)) := fun w' hx' => (hxwb.trans hx').cell (hcell' 0 _ rfl)
          have hsub : ((k' + 1 : Nat) : Int) - 1 = (k' : Int) := by omega
          have hwk : IntKind.i64.wrap (k' : Int) = (k' : Int) := wrap64_nat k' (by omega)
          have hk'2 : (k' : Int) < bs.length := by omega
          have hgt : (0 : Int) < ((k' + 1 : Nat) : Int) := by omega
          clear hcell'
          generalize bs[k'].name = pn at *
          cases hle : leB bn pn with
          | true =>
           have hle2 : (Op.bytesLess bn pn || bn == pn) = true := hle
           rw [hle] at HBH
           go_wp2_with fail
           refine wp_region_phase (S := fun w' => Ext wb w') 19 (by kernel_rfl) (by kernel_rfl) ?_ (fun hHeld => ?_)
           ·exact hxn
           simp only [List.drop_succ_cons, List.drop_zero]
           refine name_head ?_
           intro wr0 hw0
           rw [hw0] at hHeld
           refine wt 0 _ ?_
           simp only [red, Act.put]
           refine wt 1 _ ?_
           simp only [red, Act.put]
           refine rd [2] ?_
           refine ac (fun K hK => ?_) ?_
           ·refine step_callG (by rfl) (by kernel_rfl) (HRB2 _ (hxwb.trans hHeld)) ?_
            rintro e wr2 ⟨rfl, hx2⟩
            refine ⟨_, rfl, ?_⟩
            refine hK.out _ _ ?_ (fun hHeld => ?_)
            ·exact hHeld.trans hx2
            clear hK K
            try simp only [red, Act.put]
            refine wt 3 _ ?_
            simp only [red, Act.put]
            refine wt 4 _ ?_
            simp only [red, Act.put]
            refine wt 5 _ ?_
            simp only [red, Act.put]
            refine wt 6 _ ?_
            simp only [red, Act.put]
            refine wt 7 _ ?_
            simp only [red, Act.put]
            refine wt 8 _ ?_
            simp only [red, Act.put]
            refine wt 9 _ ?_
            simp only [red, Act.put]
            refine wt 10 _ ?_
            simp only [red, Act.put]
            refine wt 11 _ ?_
            simp only [red, Act.put]
            refine wt 12 _ ?_
            simp only [red, Act.put]
            refine wt 13 _ ?_
            simp only [red, Act.put]
            refine wt 14 _ ?_
            simp only [red, Act.put]
            refine wt 15 _ ?_
            simp only [red, Act.put]
            refine wt 16 _ ?_
            simp only [red, Act.put]
            refine wt 17 _ ?_
            simp only [red, Act.put]
            refine wt 18 _ ?_
            simp only [red, Act.put]
            refine wpHead_done (by kernel_rfl) ?_
            skip
            have HB2 : Hid (checkU ⟨un, uv, bs⟩ = 4) := Lib.hid (by rw [HU.out, ← HC.out, oneC_form (.inr HBH.out)]; rfl)
            go_wp2
            go_ret
            exact ⟨by rw [HB2.out]; rfl, (hx0.trans hxwb).trans hHeld⟩
           exact AllHead.nil
          | false =>
           have hle2 : (Op.bytesLess bn pn || bn == pn) = false := hle
           rw [hle] at HBH
           go_wp2_with fail
           refine wp_region_phase (S := fun w' => Ext wb w') 19 (by kernel_rfl) (by kernel_rfl) ?_ (fun hHeld => ?_)
           ·exact hxn
           simp only [List.drop_succ_cons, List.drop_zero]
           refine name_head ?_
           intro wr0 hw0
           rw [hw0] at hHeld
           refine wt 0 _ ?_
           simp only [red, Act.put]
           refine wt 1 _ ?_
           simp only [red, Act.put]
           refine rd [2] ?_
           refine ac (fun K hK => ?_) ?_
           ·refine step_callG (by rfl) (by kernel_rfl) (HRB2 _ (hxwb.trans hHeld)) ?_
            rintro e wr2 ⟨rfl, hx2⟩
            refine ⟨_, rfl, ?_⟩
            refine hK.out _ _ ?_ (fun hHeld => ?_)
            ·exact hHeld.trans hx2
            clear hK K
            try simp only [red, Act.put]
            refine wt 3 _ ?_
            simp only [red, Act.put]
            refine wt 4 _ ?_
            simp only [red, Act.put]
            refine wt 5 _ ?_
            simp only [red, Act.put]
            refine wt 6 _ ?_
            simp only [red, Act.put]
            refine wt 7 _ ?_
            simp only [red, Act.put]
            refine wt 8 _ ?_
            simp only [red, Act.put]
            refine wt 9 _ ?_
            simp only [red, Act.put]
            refine wt 10 _ ?_
            simp only [red, Act.put]
            refine wt 11 _ ?_
            simp only [red, Act.put]
            refine wt 12 _ ?_
            simp only [red, Act.put]
            refine wt 13 _ ?_
            simp only [red, Act.put]
            refine wt 14 _ ?_
            simp only [red, Act.put]
            refine wt 15 _ ?_
            simp only [red, Act.put]
            refine wt 16 _ ?_
            simp only [red, Act.put]
            refine wt 17 _ ?_
            simp only [red, Act.put]
            refine wt 18 _ ?_
            simp only [red, Act.put]
            refine wpHead_done (by kernel_rfl) ?_
            skip
            have HOB := Lib.hid (oneC_box (valid := uv) (b := ⟨bn, bval, bnx, bls⟩) HRT.out HBH.out)
            go_wp2_with (with_reducible refine sL 136 ?_)
            refine go_on (wpList_load_row rfl 136 _ rfl wr.heap.size rfl 136 _ (0, 0) _ (Ext.obj hrowB hHeld) Tryz.underlying136 rfl (by kernel_rfl) ?_)
            go_wp2_with fail
            refine (HBC _ ((hxwb).trans hHeld)).mono ?_
            rintro e w5 ⟨rfl, hx5⟩
            have hx5b := Ext.trans hHeld hx5
            clear hx5
            by_cases hbc : boxC ⟨bn, bval, bnx, bls⟩ = 0
            ·rw [hbc]
             have HBX := Lib.hid hbc
             have HO2 := Lib.hid (HOB.out.trans (if_neg (by simpa using hbc)))
             clear HOB hbc
             by_cases hvv : uv < bval
             ·have HB2 : Hid (checkU ⟨un, uv, bs⟩ = 2) := Lib.hid (by rw [HU.out, ← HC.out, HO2.out, if_pos hvv]; rfl)
              go_wp2
              go_ret
              exact ⟨by rw [HB2.out]; rfl, (hx0.trans hxwb).trans hx5b⟩
             ·have HC2 : Hid (boxesC uv (bs.drop (k' + 1 + 1)) (prevN bs (k' + 1 + 1)) (Tot.add ⟨tl_, ts, tf⟩ ⟨bn, bval, bnx, bls⟩) = boxesC uv bs none ⟨0, 0, false⟩) := Lib.hid (by rw [← HC.out, HO2.out, if_neg hvv]; simp)
              obtain ⟨_, _, hok3, hok4⟩ := boxC_ok HBX.out
              have HBS := fun w' hx' => HBZ w' hx' hok3 (fun l hl => (hok4 l hl).2.2.2)
              have hszle : sizeB ⟨bn, bval, bnx, bls⟩ ≤ 19200 := by
               have := sizeF_le bls (fun l hl => (hok4 l hl).2.2.2) bls.length (Nat.le_refl _)
               rw [List.take_length] at this
               have h3 : bls.length ≤ 32 := hok3
               show sizeF 0 bls ≤ 19200
               omega
              have h3 : bls.length ≤ 32 := hok3
              have HSZ : Hid (∃ z, sizeB ⟨bn, bval, bnx, bls⟩ = z) := Lib.hid ⟨_, rfl⟩
              obtain ⟨sz, hsz⟩ := HSZ.out
              rw [hsz] at HBS hszle
              have HSZ2 := Lib.hid hsz
              have e1 : IntKind.i64.wrap ((tl_ : Int) + (bls.length : Int)) = (tl_ : Int) + (bls.length : Int) := wrap64_nat (tl_ + bls.length) (by omega)
              have e2 : IntKind.i64.wrap ((ts : Int) + (sz : Int)) = (ts : Int) + (sz : Int) := wrap64_nat (ts + sz) (by omega)
              clear hok3 hok4 hsz HBZ HSZ
              cases tf with
              | true =>
               go_wp2_with (with_reducible refine sL 136 ?_)
               refine go_on (wpList_load_row rfl 136 _ rfl wr.heap.size rfl 136 _ (0, 0) _ (Ext.obj hrowB hx5b) Tryz.underlying136 rfl (by kernel_rfl) ?_)
               go_wp2_with fail
               refine (HBS _ (hxwb.trans hx5b)).mono ?_
               rintro e w7 ⟨rfl, hx7⟩
               go_wp2
               go_roundw
               case rel => exact ⟨k' + 1 + 1, Tot.add ⟨tl_, ts, true⟩ ⟨bn, bval, bnx, bls⟩, by go_num, by omega, by simp [Tot.add], by simp [Tot.add, HSZ2.out], by simp [Tot.add], by simp only [Tot.add]; omega, by simp only [Tot.add, HSZ2.out]; omega, HC2.out, (hxwb.trans hx5b).trans hx7⟩
               case measure => simp [intOf]; omega
              | false =>
               go_wp2_with (with_reducible refine sL 136 ?_)
               refine go_on (wpList_load_row rfl 136 _ rfl wr.heap.size rfl 136 _ (0, 0) _ (Ext.obj hrowB hx5b) Tryz.underlying136 rfl (by kernel_rfl) ?_)
               go_wp2_with fail
               refine (HBS _ (hxwb.trans hx5b)).mono ?_
               rintro e w7 ⟨rfl, hx7⟩
               go_wp2
               go_roundw
               case rel => exact ⟨k' + 1 + 1, Tot.add ⟨tl_, ts, false⟩ ⟨bn, bval, bnx, bls⟩, by go_num, by omega, by simp [Tot.add], by simp [Tot.add, HSZ2.out], by simp only [Tot.add, Bool.false_or]; exact congrArg Value.bool (inbox_dec bn), by simp only [Tot.add]; omega, by simp only [Tot.add, HSZ2.out]; omega, HC2.out, (hxwb.trans hx5b).trans hx7⟩
               case measure => simp [intOf]; omega
            ·have hbc2 : (((boxC ⟨bn, bval, bnx, bls⟩ : Nat) : Int) == 0) = false := by simpa using hbc
             have HB2 : Hid (checkU ⟨un, uv, bs⟩ = boxC ⟨bn, bval, bnx, bls⟩) := Lib.hid (by rw [HU.out, ← HC.out, HOB.out]; simp [hbc])
             generalize boxC ⟨bn, bval, bnx, bls⟩ = z at *
             go_wp2
             go_ret
             exact ⟨by rw [HB2.out]; rfl, (hx0.trans hxwb).trans hx5b⟩
           exact AllHead.nil
       ·have hd : bs.drop k = [] := List.drop_eq_nil_of_le (by omega)
        rw [hd, boxesC] at hrun
        cases tf with
        | false =>
         have HB : Hid (checkU ⟨un, uv, bs⟩ = 4) := Lib.hid (by rw [HU.out, ← hrun]; rfl)
         clear hrun hd
         go_wp2
         go_ret
         exact ⟨by rw [HB.out]; rfl, hx0.trans hx⟩
        | true =>
         have HB : Hid (checkU ⟨un, uv, bs⟩ = if 40 < tl_ ∨ 1200 < ts then 8 else 0) := Lib.hid (by rw [HU.out, ← hrun]; rfl)
         clear hrun hd
         by_cases h40 : (40 : Int) < (tl_ : Int)
         ·have HB2 : Hid (checkU ⟨un, uv, bs⟩ = 8) := Lib.hid (by rw [HB.out, if_pos (.inl (by omega))])
          go_wp2
          go_ret
          exact ⟨by rw [HB2.out]; rfl, hx0.trans hx⟩
         ·by_cases h12 : (1200 : Int) < (ts : Int)
          ·have HB2 : Hid (checkU ⟨un, uv, bs⟩ = 8) := Lib.hid (by rw [HB.out, if_pos (.inr (by omega))])
           go_wp2
           go_ret
           exact ⟨by rw [HB2.out]; rfl, hx0.trans hx⟩
          ·have HB2 : Hid (checkU ⟨un, uv, bs⟩ = 0) := Lib.hid (by rw [HB.out, if_neg (by omega)])
           go_wp2
           go_ret
           exact ⟨by rw [HB2.out]; rfl, hx0.trans hx⟩
end Go.Proofs.YthlppbbejdeeoaaGreatDoor
