/- The walk of deed.PutUser. Conditions: the bounds named. The walks of the reference's Check and Size of boxes. Conditions: the hypotheses of each theorem. -/
import Derived.Test.YthlppbbejdeeoaaGreatDoorC6
import Derived.Test.YthlppbbejdeeoaaGreatDoorC3
import Derived.BigQuiet
import Derived.Deep.QuietTactic
namespace Go.Proofs.YthlppbbejdeeoaaGreatDoor
open Go.RowKit
end Go.Proofs.YthlppbbejdeeoaaGreatDoor
namespace Go.Proofs.YthlppbbejdeeoaaGreatDoor
open Go.RowKit
def prevU (ls : List Lt) : Nat → Int
 | 0 => 0
 | k + 1 => (ls[k]?.map (·.uid)).getD 0
set_option maxRecDepth 20000 in
set_option maxHeartbeats 4000000 in
theorem R8Check_any (b : Bx) (A : Option Addr) (cap : Nat) (w : World) (h : RsM RLt 3 [] w A b.letters) : Calls Tryz.prog 101 #[.agg (bxC b (.slice A b.letters.length cap))] w fun e w' => e = .returned (.int .i64 (boxC b : Nat)) ∧ Ext w w' := by
 have hx0 : Ext w (w.alloc (.cells (bxC b (.slice A b.letters.length cap)) 136)) := (Ext.refl w).alloc _
 have hrow := heap_alloc_new w (.cells (bxC b (.slice A b.letters.length cap)) 136)
 have HE : Hid (boxC b = if ¬ (1 ≤ b.valid ∧ b.valid ≤ 4294967295 ∧ 1 ≤ b.next ∧ b.next ≤ 4294967295) then 2 else if 32 < b.letters.length then 8 else lettersC b.next b.letters 0) := Lib.hid (by
  unfold boxC numB
  by_cases h1 : 1 ≤ b.valid <;> by_cases h2 : b.valid ≤ 4294967295 <;> by_cases h3 : 1 ≤ b.next <;> by_cases h4 : b.next ≤ 4294967295 <;> simp [h1, h2, h3, h4])
 obtain ⟨wa, hwa⟩ : ∃ wa, wa = w.alloc (.cells (bxC b (.slice A b.letters.length cap)) 136) := ⟨_, rfl⟩
 rw [← hwa] at hx0 hrow
 obtain ⟨bn, bvv, bnx, bls⟩ := b
 simp only at *
 obtain ⟨C0, C1, C2, C3, FF⟩ := rows4 hrow
 clear FF
 have h := h.kept (.of_ext hx0)
 have HWA := Lib.hid hwa
 clear hwa hrow
 unfold bxC at *
 have hwa := HWA.out.symm
 go_enter Tryz.func101, Tryz.ntmps101
 by_cases hr : 1 ≤ bvv ∧ bvv ≤ 4294967295 ∧ 1 ≤ bnx ∧ bnx ≤ 4294967295
 ·obtain ⟨r1, r2, r3, r4⟩ := hr
  have HE2 := Lib.hid (HE.out.trans (if_neg (by simp [r1, r2, r3, r4])))
  have k1 : ¬ bvv < 1 := by omega
  have k2 : ¬ 4294967295 < bvv := by omega
  have k3 : ¬ bnx < 1 := by omega
  have k4 : ¬ 4294967295 < bnx := by omega
  clear HE
  by_cases h32 : 32 < bls.length
  ·have k0 : (32 : Int) < (bls.length : Int) := by omega
   have HB : Hid (boxC ⟨bn, bvv, bnx, bls⟩ = 8) := Lib.hid (by rw [HE2.out, if_pos h32])
   clear h32
   go_wp2
   go_ret
   exact ⟨by rw [HB.out]; rfl, hx0⟩
  ·have k0 : ¬ (32 : Int) < (bls.length : Int) := by omega
   have HB : Hid (boxC ⟨bn, bvv, bnx, bls⟩ = lettersC bnx bls 0) := Lib.hid (by rw [HE2.out, if_neg h32])
   clear HE2
   go_wp2
   go_loopw [3] (fun iv wr => ∃ k : Nat, iv = .int .i64 k ∧ k ≤ bls.length ∧ lettersC bnx (bls.drop k) (prevU bls k) = lettersC bnx bls 0 ∧ (0 < k → 1 ≤ prevU bls k) ∧ Ext wa wr) (fun iv _ => bls.length - (intOf iv).toNat)
   case atStart => exact ⟨0, rfl, by omega, rfl, by simp, Ext.refl _⟩
   case round =>
    obtain ⟨k, rfl, hk, hc, hpos, hx⟩ := hrel
    by_cases hlt : k < bls.length
    ·obtain ⟨ad, cs, rfl, had, hcs, hcell, A2, cap2, rfl, hby⟩ := h.at_ (by omega) hlt
     rw [lettersC_drop _ _ _ _ hlt] at hc
     have HC := Lib.hid hc
     have hlt2 : (k : Int) < bls.length := by omega
     have hcl := fun j v hj => hx.cell (show wa.cell? ((ad.add (k * 3)).add j) = some v by rw [add_addB]; exact hcell j v hj)
     have HPV : Hid (prevU bls (k + 1) = bls[k].uid) := Lib.hid (by simp [prevU, hlt])
     have hp0 : k = 0 → prevU bls k = 0 := by rintro rfl; rfl
     have hpk : ∀ k' (e : k = k' + 1) (hk' : k' < bls.length), prevU bls k = bls[k'].uid := by rintro k' rfl hk'; simp [prevU, hk']
     clear hc had hcs hcell hby
     generalize bls[k] = lt at *
     obtain ⟨lu, lf, lb⟩ := lt
     simp only at *
     unfold ltC at hcl
     go_wp2_with (with_reducible first | refine sA 138 ?_ | refine sS 138 ?_ | refine sL 138 ?_)
     refine go_on (wpList_load_elem rfl 138 _ rfl (ad.add (k * 3)) rfl _ _ hcl Tryz.underlying138 rfl (by kernel_rfl) ?_)
     go_wp2_with (with_reducible first | refine sA 138 ?_ | refine sS 138 ?_ | refine sL 138 ?_)
     refine go_on (wpList_alloc_ rfl rfl letter_info ?_)
     go_wp2_with (with_reducible first | refine sA 138 ?_ | refine sS 138 ?_ | refine sL 138 ?_)
     refine go_on (wpList_store_last rfl rfl rfl rfl (by kernel_rfl) rfl (by simp [Value.oneCell']) ?_)
     intro wb hrowL hxb _
     have hxwb := hx.trans hxb
     obtain ⟨D0, D1, D2, _⟩ := rows3 hrowL
     try simp only at D0 D1 D2
     have C2' := fun w' hx' => C2 w' (Ext.trans hxwb hx')
     have C3' := fun w' hx' => C3 w' (Ext.trans hxwb hx')
     have hxn : Ext wb wb.drew := (Ext.refl _).drew
     clear C0 C1 C2 C3 hcl
     by_cases hu1 : lu < 1
     ·have hle : lu ≤ prevU bls k := by
       rcases Nat.eq_zero_or_pos k with h0 | h0
       ·rw [hp0 h0]; omega
       ·have := hpos h0; omega
      have d1 : decide (lu < 1) = true := decide_eq_true hu1
      clear hp0 hpk hpos
      have HB2 : Hid (lettersC bnx bls 0 = 4) := Lib.hid (by rw [← HC.out, if_pos (.inl hle)])
      go_wp2_with fail
      refine wp_region_phase (S := fun w' => Ext wb w') 25 (by kernel_rfl) (by kernel_rfl) ?_ (fun hHeld => ?_)
      ·exact hxn
      simp only [List.drop_succ_cons, List.drop_zero]
      refine name_head ?_
      intro wr0 hw0
      rw [hw0] at hHeld
      refine wt 0 _ ?_
      simp only [red, Act.put]
      refine wt 1 _ ?_
      simp only [red, Act.put]
      refine wt 2 _ ?_
      simp only [red, Act.put]
      refine wt 3 _ ?_
      simp only [red, Act.put]
      refine ws 4 ?_
      simp only [red, Act.put]
      refine ws 5 ?_
      simp only [red, Act.put]
      refine ws 6 ?_
      simp only [red, Act.put]
      refine ws 7 ?_
      simp only [red, Act.put]
      refine ws 8 ?_
      simp only [red, Act.put]
      refine wt 9 _ ?_
      simp only [red, Act.put]
      refine wt 10 _ ?_
      simp only [red, Act.put]
      refine ws 11 ?_
      simp only [red, Act.put]
      refine ws 12 ?_
      simp only [red, Act.put]
      refine ws 13 ?_
      simp only [red, Act.put]
      refine ws 14 ?_
      simp only [red, Act.put]
      refine ws 15 ?_
      simp only [red, Act.put]
      refine ws 16 ?_
      simp only [red, Act.put]
      refine ws 17 ?_
      simp only [red, Act.put]
      refine ws 18 ?_
      simp only [red, Act.put]
      refine ws 19 ?_
      simp only [red, Act.put]
      refine ws 20 ?_
      simp only [red, Act.put]
      refine ws 21 ?_
      simp only [red, Act.put]
      refine ws 22 ?_
      simp only [red, Act.put]
      refine ws 23 ?_
      simp only [red, Act.put]
      refine ws 24 ?_
      simp only [red, Act.put]
      refine wpHead_done (by kernel_rfl) ?_
      go_wp2
      go_ret
      exact ⟨by rw [HB.out, HB2.out]; rfl, hx0.trans (hxwb.trans hHeld)⟩
     ·have d1 : decide (lu < 1) = false := decide_eq_false hu1
      by_cases hu2 : bnx ≤ lu
      ·have d2 : decide (bnx ≤ lu) = true := decide_eq_true hu2
       clear hp0 hpk hpos
       have HB2 : Hid (lettersC bnx bls 0 = 4) := Lib.hid (by rw [← HC.out, if_pos (.inr hu2)])
       go_wp2_with fail
       refine wp_region_phase (S := fun w' => Ext wb w') 25 (by kernel_rfl) (by kernel_rfl) ?_ (fun hHeld => ?_)
       ·exact hxn
       simp only [List.drop_succ_cons, List.drop_zero]
       refine name_head ?_
       intro wr0 hw0
       rw [hw0] at hHeld
       refine wt 0 _ ?_
       simp only [red, Act.put]
       refine wt 1 _ ?_
       simp only [red, Act.put]
       refine wt 2 _ ?_
       simp only [red, Act.put]
       refine wt 3 _ ?_
       simp only [red, Act.put]
       refine wt 4 _ ?_
       simp only [red, Act.put]
       refine wt 5 _ ?_
       simp only [red, Act.put]
       refine wt 6 _ ?_
       simp only [red, Act.put]
       refine wt 7 _ ?_
       simp only [red, Act.put]
       refine wt 8 _ ?_
       simp only [red, Act.put]
       refine wt 9 _ ?_
       simp only [red, Act.put]
       refine wt 10 _ ?_
       simp only [red, Act.put]
       refine ws 11 ?_
       simp only [red, Act.put]
       refine ws 12 ?_
       simp only [red, Act.put]
       refine ws 13 ?_
       simp only [red, Act.put]
       refine ws 14 ?_
       simp only [red, Act.put]
       refine ws 15 ?_
       simp only [red, Act.put]
       refine ws 16 ?_
       simp only [red, Act.put]
       refine ws 17 ?_
       simp only [red, Act.put]
       refine ws 18 ?_
       simp only [red, Act.put]
       refine ws 19 ?_
       simp only [red, Act.put]
       refine ws 20 ?_
       simp only [red, Act.put]
       refine ws 21 ?_
       simp only [red, Act.put]
       refine ws 22 ?_
       simp only [red, Act.put]
       refine ws 23 ?_
       simp only [red, Act.put]
       refine ws 24 ?_
       simp only [red, Act.put]
       refine wpHead_done (by kernel_rfl) ?_
       go_wp2
       go_ret
       exact ⟨by rw [HB.out, HB2.out]; rfl, hx0.trans (hxwb.trans hHeld)⟩
      ·have d2 : decide (bnx ≤ lu) = false := decide_eq_false hu2
       rcases (by cases k with | zero => exact .inl rfl | succ k' => exact .inr ⟨k', rfl⟩ : k = 0 ∨ ∃ k', k = k' + 1) with rfl | ⟨k', rfl⟩
       ·have hp := hp0 rfl
        rw [hp] at HC
        clear hp0 hpk hpos hp
        have HC2 := Lib.hid (HC.out.symm.trans (if_neg (by omega)))
        clear HC
        go_wp2_with fail
        refine wp_region_phase (S := fun w' => Ext wb w') 25 (by kernel_rfl) (by kernel_rfl) ?_ (fun hHeld => ?_)
        ·exact hxn
        simp only [List.drop_succ_cons, List.drop_zero]
        refine name_head ?_
        intro wr0 hw0
        rw [hw0] at hHeld
        refine wt 0 _ ?_
        simp only [red, Act.put]
        refine wt 1 _ ?_
        simp only [red, Act.put]
        refine wt 2 _ ?_
        simp only [red, Act.put]
        refine wt 3 _ ?_
        simp only [red, Act.put]
        refine wt 4 _ ?_
        simp only [red, Act.put]
        refine wt 5 _ ?_
        simp only [red, Act.put]
        refine wt 6 _ ?_
        simp only [red, Act.put]
        refine wt 7 _ ?_
        simp only [red, Act.put]
        refine wt 8 _ ?_
        simp only [red, Act.put]
        refine wt 9 _ ?_
        simp only [red, Act.put]
        refine wt 10 _ ?_
        simp only [red, Act.put]
        refine wt 11 _ ?_
        simp only [red, Act.put]
        refine wt 12 _ ?_
        simp only [red, Act.put]
        refine wt 13 _ ?_
        simp only [red, Act.put]
        refine ws 14 ?_
        simp only [red, Act.put]
        refine ws 15 ?_
        simp only [red, Act.put]
        refine ws 16 ?_
        simp only [red, Act.put]
        refine ws 17 ?_
        simp only [red, Act.put]
        refine ws 18 ?_
        simp only [red, Act.put]
        refine ws 19 ?_
        simp only [red, Act.put]
        refine ws 20 ?_
        simp only [red, Act.put]
        refine ws 21 ?_
        simp only [red, Act.put]
        refine ws 22 ?_
        simp only [red, Act.put]
        refine ws 23 ?_
        simp only [red, Act.put]
        refine wt 24 _ ?_
        simp only [red, Act.put]
        refine wpHead_done (by kernel_rfl) ?_
        skip
        by_cases hf : (31 : Int) < (lf.toNat : Int)
        ·have HB2 : Hid (lettersC bnx bls 0 = 2) := Lib.hid (by rw [HC2.out, if_pos (by omega)])
         go_wp2
         go_ret
         exact ⟨by rw [HB.out, HB2.out]; rfl, hx0.trans (hxwb.trans hHeld)⟩
        ·have HC3 := Lib.hid (HC2.out.trans (if_neg (by omega)))
         clear HC2
         by_cases hb : (600 : Int) < (lb.length : Int)
         ·have HB2 : Hid (lettersC bnx bls 0 = 6) := Lib.hid (by rw [HC3.out, if_pos (by omega)])
          go_wp2
          go_ret
          exact ⟨by rw [HB.out, HB2.out]; rfl, hx0.trans (hxwb.trans hHeld)⟩
         ·have HC4 := Lib.hid (HC3.out.trans (if_neg (by omega)))
          clear HC3
          go_wp2
          go_roundw
          case rel => exact ⟨0 + 1, by go_num, by omega, by rw [HPV.out]; exact HC4.out.symm, fun _ => by rw [HPV.out]; omega, hxwb.trans hHeld⟩
          case measure => simp [intOf]; omega
       ·have hk'lt : k' < bls.length := by omega
        have hp := hpk k' rfl hk'lt
        rw [hp] at HC
        obtain ⟨ad', cs', hA', _, _, hcell', A3, cap3, hcs3, _⟩ := h.at_ (by omega) hk'lt
        cases hA'
        subst hcs3
        have E0 : ∀ w', Ext wb w' → w'.cell? (ad.add (k' * 3)) = some (.int .i64 bls[k'].uid) := fun w' hx' => (hxwb.trans hx').cell (hcell' 0 _ rfl)
        have hsub : ((k' + 1 : Nat) : Int) - 1 = (k' : Int) := by omega
        have hwk : IntKind.i64.wrap (k' : Int) = (k' : Int) := wrap64_nat k' (by omega)
        have hk'2 : (k' : Int) < bls.length := by omega
        have hgt : (0 : Int) < ((k' + 1 : Nat) : Int) := by omega
        have d3 : decide ((0 : Int) < (k' : Int) + 1) = true := decide_eq_true (by omega)
        clear hcell' hp0 hpk hpos hp
        generalize bls[k'].uid = pu at *
        by_cases hu3 : lu ≤ pu
        ·have d4 : decide (lu ≤ pu) = true := decide_eq_true hu3
         have HB2 : Hid (lettersC bnx bls 0 = 4) := Lib.hid (by rw [← HC.out, if_pos (.inl hu3)])
         go_wp2_with fail
         refine wp_region_phase (S := fun w' => Ext wb w') 25 (by kernel_rfl) (by kernel_rfl) ?_ (fun hHeld => ?_)
         ·exact hxn
         simp only [List.drop_succ_cons, List.drop_zero]
         refine name_head ?_
         intro wr0 hw0
         rw [hw0] at hHeld
         refine wt 0 _ ?_
         simp only [red, Act.put]
         refine wt 1 _ ?_
         simp only [red, Act.put]
         refine wt 2 _ ?_
         simp only [red, Act.put]
         refine wt 3 _ ?_
         simp only [red, Act.put]
         refine wt 4 _ ?_
         simp only [red, Act.put]
         refine wt 5 _ ?_
         simp only [red, Act.put]
         refine wt 6 _ ?_
         simp only [red, Act.put]
         refine wt 7 _ ?_
         simp only [red, Act.put]
         refine wt 8 _ ?_
         simp only [red, Act.put]
         refine wt 9 _ ?_
         simp only [red, Act.put]
         refine wt 10 _ ?_
         simp only [red, Act.put]
         refine wt 11 _ ?_
         simp only [red, Act.put]
         refine wt 12 _ ?_
         simp only [red, Act.put]
         refine wt 13 _ ?_
         simp only [red, Act.put]
         refine wt 14 _ ?_
         simp only [red, Act.put]
         refine wt 15 _ ?_
         simp only [red, Act.put]
         refine wt 16 _ ?_
         simp only [red, Act.put]
         refine wt 17 _ ?_
         simp only [red, Act.put]
         refine wt 18 _ ?_
         simp only [red, Act.put]
         refine wt 19 _ ?_
         simp only [red, Act.put]
         refine wt 20 _ ?_
         simp only [red, Act.put]
         refine wt 21 _ ?_
         simp only [red, Act.put]
         refine wt 22 _ ?_
         simp only [red, Act.put]
         refine wt 23 _ ?_
         simp only [red, Act.put]
         refine wt 24 _ ?_
         simp only [red, Act.put]
         refine wpHead_done (by kernel_rfl) ?_
         go_wp2
         go_ret
         exact ⟨by rw [HB.out, HB2.out]; rfl, hx0.trans (hxwb.trans hHeld)⟩
        ·have d4 : decide (lu ≤ pu) = false := decide_eq_false hu3
         have HC2 := Lib.hid (HC.out.symm.trans (if_neg (by omega)))
         clear HC
         go_wp2_with fail
         refine wp_region_phase (S := fun w' => Ext wb w') 25 (by kernel_rfl) (by kernel_rfl) ?_ (fun hHeld => ?_)
         ·exact hxn
         simp only [List.drop_succ_cons, List.drop_zero]
         refine name_head ?_
         intro wr0 hw0
         rw [hw0] at hHeld
         refine wt 0 _ ?_
         simp only [red, Act.put]
         refine wt 1 _ ?_
         simp only [red, Act.put]
         refine wt 2 _ ?_
         simp only [red, Act.put]
         refine wt 3 _ ?_
         simp only [red, Act.put]
         refine wt 4 _ ?_
         simp only [red, Act.put]
         refine wt 5 _ ?_
         simp only [red, Act.put]
         refine wt 6 _ ?_
         simp only [red, Act.put]
         refine wt 7 _ ?_
         simp only [red, Act.put]
         refine wt 8 _ ?_
         simp only [red, Act.put]
         refine wt 9 _ ?_
         simp only [red, Act.put]
         refine wt 10 _ ?_
         simp only [red, Act.put]
         refine wt 11 _ ?_
         simp only [red, Act.put]
         refine wt 12 _ ?_
         simp only [red, Act.put]
         refine wt 13 _ ?_
         simp only [red, Act.put]
         refine wt 14 _ ?_
         simp only [red, Act.put]
         refine wt 15 _ ?_
         simp only [red, Act.put]
         refine wt 16 _ ?_
         simp only [red, Act.put]
         refine wt 17 _ ?_
         simp only [red, Act.put]
         refine wt 18 _ ?_
         simp only [red, Act.put]
         refine wt 19 _ ?_
         simp only [red, Act.put]
         refine wt 20 _ ?_
         simp only [red, Act.put]
         refine wt 21 _ ?_
         simp only [red, Act.put]
         refine wt 22 _ ?_
         simp only [red, Act.put]
         refine wt 23 _ ?_
         simp only [red, Act.put]
         refine wt 24 _ ?_
         simp only [red, Act.put]
         refine wpHead_done (by kernel_rfl) ?_
         skip
         by_cases hf : (31 : Int) < (lf.toNat : Int)
         ·have HB2 : Hid (lettersC bnx bls 0 = 2) := Lib.hid (by rw [HC2.out, if_pos (by omega)])
          go_wp2
          go_ret
          exact ⟨by rw [HB.out, HB2.out]; rfl, hx0.trans (hxwb.trans hHeld)⟩
         ·have HC3 := Lib.hid (HC2.out.trans (if_neg (by omega)))
          clear HC2
          by_cases hb : (600 : Int) < (lb.length : Int)
          ·have HB2 : Hid (lettersC bnx bls 0 = 6) := Lib.hid (by rw [HC3.out, if_pos (by omega)])
           go_wp2
           go_ret
           exact ⟨by rw [HB.out, HB2.out]; rfl, hx0.trans (hxwb.trans hHeld)⟩
          ·have HC4 := Lib.hid (HC3.out.trans (if_neg (by omega)))
           clear HC3
           go_wp2
           go_roundw
           case rel => exact ⟨k' + 1 + 1, by go_num, by omega, by rw [HPV.out]; exact HC4.out.symm, fun _ => by rw [HPV.out]; omega, hxwb.trans hHeld⟩
           case measure => simp [intOf]; omega
    ·have hd : bls.drop k = [] := List.drop_eq_nil_of_le (by omega)
     rw [hd, lettersC] at hc
     have HC := Lib.hid hc
     clear hc hd
     go_wp2
     go_ret
     exact ⟨by rw [HB.out, ← HC.out]; rfl, hx0.trans hx⟩
 ·have HB : Hid (boxC ⟨bn, bvv, bnx, bls⟩ = 2) := Lib.hid (by rw [HE.out, if_pos hr])
  clear HE
  by_cases k1 : bvv < 1
  ·go_wp2
   go_ret
   exact ⟨by rw [HB.out]; rfl, hx0⟩
  ·by_cases k2 : 4294967295 < bvv
   ·go_wp2
    go_ret
    exact ⟨by rw [HB.out]; rfl, hx0⟩
   ·by_cases k3 : bnx < 1
    ·go_wp2
     go_ret
     exact ⟨by rw [HB.out]; rfl, hx0⟩
    ·have k4 : 4294967295 < bnx := by omega
     go_wp2
     go_ret
     exact ⟨by rw [HB.out]; rfl, hx0⟩
end Go.Proofs.YthlppbbejdeeoaaGreatDoor
