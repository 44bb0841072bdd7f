/- The walks of the reference's Check and Size of boxes. Conditions: the hypotheses of each theorem. The reference's Same of boxes and SameUser at what is the same. Conditions: what is read stands in memory; the bounds named. The walks of the reference's Size of boxes and CheckUser. Conditions: the hypotheses of each theorem; the library's two tables. -/
import Derived.Test.YtameamfaaenboaaDoorC5
import Derived.BigQuiet
import Derived.Deep.QuietTactic
import Derived.Test.YtameamfaaenboaaDoorC6
import Derived.Test.YtameamfaaenboaaDoorC7
namespace Go.Proofs.YtameamfaaenboaaDoor
open Go.RowKit
def prevU (ls : List Lt) : Nat → Int
  | 0 => 0
  | k + 1 => (ls[k]?.map (·.uid)).getD 0
set_option maxRecDepth 20000 in
set_option maxHeartbeats 4000000 in
theorem R8Check_any (b : Bx) (A : Option Addr) (cap : Nat) (w : World) (h : RsM RLt 3 [] w A b.letters) : Calls Tryd.prog 55 #[.agg (bxC b (.slice A b.letters.length cap))] w fun e w' => e = .returned (.int .i64 (boxC b : Nat)) ∧ Ext w w' := by
  have hx0 : Ext w (w.alloc (.cells (bxC b (.slice A b.letters.length cap)) 51)) := (Ext.refl w).alloc _
  have hrow := heap_alloc_new w (.cells (bxC b (.slice A b.letters.length cap)) 51)
  have HE : Hid (boxC b = if ¬ (1 ≤ b.valid ∧ b.valid ≤ 4294967295 ∧ 1 ≤ b.next ∧ b.next ≤ 4294967295) then 2 else if 32 < b.letters.length then 8 else lettersC b.next b.letters 0) := Lib.hid (by
    unfold boxC numB
    by_cases h1 : 1 ≤ b.valid <;> by_cases h2 : b.valid ≤ 4294967295 <;> by_cases h3 : 1 ≤ b.next <;> by_cases h4 : b.next ≤ 4294967295 <;> simp [h1, h2, h3, h4])
  obtain ⟨wa, hwa⟩ : ∃ wa, wa = w.alloc (.cells (bxC b (.slice A b.letters.length cap)) 51) := ⟨_, rfl⟩
  rw [← hwa] at hx0 hrow
  obtain ⟨bn, bvv, bnx, bls⟩ := b
  simp only at *
  obtain ⟨C0, C1, C2, C3, FF⟩ := rows4 hrow
  clear FF
  have h := h.kept (.of_ext hx0)
  have HWA := Lib.hid hwa
  clear hwa hrow
  unfold bxC at *
  have hwa := HWA.out.symm
  go_enter Tryd.func55, Tryd.ntmps55
  by_cases hr : 1 ≤ bvv ∧ bvv ≤ 4294967295 ∧ 1 ≤ bnx ∧ bnx ≤ 4294967295
  · obtain ⟨r1, r2, r3, r4⟩ := hr
    have HE2 := Lib.hid (HE.out.trans (if_neg (by simp [r1, r2, r3, r4])))
    have k1 : ¬ bvv < 1 := by omega
    have k2 : ¬ 4294967295 < bvv := by omega
    have k3 : ¬ bnx < 1 := by omega
    have k4 : ¬ 4294967295 < bnx := by omega
    clear HE
    by_cases h32 : 32 < bls.length
    · have k0 : (32 : Int) < (bls.length : Int) := by omega
      have HB : Hid (boxC ⟨bn, bvv, bnx, bls⟩ = 8) := Lib.hid (by rw [HE2.out, if_pos h32])
      clear h32
      go_wp2
      go_ret
      exact ⟨by rw [HB.out]; rfl, hx0⟩
    · have k0 : ¬ (32 : Int) < (bls.length : Int) := by omega
      have HB : Hid (boxC ⟨bn, bvv, bnx, bls⟩ = lettersC bnx bls 0) := Lib.hid (by rw [HE2.out, if_neg h32])
      clear HE2
      go_wp2
      go_loopw [3] (fun iv wr => ∃ k : Nat, iv = .int .i64 k ∧ k ≤ bls.length ∧ lettersC bnx (bls.drop k) (prevU bls k) = lettersC bnx bls 0 ∧ (0 < k → 1 ≤ prevU bls k) ∧ Ext wa wr) (fun iv _ => bls.length - (intOf iv).toNat)
      case atStart => exact ⟨0, rfl, by omega, rfl, by simp, Ext.refl _⟩
      case round =>
        obtain ⟨k, rfl, hk, hc, hpos, hx⟩ := hrel
        by_cases hlt : k < bls.length
        · obtain ⟨ad, cs, rfl, had, hcs, hcell, A2, cap2, rfl, hby⟩ := h.at_ (by omega) hlt
          rw [lettersC_drop _ _ _ _ hlt] at hc
          have HC := Lib.hid hc
          have hlt2 : (k : Int) < bls.length := by omega
          have hcl := fun j v hj => hx.cell (show wa.cell? ((ad.add (k * 3)).add j) = some v by rw [add_addB]; exact hcell j v hj)
          have HPV : Hid (prevU bls (k + 1) = bls[k].uid) := Lib.hid (by simp [prevU, hlt])
          have hp0 : k = 0 → prevU bls k = 0 := by rintro rfl; rfl
          have hpk : ∀ k' (e : k = k' + 1) (hk' : k' < bls.length), prevU bls k = bls[k'].uid := by rintro k' rfl hk'; simp [prevU, hk']
          clear hc had hcs hcell hby
          generalize bls[k] = lt at *
          obtain ⟨lu, lf, lb⟩ := lt
          simp only at *
          unfold ltC at hcl
          go_wp2_with (first | (with_reducible refine stop_alloc 75 ?_) | (with_reducible refine stop_store 75 ?_) | (with_reducible refine stop_load 75 ?_))
          refine go_on (wpList_load_elem rfl 75 _ rfl (ad.add (k * 3)) rfl _ _ hcl Tryd.underlying75 rfl (by kernel_rfl) ?_)
          go_wp2_with (first | (with_reducible refine stop_alloc 75 ?_) | (with_reducible refine stop_store 75 ?_) | (with_reducible refine stop_load 75 ?_))
          refine go_on (wpList_alloc_ rfl rfl letter_info ?_)
          go_wp2_with (first | (with_reducible refine stop_alloc 75 ?_) | (with_reducible refine stop_store 75 ?_) | (with_reducible refine stop_load 75 ?_))
          refine go_on (wpList_store_last rfl rfl rfl rfl (by kernel_rfl) rfl (by simp [Value.oneCell']) ?_)
          intro wb hrowL hxb _
          have hxwb := hx.trans hxb
          obtain ⟨D0, D1, D2, _⟩ := rows3 hrowL
          try simp only at D0 D1 D2
          have C2' := fun w' hx' => C2 w' (Ext.trans hxwb hx')
          have C3' := fun w' hx' => C3 w' (Ext.trans hxwb hx')
          have hxn : Ext wb wb.drew := (Ext.refl _).drew
          clear C0 C1 C2 C3 hcl
          by_cases hu1 : lu < 1
          · have hle : lu ≤ prevU bls k := by
              rcases Nat.eq_zero_or_pos k with h0 | h0
              · rw [hp0 h0]; omega
              · have := hpos h0; omega
            have d1 : decide (lu < 1) = true := decide_eq_true hu1
            clear hp0 hpk hpos
            have HB2 : Hid (lettersC bnx bls 0 = 4) := Lib.hid (by rw [← HC.out, if_pos (.inl hle)])
            go_wp2_with fail
            refine wp_region_phase (S := fun w' => Ext wb w') 25 (by kernel_rfl) (by kernel_rfl) ?_ (fun hHeld => ?_)
            · exact hxn
            simp only [List.drop_succ_cons, List.drop_zero]
            refine name_head ?_
            intro wr0 hw0
            rw [hw0] at hHeld
            refine wpHead_take (i := 0) (v := ?_) (by rfl) (by kernel_rfl) (by kernel_rfl) (by exact fun _ _ _ h => h) (Or.inl ⟨by rfl, ?_⟩) (by assumption) ?_
            rotate_left
            · intro w hSw
              first | (go_simp; done) | (go_simp; with_reducible rfl)
            simp only [List.getElem_toArray, List.getElem_cons_zero, Act.put, List.setIfInBounds_toArray, List.set_cons_zero, List.set_cons_succ]
            refine wpHead_take (i := 1) (v := ?_) (by rfl) (by kernel_rfl) (by kernel_rfl) (by exact fun _ _ _ h => h) (Or.inl ⟨by rfl, ?_⟩) (by assumption) ?_
            rotate_left
            · intro w hSw
              first | (go_simp; done) | (go_simp; with_reducible rfl)
            simp only [List.getElem_toArray, List.getElem_cons_succ, List.getElem_cons_zero, Act.put, List.setIfInBounds_toArray, List.set_cons_zero, List.set_cons_succ]
            refine wpHead_take (i := 2) (v := ?_) (by rfl) (by kernel_rfl) (by kernel_rfl) (by exact fun _ _ _ h => h) (Or.inl ⟨by rfl, ?_⟩) (by assumption) ?_
            rotate_left
            · intro w hSw
              first | (go_simp; done) | (go_simp; with_reducible rfl)
            simp only [List.getElem_toArray, List.getElem_cons_succ, List.getElem_cons_zero, Act.put, List.setIfInBounds_toArray, List.set_cons_zero, List.set_cons_succ]
            refine wpHead_take (i := 3) (v := ?_) (by rfl) (by kernel_rfl) (by kernel_rfl) (by exact fun _ _ _ h => h) (Or.inl ⟨by rfl, ?_⟩) (by assumption) ?_
            rotate_left
            · intro w hSw
              first | (go_simp; done) | (go_simp; with_reducible rfl)
            simp only [List.getElem_toArray, List.getElem_cons_succ, List.getElem_cons_zero, Act.put, List.setIfInBounds_toArray, List.set_cons_zero, List.set_cons_succ]
            refine wpHead_take (i := 4) (v := undef) (by rfl) (by kernel_rfl) (by kernel_rfl) (by exact fun _ _ _ h => h) (Or.inr ⟨by rfl, rfl⟩) (by assumption) ?_
            simp only [List.getElem_toArray, List.getElem_cons_succ, List.getElem_cons_zero, Act.put, List.setIfInBounds_toArray, List.set_cons_zero, List.set_cons_succ]
            refine wpHead_take (i := 5) (v := undef) (by rfl) (by kernel_rfl) (by kernel_rfl) (by exact fun _ _ _ h => h) (Or.inr ⟨by rfl, rfl⟩) (by assumption) ?_
            simp only [List.getElem_toArray, List.getElem_cons_succ, List.getElem_cons_zero, Act.put, List.setIfInBounds_toArray, List.set_cons_zero, List.set_cons_succ]
            refine wpHead_take (i := 6) (v := undef) (by rfl) (by kernel_rfl) (by kernel_rfl) (by exact fun _ _ _ h => h) (Or.inr ⟨by rfl, rfl⟩) (by assumption) ?_
            simp only [List.getElem_toArray, List.getElem_cons_succ, List.getElem_cons_zero, Act.put, List.setIfInBounds_toArray, List.set_cons_zero, List.set_cons_succ]
            refine wpHead_take (i := 7) (v := undef) (by rfl) (by kernel_rfl) (by kernel_rfl) (by exact fun _ _ _ h => h) (Or.inr ⟨by rfl, rfl⟩) (by assumption) ?_
            simp only [List.getElem_toArray, List.getElem_cons_succ, List.getElem_cons_zero, Act.put, List.setIfInBounds_toArray, List.set_cons_zero, List.set_cons_succ]
            refine wpHead_take (i := 8) (v := undef) (by rfl) (by kernel_rfl) (by kernel_rfl) (by exact fun _ _ _ h => h) (Or.inr ⟨by rfl, rfl⟩) (by assumption) ?_
            simp only [List.getElem_toArray, List.getElem_cons_succ, List.getElem_cons_zero, Act.put, List.setIfInBounds_toArray, List.set_cons_zero, List.set_cons_succ]
            refine wpHead_take (i := 9) (v := ?_) (by rfl) (by kernel_rfl) (by kernel_rfl) (by exact fun _ _ _ h => h) (Or.inl ⟨by rfl, ?_⟩) (by assumption) ?_
            rotate_left
            · intro w hSw
              first | (go_simp; done) | (go_simp; with_reducible rfl)
            simp only [List.getElem_toArray, List.getElem_cons_succ, List.getElem_cons_zero, Act.put, List.setIfInBounds_toArray, List.set_cons_zero, List.set_cons_succ]
            refine wpHead_take (i := 10) (v := ?_) (by rfl) (by kernel_rfl) (by kernel_rfl) (by exact fun _ _ _ h => h) (Or.inl ⟨by rfl, ?_⟩) (by assumption) ?_
            rotate_left
            · intro w hSw
              first | (go_simp; done) | (go_simp; with_reducible rfl)
            simp only [List.getElem_toArray, List.getElem_cons_succ, List.getElem_cons_zero, Act.put, List.setIfInBounds_toArray, List.set_cons_zero, List.set_cons_succ]
            refine wpHead_take (i := 11) (v := undef) (by rfl) (by kernel_rfl) (by kernel_rfl) (by exact fun _ _ _ h => h) (Or.inr ⟨by rfl, rfl⟩) (by assumption) ?_
            simp only [List.getElem_toArray, List.getElem_cons_succ, List.getElem_cons_zero, Act.put, List.setIfInBounds_toArray, List.set_cons_zero, List.set_cons_succ]
            refine wpHead_take (i := 12) (v := undef) (by rfl) (by kernel_rfl) (by kernel_rfl) (by exact fun _ _ _ h => h) (Or.inr ⟨by rfl, rfl⟩) (by assumption) ?_
            simp only [List.getElem_toArray, List.getElem_cons_succ, List.getElem_cons_zero, Act.put, List.setIfInBounds_toArray, List.set_cons_zero, List.set_cons_succ]
            refine wpHead_take (i := 13) (v := undef) (by rfl) (by kernel_rfl) (by kernel_rfl) (by exact fun _ _ _ h => h) (Or.inr ⟨by rfl, rfl⟩) (by assumption) ?_
            simp only [List.getElem_toArray, List.getElem_cons_succ, List.getElem_cons_zero, Act.put, List.setIfInBounds_toArray, List.set_cons_zero, List.set_cons_succ]
            refine wpHead_take (i := 14) (v := undef) (by rfl) (by kernel_rfl) (by kernel_rfl) (by exact fun _ _ _ h => h) (Or.inr ⟨by rfl, rfl⟩) (by assumption) ?_
            simp only [List.getElem_toArray, List.getElem_cons_succ, List.getElem_cons_zero, Act.put, List.setIfInBounds_toArray, List.set_cons_zero, List.set_cons_succ]
            refine wpHead_take (i := 15) (v := undef) (by rfl) (by kernel_rfl) (by kernel_rfl) (by exact fun _ _ _ h => h) (Or.inr ⟨by rfl, rfl⟩) (by assumption) ?_
            simp only [List.getElem_toArray, List.getElem_cons_succ, List.getElem_cons_zero, Act.put, List.setIfInBounds_toArray, List.set_cons_zero, List.set_cons_succ]
            refine wpHead_take (i := 16) (v := undef) (by rfl) (by kernel_rfl) (by kernel_rfl) (by exact fun _ _ _ h => h) (Or.inr ⟨by rfl, rfl⟩) (by assumption) ?_
            simp only [List.getElem_toArray, List.getElem_cons_succ, List.getElem_cons_zero, Act.put, List.setIfInBounds_toArray, List.set_cons_zero, List.set_cons_succ]
            refine wpHead_take (i := 17) (v := undef) (by rfl) (by kernel_rfl) (by kernel_rfl) (by exact fun _ _ _ h => h) (Or.inr ⟨by rfl, rfl⟩) (by assumption) ?_
            simp only [List.getElem_toArray, List.getElem_cons_succ, List.getElem_cons_zero, Act.put, List.setIfInBounds_toArray, List.set_cons_zero, List.set_cons_succ]
            refine wpHead_take (i := 18) (v := undef) (by rfl) (by kernel_rfl) (by kernel_rfl) (by exact fun _ _ _ h => h) (Or.inr ⟨by rfl, rfl⟩) (by assumption) ?_
            simp only [List.getElem_toArray, List.getElem_cons_succ, List.getElem_cons_zero, Act.put, List.setIfInBounds_toArray, List.set_cons_zero, List.set_cons_succ]
            refine wpHead_take (i := 19) (v := undef) (by rfl) (by kernel_rfl) (by kernel_rfl) (by exact fun _ _ _ h => h) (Or.inr ⟨by rfl, rfl⟩) (by assumption) ?_
            simp only [List.getElem_toArray, List.getElem_cons_succ, List.getElem_cons_zero, Act.put, List.setIfInBounds_toArray, List.set_cons_zero, List.set_cons_succ]
            refine wpHead_take (i := 20) (v := undef) (by rfl) (by kernel_rfl) (by kernel_rfl) (by exact fun _ _ _ h => h) (Or.inr ⟨by rfl, rfl⟩) (by assumption) ?_
            simp only [List.getElem_toArray, List.getElem_cons_succ, List.getElem_cons_zero, Act.put, List.setIfInBounds_toArray, List.set_cons_zero, List.set_cons_succ]
            refine wpHead_take (i := 21) (v := undef) (by rfl) (by kernel_rfl) (by kernel_rfl) (by exact fun _ _ _ h => h) (Or.inr ⟨by rfl, rfl⟩) (by assumption) ?_
            simp only [List.getElem_toArray, List.getElem_cons_succ, List.getElem_cons_zero, Act.put, List.setIfInBounds_toArray, List.set_cons_zero, List.set_cons_succ]
            refine wpHead_take (i := 22) (v := undef) (by rfl) (by kernel_rfl) (by kernel_rfl) (by exact fun _ _ _ h => h) (Or.inr ⟨by rfl, rfl⟩) (by assumption) ?_
            simp only [List.getElem_toArray, List.getElem_cons_succ, List.getElem_cons_zero, Act.put, List.setIfInBounds_toArray, List.set_cons_zero, List.set_cons_succ]
            refine wpHead_take (i := 23) (v := undef) (by rfl) (by kernel_rfl) (by kernel_rfl) (by exact fun _ _ _ h => h) (Or.inr ⟨by rfl, rfl⟩) (by assumption) ?_
            simp only [List.getElem_toArray, List.getElem_cons_succ, List.getElem_cons_zero, Act.put, List.setIfInBounds_toArray, List.set_cons_zero, List.set_cons_succ]
            refine wpHead_take (i := 24) (v := undef) (by rfl) (by kernel_rfl) (by kernel_rfl) (by exact fun _ _ _ h => h) (Or.inr ⟨by rfl, rfl⟩) (by assumption) ?_
            simp only [List.getElem_toArray, List.getElem_cons_succ, List.getElem_cons_zero, Act.put, List.setIfInBounds_toArray, List.set_cons_zero, List.set_cons_succ]
            refine wpHead_done (by kernel_rfl) ?_
            go_wp2
            go_ret
            exact ⟨by rw [HB.out, HB2.out]; rfl, hx0.trans (hxwb.trans hHeld)⟩
          · have d1 : decide (lu < 1) = false := decide_eq_false hu1
            by_cases hu2 : bnx ≤ lu
            · have d2 : decide (bnx ≤ lu) = true := decide_eq_true hu2
              clear hp0 hpk hpos
              have HB2 : Hid (lettersC bnx bls 0 = 4) := Lib.hid (by rw [← HC.out, if_pos (.inr hu2)])
              go_wp2_with fail
              refine wp_region_phase (S := fun w' => Ext wb w') 25 (by kernel_rfl) (by kernel_rfl) ?_ (fun hHeld => ?_)
              · exact hxn
              simp only [List.drop_succ_cons, List.drop_zero]
              refine name_head ?_
              intro wr0 hw0
              rw [hw0] at hHeld
              refine wpHead_take (i := 0) (v := ?_) (by rfl) (by kernel_rfl) (by kernel_rfl) (by exact fun _ _ _ h => h) (Or.inl ⟨by rfl, ?_⟩) (by assumption) ?_
              rotate_left
              · intro w hSw
                first | (go_simp; done) | (go_simp; with_reducible rfl)
              simp only [List.getElem_toArray, List.getElem_cons_zero, Act.put, List.setIfInBounds_toArray, List.set_cons_zero, List.set_cons_succ]
              refine wpHead_take (i := 1) (v := ?_) (by rfl) (by kernel_rfl) (by kernel_rfl) (by exact fun _ _ _ h => h) (Or.inl ⟨by rfl, ?_⟩) (by assumption) ?_
              rotate_left
              · intro w hSw
                first | (go_simp; done) | (go_simp; with_reducible rfl)
              simp only [List.getElem_toArray, List.getElem_cons_succ, List.getElem_cons_zero, Act.put, List.setIfInBounds_toArray, List.set_cons_zero, List.set_cons_succ]
              refine wpHead_take (i := 2) (v := ?_) (by rfl) (by kernel_rfl) (by kernel_rfl) (by exact fun _ _ _ h => h) (Or.inl ⟨by rfl, ?_⟩) (by assumption) ?_
              rotate_left
              · intro w hSw
                first | (go_simp; done) | (go_simp; with_reducible rfl)
              simp only [List.getElem_toArray, List.getElem_cons_succ, List.getElem_cons_zero, Act.put, List.setIfInBounds_toArray, List.set_cons_zero, List.set_cons_succ]
              refine wpHead_take (i := 3) (v := ?_) (by rfl) (by kernel_rfl) (by kernel_rfl) (by exact fun _ _ _ h => h) (Or.inl ⟨by rfl, ?_⟩) (by assumption) ?_
              rotate_left
              · intro w hSw
                first | (go_simp; done) | (go_simp; with_reducible rfl)
              simp only [List.getElem_toArray, List.getElem_cons_succ, List.getElem_cons_zero, Act.put, List.setIfInBounds_toArray, List.set_cons_zero, List.set_cons_succ]
              refine wpHead_take (i := 4) (v := ?_) (by rfl) (by kernel_rfl) (by kernel_rfl) (by exact fun _ _ _ h => h) (Or.inl ⟨by rfl, ?_⟩) (by assumption) ?_
              rotate_left
              · intro w hSw
                first | (go_simp; done) | (go_simp; with_reducible rfl)
              simp only [List.getElem_toArray, List.getElem_cons_succ, List.getElem_cons_zero, Act.put, List.setIfInBounds_toArray, List.set_cons_zero, List.set_cons_succ]
              refine wpHead_take (i := 5) (v := ?_) (by rfl) (by kernel_rfl) (by kernel_rfl) (by exact fun _ _ _ h => h) (Or.inl ⟨by rfl, ?_⟩) (by assumption) ?_
              rotate_left
              · intro w hSw
                first | (go_simp; done) | (go_simp; with_reducible rfl)
              simp only [List.getElem_toArray, List.getElem_cons_succ, List.getElem_cons_zero, Act.put, List.setIfInBounds_toArray, List.set_cons_zero, List.set_cons_succ]
              refine wpHead_take (i := 6) (v := ?_) (by rfl) (by kernel_rfl) (by kernel_rfl) (by exact fun _ _ _ h => h) (Or.inl ⟨by rfl, ?_⟩) (by assumption) ?_
              rotate_left
              · intro w hSw
                first | (go_simp; done) | (go_simp; with_reducible rfl)
              simp only [List.getElem_toArray, List.getElem_cons_succ, List.getElem_cons_zero, Act.put, List.setIfInBounds_toArray, List.set_cons_zero, List.set_cons_succ]
              refine wpHead_take (i := 7) (v := ?_) (by rfl) (by kernel_rfl) (by kernel_rfl) (by exact fun _ _ _ h => h) (Or.inl ⟨by rfl, ?_⟩) (by assumption) ?_
              rotate_left
              · intro w hSw
                first | (go_simp; done) | (go_simp; with_reducible rfl)
              simp only [List.getElem_toArray, List.getElem_cons_succ, List.getElem_cons_zero, Act.put, List.setIfInBounds_toArray, List.set_cons_zero, List.set_cons_succ]
              refine wpHead_take (i := 8) (v := ?_) (by rfl) (by kernel_rfl) (by kernel_rfl) (by exact fun _ _ _ h => h) (Or.inl ⟨by rfl, ?_⟩) (by assumption) ?_
              rotate_left
              · intro w hSw
                first | (go_simp; done) | (go_simp; with_reducible rfl)
              simp only [List.getElem_toArray, List.getElem_cons_succ, List.getElem_cons_zero, Act.put, List.setIfInBounds_toArray, List.set_cons_zero, List.set_cons_succ]
              refine wpHead_take (i := 9) (v := ?_) (by rfl) (by kernel_rfl) (by kernel_rfl) (by exact fun _ _ _ h => h) (Or.inl ⟨by rfl, ?_⟩) (by assumption) ?_
              rotate_left
              · intro w hSw
                first | (go_simp; done) | (go_simp; with_reducible rfl)
              simp only [List.getElem_toArray, List.getElem_cons_succ, List.getElem_cons_zero, Act.put, List.setIfInBounds_toArray, List.set_cons_zero, List.set_cons_succ]
              refine wpHead_take (i := 10) (v := ?_) (by rfl) (by kernel_rfl) (by kernel_rfl) (by exact fun _ _ _ h => h) (Or.inl ⟨by rfl, ?_⟩) (by assumption) ?_
              rotate_left
              · intro w hSw
                first | (go_simp; done) | (go_simp; with_reducible rfl)
              simp only [List.getElem_toArray, List.getElem_cons_succ, List.getElem_cons_zero, Act.put, List.setIfInBounds_toArray, List.set_cons_zero, List.set_cons_succ]
              refine wpHead_take (i := 11) (v := undef) (by rfl) (by kernel_rfl) (by kernel_rfl) (by exact fun _ _ _ h => h) (Or.inr ⟨by rfl, rfl⟩) (by assumption) ?_
              simp only [List.getElem_toArray, List.getElem_cons_succ, List.getElem_cons_zero, Act.put, List.setIfInBounds_toArray, List.set_cons_zero, List.set_cons_succ]
              refine wpHead_take (i := 12) (v := undef) (by rfl) (by kernel_rfl) (by kernel_rfl) (by exact fun _ _ _ h => h) (Or.inr ⟨by rfl, rfl⟩) (by assumption) ?_
              simp only [List.getElem_toArray, List.getElem_cons_succ, List.getElem_cons_zero, Act.put, List.setIfInBounds_toArray, List.set_cons_zero, List.set_cons_succ]
              refine wpHead_take (i := 13) (v := undef) (by rfl) (by kernel_rfl) (by kernel_rfl) (by exact fun _ _ _ h => h) (Or.inr ⟨by rfl, rfl⟩) (by assumption) ?_
              simp only [List.getElem_toArray, List.getElem_cons_succ, List.getElem_cons_zero, Act.put, List.setIfInBounds_toArray, List.set_cons_zero, List.set_cons_succ]
              refine wpHead_take (i := 14) (v := undef) (by rfl) (by kernel_rfl) (by kernel_rfl) (by exact fun _ _ _ h => h) (Or.inr ⟨by rfl, rfl⟩) (by assumption) ?_
              simp only [List.getElem_toArray, List.getElem_cons_succ, List.getElem_cons_zero, Act.put, List.setIfInBounds_toArray, List.set_cons_zero, List.set_cons_succ]
              refine wpHead_take (i := 15) (v := undef) (by rfl) (by kernel_rfl) (by kernel_rfl) (by exact fun _ _ _ h => h) (Or.inr ⟨by rfl, rfl⟩) (by assumption) ?_
              simp only [List.getElem_toArray, List.getElem_cons_succ, List.getElem_cons_zero, Act.put, List.setIfInBounds_toArray, List.set_cons_zero, List.set_cons_succ]
              refine wpHead_take (i := 16) (v := undef) (by rfl) (by kernel_rfl) (by kernel_rfl) (by exact fun _ _ _ h => h) (Or.inr ⟨by rfl, rfl⟩) (by assumption) ?_
              simp only [List.getElem_toArray, List.getElem_cons_succ, List.getElem_cons_zero, Act.put, List.setIfInBounds_toArray, List.set_cons_zero, List.set_cons_succ]
              refine wpHead_take (i := 17) (v := undef) (by rfl) (by kernel_rfl) (by kernel_rfl) (by exact fun _ _ _ h => h) (Or.inr ⟨by rfl, rfl⟩) (by assumption) ?_
              simp only [List.getElem_toArray, List.getElem_cons_succ, List.getElem_cons_zero, Act.put, List.setIfInBounds_toArray, List.set_cons_zero, List.set_cons_succ]
              refine wpHead_take (i := 18) (v := undef) (by rfl) (by kernel_rfl) (by kernel_rfl) (by exact fun _ _ _ h => h) (Or.inr ⟨by rfl, rfl⟩) (by assumption) ?_
              simp only [List.getElem_toArray, List.getElem_cons_succ, List.getElem_cons_zero, Act.put, List.setIfInBounds_toArray, List.set_cons_zero, List.set_cons_succ]
              refine wpHead_take (i := 19) (v := undef) (by rfl) (by kernel_rfl) (by kernel_rfl) (by exact fun _ _ _ h => h) (Or.inr ⟨by rfl, rfl⟩) (by assumption) ?_
              simp only [List.getElem_toArray, List.getElem_cons_succ, List.getElem_cons_zero, Act.put, List.setIfInBounds_toArray, List.set_cons_zero, List.set_cons_succ]
              refine wpHead_take (i := 20) (v := undef) (by rfl) (by kernel_rfl) (by kernel_rfl) (by exact fun _ _ _ h => h) (Or.inr ⟨by rfl, rfl⟩) (by assumption) ?_
              simp only [List.getElem_toArray, List.getElem_cons_succ, List.getElem_cons_zero, Act.put, List.setIfInBounds_toArray, List.set_cons_zero, List.set_cons_succ]
              refine wpHead_take (i := 21) (v := undef) (by rfl) (by kernel_rfl) (by kernel_rfl) (by exact fun _ _ _ h => h) (Or.inr ⟨by rfl, rfl⟩) (by assumption) ?_
              simp only [List.getElem_toArray, List.getElem_cons_succ, List.getElem_cons_zero, Act.put, List.setIfInBounds_toArray, List.set_cons_zero, List.set_cons_succ]
              refine wpHead_take (i := 22) (v := undef) (by rfl) (by kernel_rfl) (by kernel_rfl) (by exact fun _ _ _ h => h) (Or.inr ⟨by rfl, rfl⟩) (by assumption) ?_
              simp only [List.getElem_toArray, List.getElem_cons_succ, List.getElem_cons_zero, Act.put, List.setIfInBounds_toArray, List.set_cons_zero, List.set_cons_succ]
              refine wpHead_take (i := 23) (v := undef) (by rfl) (by kernel_rfl) (by kernel_rfl) (by exact fun _ _ _ h => h) (Or.inr ⟨by rfl, rfl⟩) (by assumption) ?_
              simp only [List.getElem_toArray, List.getElem_cons_succ, List.getElem_cons_zero, Act.put, List.setIfInBounds_toArray, List.set_cons_zero, List.set_cons_succ]
              refine wpHead_take (i := 24) (v := undef) (by rfl) (by kernel_rfl) (by kernel_rfl) (by exact fun _ _ _ h => h) (Or.inr ⟨by rfl, rfl⟩) (by assumption) ?_
              simp only [List.getElem_toArray, List.getElem_cons_succ, List.getElem_cons_zero, Act.put, List.setIfInBounds_toArray, List.set_cons_zero, List.set_cons_succ]
              refine wpHead_done (by kernel_rfl) ?_
              go_wp2
              go_ret
              exact ⟨by rw [HB.out, HB2.out]; rfl, hx0.trans (hxwb.trans hHeld)⟩
            · have d2 : decide (bnx ≤ lu) = false := decide_eq_false hu2
              rcases (by cases k with | zero => exact .inl rfl | succ k' => exact .inr ⟨k', rfl⟩ : k = 0 ∨ ∃ k', k = k' + 1) with rfl | ⟨k', rfl⟩
              · have hp := hp0 rfl
                rw [hp] at HC
                clear hp0 hpk hpos hp
                have HC2 := Lib.hid (HC.out.symm.trans (if_neg (by omega)))
                clear HC
                go_wp2_with fail
                refine wp_region_phase (S := fun w' => Ext wb w') 25 (by kernel_rfl) (by kernel_rfl) ?_ (fun hHeld => ?_)
                · exact hxn
                simp only [List.drop_succ_cons, List.drop_zero]
                refine name_head ?_
                intro wr0 hw0
                rw [hw0] at hHeld
                refine wpHead_take (i := 0) (v := ?_) (by rfl) (by kernel_rfl) (by kernel_rfl) (by exact fun _ _ _ h => h) (Or.inl ⟨by rfl, ?_⟩) (by assumption) ?_
                rotate_left
                · intro w hSw
                  first | (go_simp; done) | (go_simp; with_reducible rfl)
                simp only [List.getElem_toArray, List.getElem_cons_zero, Act.put, List.setIfInBounds_toArray, List.set_cons_zero, List.set_cons_succ]
                refine wpHead_take (i := 1) (v := ?_) (by rfl) (by kernel_rfl) (by kernel_rfl) (by exact fun _ _ _ h => h) (Or.inl ⟨by rfl, ?_⟩) (by assumption) ?_
                rotate_left
                · intro w hSw
                  first | (go_simp; done) | (go_simp; with_reducible rfl)
                simp only [List.getElem_toArray, List.getElem_cons_succ, List.getElem_cons_zero, Act.put, List.setIfInBounds_toArray, List.set_cons_zero, List.set_cons_succ]
                refine wpHead_take (i := 2) (v := ?_) (by rfl) (by kernel_rfl) (by kernel_rfl) (by exact fun _ _ _ h => h) (Or.inl ⟨by rfl, ?_⟩) (by assumption) ?_
                rotate_left
                · intro w hSw
                  first | (go_simp; done) | (go_simp; with_reducible rfl)
                simp only [List.getElem_toArray, List.getElem_cons_succ, List.getElem_cons_zero, Act.put, List.setIfInBounds_toArray, List.set_cons_zero, List.set_cons_succ]
                refine wpHead_take (i := 3) (v := ?_) (by rfl) (by kernel_rfl) (by kernel_rfl) (by exact fun _ _ _ h => h) (Or.inl ⟨by rfl, ?_⟩) (by assumption) ?_
                rotate_left
                · intro w hSw
                  first | (go_simp; done) | (go_simp; with_reducible rfl)
                simp only [List.getElem_toArray, List.getElem_cons_succ, List.getElem_cons_zero, Act.put, List.setIfInBounds_toArray, List.set_cons_zero, List.set_cons_succ]
                refine wpHead_take (i := 4) (v := ?_) (by rfl) (by kernel_rfl) (by kernel_rfl) (by exact fun _ _ _ h => h) (Or.inl ⟨by rfl, ?_⟩) (by assumption) ?_
                rotate_left
                · intro w hSw
                  first | (go_simp; done) | (go_simp; with_reducible rfl)
                simp only [List.getElem_toArray, List.getElem_cons_succ, List.getElem_cons_zero, Act.put, List.setIfInBounds_toArray, List.set_cons_zero, List.set_cons_succ]
                refine wpHead_take (i := 5) (v := ?_) (by rfl) (by kernel_rfl) (by kernel_rfl) (by exact fun _ _ _ h => h) (Or.inl ⟨by rfl, ?_⟩) (by assumption) ?_
                rotate_left
                · intro w hSw
                  first | (go_simp; done) | (go_simp; with_reducible rfl)
                simp only [List.getElem_toArray, List.getElem_cons_succ, List.getElem_cons_zero, Act.put, List.setIfInBounds_toArray, List.set_cons_zero, List.set_cons_succ]
                refine wpHead_take (i := 6) (v := ?_) (by rfl) (by kernel_rfl) (by kernel_rfl) (by exact fun _ _ _ h => h) (Or.inl ⟨by rfl, ?_⟩) (by assumption) ?_
                rotate_left
                · intro w hSw
                  first | (go_simp; done) | (go_simp; with_reducible rfl)
                simp only [List.getElem_toArray, List.getElem_cons_succ, List.getElem_cons_zero, Act.put, List.setIfInBounds_toArray, List.set_cons_zero, List.set_cons_succ]
                refine wpHead_take (i := 7) (v := ?_) (by rfl) (by kernel_rfl) (by kernel_rfl) (by exact fun _ _ _ h => h) (Or.inl ⟨by rfl, ?_⟩) (by assumption) ?_
                rotate_left
                · intro w hSw
                  first | (go_simp; done) | (go_simp; with_reducible rfl)
                simp only [List.getElem_toArray, List.getElem_cons_succ, List.getElem_cons_zero, Act.put, List.setIfInBounds_toArray, List.set_cons_zero, List.set_cons_succ]
                refine wpHead_take (i := 8) (v := ?_) (by rfl) (by kernel_rfl) (by kernel_rfl) (by exact fun _ _ _ h => h) (Or.inl ⟨by rfl, ?_⟩) (by assumption) ?_
                rotate_left
                · intro w hSw
                  first | (go_simp; done) | (go_simp; with_reducible rfl)
                simp only [List.getElem_toArray, List.getElem_cons_succ, List.getElem_cons_zero, Act.put, List.setIfInBounds_toArray, List.set_cons_zero, List.set_cons_succ]
                refine wpHead_take (i := 9) (v := ?_) (by rfl) (by kernel_rfl) (by kernel_rfl) (by exact fun _ _ _ h => h) (Or.inl ⟨by rfl, ?_⟩) (by assumption) ?_
                rotate_left
                · intro w hSw
                  first | (go_simp; done) | (go_simp; with_reducible rfl)
                simp only [List.getElem_toArray, List.getElem_cons_succ, List.getElem_cons_zero, Act.put, List.setIfInBounds_toArray, List.set_cons_zero, List.set_cons_succ]
                refine wpHead_take (i := 10) (v := ?_) (by rfl) (by kernel_rfl) (by kernel_rfl) (by exact fun _ _ _ h => h) (Or.inl ⟨by rfl, ?_⟩) (by assumption) ?_
                rotate_left
                · intro w hSw
                  first | (go_simp; done) | (go_simp; with_reducible rfl)
                simp only [List.getElem_toArray, List.getElem_cons_succ, List.getElem_cons_zero, Act.put, List.setIfInBounds_toArray, List.set_cons_zero, List.set_cons_succ]
                refine wpHead_take (i := 11) (v := ?_) (by rfl) (by kernel_rfl) (by kernel_rfl) (by exact fun _ _ _ h => h) (Or.inl ⟨by rfl, ?_⟩) (by assumption) ?_
                rotate_left
                · intro w hSw
                  first | (go_simp; done) | (go_simp; with_reducible rfl)
                simp only [List.getElem_toArray, List.getElem_cons_succ, List.getElem_cons_zero, Act.put, List.setIfInBounds_toArray, List.set_cons_zero, List.set_cons_succ]
                refine wpHead_take (i := 12) (v := ?_) (by rfl) (by kernel_rfl) (by kernel_rfl) (by exact fun _ _ _ h => h) (Or.inl ⟨by rfl, ?_⟩) (by assumption) ?_
                rotate_left
                · intro w hSw
                  first | (go_simp; done) | (go_simp; with_reducible rfl)
                simp only [List.getElem_toArray, List.getElem_cons_succ, List.getElem_cons_zero, Act.put, List.setIfInBounds_toArray, List.set_cons_zero, List.set_cons_succ]
                refine wpHead_take (i := 13) (v := ?_) (by rfl) (by kernel_rfl) (by kernel_rfl) (by exact fun _ _ _ h => h) (Or.inl ⟨by rfl, ?_⟩) (by assumption) ?_
                rotate_left
                · intro w hSw
                  first | (go_simp; done) | (go_simp; with_reducible rfl)
                simp only [List.getElem_toArray, List.getElem_cons_succ, List.getElem_cons_zero, Act.put, List.setIfInBounds_toArray, List.set_cons_zero, List.set_cons_succ]
                refine wpHead_take (i := 14) (v := undef) (by rfl) (by kernel_rfl) (by kernel_rfl) (by exact fun _ _ _ h => h) (Or.inr ⟨by rfl, rfl⟩) (by assumption) ?_
                simp only [List.getElem_toArray, List.getElem_cons_succ, List.getElem_cons_zero, Act.put, List.setIfInBounds_toArray, List.set_cons_zero, List.set_cons_succ]
                refine wpHead_take (i := 15) (v := undef) (by rfl) (by kernel_rfl) (by kernel_rfl) (by exact fun _ _ _ h => h) (Or.inr ⟨by rfl, rfl⟩) (by assumption) ?_
                simp only [List.getElem_toArray, List.getElem_cons_succ, List.getElem_cons_zero, Act.put, List.setIfInBounds_toArray, List.set_cons_zero, List.set_cons_succ]
                refine wpHead_take (i := 16) (v := undef) (by rfl) (by kernel_rfl) (by kernel_rfl) (by exact fun _ _ _ h => h) (Or.inr ⟨by rfl, rfl⟩) (by assumption) ?_
                simp only [List.getElem_toArray, List.getElem_cons_succ, List.getElem_cons_zero, Act.put, List.setIfInBounds_toArray, List.set_cons_zero, List.set_cons_succ]
                refine wpHead_take (i := 17) (v := undef) (by rfl) (by kernel_rfl) (by kernel_rfl) (by exact fun _ _ _ h => h) (Or.inr ⟨by rfl, rfl⟩) (by assumption) ?_
                simp only [List.getElem_toArray, List.getElem_cons_succ, List.getElem_cons_zero, Act.put, List.setIfInBounds_toArray, List.set_cons_zero, List.set_cons_succ]
                refine wpHead_take (i := 18) (v := undef) (by rfl) (by kernel_rfl) (by kernel_rfl) (by exact fun _ _ _ h => h) (Or.inr ⟨by rfl, rfl⟩) (by assumption) ?_
                simp only [List.getElem_toArray, List.getElem_cons_succ, List.getElem_cons_zero, Act.put, List.setIfInBounds_toArray, List.set_cons_zero, List.set_cons_succ]
                refine wpHead_take (i := 19) (v := undef) (by rfl) (by kernel_rfl) (by kernel_rfl) (by exact fun _ _ _ h => h) (Or.inr ⟨by rfl, rfl⟩) (by assumption) ?_
                simp only [List.getElem_toArray, List.getElem_cons_succ, List.getElem_cons_zero, Act.put, List.setIfInBounds_toArray, List.set_cons_zero, List.set_cons_succ]
                refine wpHead_take (i := 20) (v := undef) (by rfl) (by kernel_rfl) (by kernel_rfl) (by exact fun _ _ _ h => h) (Or.inr ⟨by rfl, rfl⟩) (by assumption) ?_
                simp only [List.getElem_toArray, List.getElem_cons_succ, List.getElem_cons_zero, Act.put, List.setIfInBounds_toArray, List.set_cons_zero, List.set_cons_succ]
                refine wpHead_take (i := 21) (v := undef) (by rfl) (by kernel_rfl) (by kernel_rfl) (by exact fun _ _ _ h => h) (Or.inr ⟨by rfl, rfl⟩) (by assumption) ?_
                simp only [List.getElem_toArray, List.getElem_cons_succ, List.getElem_cons_zero, Act.put, List.setIfInBounds_toArray, List.set_cons_zero, List.set_cons_succ]
                refine wpHead_take (i := 22) (v := undef) (by rfl) (by kernel_rfl) (by kernel_rfl) (by exact fun _ _ _ h => h) (Or.inr ⟨by rfl, rfl⟩) (by assumption) ?_
                simp only [List.getElem_toArray, List.getElem_cons_succ, List.getElem_cons_zero, Act.put, List.setIfInBounds_toArray, List.set_cons_zero, List.set_cons_succ]
                refine wpHead_take (i := 23) (v := undef) (by rfl) (by kernel_rfl) (by kernel_rfl) (by exact fun _ _ _ h => h) (Or.inr ⟨by rfl, rfl⟩) (by assumption) ?_
                simp only [List.getElem_toArray, List.getElem_cons_succ, List.getElem_cons_zero, Act.put, List.setIfInBounds_toArray, List.set_cons_zero, List.set_cons_succ]
                refine wpHead_take (i := 24) (v := ?_) (by rfl) (by kernel_rfl) (by kernel_rfl) (by exact fun _ _ _ h => h) (Or.inl ⟨by rfl, ?_⟩) (by assumption) ?_
                rotate_left
                · intro w hSw
                  first | (go_simp; done) | (go_simp; with_reducible rfl)
                simp only [List.getElem_toArray, List.getElem_cons_succ, List.getElem_cons_zero, Act.put, List.setIfInBounds_toArray, List.set_cons_zero, List.set_cons_succ]
                refine wpHead_done (by kernel_rfl) ?_
                skip
                by_cases hf : (31 : Int) < (lf.toNat : Int)
                · have HB2 : Hid (lettersC bnx bls 0 = 2) := Lib.hid (by rw [HC2.out, if_pos (by omega)])
                  go_wp2
                  go_ret
                  exact ⟨by rw [HB.out, HB2.out]; rfl, hx0.trans (hxwb.trans hHeld)⟩
                · have HC3 := Lib.hid (HC2.out.trans (if_neg (by omega)))
                  clear HC2
                  by_cases hb : (600 : Int) < (lb.length : Int)
                  · have HB2 : Hid (lettersC bnx bls 0 = 6) := Lib.hid (by rw [HC3.out, if_pos (by omega)])
                    go_wp2
                    go_ret
                    exact ⟨by rw [HB.out, HB2.out]; rfl, hx0.trans (hxwb.trans hHeld)⟩
                  · have HC4 := Lib.hid (HC3.out.trans (if_neg (by omega)))
                    clear HC3
                    go_wp2
                    go_roundw
                    case rel => exact ⟨0 + 1, by go_num, by omega, by rw [HPV.out]; exact HC4.out.symm, fun _ => by rw [HPV.out]; omega, hxwb.trans hHeld⟩
                    case measure => simp [intOf]; omega
              · have hk'lt : k' < bls.length := by omega
                have hp := hpk k' rfl hk'lt
                rw [hp] at HC
                obtain ⟨ad', cs', hA', _, _, hcell', A3, cap3, hcs3, _⟩ := h.at_ (by omega) hk'lt
                cases hA'
                subst hcs3
                have E0 : ∀ w', Ext wb w' → w'.cell? (ad.add (k' * 3)) = some (.int .i64 bls[k'].uid) := fun w' hx' => (hxwb.trans hx').cell (hcell' 0 _ rfl)
                have hsub : ((k' + 1 : Nat) : Int) - 1 = (k' : Int) := by omega
                have hwk : IntKind.i64.wrap (k' : Int) = (k' : Int) := wrap64_nat k' (by omega)
                have hk'2 : (k' : Int) < bls.length := by omega
                have hgt : (0 : Int) < ((k' + 1 : Nat) : Int) := by omega
                have d3 : decide ((0 : Int) < (k' : Int) + 1) = true := decide_eq_true (by omega)
                clear hcell' hp0 hpk hpos hp
                generalize bls[k'].uid = pu at *
                by_cases hu3 : lu ≤ pu
                · have d4 : decide (lu ≤ pu) = true := decide_eq_true hu3
                  have HB2 : Hid (lettersC bnx bls 0 = 4) := Lib.hid (by rw [← HC.out, if_pos (.inl hu3)])
                  go_wp2_with fail
                  refine wp_region_phase (S := fun w' => Ext wb w') 25 (by kernel_rfl) (by kernel_rfl) ?_ (fun hHeld => ?_)
                  · exact hxn
                  simp only [List.drop_succ_cons, List.drop_zero]
                  refine name_head ?_
                  intro wr0 hw0
                  rw [hw0] at hHeld
                  refine wpHead_take (i := 0) (v := ?_) (by rfl) (by kernel_rfl) (by kernel_rfl) (by exact fun _ _ _ h => h) (Or.inl ⟨by rfl, ?_⟩) (by assumption) ?_
                  rotate_left
                  · intro w hSw
                    first | (go_simp; done) | (go_simp; with_reducible rfl)
                  simp only [List.getElem_toArray, List.getElem_cons_zero, Act.put, List.setIfInBounds_toArray, List.set_cons_zero, List.set_cons_succ]
                  refine wpHead_take (i := 1) (v := ?_) (by rfl) (by kernel_rfl) (by kernel_rfl) (by exact fun _ _ _ h => h) (Or.inl ⟨by rfl, ?_⟩) (by assumption) ?_
                  rotate_left
                  · intro w hSw
                    first | (go_simp; done) | (go_simp; with_reducible rfl)
                  simp only [List.getElem_toArray, List.getElem_cons_succ, List.getElem_cons_zero, Act.put, List.setIfInBounds_toArray, List.set_cons_zero, List.set_cons_succ]
                  refine wpHead_take (i := 2) (v := ?_) (by rfl) (by kernel_rfl) (by kernel_rfl) (by exact fun _ _ _ h => h) (Or.inl ⟨by rfl, ?_⟩) (by assumption) ?_
                  rotate_left
                  · intro w hSw
                    first | (go_simp; done) | (go_simp; with_reducible rfl)
                  simp only [List.getElem_toArray, List.getElem_cons_succ, List.getElem_cons_zero, Act.put, List.setIfInBounds_toArray, List.set_cons_zero, List.set_cons_succ]
                  refine wpHead_take (i := 3) (v := ?_) (by rfl) (by kernel_rfl) (by kernel_rfl) (by exact fun _ _ _ h => h) (Or.inl ⟨by rfl, ?_⟩) (by assumption) ?_
                  rotate_left
                  · intro w hSw
                    first | (go_simp; done) | (go_simp; with_reducible rfl)
                  simp only [List.getElem_toArray, List.getElem_cons_succ, List.getElem_cons_zero, Act.put, List.setIfInBounds_toArray, List.set_cons_zero, List.set_cons_succ]
                  refine wpHead_take (i := 4) (v := ?_) (by rfl) (by kernel_rfl) (by kernel_rfl) (by exact fun _ _ _ h => h) (Or.inl ⟨by rfl, ?_⟩) (by assumption) ?_
                  rotate_left
                  · intro w hSw
                    first | (go_simp; done) | (go_simp; with_reducible rfl)
                  simp only [List.getElem_toArray, List.getElem_cons_succ, List.getElem_cons_zero, Act.put, List.setIfInBounds_toArray, List.set_cons_zero, List.set_cons_succ]
                  refine wpHead_take (i := 5) (v := ?_) (by rfl) (by kernel_rfl) (by kernel_rfl) (by exact fun _ _ _ h => h) (Or.inl ⟨by rfl, ?_⟩) (by assumption) ?_
                  rotate_left
                  · intro w hSw
                    first | (go_simp; done) | (go_simp; with_reducible rfl)
                  simp only [List.getElem_toArray, List.getElem_cons_succ, List.getElem_cons_zero, Act.put, List.setIfInBounds_toArray, List.set_cons_zero, List.set_cons_succ]
                  refine wpHead_take (i := 6) (v := ?_) (by rfl) (by kernel_rfl) (by kernel_rfl) (by exact fun _ _ _ h => h) (Or.inl ⟨by rfl, ?_⟩) (by assumption) ?_
                  rotate_left
                  · intro w hSw
                    first | (go_simp; done) | (go_simp; with_reducible rfl)
                  simp only [List.getElem_toArray, List.getElem_cons_succ, List.getElem_cons_zero, Act.put, List.setIfInBounds_toArray, List.set_cons_zero, List.set_cons_succ]
                  refine wpHead_take (i := 7) (v := ?_) (by rfl) (by kernel_rfl) (by kernel_rfl) (by exact fun _ _ _ h => h) (Or.inl ⟨by rfl, ?_⟩) (by assumption) ?_
                  rotate_left
                  · intro w hSw
                    first | (go_simp; done) | (go_simp; with_reducible rfl)
                  simp only [List.getElem_toArray, List.getElem_cons_succ, List.getElem_cons_zero, Act.put, List.setIfInBounds_toArray, List.set_cons_zero, List.set_cons_succ]
                  refine wpHead_take (i := 8) (v := ?_) (by rfl) (by kernel_rfl) (by kernel_rfl) (by exact fun _ _ _ h => h) (Or.inl ⟨by rfl, ?_⟩) (by assumption) ?_
                  rotate_left
                  · intro w hSw
                    first | (go_simp; done) | (go_simp; with_reducible rfl)
                  simp only [List.getElem_toArray, List.getElem_cons_succ, List.getElem_cons_zero, Act.put, List.setIfInBounds_toArray, List.set_cons_zero, List.set_cons_succ]
                  refine wpHead_take (i := 9) (v := ?_) (by rfl) (by kernel_rfl) (by kernel_rfl) (by exact fun _ _ _ h => h) (Or.inl ⟨by rfl, ?_⟩) (by assumption) ?_
                  rotate_left
                  · intro w hSw
                    first | (go_simp; done) | (go_simp; with_reducible rfl)
                  simp only [List.getElem_toArray, List.getElem_cons_succ, List.getElem_cons_zero, Act.put, List.setIfInBounds_toArray, List.set_cons_zero, List.set_cons_succ]
                  refine wpHead_take (i := 10) (v := ?_) (by rfl) (by kernel_rfl) (by kernel_rfl) (by exact fun _ _ _ h => h) (Or.inl ⟨by rfl, ?_⟩) (by assumption) ?_
                  rotate_left
                  · intro w hSw
                    first | (go_simp; done) | (go_simp; with_reducible rfl)
                  simp only [List.getElem_toArray, List.getElem_cons_succ, List.getElem_cons_zero, Act.put, List.setIfInBounds_toArray, List.set_cons_zero, List.set_cons_succ]
                  refine wpHead_take (i := 11) (v := ?_) (by rfl) (by kernel_rfl) (by kernel_rfl) (by exact fun _ _ _ h => h) (Or.inl ⟨by rfl, ?_⟩) (by assumption) ?_
                  rotate_left
                  · intro w hSw
                    first | (go_simp; done) | (go_simp; with_reducible rfl)
                  simp only [List.getElem_toArray, List.getElem_cons_succ, List.getElem_cons_zero, Act.put, List.setIfInBounds_toArray, List.set_cons_zero, List.set_cons_succ]
                  refine wpHead_take (i := 12) (v := ?_) (by rfl) (by kernel_rfl) (by kernel_rfl) (by exact fun _ _ _ h => h) (Or.inl ⟨by rfl, ?_⟩) (by assumption) ?_
                  rotate_left
                  · intro w hSw
                    first | (go_simp; done) | (go_simp; with_reducible rfl)
                  simp only [List.getElem_toArray, List.getElem_cons_succ, List.getElem_cons_zero, Act.put, List.setIfInBounds_toArray, List.set_cons_zero, List.set_cons_succ]
                  refine wpHead_take (i := 13) (v := ?_) (by rfl) (by kernel_rfl) (by kernel_rfl) (by exact fun _ _ _ h => h) (Or.inl ⟨by rfl, ?_⟩) (by assumption) ?_
                  rotate_left
                  · intro w hSw
                    first | (go_simp; done) | (go_simp; with_reducible rfl)
                  simp only [List.getElem_toArray, List.getElem_cons_succ, List.getElem_cons_zero, Act.put, List.setIfInBounds_toArray, List.set_cons_zero, List.set_cons_succ]
                  refine wpHead_take (i := 14) (v := ?_) (by rfl) (by kernel_rfl) (by kernel_rfl) (by exact fun _ _ _ h => h) (Or.inl ⟨by rfl, ?_⟩) (by assumption) ?_
                  rotate_left
                  · intro w hSw
                    first | (go_simp; done) | (go_simp; with_reducible rfl)
                  simp only [List.getElem_toArray, List.getElem_cons_succ, List.getElem_cons_zero, Act.put, List.setIfInBounds_toArray, List.set_cons_zero, List.set_cons_succ]
                  refine wpHead_take (i := 15) (v := ?_) (by rfl) (by kernel_rfl) (by kernel_rfl) (by exact fun _ _ _ h => h) (Or.inl ⟨by rfl, ?_⟩) (by assumption) ?_
                  rotate_left
                  · intro w hSw
                    first | (go_simp; done) | (go_simp; with_reducible rfl)
                  simp only [List.getElem_toArray, List.getElem_cons_succ, List.getElem_cons_zero, Act.put, List.setIfInBounds_toArray, List.set_cons_zero, List.set_cons_succ]
                  refine wpHead_take (i := 16) (v := ?_) (by rfl) (by kernel_rfl) (by kernel_rfl) (by exact fun _ _ _ h => h) (Or.inl ⟨by rfl, ?_⟩) (by assumption) ?_
                  rotate_left
                  · intro w hSw
                    first | (go_simp; done) | (go_simp; with_reducible rfl)
                  simp only [List.getElem_toArray, List.getElem_cons_succ, List.getElem_cons_zero, Act.put, List.setIfInBounds_toArray, List.set_cons_zero, List.set_cons_succ]
                  refine wpHead_take (i := 17) (v := ?_) (by rfl) (by kernel_rfl) (by kernel_rfl) (by exact fun _ _ _ h => h) (Or.inl ⟨by rfl, ?_⟩) (by assumption) ?_
                  rotate_left
                  · intro w hSw
                    first | (go_simp; done) | (go_simp; with_reducible rfl)
                  simp only [List.getElem_toArray, List.getElem_cons_succ, List.getElem_cons_zero, Act.put, List.setIfInBounds_toArray, List.set_cons_zero, List.set_cons_succ]
                  refine wpHead_take (i := 18) (v := ?_) (by rfl) (by kernel_rfl) (by kernel_rfl) (by exact fun _ _ _ h => h) (Or.inl ⟨by rfl, ?_⟩) (by assumption) ?_
                  rotate_left
                  · intro w hSw
                    first | (go_simp; done) | (go_simp; with_reducible rfl)
                  simp only [List.getElem_toArray, List.getElem_cons_succ, List.getElem_cons_zero, Act.put, List.setIfInBounds_toArray, List.set_cons_zero, List.set_cons_succ]
                  refine wpHead_take (i := 19) (v := ?_) (by rfl) (by kernel_rfl) (by kernel_rfl) (by exact fun _ _ _ h => h) (Or.inl ⟨by rfl, ?_⟩) (by assumption) ?_
                  rotate_left
                  · intro w hSw
                    first | (go_simp; done) | (go_simp; with_reducible rfl)
                  simp only [List.getElem_toArray, List.getElem_cons_succ, List.getElem_cons_zero, Act.put, List.setIfInBounds_toArray, List.set_cons_zero, List.set_cons_succ]
                  refine wpHead_take (i := 20) (v := ?_) (by rfl) (by kernel_rfl) (by kernel_rfl) (by exact fun _ _ _ h => h) (Or.inl ⟨by rfl, ?_⟩) (by assumption) ?_
                  rotate_left
                  · intro w hSw
                    first | (go_simp; done) | (go_simp; with_reducible rfl)
                  simp only [List.getElem_toArray, List.getElem_cons_succ, List.getElem_cons_zero, Act.put, List.setIfInBounds_toArray, List.set_cons_zero, List.set_cons_succ]
                  refine wpHead_take (i := 21) (v := ?_) (by rfl) (by kernel_rfl) (by kernel_rfl) (by exact fun _ _ _ h => h) (Or.inl ⟨by rfl, ?_⟩) (by assumption) ?_
                  rotate_left
                  · intro w hSw
                    first | (go_simp; done) | (go_simp; with_reducible rfl)
                  simp only [List.getElem_toArray, List.getElem_cons_succ, List.getElem_cons_zero, Act.put, List.setIfInBounds_toArray, List.set_cons_zero, List.set_cons_succ]
                  refine wpHead_take (i := 22) (v := ?_) (by rfl) (by kernel_rfl) (by kernel_rfl) (by exact fun _ _ _ h => h) (Or.inl ⟨by rfl, ?_⟩) (by assumption) ?_
                  rotate_left
                  · intro w hSw
                    first | (go_simp; done) | (go_simp; with_reducible rfl)
                  simp only [List.getElem_toArray, List.getElem_cons_succ, List.getElem_cons_zero, Act.put, List.setIfInBounds_toArray, List.set_cons_zero, List.set_cons_succ]
                  refine wpHead_take (i := 23) (v := ?_) (by rfl) (by kernel_rfl) (by kernel_rfl) (by exact fun _ _ _ h => h) (Or.inl ⟨by rfl, ?_⟩) (by assumption) ?_
                  rotate_left
                  · intro w hSw
                    first | (go_simp; done) | (go_simp; with_reducible rfl)
                  simp only [List.getElem_toArray, List.getElem_cons_succ, List.getElem_cons_zero, Act.put, List.setIfInBounds_toArray, List.set_cons_zero, List.set_cons_succ]
                  refine wpHead_take (i := 24) (v := ?_) (by rfl) (by kernel_rfl) (by kernel_rfl) (by exact fun _ _ _ h => h) (Or.inl ⟨by rfl, ?_⟩) (by assumption) ?_
                  rotate_left
                  · intro w hSw
                    first | (go_simp; done) | (go_simp; with_reducible rfl)
                  simp only [List.getElem_toArray, List.getElem_cons_succ, List.getElem_cons_zero, Act.put, List.setIfInBounds_toArray, List.set_cons_zero, List.set_cons_succ]
                  refine wpHead_done (by kernel_rfl) ?_
                  go_wp2
                  go_ret
                  exact ⟨by rw [HB.out, HB2.out]; rfl, hx0.trans (hxwb.trans hHeld)⟩
                · have d4 : decide (lu ≤ pu) = false := decide_eq_false hu3
                  have HC2 := Lib.hid (HC.out.symm.trans (if_neg (by omega)))
                  clear HC
                  go_wp2_with fail
                  refine wp_region_phase (S := fun w' => Ext wb w') 25 (by kernel_rfl) (by kernel_rfl) ?_ (fun hHeld => ?_)
                  · exact hxn
                  simp only [List.drop_succ_cons, List.drop_zero]
                  refine name_head ?_
                  intro wr0 hw0
                  rw [hw0] at hHeld
                  refine wpHead_take (i := 0) (v := ?_) (by rfl) (by kernel_rfl) (by kernel_rfl) (by exact fun _ _ _ h => h) (Or.inl ⟨by rfl, ?_⟩) (by assumption) ?_
                  rotate_left
                  · intro w hSw
                    first | (go_simp; done) | (go_simp; with_reducible rfl)
                  simp only [List.getElem_toArray, List.getElem_cons_zero, Act.put, List.setIfInBounds_toArray, List.set_cons_zero, List.set_cons_succ]
                  refine wpHead_take (i := 1) (v := ?_) (by rfl) (by kernel_rfl) (by kernel_rfl) (by exact fun _ _ _ h => h) (Or.inl ⟨by rfl, ?_⟩) (by assumption) ?_
                  rotate_left
                  · intro w hSw
                    first | (go_simp; done) | (go_simp; with_reducible rfl)
                  simp only [List.getElem_toArray, List.getElem_cons_succ, List.getElem_cons_zero, Act.put, List.setIfInBounds_toArray, List.set_cons_zero, List.set_cons_succ]
                  refine wpHead_take (i := 2) (v := ?_) (by rfl) (by kernel_rfl) (by kernel_rfl) (by exact fun _ _ _ h => h) (Or.inl ⟨by rfl, ?_⟩) (by assumption) ?_
                  rotate_left
                  · intro w hSw
                    first | (go_simp; done) | (go_simp; with_reducible rfl)
                  simp only [List.getElem_toArray, List.getElem_cons_succ, List.getElem_cons_zero, Act.put, List.setIfInBounds_toArray, List.set_cons_zero, List.set_cons_succ]
                  refine wpHead_take (i := 3) (v := ?_) (by rfl) (by kernel_rfl) (by kernel_rfl) (by exact fun _ _ _ h => h) (Or.inl ⟨by rfl, ?_⟩) (by assumption) ?_
                  rotate_left
                  · intro w hSw
                    first | (go_simp; done) | (go_simp; with_reducible rfl)
                  simp only [List.getElem_toArray, List.getElem_cons_succ, List.getElem_cons_zero, Act.put, List.setIfInBounds_toArray, List.set_cons_zero, List.set_cons_succ]
                  refine wpHead_take (i := 4) (v := ?_) (by rfl) (by kernel_rfl) (by kernel_rfl) (by exact fun _ _ _ h => h) (Or.inl ⟨by rfl, ?_⟩) (by assumption) ?_
                  rotate_left
                  · intro w hSw
                    first | (go_simp; done) | (go_simp; with_reducible rfl)
                  simp only [List.getElem_toArray, List.getElem_cons_succ, List.getElem_cons_zero, Act.put, List.setIfInBounds_toArray, List.set_cons_zero, List.set_cons_succ]
                  refine wpHead_take (i := 5) (v := ?_) (by rfl) (by kernel_rfl) (by kernel_rfl) (by exact fun _ _ _ h => h) (Or.inl ⟨by rfl, ?_⟩) (by assumption) ?_
                  rotate_left
                  · intro w hSw
                    first | (go_simp; done) | (go_simp; with_reducible rfl)
                  simp only [List.getElem_toArray, List.getElem_cons_succ, List.getElem_cons_zero, Act.put, List.setIfInBounds_toArray, List.set_cons_zero, List.set_cons_succ]
                  refine wpHead_take (i := 6) (v := ?_) (by rfl) (by kernel_rfl) (by kernel_rfl) (by exact fun _ _ _ h => h) (Or.inl ⟨by rfl, ?_⟩) (by assumption) ?_
                  rotate_left
                  · intro w hSw
                    first | (go_simp; done) | (go_simp; with_reducible rfl)
                  simp only [List.getElem_toArray, List.getElem_cons_succ, List.getElem_cons_zero, Act.put, List.setIfInBounds_toArray, List.set_cons_zero, List.set_cons_succ]
                  refine wpHead_take (i := 7) (v := ?_) (by rfl) (by kernel_rfl) (by kernel_rfl) (by exact fun _ _ _ h => h) (Or.inl ⟨by rfl, ?_⟩) (by assumption) ?_
                  rotate_left
                  · intro w hSw
                    first | (go_simp; done) | (go_simp; with_reducible rfl)
                  simp only [List.getElem_toArray, List.getElem_cons_succ, List.getElem_cons_zero, Act.put, List.setIfInBounds_toArray, List.set_cons_zero, List.set_cons_succ]
                  refine wpHead_take (i := 8) (v := ?_) (by rfl) (by kernel_rfl) (by kernel_rfl) (by exact fun _ _ _ h => h) (Or.inl ⟨by rfl, ?_⟩) (by assumption) ?_
                  rotate_left
                  · intro w hSw
                    first | (go_simp; done) | (go_simp; with_reducible rfl)
                  simp only [List.getElem_toArray, List.getElem_cons_succ, List.getElem_cons_zero, Act.put, List.setIfInBounds_toArray, List.set_cons_zero, List.set_cons_succ]
                  refine wpHead_take (i := 9) (v := ?_) (by rfl) (by kernel_rfl) (by kernel_rfl) (by exact fun _ _ _ h => h) (Or.inl ⟨by rfl, ?_⟩) (by assumption) ?_
                  rotate_left
                  · intro w hSw
                    first | (go_simp; done) | (go_simp; with_reducible rfl)
                  simp only [List.getElem_toArray, List.getElem_cons_succ, List.getElem_cons_zero, Act.put, List.setIfInBounds_toArray, List.set_cons_zero, List.set_cons_succ]
                  refine wpHead_take (i := 10) (v := ?_) (by rfl) (by kernel_rfl) (by kernel_rfl) (by exact fun _ _ _ h => h) (Or.inl ⟨by rfl, ?_⟩) (by assumption) ?_
                  rotate_left
                  · intro w hSw
                    first | (go_simp; done) | (go_simp; with_reducible rfl)
                  simp only [List.getElem_toArray, List.getElem_cons_succ, List.getElem_cons_zero, Act.put, List.setIfInBounds_toArray, List.set_cons_zero, List.set_cons_succ]
                  refine wpHead_take (i := 11) (v := ?_) (by rfl) (by kernel_rfl) (by kernel_rfl) (by exact fun _ _ _ h => h) (Or.inl ⟨by rfl, ?_⟩) (by assumption) ?_
                  rotate_left
                  · intro w hSw
                    first | (go_simp; done) | (go_simp; with_reducible rfl)
                  simp only [List.getElem_toArray, List.getElem_cons_succ, List.getElem_cons_zero, Act.put, List.setIfInBounds_toArray, List.set_cons_zero, List.set_cons_succ]
                  refine wpHead_take (i := 12) (v := ?_) (by rfl) (by kernel_rfl) (by kernel_rfl) (by exact fun _ _ _ h => h) (Or.inl ⟨by rfl, ?_⟩) (by assumption) ?_
                  rotate_left
                  · intro w hSw
                    first | (go_simp; done) | (go_simp; with_reducible rfl)
                  simp only [List.getElem_toArray, List.getElem_cons_succ, List.getElem_cons_zero, Act.put, List.setIfInBounds_toArray, List.set_cons_zero, List.set_cons_succ]
                  refine wpHead_take (i := 13) (v := ?_) (by rfl) (by kernel_rfl) (by kernel_rfl) (by exact fun _ _ _ h => h) (Or.inl ⟨by rfl, ?_⟩) (by assumption) ?_
                  rotate_left
                  · intro w hSw
                    first | (go_simp; done) | (go_simp; with_reducible rfl)
                  simp only [List.getElem_toArray, List.getElem_cons_succ, List.getElem_cons_zero, Act.put, List.setIfInBounds_toArray, List.set_cons_zero, List.set_cons_succ]
                  refine wpHead_take (i := 14) (v := ?_) (by rfl) (by kernel_rfl) (by kernel_rfl) (by exact fun _ _ _ h => h) (Or.inl ⟨by rfl, ?_⟩) (by assumption) ?_
                  rotate_left
                  · intro w hSw
                    first | (go_simp; done) | (go_simp; with_reducible rfl)
                  simp only [List.getElem_toArray, List.getElem_cons_succ, List.getElem_cons_zero, Act.put, List.setIfInBounds_toArray, List.set_cons_zero, List.set_cons_succ]
                  refine wpHead_take (i := 15) (v := ?_) (by rfl) (by kernel_rfl) (by kernel_rfl) (by exact fun _ _ _ h => h) (Or.inl ⟨by rfl, ?_⟩) (by assumption) ?_
                  rotate_left
                  · intro w hSw
                    first | (go_simp; done) | (go_simp; with_reducible rfl)
                  simp only [List.getElem_toArray, List.getElem_cons_succ, List.getElem_cons_zero, Act.put, List.setIfInBounds_toArray, List.set_cons_zero, List.set_cons_succ]
                  refine wpHead_take (i := 16) (v := ?_) (by rfl) (by kernel_rfl) (by kernel_rfl) (by exact fun _ _ _ h => h) (Or.inl ⟨by rfl, ?_⟩) (by assumption) ?_
                  rotate_left
                  · intro w hSw
                    first | (go_simp; done) | (go_simp; with_reducible rfl)
                  simp only [List.getElem_toArray, List.getElem_cons_succ, List.getElem_cons_zero, Act.put, List.setIfInBounds_toArray, List.set_cons_zero, List.set_cons_succ]
                  refine wpHead_take (i := 17) (v := ?_) (by rfl) (by kernel_rfl) (by kernel_rfl) (by exact fun _ _ _ h => h) (Or.inl ⟨by rfl, ?_⟩) (by assumption) ?_
                  rotate_left
                  · intro w hSw
                    first | (go_simp; done) | (go_simp; with_reducible rfl)
                  simp only [List.getElem_toArray, List.getElem_cons_succ, List.getElem_cons_zero, Act.put, List.setIfInBounds_toArray, List.set_cons_zero, List.set_cons_succ]
                  refine wpHead_take (i := 18) (v := ?_) (by rfl) (by kernel_rfl) (by kernel_rfl) (by exact fun _ _ _ h => h) (Or.inl ⟨by rfl, ?_⟩) (by assumption) ?_
                  rotate_left
                  · intro w hSw
                    first | (go_simp; done) | (go_simp; with_reducible rfl)
                  simp only [List.getElem_toArray, List.getElem_cons_succ, List.getElem_cons_zero, Act.put, List.setIfInBounds_toArray, List.set_cons_zero, List.set_cons_succ]
                  refine wpHead_take (i := 19) (v := ?_) (by rfl) (by kernel_rfl) (by kernel_rfl) (by exact fun _ _ _ h => h) (Or.inl ⟨by rfl, ?_⟩) (by assumption) ?_
                  rotate_left
                  · intro w hSw
                    first | (go_simp; done) | (go_simp; with_reducible rfl)
                  simp only [List.getElem_toArray, List.getElem_cons_succ, List.getElem_cons_zero, Act.put, List.setIfInBounds_toArray, List.set_cons_zero, List.set_cons_succ]
                  refine wpHead_take (i := 20) (v := ?_) (by rfl) (by kernel_rfl) (by kernel_rfl) (by exact fun _ _ _ h => h) (Or.inl ⟨by rfl, ?_⟩) (by assumption) ?_
                  rotate_left
                  · intro w hSw
                    first | (go_simp; done) | (go_simp; with_reducible rfl)
                  simp only [List.getElem_toArray, List.getElem_cons_succ, List.getElem_cons_zero, Act.put, List.setIfInBounds_toArray, List.set_cons_zero, List.set_cons_succ]
                  refine wpHead_take (i := 21) (v := ?_) (by rfl) (by kernel_rfl) (by kernel_rfl) (by exact fun _ _ _ h => h) (Or.inl ⟨by rfl, ?_⟩) (by assumption) ?_
                  rotate_left
                  · intro w hSw
                    first | (go_simp; done) | (go_simp; with_reducible rfl)
                  simp only [List.getElem_toArray, List.getElem_cons_succ, List.getElem_cons_zero, Act.put, List.setIfInBounds_toArray, List.set_cons_zero, List.set_cons_succ]
                  refine wpHead_take (i := 22) (v := ?_) (by rfl) (by kernel_rfl) (by kernel_rfl) (by exact fun _ _ _ h => h) (Or.inl ⟨by rfl, ?_⟩) (by assumption) ?_
                  rotate_left
                  · intro w hSw
                    first | (go_simp; done) | (go_simp; with_reducible rfl)
                  simp only [List.getElem_toArray, List.getElem_cons_succ, List.getElem_cons_zero, Act.put, List.setIfInBounds_toArray, List.set_cons_zero, List.set_cons_succ]
                  refine wpHead_take (i := 23) (v := ?_) (by rfl) (by kernel_rfl) (by kernel_rfl) (by exact fun _ _ _ h => h) (Or.inl ⟨by rfl, ?_⟩) (by assumption) ?_
                  rotate_left
                  · intro w hSw
                    first | (go_simp; done) | (go_simp; with_reducible rfl)
                  simp only [List.getElem_toArray, List.getElem_cons_succ, List.getElem_cons_zero, Act.put, List.setIfInBounds_toArray, List.set_cons_zero, List.set_cons_succ]
                  refine wpHead_take (i := 24) (v := ?_) (by rfl) (by kernel_rfl) (by kernel_rfl) (by exact fun _ _ _ h => h) (Or.inl ⟨by rfl, ?_⟩) (by assumption) ?_
                  rotate_left
                  · intro w hSw
                    first | (go_simp; done) | (go_simp; with_reducible rfl)
                  simp only [List.getElem_toArray, List.getElem_cons_succ, List.getElem_cons_zero, Act.put, List.setIfInBounds_toArray, List.set_cons_zero, List.set_cons_succ]
                  refine wpHead_done (by kernel_rfl) ?_
                  skip
                  by_cases hf : (31 : Int) < (lf.toNat : Int)
                  · have HB2 : Hid (lettersC bnx bls 0 = 2) := Lib.hid (by rw [HC2.out, if_pos (by omega)])
                    go_wp2
                    go_ret
                    exact ⟨by rw [HB.out, HB2.out]; rfl, hx0.trans (hxwb.trans hHeld)⟩
                  · have HC3 := Lib.hid (HC2.out.trans (if_neg (by omega)))
                    clear HC2
                    by_cases hb : (600 : Int) < (lb.length : Int)
                    · have HB2 : Hid (lettersC bnx bls 0 = 6) := Lib.hid (by rw [HC3.out, if_pos (by omega)])
                      go_wp2
                      go_ret
                      exact ⟨by rw [HB.out, HB2.out]; rfl, hx0.trans (hxwb.trans hHeld)⟩
                    · have HC4 := Lib.hid (HC3.out.trans (if_neg (by omega)))
                      clear HC3
                      go_wp2
                      go_roundw
                      case rel => exact ⟨k' + 1 + 1, by go_num, by omega, by rw [HPV.out]; exact HC4.out.symm, fun _ => by rw [HPV.out]; omega, hxwb.trans hHeld⟩
                      case measure => simp [intOf]; omega
        · have hd : bls.drop k = [] := List.drop_eq_nil_of_le (by omega)
          rw [hd, lettersC] at hc
          have HC := Lib.hid hc
          clear hc hd
          go_wp2
          go_ret
          exact ⟨by rw [HB.out, ← HC.out]; rfl, hx0.trans hx⟩
  · have HB : Hid (boxC ⟨bn, bvv, bnx, bls⟩ = 2) := Lib.hid (by rw [HE.out, if_pos hr])
    clear HE
    by_cases k1 : bvv < 1
    · go_wp2
      go_ret
      exact ⟨by rw [HB.out]; rfl, hx0⟩
    · by_cases k2 : 4294967295 < bvv
      · go_wp2
        go_ret
        exact ⟨by rw [HB.out]; rfl, hx0⟩
      · by_cases k3 : bnx < 1
        · go_wp2
          go_ret
          exact ⟨by rw [HB.out]; rfl, hx0⟩
        · have k4 : 4294967295 < bnx := by omega
          go_wp2
          go_ret
          exact ⟨by rw [HB.out]; rfl, hx0⟩
end Go.Proofs.YtameamfaaenboaaDoor
namespace Go.Proofs.YtameamfaaenboaaDoor
open Go.RowKit
theorem add_fieldD (ad : Addr) (n k : Nat) : ad.add (n + (k + 1)) = ⟨(ad.add n).block, (ad.add n).off + (k + 1), none⟩ := by
  unfold Addr.add
  by_cases h : n = 0 <;> simp [h, Nat.add_assoc]
/-- the cells of a letter in memory -/
theorem RsM.lt_at {w : World} {A : Option Addr} {ls : List Lt} (h : RsM RLt 3 [] w A ls) {k : Nat} (hk : k < ls.length) :
    ∃ (ad : Addr) (A2 : Option Addr) (c2 : Nat), A = some ad ∧ Bs w A2 ls[k].bytes ∧ ∀ w', Ext w w' → w'.cell? (ad.add (k * 3)) = some (.int .i64 ls[k].uid) ∧ w'.cell? ⟨(ad.add (k * 3)).block, (ad.add (k * 3)).off + 1, none⟩ = some (.int .u8 (ls[k].flags.toNat : Int)) ∧ w'.cell? ⟨(ad.add (k * 3)).block, (ad.add (k * 3)).off + 2, none⟩ = some (.slice A2 ls[k].bytes.length c2) := by
  obtain ⟨ad, cs, hA, _, _, hcell, A2, c2, hcs, hby⟩ := h.at_ (by omega) hk
  subst hcs
  refine ⟨ad, A2, c2, hA, hby.bs, fun w' hx => ⟨hx.cell (hcell 0 _ rfl), ?_, ?_⟩⟩
  · rw [← add_fieldD]; exact hx.cell (hcell 1 _ rfl)
  · rw [← add_fieldD]; exact hx.cell (hcell 2 _ rfl)
set_option maxRecDepth 20000 in
set_option maxHeartbeats 4000000 in
theorem BSame_any (b : Bx) (A A' : Option Addr) (c c' : Nat) (w : World) (h : RsM RLt 3 [] w A b.letters) (h' : RsM RLt 3 [] w A' b.letters) (hl : b.letters.length ≤ 140737488351232) :
    Calls Tryd.prog 57 #[.agg (bxC b (.slice A b.letters.length c)), .agg (bxC b (.slice A' b.letters.length c'))] w fun e w' => e = .returned (.bool true) ∧ Ext w w' := by
  obtain ⟨bn, bv, bx, ls⟩ := b
  simp only at h h' hl
  unfold bxC
  simp only
  obtain ⟨wa, hwa⟩ : ∃ wa, wa = (w.alloc (.cells #[.string (st bn), .int .i64 bv, .int .i64 bx, .slice A ls.length c] 51)).alloc (.cells #[.string (st bn), .int .i64 bv, .int .i64 bx, .slice A' ls.length c'] 51) := ⟨_, rfl⟩
  have hxa : Ext w wa := by rw [hwa]; exact ((Ext.refl w).alloc _).alloc _
  have hr1 : wa.heap[w.heap.size]? = some (.cells #[.string (st bn), .int .i64 bv, .int .i64 bx, .slice A ls.length c] 51 (0, 0)) := by rw [hwa]; exact ((Ext.refl _).alloc _).obj (heap_alloc_new w _)
  have hr2 : wa.heap[w.heap.size + 1]? = some (.cells #[.string (st bn), .int .i64 bv, .int .i64 bx, .slice A' ls.length c'] 51 (0, 0)) := by
    have := heap_alloc_new (w.alloc (.cells #[.string (st bn), .int .i64 bv, .int .i64 bx, .slice A ls.length c] 51)) (.cells #[.string (st bn), .int .i64 bv, .int .i64 bx, .slice A' ls.length c'] 51)
    rw [hwa]; simpa using this
  have HWA := Lib.hid hwa
  obtain ⟨C0, C1, C2, C3, _⟩ := rows4 hr1
  obtain ⟨D0, D1, D2, D3, _⟩ := rows4 hr2
  try simp only at C0 C1 C2 C3 D0 D1 D2 D3
  clear hwa hr1 hr2
  go_enter Tryd.func57, Tryd.ntmps57
  go_wp2_with fail
  rw [← HWA.out]
  go_wp2
  go_loopw [5] (fun iv wr => ∃ k : Nat, iv = .int .i64 k ∧ k ≤ ls.length ∧ Ext wa wr) (fun iv _ => ls.length - (intOf iv).toNat)
  case atStart => exact ⟨0, rfl, by omega, Ext.refl _⟩
  case round =>
    obtain ⟨k, rfl, hk, hx⟩ := hrel
    by_cases hlt : k < ls.length
    · obtain ⟨ad, A2, c2, hA, hby, hc⟩ := h.lt_at hlt
      obtain ⟨ad', A3, c3, hA', hby', hc'⟩ := h'.lt_at hlt
      subst hA hA'
      have hlt2 : (k : Int) < ls.length := by omega
      have E0 := fun w' (hx' : Ext wa w') => (hc w' (hxa.trans hx')).1
      have E1 := fun w' (hx' : Ext wa w') => (hc w' (hxa.trans hx')).2.1
      have E2 := fun w' (hx' : Ext wa w') => (hc w' (hxa.trans hx')).2.2
      have G0 := fun w' (hx' : Ext wa w') => (hc' w' (hxa.trans hx')).1
      have G1 := fun w' (hx' : Ext wa w') => (hc' w' (hxa.trans hx')).2.1
      have G2 := fun w' (hx' : Ext wa w') => (hc' w' (hxa.trans hx')).2.2
      generalize ls[k] = ll at *
      obtain ⟨lu, lf, lb⟩ := ll
      simp only at E0 E1 E2 G0 G1 G2 hby hby'
      have s1 := run_str (P := Tryd.prog) Tryd.underlying26 Tryd.underlying5 Tryd.underlying9 (hby.ext hxa) lb.length c2 rfl
      have s2 := run_str (P := Tryd.prog) Tryd.underlying26 Tryd.underlying5 Tryd.underlying9 (hby'.ext hxa) lb.length c3 rfl
      have HX := Lib.hid hx
      clear hc hc' hby hby' h h'
      go_wp2_with fail
      go_quiet (fail)
      go_wp2
      go_roundw
      case rel => exact ⟨k + 1, by go_num, by omega, HX.out.drewN _⟩
      case measure => simp [intOf]; omega
    · have hlt2 : ¬ (k : Int) < ls.length := by omega
      clear h h'
      go_wp2
      go_ret
      exact ⟨rfl, hxa.trans hx⟩
set_option maxRecDepth 20000 in
set_option maxHeartbeats 4000000 in
theorem SameUser_any (u : Us) (A A' : Option Addr) (c c' : Nat) (w : World) (h : RsM RBx 4 [] w A u.boxes) (h' : RsM RBx 4 [] w A' u.boxes) (hl : u.boxes.length ≤ 140737488351232) (hb : ∀ b ∈ u.boxes, b.letters.length ≤ 140737488351232) :
    Calls Tryd.prog 28 #[.agg (usC u (.slice A u.boxes.length c)), .agg (usC u (.slice A' u.boxes.length c'))] w fun e w' => e = .returned (.bool true) ∧ Ext w w' := by
  obtain ⟨un, uv, bs⟩ := u
  simp only at h h' hl hb
  unfold usC
  simp only
  obtain ⟨wa, hwa⟩ : ∃ wa, wa = (w.alloc (.cells #[.string (st un), .int .i64 uv, .slice A bs.length c] 42)).alloc (.cells #[.string (st un), .int .i64 uv, .slice A' bs.length c'] 42) := ⟨_, rfl⟩
  have hxa : Ext w wa := by rw [hwa]; exact ((Ext.refl w).alloc _).alloc _
  have hr1 : wa.heap[w.heap.size]? = some (.cells #[.string (st un), .int .i64 uv, .slice A bs.length c] 42 (0, 0)) := by rw [hwa]; exact ((Ext.refl _).alloc _).obj (heap_alloc_new w _)
  have hr2 : wa.heap[w.heap.size + 1]? = some (.cells #[.string (st un), .int .i64 uv, .slice A' bs.length c'] 42 (0, 0)) := by
    have := heap_alloc_new (w.alloc (.cells #[.string (st un), .int .i64 uv, .slice A bs.length c] 42)) (.cells #[.string (st un), .int .i64 uv, .slice A' bs.length c'] 42)
    rw [hwa]; simpa using this
  have HWA := Lib.hid hwa
  obtain ⟨C0, C1, C2, _⟩ := rows3 hr1
  obtain ⟨D0, D1, D2, _⟩ := rows3 hr2
  try simp only at C0 C1 C2 D0 D1 D2
  clear hwa hr1 hr2
  go_enter Tryd.func28, Tryd.ntmps28
  go_wp2_with fail
  rw [← HWA.out]
  go_wp2
  go_loopw [5] (fun iv wr => ∃ k : Nat, iv = .int .i64 k ∧ k ≤ bs.length ∧ Ext wa wr) (fun iv _ => bs.length - (intOf iv).toNat)
  case atStart => exact ⟨0, rfl, by omega, Ext.refl _⟩
  case round =>
    obtain ⟨k, rfl, hk, hx⟩ := hrel
    by_cases hlt : k < bs.length
    · obtain ⟨ad, cs, hA, had, hcs, hcell, A2, cap2, hcs2, hby⟩ := h.at_ (by omega) hlt
      obtain ⟨ad', cs', hA', had', hcs', hcell', A3, cap3, hcs3, hby'⟩ := h'.at_ (by omega) hlt
      subst hA hcs2 hA' hcs3
      have hlt2 : (k : Int) < bs.length := by omega
      have hC : ∀ w', Ext wa w' → ∀ j v, (bxC bs[k] (.slice A2 bs[k].letters.length cap2)).toList[j]? = some v → w'.cell? ((ad.add (k * 4)).add j) = some v := fun w' hx' j v hj => (hxa.trans hx').cell (show w.cell? ((ad.add (k * 4)).add j) = some v by rw [add_addB]; exact hcell j v hj)
      have hC' : ∀ w', Ext wa w' → ∀ j v, (bxC bs[k] (.slice A3 bs[k].letters.length cap3)).toList[j]? = some v → w'.cell? ((ad'.add (k * 4)).add j) = some v := fun w' hx' j v hj => (hxa.trans hx').cell (show w.cell? ((ad'.add (k * 4)).add j) = some v by rw [add_addB]; exact hcell' j v hj)
      have hbl := hb _ (List.getElem_mem hlt)
      have HSM := fun w' (hx' : Ext wa w') => BSame_any bs[k] A2 A3 cap2 cap3 w' (hby.kept (.of_ext (hxa.trans hx'))) (hby'.kept (.of_ext (hxa.trans hx'))) hbl
      clear hcs hcell hby had hcs' hcell' hby' had' hb hbl
      generalize bs[k] = bb at *
      obtain ⟨bn, bv, bx, bls⟩ := bb
      unfold bxC at hC hC' HSM
      simp only at hC hC' HSM
      have hxn := hx.drew
      go_wp2_with fail
      refine wp_region_phase (S := fun w' => Ext wa w') 11 (by kernel_rfl) (by kernel_rfl) ?_ (fun hHeld => ?_)
      · exact hxn
      simp only [List.drop_succ_cons, List.drop_zero]
      refine name_head ?_
      intro wr0 hw0
      rw [hw0] at hHeld
      refine wpHead_take (i := 0) (v := ?_) (by rfl) (by kernel_rfl) (by kernel_rfl) (by exact fun _ _ _ h => h) (Or.inl ⟨by rfl, ?_⟩) (by assumption) ?_
      rotate_left
      · intro w hSw
        first | (go_simp; done) | (go_simp; with_reducible rfl)
      simp only [List.getElem_toArray, List.getElem_cons_zero, Act.put, List.setIfInBounds_toArray, List.set_cons_zero, List.set_cons_succ]
      refine wpHead_take (i := 1) (v := ?_) (by rfl) (by kernel_rfl) (by kernel_rfl) (by exact fun _ _ _ h => h) (Or.inl ⟨by rfl, ?_⟩) (by assumption) ?_
      rotate_left
      · intro w hSw
        first | (go_simp; done) | (go_simp; with_reducible rfl)
      simp only [List.getElem_toArray, List.getElem_cons_succ, List.getElem_cons_zero, Act.put, List.setIfInBounds_toArray, List.set_cons_zero, List.set_cons_succ]
      refine wpHead_take (i := 2) (v := ?_) (by rfl) (by kernel_rfl) (by kernel_rfl) (by exact fun _ _ _ h => h) (Or.inl ⟨by rfl, ?_⟩) (by assumption) ?_
      rotate_left
      · intro w hSw
        first | (go_simp; done) | (go_simp; with_reducible rfl)
      simp only [List.getElem_toArray, List.getElem_cons_succ, List.getElem_cons_zero, Act.put, List.setIfInBounds_toArray, List.set_cons_zero, List.set_cons_succ]
      refine wpHead_take (i := 3) (v := ?_) (by rfl) (by kernel_rfl) (by kernel_rfl) (by exact fun _ _ _ h => h) (Or.inl ⟨by rfl, ?_⟩) (by assumption) ?_
      rotate_left
      · intro w hSw
        first | (go_simp; done) | (go_simp; with_reducible rfl)
      simp only [List.getElem_toArray, List.getElem_cons_succ, List.getElem_cons_zero, Act.put, List.setIfInBounds_toArray, List.set_cons_zero, List.set_cons_succ]
      refine wpHead_take (i := 4) (v := (.agg #[.string (st bn), .int .i64 bv, .int .i64 bx, .slice A2 bls.length cap2])) (by rfl) (by kernel_rfl) (by kernel_rfl) (by exact fun _ _ _ h => h) (by exact yieldsIf_load_elem (by rfl) 51 _ rfl (ad.add (k * 4)) rfl [.string (st bn), .int .i64 bv, .int .i64 bx, .slice A2 bls.length cap2] _ hC Tryd.underlying51 rfl (by kernel_rfl)) (by assumption) ?_
      simp only [List.getElem_toArray, List.getElem_cons_succ, List.getElem_cons_zero, Act.put, List.setIfInBounds_toArray, List.set_cons_zero, List.set_cons_succ]
      refine wpHead_take (i := 5) (v := ?_) (by rfl) (by kernel_rfl) (by kernel_rfl) (by exact fun _ _ _ h => h) (Or.inl ⟨by rfl, ?_⟩) (by assumption) ?_
      rotate_left
      · intro w hSw
        first | (go_simp; done) | (go_simp; with_reducible rfl)
      simp only [List.getElem_toArray, List.getElem_cons_succ, List.getElem_cons_zero, Act.put, List.setIfInBounds_toArray, List.set_cons_zero, List.set_cons_succ]
      refine wpHead_take (i := 6) (v := ?_) (by rfl) (by kernel_rfl) (by kernel_rfl) (by exact fun _ _ _ h => h) (Or.inl ⟨by rfl, ?_⟩) (by assumption) ?_
      rotate_left
      · intro w hSw
        first | (go_simp; done) | (go_simp; with_reducible rfl)
      simp only [List.getElem_toArray, List.getElem_cons_succ, List.getElem_cons_zero, Act.put, List.setIfInBounds_toArray, List.set_cons_zero, List.set_cons_succ]
      refine wpHead_take (i := 7) (v := ?_) (by rfl) (by kernel_rfl) (by kernel_rfl) (by exact fun _ _ _ h => h) (Or.inl ⟨by rfl, ?_⟩) (by assumption) ?_
      rotate_left
      · intro w hSw
        first | (go_simp; done) | (go_simp; with_reducible rfl)
      simp only [List.getElem_toArray, List.getElem_cons_succ, List.getElem_cons_zero, Act.put, List.setIfInBounds_toArray, List.set_cons_zero, List.set_cons_succ]
      refine wpHead_take (i := 8) (v := ?_) (by rfl) (by kernel_rfl) (by kernel_rfl) (by exact fun _ _ _ h => h) (Or.inl ⟨by rfl, ?_⟩) (by assumption) ?_
      rotate_left
      · intro w hSw
        first | (go_simp; done) | (go_simp; with_reducible rfl)
      simp only [List.getElem_toArray, List.getElem_cons_succ, List.getElem_cons_zero, Act.put, List.setIfInBounds_toArray, List.set_cons_zero, List.set_cons_succ]
      refine wpHead_take (i := 9) (v := (.agg #[.string (st bn), .int .i64 bv, .int .i64 bx, .slice A3 bls.length cap3])) (by rfl) (by kernel_rfl) (by kernel_rfl) (by exact fun _ _ _ h => h) (by exact yieldsIf_load_elem (by rfl) 51 _ rfl (ad'.add (k * 4)) rfl [.string (st bn), .int .i64 bv, .int .i64 bx, .slice A3 bls.length cap3] _ hC' Tryd.underlying51 rfl (by kernel_rfl)) (by assumption) ?_
      simp only [List.getElem_toArray, List.getElem_cons_succ, List.getElem_cons_zero, Act.put, List.setIfInBounds_toArray, List.set_cons_zero, List.set_cons_succ]
      refine wpHead_ready (rs := [10]) (by kernel_rfl) (by simp) (by kernel_rfl) ?_
      refine AllHead.cons (by rfl) (fun K hK => ?_) ?_
      · refine step_callG (by rfl) (by kernel_rfl) (HSM _ hHeld) ?_
        rintro e wr10 ⟨rfl, hx8⟩
        refine ⟨_, rfl, ?_⟩
        refine hK.out _ _ ?_ (fun hHeld => ?_)
        · exact hHeld.trans hx8
        clear hK K
        try simp only [List.getElem_toArray, List.getElem_cons_succ, List.getElem_cons_zero, Act.put, List.setIfInBounds_toArray, List.set_cons_zero, List.set_cons_succ]
        refine wpHead_done (by kernel_rfl) ?_
        go_wp2
        go_roundw
        case rel => exact ⟨k + 1, by go_num, by omega, hHeld⟩
        case measure => simp [intOf]; omega
      exact AllHead.nil
    · have hlt2 : ¬ (k : Int) < bs.length := by omega
      clear h h'
      go_wp2
      go_ret
      exact ⟨rfl, hxa.trans hx⟩
end Go.Proofs.YtameamfaaenboaaDoor
namespace Go.Proofs.YtameamfaaenboaaDoor
open Go.RowKit
set_option maxRecDepth 20000 in
set_option maxHeartbeats 2000000 in
theorem R8Size_any (b : Bx) (A : Option Addr) (cap : Nat) (w : World) (h : RsM RLt 3 [] w A b.letters) (h32 : b.letters.length ≤ 32) (h600 : ∀ l ∈ b.letters, l.bytes.length ≤ 600) :
    Calls Tryd.prog 56 #[.agg (bxC b (.slice A b.letters.length cap))] w fun e w' => e = .returned (.int .i64 (sizeB b : Nat)) ∧ Ext w w' := by
  have hx0 : Ext w (w.alloc (.cells (bxC b (.slice A b.letters.length cap)) 51)) := (Ext.refl w).alloc _
  have hrow := heap_alloc_new w (.cells (bxC b (.slice A b.letters.length cap)) 51)
  obtain ⟨wa, hwa⟩ : ∃ wa, wa = w.alloc (.cells (bxC b (.slice A b.letters.length cap)) 51) := ⟨_, rfl⟩
  rw [← hwa] at hx0 hrow
  obtain ⟨bn, bvv, bnx, bls⟩ := b
  simp only at *
  obtain ⟨C0, C1, C2, C3, FF⟩ := rows4 hrow
  clear FF
  have h := h.kept (.of_ext hx0)
  have HWA := Lib.hid hwa
  clear hwa hrow
  unfold bxC at *
  go_enter Tryd.func56, Tryd.ntmps56
  go_wp2
  rw [← HWA.out]
  go_loopw [3, 4] (fun nv iv wr => ∃ (k : Nat), iv = .int .i64 k ∧ k ≤ bls.length ∧ nv = .int .i64 (sizeF 0 (bls.take k) : Nat) ∧ Ext wa wr) (fun _ iv _ => bls.length - (intOf iv).toNat)
  case atStart => exact ⟨0, rfl, by omega, rfl, Ext.refl _⟩
  case round =>
    obtain ⟨k, rfl, hk, rfl, hx⟩ := hrel
    by_cases hlt : k < bls.length
    · obtain ⟨ad, A2, c2, rfl, _, hc⟩ := h.lt_at hlt
      have hle := sizeF_le bls h600 k hk
      have h6 := h600 _ (List.getElem_mem hlt)
      have HT := Lib.hid (sizeF_take bls k hlt)
      generalize sizeF 0 (bls.take k) = n0 at *
      have hlt2 : (k : Int) < bls.length := by omega
      have E2 := fun w' (hx' : Ext wa w') => (hc w' hx').2.2
      clear hc
      generalize bls[k] = lt at *
      obtain ⟨lu, lf, lb⟩ := lt
      simp only at *
      go_wp2
      go_roundw
      case rel => exact ⟨k + 1, by go_num, by omega, by rw [HT.out]; go_num, hx⟩
      case measure => simp [intOf]; omega
    · have HT : Hid (sizeF 0 (bls.take k) = sizeB ⟨bn, bvv, bnx, bls⟩) := Lib.hid (by rw [List.take_of_length_le (by omega)]; rfl)
      go_wp2
      go_ret
      exact ⟨by rw [← HT.out]; rfl, hx0.trans hx⟩
set_option maxRecDepth 20000 in
set_option maxHeartbeats 8000000 in
theorem RCheckUser_any (u : Us) (A : Option Addr) (cap : Nat) (w : World) (h : RsM RBx 4 [] w A u.boxes) (hn : u.name.length ≤ 8796093022000) (hbn : ∀ b ∈ u.boxes, b.name.length ≤ 8796093022000) (hT : Tabs w) :
    Calls Tryd.prog 27 #[.agg (usC u (.slice A u.boxes.length cap))] w fun e w' => e = .returned (.int .i64 (checkU u : Nat)) ∧ Ext w w' := by
  have hx0 : Ext w (w.alloc (.cells (usC u (.slice A u.boxes.length cap)) 42)) := (Ext.refl w).alloc _
  have hrow := heap_alloc_new w (.cells (usC u (.slice A u.boxes.length cap)) 42)
  obtain ⟨wa, hwa⟩ : ∃ wa, wa = w.alloc (.cells (usC u (.slice A u.boxes.length cap)) 42) := ⟨_, rfl⟩
  rw [← hwa] at hx0 hrow
  obtain ⟨un, uv, bs⟩ := u
  simp only at *
  obtain ⟨C0, C1, C2, FF⟩ := rows3 hrow
  clear FF
  have h := h.kept (.of_ext hx0)
  have hTa := hT.ext hx0
  have HWA := Lib.hid hwa
  have HRU := fun w => RRightUser_any un w hn
  have HE : Hid (checkU ⟨un, uv, bs⟩ = if rightU un = false then 4 else if uv < 1 ∨ 4294967295 < uv then 2 else if bs.length = 0 ∨ 6 < bs.length then 8 else boxesC uv bs none ⟨0, 0, false⟩) := Lib.hid rfl
  clear hwa hrow
  unfold usC at *
  go_enter Tryd.func27, Tryd.ntmps27
  go_wp2_with fail
  rw [← HWA.out]
  refine (HRU wa).mono ?_
  rintro e w1 ⟨rfl, hx1⟩
  cases hru : rightU un with
  | false =>
    have HB : Hid (checkU ⟨un, uv, bs⟩ = 4) := Lib.hid (by rw [HE.out, hru]; rfl)
    clear hru HE
    go_wp2
    go_ret
    exact ⟨by rw [HB.out]; rfl, hx0.trans hx1⟩
  | true =>
    have HE2 : Hid (checkU ⟨un, uv, bs⟩ = if uv < 1 ∨ 4294967295 < uv then 2 else if bs.length = 0 ∨ 6 < bs.length then 8 else boxesC uv bs none ⟨0, 0, false⟩) := Lib.hid (by rw [HE.out, hru]; rfl)
    clear hru HE HRU
    by_cases hv1 : uv < 1
    · have HB : Hid (checkU ⟨un, uv, bs⟩ = 2) := Lib.hid (by rw [HE2.out, if_pos (.inl hv1)])
      go_wp2
      go_ret
      exact ⟨by rw [HB.out]; rfl, hx0.trans hx1⟩
    · by_cases hv2 : 4294967295 < uv
      · have HB : Hid (checkU ⟨un, uv, bs⟩ = 2) := Lib.hid (by rw [HE2.out, if_pos (.inr hv2)])
        go_wp2
        go_ret
        exact ⟨by rw [HB.out]; rfl, hx0.trans hx1⟩
      · have HE3 := Lib.hid (HE2.out.trans (if_neg (by omega)))
        clear HE2
        by_cases hl0 : (bs.length : Int) < 1
        · have HB : Hid (checkU ⟨un, uv, bs⟩ = 8) := Lib.hid (by rw [HE3.out, if_pos (.inl (by omega))])
          go_wp2
          go_ret
          exact ⟨by rw [HB.out]; rfl, hx0.trans hx1⟩
        · by_cases hl6 : (6 : Int) < (bs.length : Int)
          · have HB : Hid (checkU ⟨un, uv, bs⟩ = 8) := Lib.hid (by rw [HE3.out, if_pos (.inr (by omega))])
            go_wp2
            go_ret
            exact ⟨by rw [HB.out]; rfl, hx0.trans hx1⟩
          · have HU := Lib.hid (HE3.out.trans (if_neg (by omega)))
            clear HE3
            have hl6' : bs.length ≤ 6 := by omega
            go_wp2
            go_loopw [3, 4, 5, 6] (fun fv lv sv iv wr => ∃ (k : Nat) (t : Tot), iv = .int .i64 k ∧ k ≤ bs.length ∧ lv = .int .i64 (t.letters : Nat) ∧ sv = .int .i64 (t.size : Nat) ∧ fv = .bool t.found ∧ t.letters ≤ 32 * k ∧ t.size ≤ 19200 * k ∧ boxesC uv (bs.drop k) (prevN bs k) t = boxesC uv bs none ⟨0, 0, false⟩ ∧ Ext wa wr) (fun _ _ _ iv _ => bs.length - (intOf iv).toNat)
            case atStart => exact ⟨0, ⟨0, 0, false⟩, rfl, by omega, rfl, rfl, rfl, by simp, by simp, rfl, hx1⟩
            case round =>
              clear hx1
              obtain ⟨k, t, rfl, hk, rfl, rfl, rfl, hb1, hb2, hrun, hx⟩ := hrel
              obtain ⟨tl_, ts, tf⟩ := t
              simp only at *
              by_cases hlt : k < bs.length
              · rw [boxesC_drop _ _ _ _ hlt] at hrun
                have HC := Lib.hid hrun
                clear hrun
                obtain ⟨ad, cs, hA, had, hcs, hcell, A2, cap2, hcs2, hby⟩ := h.at_ (by omega) hlt
                subst hA hcs2
                have HRB := fun w' (hx' : Ext wa w') => RRightBox_any bs[k].name w' (hbn _ (List.getElem_mem hlt)) (hTa.ext hx')
                have HBC := fun w' (hx' : Ext wa w') => R8Check_any bs[k] A2 cap2 w' (hby.kept (.of_ext hx'))
                have HBZ := fun w' (hx' : Ext wa w') => R8Size_any bs[k] A2 cap2 w' (hby.kept (.of_ext hx'))
                have hlt2 : (k : Int) < bs.length := by omega
                have hcl := fun j v hj => hx.cell (show wa.cell? ((ad.add (k * 4)).add j) = some v by rw [add_addB]; exact hcell j v hj)
                have hbh0 := fun (e : k = 0) => (by subst e; rfl : behindB (prevN bs k) bs[k].name = false)
                have hbh1 := fun (k' : Nat) (e : k = k' + 1) (hk' : k' < bs.length) => (by subst e; simp [behindB, prevN, hk'] : behindB (prevN bs k) bs[k].name = leB bs[k].name bs[k'].name)
                clear hcs hcell hby had hbn
                generalize bs[k] = bb at *
                obtain ⟨bn, bval, bnx, bls⟩ := bb
                unfold bxC at HBC HBZ hcl
                try simp only at hcl HBC HBZ HRB
                go_wp2_with (first | (with_reducible refine stop_alloc 75 ?_) | (with_reducible refine stop_store 75 ?_) | (with_reducible refine stop_load 75 ?_) | (with_reducible refine stop_alloc 51 ?_) | (with_reducible refine stop_store 51 ?_) | (with_reducible refine stop_load 51 ?_))
                refine go_on (wpList_load_elem rfl 51 _ rfl (ad.add (k * 4)) rfl _ _ hcl Tryd.underlying51 rfl (by kernel_rfl) ?_)
                go_wp2_with (first | (with_reducible refine stop_alloc 75 ?_) | (with_reducible refine stop_store 75 ?_) | (with_reducible refine stop_load 75 ?_) | (with_reducible refine stop_alloc 51 ?_) | (with_reducible refine stop_store 51 ?_) | (with_reducible refine stop_load 51 ?_))
                refine go_on (wpList_alloc_ rfl rfl box_info ?_)
                go_wp2_with (first | (with_reducible refine stop_alloc 75 ?_) | (with_reducible refine stop_store 75 ?_) | (with_reducible refine stop_load 75 ?_) | (with_reducible refine stop_alloc 51 ?_) | (with_reducible refine stop_store 51 ?_) | (with_reducible refine stop_load 51 ?_))
                refine go_on (wpList_store_last rfl rfl rfl rfl (by kernel_rfl) rfl (by simp [Value.oneCell']) ?_)
                intro wb hrowB hxb _
                have hxwb := hx.trans hxb
                obtain ⟨D0, D1, D2, D3, _⟩ := rows4 hrowB
                try simp only at D0 D1 D2 D3
                have C1' := fun w' hx' => C1 w' (Ext.trans hxwb hx')
                have C2' := fun w' hx' => C2 w' (Ext.trans hxwb hx')
                have hxn : Ext wb wb.drew := (Ext.refl _).drew
                clear C0 C1 C2 hcl hx hxb
                cases hrb : rightB bn with
                | false =>
                  go_wp2_with fail
                  refine wp_region_phase (S := fun w' => Ext wb w') 19 (by kernel_rfl) (by kernel_rfl) ?_ (fun hHeld => ?_)
                  · exact hxn
                  simp only [List.drop_succ_cons, List.drop_zero]
                  refine name_head ?_
                  intro wr0 hw0
                  rw [hw0] at hHeld
                  refine wpHead_take (i := 0) (v := ?_) (by rfl) (by kernel_rfl) (by kernel_rfl) (by exact fun _ _ _ h => h) (Or.inl ⟨by rfl, ?_⟩) (by assumption) ?_
                  rotate_left
                  · intro w hSw
                    first | (go_simp; done) | (go_simp; with_reducible rfl)
                  simp only [List.getElem_toArray, List.getElem_cons_zero, Act.put, List.setIfInBounds_toArray, List.set_cons_zero, List.set_cons_succ]
                  refine wpHead_take (i := 1) (v := ?_) (by rfl) (by kernel_rfl) (by kernel_rfl) (by exact fun _ _ _ h => h) (Or.inl ⟨by rfl, ?_⟩) (by assumption) ?_
                  rotate_left
                  · intro w hSw
                    first | (go_simp; done) | (go_simp; with_reducible rfl)
                  simp only [List.getElem_toArray, List.getElem_cons_succ, List.getElem_cons_zero, Act.put, List.setIfInBounds_toArray, List.set_cons_zero, List.set_cons_succ]
                  refine wpHead_ready (rs := [2]) (by kernel_rfl) (by simp) (by kernel_rfl) ?_
                  refine AllHead.cons (by rfl) (fun K hK => ?_) ?_
                  · refine step_callG (by rfl) (by kernel_rfl) (HRB _ (hxwb.trans hHeld)) ?_
                    rintro e wr2 ⟨rfl, hx2⟩
                    rw [hrb]
                    refine ⟨_, rfl, ?_⟩
                    refine hK.out _ _ ?_ (fun hHeld => ?_)
                    · exact hHeld.trans hx2
                    clear hK K
                    try simp only [List.getElem_toArray, List.getElem_cons_succ, List.getElem_cons_zero, Act.put, List.setIfInBounds_toArray, List.set_cons_zero, List.set_cons_succ]
                    refine wpHead_take (i := 3) (v := ?_) (by rfl) (by kernel_rfl) (by kernel_rfl) (by exact fun _ _ _ h => h) (Or.inl ⟨by rfl, ?_⟩) (by assumption) ?_
                    rotate_left
                    · intro w hSw
                      first | (go_simp; done) | (go_simp; with_reducible rfl)
                    simp only [List.getElem_toArray, List.getElem_cons_succ, List.getElem_cons_zero, Act.put, List.setIfInBounds_toArray, List.set_cons_zero, List.set_cons_succ]
                    refine wpHead_take (i := 4) (v := ?_) (by rfl) (by kernel_rfl) (by kernel_rfl) (by exact fun _ _ _ h => h) (Or.inl ⟨by rfl, ?_⟩) (by assumption) ?_
                    rotate_left
                    · intro w hSw
                      first | (go_simp; done) | (go_simp; with_reducible rfl)
                    simp only [List.getElem_toArray, List.getElem_cons_succ, List.getElem_cons_zero, Act.put, List.setIfInBounds_toArray, List.set_cons_zero, List.set_cons_succ]
                    refine wpHead_take (i := 5) (v := undef) (by rfl) (by kernel_rfl) (by kernel_rfl) (by exact fun _ _ _ h => h) (Or.inr ⟨by rfl, rfl⟩) (by assumption) ?_
                    simp only [List.getElem_toArray, List.getElem_cons_succ, List.getElem_cons_zero, Act.put, List.setIfInBounds_toArray, List.set_cons_zero, List.set_cons_succ]
                    refine wpHead_take (i := 6) (v := undef) (by rfl) (by kernel_rfl) (by kernel_rfl) (by exact fun _ _ _ h => h) (Or.inr ⟨by rfl, rfl⟩) (by assumption) ?_
                    simp only [List.getElem_toArray, List.getElem_cons_succ, List.getElem_cons_zero, Act.put, List.setIfInBounds_toArray, List.set_cons_zero, List.set_cons_succ]
                    refine wpHead_take (i := 7) (v := undef) (by rfl) (by kernel_rfl) (by kernel_rfl) (by exact fun _ _ _ h => h) (Or.inr ⟨by rfl, rfl⟩) (by assumption) ?_
                    simp only [List.getElem_toArray, List.getElem_cons_succ, List.getElem_cons_zero, Act.put, List.setIfInBounds_toArray, List.set_cons_zero, List.set_cons_succ]
                    refine wpHead_take (i := 8) (v := undef) (by rfl) (by kernel_rfl) (by kernel_rfl) (by exact fun _ _ _ h => h) (Or.inr ⟨by rfl, rfl⟩) (by assumption) ?_
                    simp only [List.getElem_toArray, List.getElem_cons_succ, List.getElem_cons_zero, Act.put, List.setIfInBounds_toArray, List.set_cons_zero, List.set_cons_succ]
                    refine wpHead_take (i := 9) (v := undef) (by rfl) (by kernel_rfl) (by kernel_rfl) (by exact fun _ _ _ h => h) (Or.inr ⟨by rfl, rfl⟩) (by assumption) ?_
                    simp only [List.getElem_toArray, List.getElem_cons_succ, List.getElem_cons_zero, Act.put, List.setIfInBounds_toArray, List.set_cons_zero, List.set_cons_succ]
                    refine wpHead_take (i := 10) (v := undef) (by rfl) (by kernel_rfl) (by kernel_rfl) (by exact fun _ _ _ h => h) (Or.inr ⟨by rfl, rfl⟩) (by assumption) ?_
                    simp only [List.getElem_toArray, List.getElem_cons_succ, List.getElem_cons_zero, Act.put, List.setIfInBounds_toArray, List.set_cons_zero, List.set_cons_succ]
                    refine wpHead_take (i := 11) (v := undef) (by rfl) (by kernel_rfl) (by kernel_rfl) (by exact fun _ _ _ h => h) (Or.inr ⟨by rfl, rfl⟩) (by assumption) ?_
                    simp only [List.getElem_toArray, List.getElem_cons_succ, List.getElem_cons_zero, Act.put, List.setIfInBounds_toArray, List.set_cons_zero, List.set_cons_succ]
                    refine wpHead_take (i := 12) (v := undef) (by rfl) (by kernel_rfl) (by kernel_rfl) (by exact fun _ _ _ h => h) (Or.inr ⟨by rfl, rfl⟩) (by assumption) ?_
                    simp only [List.getElem_toArray, List.getElem_cons_succ, List.getElem_cons_zero, Act.put, List.setIfInBounds_toArray, List.set_cons_zero, List.set_cons_succ]
                    refine wpHead_take (i := 13) (v := undef) (by rfl) (by kernel_rfl) (by kernel_rfl) (by exact fun _ _ _ h => h) (Or.inr ⟨by rfl, rfl⟩) (by assumption) ?_
                    simp only [List.getElem_toArray, List.getElem_cons_succ, List.getElem_cons_zero, Act.put, List.setIfInBounds_toArray, List.set_cons_zero, List.set_cons_succ]
                    refine wpHead_take (i := 14) (v := undef) (by rfl) (by kernel_rfl) (by kernel_rfl) (by exact fun _ _ _ h => h) (Or.inr ⟨by rfl, rfl⟩) (by assumption) ?_
                    simp only [List.getElem_toArray, List.getElem_cons_succ, List.getElem_cons_zero, Act.put, List.setIfInBounds_toArray, List.set_cons_zero, List.set_cons_succ]
                    refine wpHead_take (i := 15) (v := undef) (by rfl) (by kernel_rfl) (by kernel_rfl) (by exact fun _ _ _ h => h) (Or.inr ⟨by rfl, rfl⟩) (by assumption) ?_
                    simp only [List.getElem_toArray, List.getElem_cons_succ, List.getElem_cons_zero, Act.put, List.setIfInBounds_toArray, List.set_cons_zero, List.set_cons_succ]
                    refine wpHead_take (i := 16) (v := undef) (by rfl) (by kernel_rfl) (by kernel_rfl) (by exact fun _ _ _ h => h) (Or.inr ⟨by rfl, rfl⟩) (by assumption) ?_
                    simp only [List.getElem_toArray, List.getElem_cons_succ, List.getElem_cons_zero, Act.put, List.setIfInBounds_toArray, List.set_cons_zero, List.set_cons_succ]
                    refine wpHead_take (i := 17) (v := undef) (by rfl) (by kernel_rfl) (by kernel_rfl) (by exact fun _ _ _ h => h) (Or.inr ⟨by rfl, rfl⟩) (by assumption) ?_
                    simp only [List.getElem_toArray, List.getElem_cons_succ, List.getElem_cons_zero, Act.put, List.setIfInBounds_toArray, List.set_cons_zero, List.set_cons_succ]
                    refine wpHead_take (i := 18) (v := undef) (by rfl) (by kernel_rfl) (by kernel_rfl) (by exact fun _ _ _ h => h) (Or.inr ⟨by rfl, rfl⟩) (by assumption) ?_
                    simp only [List.getElem_toArray, List.getElem_cons_succ, List.getElem_cons_zero, Act.put, List.setIfInBounds_toArray, List.set_cons_zero, List.set_cons_succ]
                    refine wpHead_done (by kernel_rfl) ?_
                    skip
                    have HB2 : Hid (checkU ⟨un, uv, bs⟩ = 4) := Lib.hid (by rw [HU.out, ← HC.out, oneC_form (.inl hrb)]; rfl)
                    go_wp2
                    go_ret
                    exact ⟨by rw [HB2.out]; rfl, (hx0.trans hxwb).trans hHeld⟩
                  exact AllHead.nil
                | true =>
                  have HRT := Lib.hid hrb
                  have HRB2 : ∀ (w' : World), Ext wa w' → Calls Tryd.prog 12 #[.string (st bn)] w' fun e w' => e = .returned (.bool true) ∧ Ext _ w' := fun w' hx' => by have := HRB w' hx'; rwa [hrb] at this
                  clear HRB hrb
                  rcases (by cases k with | zero => exact .inl rfl | succ k' => exact .inr ⟨k', rfl⟩ : k = 0 ∨ ∃ k', k = k' + 1) with rfl | ⟨k', rfl⟩
                  ·
                    have HBH := Lib.hid (hbh0 rfl)
                    clear hbh0 hbh1
                    go_wp2_with fail
                    refine wp_region_phase (S := fun w' => Ext wb w') 19 (by kernel_rfl) (by kernel_rfl) ?_ (fun hHeld => ?_)
                    · exact hxn
                    simp only [List.drop_succ_cons, List.drop_zero]
                    refine name_head ?_
                    intro wr0 hw0
                    rw [hw0] at hHeld
                    refine wpHead_take (i := 0) (v := ?_) (by rfl) (by kernel_rfl) (by kernel_rfl) (by exact fun _ _ _ h => h) (Or.inl ⟨by rfl, ?_⟩) (by assumption) ?_
                    rotate_left
                    · intro w hSw
                      first | (go_simp; done) | (go_simp; with_reducible rfl)
                    simp only [List.getElem_toArray, List.getElem_cons_zero, Act.put, List.setIfInBounds_toArray, List.set_cons_zero, List.set_cons_succ]
                    refine wpHead_take (i := 1) (v := ?_) (by rfl) (by kernel_rfl) (by kernel_rfl) (by exact fun _ _ _ h => h) (Or.inl ⟨by rfl, ?_⟩) (by assumption) ?_
                    rotate_left
                    · intro w hSw
                      first | (go_simp; done) | (go_simp; with_reducible rfl)
                    simp only [List.getElem_toArray, List.getElem_cons_succ, List.getElem_cons_zero, Act.put, List.setIfInBounds_toArray, List.set_cons_zero, List.set_cons_succ]
                    refine wpHead_ready (rs := [2]) (by kernel_rfl) (by simp) (by kernel_rfl) ?_
                    refine AllHead.cons (by rfl) (fun K hK => ?_) ?_
                    · refine step_callG (by rfl) (by kernel_rfl) (HRB2 _ (hxwb.trans hHeld)) ?_
                      rintro e wr2 ⟨rfl, hx2⟩
                      refine ⟨_, rfl, ?_⟩
                      refine hK.out _ _ ?_ (fun hHeld => ?_)
                      · exact hHeld.trans hx2
                      clear hK K
                      try simp only [List.getElem_toArray, List.getElem_cons_succ, List.getElem_cons_zero, Act.put, List.setIfInBounds_toArray, List.set_cons_zero, List.set_cons_succ]
                      refine wpHead_take (i := 3) (v := ?_) (by rfl) (by kernel_rfl) (by kernel_rfl) (by exact fun _ _ _ h => h) (Or.inl ⟨by rfl, ?_⟩) (by assumption) ?_
                      rotate_left
                      · intro w hSw
                        first | (go_simp; done) | (go_simp; with_reducible rfl)
                      simp only [List.getElem_toArray, List.getElem_cons_succ, List.getElem_cons_zero, Act.put, List.setIfInBounds_toArray, List.set_cons_zero, List.set_cons_succ]
                      refine wpHead_take (i := 4) (v := ?_) (by rfl) (by kernel_rfl) (by kernel_rfl) (by exact fun _ _ _ h => h) (Or.inl ⟨by rfl, ?_⟩) (by assumption) ?_
                      rotate_left
                      · intro w hSw
                        first | (go_simp; done) | (go_simp; with_reducible rfl)
                      simp only [List.getElem_toArray, List.getElem_cons_succ, List.getElem_cons_zero, Act.put, List.setIfInBounds_toArray, List.set_cons_zero, List.set_cons_succ]
                      refine wpHead_take (i := 5) (v := ?_) (by rfl) (by kernel_rfl) (by kernel_rfl) (by exact fun _ _ _ h => h) (Or.inl ⟨by rfl, ?_⟩) (by assumption) ?_
                      rotate_left
                      · intro w hSw
                        first | (go_simp; done) | (go_simp; with_reducible rfl)
                      simp only [List.getElem_toArray, List.getElem_cons_succ, List.getElem_cons_zero, Act.put, List.setIfInBounds_toArray, List.set_cons_zero, List.set_cons_succ]
                      refine wpHead_take (i := 6) (v := ?_) (by rfl) (by kernel_rfl) (by kernel_rfl) (by exact fun _ _ _ h => h) (Or.inl ⟨by rfl, ?_⟩) (by assumption) ?_
                      rotate_left
                      · intro w hSw
                        first | (go_simp; done) | (go_simp; with_reducible rfl)
                      simp only [List.getElem_toArray, List.getElem_cons_succ, List.getElem_cons_zero, Act.put, List.setIfInBounds_toArray, List.set_cons_zero, List.set_cons_succ]
                      refine wpHead_take (i := 7) (v := ?_) (by rfl) (by kernel_rfl) (by kernel_rfl) (by exact fun _ _ _ h => h) (Or.inl ⟨by rfl, ?_⟩) (by assumption) ?_
                      rotate_left
                      · intro w hSw
                        first | (go_simp; done) | (go_simp; with_reducible rfl)
                      simp only [List.getElem_toArray, List.getElem_cons_succ, List.getElem_cons_zero, Act.put, List.setIfInBounds_toArray, List.set_cons_zero, List.set_cons_succ]
                      refine wpHead_take (i := 8) (v := undef) (by rfl) (by kernel_rfl) (by kernel_rfl) (by exact fun _ _ _ h => h) (Or.inr ⟨by rfl, rfl⟩) (by assumption) ?_
                      simp only [List.getElem_toArray, List.getElem_cons_succ, List.getElem_cons_zero, Act.put, List.setIfInBounds_toArray, List.set_cons_zero, List.set_cons_succ]
                      refine wpHead_take (i := 9) (v := undef) (by rfl) (by kernel_rfl) (by kernel_rfl) (by exact fun _ _ _ h => h) (Or.inr ⟨by rfl, rfl⟩) (by assumption) ?_
                      simp only [List.getElem_toArray, List.getElem_cons_succ, List.getElem_cons_zero, Act.put, List.setIfInBounds_toArray, List.set_cons_zero, List.set_cons_succ]
                      refine wpHead_take (i := 10) (v := undef) (by rfl) (by kernel_rfl) (by kernel_rfl) (by exact fun _ _ _ h => h) (Or.inr ⟨by rfl, rfl⟩) (by assumption) ?_
                      simp only [List.getElem_toArray, List.getElem_cons_succ, List.getElem_cons_zero, Act.put, List.setIfInBounds_toArray, List.set_cons_zero, List.set_cons_succ]
                      refine wpHead_take (i := 11) (v := undef) (by rfl) (by kernel_rfl) (by kernel_rfl) (by exact fun _ _ _ h => h) (Or.inr ⟨by rfl, rfl⟩) (by assumption) ?_
                      simp only [List.getElem_toArray, List.getElem_cons_succ, List.getElem_cons_zero, Act.put, List.setIfInBounds_toArray, List.set_cons_zero, List.set_cons_succ]
                      refine wpHead_take (i := 12) (v := undef) (by rfl) (by kernel_rfl) (by kernel_rfl) (by exact fun _ _ _ h => h) (Or.inr ⟨by rfl, rfl⟩) (by assumption) ?_
                      simp only [List.getElem_toArray, List.getElem_cons_succ, List.getElem_cons_zero, Act.put, List.setIfInBounds_toArray, List.set_cons_zero, List.set_cons_succ]
                      refine wpHead_take (i := 13) (v := undef) (by rfl) (by kernel_rfl) (by kernel_rfl) (by exact fun _ _ _ h => h) (Or.inr ⟨by rfl, rfl⟩) (by assumption) ?_
                      simp only [List.getElem_toArray, List.getElem_cons_succ, List.getElem_cons_zero, Act.put, List.setIfInBounds_toArray, List.set_cons_zero, List.set_cons_succ]
                      refine wpHead_take (i := 14) (v := undef) (by rfl) (by kernel_rfl) (by kernel_rfl) (by exact fun _ _ _ h => h) (Or.inr ⟨by rfl, rfl⟩) (by assumption) ?_
                      simp only [List.getElem_toArray, List.getElem_cons_succ, List.getElem_cons_zero, Act.put, List.setIfInBounds_toArray, List.set_cons_zero, List.set_cons_succ]
                      refine wpHead_take (i := 15) (v := undef) (by rfl) (by kernel_rfl) (by kernel_rfl) (by exact fun _ _ _ h => h) (Or.inr ⟨by rfl, rfl⟩) (by assumption) ?_
                      simp only [List.getElem_toArray, List.getElem_cons_succ, List.getElem_cons_zero, Act.put, List.setIfInBounds_toArray, List.set_cons_zero, List.set_cons_succ]
                      refine wpHead_take (i := 16) (v := undef) (by rfl) (by kernel_rfl) (by kernel_rfl) (by exact fun _ _ _ h => h) (Or.inr ⟨by rfl, rfl⟩) (by assumption) ?_
                      simp only [List.getElem_toArray, List.getElem_cons_succ, List.getElem_cons_zero, Act.put, List.setIfInBounds_toArray, List.set_cons_zero, List.set_cons_succ]
                      refine wpHead_take (i := 17) (v := undef) (by rfl) (by kernel_rfl) (by kernel_rfl) (by exact fun _ _ _ h => h) (Or.inr ⟨by rfl, rfl⟩) (by assumption) ?_
                      simp only [List.getElem_toArray, List.getElem_cons_succ, List.getElem_cons_zero, Act.put, List.setIfInBounds_toArray, List.set_cons_zero, List.set_cons_succ]
                      refine wpHead_take (i := 18) (v := ?_) (by rfl) (by kernel_rfl) (by kernel_rfl) (by exact fun _ _ _ h => h) (Or.inl ⟨by rfl, ?_⟩) (by assumption) ?_
                      rotate_left
                      · intro w hSw
                        first | (go_simp; done) | (go_simp; with_reducible rfl)
                      simp only [List.getElem_toArray, List.getElem_cons_succ, List.getElem_cons_zero, Act.put, List.setIfInBounds_toArray, List.set_cons_zero, List.set_cons_succ]
                      refine wpHead_done (by kernel_rfl) ?_
                      skip
                      have HOB := Lib.hid (oneC_box (valid := uv) (b := ⟨bn, bval, bnx, bls⟩) HRT.out HBH.out)
                      go_wp2_with (first | (with_reducible refine stop_alloc 75 ?_) | (with_reducible refine stop_store 75 ?_) | (with_reducible refine stop_load 75 ?_) | (with_reducible refine stop_alloc 51 ?_) | (with_reducible refine stop_store 51 ?_) | (with_reducible refine stop_load 51 ?_))
                      refine go_on (wpList_load_row rfl 51 _ rfl wr.heap.size rfl 51 _ (0, 0) _ (Ext.obj hrowB hHeld) Tryd.underlying51 rfl (by kernel_rfl) ?_)
                      go_wp2_with fail
                      refine (HBC _ ((hxwb).trans hHeld)).mono ?_
                      rintro e w5 ⟨rfl, hx5⟩
                      have hx5b := Ext.trans hHeld hx5
                      clear hx5
                      by_cases hbc : boxC ⟨bn, bval, bnx, bls⟩ = 0
                      · rw [hbc]
                        have HBX := Lib.hid hbc
                        have HO2 := Lib.hid (HOB.out.trans (if_neg (by simpa using hbc)))
                        clear HOB hbc
                        by_cases hvv : uv < bval
                        · have HB2 : Hid (checkU ⟨un, uv, bs⟩ = 2) := Lib.hid (by rw [HU.out, ← HC.out, HO2.out, if_pos hvv]; rfl)
                          go_wp2
                          go_ret
                          exact ⟨by rw [HB2.out]; rfl, (hx0.trans hxwb).trans hx5b⟩
                        · have HC2 : Hid (boxesC uv (bs.drop (0 + 1)) (prevN bs (0 + 1)) (Tot.add ⟨tl_, ts, tf⟩ ⟨bn, bval, bnx, bls⟩) = boxesC uv bs none ⟨0, 0, false⟩) := Lib.hid (by rw [← HC.out, HO2.out, if_neg hvv]; simp)
                          obtain ⟨_, _, hok3, hok4⟩ := boxC_ok HBX.out
                          have HBS := fun w' hx' => HBZ w' hx' hok3 (fun l hl => (hok4 l hl).2.2.2)
                          have hszle : sizeB ⟨bn, bval, bnx, bls⟩ ≤ 19200 := by
                            have := sizeF_le bls (fun l hl => (hok4 l hl).2.2.2) bls.length (Nat.le_refl _)
                            rw [List.take_length] at this
                            have h3 : bls.length ≤ 32 := hok3
                            show sizeF 0 bls ≤ 19200
                            omega
                          have h3 : bls.length ≤ 32 := hok3
                          have HSZ : Hid (∃ z, sizeB ⟨bn, bval, bnx, bls⟩ = z) := Lib.hid ⟨_, rfl⟩
                          obtain ⟨sz, hsz⟩ := HSZ.out
                          rw [hsz] at HBS hszle
                          have HSZ2 := Lib.hid hsz
                          have e1 : IntKind.i64.wrap ((tl_ : Int) + (bls.length : Int)) = (tl_ : Int) + (bls.length : Int) := wrap64_nat (tl_ + bls.length) (by omega)
                          have e2 : IntKind.i64.wrap ((ts : Int) + (sz : Int)) = (ts : Int) + (sz : Int) := wrap64_nat (ts + sz) (by omega)
                          clear hok3 hok4 hsz HBZ HSZ
                          cases tf with
                          | true =>
                            go_wp2_with (first | (with_reducible refine stop_alloc 75 ?_) | (with_reducible refine stop_store 75 ?_) | (with_reducible refine stop_load 75 ?_) | (with_reducible refine stop_alloc 51 ?_) | (with_reducible refine stop_store 51 ?_) | (with_reducible refine stop_load 51 ?_))
                            refine go_on (wpList_load_row rfl 51 _ rfl wr.heap.size rfl 51 _ (0, 0) _ (Ext.obj hrowB hx5b) Tryd.underlying51 rfl (by kernel_rfl) ?_)
                            go_wp2_with fail
                            refine (HBS _ (hxwb.trans hx5b)).mono ?_
                            rintro e w7 ⟨rfl, hx7⟩
                            go_wp2
                            go_roundw
                            case rel => exact ⟨0 + 1, Tot.add ⟨tl_, ts, true⟩ ⟨bn, bval, bnx, bls⟩, by go_num, by omega, by simp [Tot.add], by simp [Tot.add, HSZ2.out], by simp [Tot.add], by simp only [Tot.add]; omega, by simp only [Tot.add, HSZ2.out]; omega, HC2.out, (hxwb.trans hx5b).trans hx7⟩
                            case measure => simp [intOf]; omega
                          | false =>
                            go_wp2_with (first | (with_reducible refine stop_alloc 75 ?_) | (with_reducible refine stop_store 75 ?_) | (with_reducible refine stop_load 75 ?_) | (with_reducible refine stop_alloc 51 ?_) | (with_reducible refine stop_store 51 ?_) | (with_reducible refine stop_load 51 ?_))
                            refine go_on (wpList_load_row rfl 51 _ rfl wr.heap.size rfl 51 _ (0, 0) _ (Ext.obj hrowB hx5b) Tryd.underlying51 rfl (by kernel_rfl) ?_)
                            go_wp2_with fail
                            refine (HBS _ (hxwb.trans hx5b)).mono ?_
                            rintro e w7 ⟨rfl, hx7⟩
                            go_wp2
                            go_roundw
                            case rel => exact ⟨0 + 1, Tot.add ⟨tl_, ts, false⟩ ⟨bn, bval, bnx, bls⟩, by go_num, by omega, by simp [Tot.add], by simp [Tot.add, HSZ2.out], by simp only [Tot.add, Bool.false_or]; exact congrArg Value.bool (inbox_dec bn), by simp only [Tot.add]; omega, by simp only [Tot.add, HSZ2.out]; omega, HC2.out, (hxwb.trans hx5b).trans hx7⟩
                            case measure => simp [intOf]; omega
                      · have hbc2 : (((boxC ⟨bn, bval, bnx, bls⟩ : Nat) : Int) == 0) = false := by simpa using hbc
                        have HB2 : Hid (checkU ⟨un, uv, bs⟩ = boxC ⟨bn, bval, bnx, bls⟩) := Lib.hid (by rw [HU.out, ← HC.out, HOB.out]; simp [hbc])
                        generalize boxC ⟨bn, bval, bnx, bls⟩ = z at *
                        go_wp2
                        go_ret
                        exact ⟨by rw [HB2.out]; rfl, (hx0.trans hxwb).trans hx5b⟩
                    exact AllHead.nil
                  ·
                    have hk'lt : k' < bs.length := by omega
                    have HBH := Lib.hid (hbh1 k' rfl hk'lt)
                    clear hbh0 hbh1
                    obtain ⟨ad', cs', hA', _, _, hcell', A3, cap3, hcs3, _⟩ := h.at_ (by omega) hk'lt
                    cases hA'
                    subst hcs3
                    have E0 : ∀ w', Ext wb w' → w'.cell? (ad.add (k' * 4)) = some (.string (st bs[k'].name)) := fun w' hx' => (hxwb.trans hx').cell (hcell' 0 _ rfl)
                    have hsub : ((k' + 1 : Nat) : Int) - 1 = (k' : Int) := by omega
                    have hwk : IntKind.i64.wrap (k' : Int) = (k' : Int) := wrap64_nat k' (by omega)
                    have hk'2 : (k' : Int) < bs.length := by omega
                    have hgt : (0 : Int) < ((k' + 1 : Nat) : Int) := by omega
                    clear hcell'
                    generalize bs[k'].name = pn at *
                    cases hle : leB bn pn with
                    | true =>
                      have hle2 : (Op.bytesLess bn pn || bn == pn) = true := hle
                      rw [hle] at HBH
                      go_wp2_with fail
                      refine wp_region_phase (S := fun w' => Ext wb w') 19 (by kernel_rfl) (by kernel_rfl) ?_ (fun hHeld => ?_)
                      · exact hxn
                      simp only [List.drop_succ_cons, List.drop_zero]
                      refine name_head ?_
                      intro wr0 hw0
                      rw [hw0] at hHeld
                      refine wpHead_take (i := 0) (v := ?_) (by rfl) (by kernel_rfl) (by kernel_rfl) (by exact fun _ _ _ h => h) (Or.inl ⟨by rfl, ?_⟩) (by assumption) ?_
                      rotate_left
                      · intro w hSw
                        first | (go_simp; done) | (go_simp; with_reducible rfl)
                      simp only [List.getElem_toArray, List.getElem_cons_zero, Act.put, List.setIfInBounds_toArray, List.set_cons_zero, List.set_cons_succ]
                      refine wpHead_take (i := 1) (v := ?_) (by rfl) (by kernel_rfl) (by kernel_rfl) (by exact fun _ _ _ h => h) (Or.inl ⟨by rfl, ?_⟩) (by assumption) ?_
                      rotate_left
                      · intro w hSw
                        first | (go_simp; done) | (go_simp; with_reducible rfl)
                      simp only [List.getElem_toArray, List.getElem_cons_succ, List.getElem_cons_zero, Act.put, List.setIfInBounds_toArray, List.set_cons_zero, List.set_cons_succ]
                      refine wpHead_ready (rs := [2]) (by kernel_rfl) (by simp) (by kernel_rfl) ?_
                      refine AllHead.cons (by rfl) (fun K hK => ?_) ?_
                      · refine step_callG (by rfl) (by kernel_rfl) (HRB2 _ (hxwb.trans hHeld)) ?_
                        rintro e wr2 ⟨rfl, hx2⟩
                        refine ⟨_, rfl, ?_⟩
                        refine hK.out _ _ ?_ (fun hHeld => ?_)
                        · exact hHeld.trans hx2
                        clear hK K
                        try simp only [List.getElem_toArray, List.getElem_cons_succ, List.getElem_cons_zero, Act.put, List.setIfInBounds_toArray, List.set_cons_zero, List.set_cons_succ]
                        refine wpHead_take (i := 3) (v := ?_) (by rfl) (by kernel_rfl) (by kernel_rfl) (by exact fun _ _ _ h => h) (Or.inl ⟨by rfl, ?_⟩) (by assumption) ?_
                        rotate_left
                        · intro w hSw
                          first | (go_simp; done) | (go_simp; with_reducible rfl)
                        simp only [List.getElem_toArray, List.getElem_cons_succ, List.getElem_cons_zero, Act.put, List.setIfInBounds_toArray, List.set_cons_zero, List.set_cons_succ]
                        refine wpHead_take (i := 4) (v := ?_) (by rfl) (by kernel_rfl) (by kernel_rfl) (by exact fun _ _ _ h => h) (Or.inl ⟨by rfl, ?_⟩) (by assumption) ?_
                        rotate_left
                        · intro w hSw
                          first | (go_simp; done) | (go_simp; with_reducible rfl)
                        simp only [List.getElem_toArray, List.getElem_cons_succ, List.getElem_cons_zero, Act.put, List.setIfInBounds_toArray, List.set_cons_zero, List.set_cons_succ]
                        refine wpHead_take (i := 5) (v := ?_) (by rfl) (by kernel_rfl) (by kernel_rfl) (by exact fun _ _ _ h => h) (Or.inl ⟨by rfl, ?_⟩) (by assumption) ?_
                        rotate_left
                        · intro w hSw
                          first | (go_simp; done) | (go_simp; with_reducible rfl)
                        simp only [List.getElem_toArray, List.getElem_cons_succ, List.getElem_cons_zero, Act.put, List.setIfInBounds_toArray, List.set_cons_zero, List.set_cons_succ]
                        refine wpHead_take (i := 6) (v := ?_) (by rfl) (by kernel_rfl) (by kernel_rfl) (by exact fun _ _ _ h => h) (Or.inl ⟨by rfl, ?_⟩) (by assumption) ?_
                        rotate_left
                        · intro w hSw
                          first | (go_simp; done) | (go_simp; with_reducible rfl)
                        simp only [List.getElem_toArray, List.getElem_cons_succ, List.getElem_cons_zero, Act.put, List.setIfInBounds_toArray, List.set_cons_zero, List.set_cons_succ]
                        refine wpHead_take (i := 7) (v := ?_) (by rfl) (by kernel_rfl) (by kernel_rfl) (by exact fun _ _ _ h => h) (Or.inl ⟨by rfl, ?_⟩) (by assumption) ?_
                        rotate_left
                        · intro w hSw
                          first | (go_simp; done) | (go_simp; with_reducible rfl)
                        simp only [List.getElem_toArray, List.getElem_cons_succ, List.getElem_cons_zero, Act.put, List.setIfInBounds_toArray, List.set_cons_zero, List.set_cons_succ]
                        refine wpHead_take (i := 8) (v := ?_) (by rfl) (by kernel_rfl) (by kernel_rfl) (by exact fun _ _ _ h => h) (Or.inl ⟨by rfl, ?_⟩) (by assumption) ?_
                        rotate_left
                        · intro w hSw
                          first | (go_simp; done) | (go_simp; with_reducible rfl)
                        simp only [List.getElem_toArray, List.getElem_cons_succ, List.getElem_cons_zero, Act.put, List.setIfInBounds_toArray, List.set_cons_zero, List.set_cons_succ]
                        refine wpHead_take (i := 9) (v := ?_) (by rfl) (by kernel_rfl) (by kernel_rfl) (by exact fun _ _ _ h => h) (Or.inl ⟨by rfl, ?_⟩) (by assumption) ?_
                        rotate_left
                        · intro w hSw
                          first | (go_simp; done) | (go_simp; with_reducible rfl)
                        simp only [List.getElem_toArray, List.getElem_cons_succ, List.getElem_cons_zero, Act.put, List.setIfInBounds_toArray, List.set_cons_zero, List.set_cons_succ]
                        refine wpHead_take (i := 10) (v := ?_) (by rfl) (by kernel_rfl) (by kernel_rfl) (by exact fun _ _ _ h => h) (Or.inl ⟨by rfl, ?_⟩) (by assumption) ?_
                        rotate_left
                        · intro w hSw
                          first | (go_simp; done) | (go_simp; with_reducible rfl)
                        simp only [List.getElem_toArray, List.getElem_cons_succ, List.getElem_cons_zero, Act.put, List.setIfInBounds_toArray, List.set_cons_zero, List.set_cons_succ]
                        refine wpHead_take (i := 11) (v := ?_) (by rfl) (by kernel_rfl) (by kernel_rfl) (by exact fun _ _ _ h => h) (Or.inl ⟨by rfl, ?_⟩) (by assumption) ?_
                        rotate_left
                        · intro w hSw
                          first | (go_simp; done) | (go_simp; with_reducible rfl)
                        simp only [List.getElem_toArray, List.getElem_cons_succ, List.getElem_cons_zero, Act.put, List.setIfInBounds_toArray, List.set_cons_zero, List.set_cons_succ]
                        refine wpHead_take (i := 12) (v := ?_) (by rfl) (by kernel_rfl) (by kernel_rfl) (by exact fun _ _ _ h => h) (Or.inl ⟨by rfl, ?_⟩) (by assumption) ?_
                        rotate_left
                        · intro w hSw
                          first | (go_simp; done) | (go_simp; with_reducible rfl)
                        simp only [List.getElem_toArray, List.getElem_cons_succ, List.getElem_cons_zero, Act.put, List.setIfInBounds_toArray, List.set_cons_zero, List.set_cons_succ]
                        refine wpHead_take (i := 13) (v := ?_) (by rfl) (by kernel_rfl) (by kernel_rfl) (by exact fun _ _ _ h => h) (Or.inl ⟨by rfl, ?_⟩) (by assumption) ?_
                        rotate_left
                        · intro w hSw
                          first | (go_simp; done) | (go_simp; with_reducible rfl)
                        simp only [List.getElem_toArray, List.getElem_cons_succ, List.getElem_cons_zero, Act.put, List.setIfInBounds_toArray, List.set_cons_zero, List.set_cons_succ]
                        refine wpHead_take (i := 14) (v := ?_) (by rfl) (by kernel_rfl) (by kernel_rfl) (by exact fun _ _ _ h => h) (Or.inl ⟨by rfl, ?_⟩) (by assumption) ?_
                        rotate_left
                        · intro w hSw
                          first | (go_simp; done) | (go_simp; with_reducible rfl)
                        simp only [List.getElem_toArray, List.getElem_cons_succ, List.getElem_cons_zero, Act.put, List.setIfInBounds_toArray, List.set_cons_zero, List.set_cons_succ]
                        refine wpHead_take (i := 15) (v := ?_) (by rfl) (by kernel_rfl) (by kernel_rfl) (by exact fun _ _ _ h => h) (Or.inl ⟨by rfl, ?_⟩) (by assumption) ?_
                        rotate_left
                        · intro w hSw
                          first | (go_simp; done) | (go_simp; with_reducible rfl)
                        simp only [List.getElem_toArray, List.getElem_cons_succ, List.getElem_cons_zero, Act.put, List.setIfInBounds_toArray, List.set_cons_zero, List.set_cons_succ]
                        refine wpHead_take (i := 16) (v := ?_) (by rfl) (by kernel_rfl) (by kernel_rfl) (by exact fun _ _ _ h => h) (Or.inl ⟨by rfl, ?_⟩) (by assumption) ?_
                        rotate_left
                        · intro w hSw
                          first | (go_simp; done) | (go_simp; with_reducible rfl)
                        simp only [List.getElem_toArray, List.getElem_cons_succ, List.getElem_cons_zero, Act.put, List.setIfInBounds_toArray, List.set_cons_zero, List.set_cons_succ]
                        refine wpHead_take (i := 17) (v := ?_) (by rfl) (by kernel_rfl) (by kernel_rfl) (by exact fun _ _ _ h => h) (Or.inl ⟨by rfl, ?_⟩) (by assumption) ?_
                        rotate_left
                        · intro w hSw
                          first | (go_simp; done) | (go_simp; with_reducible rfl)
                        simp only [List.getElem_toArray, List.getElem_cons_succ, List.getElem_cons_zero, Act.put, List.setIfInBounds_toArray, List.set_cons_zero, List.set_cons_succ]
                        refine wpHead_take (i := 18) (v := ?_) (by rfl) (by kernel_rfl) (by kernel_rfl) (by exact fun _ _ _ h => h) (Or.inl ⟨by rfl, ?_⟩) (by assumption) ?_
                        rotate_left
                        · intro w hSw
                          first | (go_simp; done) | (go_simp; with_reducible rfl)
                        simp only [List.getElem_toArray, List.getElem_cons_succ, List.getElem_cons_zero, Act.put, List.setIfInBounds_toArray, List.set_cons_zero, List.set_cons_succ]
                        refine wpHead_done (by kernel_rfl) ?_
                        skip
                        have HB2 : Hid (checkU ⟨un, uv, bs⟩ = 4) := Lib.hid (by rw [HU.out, ← HC.out, oneC_form (.inr HBH.out)]; rfl)
                        go_wp2
                        go_ret
                        exact ⟨by rw [HB2.out]; rfl, (hx0.trans hxwb).trans hHeld⟩
                      exact AllHead.nil
                    | false =>
                      have hle2 : (Op.bytesLess bn pn || bn == pn) = false := hle
                      rw [hle] at HBH
                      go_wp2_with fail
                      refine wp_region_phase (S := fun w' => Ext wb w') 19 (by kernel_rfl) (by kernel_rfl) ?_ (fun hHeld => ?_)
                      · exact hxn
                      simp only [List.drop_succ_cons, List.drop_zero]
                      refine name_head ?_
                      intro wr0 hw0
                      rw [hw0] at hHeld
                      refine wpHead_take (i := 0) (v := ?_) (by rfl) (by kernel_rfl) (by kernel_rfl) (by exact fun _ _ _ h => h) (Or.inl ⟨by rfl, ?_⟩) (by assumption) ?_
                      rotate_left
                      · intro w hSw
                        first | (go_simp; done) | (go_simp; with_reducible rfl)
                      simp only [List.getElem_toArray, List.getElem_cons_zero, Act.put, List.setIfInBounds_toArray, List.set_cons_zero, List.set_cons_succ]
                      refine wpHead_take (i := 1) (v := ?_) (by rfl) (by kernel_rfl) (by kernel_rfl) (by exact fun _ _ _ h => h) (Or.inl ⟨by rfl, ?_⟩) (by assumption) ?_
                      rotate_left
                      · intro w hSw
                        first | (go_simp; done) | (go_simp; with_reducible rfl)
                      simp only [List.getElem_toArray, List.getElem_cons_succ, List.getElem_cons_zero, Act.put, List.setIfInBounds_toArray, List.set_cons_zero, List.set_cons_succ]
                      refine wpHead_ready (rs := [2]) (by kernel_rfl) (by simp) (by kernel_rfl) ?_
                      refine AllHead.cons (by rfl) (fun K hK => ?_) ?_
                      · refine step_callG (by rfl) (by kernel_rfl) (HRB2 _ (hxwb.trans hHeld)) ?_
                        rintro e wr2 ⟨rfl, hx2⟩
                        refine ⟨_, rfl, ?_⟩
                        refine hK.out _ _ ?_ (fun hHeld => ?_)
                        · exact hHeld.trans hx2
                        clear hK K
                        try simp only [List.getElem_toArray, List.getElem_cons_succ, List.getElem_cons_zero, Act.put, List.setIfInBounds_toArray, List.set_cons_zero, List.set_cons_succ]
                        refine wpHead_take (i := 3) (v := ?_) (by rfl) (by kernel_rfl) (by kernel_rfl) (by exact fun _ _ _ h => h) (Or.inl ⟨by rfl, ?_⟩) (by assumption) ?_
                        rotate_left
                        · intro w hSw
                          first | (go_simp; done) | (go_simp; with_reducible rfl)
                        simp only [List.getElem_toArray, List.getElem_cons_succ, List.getElem_cons_zero, Act.put, List.setIfInBounds_toArray, List.set_cons_zero, List.set_cons_succ]
                        refine wpHead_take (i := 4) (v := ?_) (by rfl) (by kernel_rfl) (by kernel_rfl) (by exact fun _ _ _ h => h) (Or.inl ⟨by rfl, ?_⟩) (by assumption) ?_
                        rotate_left
                        · intro w hSw
                          first | (go_simp; done) | (go_simp; with_reducible rfl)
                        simp only [List.getElem_toArray, List.getElem_cons_succ, List.getElem_cons_zero, Act.put, List.setIfInBounds_toArray, List.set_cons_zero, List.set_cons_succ]
                        refine wpHead_take (i := 5) (v := ?_) (by rfl) (by kernel_rfl) (by kernel_rfl) (by exact fun _ _ _ h => h) (Or.inl ⟨by rfl, ?_⟩) (by assumption) ?_
                        rotate_left
                        · intro w hSw
                          first | (go_simp; done) | (go_simp; with_reducible rfl)
                        simp only [List.getElem_toArray, List.getElem_cons_succ, List.getElem_cons_zero, Act.put, List.setIfInBounds_toArray, List.set_cons_zero, List.set_cons_succ]
                        refine wpHead_take (i := 6) (v := ?_) (by rfl) (by kernel_rfl) (by kernel_rfl) (by exact fun _ _ _ h => h) (Or.inl ⟨by rfl, ?_⟩) (by assumption) ?_
                        rotate_left
                        · intro w hSw
                          first | (go_simp; done) | (go_simp; with_reducible rfl)
                        simp only [List.getElem_toArray, List.getElem_cons_succ, List.getElem_cons_zero, Act.put, List.setIfInBounds_toArray, List.set_cons_zero, List.set_cons_succ]
                        refine wpHead_take (i := 7) (v := ?_) (by rfl) (by kernel_rfl) (by kernel_rfl) (by exact fun _ _ _ h => h) (Or.inl ⟨by rfl, ?_⟩) (by assumption) ?_
                        rotate_left
                        · intro w hSw
                          first | (go_simp; done) | (go_simp; with_reducible rfl)
                        simp only [List.getElem_toArray, List.getElem_cons_succ, List.getElem_cons_zero, Act.put, List.setIfInBounds_toArray, List.set_cons_zero, List.set_cons_succ]
                        refine wpHead_take (i := 8) (v := ?_) (by rfl) (by kernel_rfl) (by kernel_rfl) (by exact fun _ _ _ h => h) (Or.inl ⟨by rfl, ?_⟩) (by assumption) ?_
                        rotate_left
                        · intro w hSw
                          first | (go_simp; done) | (go_simp; with_reducible rfl)
                        simp only [List.getElem_toArray, List.getElem_cons_succ, List.getElem_cons_zero, Act.put, List.setIfInBounds_toArray, List.set_cons_zero, List.set_cons_succ]
                        refine wpHead_take (i := 9) (v := ?_) (by rfl) (by kernel_rfl) (by kernel_rfl) (by exact fun _ _ _ h => h) (Or.inl ⟨by rfl, ?_⟩) (by assumption) ?_
                        rotate_left
                        · intro w hSw
                          first | (go_simp; done) | (go_simp; with_reducible rfl)
                        simp only [List.getElem_toArray, List.getElem_cons_succ, List.getElem_cons_zero, Act.put, List.setIfInBounds_toArray, List.set_cons_zero, List.set_cons_succ]
                        refine wpHead_take (i := 10) (v := ?_) (by rfl) (by kernel_rfl) (by kernel_rfl) (by exact fun _ _ _ h => h) (Or.inl ⟨by rfl, ?_⟩) (by assumption) ?_
                        rotate_left
                        · intro w hSw
                          first | (go_simp; done) | (go_simp; with_reducible rfl)
                        simp only [List.getElem_toArray, List.getElem_cons_succ, List.getElem_cons_zero, Act.put, List.setIfInBounds_toArray, List.set_cons_zero, List.set_cons_succ]
                        refine wpHead_take (i := 11) (v := ?_) (by rfl) (by kernel_rfl) (by kernel_rfl) (by exact fun _ _ _ h => h) (Or.inl ⟨by rfl, ?_⟩) (by assumption) ?_
                        rotate_left
                        · intro w hSw
                          first | (go_simp; done) | (go_simp; with_reducible rfl)
                        simp only [List.getElem_toArray, List.getElem_cons_succ, List.getElem_cons_zero, Act.put, List.setIfInBounds_toArray, List.set_cons_zero, List.set_cons_succ]
                        refine wpHead_take (i := 12) (v := ?_) (by rfl) (by kernel_rfl) (by kernel_rfl) (by exact fun _ _ _ h => h) (Or.inl ⟨by rfl, ?_⟩) (by assumption) ?_
                        rotate_left
                        · intro w hSw
                          first | (go_simp; done) | (go_simp; with_reducible rfl)
                        simp only [List.getElem_toArray, List.getElem_cons_succ, List.getElem_cons_zero, Act.put, List.setIfInBounds_toArray, List.set_cons_zero, List.set_cons_succ]
                        refine wpHead_take (i := 13) (v := ?_) (by rfl) (by kernel_rfl) (by kernel_rfl) (by exact fun _ _ _ h => h) (Or.inl ⟨by rfl, ?_⟩) (by assumption) ?_
                        rotate_left
                        · intro w hSw
                          first | (go_simp; done) | (go_simp; with_reducible rfl)
                        simp only [List.getElem_toArray, List.getElem_cons_succ, List.getElem_cons_zero, Act.put, List.setIfInBounds_toArray, List.set_cons_zero, List.set_cons_succ]
                        refine wpHead_take (i := 14) (v := ?_) (by rfl) (by kernel_rfl) (by kernel_rfl) (by exact fun _ _ _ h => h) (Or.inl ⟨by rfl, ?_⟩) (by assumption) ?_
                        rotate_left
                        · intro w hSw
                          first | (go_simp; done) | (go_simp; with_reducible rfl)
                        simp only [List.getElem_toArray, List.getElem_cons_succ, List.getElem_cons_zero, Act.put, List.setIfInBounds_toArray, List.set_cons_zero, List.set_cons_succ]
                        refine wpHead_take (i := 15) (v := ?_) (by rfl) (by kernel_rfl) (by kernel_rfl) (by exact fun _ _ _ h => h) (Or.inl ⟨by rfl, ?_⟩) (by assumption) ?_
                        rotate_left
                        · intro w hSw
                          first | (go_simp; done) | (go_simp; with_reducible rfl)
                        simp only [List.getElem_toArray, List.getElem_cons_succ, List.getElem_cons_zero, Act.put, List.setIfInBounds_toArray, List.set_cons_zero, List.set_cons_succ]
                        refine wpHead_take (i := 16) (v := ?_) (by rfl) (by kernel_rfl) (by kernel_rfl) (by exact fun _ _ _ h => h) (Or.inl ⟨by rfl, ?_⟩) (by assumption) ?_
                        rotate_left
                        · intro w hSw
                          first | (go_simp; done) | (go_simp; with_reducible rfl)
                        simp only [List.getElem_toArray, List.getElem_cons_succ, List.getElem_cons_zero, Act.put, List.setIfInBounds_toArray, List.set_cons_zero, List.set_cons_succ]
                        refine wpHead_take (i := 17) (v := ?_) (by rfl) (by kernel_rfl) (by kernel_rfl) (by exact fun _ _ _ h => h) (Or.inl ⟨by rfl, ?_⟩) (by assumption) ?_
                        rotate_left
                        · intro w hSw
                          first | (go_simp; done) | (go_simp; with_reducible rfl)
                        simp only [List.getElem_toArray, List.getElem_cons_succ, List.getElem_cons_zero, Act.put, List.setIfInBounds_toArray, List.set_cons_zero, List.set_cons_succ]
                        refine wpHead_take (i := 18) (v := ?_) (by rfl) (by kernel_rfl) (by kernel_rfl) (by exact fun _ _ _ h => h) (Or.inl ⟨by rfl, ?_⟩) (by assumption) ?_
                        rotate_left
                        · intro w hSw
                          first | (go_simp; done) | (go_simp; with_reducible rfl)
                        simp only [List.getElem_toArray, List.getElem_cons_succ, List.getElem_cons_zero, Act.put, List.setIfInBounds_toArray, List.set_cons_zero, List.set_cons_succ]
                        refine wpHead_done (by kernel_rfl) ?_
                        skip
                        have HOB := Lib.hid (oneC_box (valid := uv) (b := ⟨bn, bval, bnx, bls⟩) HRT.out HBH.out)
                        go_wp2_with (first | (with_reducible refine stop_alloc 75 ?_) | (with_reducible refine stop_store 75 ?_) | (with_reducible refine stop_load 75 ?_) | (with_reducible refine stop_alloc 51 ?_) | (with_reducible refine stop_store 51 ?_) | (with_reducible refine stop_load 51 ?_))
                        refine go_on (wpList_load_row rfl 51 _ rfl wr.heap.size rfl 51 _ (0, 0) _ (Ext.obj hrowB hHeld) Tryd.underlying51 rfl (by kernel_rfl) ?_)
                        go_wp2_with fail
                        refine (HBC _ ((hxwb).trans hHeld)).mono ?_
                        rintro e w5 ⟨rfl, hx5⟩
                        have hx5b := Ext.trans hHeld hx5
                        clear hx5
                        by_cases hbc : boxC ⟨bn, bval, bnx, bls⟩ = 0
                        · rw [hbc]
                          have HBX := Lib.hid hbc
                          have HO2 := Lib.hid (HOB.out.trans (if_neg (by simpa using hbc)))
                          clear HOB hbc
                          by_cases hvv : uv < bval
                          · have HB2 : Hid (checkU ⟨un, uv, bs⟩ = 2) := Lib.hid (by rw [HU.out, ← HC.out, HO2.out, if_pos hvv]; rfl)
                            go_wp2
                            go_ret
                            exact ⟨by rw [HB2.out]; rfl, (hx0.trans hxwb).trans hx5b⟩
                          · have HC2 : Hid (boxesC uv (bs.drop (k' + 1 + 1)) (prevN bs (k' + 1 + 1)) (Tot.add ⟨tl_, ts, tf⟩ ⟨bn, bval, bnx, bls⟩) = boxesC uv bs none ⟨0, 0, false⟩) := Lib.hid (by rw [← HC.out, HO2.out, if_neg hvv]; simp)
                            obtain ⟨_, _, hok3, hok4⟩ := boxC_ok HBX.out
                            have HBS := fun w' hx' => HBZ w' hx' hok3 (fun l hl => (hok4 l hl).2.2.2)
                            have hszle : sizeB ⟨bn, bval, bnx, bls⟩ ≤ 19200 := by
                              have := sizeF_le bls (fun l hl => (hok4 l hl).2.2.2) bls.length (Nat.le_refl _)
                              rw [List.take_length] at this
                              have h3 : bls.length ≤ 32 := hok3
                              show sizeF 0 bls ≤ 19200
                              omega
                            have h3 : bls.length ≤ 32 := hok3
                            have HSZ : Hid (∃ z, sizeB ⟨bn, bval, bnx, bls⟩ = z) := Lib.hid ⟨_, rfl⟩
                            obtain ⟨sz, hsz⟩ := HSZ.out
                            rw [hsz] at HBS hszle
                            have HSZ2 := Lib.hid hsz
                            have e1 : IntKind.i64.wrap ((tl_ : Int) + (bls.length : Int)) = (tl_ : Int) + (bls.length : Int) := wrap64_nat (tl_ + bls.length) (by omega)
                            have e2 : IntKind.i64.wrap ((ts : Int) + (sz : Int)) = (ts : Int) + (sz : Int) := wrap64_nat (ts + sz) (by omega)
                            clear hok3 hok4 hsz HBZ HSZ
                            cases tf with
                            | true =>
                              go_wp2_with (first | (with_reducible refine stop_alloc 75 ?_) | (with_reducible refine stop_store 75 ?_) | (with_reducible refine stop_load 75 ?_) | (with_reducible refine stop_alloc 51 ?_) | (with_reducible refine stop_store 51 ?_) | (with_reducible refine stop_load 51 ?_))
                              refine go_on (wpList_load_row rfl 51 _ rfl wr.heap.size rfl 51 _ (0, 0) _ (Ext.obj hrowB hx5b) Tryd.underlying51 rfl (by kernel_rfl) ?_)
                              go_wp2_with fail
                              refine (HBS _ (hxwb.trans hx5b)).mono ?_
                              rintro e w7 ⟨rfl, hx7⟩
                              go_wp2
                              go_roundw
                              case rel => exact ⟨k' + 1 + 1, Tot.add ⟨tl_, ts, true⟩ ⟨bn, bval, bnx, bls⟩, by go_num, by omega, by simp [Tot.add], by simp [Tot.add, HSZ2.out], by simp [Tot.add], by simp only [Tot.add]; omega, by simp only [Tot.add, HSZ2.out]; omega, HC2.out, (hxwb.trans hx5b).trans hx7⟩
                              case measure => simp [intOf]; omega
                            | false =>
                              go_wp2_with (first | (with_reducible refine stop_alloc 75 ?_) | (with_reducible refine stop_store 75 ?_) | (with_reducible refine stop_load 75 ?_) | (with_reducible refine stop_alloc 51 ?_) | (with_reducible refine stop_store 51 ?_) | (with_reducible refine stop_load 51 ?_))
                              refine go_on (wpList_load_row rfl 51 _ rfl wr.heap.size rfl 51 _ (0, 0) _ (Ext.obj hrowB hx5b) Tryd.underlying51 rfl (by kernel_rfl) ?_)
                              go_wp2_with fail
                              refine (HBS _ (hxwb.trans hx5b)).mono ?_
                              rintro e w7 ⟨rfl, hx7⟩
                              go_wp2
                              go_roundw
                              case rel => exact ⟨k' + 1 + 1, Tot.add ⟨tl_, ts, false⟩ ⟨bn, bval, bnx, bls⟩, by go_num, by omega, by simp [Tot.add], by simp [Tot.add, HSZ2.out], by simp only [Tot.add, Bool.false_or]; exact congrArg Value.bool (inbox_dec bn), by simp only [Tot.add]; omega, by simp only [Tot.add, HSZ2.out]; omega, HC2.out, (hxwb.trans hx5b).trans hx7⟩
                              case measure => simp [intOf]; omega
                        · have hbc2 : (((boxC ⟨bn, bval, bnx, bls⟩ : Nat) : Int) == 0) = false := by simpa using hbc
                          have HB2 : Hid (checkU ⟨un, uv, bs⟩ = boxC ⟨bn, bval, bnx, bls⟩) := Lib.hid (by rw [HU.out, ← HC.out, HOB.out]; simp [hbc])
                          generalize boxC ⟨bn, bval, bnx, bls⟩ = z at *
                          go_wp2
                          go_ret
                          exact ⟨by rw [HB2.out]; rfl, (hx0.trans hxwb).trans hx5b⟩
                      exact AllHead.nil
              · have hd : bs.drop k = [] := List.drop_eq_nil_of_le (by omega)
                rw [hd, boxesC] at hrun
                cases tf with
                | false =>
                  have HB : Hid (checkU ⟨un, uv, bs⟩ = 4) := Lib.hid (by rw [HU.out, ← hrun]; rfl)
                  clear hrun hd
                  go_wp2
                  go_ret
                  exact ⟨by rw [HB.out]; rfl, hx0.trans hx⟩
                | true =>
                  have HB : Hid (checkU ⟨un, uv, bs⟩ = if 40 < tl_ ∨ 1200 < ts then 8 else 0) := Lib.hid (by rw [HU.out, ← hrun]; rfl)
                  clear hrun hd
                  by_cases h40 : (40 : Int) < (tl_ : Int)
                  · have HB2 : Hid (checkU ⟨un, uv, bs⟩ = 8) := Lib.hid (by rw [HB.out, if_pos (.inl (by omega))])
                    go_wp2
                    go_ret
                    exact ⟨by rw [HB2.out]; rfl, hx0.trans hx⟩
                  · by_cases h12 : (1200 : Int) < (ts : Int)
                    · have HB2 : Hid (checkU ⟨un, uv, bs⟩ = 8) := Lib.hid (by rw [HB.out, if_pos (.inr (by omega))])
                      go_wp2
                      go_ret
                      exact ⟨by rw [HB2.out]; rfl, hx0.trans hx⟩
                    · have HB2 : Hid (checkU ⟨un, uv, bs⟩ = 0) := Lib.hid (by rw [HB.out, if_neg (by omega)])
                      go_wp2
                      go_ret
                      exact ⟨by rw [HB2.out]; rfl, hx0.trans hx⟩
end Go.Proofs.YtameamfaaenboaaDoor
