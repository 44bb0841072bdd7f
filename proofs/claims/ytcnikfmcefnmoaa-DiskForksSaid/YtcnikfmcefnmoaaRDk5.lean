/- The walk of the reference's Crash. Conditions: those of IsRf. -/
import Derived.Test.YtcnikfmcefnmoaaChecked
import Derived.Test.YtcnikfmcefnmoaaRDk4
namespace Go.Proofs.Ytcnikfmcefnmoaa
open Go.RowKit
section
variable {M : List Nat} {q : Nat} {s : Dk} {A1 A2 : Option Addr} {c1 c2 : Nat}
set_option maxRecDepth 20000 in
set_option maxHeartbeats 3000000 in
theorem RCrash_any (w : World) (h : IsRf M w q s A1 c1 A2 c2) (hq : q ∈ M) (hM : ∀ k ∈ M, k < w.heap.size) (hs : s.Ok) (hm : s.waits.length ≤ 1000000) (ha : s.age ≤ 1000000) (C : Cr) (KA : Option Addr) (kc : Nat) (hK : SlM M w KA (bo C.keep)) :
    Calls Try.prog 33 #[pt q, .agg #[.slice KA C.keep.length kc, .int .i64 C.torn, .int .i64 C.at_]] w fun e w' => e = .returned (.int .i64 0) ∧ Kept [q] w w' ∧ Rf M w' q (crashed s C) := by
  have HOK := Lib.hid hs
  have hx0 := (Ext.refl w).alloc (.cells #[.slice KA C.keep.length kc, .int .i64 C.torn, .int .i64 C.at_] 25)
  have hF : crashed s C = ⟨tornL C 0 (s.waits.take s.waits.length) s.sure, [], false, 0, s.age + 1⟩ := by unfold crashed; rw [List.take_length]
  rw [hF]
  have h0 := h.ext hx0
  have hqlt := h.lt
  have H0 := Lib.hid h0
  have HB := Lib.hid (heap_alloc_new w (.cells #[.slice KA C.keep.length kc, .int .i64 C.torn, .int .i64 C.at_] 25))
  have HX0 := Lib.hid hx0
  have HKA := Lib.hid (hK.kept (.of_ext hx0))
  have HM := Lib.hid hM
  have hqm : ∀ k ∈ [q], k ∈ M := by intro k hk; simp at hk; subst hk; exact hq
  clear h hs hF h0 hx0 hK hM
  obtain ⟨sure, ws, down, cut, age⟩ := s
  obtain ⟨keep, torn, at_⟩ := C
  simp only at *
  unfold pt at *
  go_enter Try.func33, Try.ntmps33
  go_wp2
  generalize hw0 : w.alloc (.cells #[.slice KA keep.length kc, .int .i64 torn, .int .i64 at_] 25) = w0 at *
  clear hw0
  go_loopw [5] (fun k wr => ∃ j : Nat, k = .int .i64 j ∧ j ≤ ws.length ∧ Kept [q] w0 wr ∧ Rf M wr q ⟨tornL ⟨keep, torn, at_⟩ 0 (ws.take j) sure, ws, down, cut, age⟩) (fun k _ => ws.length - (intOf k).toNat)
  case atStart => exact ⟨0, rfl, by omega, Kept.refl _ _, _, _, _, _, H0.out⟩
  case round =>
    obtain ⟨j, rfl, hj, hkr, B1, d1, B2, d2, hr⟩ := hrel
    have x1 := hr.cells.2.1
    have HKR := Lib.hid hkr
    have HR := Lib.hid hr
    have hMr : ∀ k ∈ M, k < wr.heap.size := fun k hk => Nat.lt_of_lt_of_le (HM.out k hk) (Nat.le_trans HX0.out.size hkr.size)
    have HMR := Lib.hid hMr
    clear hkr hr hMr
    by_cases hlt : j < ws.length
    · have hjn : (j : Int) < (ws.length : Int) := by omega
      obtain ⟨ad2, rfl, _, y1, y2⟩ := HR.out.wait_at (k := j) hlt
      have hxl := HOK.out.wait _ (List.getElem_mem hlt)
      have hstep : tornL ⟨keep, torn, at_⟩ 0 (ws.take (j + 1)) sure = (tornL ⟨keep, torn, at_⟩ 0 (ws.take j) sure).set (ws[j]).1 (mix (ws[j]).2 ((tornL ⟨keep, torn, at_⟩ 0 (ws.take j) sure).getD (ws[j]).1 []) (cutAt ⟨keep, torn, at_⟩ j)) := by
        rw [List.take_add_one, List.getElem?_eq_getElem hlt, Option.toList_some, tornL_snoc, Nat.zero_add, List.length_take, Nat.min_eq_left hj]
      have HST := Lib.hid hstep
      have hll : (tornL ⟨keep, torn, at_⟩ 0 (ws.take j) sure).length = sure.length := tornL_len _ _ _ _
      have HLL := Lib.hid hll
      have hn512 : (tornL ⟨keep, torn, at_⟩ 0 (ws.take j) sure).length ≤ 512 := by rw [hll]; exact HOK.out.n2
      have hpg : ∀ p ∈ tornL ⟨keep, torn, at_⟩ 0 (ws.take j) sure, p.length = 64 := tornL_page _ _ _ _ HOK.out.page fun x hx => HOK.out.wait x (List.mem_of_mem_take hx)
      clear hstep hll
      simp only at y1 y2 hxl
      generalize ws[j] = xx at *
      obtain ⟨xi, xp⟩ := xx
      simp only at HST y1 y2 hxl
      have hxi : xi < (tornL ⟨keep, torn, at_⟩ 0 (ws.take j) sure).length := by rw [HLL.out]; exact hxl.2
      generalize tornL ⟨keep, torn, at_⟩ 0 (ws.take j) sure = sj at *
      have hget : sj.getD xi [] = sj[xi] := by rw [List.getD_eq_getElem?_getD, List.getElem?_eq_getElem hxi]; rfl
      rw [hget] at HST
      have HPO := Lib.hid (hpg _ (List.getElem_mem hxi))
      have HXP := Lib.hid hxl.1
      have hii : (xi : Int) < (sj.length : Int) := by omega
      replace x1 := x1 wr (Ext.refl _)
      replace y1 := y1 wr (Ext.refl _)
      replace y2 := y2 wr (Ext.refl _)
      have hx5 := (Ext.refl wr).alloc (.cells #[.int .i64 (xi : Int), .string (st xp)] 72)
      have hr5 := heap_alloc_new wr (.cells #[.int .i64 (xi : Int), .string (st xp)] 72)
      have h5 := HR.out.ext hx5
      obtain ⟨ad1, rfl, _, z1⟩ := h5.sure_at (i := xi) hxi
      have X0 := h5.cells.1
      have H5 := Lib.hid h5
      have hk5 := HKR.out.ext hx5
      have hgb : w.heap.size ∉ [q] := by simp; omega
      obtain ⟨b0, b1, b2, bf⟩ := row3_at (hk5.heap HB.out hgb)
      have HK5 := Lib.hid hk5
      obtain ⟨d0, d1', df⟩ := row2_at hr5
      have D0 : ∀ w', Ext (wr.alloc (.cells #[.int .i64 (xi : Int), .string (st xp)] 72)) w' → w'.cell? ⟨wr.heap.size, 0, none⟩ = some (.int .i64 (xi : Int)) := fun w' hx => hx.cell d0
      have D1 : ∀ w', Ext (wr.alloc (.cells #[.int .i64 (xi : Int), .string (st xp)] 72)) w' → w'.cell? ⟨wr.heap.size, 1, none⟩ = some (.string (st xp)) := fun w' hx => hx.cell d1'
      have hsz5 : wr.heap.size ≤ (wr.alloc (.cells #[.int .i64 (xi : Int), .string (st xp)] 72)).heap.size := hx5.size
      have hkeep : (∃ ad, KA = some ad ∧ (j : Int) < (keep.length : Int) ∧ (wr.alloc (.cells #[.int .i64 (xi : Int), .string (st xp)] 72)).cell? (ad.add j) = some (.bool true) ∧ keep.getD j false = true) ∨
          (∃ ad, KA = some ad ∧ (j : Int) < (keep.length : Int) ∧ (wr.alloc (.cells #[.int .i64 (xi : Int), .string (st xp)] 72)).cell? (ad.add j) = some (.bool false) ∧ keep.getD j false = false) ∨ (¬ (j : Int) < (keep.length : Int) ∧ keep.getD j false = false) := by
        by_cases hk : j < keep.length
        · obtain ⟨ad, e, hab, hac⟩ := HKA.out j _ (bo_get hk)
          have hac5 := hk5.cell hac (by rw [addr_add_block]; exact fun hm => hab (hqm _ hm))
          cases hb : keep.getD j false
          · exact .inr (.inl ⟨ad, e, by omega, by rw [hb] at hac5; exact hac5, rfl⟩)
          · exact .inl ⟨ad, e, by omega, by rw [hb] at hac5; exact hac5, rfl⟩
        · exact .inr (.inr ⟨by omega, by simp [List.getD, hk]⟩)
      clear hr5 hx5 h5 hk5 d0 d1' hget hpg hxl bf df
      by_cases htorn : (j : Int) = torn
      · have ht : ((j : Int) == torn) = true := by simpa using htorn
        by_cases ha0 : at_ < 0
        · have hca : cutAt ⟨keep, torn, at_⟩ j = 0 := by unfold cutAt; rw [if_pos htorn]; simp only; omega
          rw [hca] at HST
          have hmixe : mix xp sj[xi] 0 = sj[xi] := by simp [mix]
          have hex2 : (st sj[xi]).extract 0 (sj[xi]).length = st sj[xi] := by rw [ex_st, tl_st, List.take_length, List.drop_zero]
          have hcc : ¬ 9223372036854775807 < (sj[xi]).length := by rw [HPO.out]; omega
          have HSET := fun W (hx : Ext (wr.alloc (.cells #[.int .i64 (xi : Int), .string (st xp)] 72)) W) => RSet_all W ⟨_, _, _, _, H5.out.ext hx⟩ hq (fun k hk => Nat.lt_of_lt_of_le (HMR.out k hk) (Nat.le_trans hsz5 hx.size)) xi hxi hn512 (mix xp sj[xi] 0)
          rw [hmixe] at HSET HST
          have hz2 : (0 : Int) ≤ ((sj[xi]).length : Int) := by omega
          clear hca hmixe
          unfold pt at HSET
          generalize sj[xi] = X2 at *
          clear htorn
          rcases hkeep with ⟨ad, rfl, k1, k2, -⟩ | ⟨ad, rfl, k1, k2, -⟩ | ⟨k1, -⟩
          all_goals
            go_wp2_with fail
            generalize (wr.alloc (.cells #[.int .i64 (xi : Int), .string (st xp)] 72)) = w5 at *
            have hxn : Ext w5 w5.drew := (Ext.refl w5).drew
            refine wp_region_phase (S := fun w' => Ext w5 w') 18 (by kernel_rfl) (by kernel_rfl) ?_ (fun hHeld => ?_)
            · exact hxn
            simp only [List.drop_succ_cons, List.drop_zero]
            refine name_head ?_
            intro wr0 hw0
            rw [hw0] at hHeld
            refine wpHead_take (i := 0) (v := ?_) (by rfl) (by kernel_rfl) (by kernel_rfl) (by exact fun _ _ _ h => h) (Or.inl ⟨by rfl, ?_⟩) (by assumption) ?_
            rotate_left
            · intro w hSw
              first | (go_simp; done) | (go_simp; with_reducible rfl)
            simp only [List.getElem_toArray, List.getElem_cons_zero, Act.put, List.setIfInBounds_toArray, List.set_cons_zero, List.set_cons_succ]
            refine wpHead_take (i := 1) (v := ?_) (by rfl) (by kernel_rfl) (by kernel_rfl) (by exact fun _ _ _ h => h) (Or.inl ⟨by rfl, ?_⟩) (by assumption) ?_
            rotate_left
            · intro w hSw
              first | (go_simp; done) | (go_simp; with_reducible rfl)
            simp only [List.getElem_toArray, List.getElem_cons_succ, List.getElem_cons_zero, Act.put, List.setIfInBounds_toArray, List.set_cons_zero, List.set_cons_succ]
            refine wpHead_take (i := 2) (v := ?_) (by rfl) (by kernel_rfl) (by kernel_rfl) (by exact fun _ _ _ h => h) (Or.inl ⟨by rfl, ?_⟩) (by assumption) ?_
            rotate_left
            · intro w hSw
              first | (go_simp; done) | (go_simp; with_reducible rfl)
            simp only [List.getElem_toArray, List.getElem_cons_succ, List.getElem_cons_zero, Act.put, List.setIfInBounds_toArray, List.set_cons_zero, List.set_cons_succ]
            refine wpHead_take (i := 3) (v := ?_) (by rfl) (by kernel_rfl) (by kernel_rfl) (by exact fun _ _ _ h => h) (Or.inl ⟨by rfl, ?_⟩) (by assumption) ?_
            rotate_left
            · intro w hSw
              first | (go_simp; done) | (go_simp; with_reducible rfl)
            simp only [List.getElem_toArray, List.getElem_cons_succ, List.getElem_cons_zero, Act.put, List.setIfInBounds_toArray, List.set_cons_zero, List.set_cons_succ]
            refine wpHead_take (i := 4) (v := ?_) (by rfl) (by kernel_rfl) (by kernel_rfl) (by exact fun _ _ _ h => h) (Or.inl ⟨by rfl, ?_⟩) (by assumption) ?_
            rotate_left
            · intro w hSw
              first | (go_simp; done) | (go_simp; with_reducible rfl)
            simp only [List.getElem_toArray, List.getElem_cons_succ, List.getElem_cons_zero, Act.put, List.setIfInBounds_toArray, List.set_cons_zero, List.set_cons_succ]
            refine wpHead_take (i := 5) (v := ?_) (by rfl) (by kernel_rfl) (by kernel_rfl) (by exact fun _ _ _ h => h) (Or.inl ⟨by rfl, ?_⟩) (by assumption) ?_
            rotate_left
            · intro w hSw
              first | (go_simp; done) | (go_simp; with_reducible rfl)
            simp only [List.getElem_toArray, List.getElem_cons_succ, List.getElem_cons_zero, Act.put, List.setIfInBounds_toArray, List.set_cons_zero, List.set_cons_succ]
            refine wpHead_take (i := 6) (v := ?_) (by rfl) (by kernel_rfl) (by kernel_rfl) (by exact fun _ _ _ h => h) (Or.inl ⟨by rfl, ?_⟩) (by assumption) ?_
            rotate_left
            · intro w hSw
              first | (go_simp; done) | (go_simp; with_reducible rfl)
            simp only [List.getElem_toArray, List.getElem_cons_succ, List.getElem_cons_zero, Act.put, List.setIfInBounds_toArray, List.set_cons_zero, List.set_cons_succ]
            refine wpHead_take (i := 7) (v := ?_) (by rfl) (by kernel_rfl) (by kernel_rfl) (by exact fun _ _ _ h => h) (Or.inl ⟨by rfl, ?_⟩) (by assumption) ?_
            rotate_left
            · intro w hSw
              first | (go_simp; done) | (go_simp; with_reducible rfl)
            simp only [List.getElem_toArray, List.getElem_cons_succ, List.getElem_cons_zero, Act.put, List.setIfInBounds_toArray, List.set_cons_zero, List.set_cons_succ]
            refine wpHead_take (i := 8) (v := ?_) (by rfl) (by kernel_rfl) (by kernel_rfl) (by exact fun _ _ _ h => h) (Or.inl ⟨by rfl, ?_⟩) (by assumption) ?_
            rotate_left
            · intro w hSw
              first | (go_simp; done) | (go_simp; with_reducible rfl)
            simp only [List.getElem_toArray, List.getElem_cons_succ, List.getElem_cons_zero, Act.put, List.setIfInBounds_toArray, List.set_cons_zero, List.set_cons_succ]
            refine wpHead_take (i := 9) (v := ?_) (by rfl) (by kernel_rfl) (by kernel_rfl) (by exact fun _ _ _ h => h) (Or.inl ⟨by rfl, ?_⟩) (by assumption) ?_
            rotate_left
            · intro w hSw
              first | (go_simp; done) | (go_simp; with_reducible rfl)
            simp only [List.getElem_toArray, List.getElem_cons_succ, List.getElem_cons_zero, Act.put, List.setIfInBounds_toArray, List.set_cons_zero, List.set_cons_succ]
            refine wpHead_take (i := 10) (v := ?_) (by rfl) (by kernel_rfl) (by kernel_rfl) (by exact fun _ _ _ h => h) (Or.inl ⟨by rfl, ?_⟩) (by assumption) ?_
            rotate_left
            · intro w hSw
              first | (go_simp; done) | (go_simp; with_reducible rfl)
            simp only [List.getElem_toArray, List.getElem_cons_succ, List.getElem_cons_zero, Act.put, List.setIfInBounds_toArray, List.set_cons_zero, List.set_cons_succ]
            refine wpHead_take (i := 11) (v := ?_) (by rfl) (by kernel_rfl) (by kernel_rfl) (by exact fun _ _ _ h => h) (Or.inl ⟨by rfl, ?_⟩) (by assumption) ?_
            rotate_left
            · intro w hSw
              first | (go_simp; done) | (go_simp; with_reducible rfl)
            simp only [List.getElem_toArray, List.getElem_cons_succ, List.getElem_cons_zero, Act.put, List.setIfInBounds_toArray, List.set_cons_zero, List.set_cons_succ]
            refine wpHead_take (i := 12) (v := ?_) (by rfl) (by kernel_rfl) (by kernel_rfl) (by exact fun _ _ _ h => h) (Or.inl ⟨by rfl, ?_⟩) (by assumption) ?_
            rotate_left
            · intro w hSw
              first | (go_simp; done) | (go_simp; with_reducible rfl)
            simp only [List.getElem_toArray, List.getElem_cons_succ, List.getElem_cons_zero, Act.put, List.setIfInBounds_toArray, List.set_cons_zero, List.set_cons_succ]
            refine wpHead_take (i := 13) (v := ?_) (by rfl) (by kernel_rfl) (by kernel_rfl) (by exact fun _ _ _ h => h) (Or.inl ⟨by rfl, ?_⟩) (by assumption) ?_
            rotate_left
            · intro w hSw
              first | (go_simp; done) | (go_simp; with_reducible rfl)
            simp only [List.getElem_toArray, List.getElem_cons_succ, List.getElem_cons_zero, Act.put, List.setIfInBounds_toArray, List.set_cons_zero, List.set_cons_succ]
            refine wpHead_take (i := 14) (v := ?_) (by rfl) (by kernel_rfl) (by kernel_rfl) (by exact fun _ _ _ h => h) (Or.inl ⟨by rfl, ?_⟩) (by assumption) ?_
            rotate_left
            · intro w hSw
              first | (go_simp; done) | (go_simp; with_reducible rfl)
            simp only [List.getElem_toArray, List.getElem_cons_succ, List.getElem_cons_zero, Act.put, List.setIfInBounds_toArray, List.set_cons_zero, List.set_cons_succ]
            refine wpHead_take (i := 15) (v := ?_) (by rfl) (by kernel_rfl) (by kernel_rfl) (by exact fun _ _ _ h => h) (Or.inl ⟨by rfl, ?_⟩) (by assumption) ?_
            rotate_left
            · intro w hSw
              first | (go_simp; done) | (go_simp; with_reducible rfl)
            simp only [List.getElem_toArray, List.getElem_cons_succ, List.getElem_cons_zero, Act.put, List.setIfInBounds_toArray, List.set_cons_zero, List.set_cons_succ]
            refine wpHead_take (i := 16) (v := ?_) (by rfl) (by kernel_rfl) (by kernel_rfl) (by exact fun _ _ _ h => h) (Or.inl ⟨by rfl, ?_⟩) (by assumption) ?_
            rotate_left
            · intro w hSw
              first | (go_simp; done) | (go_simp; with_reducible rfl)
            simp only [List.getElem_toArray, List.getElem_cons_succ, List.getElem_cons_zero, Act.put, List.setIfInBounds_toArray, List.set_cons_zero, List.set_cons_succ]
            refine wpHead_take (i := 17) (v := ?_) (by rfl) (by kernel_rfl) (by kernel_rfl) (by exact fun _ _ _ h => h) (Or.inl ⟨by rfl, ?_⟩) (by assumption) ?_
            rotate_left
            · intro w hSw
              first | (go_simp; done) | (go_simp; with_reducible rfl)
            simp only [List.getElem_toArray, List.getElem_cons_succ, List.getElem_cons_zero, Act.put, List.setIfInBounds_toArray, List.set_cons_zero, List.set_cons_succ]
            refine wpHead_done (by kernel_rfl) ?_
            go_wp2_with fail
            refine (HSET _ hHeld).mono ?_
            rintro e w6 ⟨rfl, hk6, hr6⟩
            have HR6 := Lib.hid hr6
            have HK6 := Lib.hid ((HK5.out.ext hHeld).trans hk6)
            clear hk6 hr6 HSET
            go_wp2
            go_roundw
            case rel => exact ⟨j + 1, by go_num, by omega, HK6.out, by rw [HST.out]; exact HR6.out⟩
            case measure => simp [intOf]; omega
        · by_cases ha1 : 64 < at_
          · have hca : cutAt ⟨keep, torn, at_⟩ j = 64 := by unfold cutAt; rw [if_pos htorn]; simp only; omega
            rw [hca] at HST
            have hmixe : mix xp sj[xi] 64 = xp.take 64 ++ sj[xi].drop 64 := rfl
            have hex1 : (st xp).extract 0 64 = st (xp.take 64) := by rw [ex_st, tl_st, List.drop_zero]
            have hex2 : (st sj[xi]).extract 64 (sj[xi]).length = st (sj[xi].drop 64) := by rw [ex_st, tl_st, List.take_length]
            have hcc : ¬ 9223372036854775807 < (xp.take 64).length + (sj[xi].drop 64).length := by simp only [List.length_take, List.length_drop]; rw [HXP.out, HPO.out]; omega
            have HSET := fun W (hx : Ext (wr.alloc (.cells #[.int .i64 (xi : Int), .string (st xp)] 72)) W) => RSet_all W ⟨_, _, _, _, H5.out.ext hx⟩ hq (fun k hk => Nat.lt_of_lt_of_le (HMR.out k hk) (Nat.le_trans hsz5 hx.size)) xi hxi hn512 (mix xp sj[xi] 64)
            rw [hmixe] at HSET HST
            have hz1 : (64 : Int) ≤ (xp.length : Int) := by rw [HXP.out]; omega
            have hz2 : (64 : Int) ≤ ((sj[xi]).length : Int) := by rw [HPO.out]; omega
            clear hca hmixe
            unfold pt at HSET
            generalize xp.take 64 = X1 at *
            generalize sj[xi].drop 64 = X2 at *
            clear htorn
            rcases hkeep with ⟨ad, rfl, k1, k2, -⟩ | ⟨ad, rfl, k1, k2, -⟩ | ⟨k1, -⟩
            all_goals
              go_wp2_with fail
              generalize (wr.alloc (.cells #[.int .i64 (xi : Int), .string (st xp)] 72)) = w5 at *
              have hxn : Ext w5 w5.drew := (Ext.refl w5).drew
              refine wp_region_phase (S := fun w' => Ext w5 w') 18 (by kernel_rfl) (by kernel_rfl) ?_ (fun hHeld => ?_)
              · exact hxn
              simp only [List.drop_succ_cons, List.drop_zero]
              refine name_head ?_
              intro wr0 hw0
              rw [hw0] at hHeld
              refine wpHead_take (i := 0) (v := ?_) (by rfl) (by kernel_rfl) (by kernel_rfl) (by exact fun _ _ _ h => h) (Or.inl ⟨by rfl, ?_⟩) (by assumption) ?_
              rotate_left
              · intro w hSw
                first | (go_simp; done) | (go_simp; with_reducible rfl)
              simp only [List.getElem_toArray, List.getElem_cons_zero, Act.put, List.setIfInBounds_toArray, List.set_cons_zero, List.set_cons_succ]
              refine wpHead_take (i := 1) (v := ?_) (by rfl) (by kernel_rfl) (by kernel_rfl) (by exact fun _ _ _ h => h) (Or.inl ⟨by rfl, ?_⟩) (by assumption) ?_
              rotate_left
              · intro w hSw
                first | (go_simp; done) | (go_simp; with_reducible rfl)
              simp only [List.getElem_toArray, List.getElem_cons_succ, List.getElem_cons_zero, Act.put, List.setIfInBounds_toArray, List.set_cons_zero, List.set_cons_succ]
              refine wpHead_take (i := 2) (v := ?_) (by rfl) (by kernel_rfl) (by kernel_rfl) (by exact fun _ _ _ h => h) (Or.inl ⟨by rfl, ?_⟩) (by assumption) ?_
              rotate_left
              · intro w hSw
                first | (go_simp; done) | (go_simp; with_reducible rfl)
              simp only [List.getElem_toArray, List.getElem_cons_succ, List.getElem_cons_zero, Act.put, List.setIfInBounds_toArray, List.set_cons_zero, List.set_cons_succ]
              refine wpHead_take (i := 3) (v := ?_) (by rfl) (by kernel_rfl) (by kernel_rfl) (by exact fun _ _ _ h => h) (Or.inl ⟨by rfl, ?_⟩) (by assumption) ?_
              rotate_left
              · intro w hSw
                first | (go_simp; done) | (go_simp; with_reducible rfl)
              simp only [List.getElem_toArray, List.getElem_cons_succ, List.getElem_cons_zero, Act.put, List.setIfInBounds_toArray, List.set_cons_zero, List.set_cons_succ]
              refine wpHead_take (i := 4) (v := ?_) (by rfl) (by kernel_rfl) (by kernel_rfl) (by exact fun _ _ _ h => h) (Or.inl ⟨by rfl, ?_⟩) (by assumption) ?_
              rotate_left
              · intro w hSw
                first | (go_simp; done) | (go_simp; with_reducible rfl)
              simp only [List.getElem_toArray, List.getElem_cons_succ, List.getElem_cons_zero, Act.put, List.setIfInBounds_toArray, List.set_cons_zero, List.set_cons_succ]
              refine wpHead_take (i := 5) (v := ?_) (by rfl) (by kernel_rfl) (by kernel_rfl) (by exact fun _ _ _ h => h) (Or.inl ⟨by rfl, ?_⟩) (by assumption) ?_
              rotate_left
              · intro w hSw
                first | (go_simp; done) | (go_simp; with_reducible rfl)
              simp only [List.getElem_toArray, List.getElem_cons_succ, List.getElem_cons_zero, Act.put, List.setIfInBounds_toArray, List.set_cons_zero, List.set_cons_succ]
              refine wpHead_take (i := 6) (v := ?_) (by rfl) (by kernel_rfl) (by kernel_rfl) (by exact fun _ _ _ h => h) (Or.inl ⟨by rfl, ?_⟩) (by assumption) ?_
              rotate_left
              · intro w hSw
                first | (go_simp; done) | (go_simp; with_reducible rfl)
              simp only [List.getElem_toArray, List.getElem_cons_succ, List.getElem_cons_zero, Act.put, List.setIfInBounds_toArray, List.set_cons_zero, List.set_cons_succ]
              refine wpHead_take (i := 7) (v := ?_) (by rfl) (by kernel_rfl) (by kernel_rfl) (by exact fun _ _ _ h => h) (Or.inl ⟨by rfl, ?_⟩) (by assumption) ?_
              rotate_left
              · intro w hSw
                first | (go_simp; done) | (go_simp; with_reducible rfl)
              simp only [List.getElem_toArray, List.getElem_cons_succ, List.getElem_cons_zero, Act.put, List.setIfInBounds_toArray, List.set_cons_zero, List.set_cons_succ]
              refine wpHead_take (i := 8) (v := ?_) (by rfl) (by kernel_rfl) (by kernel_rfl) (by exact fun _ _ _ h => h) (Or.inl ⟨by rfl, ?_⟩) (by assumption) ?_
              rotate_left
              · intro w hSw
                first | (go_simp; done) | (go_simp; with_reducible rfl)
              simp only [List.getElem_toArray, List.getElem_cons_succ, List.getElem_cons_zero, Act.put, List.setIfInBounds_toArray, List.set_cons_zero, List.set_cons_succ]
              refine wpHead_take (i := 9) (v := ?_) (by rfl) (by kernel_rfl) (by kernel_rfl) (by exact fun _ _ _ h => h) (Or.inl ⟨by rfl, ?_⟩) (by assumption) ?_
              rotate_left
              · intro w hSw
                first | (go_simp; done) | (go_simp; with_reducible rfl)
              simp only [List.getElem_toArray, List.getElem_cons_succ, List.getElem_cons_zero, Act.put, List.setIfInBounds_toArray, List.set_cons_zero, List.set_cons_succ]
              refine wpHead_take (i := 10) (v := ?_) (by rfl) (by kernel_rfl) (by kernel_rfl) (by exact fun _ _ _ h => h) (Or.inl ⟨by rfl, ?_⟩) (by assumption) ?_
              rotate_left
              · intro w hSw
                first | (go_simp; done) | (go_simp; with_reducible rfl)
              simp only [List.getElem_toArray, List.getElem_cons_succ, List.getElem_cons_zero, Act.put, List.setIfInBounds_toArray, List.set_cons_zero, List.set_cons_succ]
              refine wpHead_take (i := 11) (v := ?_) (by rfl) (by kernel_rfl) (by kernel_rfl) (by exact fun _ _ _ h => h) (Or.inl ⟨by rfl, ?_⟩) (by assumption) ?_
              rotate_left
              · intro w hSw
                first | (go_simp; done) | (go_simp; with_reducible rfl)
              simp only [List.getElem_toArray, List.getElem_cons_succ, List.getElem_cons_zero, Act.put, List.setIfInBounds_toArray, List.set_cons_zero, List.set_cons_succ]
              refine wpHead_take (i := 12) (v := ?_) (by rfl) (by kernel_rfl) (by kernel_rfl) (by exact fun _ _ _ h => h) (Or.inl ⟨by rfl, ?_⟩) (by assumption) ?_
              rotate_left
              · intro w hSw
                first | (go_simp; done) | (go_simp; with_reducible rfl)
              simp only [List.getElem_toArray, List.getElem_cons_succ, List.getElem_cons_zero, Act.put, List.setIfInBounds_toArray, List.set_cons_zero, List.set_cons_succ]
              refine wpHead_take (i := 13) (v := ?_) (by rfl) (by kernel_rfl) (by kernel_rfl) (by exact fun _ _ _ h => h) (Or.inl ⟨by rfl, ?_⟩) (by assumption) ?_
              rotate_left
              · intro w hSw
                first | (go_simp; done) | (go_simp; with_reducible rfl)
              simp only [List.getElem_toArray, List.getElem_cons_succ, List.getElem_cons_zero, Act.put, List.setIfInBounds_toArray, List.set_cons_zero, List.set_cons_succ]
              refine wpHead_take (i := 14) (v := ?_) (by rfl) (by kernel_rfl) (by kernel_rfl) (by exact fun _ _ _ h => h) (Or.inl ⟨by rfl, ?_⟩) (by assumption) ?_
              rotate_left
              · intro w hSw
                first | (go_simp; done) | (go_simp; with_reducible rfl)
              simp only [List.getElem_toArray, List.getElem_cons_succ, List.getElem_cons_zero, Act.put, List.setIfInBounds_toArray, List.set_cons_zero, List.set_cons_succ]
              refine wpHead_take (i := 15) (v := ?_) (by rfl) (by kernel_rfl) (by kernel_rfl) (by exact fun _ _ _ h => h) (Or.inl ⟨by rfl, ?_⟩) (by assumption) ?_
              rotate_left
              · intro w hSw
                first | (go_simp; done) | (go_simp; with_reducible rfl)
              simp only [List.getElem_toArray, List.getElem_cons_succ, List.getElem_cons_zero, Act.put, List.setIfInBounds_toArray, List.set_cons_zero, List.set_cons_succ]
              refine wpHead_take (i := 16) (v := ?_) (by rfl) (by kernel_rfl) (by kernel_rfl) (by exact fun _ _ _ h => h) (Or.inl ⟨by rfl, ?_⟩) (by assumption) ?_
              rotate_left
              · intro w hSw
                first | (go_simp; done) | (go_simp; with_reducible rfl)
              simp only [List.getElem_toArray, List.getElem_cons_succ, List.getElem_cons_zero, Act.put, List.setIfInBounds_toArray, List.set_cons_zero, List.set_cons_succ]
              refine wpHead_take (i := 17) (v := ?_) (by rfl) (by kernel_rfl) (by kernel_rfl) (by exact fun _ _ _ h => h) (Or.inl ⟨by rfl, ?_⟩) (by assumption) ?_
              rotate_left
              · intro w hSw
                first | (go_simp; done) | (go_simp; with_reducible rfl)
              simp only [List.getElem_toArray, List.getElem_cons_succ, List.getElem_cons_zero, Act.put, List.setIfInBounds_toArray, List.set_cons_zero, List.set_cons_succ]
              refine wpHead_done (by kernel_rfl) ?_
              go_wp2_with fail
              refine (HSET _ hHeld).mono ?_
              rintro e w6 ⟨rfl, hk6, hr6⟩
              have HR6 := Lib.hid hr6
              have HK6 := Lib.hid ((HK5.out.ext hHeld).trans hk6)
              clear hk6 hr6 HSET
              go_wp2
              go_roundw
              case rel => exact ⟨j + 1, by go_num, by omega, HK6.out, by rw [HST.out]; exact HR6.out⟩
              case measure => simp [intOf]; omega
          · obtain ⟨n, rfl⟩ : ∃ n : Nat, at_ = n := ⟨at_.toNat, by omega⟩
            have hn64 : n ≤ 64 := by omega
            have hn0 : (0 : Int) ≤ (n : Int) := by omega
            have hn1 : (n : Int) ≤ 64 := by omega
            clear ha0 ha1
            have hca : cutAt ⟨keep, torn, (n : Int)⟩ j = n := by unfold cutAt; rw [if_pos htorn]; simp only; omega
            rw [hca] at HST
            have hmixe : mix xp sj[xi] n = xp.take n ++ sj[xi].drop n := rfl
            have hex1 : (st xp).extract 0 n = st (xp.take n) := by rw [ex_st, tl_st, List.drop_zero]
            have hex2 : (st sj[xi]).extract n (sj[xi]).length = st (sj[xi].drop n) := by rw [ex_st, tl_st, List.take_length]
            have hcc : ¬ 9223372036854775807 < (xp.take n).length + (sj[xi].drop n).length := by simp only [List.length_take, List.length_drop]; rw [HXP.out, HPO.out]; omega
            have HSET := fun W (hx : Ext (wr.alloc (.cells #[.int .i64 (xi : Int), .string (st xp)] 72)) W) => RSet_all W ⟨_, _, _, _, H5.out.ext hx⟩ hq (fun k hk => Nat.lt_of_lt_of_le (HMR.out k hk) (Nat.le_trans hsz5 hx.size)) xi hxi hn512 (mix xp sj[xi] n)
            rw [hmixe] at HSET HST
            have hz1 : (n : Int) ≤ (xp.length : Int) := by rw [HXP.out]; omega
            have hz2 : (n : Int) ≤ ((sj[xi]).length : Int) := by rw [HPO.out]; omega
            clear hca hmixe
            unfold pt at HSET
            generalize xp.take n = X1 at *
            generalize sj[xi].drop n = X2 at *
            clear htorn
            rcases hkeep with ⟨ad, rfl, k1, k2, -⟩ | ⟨ad, rfl, k1, k2, -⟩ | ⟨k1, -⟩
            all_goals
              go_wp2_with fail
              generalize (wr.alloc (.cells #[.int .i64 (xi : Int), .string (st xp)] 72)) = w5 at *
              have hxn : Ext w5 w5.drew := (Ext.refl w5).drew
              refine wp_region_phase (S := fun w' => Ext w5 w') 18 (by kernel_rfl) (by kernel_rfl) ?_ (fun hHeld => ?_)
              · exact hxn
              simp only [List.drop_succ_cons, List.drop_zero]
              refine name_head ?_
              intro wr0 hw0
              rw [hw0] at hHeld
              refine wpHead_take (i := 0) (v := ?_) (by rfl) (by kernel_rfl) (by kernel_rfl) (by exact fun _ _ _ h => h) (Or.inl ⟨by rfl, ?_⟩) (by assumption) ?_
              rotate_left
              · intro w hSw
                first | (go_simp; done) | (go_simp; with_reducible rfl)
              simp only [List.getElem_toArray, List.getElem_cons_zero, Act.put, List.setIfInBounds_toArray, List.set_cons_zero, List.set_cons_succ]
              refine wpHead_take (i := 1) (v := ?_) (by rfl) (by kernel_rfl) (by kernel_rfl) (by exact fun _ _ _ h => h) (Or.inl ⟨by rfl, ?_⟩) (by assumption) ?_
              rotate_left
              · intro w hSw
                first | (go_simp; done) | (go_simp; with_reducible rfl)
              simp only [List.getElem_toArray, List.getElem_cons_succ, List.getElem_cons_zero, Act.put, List.setIfInBounds_toArray, List.set_cons_zero, List.set_cons_succ]
              refine wpHead_take (i := 2) (v := ?_) (by rfl) (by kernel_rfl) (by kernel_rfl) (by exact fun _ _ _ h => h) (Or.inl ⟨by rfl, ?_⟩) (by assumption) ?_
              rotate_left
              · intro w hSw
                first | (go_simp; done) | (go_simp; with_reducible rfl)
              simp only [List.getElem_toArray, List.getElem_cons_succ, List.getElem_cons_zero, Act.put, List.setIfInBounds_toArray, List.set_cons_zero, List.set_cons_succ]
              refine wpHead_take (i := 3) (v := ?_) (by rfl) (by kernel_rfl) (by kernel_rfl) (by exact fun _ _ _ h => h) (Or.inl ⟨by rfl, ?_⟩) (by assumption) ?_
              rotate_left
              · intro w hSw
                first | (go_simp; done) | (go_simp; with_reducible rfl)
              simp only [List.getElem_toArray, List.getElem_cons_succ, List.getElem_cons_zero, Act.put, List.setIfInBounds_toArray, List.set_cons_zero, List.set_cons_succ]
              refine wpHead_take (i := 4) (v := ?_) (by rfl) (by kernel_rfl) (by kernel_rfl) (by exact fun _ _ _ h => h) (Or.inl ⟨by rfl, ?_⟩) (by assumption) ?_
              rotate_left
              · intro w hSw
                first | (go_simp; done) | (go_simp; with_reducible rfl)
              simp only [List.getElem_toArray, List.getElem_cons_succ, List.getElem_cons_zero, Act.put, List.setIfInBounds_toArray, List.set_cons_zero, List.set_cons_succ]
              refine wpHead_take (i := 5) (v := ?_) (by rfl) (by kernel_rfl) (by kernel_rfl) (by exact fun _ _ _ h => h) (Or.inl ⟨by rfl, ?_⟩) (by assumption) ?_
              rotate_left
              · intro w hSw
                first | (go_simp; done) | (go_simp; with_reducible rfl)
              simp only [List.getElem_toArray, List.getElem_cons_succ, List.getElem_cons_zero, Act.put, List.setIfInBounds_toArray, List.set_cons_zero, List.set_cons_succ]
              refine wpHead_take (i := 6) (v := ?_) (by rfl) (by kernel_rfl) (by kernel_rfl) (by exact fun _ _ _ h => h) (Or.inl ⟨by rfl, ?_⟩) (by assumption) ?_
              rotate_left
              · intro w hSw
                first | (go_simp; done) | (go_simp; with_reducible rfl)
              simp only [List.getElem_toArray, List.getElem_cons_succ, List.getElem_cons_zero, Act.put, List.setIfInBounds_toArray, List.set_cons_zero, List.set_cons_succ]
              refine wpHead_take (i := 7) (v := ?_) (by rfl) (by kernel_rfl) (by kernel_rfl) (by exact fun _ _ _ h => h) (Or.inl ⟨by rfl, ?_⟩) (by assumption) ?_
              rotate_left
              · intro w hSw
                first | (go_simp; done) | (go_simp; with_reducible rfl)
              simp only [List.getElem_toArray, List.getElem_cons_succ, List.getElem_cons_zero, Act.put, List.setIfInBounds_toArray, List.set_cons_zero, List.set_cons_succ]
              refine wpHead_take (i := 8) (v := ?_) (by rfl) (by kernel_rfl) (by kernel_rfl) (by exact fun _ _ _ h => h) (Or.inl ⟨by rfl, ?_⟩) (by assumption) ?_
              rotate_left
              · intro w hSw
                first | (go_simp; done) | (go_simp; with_reducible rfl)
              simp only [List.getElem_toArray, List.getElem_cons_succ, List.getElem_cons_zero, Act.put, List.setIfInBounds_toArray, List.set_cons_zero, List.set_cons_succ]
              refine wpHead_take (i := 9) (v := ?_) (by rfl) (by kernel_rfl) (by kernel_rfl) (by exact fun _ _ _ h => h) (Or.inl ⟨by rfl, ?_⟩) (by assumption) ?_
              rotate_left
              · intro w hSw
                first | (go_simp; done) | (go_simp; with_reducible rfl)
              simp only [List.getElem_toArray, List.getElem_cons_succ, List.getElem_cons_zero, Act.put, List.setIfInBounds_toArray, List.set_cons_zero, List.set_cons_succ]
              refine wpHead_take (i := 10) (v := ?_) (by rfl) (by kernel_rfl) (by kernel_rfl) (by exact fun _ _ _ h => h) (Or.inl ⟨by rfl, ?_⟩) (by assumption) ?_
              rotate_left
              · intro w hSw
                first | (go_simp; done) | (go_simp; with_reducible rfl)
              simp only [List.getElem_toArray, List.getElem_cons_succ, List.getElem_cons_zero, Act.put, List.setIfInBounds_toArray, List.set_cons_zero, List.set_cons_succ]
              refine wpHead_take (i := 11) (v := ?_) (by rfl) (by kernel_rfl) (by kernel_rfl) (by exact fun _ _ _ h => h) (Or.inl ⟨by rfl, ?_⟩) (by assumption) ?_
              rotate_left
              · intro w hSw
                first | (go_simp; done) | (go_simp; with_reducible rfl)
              simp only [List.getElem_toArray, List.getElem_cons_succ, List.getElem_cons_zero, Act.put, List.setIfInBounds_toArray, List.set_cons_zero, List.set_cons_succ]
              refine wpHead_take (i := 12) (v := ?_) (by rfl) (by kernel_rfl) (by kernel_rfl) (by exact fun _ _ _ h => h) (Or.inl ⟨by rfl, ?_⟩) (by assumption) ?_
              rotate_left
              · intro w hSw
                first | (go_simp; done) | (go_simp; with_reducible rfl)
              simp only [List.getElem_toArray, List.getElem_cons_succ, List.getElem_cons_zero, Act.put, List.setIfInBounds_toArray, List.set_cons_zero, List.set_cons_succ]
              refine wpHead_take (i := 13) (v := ?_) (by rfl) (by kernel_rfl) (by kernel_rfl) (by exact fun _ _ _ h => h) (Or.inl ⟨by rfl, ?_⟩) (by assumption) ?_
              rotate_left
              · intro w hSw
                first | (go_simp; done) | (go_simp; with_reducible rfl)
              simp only [List.getElem_toArray, List.getElem_cons_succ, List.getElem_cons_zero, Act.put, List.setIfInBounds_toArray, List.set_cons_zero, List.set_cons_succ]
              refine wpHead_take (i := 14) (v := ?_) (by rfl) (by kernel_rfl) (by kernel_rfl) (by exact fun _ _ _ h => h) (Or.inl ⟨by rfl, ?_⟩) (by assumption) ?_
              rotate_left
              · intro w hSw
                first | (go_simp; done) | (go_simp; with_reducible rfl)
              simp only [List.getElem_toArray, List.getElem_cons_succ, List.getElem_cons_zero, Act.put, List.setIfInBounds_toArray, List.set_cons_zero, List.set_cons_succ]
              refine wpHead_take (i := 15) (v := ?_) (by rfl) (by kernel_rfl) (by kernel_rfl) (by exact fun _ _ _ h => h) (Or.inl ⟨by rfl, ?_⟩) (by assumption) ?_
              rotate_left
              · intro w hSw
                first | (go_simp; done) | (go_simp; with_reducible rfl)
              simp only [List.getElem_toArray, List.getElem_cons_succ, List.getElem_cons_zero, Act.put, List.setIfInBounds_toArray, List.set_cons_zero, List.set_cons_succ]
              refine wpHead_take (i := 16) (v := ?_) (by rfl) (by kernel_rfl) (by kernel_rfl) (by exact fun _ _ _ h => h) (Or.inl ⟨by rfl, ?_⟩) (by assumption) ?_
              rotate_left
              · intro w hSw
                first | (go_simp; done) | (go_simp; with_reducible rfl)
              simp only [List.getElem_toArray, List.getElem_cons_succ, List.getElem_cons_zero, Act.put, List.setIfInBounds_toArray, List.set_cons_zero, List.set_cons_succ]
              refine wpHead_take (i := 17) (v := ?_) (by rfl) (by kernel_rfl) (by kernel_rfl) (by exact fun _ _ _ h => h) (Or.inl ⟨by rfl, ?_⟩) (by assumption) ?_
              rotate_left
              · intro w hSw
                first | (go_simp; done) | (go_simp; with_reducible rfl)
              simp only [List.getElem_toArray, List.getElem_cons_succ, List.getElem_cons_zero, Act.put, List.setIfInBounds_toArray, List.set_cons_zero, List.set_cons_succ]
              refine wpHead_done (by kernel_rfl) ?_
              go_wp2_with fail
              refine (HSET _ hHeld).mono ?_
              rintro e w6 ⟨rfl, hk6, hr6⟩
              have HR6 := Lib.hid hr6
              have HK6 := Lib.hid ((HK5.out.ext hHeld).trans hk6)
              clear hk6 hr6 HSET
              go_wp2
              go_roundw
              case rel => exact ⟨j + 1, by go_num, by omega, HK6.out, by rw [HST.out]; exact HR6.out⟩
              case measure => simp [intOf]; omega
      · have ht : ((j : Int) == torn) = false := by simpa using htorn
        rcases hkeep with ⟨ad, rfl, k1, k2, k3⟩ | ⟨ad, rfl, k1, k2, k3⟩ | ⟨k1, k3⟩
        · have hca : cutAt ⟨keep, torn, at_⟩ j = 64 := by unfold cutAt; rw [if_neg htorn, if_pos k3]
          rw [hca] at HST
          have hmixe : mix xp sj[xi] 64 = xp.take 64 ++ sj[xi].drop 64 := rfl
          have hex1 : (st xp).extract 0 64 = st (xp.take 64) := by rw [ex_st, tl_st, List.drop_zero]
          have hex2 : (st sj[xi]).extract 64 (sj[xi]).length = st (sj[xi].drop 64) := by rw [ex_st, tl_st, List.take_length]
          have hcc : ¬ 9223372036854775807 < (xp.take 64).length + (sj[xi].drop 64).length := by simp only [List.length_take, List.length_drop]; rw [HXP.out, HPO.out]; omega
          have HSET := fun W (hx : Ext (wr.alloc (.cells #[.int .i64 (xi : Int), .string (st xp)] 72)) W) => RSet_all W ⟨_, _, _, _, H5.out.ext hx⟩ hq (fun k hk => Nat.lt_of_lt_of_le (HMR.out k hk) (Nat.le_trans hsz5 hx.size)) xi hxi hn512 (mix xp sj[xi] 64)
          rw [hmixe] at HSET HST
          have hz1 : (64 : Int) ≤ (xp.length : Int) := by rw [HXP.out]; omega
          have hz2 : (64 : Int) ≤ ((sj[xi]).length : Int) := by rw [HPO.out]; omega
          clear hca hmixe
          unfold pt at HSET
          generalize xp.take 64 = X1 at *
          generalize sj[xi].drop 64 = X2 at *
          clear htorn k3
          go_wp2_with fail
          generalize (wr.alloc (.cells #[.int .i64 (xi : Int), .string (st xp)] 72)) = w5 at *
          have hxn : Ext w5 w5.drew := (Ext.refl w5).drew
          refine wp_region_phase (S := fun w' => Ext w5 w') 18 (by kernel_rfl) (by kernel_rfl) ?_ (fun hHeld => ?_)
          · exact hxn
          simp only [List.drop_succ_cons, List.drop_zero]
          refine name_head ?_
          intro wr0 hw0
          rw [hw0] at hHeld
          refine wpHead_take (i := 0) (v := ?_) (by rfl) (by kernel_rfl) (by kernel_rfl) (by exact fun _ _ _ h => h) (Or.inl ⟨by rfl, ?_⟩) (by assumption) ?_
          rotate_left
          · intro w hSw
            first | (go_simp; done) | (go_simp; with_reducible rfl)
          simp only [List.getElem_toArray, List.getElem_cons_zero, Act.put, List.setIfInBounds_toArray, List.set_cons_zero, List.set_cons_succ]
          refine wpHead_take (i := 1) (v := ?_) (by rfl) (by kernel_rfl) (by kernel_rfl) (by exact fun _ _ _ h => h) (Or.inl ⟨by rfl, ?_⟩) (by assumption) ?_
          rotate_left
          · intro w hSw
            first | (go_simp; done) | (go_simp; with_reducible rfl)
          simp only [List.getElem_toArray, List.getElem_cons_succ, List.getElem_cons_zero, Act.put, List.setIfInBounds_toArray, List.set_cons_zero, List.set_cons_succ]
          refine wpHead_take (i := 2) (v := ?_) (by rfl) (by kernel_rfl) (by kernel_rfl) (by exact fun _ _ _ h => h) (Or.inl ⟨by rfl, ?_⟩) (by assumption) ?_
          rotate_left
          · intro w hSw
            first | (go_simp; done) | (go_simp; with_reducible rfl)
          simp only [List.getElem_toArray, List.getElem_cons_succ, List.getElem_cons_zero, Act.put, List.setIfInBounds_toArray, List.set_cons_zero, List.set_cons_succ]
          refine wpHead_take (i := 3) (v := ?_) (by rfl) (by kernel_rfl) (by kernel_rfl) (by exact fun _ _ _ h => h) (Or.inl ⟨by rfl, ?_⟩) (by assumption) ?_
          rotate_left
          · intro w hSw
            first | (go_simp; done) | (go_simp; with_reducible rfl)
          simp only [List.getElem_toArray, List.getElem_cons_succ, List.getElem_cons_zero, Act.put, List.setIfInBounds_toArray, List.set_cons_zero, List.set_cons_succ]
          refine wpHead_take (i := 4) (v := ?_) (by rfl) (by kernel_rfl) (by kernel_rfl) (by exact fun _ _ _ h => h) (Or.inl ⟨by rfl, ?_⟩) (by assumption) ?_
          rotate_left
          · intro w hSw
            first | (go_simp; done) | (go_simp; with_reducible rfl)
          simp only [List.getElem_toArray, List.getElem_cons_succ, List.getElem_cons_zero, Act.put, List.setIfInBounds_toArray, List.set_cons_zero, List.set_cons_succ]
          refine wpHead_take (i := 5) (v := ?_) (by rfl) (by kernel_rfl) (by kernel_rfl) (by exact fun _ _ _ h => h) (Or.inl ⟨by rfl, ?_⟩) (by assumption) ?_
          rotate_left
          · intro w hSw
            first | (go_simp; done) | (go_simp; with_reducible rfl)
          simp only [List.getElem_toArray, List.getElem_cons_succ, List.getElem_cons_zero, Act.put, List.setIfInBounds_toArray, List.set_cons_zero, List.set_cons_succ]
          refine wpHead_take (i := 6) (v := ?_) (by rfl) (by kernel_rfl) (by kernel_rfl) (by exact fun _ _ _ h => h) (Or.inl ⟨by rfl, ?_⟩) (by assumption) ?_
          rotate_left
          · intro w hSw
            first | (go_simp; done) | (go_simp; with_reducible rfl)
          simp only [List.getElem_toArray, List.getElem_cons_succ, List.getElem_cons_zero, Act.put, List.setIfInBounds_toArray, List.set_cons_zero, List.set_cons_succ]
          refine wpHead_take (i := 7) (v := ?_) (by rfl) (by kernel_rfl) (by kernel_rfl) (by exact fun _ _ _ h => h) (Or.inl ⟨by rfl, ?_⟩) (by assumption) ?_
          rotate_left
          · intro w hSw
            first | (go_simp; done) | (go_simp; with_reducible rfl)
          simp only [List.getElem_toArray, List.getElem_cons_succ, List.getElem_cons_zero, Act.put, List.setIfInBounds_toArray, List.set_cons_zero, List.set_cons_succ]
          refine wpHead_take (i := 8) (v := ?_) (by rfl) (by kernel_rfl) (by kernel_rfl) (by exact fun _ _ _ h => h) (Or.inl ⟨by rfl, ?_⟩) (by assumption) ?_
          rotate_left
          · intro w hSw
            first | (go_simp; done) | (go_simp; with_reducible rfl)
          simp only [List.getElem_toArray, List.getElem_cons_succ, List.getElem_cons_zero, Act.put, List.setIfInBounds_toArray, List.set_cons_zero, List.set_cons_succ]
          refine wpHead_take (i := 9) (v := ?_) (by rfl) (by kernel_rfl) (by kernel_rfl) (by exact fun _ _ _ h => h) (Or.inl ⟨by rfl, ?_⟩) (by assumption) ?_
          rotate_left
          · intro w hSw
            first | (go_simp; done) | (go_simp; with_reducible rfl)
          simp only [List.getElem_toArray, List.getElem_cons_succ, List.getElem_cons_zero, Act.put, List.setIfInBounds_toArray, List.set_cons_zero, List.set_cons_succ]
          refine wpHead_take (i := 10) (v := ?_) (by rfl) (by kernel_rfl) (by kernel_rfl) (by exact fun _ _ _ h => h) (Or.inl ⟨by rfl, ?_⟩) (by assumption) ?_
          rotate_left
          · intro w hSw
            first | (go_simp; done) | (go_simp; with_reducible rfl)
          simp only [List.getElem_toArray, List.getElem_cons_succ, List.getElem_cons_zero, Act.put, List.setIfInBounds_toArray, List.set_cons_zero, List.set_cons_succ]
          refine wpHead_take (i := 11) (v := ?_) (by rfl) (by kernel_rfl) (by kernel_rfl) (by exact fun _ _ _ h => h) (Or.inl ⟨by rfl, ?_⟩) (by assumption) ?_
          rotate_left
          · intro w hSw
            first | (go_simp; done) | (go_simp; with_reducible rfl)
          simp only [List.getElem_toArray, List.getElem_cons_succ, List.getElem_cons_zero, Act.put, List.setIfInBounds_toArray, List.set_cons_zero, List.set_cons_succ]
          refine wpHead_take (i := 12) (v := ?_) (by rfl) (by kernel_rfl) (by kernel_rfl) (by exact fun _ _ _ h => h) (Or.inl ⟨by rfl, ?_⟩) (by assumption) ?_
          rotate_left
          · intro w hSw
            first | (go_simp; done) | (go_simp; with_reducible rfl)
          simp only [List.getElem_toArray, List.getElem_cons_succ, List.getElem_cons_zero, Act.put, List.setIfInBounds_toArray, List.set_cons_zero, List.set_cons_succ]
          refine wpHead_take (i := 13) (v := ?_) (by rfl) (by kernel_rfl) (by kernel_rfl) (by exact fun _ _ _ h => h) (Or.inl ⟨by rfl, ?_⟩) (by assumption) ?_
          rotate_left
          · intro w hSw
            first | (go_simp; done) | (go_simp; with_reducible rfl)
          simp only [List.getElem_toArray, List.getElem_cons_succ, List.getElem_cons_zero, Act.put, List.setIfInBounds_toArray, List.set_cons_zero, List.set_cons_succ]
          refine wpHead_take (i := 14) (v := ?_) (by rfl) (by kernel_rfl) (by kernel_rfl) (by exact fun _ _ _ h => h) (Or.inl ⟨by rfl, ?_⟩) (by assumption) ?_
          rotate_left
          · intro w hSw
            first | (go_simp; done) | (go_simp; with_reducible rfl)
          simp only [List.getElem_toArray, List.getElem_cons_succ, List.getElem_cons_zero, Act.put, List.setIfInBounds_toArray, List.set_cons_zero, List.set_cons_succ]
          refine wpHead_take (i := 15) (v := ?_) (by rfl) (by kernel_rfl) (by kernel_rfl) (by exact fun _ _ _ h => h) (Or.inl ⟨by rfl, ?_⟩) (by assumption) ?_
          rotate_left
          · intro w hSw
            first | (go_simp; done) | (go_simp; with_reducible rfl)
          simp only [List.getElem_toArray, List.getElem_cons_succ, List.getElem_cons_zero, Act.put, List.setIfInBounds_toArray, List.set_cons_zero, List.set_cons_succ]
          refine wpHead_take (i := 16) (v := ?_) (by rfl) (by kernel_rfl) (by kernel_rfl) (by exact fun _ _ _ h => h) (Or.inl ⟨by rfl, ?_⟩) (by assumption) ?_
          rotate_left
          · intro w hSw
            first | (go_simp; done) | (go_simp; with_reducible rfl)
          simp only [List.getElem_toArray, List.getElem_cons_succ, List.getElem_cons_zero, Act.put, List.setIfInBounds_toArray, List.set_cons_zero, List.set_cons_succ]
          refine wpHead_take (i := 17) (v := ?_) (by rfl) (by kernel_rfl) (by kernel_rfl) (by exact fun _ _ _ h => h) (Or.inl ⟨by rfl, ?_⟩) (by assumption) ?_
          rotate_left
          · intro w hSw
            first | (go_simp; done) | (go_simp; with_reducible rfl)
          simp only [List.getElem_toArray, List.getElem_cons_succ, List.getElem_cons_zero, Act.put, List.setIfInBounds_toArray, List.set_cons_zero, List.set_cons_succ]
          refine wpHead_done (by kernel_rfl) ?_
          go_wp2_with fail
          refine (HSET _ hHeld).mono ?_
          rintro e w6 ⟨rfl, hk6, hr6⟩
          have HR6 := Lib.hid hr6
          have HK6 := Lib.hid ((HK5.out.ext hHeld).trans hk6)
          clear hk6 hr6 HSET
          go_wp2
          go_roundw
          case rel => exact ⟨j + 1, by go_num, by omega, HK6.out, by rw [HST.out]; exact HR6.out⟩
          case measure => simp [intOf]; omega
        · have hca : cutAt ⟨keep, torn, at_⟩ j = 0 := by unfold cutAt; rw [if_neg htorn]; simp only; rw [k3]; rfl
          rw [hca] at HST
          have hmixe : mix xp sj[xi] 0 = sj[xi] := by simp [mix]
          have hex2 : (st sj[xi]).extract 0 (sj[xi]).length = st sj[xi] := by rw [ex_st, tl_st, List.take_length, List.drop_zero]
          have hcc : ¬ 9223372036854775807 < (sj[xi]).length := by rw [HPO.out]; omega
          have HSET := fun W (hx : Ext (wr.alloc (.cells #[.int .i64 (xi : Int), .string (st xp)] 72)) W) => RSet_all W ⟨_, _, _, _, H5.out.ext hx⟩ hq (fun k hk => Nat.lt_of_lt_of_le (HMR.out k hk) (Nat.le_trans hsz5 hx.size)) xi hxi hn512 (mix xp sj[xi] 0)
          rw [hmixe] at HSET HST
          have hz2 : (0 : Int) ≤ ((sj[xi]).length : Int) := by omega
          clear hca hmixe
          unfold pt at HSET
          generalize sj[xi] = X2 at *
          clear htorn k3
          go_wp2_with fail
          generalize (wr.alloc (.cells #[.int .i64 (xi : Int), .string (st xp)] 72)) = w5 at *
          have hxn : Ext w5 w5.drew := (Ext.refl w5).drew
          refine wp_region_phase (S := fun w' => Ext w5 w') 18 (by kernel_rfl) (by kernel_rfl) ?_ (fun hHeld => ?_)
          · exact hxn
          simp only [List.drop_succ_cons, List.drop_zero]
          refine name_head ?_
          intro wr0 hw0
          rw [hw0] at hHeld
          refine wpHead_take (i := 0) (v := ?_) (by rfl) (by kernel_rfl) (by kernel_rfl) (by exact fun _ _ _ h => h) (Or.inl ⟨by rfl, ?_⟩) (by assumption) ?_
          rotate_left
          · intro w hSw
            first | (go_simp; done) | (go_simp; with_reducible rfl)
          simp only [List.getElem_toArray, List.getElem_cons_zero, Act.put, List.setIfInBounds_toArray, List.set_cons_zero, List.set_cons_succ]
          refine wpHead_take (i := 1) (v := ?_) (by rfl) (by kernel_rfl) (by kernel_rfl) (by exact fun _ _ _ h => h) (Or.inl ⟨by rfl, ?_⟩) (by assumption) ?_
          rotate_left
          · intro w hSw
            first | (go_simp; done) | (go_simp; with_reducible rfl)
          simp only [List.getElem_toArray, List.getElem_cons_succ, List.getElem_cons_zero, Act.put, List.setIfInBounds_toArray, List.set_cons_zero, List.set_cons_succ]
          refine wpHead_take (i := 2) (v := ?_) (by rfl) (by kernel_rfl) (by kernel_rfl) (by exact fun _ _ _ h => h) (Or.inl ⟨by rfl, ?_⟩) (by assumption) ?_
          rotate_left
          · intro w hSw
            first | (go_simp; done) | (go_simp; with_reducible rfl)
          simp only [List.getElem_toArray, List.getElem_cons_succ, List.getElem_cons_zero, Act.put, List.setIfInBounds_toArray, List.set_cons_zero, List.set_cons_succ]
          refine wpHead_take (i := 3) (v := ?_) (by rfl) (by kernel_rfl) (by kernel_rfl) (by exact fun _ _ _ h => h) (Or.inl ⟨by rfl, ?_⟩) (by assumption) ?_
          rotate_left
          · intro w hSw
            first | (go_simp; done) | (go_simp; with_reducible rfl)
          simp only [List.getElem_toArray, List.getElem_cons_succ, List.getElem_cons_zero, Act.put, List.setIfInBounds_toArray, List.set_cons_zero, List.set_cons_succ]
          refine wpHead_take (i := 4) (v := ?_) (by rfl) (by kernel_rfl) (by kernel_rfl) (by exact fun _ _ _ h => h) (Or.inl ⟨by rfl, ?_⟩) (by assumption) ?_
          rotate_left
          · intro w hSw
            first | (go_simp; done) | (go_simp; with_reducible rfl)
          simp only [List.getElem_toArray, List.getElem_cons_succ, List.getElem_cons_zero, Act.put, List.setIfInBounds_toArray, List.set_cons_zero, List.set_cons_succ]
          refine wpHead_take (i := 5) (v := ?_) (by rfl) (by kernel_rfl) (by kernel_rfl) (by exact fun _ _ _ h => h) (Or.inl ⟨by rfl, ?_⟩) (by assumption) ?_
          rotate_left
          · intro w hSw
            first | (go_simp; done) | (go_simp; with_reducible rfl)
          simp only [List.getElem_toArray, List.getElem_cons_succ, List.getElem_cons_zero, Act.put, List.setIfInBounds_toArray, List.set_cons_zero, List.set_cons_succ]
          refine wpHead_take (i := 6) (v := ?_) (by rfl) (by kernel_rfl) (by kernel_rfl) (by exact fun _ _ _ h => h) (Or.inl ⟨by rfl, ?_⟩) (by assumption) ?_
          rotate_left
          · intro w hSw
            first | (go_simp; done) | (go_simp; with_reducible rfl)
          simp only [List.getElem_toArray, List.getElem_cons_succ, List.getElem_cons_zero, Act.put, List.setIfInBounds_toArray, List.set_cons_zero, List.set_cons_succ]
          refine wpHead_take (i := 7) (v := ?_) (by rfl) (by kernel_rfl) (by kernel_rfl) (by exact fun _ _ _ h => h) (Or.inl ⟨by rfl, ?_⟩) (by assumption) ?_
          rotate_left
          · intro w hSw
            first | (go_simp; done) | (go_simp; with_reducible rfl)
          simp only [List.getElem_toArray, List.getElem_cons_succ, List.getElem_cons_zero, Act.put, List.setIfInBounds_toArray, List.set_cons_zero, List.set_cons_succ]
          refine wpHead_take (i := 8) (v := ?_) (by rfl) (by kernel_rfl) (by kernel_rfl) (by exact fun _ _ _ h => h) (Or.inl ⟨by rfl, ?_⟩) (by assumption) ?_
          rotate_left
          · intro w hSw
            first | (go_simp; done) | (go_simp; with_reducible rfl)
          simp only [List.getElem_toArray, List.getElem_cons_succ, List.getElem_cons_zero, Act.put, List.setIfInBounds_toArray, List.set_cons_zero, List.set_cons_succ]
          refine wpHead_take (i := 9) (v := ?_) (by rfl) (by kernel_rfl) (by kernel_rfl) (by exact fun _ _ _ h => h) (Or.inl ⟨by rfl, ?_⟩) (by assumption) ?_
          rotate_left
          · intro w hSw
            first | (go_simp; done) | (go_simp; with_reducible rfl)
          simp only [List.getElem_toArray, List.getElem_cons_succ, List.getElem_cons_zero, Act.put, List.setIfInBounds_toArray, List.set_cons_zero, List.set_cons_succ]
          refine wpHead_take (i := 10) (v := ?_) (by rfl) (by kernel_rfl) (by kernel_rfl) (by exact fun _ _ _ h => h) (Or.inl ⟨by rfl, ?_⟩) (by assumption) ?_
          rotate_left
          · intro w hSw
            first | (go_simp; done) | (go_simp; with_reducible rfl)
          simp only [List.getElem_toArray, List.getElem_cons_succ, List.getElem_cons_zero, Act.put, List.setIfInBounds_toArray, List.set_cons_zero, List.set_cons_succ]
          refine wpHead_take (i := 11) (v := ?_) (by rfl) (by kernel_rfl) (by kernel_rfl) (by exact fun _ _ _ h => h) (Or.inl ⟨by rfl, ?_⟩) (by assumption) ?_
          rotate_left
          · intro w hSw
            first | (go_simp; done) | (go_simp; with_reducible rfl)
          simp only [List.getElem_toArray, List.getElem_cons_succ, List.getElem_cons_zero, Act.put, List.setIfInBounds_toArray, List.set_cons_zero, List.set_cons_succ]
          refine wpHead_take (i := 12) (v := ?_) (by rfl) (by kernel_rfl) (by kernel_rfl) (by exact fun _ _ _ h => h) (Or.inl ⟨by rfl, ?_⟩) (by assumption) ?_
          rotate_left
          · intro w hSw
            first | (go_simp; done) | (go_simp; with_reducible rfl)
          simp only [List.getElem_toArray, List.getElem_cons_succ, List.getElem_cons_zero, Act.put, List.setIfInBounds_toArray, List.set_cons_zero, List.set_cons_succ]
          refine wpHead_take (i := 13) (v := ?_) (by rfl) (by kernel_rfl) (by kernel_rfl) (by exact fun _ _ _ h => h) (Or.inl ⟨by rfl, ?_⟩) (by assumption) ?_
          rotate_left
          · intro w hSw
            first | (go_simp; done) | (go_simp; with_reducible rfl)
          simp only [List.getElem_toArray, List.getElem_cons_succ, List.getElem_cons_zero, Act.put, List.setIfInBounds_toArray, List.set_cons_zero, List.set_cons_succ]
          refine wpHead_take (i := 14) (v := ?_) (by rfl) (by kernel_rfl) (by kernel_rfl) (by exact fun _ _ _ h => h) (Or.inl ⟨by rfl, ?_⟩) (by assumption) ?_
          rotate_left
          · intro w hSw
            first | (go_simp; done) | (go_simp; with_reducible rfl)
          simp only [List.getElem_toArray, List.getElem_cons_succ, List.getElem_cons_zero, Act.put, List.setIfInBounds_toArray, List.set_cons_zero, List.set_cons_succ]
          refine wpHead_take (i := 15) (v := ?_) (by rfl) (by kernel_rfl) (by kernel_rfl) (by exact fun _ _ _ h => h) (Or.inl ⟨by rfl, ?_⟩) (by assumption) ?_
          rotate_left
          · intro w hSw
            first | (go_simp; done) | (go_simp; with_reducible rfl)
          simp only [List.getElem_toArray, List.getElem_cons_succ, List.getElem_cons_zero, Act.put, List.setIfInBounds_toArray, List.set_cons_zero, List.set_cons_succ]
          refine wpHead_take (i := 16) (v := ?_) (by rfl) (by kernel_rfl) (by kernel_rfl) (by exact fun _ _ _ h => h) (Or.inl ⟨by rfl, ?_⟩) (by assumption) ?_
          rotate_left
          · intro w hSw
            first | (go_simp; done) | (go_simp; with_reducible rfl)
          simp only [List.getElem_toArray, List.getElem_cons_succ, List.getElem_cons_zero, Act.put, List.setIfInBounds_toArray, List.set_cons_zero, List.set_cons_succ]
          refine wpHead_take (i := 17) (v := ?_) (by rfl) (by kernel_rfl) (by kernel_rfl) (by exact fun _ _ _ h => h) (Or.inl ⟨by rfl, ?_⟩) (by assumption) ?_
          rotate_left
          · intro w hSw
            first | (go_simp; done) | (go_simp; with_reducible rfl)
          simp only [List.getElem_toArray, List.getElem_cons_succ, List.getElem_cons_zero, Act.put, List.setIfInBounds_toArray, List.set_cons_zero, List.set_cons_succ]
          refine wpHead_done (by kernel_rfl) ?_
          go_wp2_with fail
          refine (HSET _ hHeld).mono ?_
          rintro e w6 ⟨rfl, hk6, hr6⟩
          have HR6 := Lib.hid hr6
          have HK6 := Lib.hid ((HK5.out.ext hHeld).trans hk6)
          clear hk6 hr6 HSET
          go_wp2
          go_roundw
          case rel => exact ⟨j + 1, by go_num, by omega, HK6.out, by rw [HST.out]; exact HR6.out⟩
          case measure => simp [intOf]; omega
        · have hca : cutAt ⟨keep, torn, at_⟩ j = 0 := by unfold cutAt; rw [if_neg htorn]; simp only; rw [k3]; rfl
          rw [hca] at HST
          have hmixe : mix xp sj[xi] 0 = sj[xi] := by simp [mix]
          have hex2 : (st sj[xi]).extract 0 (sj[xi]).length = st sj[xi] := by rw [ex_st, tl_st, List.take_length, List.drop_zero]
          have hcc : ¬ 9223372036854775807 < (sj[xi]).length := by rw [HPO.out]; omega
          have HSET := fun W (hx : Ext (wr.alloc (.cells #[.int .i64 (xi : Int), .string (st xp)] 72)) W) => RSet_all W ⟨_, _, _, _, H5.out.ext hx⟩ hq (fun k hk => Nat.lt_of_lt_of_le (HMR.out k hk) (Nat.le_trans hsz5 hx.size)) xi hxi hn512 (mix xp sj[xi] 0)
          rw [hmixe] at HSET HST
          have hz2 : (0 : Int) ≤ ((sj[xi]).length : Int) := by omega
          clear hca hmixe
          unfold pt at HSET
          generalize sj[xi] = X2 at *
          clear htorn k3
          go_wp2_with fail
          generalize (wr.alloc (.cells #[.int .i64 (xi : Int), .string (st xp)] 72)) = w5 at *
          have hxn : Ext w5 w5.drew := (Ext.refl w5).drew
          refine wp_region_phase (S := fun w' => Ext w5 w') 18 (by kernel_rfl) (by kernel_rfl) ?_ (fun hHeld => ?_)
          · exact hxn
          simp only [List.drop_succ_cons, List.drop_zero]
          refine name_head ?_
          intro wr0 hw0
          rw [hw0] at hHeld
          refine wpHead_take (i := 0) (v := ?_) (by rfl) (by kernel_rfl) (by kernel_rfl) (by exact fun _ _ _ h => h) (Or.inl ⟨by rfl, ?_⟩) (by assumption) ?_
          rotate_left
          · intro w hSw
            first | (go_simp; done) | (go_simp; with_reducible rfl)
          simp only [List.getElem_toArray, List.getElem_cons_zero, Act.put, List.setIfInBounds_toArray, List.set_cons_zero, List.set_cons_succ]
          refine wpHead_take (i := 1) (v := ?_) (by rfl) (by kernel_rfl) (by kernel_rfl) (by exact fun _ _ _ h => h) (Or.inl ⟨by rfl, ?_⟩) (by assumption) ?_
          rotate_left
          · intro w hSw
            first | (go_simp; done) | (go_simp; with_reducible rfl)
          simp only [List.getElem_toArray, List.getElem_cons_succ, List.getElem_cons_zero, Act.put, List.setIfInBounds_toArray, List.set_cons_zero, List.set_cons_succ]
          refine wpHead_take (i := 2) (v := ?_) (by rfl) (by kernel_rfl) (by kernel_rfl) (by exact fun _ _ _ h => h) (Or.inl ⟨by rfl, ?_⟩) (by assumption) ?_
          rotate_left
          · intro w hSw
            first | (go_simp; done) | (go_simp; with_reducible rfl)
          simp only [List.getElem_toArray, List.getElem_cons_succ, List.getElem_cons_zero, Act.put, List.setIfInBounds_toArray, List.set_cons_zero, List.set_cons_succ]
          refine wpHead_take (i := 3) (v := ?_) (by rfl) (by kernel_rfl) (by kernel_rfl) (by exact fun _ _ _ h => h) (Or.inl ⟨by rfl, ?_⟩) (by assumption) ?_
          rotate_left
          · intro w hSw
            first | (go_simp; done) | (go_simp; with_reducible rfl)
          simp only [List.getElem_toArray, List.getElem_cons_succ, List.getElem_cons_zero, Act.put, List.setIfInBounds_toArray, List.set_cons_zero, List.set_cons_succ]
          refine wpHead_take (i := 4) (v := ?_) (by rfl) (by kernel_rfl) (by kernel_rfl) (by exact fun _ _ _ h => h) (Or.inl ⟨by rfl, ?_⟩) (by assumption) ?_
          rotate_left
          · intro w hSw
            first | (go_simp; done) | (go_simp; with_reducible rfl)
          simp only [List.getElem_toArray, List.getElem_cons_succ, List.getElem_cons_zero, Act.put, List.setIfInBounds_toArray, List.set_cons_zero, List.set_cons_succ]
          refine wpHead_take (i := 5) (v := ?_) (by rfl) (by kernel_rfl) (by kernel_rfl) (by exact fun _ _ _ h => h) (Or.inl ⟨by rfl, ?_⟩) (by assumption) ?_
          rotate_left
          · intro w hSw
            first | (go_simp; done) | (go_simp; with_reducible rfl)
          simp only [List.getElem_toArray, List.getElem_cons_succ, List.getElem_cons_zero, Act.put, List.setIfInBounds_toArray, List.set_cons_zero, List.set_cons_succ]
          refine wpHead_take (i := 6) (v := ?_) (by rfl) (by kernel_rfl) (by kernel_rfl) (by exact fun _ _ _ h => h) (Or.inl ⟨by rfl, ?_⟩) (by assumption) ?_
          rotate_left
          · intro w hSw
            first | (go_simp; done) | (go_simp; with_reducible rfl)
          simp only [List.getElem_toArray, List.getElem_cons_succ, List.getElem_cons_zero, Act.put, List.setIfInBounds_toArray, List.set_cons_zero, List.set_cons_succ]
          refine wpHead_take (i := 7) (v := ?_) (by rfl) (by kernel_rfl) (by kernel_rfl) (by exact fun _ _ _ h => h) (Or.inl ⟨by rfl, ?_⟩) (by assumption) ?_
          rotate_left
          · intro w hSw
            first | (go_simp; done) | (go_simp; with_reducible rfl)
          simp only [List.getElem_toArray, List.getElem_cons_succ, List.getElem_cons_zero, Act.put, List.setIfInBounds_toArray, List.set_cons_zero, List.set_cons_succ]
          refine wpHead_take (i := 8) (v := ?_) (by rfl) (by kernel_rfl) (by kernel_rfl) (by exact fun _ _ _ h => h) (Or.inl ⟨by rfl, ?_⟩) (by assumption) ?_
          rotate_left
          · intro w hSw
            first | (go_simp; done) | (go_simp; with_reducible rfl)
          simp only [List.getElem_toArray, List.getElem_cons_succ, List.getElem_cons_zero, Act.put, List.setIfInBounds_toArray, List.set_cons_zero, List.set_cons_succ]
          refine wpHead_take (i := 9) (v := ?_) (by rfl) (by kernel_rfl) (by kernel_rfl) (by exact fun _ _ _ h => h) (Or.inl ⟨by rfl, ?_⟩) (by assumption) ?_
          rotate_left
          · intro w hSw
            first | (go_simp; done) | (go_simp; with_reducible rfl)
          simp only [List.getElem_toArray, List.getElem_cons_succ, List.getElem_cons_zero, Act.put, List.setIfInBounds_toArray, List.set_cons_zero, List.set_cons_succ]
          refine wpHead_take (i := 10) (v := ?_) (by rfl) (by kernel_rfl) (by kernel_rfl) (by exact fun _ _ _ h => h) (Or.inl ⟨by rfl, ?_⟩) (by assumption) ?_
          rotate_left
          · intro w hSw
            first | (go_simp; done) | (go_simp; with_reducible rfl)
          simp only [List.getElem_toArray, List.getElem_cons_succ, List.getElem_cons_zero, Act.put, List.setIfInBounds_toArray, List.set_cons_zero, List.set_cons_succ]
          refine wpHead_take (i := 11) (v := ?_) (by rfl) (by kernel_rfl) (by kernel_rfl) (by exact fun _ _ _ h => h) (Or.inl ⟨by rfl, ?_⟩) (by assumption) ?_
          rotate_left
          · intro w hSw
            first | (go_simp; done) | (go_simp; with_reducible rfl)
          simp only [List.getElem_toArray, List.getElem_cons_succ, List.getElem_cons_zero, Act.put, List.setIfInBounds_toArray, List.set_cons_zero, List.set_cons_succ]
          refine wpHead_take (i := 12) (v := ?_) (by rfl) (by kernel_rfl) (by kernel_rfl) (by exact fun _ _ _ h => h) (Or.inl ⟨by rfl, ?_⟩) (by assumption) ?_
          rotate_left
          · intro w hSw
            first | (go_simp; done) | (go_simp; with_reducible rfl)
          simp only [List.getElem_toArray, List.getElem_cons_succ, List.getElem_cons_zero, Act.put, List.setIfInBounds_toArray, List.set_cons_zero, List.set_cons_succ]
          refine wpHead_take (i := 13) (v := ?_) (by rfl) (by kernel_rfl) (by kernel_rfl) (by exact fun _ _ _ h => h) (Or.inl ⟨by rfl, ?_⟩) (by assumption) ?_
          rotate_left
          · intro w hSw
            first | (go_simp; done) | (go_simp; with_reducible rfl)
          simp only [List.getElem_toArray, List.getElem_cons_succ, List.getElem_cons_zero, Act.put, List.setIfInBounds_toArray, List.set_cons_zero, List.set_cons_succ]
          refine wpHead_take (i := 14) (v := ?_) (by rfl) (by kernel_rfl) (by kernel_rfl) (by exact fun _ _ _ h => h) (Or.inl ⟨by rfl, ?_⟩) (by assumption) ?_
          rotate_left
          · intro w hSw
            first | (go_simp; done) | (go_simp; with_reducible rfl)
          simp only [List.getElem_toArray, List.getElem_cons_succ, List.getElem_cons_zero, Act.put, List.setIfInBounds_toArray, List.set_cons_zero, List.set_cons_succ]
          refine wpHead_take (i := 15) (v := ?_) (by rfl) (by kernel_rfl) (by kernel_rfl) (by exact fun _ _ _ h => h) (Or.inl ⟨by rfl, ?_⟩) (by assumption) ?_
          rotate_left
          · intro w hSw
            first | (go_simp; done) | (go_simp; with_reducible rfl)
          simp only [List.getElem_toArray, List.getElem_cons_succ, List.getElem_cons_zero, Act.put, List.setIfInBounds_toArray, List.set_cons_zero, List.set_cons_succ]
          refine wpHead_take (i := 16) (v := ?_) (by rfl) (by kernel_rfl) (by kernel_rfl) (by exact fun _ _ _ h => h) (Or.inl ⟨by rfl, ?_⟩) (by assumption) ?_
          rotate_left
          · intro w hSw
            first | (go_simp; done) | (go_simp; with_reducible rfl)
          simp only [List.getElem_toArray, List.getElem_cons_succ, List.getElem_cons_zero, Act.put, List.setIfInBounds_toArray, List.set_cons_zero, List.set_cons_succ]
          refine wpHead_take (i := 17) (v := ?_) (by rfl) (by kernel_rfl) (by kernel_rfl) (by exact fun _ _ _ h => h) (Or.inl ⟨by rfl, ?_⟩) (by assumption) ?_
          rotate_left
          · intro w hSw
            first | (go_simp; done) | (go_simp; with_reducible rfl)
          simp only [List.getElem_toArray, List.getElem_cons_succ, List.getElem_cons_zero, Act.put, List.setIfInBounds_toArray, List.set_cons_zero, List.set_cons_succ]
          refine wpHead_done (by kernel_rfl) ?_
          go_wp2_with fail
          refine (HSET _ hHeld).mono ?_
          rintro e w6 ⟨rfl, hk6, hr6⟩
          have HR6 := Lib.hid hr6
          have HK6 := Lib.hid ((HK5.out.ext hHeld).trans hk6)
          clear hk6 hr6 HSET
          go_wp2
          go_roundw
          case rel => exact ⟨j + 1, by go_num, by omega, HK6.out, by rw [HST.out]; exact HR6.out⟩
          case measure => simp [intOf]; omega
    · have hjn : ¬ (j : Int) < (ws.length : Int) := by omega
      have hjj : j = ws.length := by omega
      rw [hjj] at HR
      have hwr : IntKind.i64.wrap ((age : Int) + 1) = (age : Int) + 1 := IntWalk.i64_in _ (by omega)
      have hcl := HR.out.cleared hq
      have hkq := (((Kept.refl [q] (wr.setCell ⟨q, 1, none⟩ (.slice none 0 0))).setCell (p := ⟨q, 3, none⟩) (.inl (by simp)) (.int .i64 0)).setCell (p := ⟨q, 2, none⟩) (.inl (by simp)) (.bool false)).setCell (p := ⟨q, 4, none⟩) (.inl (by simp)) (.int .i64 ((age : Int) + 1))
      have hrow := heap_setCell_same _ q 4 _ _ (.int .i64 ((age : Int) + 1)) (heap_setCell_same _ q 2 _ _ (.bool false) (heap_setCell_same _ q 3 _ _ (.int .i64 0) hcl.1.row))
      have hfin := hcl.1.turned (s' := ⟨tornL ⟨keep, torn, at_⟩ 0 (ws.take ws.length) sure, [], false, 0, age + 1⟩) hq hkq rfl rfl (by simpa using hrow)
      have HFIN := Lib.hid hfin
      have HK := Lib.hid ((HKR.out.trans hcl.2).trans hkq)
      obtain ⟨z0, z1, z2, z3, z4, zf⟩ := HR.out.cells
      replace z1 := z1 wr (Ext.refl _)
      replace z2 := z2 wr (Ext.refl _)
      replace z3 := z3 wr (Ext.refl _)
      replace z4 := z4 wr (Ext.refl _)
      replace zf := fun j => zf wr j (Ext.refl _)
      clear hjj hcl hkq hrow hfin z0 x1
      go_wp2
      go_ret
      exact ⟨rfl, (Kept.of_ext HX0.out).trans HK.out, _, _, _, _, by have := HFIN.out; rw [List.take_length] at this; exact this⟩
end
end Go.Proofs.Ytcnikfmcefnmoaa
