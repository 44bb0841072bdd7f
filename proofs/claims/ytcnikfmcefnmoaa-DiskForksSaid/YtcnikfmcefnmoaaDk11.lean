/- The walk of DiskTorn. It answers true. Conditions: the hypotheses of the theorem. -/
import Derived.Test.YtcnikfmcefnmoaaChecked
import Derived.Test.YtcnikfmcefnmoaaStr
import Derived.Test.YtcnikfmcefnmoaaDk10
namespace Go.Proofs.Ytcnikfmcefnmoaa
open Go.RowKit
attribute [local go_sem] pt
theorem padL_lens (l : List UInt8) (h : l.length ≤ 64) : (padL l).length = 64 := padL_len h
theorem torn_states (was is : List UInt8) (hw : was.length ≤ 64) (hi : is.length ≤ 64) (C : Cr) :
    writeE (newD 1) 0 was = 0 ∧ writeS (newD 1) 0 was = ⟨[zpage], [(0, padL was)], false, 0, 0⟩ ∧ flushS ⟨[zpage], [(0, padL was)], false, 0, 0⟩ = ⟨[padL was], [], false, 0, 0⟩ ∧
    writeS ⟨[padL was], [], false, 0, 0⟩ 0 is = ⟨[padL was], [(0, padL is)], false, 0, 0⟩ ∧ wrongE ⟨[padL was], [(0, padL is)], false, 0, 0⟩ 0 false = 0 ∧ wrongE ⟨[padL was], [(0, padL is)], false, 0, 0⟩ 0 true = 0 ∧
    sureL ⟨[padL was], [(0, padL is)], false, 0, 0⟩ 0 = padL was ∧ readL ⟨[padL was], [(0, padL is)], false, 0, 0⟩ 0 = padL is ∧
    crashed ⟨[padL was], [(0, padL is)], false, 0, 0⟩ C = ⟨[mix (padL is) (padL was) (cutAt C 0)], [], false, 0, 1⟩ ∧
    wrongE ⟨[mix (padL is) (padL was) (cutAt C 0)], [], false, 0, 1⟩ 0 true = 0 ∧ readL ⟨[mix (padL is) (padL was) (cutAt C 0)], [], false, 0, 1⟩ 0 = mix (padL is) (padL was) (cutAt C 0) := by
  have e1 : ¬ 64 < was.length := by omega
  have e2 : ¬ 64 < is.length := by omega
  refine ⟨?_, ?_, rfl, ?_, rfl, rfl, rfl, rfl, rfl, rfl, rfl⟩
  · have h0 : wrongE (newD 1) 0 true = 0 := by decide +kernel
    unfold writeE
    rw [h0, if_neg (by simp), if_neg e1]
    rfl
  · have h0 : wrongE (newD 1) 0 true = 0 := by decide +kernel
    unfold writeS
    rw [h0, if_neg (by simp), if_neg e1]
    rfl
  · have h0 : wrongE ⟨[padL was], [], false, 0, 0⟩ 0 true = 0 := rfl
    unfold writeS
    rw [h0, if_neg (by simp), if_neg e2]
    rfl
theorem old_sl {w0 w : World} {B : List Nat} {A : Option Addr} {xs : List Value} (h : Sl w0 A xs) (hx : Ext w0 w) (hB : ∀ k ∈ B, w0.heap.size ≤ k) : SlM B w A xs :=
  ((SlM.of_sl h).old (fun k hk => .inr (hB k hk))).kept (.of_ext hx)
set_option maxRecDepth 20000 in
set_option maxHeartbeats 4000000 in
theorem Torn_any (was is : List UInt8) (A1 A2 KA : Option Addr) (c1 c2 kc : Nat) (C : Cr) (w : World) (h1 : Bs w A1 was) (h2 : Bs w A2 is) (hK : Sl w KA (bo C.keep)) (hkl : C.keep.length ≤ 9223372036854775807) :
    Calls Try.prog 3 #[.slice A1 was.length c1, .slice A2 is.length c2, .agg #[.slice KA C.keep.length kc, .int .i64 C.torn, .int .i64 C.at_]] w (Yes w) := by
  have hx0 := (Ext.refl w).alloc (.cells #[.slice KA C.keep.length kc, .int .i64 C.torn, .int .i64 C.at_] 25)
  have hb0 := rows3 (heap_alloc_new w (.cells #[.slice KA C.keep.length kc, .int .i64 C.torn, .int .i64 C.at_] 25))
  have H1 := Lib.hid (h1.ext hx0)
  have H2 := Lib.hid (h2.ext hx0)
  have HK := Lib.hid (hK.ext hx0)
  have HX0 := Lib.hid hx0
  have HB0 := Lib.hid hb0
  have HLV := fun W (hx : Ext w W) => live_any W
  clear h1 h2 hK hx0 hb0
  unfold Yes
  go_enter Try.func3, Try.ntmps3
  go_wp2_with fail
  generalize hw0 : w.alloc (.cells #[.slice KA C.keep.length kc, .int .i64 C.torn, .int .i64 C.at_] 25) = w0 at *
  clear hw0
  refine (New_ok 1 _ (by omega) (by omega)).mono ?_
  rintro e w1 ⟨p, B1, rfl, hx1, hd1, hB1⟩
  by_cases hlong : 64 < was.length ∨ 64 < is.length
  · have hpre : (64 : Int) < (was.length : Int) ∨ (¬ (64 : Int) < (was.length : Int) ∧ (64 : Int) < (is.length : Int)) := by omega
    obtain ⟨g, cap, v, hd⟩ := hd1
    have HW := fun W (hx : Ext w1 W) (A : Option Addr) (c : Nat) => Write_long W (hd.ext hx) 0 A 65 c (by decide +kernel) (by omega)
    have HX1 := Lib.hid (HX0.out.trans hx1)
    clear hlong hd hB1 hx1
    obtain ⟨iu, hiu, hzu, hsu, hbu⟩ := info_parts (P := Try.prog) (e := 5) (z := .int .u8 0) (size := 1) (bytes := 1) (by kernel_rfl)
    rcases hpre with hp1 | ⟨hp1, hp2⟩
    · go_wp2_with fail
      refine (HLV _ HX1.out).mono ?_
      rintro e w2 ⟨rfl, hx2⟩
      obtain ⟨w3, hr3, -, hg3⟩ := run_make_full (P := Try.prog) w2 0 22 5 iu _ 1 Try.underlying22 hiu hzu hsu .i64 .i64 65 (by rw [hbu]; omega) (by simp [maxLen]) (Nat.zero_le _)
      have hr3 : (Instr.makeSlice 22 (.int .i64 65) (.int .i64 65)).run Try.prog w2 = .ok (.slice (some ⟨w2.heap.size, 0, none⟩) 65 65) w3 := hr3
      have hx3 : Ext w2 w3 := (Ext.refl w2).grown hg3 (by simp)
      have HQ := HW w3 (hx2.trans hx3) (some ⟨w2.heap.size, 0, none⟩) 65
      clear HW hg3
      go_wp2_with fail
      refine HQ.mono ?_
      rintro e w4 ⟨rfl, hx4⟩
      go_wp2
      go_ret
      exact ⟨rfl, HX1.out.trans ((hx2.trans hx3).trans hx4)⟩
    · go_wp2_with fail
      refine (HLV _ HX1.out).mono ?_
      rintro e w2 ⟨rfl, hx2⟩
      obtain ⟨w3, hr3, -, hg3⟩ := run_make_full (P := Try.prog) w2 0 22 5 iu _ 1 Try.underlying22 hiu hzu hsu .i64 .i64 65 (by rw [hbu]; omega) (by simp [maxLen]) (Nat.zero_le _)
      have hr3 : (Instr.makeSlice 22 (.int .i64 65) (.int .i64 65)).run Try.prog w2 = .ok (.slice (some ⟨w2.heap.size, 0, none⟩) 65 65) w3 := hr3
      have hx3 : Ext w2 w3 := (Ext.refl w2).grown hg3 (by simp)
      have HQ := HW w3 (hx2.trans hx3) (some ⟨w2.heap.size, 0, none⟩) 65
      clear HW hg3
      go_wp2_with fail
      refine HQ.mono ?_
      rintro e w4 ⟨rfl, hx4⟩
      go_wp2
      go_ret
      exact ⟨rfl, HX1.out.trans ((hx2.trans hx3).trans hx4)⟩
  · have hp1 : ¬ (64 : Int) < (was.length : Int) := by omega
    have hp2 : ¬ (64 : Int) < (is.length : Int) := by omega
    obtain ⟨e1, e2, e3, e4, e5, e6, e7, e8, e9, e10, e11⟩ := torn_states was is (by omega) (by omega) C
    have ok0 := newD_ok (n := 1) (by omega) (by omega)
    have ok1 := writeS_ok ok0 0 was
    rw [e2] at ok1
    have ok2 := flushS_ok ok1
    rw [e3] at ok2
    have ok3 := writeS_ok ok2 0 is
    rw [e4] at ok3
    have ok4 := crashed_ok ok3 C
    rw [e9] at ok4
    have hpa : (padL was).length = 64 := padL_len (by omega)
    have hpb : (padL is).length = 64 := padL_len (by omega)
    have hn := cutAt_le C 0
    generalize cutAt C 0 = n at *
    have hmx := mix_len hpb hpa hn
    go_wp2_with fail
    refine (Write_any hd1 ok0 (newD_few 1) (by omega) 0 A1 c1 was (old_sl H1.out hx1 hB1)).mono ?_
    rintro e w2 ⟨B2, rfl, hd2, ht2⟩
    obtain ⟨hx2, hB2⟩ := ht2.to_ext hx1 hB1
    rw [e2] at hd2
    clear ht2 hd1 hx1 hB1 e1 e2
    go_wp2_with fail
    refine (Flush_any hd2 ok1 (n := 1) ⟨by simp, by simp, by simp⟩ (by omega)).mono ?_
    rintro e w3 ⟨rfl, hd3, ht3⟩
    obtain ⟨hx3, hB3⟩ := ht3.to_ext hx2 hB2
    rw [e3] at hd3
    clear ht3 hd2 hx2 hB2 e3
    go_wp2_with fail
    refine (Write_any hd3 ok2 (n := 1) ⟨by simp, by simp, by simp⟩ (by omega) 0 A2 c2 is (old_sl H2.out hx3 hB3)).mono ?_
    rintro e w4 ⟨B4, rfl, hd4, ht4⟩
    obtain ⟨hx4, hB4⟩ := ht4.to_ext hx3 hB3
    rw [e4] at hd4
    clear ht4 hd3 hx3 hB3 e4
    go_wp2_with fail
    refine (Sure_any hd4 ok3 0).mono ?_
    rintro e w5 ⟨Aa, ca, rfl, hfa, hx5, hca, hca2⟩
    rw [e7] at hfa hca
    rw [e5, e7, hpa]
    rw [hpa] at hca
    obtain rfl : ca = 64 := by omega
    have hba := hfa.bsM hd4.lt
    have hd5 := hd4.ext hx5
    have hx5 := hx4.trans hx5
    clear hd4 hx4 hfa hca hca2
    go_wp2_with fail
    refine (Read_any hd5 ok3 (n := 1) ⟨by simp, by simp, by simp⟩ (by omega) 0).mono ?_
    rintro e w6 ⟨Ab, cb, rfl, hfb, hx6, hcb, hcb2⟩
    rw [e8] at hfb hcb
    rw [e6, e8, hpb]
    rw [hpb] at hcb
    obtain rfl : cb = 64 := by omega
    have hbb := hfb.bsM hd5.lt
    have hba := BsM.kept hba (.of_ext hx6)
    have hd6 := hd5.ext hx6
    have hx6 := hx5.trans hx6
    clear hd5 hx5 hfb hcb hcb2 e5 e6 e7 e8
    obtain ⟨b0, b1, b2, bf⟩ := HB0.out
    have b0 := b0 w6 hx6
    have b1 := b1 w6 hx6
    have b2 := b2 w6 hx6
    clear bf
    go_wp2_with fail
    refine (Crash_all hd6 ok3 (n := 1) ⟨by simp, by simp, by simp⟩ (by omega) C KA kc (old_sl HK.out hx6 hB4) hkl).mono ?_
    rintro e w7 ⟨rfl, hd7, ht7⟩
    obtain ⟨hx7, hB7⟩ := ht7.to_ext hx6 hB4
    rw [e9] at hd7
    have hba := Turn.bs hba ht7
    have hbb := Turn.bs hbb ht7
    clear ht7 hd6 hx6 hB4 e9 b0 b1 b2
    go_wp2_with fail
    refine (Read_any hd7 ok4 (n := 1) ⟨by simp, by simp, by simp⟩ (by omega) 0).mono ?_
    rintro e w8 ⟨Ag, cg, rfl, hfg, hx8, hcg, hcg2⟩
    rw [e11] at hfg hcg
    rw [e10, e11, hmx]
    rw [hmx] at hcg
    obtain rfl : cg = 64 := by omega
    have hbg := (hfg.bsM hd7.lt).bs
    have hba := (BsM.kept hba (.of_ext hx8)).bs
    have hbb := (BsM.kept hbb (.of_ext hx8)).bs
    have hx8 := hx7.trans hx8
    clear hd7 hx7 hfg hcg hcg2 e10 e11 ok0 ok1 ok2 ok3 ok4 hB7
    have hx : Ext w w8 := HX0.out.trans hx8
    have hE : mix (padL is) (padL was) n = (padL is).take n ++ (padL was).drop n := rfl
    have HE := Lib.hid hE
    clear hE hlong H1 H2 HK HB0 HX0 hx8
    generalize padL was = pa at *
    generalize padL is = pb at *
    generalize mix pb pa n = pg at *
    have hcg := run_str (P := Try.prog) Try.underlying22 Try.underlying5 Try.underlying9 hbg 64 64 hmx.symm
    have HA := Lib.hid hba
    have HBB := Lib.hid hbb
    have HPA := Lib.hid hpa
    have HPB := Lib.hid hpb
    have HMX := Lib.hid hmx
    clear hba hbb hbg hpa hpb hmx
    go_wp2
    go_loopw [15] (fun k wr => ∃ j : Nat, k = .int .i64 j ∧ j ≤ n ∧ Ext w8 wr) (fun k _ => n - (intOf k).toNat)
    case atStart => exact ⟨0, rfl, by omega, Ext.refl _⟩
    case round =>
      obtain ⟨j, rfl, hj, hxr⟩ := hrel
      have hj64 : (j : Int) ≤ 64 := by omega
      obtain ⟨A', hs1, hs2⟩ := cutB_h (P := Try.prog) Try.underlying22 Try.sizeOf5 Ab 64 64 pb j (hi := (j : Int)) rfl HPB.out (by omega) (by omega)
      obtain ⟨A'', hs3, hs4⟩ := cutB_l (P := Try.prog) Try.underlying22 Try.sizeOf5 Aa 64 64 pa j (li := (j : Int)) rfl HPA.out (by omega) (by omega)
      have hl1 : (pb.take j).length = j := by simp [HPB.out]; omega
      have hl2 : (pa.drop j).length = 64 - j := by simp [HPA.out]
      have hcq1 := run_str (P := Try.prog) Try.underlying22 Try.underlying5 Try.underlying9 (hs2 w8 HBB.out) j 64 hl1.symm
      have hcq2 := run_str (P := Try.prog) Try.underlying22 Try.underlying5 Try.underlying9 (hs4 w8 HA.out) (64 - j) (64 - j) hl2.symm
      have hcc : ¬ 9223372036854775807 < (pb.take j).length + (pa.drop j).length := by omega
      have HJ := Lib.hid hj
      have HQ : Hid (j = n → pg = pb.take j ++ pa.drop j) := Lib.hid (by rintro rfl; exact HE.out)
      have HL1 := Lib.hid hl1
      have HL2 := Lib.hid hl2
      clear hl1 hl2 hs2 hs4 hj
      generalize pb.take j = X at *
      generalize pa.drop j = Y at *
      go_wp2_with fail
      have hxn : Ext w8 wr.drew := hxr.drew
      by_cases heq : pg = X ++ Y
      · have ht : (pg == X ++ Y) = true := by rw [heq]; simp
        clear heq HQ
        refine wp_region_phase (S := fun w' => Ext w8 w') 11 (by kernel_rfl) (by kernel_rfl) ?_ (fun hHeld => ?_)
        · exact hxn
        simp only [List.drop_succ_cons, List.drop_zero]
        refine name_head ?_
        intro wr0 hw0
        rw [hw0] at hHeld
        refine wpHead_take (i := 0) (v := ?_) (by rfl) (by kernel_rfl) (by kernel_rfl) (by exact fun _ _ _ h => h) (Or.inl ⟨by rfl, ?_⟩) (by assumption) ?_
        rotate_left
        · intro w hSw
          first | (go_simp; done) | (go_simp; with_reducible rfl)
        simp only [List.getElem_toArray, List.getElem_cons_zero, Act.put, List.setIfInBounds_toArray, List.set_cons_zero, List.set_cons_succ]
        refine wpHead_take (i := 1) (v := ?_) (by rfl) (by kernel_rfl) (by kernel_rfl) (by exact fun _ _ _ h => h) (Or.inl ⟨by rfl, ?_⟩) (by assumption) ?_
        rotate_left
        · intro w hSw
          first | (go_simp; done) | (go_simp; with_reducible rfl)
        simp only [List.getElem_toArray, List.getElem_cons_succ, List.getElem_cons_zero, Act.put, List.setIfInBounds_toArray, List.set_cons_zero, List.set_cons_succ]
        refine wpHead_take (i := 2) (v := ?_) (by rfl) (by kernel_rfl) (by kernel_rfl) (by exact fun _ _ _ h => h) (Or.inl ⟨by rfl, ?_⟩) (by assumption) ?_
        rotate_left
        · intro w hSw
          first | (go_simp; done) | (go_simp; with_reducible rfl)
        simp only [List.getElem_toArray, List.getElem_cons_succ, List.getElem_cons_zero, Act.put, List.setIfInBounds_toArray, List.set_cons_zero, List.set_cons_succ]
        refine wpHead_take (i := 3) (v := ?_) (by rfl) (by kernel_rfl) (by kernel_rfl) (by exact fun _ _ _ h => h) (Or.inl ⟨by rfl, ?_⟩) (by assumption) ?_
        rotate_left
        · intro w hSw
          first | (go_simp; done) | (go_simp; with_reducible rfl)
        simp only [List.getElem_toArray, List.getElem_cons_succ, List.getElem_cons_zero, Act.put, List.setIfInBounds_toArray, List.set_cons_zero, List.set_cons_succ]
        refine wpHead_take (i := 4) (v := ?_) (by rfl) (by kernel_rfl) (by kernel_rfl) (by exact fun _ _ _ h => h) (Or.inl ⟨by rfl, ?_⟩) (by assumption) ?_
        rotate_left
        · intro w hSw
          first | (go_simp; done) | (go_simp; with_reducible rfl)
        simp only [List.getElem_toArray, List.getElem_cons_succ, List.getElem_cons_zero, Act.put, List.setIfInBounds_toArray, List.set_cons_zero, List.set_cons_succ]
        refine wpHead_take (i := 5) (v := ?_) (by rfl) (by kernel_rfl) (by kernel_rfl) (by exact fun _ _ _ h => h) (Or.inl ⟨by rfl, ?_⟩) (by assumption) ?_
        rotate_left
        · intro w hSw
          first | (go_simp; done) | (go_simp; with_reducible rfl)
        simp only [List.getElem_toArray, List.getElem_cons_succ, List.getElem_cons_zero, Act.put, List.setIfInBounds_toArray, List.set_cons_zero, List.set_cons_succ]
        refine wpHead_take (i := 6) (v := ?_) (by rfl) (by kernel_rfl) (by kernel_rfl) (by exact fun _ _ _ h => h) (Or.inl ⟨by rfl, ?_⟩) (by assumption) ?_
        rotate_left
        · intro w hSw
          first | (go_simp; done) | (go_simp; with_reducible rfl)
        simp only [List.getElem_toArray, List.getElem_cons_succ, List.getElem_cons_zero, Act.put, List.setIfInBounds_toArray, List.set_cons_zero, List.set_cons_succ]
        refine wpHead_take (i := 7) (v := ?_) (by rfl) (by kernel_rfl) (by kernel_rfl) (by exact fun _ _ _ h => h) (Or.inl ⟨by rfl, ?_⟩) (by assumption) ?_
        rotate_left
        · intro w hSw
          first | (go_simp; done) | (go_simp; with_reducible rfl)
        simp only [List.getElem_toArray, List.getElem_cons_succ, List.getElem_cons_zero, Act.put, List.setIfInBounds_toArray, List.set_cons_zero, List.set_cons_succ]
        refine wpHead_take (i := 8) (v := ?_) (by rfl) (by kernel_rfl) (by kernel_rfl) (by exact fun _ _ _ h => h) (Or.inl ⟨by rfl, ?_⟩) (by assumption) ?_
        rotate_left
        · intro w hSw
          first | (go_simp; done) | (go_simp; with_reducible rfl)
        simp only [List.getElem_toArray, List.getElem_cons_succ, List.getElem_cons_zero, Act.put, List.setIfInBounds_toArray, List.set_cons_zero, List.set_cons_succ]
        refine wpHead_take (i := 9) (v := ?_) (by rfl) (by kernel_rfl) (by kernel_rfl) (by exact fun _ _ _ h => h) (Or.inl ⟨by rfl, ?_⟩) (by assumption) ?_
        rotate_left
        · intro w hSw
          first | (go_simp; done) | (go_simp; with_reducible rfl)
        simp only [List.getElem_toArray, List.getElem_cons_succ, List.getElem_cons_zero, Act.put, List.setIfInBounds_toArray, List.set_cons_zero, List.set_cons_succ]
        refine wpHead_take (i := 10) (v := ?_) (by rfl) (by kernel_rfl) (by kernel_rfl) (by exact fun _ _ _ h => h) (Or.inl ⟨by rfl, ?_⟩) (by assumption) ?_
        rotate_left
        · intro w hSw
          first | (go_simp; done) | (go_simp; with_reducible rfl)
        simp only [List.getElem_toArray, List.getElem_cons_succ, List.getElem_cons_zero, Act.put, List.setIfInBounds_toArray, List.set_cons_zero, List.set_cons_succ]
        refine wpHead_done (by kernel_rfl) ?_
        go_wp2_with fail
        refine (HLV _ (hx.trans hHeld)).mono ?_
        rintro e w9 ⟨rfl, hx9⟩
        go_wp2
        go_ret
        exact ⟨rfl, (hx.trans hHeld).trans hx9⟩
      · have ht : (pg == X ++ Y) = false := by simpa using heq
        have hjn : j < n := by
          have h1 := HJ.out
          rcases Nat.lt_or_ge j n with h | h
          · exact h
          · exact absurd (HQ.out (by omega)) heq
        clear heq HQ
        refine wp_region_phase (S := fun w' => Ext w8 w') 11 (by kernel_rfl) (by kernel_rfl) ?_ (fun hHeld => ?_)
        · exact hxn
        simp only [List.drop_succ_cons, List.drop_zero]
        refine name_head ?_
        intro wr0 hw0
        rw [hw0] at hHeld
        refine wpHead_take (i := 0) (v := ?_) (by rfl) (by kernel_rfl) (by kernel_rfl) (by exact fun _ _ _ h => h) (Or.inl ⟨by rfl, ?_⟩) (by assumption) ?_
        rotate_left
        · intro w hSw
          first | (go_simp; done) | (go_simp; with_reducible rfl)
        simp only [List.getElem_toArray, List.getElem_cons_zero, Act.put, List.setIfInBounds_toArray, List.set_cons_zero, List.set_cons_succ]
        refine wpHead_take (i := 1) (v := ?_) (by rfl) (by kernel_rfl) (by kernel_rfl) (by exact fun _ _ _ h => h) (Or.inl ⟨by rfl, ?_⟩) (by assumption) ?_
        rotate_left
        · intro w hSw
          first | (go_simp; done) | (go_simp; with_reducible rfl)
        simp only [List.getElem_toArray, List.getElem_cons_succ, List.getElem_cons_zero, Act.put, List.setIfInBounds_toArray, List.set_cons_zero, List.set_cons_succ]
        refine wpHead_take (i := 2) (v := ?_) (by rfl) (by kernel_rfl) (by kernel_rfl) (by exact fun _ _ _ h => h) (Or.inl ⟨by rfl, ?_⟩) (by assumption) ?_
        rotate_left
        · intro w hSw
          first | (go_simp; done) | (go_simp; with_reducible rfl)
        simp only [List.getElem_toArray, List.getElem_cons_succ, List.getElem_cons_zero, Act.put, List.setIfInBounds_toArray, List.set_cons_zero, List.set_cons_succ]
        refine wpHead_take (i := 3) (v := ?_) (by rfl) (by kernel_rfl) (by kernel_rfl) (by exact fun _ _ _ h => h) (Or.inl ⟨by rfl, ?_⟩) (by assumption) ?_
        rotate_left
        · intro w hSw
          first | (go_simp; done) | (go_simp; with_reducible rfl)
        simp only [List.getElem_toArray, List.getElem_cons_succ, List.getElem_cons_zero, Act.put, List.setIfInBounds_toArray, List.set_cons_zero, List.set_cons_succ]
        refine wpHead_take (i := 4) (v := ?_) (by rfl) (by kernel_rfl) (by kernel_rfl) (by exact fun _ _ _ h => h) (Or.inl ⟨by rfl, ?_⟩) (by assumption) ?_
        rotate_left
        · intro w hSw
          first | (go_simp; done) | (go_simp; with_reducible rfl)
        simp only [List.getElem_toArray, List.getElem_cons_succ, List.getElem_cons_zero, Act.put, List.setIfInBounds_toArray, List.set_cons_zero, List.set_cons_succ]
        refine wpHead_take (i := 5) (v := ?_) (by rfl) (by kernel_rfl) (by kernel_rfl) (by exact fun _ _ _ h => h) (Or.inl ⟨by rfl, ?_⟩) (by assumption) ?_
        rotate_left
        · intro w hSw
          first | (go_simp; done) | (go_simp; with_reducible rfl)
        simp only [List.getElem_toArray, List.getElem_cons_succ, List.getElem_cons_zero, Act.put, List.setIfInBounds_toArray, List.set_cons_zero, List.set_cons_succ]
        refine wpHead_take (i := 6) (v := ?_) (by rfl) (by kernel_rfl) (by kernel_rfl) (by exact fun _ _ _ h => h) (Or.inl ⟨by rfl, ?_⟩) (by assumption) ?_
        rotate_left
        · intro w hSw
          first | (go_simp; done) | (go_simp; with_reducible rfl)
        simp only [List.getElem_toArray, List.getElem_cons_succ, List.getElem_cons_zero, Act.put, List.setIfInBounds_toArray, List.set_cons_zero, List.set_cons_succ]
        refine wpHead_take (i := 7) (v := ?_) (by rfl) (by kernel_rfl) (by kernel_rfl) (by exact fun _ _ _ h => h) (Or.inl ⟨by rfl, ?_⟩) (by assumption) ?_
        rotate_left
        · intro w hSw
          first | (go_simp; done) | (go_simp; with_reducible rfl)
        simp only [List.getElem_toArray, List.getElem_cons_succ, List.getElem_cons_zero, Act.put, List.setIfInBounds_toArray, List.set_cons_zero, List.set_cons_succ]
        refine wpHead_take (i := 8) (v := ?_) (by rfl) (by kernel_rfl) (by kernel_rfl) (by exact fun _ _ _ h => h) (Or.inl ⟨by rfl, ?_⟩) (by assumption) ?_
        rotate_left
        · intro w hSw
          first | (go_simp; done) | (go_simp; with_reducible rfl)
        simp only [List.getElem_toArray, List.getElem_cons_succ, List.getElem_cons_zero, Act.put, List.setIfInBounds_toArray, List.set_cons_zero, List.set_cons_succ]
        refine wpHead_take (i := 9) (v := ?_) (by rfl) (by kernel_rfl) (by kernel_rfl) (by exact fun _ _ _ h => h) (Or.inl ⟨by rfl, ?_⟩) (by assumption) ?_
        rotate_left
        · intro w hSw
          first | (go_simp; done) | (go_simp; with_reducible rfl)
        simp only [List.getElem_toArray, List.getElem_cons_succ, List.getElem_cons_zero, Act.put, List.setIfInBounds_toArray, List.set_cons_zero, List.set_cons_succ]
        refine wpHead_take (i := 10) (v := ?_) (by rfl) (by kernel_rfl) (by kernel_rfl) (by exact fun _ _ _ h => h) (Or.inl ⟨by rfl, ?_⟩) (by assumption) ?_
        rotate_left
        · intro w hSw
          first | (go_simp; done) | (go_simp; with_reducible rfl)
        simp only [List.getElem_toArray, List.getElem_cons_succ, List.getElem_cons_zero, Act.put, List.setIfInBounds_toArray, List.set_cons_zero, List.set_cons_succ]
        refine wpHead_done (by kernel_rfl) ?_
        go_wp2
        go_roundw
        case rel => exact ⟨j + 1, by go_num, by omega, hHeld⟩
        case measure => simp [intOf]; omega
end Go.Proofs.Ytcnikfmcefnmoaa
