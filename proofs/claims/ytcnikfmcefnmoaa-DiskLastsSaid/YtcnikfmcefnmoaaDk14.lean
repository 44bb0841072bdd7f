/- The walk of DiskLasts. It answers true. Conditions: the hypotheses of the theorem. -/
import Derived.Test.YtcnikfmcefnmoaaChecked
import Derived.Test.YtcnikfmcefnmoaaDe
import Derived.Test.YtcnikfmcefnmoaaDk13
import Derived.Deep.RegionHeld3
namespace Go.Proofs.Ytcnikfmcefnmoaa
open Go.RowKit
attribute [local go_sem] pt
theorem padL_take (l : List UInt8) : (padL l).take l.length = l := by simp [padL]
theorem padL_drop (l : List UInt8) : (padL l).drop l.length = List.replicate (64 - l.length) 0 := by
  unfold padL zpage
  rw [List.drop_append_of_le_length (Nat.le_refl _), List.drop_length, List.nil_append, List.drop_replicate]
theorem madeZ (n : Nat) : (madeCells #[Value.int .u8 0] n).toList = bv (List.replicate n 0) := by
  rw [toList_madeCells_one]
  simp [bv]
/-- what DiskLasts does once its page is no longer than a page -/
theorem Write_len {B : List Nat} {w : World} {p : Nat} {s : Dk} {n : Nat} (h : Disk B w p s) (hs : s.Ok) (hf : s.Few n) (hn : n ≤ 1000000) (i : Int) (A : Option Addr) (k c : Nat) (l : List UInt8) (hb : BsM B w A l) (hk : k = l.length) :
    Calls Try.prog 10 #[pt p, .int .i64 i, .slice A k c] w fun e w' => ∃ B', e = .returned (.int .i64 (writeE s i l)) ∧ Disk B' w' p (writeS s i l) ∧ Turn B w B' w' := by
  subst hk
  exact Write_any h hs hf hn i A c l hb
set_option maxRecDepth 20000 in
set_option maxHeartbeats 8000000 in
theorem Lasts_any (m : Nat) (hm : m < 256) (lb0 : List UInt8) (ds : List De) (Ab0 Ad KA : Option Addr) (cb cd kc : Nat) (C : Cr) (w : World) (hcb : lb0.length ≤ cb) (hb0 : Bs w Ab0 lb0) (hds : RsM RDe 6 [] w Ad ds) (hK : Sl w KA (bo C.keep)) (hkl : C.keep.length ≤ 9223372036854775807) :
    Calls Try.prog 4 #[.int .u8 m, .slice Ab0 lb0.length cb, .slice Ad ds.length cd, .agg #[.slice KA C.keep.length kc, .int .i64 C.torn, .int .i64 C.at_]] w (Yes w) := by
  have hx0 := (Ext.refl w).alloc (.cells #[.slice KA C.keep.length kc, .int .i64 C.torn, .int .i64 C.at_] 25)
  have hb1 := rows3 (heap_alloc_new w (.cells #[.slice KA C.keep.length kc, .int .i64 C.torn, .int .i64 C.at_] 25))
  have HBY := Lib.hid (hb0.ext hx0)
  have HDS := Lib.hid (RsM.kept hds (.of_ext hx0))
  have HK := Lib.hid (hK.ext hx0)
  have HX0 := Lib.hid hx0
  have HB0 := Lib.hid hb1
  clear hb0 hds hK hx0 hb1
  unfold Yes
  go_enter Try.func4, Try.ntmps4
  go_wp2_with fail
  generalize hw0 : w.alloc (.cells #[.slice KA C.keep.length kc, .int .i64 C.torn, .int .i64 C.at_] 25) = w0 at *
  clear hw0
  refine (New_ok 8 _ (by omega) (by omega)).mono ?_
  rintro e w1 ⟨p, B1, rfl, hx1, hd1, hB1⟩
  have hmod : ((m % 8 : Nat) : Int) = (m : Int) % 8 := by omega
  -- the page, cut
  obtain ⟨lb, Ab, n1, cb1, hn1, hl64, hbb, hrun, hshort⟩ : ∃ (lb : List UInt8) (Ab : Option Addr) (n1 cb1 : Nat), n1 = lb.length ∧ lb.length ≤ 64 ∧ Bs w0 Ab lb ∧
      ((64 : Int) < (lb0.length : Int) → ∀ W, (Instr.slice 22 (.slice Ab0 lb0.length cb) none (some (.int .i64 64)) none).run Try.prog W = .ok (.slice Ab n1 cb1) W) ∧
      (¬ (64 : Int) < (lb0.length : Int) → Ab = Ab0 ∧ n1 = lb0.length ∧ cb1 = cb) := by
    by_cases hlong : 64 < lb0.length
    · obtain ⟨A', hs1, hs2⟩ := cutB_h (P := Try.prog) Try.underlying22 Try.sizeOf5 Ab0 lb0.length cb lb0 64 (hi := 64) rfl rfl hcb (by omega)
      exact ⟨lb0.take 64, A', 64, cb, by simp; omega, by simp; omega, hs2 _ HBY.out, fun _ => hs1, fun h => absurd (by omega) h⟩
    · exact ⟨lb0, Ab0, lb0.length, cb, rfl, by omega, HBY.out, fun h => absurd h (by omega), fun _ => ⟨rfl, rfl, rfl⟩⟩
  obtain ⟨e1, e2, hkeep⟩ := last_start (m % 8) (by omega) lb hl64
  have ok1 := writeS_ok (newD_ok (n := 8) (by omega) (by omega)) ((m % 8 : Nat) : Int) lb
  have few1 := writeS_few (newD_few 8) ((m % 8 : Nat) : Int) lb
  have HW1 := Write_len hd1 (newD_ok (by omega) (by omega)) (newD_few 8) (by omega) ((m % 8 : Nat) : Int) Ab n1 cb1 lb (old_sl hbb hx1 hB1) hn1
  rw [e1] at HW1
  generalize hs1 : writeS (newD 8) ((m % 8 : Nat) : Int) lb = s1 at *
  rw [hmod] at HW1
  clear hs1 e1 hd1
  have HBB := Lib.hid hbb
  have HN1 := Lib.hid hn1
  have HL64 := Lib.hid hl64
  clear hbb hn1 hl64
  by_cases hlong : (64 : Int) < (lb0.length : Int)
  · have hrun := hrun hlong
    clear hshort
    go_wp2_with fail
    refine HW1.mono ?_
    rintro e w2 ⟨B2, rfl, hd2, ht2⟩
    obtain ⟨hx2, hB2⟩ := ht2.to_ext hx1 hB1
    have HF := Flush_any hd2 ok1 few1 (by omega)
    have ok2 := flushS_ok ok1
    have few2 := flushS_few few1
    rw [e2] at HF
    clear ht2 HW1 hd2 ok1 few1 hx1 hB1 e2
    generalize flushS s1 = s2 at *
    go_wp2_with fail
    refine HF.mono ?_
    rintro e w3 ⟨rfl, hd3, ht3⟩
    obtain ⟨hx3, hB3⟩ := ht3.to_ext hx2 hB2
    clear ht3 HF hx2 hB2
    have hati : m % 8 < 8 := by omega
    generalize m % 8 = i at *
    rw [← hmod]
    clear hmod
    have HPL := Lib.hid (padL_len HL64.out)
    have HQ1 : Hid ((padL lb).take lb.length = lb) := Lib.hid (padL_take lb)
    have HQ2 : Hid ((padL lb).drop lb.length = List.replicate (64 - lb.length) 0) := Lib.hid (padL_drop lb)
    generalize padL lb = pb at *
    go_wp2
    go_loopw [12] (fun k wr => ∃ (j : Nat) (s : Dk) (B : List Nat), k = .int .i64 j ∧ j ≤ ds.length ∧ j ≤ 60 ∧ Disk B wr p s ∧ s.Ok ∧ s.Few (j + 2) ∧ Keeps s i pb ∧ Ext w0 wr ∧ ∀ k ∈ B, w0.heap.size ≤ k) (fun k _ => ds.length - (intOf k).toNat)
    case atStart => exact ⟨0, s2, B2, rfl, by omega, by omega, hd3, ok2, few2, hkeep, hx3, hB3⟩
    case round =>
      obtain ⟨j, s, B, rfl, hj, hj60, hd, hok, hfew, hkp, hx, hB⟩ := hrel
      clear hd3 ok2 few2 hkeep hx3 hB3
      by_cases hlt : j < ds.length ∧ j < 60
      · obtain ⟨hlt, hlt60⟩ := hlt
        have hjn : (j : Int) < (ds.length : Int) := by omega
        have hjn60 : (j : Int) < 60 := by omega
        obtain ⟨ad, A1, c1, A2, c2, rfl, hby, hkp2, hkl2, hbl, hil, d0, d1, d2, d3, d4, d5⟩ := HDS.out.deed hlt
        have d0 := d0 wr hx
        have D1 := d1
        have d1 := d1 wr hx
        have D2 := d2
        have d2 := d2 wr hx
        have d3 := d3 wr hx
        have d4 := d4 wr hx
        have d5 := d5 wr hx
        generalize ds[j] = dd at *
        obtain ⟨do_, di, dby, dcr⟩ := dd
        obtain ⟨dkeep, dtorn, dat⟩ := dcr
        simp only at hby hkp2 hkl2 hbl hil d0 d1 d2 d3 d4 d5 D1 D2
        by_cases h0 : do_ = 0
        · subst h0
          by_cases hi : di = (i : Int)
          · have hi' : (di != (i : Int)) = false := by rw [hi]; simp
            clear hi D1 D2
            go_wp2
            go_roundw
            case rel => exact ⟨j + 1, s, B, by go_num, by omega, by omega, hd, hok, hfew.mono (by omega), hkp, hx, hB⟩
            case measure => simp [intOf]; omega
          · have hi' : (di != (i : Int)) = true := by simpa using hi
            have HWR := fun W (hx2 : Ext wr W) => Write_any (hd.ext hx2) hok hfew (by omega) di A1 c1 dby (old_sl hby (hx.trans hx2) hB)
            have hok' := writeS_ok hok di dby
            have hfew' := writeS_few hfew di dby
            have hkp' := hkp.write di hi dby
            have D1 : ∀ w', Ext wr w' → w'.cell? ⟨(ad.add (j * 6)).block, (ad.add (j * 6)).off + 1, none⟩ = some (.int .i64 di) := fun w' h => D1 w' (hx.trans h)
            have D2 : ∀ w', Ext wr w' → w'.cell? ⟨(ad.add (j * 6)).block, (ad.add (j * 6)).off + 2, none⟩ = some (.slice A1 dby.length c1) := fun w' h => D2 w' (hx.trans h)
            clear hi d3 d4 d5
            go_wp2_with fail
            have hxn : Ext wr wr.drew := (Ext.refl wr).drew
            refine wp_region_phase (S := fun w' => Ext wr w') 11 (by kernel_rfl) (by kernel_rfl) ?_ (fun hHeld => ?_)
            · exact hxn
            simp only [List.drop_succ_cons, List.drop_zero]
            refine name_head ?_
            intro wr0 hw0
            rw [hw0] at hHeld
            refine wpHead_take (i := 0) (v := ?_) (by rfl) (by kernel_rfl) (by kernel_rfl) (by exact fun _ _ _ h => h) (Or.inl ⟨by rfl, ?_⟩) (by assumption) ?_
            rotate_left
            · intro w hSw
              first | (go_simp; done) | (go_simp; with_reducible rfl)
            simp only [List.getElem_toArray, List.getElem_cons_zero, Act.put, List.setIfInBounds_toArray, List.set_cons_zero, List.set_cons_succ]
            refine wpHead_take (i := 1) (v := ?_) (by rfl) (by kernel_rfl) (by kernel_rfl) (by exact fun _ _ _ h => h) (Or.inl ⟨by rfl, ?_⟩) (by assumption) ?_
            rotate_left
            · intro w hSw
              first | (go_simp; done) | (go_simp; with_reducible rfl)
            simp only [List.getElem_toArray, List.getElem_cons_succ, List.getElem_cons_zero, Act.put, List.setIfInBounds_toArray, List.set_cons_zero, List.set_cons_succ]
            refine wpHead_take (i := 2) (v := ?_) (by rfl) (by kernel_rfl) (by kernel_rfl) (by exact fun _ _ _ h => h) (Or.inl ⟨by rfl, ?_⟩) (by assumption) ?_
            rotate_left
            · intro w hSw
              first | (go_simp; done) | (go_simp; with_reducible rfl)
            simp only [List.getElem_toArray, List.getElem_cons_succ, List.getElem_cons_zero, Act.put, List.setIfInBounds_toArray, List.set_cons_zero, List.set_cons_succ]
            refine wpHead_take (i := 3) (v := ?_) (by rfl) (by kernel_rfl) (by kernel_rfl) (by exact fun _ _ _ h => h) (Or.inl ⟨by rfl, ?_⟩) (by assumption) ?_
            rotate_left
            · intro w hSw
              first | (go_simp; done) | (go_simp; with_reducible rfl)
            simp only [List.getElem_toArray, List.getElem_cons_succ, List.getElem_cons_zero, Act.put, List.setIfInBounds_toArray, List.set_cons_zero, List.set_cons_succ]
            refine wpHead_take (i := 4) (v := ?_) (by rfl) (by kernel_rfl) (by kernel_rfl) (by exact fun _ _ _ h => h) (Or.inl ⟨by rfl, ?_⟩) (by assumption) ?_
            rotate_left
            · intro w hSw
              first | (go_simp; done) | (go_simp; with_reducible rfl)
            simp only [List.getElem_toArray, List.getElem_cons_succ, List.getElem_cons_zero, Act.put, List.setIfInBounds_toArray, List.set_cons_zero, List.set_cons_succ]
            refine wpHead_take (i := 5) (v := ?_) (by rfl) (by kernel_rfl) (by kernel_rfl) (by exact fun _ _ _ h => h) (Or.inl ⟨by rfl, ?_⟩) (by assumption) ?_
            rotate_left
            · intro w hSw
              first | (go_simp; done) | (go_simp; with_reducible rfl)
            simp only [List.getElem_toArray, List.getElem_cons_succ, List.getElem_cons_zero, Act.put, List.setIfInBounds_toArray, List.set_cons_zero, List.set_cons_succ]
            refine wpHead_take (i := 6) (v := ?_) (by rfl) (by kernel_rfl) (by kernel_rfl) (by exact fun _ _ _ h => h) (Or.inl ⟨by rfl, ?_⟩) (by assumption) ?_
            rotate_left
            · intro w hSw
              first | (go_simp; done) | (go_simp; with_reducible rfl)
            simp only [List.getElem_toArray, List.getElem_cons_succ, List.getElem_cons_zero, Act.put, List.setIfInBounds_toArray, List.set_cons_zero, List.set_cons_succ]
            refine wpHead_take (i := 7) (v := ?_) (by rfl) (by kernel_rfl) (by kernel_rfl) (by exact fun _ _ _ h => h) (Or.inl ⟨by rfl, ?_⟩) (by assumption) ?_
            rotate_left
            · intro w hSw
              first | (go_simp; done) | (go_simp; with_reducible rfl)
            simp only [List.getElem_toArray, List.getElem_cons_succ, List.getElem_cons_zero, Act.put, List.setIfInBounds_toArray, List.set_cons_zero, List.set_cons_succ]
            refine wpHead_take (i := 8) (v := ?_) (by rfl) (by kernel_rfl) (by kernel_rfl) (by exact fun _ _ _ h => h) (Or.inl ⟨by rfl, ?_⟩) (by assumption) ?_
            rotate_left
            · intro w hSw
              first | (go_simp; done) | (go_simp; with_reducible rfl)
            simp only [List.getElem_toArray, List.getElem_cons_succ, List.getElem_cons_zero, Act.put, List.setIfInBounds_toArray, List.set_cons_zero, List.set_cons_succ]
            refine wpHead_take (i := 9) (v := ?_) (by rfl) (by kernel_rfl) (by kernel_rfl) (by exact fun _ _ _ h => h) (Or.inl ⟨by rfl, ?_⟩) (by assumption) ?_
            rotate_left
            · intro w hSw
              first | (go_simp; done) | (go_simp; with_reducible rfl)
            simp only [List.getElem_toArray, List.getElem_cons_succ, List.getElem_cons_zero, Act.put, List.setIfInBounds_toArray, List.set_cons_zero, List.set_cons_succ]
            refine wpHead_take (i := 10) (v := ?_) (by rfl) (by kernel_rfl) (by kernel_rfl) (by exact fun _ _ _ h => h) (Or.inl ⟨by rfl, ?_⟩) (by assumption) ?_
            rotate_left
            · intro w hSw
              first | (go_simp; done) | (go_simp; with_reducible rfl)
            simp only [List.getElem_toArray, List.getElem_cons_succ, List.getElem_cons_zero, Act.put, List.setIfInBounds_toArray, List.set_cons_zero, List.set_cons_succ]
            refine wpHead_done (by kernel_rfl) ?_
            go_wp2_with fail
            refine (HWR _ hHeld).mono ?_
            rintro e w4 ⟨B4, rfl, hd4, ht4⟩
            obtain ⟨hx4, hB4⟩ := ht4.to_ext (hx.trans hHeld) hB
            clear HWR ht4
            go_wp2
            go_roundw
            case rel => exact ⟨j + 1, writeS s di dby, B4, by go_num, by omega, by omega, hd4, hok', hfew'.mono (by omega), hkp', hx4, hB4⟩
            case measure => simp [intOf]; omega
        · have h0' : (do_ == 0) = false := by simpa using h0
          by_cases h1 : do_ = 1
          · subst h1
            clear h0 h0' D1 D2 d1 d2 d3 d4 d5
            go_wp2_with fail
            refine (Flush_any hd hok hfew (by omega)).mono ?_
            rintro e w4 ⟨rfl, hd4, ht4⟩
            obtain ⟨hx4, hB4⟩ := ht4.to_ext hx hB
            have hok' := flushS_ok hok
            have hfew' := flushS_few hfew
            have hkp' := hkp.flush
            clear ht4
            go_wp2
            go_roundw
            case rel => exact ⟨j + 1, flushS s, B, by go_num, by omega, by omega, hd4, hok', hfew'.mono (by omega), hkp', hx4, hB4⟩
            case measure => simp [intOf]; omega
          · have h1' : (do_ == 1) = false := by simpa using h1
            by_cases h3 : do_ = 3
            · subst h3
              clear h0 h0' h1 h1' D1 D2 d2 d3 d4 d5
              go_wp2_with fail
              refine (Cut_all hd hok di).mono ?_
              rintro e w4 ⟨rfl, hd4, ht4⟩
              obtain ⟨hx4, hB4⟩ := ht4.to_ext hx hB
              have hok' := cutS_ok hok di
              have hfew' := cutS_few hfew hil
              have hkp' := hkp.cut di
              clear ht4
              go_wp2
              go_roundw
              case rel => exact ⟨j + 1, cutS s di, B, by go_num, by omega, by omega, hd4, hok', hfew'.mono (by omega), hkp', hx4, hB4⟩
              case measure => simp [intOf]; omega
            · have h3' : (do_ == 3) = false := by simpa using h3
              by_cases h4 : 3 < do_
              · have hok' := crashed_ok hok ⟨dkeep, dtorn, dat⟩
                have hfew' := crashed_few hfew ⟨dkeep, dtorn, dat⟩
                have hkp' := hkp.crash ⟨dkeep, dtorn, dat⟩
                have HCR := Crash_all hd hok hfew (by omega) ⟨dkeep, dtorn, dat⟩ A2 c2 (old_sl hkp2 hx hB) (Nat.le_trans hkl2 (by omega))
                clear D1 D2 d1 d2 h0 h1 h3
                go_wp2_with fail
                refine HCR.mono ?_
                rintro e w4 ⟨rfl, hd4, ht4⟩
                obtain ⟨hx4, hB4⟩ := ht4.to_ext hx hB
                clear ht4 HCR
                go_wp2
                go_roundw
                case rel => exact ⟨j + 1, crashed s ⟨dkeep, dtorn, dat⟩, B, by go_num, by omega, by omega, hd4, hok', hfew'.mono (by omega), hkp', hx4, hB4⟩
                case measure => simp [intOf]; omega
              · clear D1 D2 d1 d2 d3 d4 d5 h0 h1 h3
                go_wp2
                go_roundw
                case rel => exact ⟨j + 1, s, B, by go_num, by omega, by omega, hd, hok, hfew.mono (by omega), hkp, hx, hB⟩
                case measure => simp [intOf]; omega
      · obtain ⟨f0, f1, f2, ff⟩ := HB0.out
        have f0 := f0 wr hx
        have f1 := f1 wr hx
        have f2 := f2 wr hx
        have HCR := Crash_all hd hok hfew (by omega) C KA kc (old_sl HK.out hx hB) hkl
        have hok' := crashed_ok hok C
        have hfew' := crashed_few hfew C
        obtain ⟨r1, r2⟩ := hkp.read C
        clear ff
        have hpre : ¬ (j : Int) < (ds.length : Int) ∨ ((j : Int) < (ds.length : Int) ∧ ¬ (j : Int) < 60) := by omega
        rcases hpre with hjn | ⟨hjn, hjn60⟩
        all_goals
          go_wp2_with fail
          refine HCR.mono ?_
          rintro e w4 ⟨rfl, hd4, ht4⟩
          obtain ⟨hx4, hB4⟩ := ht4.to_ext hx hB
          clear ht4 HCR
          go_wp2_with fail
          refine (Read_any hd4 hok' hfew' (by omega) (i : Int)).mono ?_
          rintro e w5 ⟨Ag, cg, rfl, hfg, hx5, hcg, hcg2⟩
          rw [r2] at hfg hcg
          rw [r1, r2, HPL.out]
          rw [HPL.out] at hcg
          obtain rfl : cg = 64 := by omega
          have hbg := (hfg.bsM hd4.lt).bs
          have hxx : Ext w0 w5 := hx4.trans hx5
          clear hfg hcg hcg2 hd4 hd hok hok' hfew hfew' hkp r1 r2 hx4 hx hB hB4
          have hn64 : n1 ≤ 64 := by rw [HN1.out]; exact HL64.out
          obtain ⟨A', hs1, hs2⟩ := cutB_h (P := Try.prog) Try.underlying22 Try.sizeOf5 Ag 64 64 pb n1 (hi := ((n1 : Nat) : Int)) rfl HPL.out (by omega) hn64
          obtain ⟨A'', hs3, hs4⟩ := cutB_l (P := Try.prog) Try.underlying22 Try.sizeOf5 Ag 64 64 pb n1 (li := ((n1 : Nat) : Int)) rfl HPL.out (by omega) hn64
          have b1 := hs2 w5 hbg
          have b2 := hs4 w5 hbg
          rw [show pb.take n1 = lb by have := HQ1.out; rwa [← HN1.out] at this] at b1
          rw [show pb.drop n1 = List.replicate (64 - n1) 0 by have := HQ2.out; rwa [← HN1.out] at this] at b2
          have hcq1 := run_str (P := Try.prog) Try.underlying22 Try.underlying5 Try.underlying9 b1 n1 64 HN1.out
          have hcq2 := run_str (P := Try.prog) Try.underlying22 Try.underlying5 Try.underlying9 b2 (64 - n1) (64 - n1) (by simp)
          have hcq3 := run_str (P := Try.prog) Try.underlying22 Try.underlying5 Try.underlying9 (HBB.out.ext hxx) n1 cb1 HN1.out
          obtain ⟨iu, hiu, hzu, hsu, hbu⟩ := info_parts (P := Try.prog) (e := 5) (z := .int .u8 0) (size := 1) (bytes := 1) (by kernel_rfl)
          have hmk : ∀ W, (Instr.makeSlice 22 (.int .i64 (64 - ((n1 : Nat) : Int))) (.int .i64 (64 - ((n1 : Nat) : Int)))).run Try.prog W = .ok (.slice (some ⟨W.heap.size, 0, none⟩) (64 - n1) (64 - n1)) (W.alloc (.cells (madeCells #[.int .u8 0] (64 - n1)) 5)) := by
            intro W
            have h := run_make (P := Try.prog) W 22 5 iu (.int .u8 0) Try.underlying22 hiu hzu .i64 .i64 (64 - ((n1 : Nat) : Int)) (64 - ((n1 : Nat) : Int)) (by omega) (by omega) (by rw [hbu]; omega) (by omega)
            rw [hsu, show (64 - ((n1 : Nat) : Int)).toNat = 64 - n1 by omega, Nat.mul_one] at h
            exact h
          have hmc : ∀ W V : World, V = W.alloc (.cells (madeCells #[.int .u8 0] (64 - n1)) 5) → Bs V (some ⟨W.heap.size, 0, none⟩) (List.replicate (64 - n1) 0) := by
            rintro W V rfl
            refine Bs.new W _ _ ?_ 5 (0, 0)
            rw [← madeZ]
          have hcm : ∀ W : World, (convert 22 9 (.slice (some ⟨W.heap.size, 0, none⟩) (64 - n1) (64 - n1))).run Try.prog (W.alloc (.cells (madeCells #[.int .u8 0] (64 - n1)) 5)) = .ok (.string (st (List.replicate (64 - n1) 0))) (W.alloc (.cells (madeCells #[.int .u8 0] (64 - n1)) 5)) := by
            intro W
            exact run_str (P := Try.prog) Try.underlying22 Try.underlying5 Try.underlying9 (hmc W _ rfl) (64 - n1) (64 - n1) (by simp) _ (Ext.refl _)
          have HXX := Lib.hid (HX0.out.trans hxx)
          have HHN := Lib.hid hn64
          have hn64' : ((n1 : Nat) : Int) ≤ 64 := by omega
          have hwr : IntKind.i64.wrap (64 - ((n1 : Nat) : Int)) = 64 - ((n1 : Nat) : Int) := IntWalk.i64_in _ (by omega)
          clear hs2 hs4 b1 b2 hbg hiu hzu hsu hbu hmc hn64
          generalize List.replicate (64 - n1) (0 : UInt8) = zz at *
          go_wp2_with fail
          go_region_held (fun w' => Ext w5 w') (first | assumption | exact (Ext.refl _).drew | exact Ext.alloc (by assumption) _ | exact Ext.drew (by assumption) | exact Ext.trans (by assumption) (by assumption)) ((first
            | (go_at_call 9; refine (live_any _).mono ?_; rintro e w6 ⟨rfl, hx6⟩)))
          all_goals
            go_wp2
            go_ret
            exact ⟨rfl, HXX.out.drew.trans (hx6.alloc _)⟩
  · obtain ⟨h1, h2, h3⟩ := hshort hlong
    subst h1
    subst h2
    subst h3
    clear hrun
    go_wp2_with fail
    refine HW1.mono ?_
    rintro e w2 ⟨B2, rfl, hd2, ht2⟩
    obtain ⟨hx2, hB2⟩ := ht2.to_ext hx1 hB1
    have HF := Flush_any hd2 ok1 few1 (by omega)
    have ok2 := flushS_ok ok1
    have few2 := flushS_few few1
    rw [e2] at HF
    clear ht2 HW1 hd2 ok1 few1 hx1 hB1 e2
    generalize flushS s1 = s2 at *
    go_wp2_with fail
    refine HF.mono ?_
    rintro e w3 ⟨rfl, hd3, ht3⟩
    obtain ⟨hx3, hB3⟩ := ht3.to_ext hx2 hB2
    clear ht3 HF hx2 hB2
    have hati : m % 8 < 8 := by omega
    generalize m % 8 = i at *
    rw [← hmod]
    clear hmod
    have HPL := Lib.hid (padL_len HL64.out)
    have HQ1 : Hid ((padL lb).take lb.length = lb) := Lib.hid (padL_take lb)
    have HQ2 : Hid ((padL lb).drop lb.length = List.replicate (64 - lb.length) 0) := Lib.hid (padL_drop lb)
    generalize padL lb = pb at *
    go_wp2
    go_loopw [12] (fun k wr => ∃ (j : Nat) (s : Dk) (B : List Nat), k = .int .i64 j ∧ j ≤ ds.length ∧ j ≤ 60 ∧ Disk B wr p s ∧ s.Ok ∧ s.Few (j + 2) ∧ Keeps s i pb ∧ Ext w0 wr ∧ ∀ k ∈ B, w0.heap.size ≤ k) (fun k _ => ds.length - (intOf k).toNat)
    case atStart => exact ⟨0, s2, B2, rfl, by omega, by omega, hd3, ok2, few2, hkeep, hx3, hB3⟩
    case round =>
      obtain ⟨j, s, B, rfl, hj, hj60, hd, hok, hfew, hkp, hx, hB⟩ := hrel
      clear hd3 ok2 few2 hkeep hx3 hB3
      by_cases hlt : j < ds.length ∧ j < 60
      · obtain ⟨hlt, hlt60⟩ := hlt
        have hjn : (j : Int) < (ds.length : Int) := by omega
        have hjn60 : (j : Int) < 60 := by omega
        obtain ⟨ad, A1, c1, A2, c2, rfl, hby, hkp2, hkl2, hbl, hil, d0, d1, d2, d3, d4, d5⟩ := HDS.out.deed hlt
        have d0 := d0 wr hx
        have D1 := d1
        have d1 := d1 wr hx
        have D2 := d2
        have d2 := d2 wr hx
        have d3 := d3 wr hx
        have d4 := d4 wr hx
        have d5 := d5 wr hx
        generalize ds[j] = dd at *
        obtain ⟨do_, di, dby, dcr⟩ := dd
        obtain ⟨dkeep, dtorn, dat⟩ := dcr
        simp only at hby hkp2 hkl2 hbl hil d0 d1 d2 d3 d4 d5 D1 D2
        by_cases h0 : do_ = 0
        · subst h0
          by_cases hi : di = (i : Int)
          · have hi' : (di != (i : Int)) = false := by rw [hi]; simp
            clear hi D1 D2
            go_wp2
            go_roundw
            case rel => exact ⟨j + 1, s, B, by go_num, by omega, by omega, hd, hok, hfew.mono (by omega), hkp, hx, hB⟩
            case measure => simp [intOf]; omega
          · have hi' : (di != (i : Int)) = true := by simpa using hi
            have HWR := fun W (hx2 : Ext wr W) => Write_any (hd.ext hx2) hok hfew (by omega) di A1 c1 dby (old_sl hby (hx.trans hx2) hB)
            have hok' := writeS_ok hok di dby
            have hfew' := writeS_few hfew di dby
            have hkp' := hkp.write di hi dby
            have D1 : ∀ w', Ext wr w' → w'.cell? ⟨(ad.add (j * 6)).block, (ad.add (j * 6)).off + 1, none⟩ = some (.int .i64 di) := fun w' h => D1 w' (hx.trans h)
            have D2 : ∀ w', Ext wr w' → w'.cell? ⟨(ad.add (j * 6)).block, (ad.add (j * 6)).off + 2, none⟩ = some (.slice A1 dby.length c1) := fun w' h => D2 w' (hx.trans h)
            clear hi d3 d4 d5
            go_wp2_with fail
            have hxn : Ext wr wr.drew := (Ext.refl wr).drew
            refine wp_region_phase (S := fun w' => Ext wr w') 11 (by kernel_rfl) (by kernel_rfl) ?_ (fun hHeld => ?_)
            · exact hxn
            simp only [List.drop_succ_cons, List.drop_zero]
            refine name_head ?_
            intro wr0 hw0
            rw [hw0] at hHeld
            refine wpHead_take (i := 0) (v := ?_) (by rfl) (by kernel_rfl) (by kernel_rfl) (by exact fun _ _ _ h => h) (Or.inl ⟨by rfl, ?_⟩) (by assumption) ?_
            rotate_left
            · intro w hSw
              first | (go_simp; done) | (go_simp; with_reducible rfl)
            simp only [List.getElem_toArray, List.getElem_cons_zero, Act.put, List.setIfInBounds_toArray, List.set_cons_zero, List.set_cons_succ]
            refine wpHead_take (i := 1) (v := ?_) (by rfl) (by kernel_rfl) (by kernel_rfl) (by exact fun _ _ _ h => h) (Or.inl ⟨by rfl, ?_⟩) (by assumption) ?_
            rotate_left
            · intro w hSw
              first | (go_simp; done) | (go_simp; with_reducible rfl)
            simp only [List.getElem_toArray, List.getElem_cons_succ, List.getElem_cons_zero, Act.put, List.setIfInBounds_toArray, List.set_cons_zero, List.set_cons_succ]
            refine wpHead_take (i := 2) (v := ?_) (by rfl) (by kernel_rfl) (by kernel_rfl) (by exact fun _ _ _ h => h) (Or.inl ⟨by rfl, ?_⟩) (by assumption) ?_
            rotate_left
            · intro w hSw
              first | (go_simp; done) | (go_simp; with_reducible rfl)
            simp only [List.getElem_toArray, List.getElem_cons_succ, List.getElem_cons_zero, Act.put, List.setIfInBounds_toArray, List.set_cons_zero, List.set_cons_succ]
            refine wpHead_take (i := 3) (v := ?_) (by rfl) (by kernel_rfl) (by kernel_rfl) (by exact fun _ _ _ h => h) (Or.inl ⟨by rfl, ?_⟩) (by assumption) ?_
            rotate_left
            · intro w hSw
              first | (go_simp; done) | (go_simp; with_reducible rfl)
            simp only [List.getElem_toArray, List.getElem_cons_succ, List.getElem_cons_zero, Act.put, List.setIfInBounds_toArray, List.set_cons_zero, List.set_cons_succ]
            refine wpHead_take (i := 4) (v := ?_) (by rfl) (by kernel_rfl) (by kernel_rfl) (by exact fun _ _ _ h => h) (Or.inl ⟨by rfl, ?_⟩) (by assumption) ?_
            rotate_left
            · intro w hSw
              first | (go_simp; done) | (go_simp; with_reducible rfl)
            simp only [List.getElem_toArray, List.getElem_cons_succ, List.getElem_cons_zero, Act.put, List.setIfInBounds_toArray, List.set_cons_zero, List.set_cons_succ]
            refine wpHead_take (i := 5) (v := ?_) (by rfl) (by kernel_rfl) (by kernel_rfl) (by exact fun _ _ _ h => h) (Or.inl ⟨by rfl, ?_⟩) (by assumption) ?_
            rotate_left
            · intro w hSw
              first | (go_simp; done) | (go_simp; with_reducible rfl)
            simp only [List.getElem_toArray, List.getElem_cons_succ, List.getElem_cons_zero, Act.put, List.setIfInBounds_toArray, List.set_cons_zero, List.set_cons_succ]
            refine wpHead_take (i := 6) (v := ?_) (by rfl) (by kernel_rfl) (by kernel_rfl) (by exact fun _ _ _ h => h) (Or.inl ⟨by rfl, ?_⟩) (by assumption) ?_
            rotate_left
            · intro w hSw
              first | (go_simp; done) | (go_simp; with_reducible rfl)
            simp only [List.getElem_toArray, List.getElem_cons_succ, List.getElem_cons_zero, Act.put, List.setIfInBounds_toArray, List.set_cons_zero, List.set_cons_succ]
            refine wpHead_take (i := 7) (v := ?_) (by rfl) (by kernel_rfl) (by kernel_rfl) (by exact fun _ _ _ h => h) (Or.inl ⟨by rfl, ?_⟩) (by assumption) ?_
            rotate_left
            · intro w hSw
              first | (go_simp; done) | (go_simp; with_reducible rfl)
            simp only [List.getElem_toArray, List.getElem_cons_succ, List.getElem_cons_zero, Act.put, List.setIfInBounds_toArray, List.set_cons_zero, List.set_cons_succ]
            refine wpHead_take (i := 8) (v := ?_) (by rfl) (by kernel_rfl) (by kernel_rfl) (by exact fun _ _ _ h => h) (Or.inl ⟨by rfl, ?_⟩) (by assumption) ?_
            rotate_left
            · intro w hSw
              first | (go_simp; done) | (go_simp; with_reducible rfl)
            simp only [List.getElem_toArray, List.getElem_cons_succ, List.getElem_cons_zero, Act.put, List.setIfInBounds_toArray, List.set_cons_zero, List.set_cons_succ]
            refine wpHead_take (i := 9) (v := ?_) (by rfl) (by kernel_rfl) (by kernel_rfl) (by exact fun _ _ _ h => h) (Or.inl ⟨by rfl, ?_⟩) (by assumption) ?_
            rotate_left
            · intro w hSw
              first | (go_simp; done) | (go_simp; with_reducible rfl)
            simp only [List.getElem_toArray, List.getElem_cons_succ, List.getElem_cons_zero, Act.put, List.setIfInBounds_toArray, List.set_cons_zero, List.set_cons_succ]
            refine wpHead_take (i := 10) (v := ?_) (by rfl) (by kernel_rfl) (by kernel_rfl) (by exact fun _ _ _ h => h) (Or.inl ⟨by rfl, ?_⟩) (by assumption) ?_
            rotate_left
            · intro w hSw
              first | (go_simp; done) | (go_simp; with_reducible rfl)
            simp only [List.getElem_toArray, List.getElem_cons_succ, List.getElem_cons_zero, Act.put, List.setIfInBounds_toArray, List.set_cons_zero, List.set_cons_succ]
            refine wpHead_done (by kernel_rfl) ?_
            go_wp2_with fail
            refine (HWR _ hHeld).mono ?_
            rintro e w4 ⟨B4, rfl, hd4, ht4⟩
            obtain ⟨hx4, hB4⟩ := ht4.to_ext (hx.trans hHeld) hB
            clear HWR ht4
            go_wp2
            go_roundw
            case rel => exact ⟨j + 1, writeS s di dby, B4, by go_num, by omega, by omega, hd4, hok', hfew'.mono (by omega), hkp', hx4, hB4⟩
            case measure => simp [intOf]; omega
        · have h0' : (do_ == 0) = false := by simpa using h0
          by_cases h1 : do_ = 1
          · subst h1
            clear h0 h0' D1 D2 d1 d2 d3 d4 d5
            go_wp2_with fail
            refine (Flush_any hd hok hfew (by omega)).mono ?_
            rintro e w4 ⟨rfl, hd4, ht4⟩
            obtain ⟨hx4, hB4⟩ := ht4.to_ext hx hB
            have hok' := flushS_ok hok
            have hfew' := flushS_few hfew
            have hkp' := hkp.flush
            clear ht4
            go_wp2
            go_roundw
            case rel => exact ⟨j + 1, flushS s, B, by go_num, by omega, by omega, hd4, hok', hfew'.mono (by omega), hkp', hx4, hB4⟩
            case measure => simp [intOf]; omega
          · have h1' : (do_ == 1) = false := by simpa using h1
            by_cases h3 : do_ = 3
            · subst h3
              clear h0 h0' h1 h1' D1 D2 d2 d3 d4 d5
              go_wp2_with fail
              refine (Cut_all hd hok di).mono ?_
              rintro e w4 ⟨rfl, hd4, ht4⟩
              obtain ⟨hx4, hB4⟩ := ht4.to_ext hx hB
              have hok' := cutS_ok hok di
              have hfew' := cutS_few hfew hil
              have hkp' := hkp.cut di
              clear ht4
              go_wp2
              go_roundw
              case rel => exact ⟨j + 1, cutS s di, B, by go_num, by omega, by omega, hd4, hok', hfew'.mono (by omega), hkp', hx4, hB4⟩
              case measure => simp [intOf]; omega
            · have h3' : (do_ == 3) = false := by simpa using h3
              by_cases h4 : 3 < do_
              · have hok' := crashed_ok hok ⟨dkeep, dtorn, dat⟩
                have hfew' := crashed_few hfew ⟨dkeep, dtorn, dat⟩
                have hkp' := hkp.crash ⟨dkeep, dtorn, dat⟩
                have HCR := Crash_all hd hok hfew (by omega) ⟨dkeep, dtorn, dat⟩ A2 c2 (old_sl hkp2 hx hB) (Nat.le_trans hkl2 (by omega))
                clear D1 D2 d1 d2 h0 h1 h3
                go_wp2_with fail
                refine HCR.mono ?_
                rintro e w4 ⟨rfl, hd4, ht4⟩
                obtain ⟨hx4, hB4⟩ := ht4.to_ext hx hB
                clear ht4 HCR
                go_wp2
                go_roundw
                case rel => exact ⟨j + 1, crashed s ⟨dkeep, dtorn, dat⟩, B, by go_num, by omega, by omega, hd4, hok', hfew'.mono (by omega), hkp', hx4, hB4⟩
                case measure => simp [intOf]; omega
              · clear D1 D2 d1 d2 d3 d4 d5 h0 h1 h3
                go_wp2
                go_roundw
                case rel => exact ⟨j + 1, s, B, by go_num, by omega, by omega, hd, hok, hfew.mono (by omega), hkp, hx, hB⟩
                case measure => simp [intOf]; omega
      · obtain ⟨f0, f1, f2, ff⟩ := HB0.out
        have f0 := f0 wr hx
        have f1 := f1 wr hx
        have f2 := f2 wr hx
        have HCR := Crash_all hd hok hfew (by omega) C KA kc (old_sl HK.out hx hB) hkl
        have hok' := crashed_ok hok C
        have hfew' := crashed_few hfew C
        obtain ⟨r1, r2⟩ := hkp.read C
        clear ff
        have hpre : ¬ (j : Int) < (ds.length : Int) ∨ ((j : Int) < (ds.length : Int) ∧ ¬ (j : Int) < 60) := by omega
        rcases hpre with hjn | ⟨hjn, hjn60⟩
        all_goals
          go_wp2_with fail
          refine HCR.mono ?_
          rintro e w4 ⟨rfl, hd4, ht4⟩
          obtain ⟨hx4, hB4⟩ := ht4.to_ext hx hB
          clear ht4 HCR
          go_wp2_with fail
          refine (Read_any hd4 hok' hfew' (by omega) (i : Int)).mono ?_
          rintro e w5 ⟨Ag, cg, rfl, hfg, hx5, hcg, hcg2⟩
          rw [r2] at hfg hcg
          rw [r1, r2, HPL.out]
          rw [HPL.out] at hcg
          obtain rfl : cg = 64 := by omega
          have hbg := (hfg.bsM hd4.lt).bs
          have hxx : Ext w0 w5 := hx4.trans hx5
          clear hfg hcg hcg2 hd4 hd hok hok' hfew hfew' hkp r1 r2 hx4 hx hB hB4
          have hn64 : lb0.length ≤ 64 := by rw [HN1.out]; exact HL64.out
          obtain ⟨A', hs1, hs2⟩ := cutB_h (P := Try.prog) Try.underlying22 Try.sizeOf5 Ag 64 64 pb lb0.length (hi := ((lb0.length : Nat) : Int)) rfl HPL.out (by omega) hn64
          obtain ⟨A'', hs3, hs4⟩ := cutB_l (P := Try.prog) Try.underlying22 Try.sizeOf5 Ag 64 64 pb lb0.length (li := ((lb0.length : Nat) : Int)) rfl HPL.out (by omega) hn64
          have b1 := hs2 w5 hbg
          have b2 := hs4 w5 hbg
          rw [show pb.take lb0.length = lb by have := HQ1.out; rwa [← HN1.out] at this] at b1
          rw [show pb.drop lb0.length = List.replicate (64 - lb0.length) 0 by have := HQ2.out; rwa [← HN1.out] at this] at b2
          have hcq1 := run_str (P := Try.prog) Try.underlying22 Try.underlying5 Try.underlying9 b1 lb0.length 64 HN1.out
          have hcq2 := run_str (P := Try.prog) Try.underlying22 Try.underlying5 Try.underlying9 b2 (64 - lb0.length) (64 - lb0.length) (by simp)
          have hcq3 := run_str (P := Try.prog) Try.underlying22 Try.underlying5 Try.underlying9 (HBB.out.ext hxx) lb0.length cb1 HN1.out
          obtain ⟨iu, hiu, hzu, hsu, hbu⟩ := info_parts (P := Try.prog) (e := 5) (z := .int .u8 0) (size := 1) (bytes := 1) (by kernel_rfl)
          have hmk : ∀ W, (Instr.makeSlice 22 (.int .i64 (64 - ((lb0.length : Nat) : Int))) (.int .i64 (64 - ((lb0.length : Nat) : Int)))).run Try.prog W = .ok (.slice (some ⟨W.heap.size, 0, none⟩) (64 - lb0.length) (64 - lb0.length)) (W.alloc (.cells (madeCells #[.int .u8 0] (64 - lb0.length)) 5)) := by
            intro W
            have h := run_make (P := Try.prog) W 22 5 iu (.int .u8 0) Try.underlying22 hiu hzu .i64 .i64 (64 - ((lb0.length : Nat) : Int)) (64 - ((lb0.length : Nat) : Int)) (by omega) (by omega) (by rw [hbu]; omega) (by omega)
            rw [hsu, show (64 - ((lb0.length : Nat) : Int)).toNat = 64 - lb0.length by omega, Nat.mul_one] at h
            exact h
          have hmc : ∀ W V : World, V = W.alloc (.cells (madeCells #[.int .u8 0] (64 - lb0.length)) 5) → Bs V (some ⟨W.heap.size, 0, none⟩) (List.replicate (64 - lb0.length) 0) := by
            rintro W V rfl
            refine Bs.new W _ _ ?_ 5 (0, 0)
            rw [← madeZ]
          have hcm : ∀ W : World, (convert 22 9 (.slice (some ⟨W.heap.size, 0, none⟩) (64 - lb0.length) (64 - lb0.length))).run Try.prog (W.alloc (.cells (madeCells #[.int .u8 0] (64 - lb0.length)) 5)) = .ok (.string (st (List.replicate (64 - lb0.length) 0))) (W.alloc (.cells (madeCells #[.int .u8 0] (64 - lb0.length)) 5)) := by
            intro W
            exact run_str (P := Try.prog) Try.underlying22 Try.underlying5 Try.underlying9 (hmc W _ rfl) (64 - lb0.length) (64 - lb0.length) (by simp) _ (Ext.refl _)
          have HXX := Lib.hid (HX0.out.trans hxx)
          have HHN := Lib.hid hn64
          have hn64' : ((lb0.length : Nat) : Int) ≤ 64 := by omega
          have hwr : IntKind.i64.wrap (64 - ((lb0.length : Nat) : Int)) = 64 - ((lb0.length : Nat) : Int) := IntWalk.i64_in _ (by omega)
          clear hs2 hs4 b1 b2 hbg hiu hzu hsu hbu hmc hn64
          generalize List.replicate (64 - lb0.length) (0 : UInt8) = zz at *
          go_wp2_with fail
          go_region_held (fun w' => Ext w5 w') (first | assumption | exact (Ext.refl _).drew | exact Ext.alloc (by assumption) _ | exact Ext.drew (by assumption) | exact Ext.trans (by assumption) (by assumption)) ((first
            | (go_at_call 9; refine (live_any _).mono ?_; rintro e w6 ⟨rfl, hx6⟩)))
          all_goals
            go_wp2
            go_ret
            exact ⟨rfl, HXX.out.drew.trans (hx6.alloc _)⟩
end Go.Proofs.Ytcnikfmcefnmoaa
