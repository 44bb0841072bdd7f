/- The walk of DiskCuts. It answers true. -/
import Derived.Test.YtcnikfmcefnmoaaChecked
import Derived.Test.YtcnikfmcefnmoaaDk11
namespace Go.Proofs.Ytcnikfmcefnmoaa
open Go.RowKit
attribute [local go_sem] pt
/-- where DiskCuts stands -/
structure CutAt (n done : Nat) (s : Dk) : Prop where
  k : (n = 0 ∧ s.down = false ∧ s.cut = 0) ∨ (0 < n ∧ s.down = false ∧ s.cut + done = n ∧ 1 ≤ s.cut) ∨ (0 < n ∧ s.down = true ∧ done + 1 = n)
theorem spent_cut {s : Dk} (h : s.cut ≠ 0) : (spent s).cut = s.cut - 1 ∧ (spent s).down = decide (s.cut = 1) := by unfold spent; rw [if_neg h]; exact ⟨rfl, rfl⟩
theorem spent_zero {s : Dk} (h : s.cut = 0) : spent s = s := by unfold spent; rw [if_pos h]
theorem write_eq {s : Dk} {i : Int} {l : List UInt8} (hw : wrongE s i true = 0) (hl : l.length ≤ 64) : writeE s i l = (if (spent s).down = true then 7 else 0) ∧ writeS s i l = if (spent s).down = true then spent s else wrote s i.toNat l := by
  have : ¬ 64 < l.length := by omega
  simp [writeE, writeS, hw, this]
theorem flush_eq {s : Dk} (hd : s.down = false) : flushE s = (if (spent s).down = true then 7 else 0) ∧ flushS s = if (spent s).down = true then spent s else flushed s := by
  simp [flushE, flushS, hd]
/-- a write: done, or not -/
theorem cut_write {n done : Nat} {s : Dk} (h : CutAt n done s) (hs : s.sure.length = 4) (i : Nat) (hi : i < 4) (l : List UInt8) (hl : l.length ≤ 64) :
    (writeE s i l = 7 ∧ 0 < n ∧ done + 1 = n ∧ (writeS s i l).down = true) ∨ (writeE s i l = 0 ∧ CutAt n (done + 1) (writeS s i l) ∧ (writeS s i l).down = false ∧ (0 < n → done + 2 ≤ n)) := by
  have hw : wrongE s i true = if s.down = true then 7 else 0 := by
    unfold wrongE
    by_cases hd : s.down = true
    · rw [if_pos ⟨rfl, hd⟩, if_pos hd]
    · rw [if_neg (by simp [hd]), if_pos (by omega), if_neg hd]
  rcases h.k with ⟨h1, h2, h3⟩ | ⟨h1, h2, h3, h4⟩ | ⟨h1, h2, h3⟩
  · rw [h2] at hw
    simp only [Bool.false_eq_true, if_false] at hw
    have e : spent s = s := spent_zero h3
    obtain ⟨q1, q2⟩ := write_eq hw hl
    rw [q1, q2, e, h2]
    refine .inr ⟨rfl, ⟨.inl ⟨h1, ?_, ?_⟩⟩, ?_, by omega⟩ <;> simp [wrote, e, h2, h3]
  · rw [h2] at hw
    simp only [Bool.false_eq_true, if_false] at hw
    obtain ⟨e1, e2⟩ := spent_cut (s := s) (by omega)
    obtain ⟨q1, q2⟩ := write_eq hw hl
    by_cases hc : s.cut = 1
    · rw [decide_eq_true hc] at e2
      rw [q1, q2, e2]
      exact .inl ⟨rfl, h1, by omega, by simp [e2]⟩
    · rw [decide_eq_false hc] at e2
      rw [q1, q2, e2]
      exact .inr ⟨rfl, ⟨.inr (.inl ⟨h1, by simp [wrote, e2], by simp [wrote]; omega, by simp [wrote]; omega⟩)⟩, by simp [wrote, e2], by omega⟩
  · rw [if_pos h2] at hw
    have q : writeE s i l = 7 ∧ writeS s i l = s := by simp [writeE, writeS, hw]
    rw [q.1, q.2]
    exact .inl ⟨rfl, h1, h3, h2⟩
theorem cut_flush {n done : Nat} {s : Dk} (h : CutAt n done s) (hd : s.down = false) :
    (flushE s = 7 ∧ 0 < n ∧ done + 1 = n ∧ (flushS s).down = true) ∨ (flushE s = 0 ∧ CutAt n (done + 1) (flushS s) ∧ (flushS s).down = false ∧ (0 < n → done + 2 ≤ n)) := by
  obtain ⟨q1, q2⟩ := flush_eq hd
  rcases h.k with ⟨h1, h2, h3⟩ | ⟨h1, h2, h3, h4⟩ | ⟨h1, h2, h3⟩
  · have e : spent s = s := spent_zero h3
    rw [q1, q2, e, h2]
    refine .inr ⟨rfl, ⟨.inl ⟨h1, ?_, ?_⟩⟩, ?_, by omega⟩ <;> simp [flushed, e, h2, h3]
  · obtain ⟨e1, e2⟩ := spent_cut (s := s) (by omega)
    by_cases hc : s.cut = 1
    · rw [decide_eq_true hc] at e2
      rw [q1, q2, e2]
      exact .inl ⟨rfl, h1, by omega, by simp [e2]⟩
    · rw [decide_eq_false hc] at e2
      rw [q1, q2, e2]
      exact .inr ⟨rfl, ⟨.inr (.inl ⟨h1, by simp [flushed, e2], by simp [flushed]; omega, by simp [flushed]; omega⟩)⟩, by simp [flushed, e2], by omega⟩
  · rw [hd] at h2; cases h2
theorem cut_down {n done : Nat} {s : Dk} (h0 : 0 < n) (h1 : done + 1 = n) (hd : s.down = true) : CutAt n done s := ⟨.inr (.inr ⟨h0, hd, h1⟩)⟩
theorem cut_le {n done : Nat} {s : Dk} (h : CutAt n done s) : n = 0 ∨ done + 1 ≤ n := by
  rcases h.k with ⟨h1, h2, h3⟩ | ⟨h1, h2, h3, h4⟩ | ⟨h1, h2, h3⟩ <;> omega
theorem writeS_len (s : Dk) (i : Int) (l : List UInt8) : (writeS s i l).sure.length = s.sure.length := by
  unfold writeS
  split
  · rfl
  · split
    · rfl
    · split
      · rw [spent_sure]
      · simp only [wrote]; rw [spent_sure]
theorem flushS_len (s : Dk) : (flushS s).sure.length = s.sure.length := by
  unfold flushS
  split
  · rfl
  · split
    · rw [spent_sure]
    · simp only [flushed]; rw [laid_len]
set_option maxRecDepth 20000 in
set_option maxHeartbeats 4000000 in
theorem Cuts_any (n many : Nat) (hn : n < 256) (hm : many < 256) (w : World) : Calls Try.prog 5 #[.int .u8 n, .int .u8 many] w (Yes w) := by
  have kc := fun (w : World) (C : Array Value) (n c : Nat) => Lib.run_convert_bytes_const (P := Try.prog) w 22 5 C n c Try.underlying22 Try.underlying5
  unfold Yes
  go_enter Try.func5, Try.ntmps5
  go_wp2_with fail
  refine (New_ok 4 _ (by omega) (by omega)).mono ?_
  rintro e w1 ⟨p, B1, rfl, hx1, hd1, hB1⟩
  go_wp2_with fail
  refine (Cut_all hd1 (newD_ok (by omega) (by omega)) (n : Int)).mono ?_
  rintro e w2 ⟨rfl, hd2, ht2⟩
  obtain ⟨hx2, hB2⟩ := ht2.to_ext hx1 hB1
  have e1 : cutE (newD 4) (n : Int) = 0 := by unfold cutE; rw [if_neg (by simp [newD]), if_neg (by omega)]
  have e2 : cutS (newD 4) (n : Int) = ⟨(newD 4).sure, [], false, n, 0⟩ := by
    unfold cutS; rw [if_neg (by simp only [not_or]; exact ⟨by simp [newD], by omega⟩)]; simp [newD]
  have ok2 := cutS_ok (newD_ok (n := 4) (by omega) (by omega)) (n : Int)
  have few2 := cutS_few (newD_few 4) (n := (n : Int)) (by omega)
  have hat2 : CutAt n 0 (cutS (newD 4) (n : Int)) := by
    rw [e2]
    by_cases h0 : n = 0
    · exact ⟨.inl ⟨h0, rfl, h0⟩⟩
    · exact ⟨.inr (.inl ⟨by omega, rfl, rfl, by simp only; omega⟩)⟩
  have hlen2 : (cutS (newD 4) (n : Int)).sure.length = 4 := by rw [e2]; simp [newD]
  rw [e1]
  clear ht2 hd1 hx1 hB1 e1 e2
  generalize cutS (newD 4) (n : Int) = s2 at *
  go_wp2
  go_loopw [7, 8] (fun dn i wr => ∃ (j done : Nat) (s : Dk) (B : List Nat), i = .int .i64 j ∧ dn = .int .i64 done ∧ j ≤ many ∧ done ≤ 2 * j ∧ Disk B wr p s ∧ s.Ok ∧ s.Few (2 * j + 1) ∧ CutAt n done s ∧ s.sure.length = 4 ∧ Ext w wr ∧ ∀ k ∈ B, w.heap.size ≤ k) (fun _ i _ => many - (intOf i).toNat)
  case atStart => exact ⟨0, 0, s2, B1, rfl, rfl, by omega, by omega, hd2, ok2, few2, hat2, hlen2, hx2, hB2⟩
  case round =>
    obtain ⟨j, dn, s, B, rfl, rfl, hj, hdn, hd, hok, hfew, hat, hlen, hx, hB⟩ := hrel
    clear hd2 ok2 few2 hat2 hlen2 hx2 hB2
    by_cases hlt : j < many
    · have hjm : (j : Int) < (many : Int) := by omega
      have hmod : (j : Int) % 4 = ((j % 4 : Nat) : Int) := by omega
      have hj8 : (#[Value.int .u8 (j : Int)] : Array Value) = (bv [UInt8.ofNat j]).toArray := by
        have : (UInt8.ofNat j).toNat = j := by rw [UInt8.toNat_ofNat']; omega
        simp [bv, this]
      have hxa := (Ext.refl wr).alloc (.cells #[.int .u8 (j : Int)] 5)
      have hcw := cut_write hat hlen (j % 4) (by omega) [UInt8.ofNat j] (by simp)
      have HW := Write_any (hd.ext hxa) hok hfew (by omega) ((j % 4 : Nat) : Int) (some ⟨wr.heap.size, 0, none⟩) 1 [UInt8.ofNat j] (BsM.new wr [UInt8.ofNat j] _ hj8 5 (0, 0) B hd.lt)
      have ok1 := writeS_ok hok ((j % 4 : Nat) : Int) [UInt8.ofNat j]
      have few1 := writeS_few hfew ((j % 4 : Nat) : Int) [UInt8.ofNat j]
      have len1 := writeS_len s ((j % 4 : Nat) : Int) [UInt8.ofNat j]
      rw [hlen] at len1
      have HLE := Lib.hid (cut_le hat)
      have HX := Lib.hid (hx.trans hxa)
      clear hd hok hfew hat hlen hx hxa hj8
      have hlt3 : 2 * j + 1 ≤ 1000 := by omega
      generalize writeE s ((j % 4 : Nat) : Int) [UInt8.ofNat j] = f1 at *
      generalize writeS s ((j % 4 : Nat) : Int) [UInt8.ofNat j] = s1 at *
      rw [← hmod] at HW
      clear hmod
      go_wp2_with fail
      refine HW.mono ?_
      rintro e w3 ⟨B3, rfl, hd3, ht3⟩
      obtain ⟨hx3, hB3⟩ := ht3.to_ext HX.out hB
      clear ht3 HW hB
      rcases hcw with ⟨rfl, hn0, hdn1, hdw⟩ | ⟨rfl, hat1, hdw, hle⟩
      · have hn0' : (0 : Int) < (n : Int) := by omega
        have hge : (n : Int) - 1 ≤ (dn : Int) := by omega
        have hatn := cut_down hn0 hdn1 hdw
        clear hn0 hdn1
        by_cases h3 : j % 3 = 2
        · have h3' : ((j : Int) % 3 == 2) = true := by simp; omega
          clear h3
          go_wp2_with fail
          refine (Down_all hd3).mono ?_
          rintro e w5 ⟨rfl, hx5⟩
          rw [hdw]
          go_wp2
          go_roundw
          case rel => exact ⟨j + 1, dn, s1, B3, by go_num, by first | rfl | go_num, by omega, by omega, (hd3).ext hx5, ok1, few1.mono (by omega), hatn, len1, (hx3).trans hx5, hB3⟩
          case measure => simp [intOf]; omega
        · have h3' : ((j : Int) % 3 == 2) = false := by simp; omega
          clear h3
          go_wp2_with fail
          refine (Down_all hd3).mono ?_
          rintro e w5 ⟨rfl, hx5⟩
          rw [hdw]
          go_wp2
          go_roundw
          case rel => exact ⟨j + 1, dn, s1, B3, by go_num, by first | rfl | go_num, by omega, by omega, (hd3).ext hx5, ok1, few1.mono (by omega), hatn, len1, (hx3).trans hx5, hB3⟩
          case measure => simp [intOf]; omega
      · by_cases h3 : j % 3 = 2
        · have h3' : ((j : Int) % 3 == 2) = true := by simp; omega
          clear h3
          have hcf := cut_flush hat1 hdw
          have HF := Flush_any hd3 ok1 few1 (by omega)
          have ok2 := flushS_ok ok1
          have few2 := flushS_few few1
          have len2 := flushS_len s1
          rw [len1] at len2
          clear hd3 ok1 few1 len1
          generalize flushE s1 = f2 at *
          generalize flushS s1 = s2 at *
          go_wp2_with fail
          refine HF.mono ?_
          rintro e w4 ⟨rfl, hd4, ht4⟩
          obtain ⟨hx4, hB4⟩ := ht4.to_ext hx3 hB3
          clear ht4 HF
          rcases hcf with ⟨rfl, hn0, hdn1, hdw2⟩ | ⟨rfl, hat2, hdw2, hle2⟩
          · have hn0' : (0 : Int) < (n : Int) := by omega
            have hge : (n : Int) - 1 ≤ (dn : Int) + 1 := by omega
            have hatn := cut_down hn0 hdn1 hdw2
            clear hn0 hdn1 hle
            go_wp2_with fail
            refine (Down_all hd4).mono ?_
            rintro e w5 ⟨rfl, hx5⟩
            rw [hdw2]
            go_wp2
            go_roundw
            case rel => exact ⟨j + 1, dn + 1, s2, B3, by go_num, by first | rfl | go_num, by omega, by omega, (hd4).ext hx5, ok2, few2.mono (by omega), hatn, len2, (hx4).trans hx5, hB4⟩
            case measure => simp [intOf]; omega
          · clear hle
            by_cases hn0 : n = 0
            · have hn0' : ¬ (0 : Int) < (n : Int) := by omega
              have HN := Lib.hid hn0
              clear hn0 hle2
              go_wp2_with fail
              refine (Down_all hd4).mono ?_
              rintro e w5 ⟨rfl, hx5⟩
              rw [hdw2]
              go_wp2
              go_roundw
              case rel => exact ⟨j + 1, dn + 1 + 1, s2, B3, by go_num, by first | rfl | go_num, by omega, by omega, (hd4).ext hx5, ok2, few2.mono (by omega), hat2, len2, (hx4).trans hx5, hB4⟩
              case measure => simp [intOf]; omega
            · have hn0' : (0 : Int) < (n : Int) := by omega
              by_cases hge : (n : Int) - 1 ≤ (dn : Int) + 1 + 1
              · go_wp2_with fail
                refine (Down_all hd4).mono ?_
                rintro e w5 ⟨rfl, hx5⟩
                rw [hdw2]
                go_wp2
                go_roundw
                case rel => exact ⟨j + 1, dn + 1 + 1, s2, B3, by go_num, by first | rfl | go_num, by omega, by omega, (hd4).ext hx5, ok2, few2.mono (by omega), hat2, len2, (hx4).trans hx5, hB4⟩
                case measure => simp [intOf]; omega
              · go_wp2_with fail
                refine (Down_all hd4).mono ?_
                rintro e w5 ⟨rfl, hx5⟩
                rw [hdw2]
                go_wp2
                go_roundw
                case rel => exact ⟨j + 1, dn + 1 + 1, s2, B3, by go_num, by first | rfl | go_num, by omega, by omega, (hd4).ext hx5, ok2, few2.mono (by omega), hat2, len2, (hx4).trans hx5, hB4⟩
                case measure => simp [intOf]; omega
        · have h3' : ((j : Int) % 3 == 2) = false := by simp; omega
          clear h3
          by_cases hn0 : n = 0
          · have hn0' : ¬ (0 : Int) < (n : Int) := by omega
            have HN := Lib.hid hn0
            clear hn0 hle
            go_wp2_with fail
            refine (Down_all hd3).mono ?_
            rintro e w5 ⟨rfl, hx5⟩
            rw [hdw]
            go_wp2
            go_roundw
            case rel => exact ⟨j + 1, dn + 1, s1, B3, by go_num, by first | rfl | go_num, by omega, by omega, (hd3).ext hx5, ok1, few1.mono (by omega), hat1, len1, (hx3).trans hx5, hB3⟩
            case measure => simp [intOf]; omega
          · have hn0' : (0 : Int) < (n : Int) := by omega
            by_cases hge : (n : Int) - 1 ≤ (dn : Int) + 1
            · go_wp2_with fail
              refine (Down_all hd3).mono ?_
              rintro e w5 ⟨rfl, hx5⟩
              rw [hdw]
              go_wp2
              go_roundw
              case rel => exact ⟨j + 1, dn + 1, s1, B3, by go_num, by first | rfl | go_num, by omega, by omega, (hd3).ext hx5, ok1, few1.mono (by omega), hat1, len1, (hx3).trans hx5, hB3⟩
              case measure => simp [intOf]; omega
            · go_wp2_with fail
              refine (Down_all hd3).mono ?_
              rintro e w5 ⟨rfl, hx5⟩
              rw [hdw]
              go_wp2
              go_roundw
              case rel => exact ⟨j + 1, dn + 1, s1, B3, by go_num, by first | rfl | go_num, by omega, by omega, (hd3).ext hx5, ok1, few1.mono (by omega), hat1, len1, (hx3).trans hx5, hB3⟩
              case measure => simp [intOf]; omega
    · have hjm : ¬ (j : Int) < (many : Int) := by omega
      have hle := cut_le hat
      have okc := crashed_ok hok ⟨[], 0, 0⟩
      go_wp2_with fail
      refine (live_any _).mono ?_
      rintro e w3 ⟨rfl, hx3⟩
      have HCR := Crash_all (hd.ext hx3) hok hfew (by omega) ⟨[], 0, 0⟩ none 0 (SlM.nil _ _ _) (by simp)
      by_cases hn0 : n = 0
      · have hn0' : ((n : Int) == 0) = true := by simp [hn0]
        clear hn0 hle
        go_wp2_with fail
        refine HCR.mono ?_
        rintro e w4 ⟨rfl, hd4, ht4⟩
        obtain ⟨hx4, hB4⟩ := ht4.to_ext (hx.trans hx3) hB
        go_wp2_with fail
        refine (Down_all hd4).mono ?_
        rintro e w5 ⟨rfl, hx5⟩
        rw [show (crashed s ⟨[], 0, 0⟩).down = false from rfl]
        go_wp2_with fail
        refine (Waits_all (hd4.ext hx5)).mono ?_
        rintro e w6 ⟨rfl, hx6⟩
        rw [show (crashed s ⟨[], 0, 0⟩).waits.length = 0 from rfl]
        go_wp2
        go_ret
        exact ⟨rfl, (hx4.trans hx5).trans hx6⟩
      · have hn0' : ((n : Int) == 0) = false := by simp [hn0]
        have hge : (dn : Int) ≤ (n : Int) - 1 := by omega
        clear hn0 hle
        go_wp2_with fail
        refine HCR.mono ?_
        rintro e w4 ⟨rfl, hd4, ht4⟩
        obtain ⟨hx4, hB4⟩ := ht4.to_ext (hx.trans hx3) hB
        go_wp2_with fail
        refine (Down_all hd4).mono ?_
        rintro e w5 ⟨rfl, hx5⟩
        rw [show (crashed s ⟨[], 0, 0⟩).down = false from rfl]
        go_wp2_with fail
        refine (Waits_all (hd4.ext hx5)).mono ?_
        rintro e w6 ⟨rfl, hx6⟩
        rw [show (crashed s ⟨[], 0, 0⟩).waits.length = 0 from rfl]
        go_wp2
        go_ret
        exact ⟨rfl, (hx4.trans hx5).trans hx6⟩
end Go.Proofs.Ytcnikfmcefnmoaa
