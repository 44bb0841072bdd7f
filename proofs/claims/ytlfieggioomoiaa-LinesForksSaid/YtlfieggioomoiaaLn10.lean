/- The walk of the law LinesWhole: it answers true. Conditions: the lengths named. -/
import Derived.Test.YtlfieggioomoiaaLn9
namespace Go.Proofs.Ytlfieggioomoiaa
open Go.RowKit
attribute [local go_sem] pt
theorem rawS_all (l : List UInt8) : rawS l l.length = l := by
  unfold rawS
  rw [if_neg (by omega), if_neg (by omega)]
  simp
theorem rawE_all (l : List UInt8) : rawE l l.length = 0 := by
  unfold rawE
  rw [if_neg (by omega), if_neg (by omega)]
theorem line_some {t : List UInt8} {k : Nat} (h : fnd t = some k) : lineL t = t.drop (k + 2) ∧ lineE t = (if 1024 < k then 6 else 0) ∧ (¬ 1024 < k → lineS t = t.take k) := by
  unfold lineL lineE lineS
  rw [h]
  exact ⟨rfl, rfl, fun hk => by simp only; rw [if_neg hk]⟩
theorem line_none {t : List UInt8} (h : fnd t = none) : lineL t = t ∧ lineE t = 3 := by
  unfold lineL lineE
  rw [h]
  exact ⟨rfl, rfl⟩
set_option maxHeartbeats 4000000 in
set_option maxRecDepth 100000 in
theorem whole_any (A : Option Addr) (c : Nat) (l : List UInt8) (w : World) (h : Bs w A l) (hc : l.length ≤ c) (hm : ML w) :
    Calls Try.prog 7 #[.slice A l.length c] w (Yes w) := by
  have HB := Lib.hid h
  have HML := fun W (hx : Ext w W) => hm.ext hx
  have H5 := fun W (hx : Ext w W) => live_any W (hm.ext hx)
  have hcq := run_str (P := Try.prog) Try.underlying25 Try.underlying5 Try.underlying9 h l.length c rfl
  clear h hm
  unfold Yes
  by_cases hbig : 4000 < l.length
  · have hb : (4000 : Int) < (l.length : Int) := by omega
    have H5 := H5 w (Ext.refl _)
    clear HML hbig
    go_enter Try.func7, Try.ntmps7
    go_wp2_with fail
    refine H5.mono ?_
    rintro e w1 ⟨rfl, hx1⟩
    go_wp2
    go_ret
    exact ⟨rfl, hx1⟩
  · have hb : ¬ (4000 : Int) < (l.length : Int) := by omega
    have hl : l.length ≤ 4000 := by omega
    have e0 : feedE [] l = 0 := by unfold feedE; rw [if_neg (by simp; omega)]
    have e1 : feedL [] l = l := by unfold feedL; rw [if_neg (by simp; omega)]; rfl
    clear hbig
    go_enter Try.func7, Try.ntmps7
    go_wp2_with fail
    refine (LNew_any w).mono ?_
    rintro e w1 ⟨rfl, hx1, hL⟩
    have hL := hL [w.heap.size]
    have hp1 := hL.lt
    obtain ⟨p, hp⟩ : ∃ p, p = w.heap.size := ⟨_, rfl⟩
    rw [← hp] at hL ⊢
    have hpw : w.heap.size ≤ p := by omega
    rw [← hp] at hp1
    clear hp
    have HF := LFeed_any w1 hL (by simp) (one_lt hp1) (by simp) A c l (HB.out.ext hx1)
    rw [e0, e1] at HF
    clear hL e0 e1
    go_wp2_with fail
    refine HF.mono ?_
    rintro e w2 ⟨rfl, hk2, h2⟩
    have hx2 : Ext w w2 := hx1.kept hk2 (one_ge hpw)
    have q1 : (⟨#[13, 10]⟩ : ByteArray) = st [13, 10] := rfl
    have q0 : (⟨#[]⟩ : ByteArray) = st [] := rfl
    have H2 := Lib.hid h2
    clear hk2 h2 HF
    go_wp2
    go_loopw [4, 5] (fun s i wr => ∃ (k : Nat) (pre t : List UInt8), s = .string (st pre) ∧ i = .int .i64 k ∧ k ≤ l.length + 1 ∧ pre ++ t = l ∧ IsLn [p] wr p t ∧ Ext w wr) (fun _ i _ => l.length + 1 - (intOf i).toNat)
    case atStart => exact ⟨0, [], l, rfl, rfl, by omega, rfl, H2.out, hx2⟩
    case round =>
      obtain ⟨k, pre, t, rfl, rfl, hk, hpt, hln, hx⟩ := hrel
      clear hx2
      have hlen : pre.length + t.length = l.length := by rw [← hpt]; simp
      have hpt2 : (pre ++ t == l) = true := by rw [hpt]; simp
      have HPT := Lib.hid hpt
      have hplt := hln.lt
      have ht4 : t.length ≤ 4000 := by omega
      have hp4 : pre.length ≤ 4000 := by omega
      have HLN := Lib.hid hlen
      have HWT := fun W (hx : Ext wr W) => LWait_any W (hln.ext hx)
      have HLI := LLine_any wr hln (by simp) (one_lt hplt) (by omega) (HML wr hx)
      have HQ := fun W t' (h : IsLn [p] W p t') (ht : t'.length ≤ 4000) => LRaw_any W h (by simp) (one_lt h.lt) (by omega) t'.length
      have hcc : ¬ 9223372036854775807 < pre.length + t.length := by omega
      clear hpt hlen
      have HLNN := Lib.hid hln
      clear hln
      by_cases hle : k ≤ l.length
      · have hle1 : (k : Int) ≤ (l.length : Int) := by omega
        go_wp2_with fail
        refine (HWT wr (Ext.refl _)).mono ?_
        rintro e w3 ⟨rfl, hw3⟩
        obtain rfl := hw3
        cases hf : fnd t with
        | none =>
          obtain ⟨a1, a2⟩ := line_none hf
          rw [a1, a2] at HLI
          clear a1 a2 hf
          go_wp2_with fail
          refine HLI.mono ?_
          rintro e w4 ⟨rfl, hk4, h4⟩
          have hx4 : Ext w w4 := hx.kept hk4 (one_ge hpw)
          have HQ := HQ w4 t h4 ht4
          rw [rawS_all, rawE_all] at HQ
          have hp4' := h4.lt
          clear hk4 HLI
          go_wp2_with fail
          refine (LWait_any w4 h4).mono ?_
          rintro e w5 ⟨rfl, hw5⟩
          obtain rfl := hw5
          go_wp2_with fail
          refine HQ.mono ?_
          rintro e w6 ⟨B, b, rfl, ho, hk6, -⟩
          have hx6 : Ext w w6 := hx4.kept hk6 (one_ge hpw)
          have hct := run_str (P := Try.prog) Try.underlying25 Try.underlying5 Try.underlying9 ho.bs t.length b rfl
          clear ho hk6 HQ h4
          go_wp2_with fail
          refine (H5 _ hx6).mono ?_
          rintro e w7 ⟨rfl, hx7⟩
          have hx67 := hx6.trans hx7
          go_wp2
          go_ret
          exact ⟨rfl, hx67⟩
        | some j =>
          obtain ⟨a1, a2, a3⟩ := line_some hf
          have hj := fnd_lt hf
          have hsp := fnd_split hf
          have HSP : Hid (pre ++ (t.take j ++ [13, 10]) ++ t.drop (j + 2) = l) := Lib.hid (by rw [List.append_assoc, List.append_assoc, ← hsp]; exact HPT.out)
          by_cases hbg : 1024 < j
          · rw [if_pos hbg] at a2
            rw [a1, a2] at HLI
            have hl1 : (t.drop (j + 2)).length = t.length - (j + 2) := by simp
            have htl : (t.take j).length = j := by simp; omega
            obtain ⟨A1, r1, s1⟩ := cutB_lh (P := Try.prog) Try.underlying25 Try.sizeOf5 A l.length c l pre.length (pre.length + j) (li := (pre.length : Int)) (hi := (pre.length : Int) + (t.length : Int) - ((t.drop (j + 2)).length : Int) - 2) rfl (by omega) rfl (by omega) hc (by have := HLN.out; omega)
            have hb1 := s1 w HB.out
            have e2 : (l.drop pre.length).take (pre.length + j - pre.length) = t.take j := by rw [← HPT.out]; simp
            rw [e2] at hb1
            rw [show pre.length + j - pre.length = j by omega] at r1
            have hct := run_str (P := Try.prog) Try.underlying25 Try.underlying5 Try.underlying9 hb1 j (c - pre.length) (by simp; omega)
            have hbgi : ¬ ((t.take j).length : Int) ≤ 1024 := by omega
            have hcc2 : ¬ 9223372036854775807 < pre.length + (t.take j).length := by omega
            have hcc3 : ¬ 9223372036854775807 < pre.length + (t.take j).length + 2 := by omega
            have hld : (t.drop (j + 2)).length ≤ 4000 := by omega
            have hs1 : (0 : Int) ≤ (pre.length : Int) + (t.length : Int) - ((t.drop (j + 2)).length : Int) := by omega
            have hs2 : (pre.length : Int) + (t.length : Int) - ((t.drop (j + 2)).length : Int) ≤ 10000 := by omega
            clear a1 a2 a3 hf hsp hbg htl hl1 s1 hb1 e2 HQ
            generalize t.take j = u at *
            generalize t.drop (j + 2) = t' at *
            go_wp2_with fail
            refine HLI.mono ?_
            rintro e w4 ⟨rfl, hk4, h4⟩
            have hx4 : Ext w w4 := hx.kept hk4 (one_ge hpw)
            clear hk4 HLI
            go_wp2_with fail
            refine (LWait_any w4 h4).mono ?_
            rintro e w5 ⟨rfl, hw5⟩
            obtain rfl := hw5
            have H4 := Lib.hid h4
            clear h4
            go_wp2
            go_roundw
            case rel => exact ⟨k + 1, pre ++ (u ++ [13, 10]), t', by first | rfl | simp, by go_num, by omega, HSP.out, H4.out, hx4⟩
            case measure => simp [intOf]; omega
          · rw [if_neg hbg] at a2
            rw [a1, a2, a3 hbg] at HLI
            have htl : (t.take j).length = j := by simp; omega
            have HTL := Lib.hid htl
            have hcc2 : ¬ 9223372036854775807 < pre.length + (t.take j).length := by omega
            have hcc3 : ¬ 9223372036854775807 < pre.length + (t.take j).length + 2 := by omega
            clear a1 a2 a3 hf hsp hbg htl
            generalize t.take j = u at *
            generalize t.drop (j + 2) = t' at *
            go_wp2_with fail
            refine HLI.mono ?_
            rintro e w4 ⟨rfl, hk4, h4⟩
            have hx4 : Ext w w4 := hx.kept hk4 (one_ge hpw)
            have H4 := Lib.hid h4
            clear hk4 HLI h4
            go_wp2
            go_roundw
            case rel => exact ⟨k + 1, pre ++ (u ++ [13, 10]), t', by first | rfl | simp, by go_num, by omega, HSP.out, H4.out, hx4⟩
            case measure => simp [intOf]; omega
      · have hle1 : ¬ (k : Int) ≤ (l.length : Int) := by omega
        have HQ := HQ wr t HLNN.out ht4
        rw [rawS_all, rawE_all] at HQ
        clear HLI
        go_wp2_with fail
        refine (HWT wr (Ext.refl _)).mono ?_
        rintro e w5 ⟨rfl, hw5⟩
        obtain rfl := hw5
        go_wp2_with fail
        refine HQ.mono ?_
        rintro e w6 ⟨B, b, rfl, ho, hk6, -⟩
        have hx6 : Ext w w6 := hx.kept hk6 (one_ge hpw)
        have hct := run_str (P := Try.prog) Try.underlying25 Try.underlying5 Try.underlying9 ho.bs t.length b rfl
        clear ho hk6 HQ
        go_wp2_with fail
        refine (H5 _ hx6).mono ?_
        rintro e w7 ⟨rfl, hx7⟩
        have hx67 := hx6.trans hx7
        go_wp2
        go_ret
        exact ⟨rfl, hx67⟩
end Go.Proofs.Ytlfieggioomoiaa
