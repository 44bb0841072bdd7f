/- The walk of the law SmtpPieces: it answers true. Conditions: both rows of bytes stand in memory, the library's own variable holds a number. -/
import Derived.Test.YtchokelpimibdaaSm14
import Derived.Deep.CutBlock
namespace Go.Proofs.Ytchokelpimibdaa
open Go.RowKit
theorem cut_at (x : UInt8) {n : Nat} (hn : n ≤ 4000) : ∃ kk : Nat, kk ≤ n ∧ wrap64 ((x.toNat : Nat) : Int) = ((x.toNat : Nat) : Int) ∧ wrap64 ((n : Int) + 1) = (n : Int) + 1 ∧ ((x.toNat : Nat) : Int).tmod ((n : Int) + 1) = (kk : Int) ∧ ((x.toNat : Nat) : Int) % ((n : Int) + 1) = (kk : Int) ∧ ¬ ((n : Int) + 1 = 0) ∧ (kk : Int) ≤ (n : Int) := by
  have h1 := x.toNat_lt
  have h2 : x.toNat % (n + 1) ≤ n := Nat.le_of_lt_succ (Nat.mod_lt _ (Nat.succ_pos n))
  have e : ((x.toNat : Nat) : Int) % ((n : Int) + 1) = ((x.toNat % (n + 1) : Nat) : Int) := by
    rw [Int.natCast_emod]
    rfl
  refine ⟨x.toNat % (n + 1), h2, IntWalk.wrap64_in _ ⟨by omega, by omega⟩, IntWalk.wrap64_in _ ⟨by omega, by omega⟩, ?_, e, by omega, Int.ofNat_le.2 h2⟩
  rw [Int.tmod_eq_emod_of_nonneg (Int.natCast_nonneg _)]
  exact e
set_option maxRecDepth 20000 in
set_option maxHeartbeats 8000000 in
theorem pieces_any (A : Option Addr) (c : Nat) (pb : By) (A2 : Option Addr) (c2 : Nat) (cuts : By) (w : World) (h : Bs w A pb) (h2 : Bs w A2 cuts) (hc : pb.length ≤ c) (hm : ML w) (hcl : cuts.length ≤ 140737488355328) :
    Calls Try.prog 3 #[.slice A pb.length c, .slice A2 cuts.length c2] w (Yes w) := by
  have HM := Lib.hid hm
  have HB := Lib.hid h
  have HC := Lib.hid h2
  have HLV := fun V (hx : Ext w V) => slive_any V (hm.ext hx)
  clear h h2 hm
  unfold Yes
  go_enter Try.func3, Try.ntmps3
  by_cases hbig : 4000 < pb.length
  · have h1 : (4000 : Int) < (pb.length : Int) := by omega
    clear hbig
    go_wp2_with fail
    refine (HLV w (Ext.refl _)).mono ?_
    rintro e w1 ⟨rfl, hx1⟩
    go_wp2
    go_ret
    exact ⟨rfl, hx1⟩
  have h1 : ¬ (4000 : Int) < (pb.length : Int) := by omega
  go_wp2_with fail
  refine (snew_any w HM.out).mono ?_
  rintro e w1 ⟨p, q, rfl, hx1, hp1, hq1, hp2, hq2, hs1⟩
  go_wp2_with fail
  refine (snew_any w1 (HM.out.ext hx1)).mono ?_
  rintro e w2 ⟨p2, q2, rfl, hx2, hp3, hq3, hp4, hq4, hs2⟩
  have hz := hx2.size
  have hx0 := hx1.size
  have hx12 := hx1.trans hx2
  have hlt2 : ∀ k ∈ [p, q, p2, q2], k < w2.heap.size := by intro k hk; simp at hk; omega
  have HX := Lib.hid ((hs1 [p, q] (by simp) (by simp) (by intro k hk; simp at hk; omega)).grow hx2 (N := [p, q, p2, q2]) (by intro k hk; simp at hk; simp; omega) (by simp) (by simp) hlt2)
  have HY := Lib.hid (hs2 [p, q, p2, q2] (by simp) (by simp) hlt2)
  have HF := sfeed_any HY.out A c pb (HB.out.ext hx12)
  rw [feed_on (s := newS) (by decide) (by show 0 + _ ≤ _; omega)] at HF
  have HQQ : Hid (p2 ≠ q ∧ q2 ≠ q ∧ 0 ≠ q ∧ p ≠ p2 ∧ q ≠ p2 ∧ p ≠ q2 ∧ q ≠ q2 ∧ 0 ≠ p ∧ 0 ≠ p2 ∧ 0 ≠ q2) := Lib.hid ⟨by omega, by omega, by have := HM.out.lt; omega, by omega, by omega, by omega, by omega, by have := HM.out.lt; omega, by have := HM.out.lt; omega, by have := HM.out.lt; omega⟩
  have HN4 : Hid (p ≠ q2 ∧ q ≠ q2 ∧ 0 ≠ q2) := Lib.hid ⟨by omega, by omega, by have := HM.out.lt; omega⟩
  have HPQ : Hid (∀ k ∈ [p, q, p2, q2], w.heap.size ≤ k) := Lib.hid (by intro k hk; simp at hk; omega)
  have HX12 := Lib.hid hx12
  clear hs1 hs2 hx1 hx2 hz hx0 hlt2 hx12 hp1 hq1 hp2 hq2 hp3 hq3 hp4 hq4
  unfold pt at *
  go_wp2_with fail
  refine HF.mono ?_
  rintro e w3 ⟨rfl, h3, hk3⟩
  have HX3 := Lib.hid (HX.out.kept hk3 (by simpa using HN4.out.1) (by simpa using HN4.out.2.1) (by simp) (by simpa using HN4.out.2.2))
  have HY3 := Lib.hid h3
  have HE3 := Lib.hid (HX12.out.kept hk3 (by intro k hk; simp at hk; subst hk; exact HPQ.out _ (by simp)))
  obtain ⟨b, hb⟩ : ∃ b, b = w3.heap.size := ⟨_, rfl⟩
  have HT3 : Hid (TwoR [p, q, p2, q2] w3 b (.slice none 0 0) (.slice none 0 0) [] []) := Lib.hid ⟨OwnR.nil _ _ _ _ _ _ _, OwnR.nil _ _ _ _ _ _ _, by rw [hb]; exact HY3.out.lt, by omega⟩
  have HBM : Hid (0 < b ∧ w.heap.size ≤ b) := Lib.hid ⟨by rw [hb]; exact HY3.out.ml.lt, by rw [hb]; exact HE3.out.size⟩
  clear HF h3 hk3 HX HY HX12 HN4 hb
  go_upto_block 0 with fail
  go_cut [9, 10, 11, 12, 13, 14, 15] from 51 to 94 (fun vo vs rv _ _ _ _ wx => ∃ (Ar : Option Addr) (cr : Nat) (r cons : By) (L : List By) (Ms : List Ou) (sx : Se), rv = .slice Ar r.length cr ∧ Hid (Bs w Ar r) ∧ Hid (pb = cons ++ r) ∧ Hid (TwoR [p, q, p2, q2] wx b vo vs L Ms) ∧ Hid (IsS (bl vo vs [p, q, p2, q2]) wx p q sx) ∧ Hid (IsS (bl vo vs [p, q, p2, q2]) wx p2 q2 (newS.app pb)) ∧ Hid (Runs (newS.app cons) L Ms sx) ∧ L.length ≤ 60000 ∧ Ms.length ≤ L.length ∧ Hid (Ext w wx))
  case first =>
    go_wp2_with fail
    go_loopw [9, 10, 11, 12] (fun vo vs rv i wx => ∃ (k : Nat) (Ar : Option Addr) (cr : Nat) (r cons : By) (L : List By) (Ms : List Ou) (sx : Se), i = .int .i64 k ∧ k ≤ cuts.length ∧ k ≤ 200 ∧ rv = .slice Ar r.length cr ∧ r.length ≤ cr ∧ Hid (Bs w Ar r) ∧ Hid (pb = cons ++ r) ∧ Hid (TwoR [p, q, p2, q2] wx b vo vs L Ms) ∧ Hid (IsS (bl vo vs [p, q, p2, q2]) wx p q sx) ∧ Hid (IsS (bl vo vs [p, q, p2, q2]) wx p2 q2 (newS.app pb)) ∧ Hid (Runs (newS.app cons) L Ms sx) ∧ L.length ≤ 300 * k ∧ Ms.length ≤ L.length ∧ Hid (Ext w wx)) (fun _ _ _ i _ => 200 - (intOf i).toNat)
    case atStart => exact ⟨0, A, c, pb, [], [], [], newS, rfl, by omega, by omega, rfl, hc, HB, Lib.hid rfl, HT3, HX3, HY3, Lib.hid (by rw [app_nil]; exact .refl _), by simp, by simp, HE3⟩
    case round =>
      clear HT3 HX3 HY3 HE3
      obtain ⟨k, Ar, cr, r, cons, L, Ms, sx, rfl, hk1, hk2, rfl, hrc, HR, HP, HT, HSX, HSY, HRU, hL, hMs, HE⟩ := hrel
      by_cases ht : k < cuts.length ∧ k < 200 ∧ 0 < r.length
      · obtain ⟨t1, t2, t3⟩ := ht
        have t1' : (k : Int) < (cuts.length : Int) := by omega
        have t2' : (k : Int) < 200 := by omega
        have t3' : (0 : Int) < (r.length : Int) := by omega
        obtain ⟨ad, rfl, hcell⟩ := HC.out.at_ t1
        have c1 := hcell _ HE.out
        generalize cuts[k] = x at *
        have hrl : r.length ≤ 4000 := by have := congrArg List.length HP.out; simp at this; omega
        obtain ⟨kk, hkr, E1, E2, E3, E4, E5, hkr2⟩ := cut_at x hrl
        obtain ⟨B1, r1, s1⟩ := cutB_h (P := Try.prog) Try.underlying22 Try.sizeOf5 Ar r.length cr r kk (hi := (kk : Int)) rfl rfl hrc hkr
        obtain ⟨B2, r2, s2⟩ := cutB_l (P := Try.prog) Try.underlying22 Try.sizeOf5 Ar r.length cr r kk (li := (kk : Int)) rfl rfl hrc hkr
        have HKR := Lib.hid hkr
        have HRC := Lib.hid hrc
        have HF := sfeed_any HSX.out B1 cr (r.take kk) ((s1 _ HR.out).ext HE.out)
        rw [List.length_take, Nat.min_eq_left hkr] at HF
        have HB2 := Lib.hid (s2 _ HR.out)
        clear hcell s1 s2 hkr hrc
        unfold pt at HF
        by_cases h6 : sx.st = 6
        · rw [feed_over h6] at HF
          have hL2 : L.length ≤ 60000 := by omega
          clear h6
          go_wp2_with fail
          refine HF.mono ?_
          rintro e w4 ⟨rfl, h4, hk4⟩
          have HT4 := Lib.hid (HT.out.kept hk4 (by simp))
          have HX4 := Lib.hid h4
          have HY4 := Lib.hid (HSY.out.kept hk4 (by simpa using HQQ.out.1) (by simpa using HQQ.out.2.1) (fun k hk => mem_bl.2 (.inr (.inr (by simp at hk; subst hk; simp)))) (by simpa using HQQ.out.2.2.1))
          have HE4 := Lib.hid (HE.out.kept hk4 (by intro k hk; simp at hk; subst hk; exact HPQ.out _ (by simp)))
          clear h4 hk4 HF
          go_wp2_with fail
          go_meet
          exact ⟨Ar, cr, r, cons, L, Ms, sx, rfl, HR, HP, HT4, HX4, HY4, HRU, hL2, hMs, HE4⟩
        · have hcl4 : cons.length + r.length = pb.length := by have := congrArg List.length HP.out; simp at this; omega
          have hbl : sx.buf.length ≤ cons.length := by have := runs_buf HRU.out; rw [app_len] at this; exact this
          rw [feed_on h6 (by simp; omega)] at HF
          have HRU4 := Lib.hid (HRU.out.app (r.take kk))
          rw [app_app] at HRU4
          have HP4 : Hid (pb = (cons ++ r.take kk) ++ r.drop kk) := Lib.hid (by rw [List.append_assoc, List.take_append_drop]; exact HP.out)
          have HLD : Hid ((r.drop kk).length = r.length - kk) := Lib.hid (by simp)
          clear h6 hcl4 hbl
          go_wp2_with fail
          refine HF.mono ?_
          rintro e w4 ⟨rfl, h4, hk4⟩
          have HT4 := Lib.hid (HT.out.kept hk4 (by simp))
          have HX4 := Lib.hid h4
          have HY4 := Lib.hid (HSY.out.kept hk4 (by simpa using HQQ.out.1) (by simpa using HQQ.out.2.1) (fun k hk => mem_bl.2 (.inr (.inr (by simp at hk; subst hk; simp)))) (by simpa using HQQ.out.2.2.1))
          have HE4 := Lib.hid (HE.out.kept hk4 (by intro k hk; simp at hk; subst hk; exact HPQ.out _ (by simp)))
          have HALL := sall_any h4
          unfold pt at HALL
          clear h4 hk4 HF HT HSX HSY HE HRU
          go_wp2_with fail
          refine HALL.mono ?_
          rintro e w5 ⟨vl, vm, L', M', s', rfl, hT5, hX5, hk5, hR5, hrest, hL5, hM5⟩
          obtain ⟨Al, cl, rfl⟩ := hT5.o.form
          obtain ⟨Am, cm, rfl⟩ := hT5.s.form
          have HLO := Lib.hid (hT5.readO (N := []) (by simp))
          have HLS := Lib.hid (hT5.readS (N := bl u9 u10 [p, q, p2, q2]) (fun k hk => hk))
          have hT5b := HT4.out.kept hk5 (by simp)
          have hX5b := hX5.old (N := bl u9 u10 [p, q, p2, q2]) (fun k hk => .inl (mem_bl.2 (.inr (.inr hk)))) HX4.out.pM HX4.out.qM hT5b.ltb
          have hY5 := HY4.out.kept hk5 (by simp; exact ⟨fun e => HQQ.out.2.2.2.1 e.symm, HQQ.out.1⟩) (by simp; exact ⟨fun e => HQQ.out.2.2.2.2.2.1 e.symm, HQQ.out.2.1⟩) (fun k hk => mem_bl.2 (.inr (.inr (by simp at hk; rcases hk with rfl | rfl <;> simp)))) (by simp; exact ⟨HQQ.out.2.2.2.2.2.2.2.1, HQQ.out.2.2.1⟩)
          have HE5 := Lib.hid (HE4.out.kept hk5 (by intro k hk; simp at hk; rcases hk with rfl | rfl; exact HPQ.out _ (by simp); exact HPQ.out _ (by simp)))
          have HRU5 := Lib.hid (HRU4.out.trans hR5)
          have HT5 := Lib.hid hT5b
          have HX5 := Lib.hid hX5b
          have HY5 := Lib.hid hY5
          clear hT5 hX5 hk5 hR5 hrest hT5b hX5b hY5 HALL HT4 HX4 HY4 HE4
          go_wp2_with (at_builtin; refine unstop ?_)
          refine go_on (wpList_appO rfl HT5.out HBM.out.1 HLO.out rfl rfl rfl rfl (by omega) ?_)
          intro vo6 w6 hT6 hk6 hB6 hS6
          have HT6 := Lib.hid hT6
          have HX6 := Lib.hid (hS6 p q _ (by simp) (by simp) HX5.out)
          have HY6 := Lib.hid (hS6 p2 q2 _ (by simp) (by simp) HY5.out)
          have HE6 := Lib.hid (HE5.out.kept hk6 (fun k hk => Nat.le_trans HBM.out.2 (HT5.out.o.lt k (by simpa using hk)).1))
          have HLS6 := Lib.hid (HLS.out.turn hk6 (fun k hk => mem_bl.2 (.inl (by simpa using hk))) hB6)
          clear hT6 hk6 hB6 hS6
          go_wp2_with (at_builtin; refine unstop ?_)
          refine go_on (wpList_appS rfl HT6.out HBM.out.1 HLS6.out rfl rfl rfl rfl (by omega) ?_)
          intro vs7 w7 hT7 hk7 hB7 hS7
          have HT7 := Lib.hid hT7
          have HX7 := Lib.hid (hS7 p q _ (by simp) (by simp) HX6.out)
          have HY7 := Lib.hid (hS7 p2 q2 _ (by simp) (by simp) HY6.out)
          have HE7 := Lib.hid (HE6.out.kept hk7 (fun k hk => Nat.le_trans HBM.out.2 (HT6.out.s.lt k (by simpa using hk)).1))
          clear hT7 hk7 hB7 hS7
          go_wp2
          go_roundw
          case rel => exact ⟨k + 1, B2, cr - kk, r.drop kk, cons ++ r.take kk, L ++ L', Ms ++ M', s', by go_num, by omega, by omega, by rw [HLD.out], by rw [HLD.out]; have := HRC.out; omega, HB2, HP4, HT7, HX7, HY7, HRU5, by simp; omega, by simp; omega, HE7⟩
          case measure => simp [intOf]; omega
      · have ht' : ¬ (k : Int) < (cuts.length : Int) ∨ ((k : Int) < (cuts.length : Int) ∧ ¬ (k : Int) < 200) ∨ ((k : Int) < (cuts.length : Int) ∧ (k : Int) < 200 ∧ ¬ (0 : Int) < (r.length : Int)) := by omega
        have hL2 : L.length ≤ 60000 := by omega
        clear ht
        rcases ht' with h1 | ⟨h1, h2⟩ | ⟨h1, h2, h3⟩
        all_goals
          go_wp2_with fail
          go_meet
          exact ⟨Ar, cr, r, cons, L, Ms, sx, rfl, HR, HP, HT, HSX, HSY, HRU, hL2, hMs, HE⟩
  case rest =>
    clear HT3 HX3 HY3 HE3 HC
    obtain ⟨Ar, cr, r, cons, L, Ms, sx, rfl, HR, HP, HT, HSX, HSY, HRU, hL, hMs, HE⟩ := hcut
    have hrl : cons.length + r.length = pb.length := by have := congrArg List.length HP.out; simp at this; omega
    have hbl : sx.buf.length ≤ cons.length := by have := runs_buf HRU.out; rw [app_len] at this; exact this
    have HBL : Hid (sx.buf.length + r.length ≤ 16384) := Lib.hid (by omega)
    have HF := sfeed_any HSX.out Ar cr r (HR.out.ext HE.out)
    unfold pt at HF
    clear hrl hbl
    go_wp2_with fail
    refine HF.mono ?_
    rintro e w4 ⟨rfl, h4, hk4⟩
    have HT4 := Lib.hid (HT.out.kept hk4 (by simp))
    have HX4 := Lib.hid h4
    have HY4 := Lib.hid (HSY.out.kept hk4 (by simpa using HQQ.out.1) (by simpa using HQQ.out.2.1) (fun k hk => mem_bl.2 (.inr (.inr (by simp at hk; subst hk; simp)))) (by simpa using HQQ.out.2.2.1))
    have HE4 := Lib.hid (HE.out.kept hk4 (by intro k hk; simp at hk; subst hk; exact HPQ.out _ (by simp)))
    have HALL := sall_any h4
    unfold pt at HALL
    clear h4 hk4 HF HT HSX HSY HE
    go_wp2_with fail
    refine HALL.mono ?_
    rintro e w5 ⟨vl, vm, L', M', s', rfl, hT5, hX5, hk5, hR5, hrest, hL5, hM5⟩
    obtain ⟨Al, cl, rfl⟩ := hT5.o.form
    obtain ⟨Am, cm, rfl⟩ := hT5.s.form
    have HLO := Lib.hid (hT5.readO (N := []) (by simp))
    have HLS := Lib.hid (hT5.readS (N := bl u9 u10 [p, q, p2, q2]) (fun k hk => hk))
    have hT5b := HT4.out.kept hk5 (by simp)
    have hY5 := HY4.out.kept hk5 (by simp; exact ⟨fun e => HQQ.out.2.2.2.1 e.symm, HQQ.out.1⟩) (by simp; exact ⟨fun e => HQQ.out.2.2.2.2.2.1 e.symm, HQQ.out.2.1⟩) (fun k hk => mem_bl.2 (.inr (.inr (by simp at hk; rcases hk with rfl | rfl <;> simp)))) (by simp; exact ⟨HQQ.out.2.2.2.2.2.2.2.1, HQQ.out.2.2.1⟩)
    have HE5 := Lib.hid (HE4.out.kept hk5 (by intro k hk; simp at hk; rcases hk with rfl | rfl; exact HPQ.out _ (by simp); exact HPQ.out _ (by simp)))
    have HFIN := Lib.hid (runs_last HRU.out hR5 HBL.out hrest)
    rw [← HP.out] at HFIN
    have HT5 := Lib.hid hT5b
    have HY5 := Lib.hid hY5
    clear hT5 hX5 hk5 hR5 hrest hT5b hY5 HALL HT4 HX4 HY4 HE4 HRU HBL HR
    go_wp2_with (at_builtin; refine unstop ?_)
    refine go_on (wpList_appO rfl HT5.out HBM.out.1 HLO.out rfl rfl rfl rfl (by omega) ?_)
    intro vo6 w6 hT6 hk6 hB6 hS6
    have HT6 := Lib.hid hT6
    have HY6 := Lib.hid (hS6 p2 q2 _ (by simp) (by simp) HY5.out)
    have HE6 := Lib.hid (HE5.out.kept hk6 (fun k hk => Nat.le_trans HBM.out.2 (HT5.out.o.lt k (by simpa using hk)).1))
    have HLS6 := Lib.hid (HLS.out.turn hk6 (fun k hk => mem_bl.2 (.inl (by simpa using hk))) hB6)
    clear hT6 hk6 hB6 hS6
    go_wp2_with (at_builtin; refine unstop ?_)
    refine go_on (wpList_appS rfl HT6.out HBM.out.1 HLS6.out rfl rfl rfl rfl (by omega) ?_)
    intro vs7 w7 hT7 hk7 hB7 hS7
    have HT7 := Lib.hid hT7
    have HE7 := Lib.hid (HE6.out.kept hk7 (fun k hk => Nat.le_trans HBM.out.2 (HT6.out.s.lt k (by simpa using hk)).1))
    have HALL := sall_any (hS7 p2 q2 _ (by simp) (by simp) HY6.out)
    unfold pt at HALL
    clear hT7 hk7 hB7 hS7 HT5 HT6 HY5 HY6 HE5 HE6 HLO HLS HLS6
    generalize hLL : L ++ L' = G at *
    generalize hMM : Ms ++ M' = S at *
    have HG := Lib.hid (show L'.length ≤ G.length by rw [← hLL]; simp)
    have hgl : G.length ≤ 70000 := by rw [← hLL]; simp; omega
    clear hLL hMM hL hMs hL5 hM5
    go_wp2_with fail
    refine HALL.mono ?_
    rintro e w8 ⟨vl, vm, W, S', s3, rfl, hT8, hX8, hk8, hR8, hrest8, hL8, hM8⟩
    obtain ⟨Aw, cw, rfl⟩ := hT8.o.form
    obtain ⟨As, cs, rfl⟩ := hT8.s.form
    have hT7 := HT7.out.kept hk8 (by simp)
    obtain ⟨Ag, cg, rfl⟩ := hT7.o.form
    obtain ⟨At, ct, rfl⟩ := hT7.s.form
    have HWO := Lib.hid (hT8.readO (N := []) (by simp))
    have HWS := Lib.hid (hT8.readS (N := []) (by simp))
    have HGO := Lib.hid (hT7.readO (N := []) (by simp))
    have HGS := Lib.hid (hT7.readS (N := []) (by simp))
    have HE8 := Lib.hid (HE7.out.kept hk8 (by intro k hk; simp at hk; rcases hk with rfl | rfl; exact HPQ.out _ (by simp); exact HPQ.out _ (by simp)))
    have HR8 := Lib.hid hR8
    have HRE8 := Lib.hid hrest8
    clear hT7 hT8 hX8 hk8 hR8 hrest8 HALL HT7 HE7 HPQ HQQ HBM
    by_cases hbg : 200 < G.length ∨ 200 < W.length
    · have hor : (200 : Int) < (G.length : Int) ∨ (¬ (200 : Int) < (G.length : Int) ∧ (200 : Int) < (W.length : Int)) := by omega
      clear hbg
      rcases hor with g1 | ⟨g1, g2⟩
      all_goals
        go_wp2_with fail
        refine (HLV w8 HE8.out).mono ?_
        rintro e w9 ⟨rfl, hx9⟩
        go_wp2
        go_ret
        exact ⟨rfl, HE8.out.trans hx9⟩
    · have g1 : ¬ (200 : Int) < (G.length : Int) := by omega
      have g2 : ¬ (200 : Int) < (W.length : Int) := by omega
      obtain ⟨s2, f1, f2⟩ := HFIN.out
      obtain ⟨rfl, rfl⟩ := runs_same f1 f2 HG.out HR8.out HRE8.out (Nat.le_refl _) (by omega) (by omega)
      have HSM := Lib.hid (runs_small f1 (app_ok (by omega)))
      clear hbg f1 f2 HFIN HG HRE8 HR8
      go_wp2
      go_loopw [20] (fun i wr => ∃ k : Nat, i = .int .i64 k ∧ k ≤ G.length ∧ Ext w8 wr) (fun i _ => G.length - (intOf i).toNat)
      case atStart => exact ⟨0, rfl, by omega, Ext.refl _⟩
      case round =>
        obtain ⟨k, rfl, hk, hx⟩ := hrel
        by_cases hlt : k < G.length
        · have hlt2 : (k : Int) < (G.length : Int) := by omega
          obtain ⟨ad, rfl, hc1⟩ := RSt.at_ HGO.out hlt
          obtain ⟨ad2, rfl, hc2⟩ := RSt.at_ HWO.out hlt
          have hc1 := hc1 _ hx
          have hc2 := hc2 _ hx
          generalize G[k] = y at *
          go_wp2_with fail
          go_quiet (fail)
          go_wp2
          go_roundw
          case rel => exact ⟨k + 1, by go_num, by omega, hx.drewN _⟩
          case measure => simp [intOf]; omega
        · have hlt2 : ¬ (k : Int) < (G.length : Int) := by omega
          clear hlt
          go_wp2
          go_loopw [21] (fun i wr => ∃ k : Nat, i = .int .i64 k ∧ k ≤ S.length ∧ Ext w8 wr) (fun i _ => S.length - (intOf i).toNat)
          case atStart => exact ⟨0, rfl, by omega, hx⟩
          case round =>
            clear hlt2 hx hk
            obtain ⟨k, rfl, hk, hx⟩ := hrel
            by_cases hlt : k < S.length
            · have hlt2 : (k : Int) < (S.length : Int) := by omega
              obtain ⟨ad, A1, c1, A2, c2, A3, c3, rfl, hc1, hd1⟩ := ROu.at_ HGS.out hlt
              obtain ⟨ad2, B1, d1, B2, d2, B3, d3, rfl, hc2, hd2⟩ := ROu.at_ HWS.out hlt
              have hc1 := fun V (hv : Ext wr V) => hc1 V (hx.trans hv)
              have hc2 := fun V (hv : Ext wr V) => hc2 V (hx.trans hv)
              have hsm := HSM.out S[k] (List.getElem_mem hlt)
              have HO := fun V (hv : Ext wr V) => osame_eq S[k] A1 c1 A2 c2 A3 c3 B1 d1 B2 d2 B3 d3 V (hd1 V (hx.trans hv)).1 (hd1 V (hx.trans hv)).2.1 (hd1 V (hx.trans hv)).2.2.bs (hd2 V (hx.trans hv)).1 (hd2 V (hx.trans hv)).2.1 (hd2 V (hx.trans hv)).2.2.bs (by omega) (by omega)
              generalize S[k] = o at *
              have hxd : Ext wr wr.drew := (Ext.refl _).drew
              clear hd1 hd2 hsm
              go_wp2_with fail
              refine wp_region_phase (S := fun V => Ext wr V) 9 (by kernel_rfl) (by kernel_rfl) ?_ (fun hHeld => ?_)
              · exact hxd
              simp only [List.drop_succ_cons, List.drop_zero]
              refine name_head ?_
              intro wr0 hw0
              rw [hw0] at hHeld
              refine wpHead_take (i := 0) (v := ?_) (by rfl) (by kernel_rfl) (by kernel_rfl) (by exact fun _ _ _ h => h) (Or.inl ⟨by rfl, ?_⟩) (by assumption) ?_
              rotate_left
              · intro w hSw
                first | (go_simp; done) | (go_simp; with_reducible rfl)
              simp only [List.getElem_toArray, List.getElem_cons_zero, Act.put, List.setIfInBounds_toArray, List.set_cons_zero, List.set_cons_succ]
              refine wpHead_take (i := 1) (v := ?_) (by rfl) (by kernel_rfl) (by kernel_rfl) (by exact fun _ _ _ h => h) (Or.inl ⟨by rfl, ?_⟩) (by assumption) ?_
              rotate_left
              · intro w hSw
                first | (go_simp; done) | (go_simp; with_reducible rfl)
              simp only [List.getElem_toArray, List.getElem_cons_succ, List.getElem_cons_zero, Act.put, List.setIfInBounds_toArray, List.set_cons_zero, List.set_cons_succ]
              refine wpHead_take (i := 2) (v := ?_) (by rfl) (by kernel_rfl) (by kernel_rfl) (by exact fun _ _ _ h => h) (Or.inl ⟨by rfl, ?_⟩) (by assumption) ?_
              rotate_left
              · intro w hSw
                first | (go_simp; done) | (go_simp; with_reducible rfl)
              simp only [List.getElem_toArray, List.getElem_cons_succ, List.getElem_cons_zero, Act.put, List.setIfInBounds_toArray, List.set_cons_zero, List.set_cons_succ]
              refine wpHead_take (i := 3) (v := (.agg (outC o A1 c1 A2 c2 A3 c3).toArray)) (by rfl) (by kernel_rfl) (by kernel_rfl) (by exact fun _ _ _ h => h) (by exact yieldsIf_load_elem (by rfl) 39 _ rfl (ad.add (k * 9)) rfl (outC o A1 c1 A2 c2 A3 c3) _ (fun w' hv => hc1 w' hv) Try.underlying39 rfl (aout_size outC_size)) (by assumption) ?_
              simp only [List.getElem_toArray, List.getElem_cons_succ, List.getElem_cons_zero, Act.put, List.setIfInBounds_toArray, List.set_cons_zero, List.set_cons_succ]
              refine wpHead_take (i := 4) (v := ?_) (by rfl) (by kernel_rfl) (by kernel_rfl) (by exact fun _ _ _ h => h) (Or.inl ⟨by rfl, ?_⟩) (by assumption) ?_
              rotate_left
              · intro w hSw
                first | (go_simp; done) | (go_simp; with_reducible rfl)
              simp only [List.getElem_toArray, List.getElem_cons_succ, List.getElem_cons_zero, Act.put, List.setIfInBounds_toArray, List.set_cons_zero, List.set_cons_succ]
              refine wpHead_take (i := 5) (v := ?_) (by rfl) (by kernel_rfl) (by kernel_rfl) (by exact fun _ _ _ h => h) (Or.inl ⟨by rfl, ?_⟩) (by assumption) ?_
              rotate_left
              · intro w hSw
                first | (go_simp; done) | (go_simp; with_reducible rfl)
              simp only [List.getElem_toArray, List.getElem_cons_succ, List.getElem_cons_zero, Act.put, List.setIfInBounds_toArray, List.set_cons_zero, List.set_cons_succ]
              refine wpHead_take (i := 6) (v := ?_) (by rfl) (by kernel_rfl) (by kernel_rfl) (by exact fun _ _ _ h => h) (Or.inl ⟨by rfl, ?_⟩) (by assumption) ?_
              rotate_left
              · intro w hSw
                first | (go_simp; done) | (go_simp; with_reducible rfl)
              simp only [List.getElem_toArray, List.getElem_cons_succ, List.getElem_cons_zero, Act.put, List.setIfInBounds_toArray, List.set_cons_zero, List.set_cons_succ]
              refine wpHead_take (i := 7) (v := (.agg (outC o B1 d1 B2 d2 B3 d3).toArray)) (by rfl) (by kernel_rfl) (by kernel_rfl) (by exact fun _ _ _ h => h) (by exact yieldsIf_load_elem (by rfl) 39 _ rfl (ad2.add (k * 9)) rfl (outC o B1 d1 B2 d2 B3 d3) _ (fun w' hv => hc2 w' hv) Try.underlying39 rfl (aout_size outC_size)) (by assumption) ?_
              simp only [List.getElem_toArray, List.getElem_cons_succ, List.getElem_cons_zero, Act.put, List.setIfInBounds_toArray, List.set_cons_zero, List.set_cons_succ]
              refine wpHead_ready (rs := [8]) (by kernel_rfl) (by simp) (by kernel_rfl) ?_
              refine AllHead.cons (by rfl) (fun K hK => ?_) ?_
              · refine step_callG (by rfl) (by kernel_rfl) (HO _ hHeld) ?_
                rintro e wr8 ⟨rfl, hx8⟩
                refine ⟨_, rfl, ?_⟩
                refine hK.out _ _ ?_ (fun hHeld => ?_)
                · exact hHeld.trans hx8
                clear hK K
                try simp only [List.getElem_toArray, List.getElem_cons_succ, List.getElem_cons_zero, Act.put, List.setIfInBounds_toArray, List.set_cons_zero, List.set_cons_succ]
                refine wpHead_done (by kernel_rfl) ?_
                have HX9 := Lib.hid (hx.trans hHeld)
                clear hc1 hc2 HO hx8
                go_wp2
                go_roundw
                case rel => exact ⟨k + 1, by go_num, by omega, HX9.out⟩
                case measure => simp [intOf]; omega
              exact AllHead.nil
            · have hlt2 : ¬ (k : Int) < (S.length : Int) := by omega
              have HX9 := Lib.hid (HE8.out.trans hx)
              go_wp2_with fail
              refine (HLV wr HX9.out).mono ?_
              rintro e w9 ⟨rfl, hx9⟩
              go_wp2
              go_ret
              exact ⟨rfl, HX9.out.trans hx9⟩
end Go.Proofs.Ytchokelpimibdaa
