/- The walks of deed.RightUser, Fold, RightBox, box.number, box.Check, box.Size. Conditions: the bounds named. The walks of box.Size and deed.CheckUser. Conditions: the bounds named. -/
import Derived.Test.YthlppbbejdeeoaaGreatDoorC4
import Derived.Test.YthlppbbejdeeoaaGreatDoorC3
namespace Go.Proofs.YthlppbbejdeeoaaGreatDoor
open Go.RowKit
theorem toList_tl (s : ByteArray) : s.toList = tl s := by rw [ByteArray.toList_eq]; rfl
theorem userC_cases (c : Nat) : (97 ≤ c ∧ c ≤ 122 ∧ userC c = true) ∨ (122 < c ∧ userC c = false) ∨ (48 ≤ c ∧ c ≤ 57 ∧ userC c = true) ∨ (57 < c ∧ c < 97 ∧ c ≠ 95 ∧ userC c = false) ∨ (c = 95 ∧ userC c = true) ∨ (c < 48 ∧ c ≠ 46 ∧ c ≠ 45 ∧ userC c = false) ∨ (c = 46 ∧ userC c = true) ∨ (c = 45 ∧ userC c = true) := by
 unfold userC
 by_cases h1 : c = 46
 ·subst h1; simp
 by_cases h2 : c = 45
 ·subst h2; simp
 by_cases h3 : c = 95
 ·subst h3; simp
 simp only [h1, h2, h3, decide_false, Bool.or_false, Bool.or_eq_true, Bool.or_eq_false_iff, decide_eq_true_eq, decide_eq_false_iff_not, not_false_eq_true, true_and, false_and, or_false, false_or, ne_eq]
 omega
set_option maxHeartbeats 4000000 in
theorem RightUser_any (s : ByteArray) (w : World) (hs : s.size ≤ 140737488355328) : Calls Tryz.prog 81 #[.string s] w fun e w' => e = .returned (.bool (rightU (tl s))) ∧ Ext w w' := by
 have hit0 : It (w.iter s 0) w.heap.size s 0 := World.iter_heap w s 0
 have hxi : Ext w (w.iter s 0) := (Ext.refl w).alloc _
 go_enter Tryz.func81, Tryz.ntmps81
 go_wp2
 go_loopw [] (fun wr => ∃ pos ds, ds.all (fun d => userC d.1) = true ∧ At (tl s) pos ds ∧ It wr w.heap.size s pos ∧ Ext w wr) (fun wr => s.size - wr.iterPos w.heap.size)
 case atStart => exact ⟨0, [], rfl, At.zero _, hit0, hxi⟩
 case round =>
  obtain ⟨pos, ds, hall, hat, hit, hx⟩ := hrel
  clear hit0 hxi
  have HALL := Lib.hid hall
  have HPOS := Lib.hid (iterPos_of hit)
  have hle : pos ≤ s.size := by have := hat.le; simpa using this
  clear hall
  by_cases hlt : pos < s.size
  ·have hnx := hit.next hlt
   have hit2 := hit.at_ (pos + (Utf8.decode s pos).2)
   have hx2 := hx.iterAt (pos := pos + (Utf8.decode s pos).2) (s := s) (Nat.le_refl w.heap.size)
   obtain ⟨bb, hbl, hspl, hat2⟩ := hat.here hlt
   have hp1 := dec_pos s pos hlt
   have HAT2 := Lib.hid hat2
   have HPOS2 := Lib.hid (iterPos_of hit2)
   have HBAD : Hid (userC (Utf8.decode s pos).1 = false → rightU (tl s) = false) := Lib.hid (fun hb => by
    unfold rightU
    rw [hspl, List.all_append, List.all_cons, hb]
    simp)
   clear hat hat2 hspl hbl
   generalize (Utf8.decode s pos).1 = c at *
   generalize (Utf8.decode s pos).2 = W at *
   rcases userC_cases c with ⟨h1, h2, h3⟩ | ⟨h1, h3⟩ | ⟨h1, h2, h3⟩ | ⟨h1, h2, h4, h3⟩ | ⟨h1, h3⟩ | ⟨h1, h2, h4, h3⟩ | ⟨h1, h3⟩ | ⟨h1, h3⟩
   all_goals have HC := Lib.hid h3
   all_goals clear h3
   ·have k1 : (97 : Int) ≤ (c : Int) := by omega
    have k2 : (c : Int) ≤ 122 := by omega
    go_wp2
    go_roundw
    case rel => exact ⟨pos + W, ds ++ [(c, bb)], by rw [List.all_append, HALL.out]; simpa using HC.out, HAT2.out, hit2, hx2⟩
    case measure => rw [HPOS2.out, HPOS.out]; omega
   ·have k1 : (97 : Int) ≤ (c : Int) := by omega
    have k2 : ¬ (c : Int) ≤ 122 := by omega
    have k3 : (48 : Int) ≤ (c : Int) := by omega
    have k4 : ¬ (c : Int) ≤ 57 := by omega
    have k5 : ((c : Int) == 46) = false := beq_eq_false_iff_ne.2 (by omega)
    have k6 : ((c : Int) == 45) = false := beq_eq_false_iff_ne.2 (by omega)
    have k7 : ((c : Int) == 95) = false := beq_eq_false_iff_ne.2 (by omega)
    go_wp2
    go_ret
    exact ⟨by rw [HBAD.out HC.out]; rfl, hx2⟩
   ·have k1 : ¬ (97 : Int) ≤ (c : Int) := by omega
    have k3 : (48 : Int) ≤ (c : Int) := by omega
    have k4 : (c : Int) ≤ 57 := by omega
    go_wp2
    go_roundw
    case rel => exact ⟨pos + W, ds ++ [(c, bb)], by rw [List.all_append, HALL.out]; simpa using HC.out, HAT2.out, hit2, hx2⟩
    case measure => rw [HPOS2.out, HPOS.out]; omega
   ·have k1 : ¬ (97 : Int) ≤ (c : Int) := by omega
    have k3 : (48 : Int) ≤ (c : Int) := by omega
    have k4 : ¬ (c : Int) ≤ 57 := by omega
    have k5 : ((c : Int) == 46) = false := beq_eq_false_iff_ne.2 (by omega)
    have k6 : ((c : Int) == 45) = false := beq_eq_false_iff_ne.2 (by omega)
    have k7 : ((c : Int) == 95) = false := beq_eq_false_iff_ne.2 (by omega)
    go_wp2
    go_ret
    exact ⟨by rw [HBAD.out HC.out]; rfl, hx2⟩
   ·subst h1
    go_wp2
    go_roundw
    case rel => exact ⟨pos + W, ds ++ [(95, bb)], by rw [List.all_append, HALL.out]; simpa using HC.out, HAT2.out, hit2, hx2⟩
    case measure => rw [HPOS2.out, HPOS.out]; omega
   ·have k1 : ¬ (97 : Int) ≤ (c : Int) := by omega
    have k3 : ¬ (48 : Int) ≤ (c : Int) := by omega
    have k5 : ((c : Int) == 46) = false := beq_eq_false_iff_ne.2 (by omega)
    have k6 : ((c : Int) == 45) = false := beq_eq_false_iff_ne.2 (by omega)
    have k7 : ((c : Int) == 95) = false := beq_eq_false_iff_ne.2 (by omega)
    go_wp2
    go_ret
    exact ⟨by rw [HBAD.out HC.out]; rfl, hx2⟩
   ·subst h1
    go_wp2
    go_roundw
    case rel => exact ⟨pos + W, ds ++ [(46, bb)], by rw [List.all_append, HALL.out]; simpa using HC.out, HAT2.out, hit2, hx2⟩
    case measure => rw [HPOS2.out, HPOS.out]; omega
   ·subst h1
    go_wp2
    go_roundw
    case rel => exact ⟨pos + W, ds ++ [(45, bb)], by rw [List.all_append, HALL.out]; simpa using HC.out, HAT2.out, hit2, hx2⟩
    case measure => rw [HPOS2.out, HPOS.out]; omega
  ·have hst := hit.stop hlt
   have HD := Lib.hid (hat.done hlt)
   have HR : Hid (rightU (tl s) = (decide (tl s ≠ []) && decide (s.size ≤ 24))) := Lib.hid (by unfold rightU; rw [HD.out, HALL.out, tl_length]; simp)
   clear hat
   by_cases h0 : s = ⟨#[]⟩
   ·subst h0
    go_wp2
    go_ret
    exact ⟨by rw [HR.out]; rfl, hx⟩
   ·have HNE : Hid (tl s ≠ []) := Lib.hid (fun e => h0 (by rw [← st_tl s, e]; rfl))
    have k0 : s.toList.isEmpty = false := by
     rw [toList_tl]
     cases h : tl s with
     | nil => exact absurd h HNE.out
     | cons a l => rfl
    clear h0
    by_cases h24 : (s.size : Int) ≤ 24
    all_goals
     go_wp2
     go_ret
     exact ⟨by rw [HR.out]; have := HNE.out; simp [this]; omega, hx⟩
theorem Fold_any (l : By) (w : World) (hl : l.length ≤ 140737488355328) : Calls Tryz.prog 95 #[.string (st l)] w fun e w' => e = .returned (.string (st (foldB l))) ∧ Ext w w' := by
 have HS := Same_any (st l) ⟨#[73, 78, 66, 79, 88]⟩ w (by rw [st_size]; exact hl) (by decide)
 have e1 : tl ⟨#[73, 78, 66, 79, 88]⟩ = inboxL := rfl
 rw [tl_st, e1] at HS
 clear e1
 by_cases h : lowL l = lowL inboxL
 ·have HF : Hid (foldB l = inboxL) := Lib.hid (by unfold foldB; rw [if_pos h])
  rw [decide_eq_true h] at HS
  clear h
  go_enter Tryz.func95, Tryz.ntmps95
  go_wp2_with fail
  refine HS.mono ?_
  rintro e w1 ⟨rfl, hx⟩
  go_wp2
  go_ret
  exact ⟨by rw [HF.out]; rfl, hx⟩
 ·have HF : Hid (foldB l = l) := Lib.hid (by unfold foldB; rw [if_neg h])
  rw [decide_eq_false h] at HS
  clear h
  go_enter Tryz.func95, Tryz.ntmps95
  go_wp2_with fail
  refine HS.mono ?_
  rintro e w1 ⟨rfl, hx⟩
  go_wp2
  go_ret
  exact ⟨by rw [HF.out]; rfl, hx⟩
theorem RightBox_any (l : By) (w : World) (hl : l.length ≤ 140737488355328) : Calls Tryz.prog 82 #[.string (st l)] w fun e w' => e = .returned (.bool (rightB l)) ∧ Ext w w' := by
 have HQ := Quote_any (st l) w (by rw [st_size]; exact hl)
 rw [tl_st] at HQ
 have HF := fun W => Fold_any l W hl
 unfold QSays at HQ
 generalize hq1 : (quoteT l).1 = q1 at *
 generalize hq2 : (quoteT l).2.1 = q2 at *
 generalize hq3 : (quoteT l).2.2 = q3 at *
 by_cases h0 : l = []
 ·subst h0
  have HE : Hid (rightB [] = false) := Lib.hid (by simp [rightB])
  go_enter Tryz.func82, Tryz.ntmps82
  go_wp2_with fail
  refine HQ.mono ?_
  rintro e w1 ⟨rfl, hx1⟩
  clear HF hq1 hq2 hq3
  go_wp2
  go_ret
  exact ⟨by rw [HE.out]; rfl, hx1⟩
 ·have k0 : l.isEmpty = false := by cases l with | nil => exact absurd rfl h0 | cons a l => rfl
  by_cases h24 : l.length ≤ 24
  ·have k1 : (l.length : Int) ≤ 24 := by omega
   by_cases he : q3 = 0
   ·subst he
    cases hf : (foldB l == l) with
    | true =>
     have hf' : foldB l = l := by simpa using hf
     have HE : Hid (rightB l = true) := Lib.hid (by unfold rightB; simp [h0, h24, hq3, hf'])
     go_enter Tryz.func82, Tryz.ntmps82
     go_wp2_with fail
     refine HQ.mono ?_
     rintro e w1 ⟨rfl, hx1⟩
     clear hq1 hq2 hq3 h24 h0
     go_wp2_with fail
     refine (HF w1).mono ?_
     rintro e w2 ⟨rfl, hx2⟩
     rw [hf'] at *
     go_wp2
     go_ret
     exact ⟨by rw [HE.out]; rfl, hx1.trans hx2⟩
    | false =>
     have hf' : foldB l ≠ l := by simpa using hf
     have HE : Hid (rightB l = false) := Lib.hid (by unfold rightB; simp [h0, h24, hq3, hf'])
     go_enter Tryz.func82, Tryz.ntmps82
     go_wp2_with fail
     refine HQ.mono ?_
     rintro e w1 ⟨rfl, hx1⟩
     clear hq1 hq2 hq3 h24 h0
     go_wp2_with fail
     refine (HF w1).mono ?_
     rintro e w2 ⟨rfl, hx2⟩
     go_wp2
     go_ret
     exact ⟨by rw [HE.out]; rfl, hx1.trans hx2⟩
   ·have k2 : ((q3 : Int) == 0) = false := by simp; omega
    have HE : Hid (rightB l = false) := Lib.hid (by unfold rightB; simp [h24, hq3, he])
    go_enter Tryz.func82, Tryz.ntmps82
    go_wp2_with fail
    refine HQ.mono ?_
    rintro e w1 ⟨rfl, hx1⟩
    clear hq1 hq2 hq3 h24 h0 HF
    go_wp2
    go_ret
    exact ⟨by rw [HE.out]; rfl, hx1⟩
  ·have k1 : ¬ (l.length : Int) ≤ 24 := by omega
   have HE : Hid (rightB l = false) := Lib.hid (by unfold rightB; simp [h24, hq3])
   go_enter Tryz.func82, Tryz.ntmps82
   go_wp2_with fail
   refine HQ.mono ?_
   rintro e w1 ⟨rfl, hx1⟩
   clear hq1 hq2 hq3 h24 h0 HF
   go_wp2
   go_ret
   exact ⟨by rw [HE.out]; rfl, hx1⟩
/-! ## boxes -/
theorem number_any (n : Int) (w : World) : Calls Tryz.prog 116 #[.int .i64 n] w fun e w' => e = .returned (.bool (numB n)) ∧ w = w' := by
 by_cases h1 : 1 ≤ n
 ·by_cases h2 : n ≤ 4294967295
  all_goals
   go_enter Tryz.func116, Tryz.ntmps116
   go_wp2
   go_ret
   exact ⟨by simp [numB, h1, h2], rfl⟩
 ·go_enter Tryz.func116, Tryz.ntmps116
  go_wp2
  go_ret
  exact ⟨by simp [numB]; omega, rfl⟩
def RLt : Reading Lt where
 says M w cs l := ∃ A cap, cs = (ltC l (.slice A l.bytes.length cap)).toList ∧ BsM M w A l.bytes
 kept := by
  rintro M w w' cs x ⟨A, cap, h1, h2⟩ hx
  exact ⟨A, cap, h1, h2.kept hx⟩
 old := by
  rintro M N w cs x ⟨A, cap, h1, h2⟩ hx
  exact ⟨A, cap, h1, SlM.old h2 hx⟩
def RBx : Reading Bx where
 says M w cs b := ∃ A cap, cs = (bxC b (.slice A b.letters.length cap)).toList ∧ RsM RLt 3 M w A b.letters
 kept := by
  rintro M w w' cs x ⟨A, cap, h1, h2⟩ hx
  exact ⟨A, cap, h1, h2.kept hx⟩
 old := by
  rintro M N w cs x ⟨A, cap, h1, h2⟩ hx
  exact ⟨A, cap, h1, h2.old hx⟩
theorem lettersC_drop (next : Int) (ls : List Lt) (k : Nat) (last : Int) (hk : k < ls.length) : lettersC next (ls.drop k) last = if ls[k].uid ≤ last ∨ next ≤ ls[k].uid then 4 else if 32 ≤ ls[k].flags.toNat then 2 else if 600 < ls[k].bytes.length then 6 else lettersC next (ls.drop (k + 1)) ls[k].uid := by
 rw [List.drop_eq_getElem_cons hk, lettersC]
set_option maxHeartbeats 4000000 in
theorem BCheck_any (b : Bx) (A : Option Addr) (cap : Nat) (w : World) (h : RsM RLt 3 [] w A b.letters) : Calls Tryz.prog 109 #[.agg (bxC b (.slice A b.letters.length cap))] w fun e w' => e = .returned (.int .i64 (boxC b : Nat)) ∧ Ext w w' := by
 have hx0 : Ext w (w.alloc (.cells (bxC b (.slice A b.letters.length cap)) 136)) := (Ext.refl w).alloc _
 have hrow := heap_alloc_new w (.cells (bxC b (.slice A b.letters.length cap)) 136)
 have HV := fun w => number_any b.valid w
 have HN := fun w => number_any b.next w
 obtain ⟨hv, hnv⟩ : ∃ v, v = numB b.valid := ⟨_, rfl⟩
 obtain ⟨hn, hnn⟩ : ∃ v, v = numB b.next := ⟨_, rfl⟩
 rw [← hnv] at HV
 rw [← hnn] at HN
 have HE : Hid (boxC b = if hv = false ∨ hn = false then 2 else if 32 < b.letters.length then 8 else lettersC b.next b.letters 0) := Lib.hid (by rw [hnv, hnn, boxC])
 clear hnv hnn
 obtain ⟨wa, hwa⟩ : ∃ wa, wa = w.alloc (.cells (bxC b (.slice A b.letters.length cap)) 136) := ⟨_, rfl⟩
 rw [← hwa] at hx0 hrow
 obtain ⟨bn, bvv, bnx, bls⟩ := b
 simp only at *
 obtain ⟨C0, C1, C2, C3, FF⟩ := rows4 hrow
 clear FF
 have h := h.kept (.of_ext hx0)
 have HWA := Lib.hid hwa
 clear hwa hrow
 unfold bxC at *
 go_enter Tryz.func109, Tryz.ntmps109
 go_wp2_with fail
 rw [← HWA.out]
 refine (HV wa).mono ?_
 rintro e w1 ⟨rfl, rfl⟩
 cases hv with
 | false =>
  go_wp2
  go_ret
  exact ⟨by rw [HE.out]; rfl, hx0⟩
 | true =>
  go_wp2_with fail
  refine (HN wa).mono ?_
  rintro e w1 ⟨rfl, rfl⟩
  cases hn with
  | false =>
   go_wp2
   go_ret
   exact ⟨by rw [HE.out]; rfl, hx0⟩
  | true =>
   by_cases h32 : 32 < bls.length
   ·have k0 : (32 : Int) < (bls.length : Int) := by omega
    have HB : Hid (boxC ⟨bn, bvv, bnx, bls⟩ = 8) := Lib.hid (by rw [HE.out]; simp [h32])
    clear h32
    go_wp2
    go_ret
    exact ⟨by rw [HB.out]; rfl, hx0⟩
   ·have k0 : ¬ (32 : Int) < (bls.length : Int) := by omega
    have HB : Hid (boxC ⟨bn, bvv, bnx, bls⟩ = lettersC bnx bls 0) := Lib.hid (by rw [HE.out]; simp [h32])
    clear HE HV HN
    go_wp2
    go_loopw [3, 25] (fun lv iv wr => ∃ (k : Nat) (last : Int), iv = .int .i64 k ∧ k ≤ bls.length ∧ lv = .int .i64 last ∧ lettersC bnx (bls.drop k) last = lettersC bnx bls 0 ∧ Ext wa wr) (fun _ iv _ => bls.length - (intOf iv).toNat)
    case atStart => exact ⟨0, 0, rfl, by omega, rfl, rfl, Ext.refl _⟩
    case round =>
     obtain ⟨k, last, rfl, hk, rfl, hc, hx⟩ := hrel
     by_cases hlt : k < bls.length
     ·obtain ⟨ad, cs, rfl, had, hcs, hcell, A2, cap2, rfl, hby⟩ := h.at_ (by omega) hlt
      rw [lettersC_drop _ _ _ _ hlt] at hc
      have HC := Lib.hid hc
      have hlt2 : (k : Int) < bls.length := by omega
      have hcl := fun j v hj => hx.cell (show wa.cell? ((ad.add (k * 3)).add j) = some v by rw [add_addB]; exact hcell j v hj)
      clear hc had hcs hcell hby
      generalize bls[k] = lt at *
      obtain ⟨lu, lf, lb⟩ := lt
      simp only at *
      go_wp2_with (with_reducible first | refine sA 138 ?_ | refine sS 138 ?_ | refine sL 138 ?_ | refine sA 136 ?_ | refine sS 136 ?_ | refine sL 136 ?_)
      refine go_on (wpList_load_elem rfl 138 _ rfl (ad.add (k * 3)) rfl _ _ hcl Tryz.underlying138 rfl (by kernel_rfl) ?_)
      go_wp2_with (with_reducible first | refine sA 138 ?_ | refine sS 138 ?_ | refine sL 138 ?_ | refine sA 136 ?_ | refine sS 136 ?_ | refine sL 136 ?_)
      refine go_on (wpList_alloc_ rfl rfl letter_info ?_)
      go_wp2_with (with_reducible first | refine sA 138 ?_ | refine sS 138 ?_ | refine sL 138 ?_ | refine sA 136 ?_ | refine sS 136 ?_ | refine sL 136 ?_)
      refine go_on (wpList_store_last rfl rfl rfl rfl (by kernel_rfl) rfl (by simp [ltC, Value.oneCell']) ?_)
      intro wb hrowL hxb _
      have hxwb := hx.trans hxb
      obtain ⟨D0, D1, D2, _⟩ := rows3 hrowL
      simp only at D0 D1 D2
      by_cases hu : lu ≤ last
      ·have HB2 : Hid (lettersC bnx bls 0 = 4) := Lib.hid (by rw [← HC.out, if_pos (.inl hu)])
       go_wp2
       go_ret
       exact ⟨by rw [HB.out, HB2.out]; rfl, hx0.trans hxwb⟩
      ·by_cases hu2 : bnx ≤ lu
       ·have HB2 : Hid (lettersC bnx bls 0 = 4) := Lib.hid (by rw [← HC.out, if_pos (.inr hu2)])
        go_wp2
        go_ret
        exact ⟨by rw [HB.out, HB2.out]; rfl, hx0.trans hxwb⟩
       ·have HC2 := Lib.hid (HC.out.symm.trans (if_neg (by omega)))
        clear HC
        by_cases hf : (32 : Int) ≤ (lf.toNat : Int)
        ·have HB2 : Hid (lettersC bnx bls 0 = 2) := Lib.hid (by rw [HC2.out, if_pos (by omega)])
         go_wp2
         go_ret
         exact ⟨by rw [HB.out, HB2.out]; rfl, hx0.trans hxwb⟩
        ·have HC3 := Lib.hid (HC2.out.trans (if_neg (by omega)))
         clear HC2
         by_cases hb : (600 : Int) < (lb.length : Int)
         ·have HB2 : Hid (lettersC bnx bls 0 = 6) := Lib.hid (by rw [HC3.out, if_pos (by omega)])
          go_wp2
          go_ret
          exact ⟨by rw [HB.out, HB2.out]; rfl, hx0.trans hxwb⟩
         ·have HC4 := Lib.hid (HC3.out.trans (if_neg (by omega)))
          clear HC3
          go_wp2
          go_roundw
          case rel => exact ⟨k + 1, lu, by go_num, by omega, rfl, HC4.out.symm, hxwb⟩
          case measure => simp [intOf]; omega
     ·have hd : bls.drop k = [] := List.drop_eq_nil_of_le (by omega)
      rw [hd, lettersC] at hc
      have HC := Lib.hid hc
      clear hc hd
      go_wp2
      go_ret
      exact ⟨by rw [HB.out, ← HC.out]; rfl, hx0.trans hx⟩
end Go.Proofs.YthlppbbejdeeoaaGreatDoor
namespace Go.Proofs.YthlppbbejdeeoaaGreatDoor
open Go.RowKit
theorem lettersC_ok (next : Int) : ∀ (ls : List Lt) (last : Int), lettersC next ls last = 0 → ∀ l ∈ ls, last < l.uid ∧ l.uid < next ∧ l.flags.toNat < 32 ∧ l.bytes.length ≤ 600
 | [], _, _ => by simp
 | x :: ls, last, h => by
  unfold lettersC at h
  split at h
  ·cases h
  ·split at h
   ·cases h
   ·split at h
    ·cases h
    ·intro l hl
     have ih := lettersC_ok next ls x.uid h
     rcases List.mem_cons.1 hl with rfl | hl
     ·omega
     ·have := ih l hl; omega
theorem boxC_ok {b : Bx} (h : boxC b = 0) : numB b.valid = true ∧ numB b.next = true ∧ b.letters.length ≤ 32 ∧ ∀ l ∈ b.letters, 0 < l.uid ∧ l.uid < b.next ∧ l.flags.toNat < 32 ∧ l.bytes.length ≤ 600 := by
 unfold boxC at h
 split at h
 ·cases h
 ·rename_i h1
  split at h
  ·cases h
  ·simp only [not_or, Bool.not_eq_false] at h1
   exact ⟨h1.1, h1.2, by omega, lettersC_ok _ _ _ h⟩
theorem sizeF_take (ls : List Lt) (k : Nat) (hk : k < ls.length) : sizeF 0 (ls.take (k + 1)) = sizeF 0 (ls.take k) + ls[k].bytes.length := by
 unfold sizeF
 rw [List.take_succ_eq_append_getElem hk, List.foldl_append]
 rfl
theorem sizeF_le (ls : List Lt) (h : ∀ l ∈ ls, l.bytes.length ≤ 600) : ∀ k, k ≤ ls.length → sizeF 0 (ls.take k) ≤ 600 * k
 | 0, _ => by simp [sizeF]
 | k + 1, hk => by
  have ih := sizeF_le ls h k (by omega)
  have h2 := h _ (List.getElem_mem (show k < ls.length by omega))
  rw [sizeF_take ls k (by omega)]
  omega
set_option maxHeartbeats 2000000 in
theorem BSize_any (b : Bx) (A : Option Addr) (cap : Nat) (w : World) (h : RsM RLt 3 [] w A b.letters) (h32 : b.letters.length ≤ 32) (h600 : ∀ l ∈ b.letters, l.bytes.length ≤ 600) :
 Calls Tryz.prog 110 #[.agg (bxC b (.slice A b.letters.length cap))] w fun e w' => e = .returned (.int .i64 (sizeB b : Nat)) ∧ Ext w w' := by
 have hx0 : Ext w (w.alloc (.cells (bxC b (.slice A b.letters.length cap)) 136)) := (Ext.refl w).alloc _
 have hrow := heap_alloc_new w (.cells (bxC b (.slice A b.letters.length cap)) 136)
 obtain ⟨wa, hwa⟩ : ∃ wa, wa = w.alloc (.cells (bxC b (.slice A b.letters.length cap)) 136) := ⟨_, rfl⟩
 rw [← hwa] at hx0 hrow
 obtain ⟨bn, bvv, bnx, bls⟩ := b
 simp only at *
 obtain ⟨C0, C1, C2, C3, FF⟩ := rows4 hrow
 clear FF
 have h := h.kept (.of_ext hx0)
 have HWA := Lib.hid hwa
 clear hwa hrow
 unfold bxC at *
 go_enter Tryz.func110, Tryz.ntmps110
 go_wp2
 rw [← HWA.out]
 go_loopw [3, 9] (fun nv iv wr => ∃ (k : Nat), iv = .int .i64 k ∧ k ≤ bls.length ∧ nv = .int .i64 (sizeF 0 (bls.take k) : Nat) ∧ Ext wa wr) (fun _ iv _ => bls.length - (intOf iv).toNat)
 case atStart => exact ⟨0, rfl, by omega, rfl, Ext.refl _⟩
 case round =>
  obtain ⟨k, rfl, hk, rfl, hx⟩ := hrel
  by_cases hlt : k < bls.length
  ·obtain ⟨ad, cs, rfl, had, hcs, hcell, A2, cap2, rfl, hby⟩ := h.at_ (by omega) hlt
   have hle := sizeF_le bls h600 k hk
   have h6 := h600 _ (List.getElem_mem hlt)
   have HT := Lib.hid (sizeF_take bls k hlt)
   generalize sizeF 0 (bls.take k) = n0 at *
   have hlt2 : (k : Int) < bls.length := by omega
   have hcl := fun j v hj => hx.cell (show wa.cell? ((ad.add (k * 3)).add j) = some v by rw [add_addB]; exact hcell j v hj)
   clear had hcs hcell hby
   generalize bls[k] = lt at *
   obtain ⟨lu, lf, lb⟩ := lt
   simp only at *
   go_wp2_with (with_reducible first | refine sA 138 ?_ | refine sS 138 ?_ | refine sL 138 ?_ | refine sA 136 ?_ | refine sS 136 ?_ | refine sL 136 ?_)
   refine go_on (wpList_load_elem rfl 138 _ rfl (ad.add (k * 3)) rfl _ _ hcl Tryz.underlying138 rfl (by kernel_rfl) ?_)
   go_wp2_with (with_reducible first | refine sA 138 ?_ | refine sS 138 ?_ | refine sL 138 ?_ | refine sA 136 ?_ | refine sS 136 ?_ | refine sL 136 ?_)
   refine go_on (wpList_alloc_ rfl rfl letter_info ?_)
   go_wp2_with (with_reducible first | refine sA 138 ?_ | refine sS 138 ?_ | refine sL 138 ?_ | refine sA 136 ?_ | refine sS 136 ?_ | refine sL 136 ?_)
   refine go_on (wpList_store_last rfl rfl rfl rfl (by kernel_rfl) rfl (by simp [ltC, Value.oneCell']) ?_)
   intro wb hrowL hxb _
   have hxwb := hx.trans hxb
   obtain ⟨D0, D1, D2, _⟩ := rows3 hrowL
   simp only at D0 D1 D2
   go_wp2
   go_roundw
   case rel => exact ⟨k + 1, by go_num, by omega, by rw [HT.out]; go_num, hxwb⟩
   case measure => simp [intOf]; omega
  ·have HT : Hid (sizeF 0 (bls.take k) = sizeB ⟨bn, bvv, bnx, bls⟩) := Lib.hid (by rw [List.take_of_length_le (by omega)]; rfl)
   go_wp2
   go_ret
   exact ⟨by rw [← HT.out]; rfl, hx0.trans hx⟩
/-! ## users -/
theorem inbox_dec (bn : By) : (bn == [73, 78, 66, 79, 88]) = decide (bn = inboxL) := by
 rw [Bool.eq_iff_iff, beq_iff_eq]
 exact Iff.symm decide_eq_true_iff
def prevN (bs : List Bx) : Nat → Option By
 | 0 => none
 | k + 1 => (bs[k]?).map (·.name)
theorem boxesC_drop (valid : Int) (bs : List Bx) (k : Nat) (t : Tot) (hk : k < bs.length) : boxesC valid (bs.drop k) (prevN bs k) t =
 if oneC valid (prevN bs k) bs[k] ≠ 0 then oneC valid (prevN bs k) bs[k] else boxesC valid (bs.drop (k + 1)) (prevN bs (k + 1)) (t.add bs[k]) := by
 have e : prevN bs (k + 1) = some bs[k].name := by simp [prevN, hk]
 rw [List.drop_eq_getElem_cons hk, boxesC, e]
theorem oneC_form {valid : Int} {prev : Option By} {b : Bx} (h : rightB b.name = false ∨ behindB prev b.name = true) : oneC valid prev b = 4 := by unfold oneC; rw [if_pos h]
theorem oneC_box {valid : Int} {prev : Option By} {b : Bx} (h : rightB b.name = true) (h2 : behindB prev b.name = false) : oneC valid prev b = if boxC b ≠ 0 then boxC b else if valid < b.valid then 2 else 0 := by unfold oneC; rw [if_neg (by simp [h, h2])]
set_option maxRecDepth 20000 in
set_option maxHeartbeats 8000000 in
theorem CheckUser_any (u : Us) (A : Option Addr) (cap : Nat) (w : World) (h : RsM RBx 4 [] w A u.boxes) (hn : u.name.length ≤ 140737488355328) (hbn : ∀ b ∈ u.boxes, b.name.length ≤ 140737488355328) :
 Calls Tryz.prog 97 #[.agg (usC u (.slice A u.boxes.length cap))] w fun e w' => e = .returned (.int .i64 (checkU u : Nat)) ∧ Ext w w' := by
 have hx0 : Ext w (w.alloc (.cells (usC u (.slice A u.boxes.length cap)) 116)) := (Ext.refl w).alloc _
 have hrow := heap_alloc_new w (.cells (usC u (.slice A u.boxes.length cap)) 116)
 obtain ⟨wa, hwa⟩ : ∃ wa, wa = w.alloc (.cells (usC u (.slice A u.boxes.length cap)) 116) := ⟨_, rfl⟩
 rw [← hwa] at hx0 hrow
 obtain ⟨un, uv, bs⟩ := u
 simp only at *
 obtain ⟨C0, C1, C2, FF⟩ := rows3 hrow
 clear FF
 have h := h.kept (.of_ext hx0)
 have HWA := Lib.hid hwa
 have HRU := fun w => RightUser_any (st un) w (by rw [st_size]; exact hn)
 rw [tl_st] at HRU
 have HE : Hid (checkU ⟨un, uv, bs⟩ = if rightU un = false then 4 else if uv < 1 ∨ 4294967295 < uv then 2 else if bs.length = 0 ∨ 6 < bs.length then 8 else boxesC uv bs none ⟨0, 0, false⟩) := Lib.hid rfl
 clear hwa hrow
 unfold usC at *
 go_enter Tryz.func97, Tryz.ntmps97
 go_wp2_with fail
 rw [← HWA.out]
 refine (HRU wa).mono ?_
 rintro e w1 ⟨rfl, hx1⟩
 cases hru : rightU un with
 | false =>
  have HB : Hid (checkU ⟨un, uv, bs⟩ = 4) := Lib.hid (by rw [HE.out, hru]; rfl)
  clear hru HE
  go_wp2
  go_ret
  exact ⟨by rw [HB.out]; rfl, hx0.trans hx1⟩
 | true =>
  have HE2 : Hid (checkU ⟨un, uv, bs⟩ = if uv < 1 ∨ 4294967295 < uv then 2 else if bs.length = 0 ∨ 6 < bs.length then 8 else boxesC uv bs none ⟨0, 0, false⟩) := Lib.hid (by rw [HE.out, hru]; rfl)
  clear hru HE HRU
  by_cases hv1 : uv < 1
  ·have HB : Hid (checkU ⟨un, uv, bs⟩ = 2) := Lib.hid (by rw [HE2.out, if_pos (.inl hv1)])
   go_wp2
   go_ret
   exact ⟨by rw [HB.out]; rfl, hx0.trans hx1⟩
  ·by_cases hv2 : 4294967295 < uv
   ·have HB : Hid (checkU ⟨un, uv, bs⟩ = 2) := Lib.hid (by rw [HE2.out, if_pos (.inr hv2)])
    go_wp2
    go_ret
    exact ⟨by rw [HB.out]; rfl, hx0.trans hx1⟩
   ·have HE3 := Lib.hid (HE2.out.trans (if_neg (by omega)))
    clear HE2
    by_cases hl0 : bs.length = 0
    ·have HB : Hid (checkU ⟨un, uv, bs⟩ = 8) := Lib.hid (by rw [HE3.out, if_pos (.inl hl0)])
     have k0 : ((bs.length : Int) == 0) = true := by simp [hl0]
     clear hl0
     go_wp2
     go_ret
     exact ⟨by rw [HB.out]; rfl, hx0.trans hx1⟩
    ·have k0 : ((bs.length : Int) == 0) = false := by simpa using hl0
     by_cases hl6 : (6 : Int) < (bs.length : Int)
     ·have HB : Hid (checkU ⟨un, uv, bs⟩ = 8) := Lib.hid (by rw [HE3.out, if_pos (.inr (by omega))])
      go_wp2
      go_ret
      exact ⟨by rw [HB.out]; rfl, hx0.trans hx1⟩
     ·have HU := Lib.hid (HE3.out.trans (if_neg (by omega)))
      clear HE3
      have hl6' : bs.length ≤ 6 := by omega
      clear hl0
      go_wp2
      go_loopw [3, 4, 5, 37] (fun lv sv fv iv wr => ∃ (k : Nat) (t : Tot), iv = .int .i64 k ∧ k ≤ bs.length ∧ lv = .int .i64 (t.letters : Nat) ∧ sv = .int .i64 (t.size : Nat) ∧ fv = .bool t.found ∧ t.letters ≤ 32 * k ∧ t.size ≤ 19200 * k ∧ boxesC uv (bs.drop k) (prevN bs k) t = boxesC uv bs none ⟨0, 0, false⟩ ∧ Ext wa wr) (fun _ _ _ iv _ => bs.length - (intOf iv).toNat)
      case atStart => exact ⟨0, ⟨0, 0, false⟩, rfl, by omega, rfl, rfl, rfl, by simp, by simp, rfl, hx1⟩
      case round =>
       clear hx1
       obtain ⟨k, t, rfl, hk, rfl, rfl, rfl, hb1, hb2, hrun, hx⟩ := hrel
       obtain ⟨tl_, ts, tf⟩ := t
       simp only at *
       by_cases hlt : k < bs.length
       ·rw [boxesC_drop _ _ _ _ hlt] at hrun
        have HC := Lib.hid hrun
        clear hrun
        obtain ⟨ad, cs, hA, had, hcs, hcell, A2, cap2, hcs2, hby⟩ := h.at_ (by omega) hlt
        subst hA hcs2
        have HRB := fun w => RightBox_any bs[k].name w (hbn _ (List.getElem_mem hlt))
        have HBC := fun w' (hx' : Ext wa w') => BCheck_any bs[k] A2 cap2 w' (hby.kept (.of_ext hx'))
        have HBZ := fun w' (hx' : Ext wa w') => BSize_any bs[k] A2 cap2 w' (hby.kept (.of_ext hx'))
        have hlt2 : (k : Int) < bs.length := by omega
        have hcl := fun j v hj => hx.cell (show wa.cell? ((ad.add (k * 4)).add j) = some v by rw [add_addB]; exact hcell j v hj)
        have hbh0 := fun (e : k = 0) => (by subst e; rfl : behindB (prevN bs k) bs[k].name = false)
        have hbh1 := fun (k' : Nat) (e : k = k' + 1) (hk' : k' < bs.length) => (by subst e; simp [behindB, prevN, hk'] : behindB (prevN bs k) bs[k].name = leB bs[k].name bs[k'].name)
        clear hcs hcell hby had hbn
        generalize bs[k] = bb at *
        obtain ⟨bn, bval, bnx, bls⟩ := bb
        unfold bxC at HBC HBZ hcl
        try simp only at hcl HBC HBZ HRB
        go_wp2_with (with_reducible first | refine sA 138 ?_ | refine sS 138 ?_ | refine sL 138 ?_ | refine sA 136 ?_ | refine sS 136 ?_ | refine sL 136 ?_)
        refine go_on (wpList_load_elem rfl 136 _ rfl (ad.add (k * 4)) rfl _ _ hcl Tryz.underlying136 rfl (by kernel_rfl) ?_)
        go_wp2_with (with_reducible first | refine sA 138 ?_ | refine sS 138 ?_ | refine sL 138 ?_ | refine sA 136 ?_ | refine sS 136 ?_ | refine sL 136 ?_)
        refine go_on (wpList_alloc_ rfl rfl box_info ?_)
        go_wp2_with (with_reducible first | refine sA 138 ?_ | refine sS 138 ?_ | refine sL 138 ?_ | refine sA 136 ?_ | refine sS 136 ?_ | refine sL 136 ?_)
        refine go_on (wpList_store_last rfl rfl rfl rfl (by kernel_rfl) rfl (by simp [Value.oneCell']) ?_)
        intro wb hrowB hxb _
        have hxwb := hx.trans hxb
        obtain ⟨D0, D1, D2, D3, _⟩ := rows4 hrowB
        try simp only at D0 D1 D2 D3
        have C1' := fun w' hx' => C1 w' (Ext.trans hxwb hx')
        have C2' := fun w' hx' => C2 w' (Ext.trans hxwb hx')
        have hxn : Ext wb wb.drew := (Ext.refl _).drew
        have HC2 := HC
        clear C0 C1 C2 hcl hx hxb
        cases hrb : rightB bn with
        | false =>
         go_wp2_with fail
         refine wp_region_phase (S := fun w' => Ext wb w') 19 (by kernel_rfl) (by kernel_rfl) ?_ (fun hHeld => ?_)
         ·exact hxn
         simp only [List.drop_succ_cons, List.drop_zero]
         refine name_head ?_
         intro wr0 hw0
         rw [hw0] at hHeld
         refine wt 0 _ ?_
         simp only [red, Act.put]
         refine wt 1 _ ?_
         simp only [red, Act.put]
         refine rd [2] ?_
         refine ac (fun K hK => ?_) ?_
         ·refine step_callG (by rfl) (by kernel_rfl) (HRB _) ?_
          rintro e wr2 ⟨rfl, hx2⟩
          rw [hrb]
          refine ⟨_, rfl, ?_⟩
          refine hK.out _ _ ?_ (fun hHeld => ?_)
          ·exact hHeld.trans hx2
          clear hK K
          try simp only [red, Act.put]
          refine wt 3 _ ?_
          simp only [red, Act.put]
          refine wt 4 _ ?_
          simp only [red, Act.put]
          refine ws 5 ?_
          simp only [red, Act.put]
          refine ws 6 ?_
          simp only [red, Act.put]
          refine ws 7 ?_
          simp only [red, Act.put]
          refine ws 8 ?_
          simp only [red, Act.put]
          refine ws 9 ?_
          simp only [red, Act.put]
          refine ws 10 ?_
          simp only [red, Act.put]
          refine ws 11 ?_
          simp only [red, Act.put]
          refine ws 12 ?_
          simp only [red, Act.put]
          refine ws 13 ?_
          simp only [red, Act.put]
          refine ws 14 ?_
          simp only [red, Act.put]
          refine ws 15 ?_
          simp only [red, Act.put]
          refine ws 16 ?_
          simp only [red, Act.put]
          refine ws 17 ?_
          simp only [red, Act.put]
          refine ws 18 ?_
          simp only [red, Act.put]
          refine wpHead_done (by kernel_rfl) ?_
          skip
          have HB2 : Hid (checkU ⟨un, uv, bs⟩ = 4) := Lib.hid (by rw [HU.out, ← HC.out, oneC_form (.inl hrb)]; rfl)
          go_wp2
          go_ret
          exact ⟨by rw [HB2.out]; rfl, (hx0.trans hxwb).trans hHeld⟩
         exact AllHead.nil
        | true =>
         have HRT := Lib.hid hrb
         have HRB2 : ∀ (w : World), Calls Tryz.prog 82 #[.string (st bn)] w fun e w' => e = .returned (.bool true) ∧ Ext w w' := fun w => by have := HRB w; rwa [hrb] at this
         clear HRB hrb
         rcases (by cases k with | zero => exact .inl rfl | succ k' => exact .inr ⟨k', rfl⟩ : k = 0 ∨ ∃ k', k = k' + 1) with rfl | ⟨k', rfl⟩
         ·
          have HBH := Lib.hid (hbh0 rfl)
          clear hbh0 hbh1
          go_wp2_with fail
          refine wp_region_phase (S := fun w' => Ext wb w') 19 (by kernel_rfl) (by kernel_rfl) ?_ (fun hHeld => ?_)
          ·exact hxn
          simp only [List.drop_succ_cons, List.drop_zero]
          refine name_head ?_
          intro wr0 hw0
          rw [hw0] at hHeld
          refine wt 0 _ ?_
          simp only [red, Act.put]
          refine wt 1 _ ?_
          simp only [red, Act.put]
          refine rd [2] ?_
          refine ac (fun K hK => ?_) ?_
          ·refine step_callG (by rfl) (by kernel_rfl) (HRB2 _) ?_
           rintro e wr2 ⟨rfl, hx2⟩
           refine ⟨_, rfl, ?_⟩
           refine hK.out _ _ ?_ (fun hHeld => ?_)
           ·exact hHeld.trans hx2
           clear hK K
           try simp only [red, Act.put]
           refine wt 3 _ ?_
           simp only [red, Act.put]
           refine wt 4 _ ?_
           simp only [red, Act.put]
           refine wt 5 _ ?_
           simp only [red, Act.put]
           refine wt 6 _ ?_
           simp only [red, Act.put]
           refine wt 7 _ ?_
           simp only [red, Act.put]
           refine ws 8 ?_
           simp only [red, Act.put]
           refine ws 9 ?_
           simp only [red, Act.put]
           refine ws 10 ?_
           simp only [red, Act.put]
           refine ws 11 ?_
           simp only [red, Act.put]
           refine ws 12 ?_
           simp only [red, Act.put]
           refine ws 13 ?_
           simp only [red, Act.put]
           refine ws 14 ?_
           simp only [red, Act.put]
           refine ws 15 ?_
           simp only [red, Act.put]
           refine ws 16 ?_
           simp only [red, Act.put]
           refine ws 17 ?_
           simp only [red, Act.put]
           refine wt 18 _ ?_
           simp only [red, Act.put]
           refine wpHead_done (by kernel_rfl) ?_
           skip
           have HOB := Lib.hid (oneC_box (valid := uv) (b := ⟨bn, bval, bnx, bls⟩) HRT.out HBH.out)
           go_wp2_with (with_reducible refine sL 136 ?_)
           refine go_on (wpList_load_row rfl 136 _ rfl wr.heap.size rfl 136 _ (0, 0) _ (Ext.obj hrowB hHeld) Tryz.underlying136 rfl (by kernel_rfl) ?_)
           go_wp2_with fail
           refine (HBC _ ((hxwb).trans hHeld)).mono ?_
           rintro e w5 ⟨rfl, hx5⟩
           have hx5b := Ext.trans hHeld hx5
           clear hx5
           by_cases hbc : boxC ⟨bn, bval, bnx, bls⟩ = 0
           ·rw [hbc]
            have HBX := Lib.hid hbc
            have HO2 := Lib.hid (HOB.out.trans (if_neg (by simpa using hbc)))
            clear HOB hbc
            by_cases hvv : uv < bval
            ·have HB2 : Hid (checkU ⟨un, uv, bs⟩ = 2) := Lib.hid (by rw [HU.out, ← HC.out, HO2.out, if_pos hvv]; rfl)
             go_wp2
             go_ret
             exact ⟨by rw [HB2.out]; rfl, (hx0.trans hxwb).trans hx5b⟩
            ·have HC2 : Hid (boxesC uv (bs.drop (0 + 1)) (prevN bs (0 + 1)) (Tot.add ⟨tl_, ts, tf⟩ ⟨bn, bval, bnx, bls⟩) = boxesC uv bs none ⟨0, 0, false⟩) := Lib.hid (by rw [← HC.out, HO2.out, if_neg hvv]; simp)
             obtain ⟨_, _, hok3, hok4⟩ := boxC_ok HBX.out
             have HBS := fun w' hx' => HBZ w' hx' hok3 (fun l hl => (hok4 l hl).2.2.2)
             have hszle : sizeB ⟨bn, bval, bnx, bls⟩ ≤ 19200 := by
              have := sizeF_le bls (fun l hl => (hok4 l hl).2.2.2) bls.length (Nat.le_refl _)
              rw [List.take_length] at this
              have h3 : bls.length ≤ 32 := hok3
              show sizeF 0 bls ≤ 19200
              omega
             have h3 : bls.length ≤ 32 := hok3
             have HSZ : Hid (∃ z, sizeB ⟨bn, bval, bnx, bls⟩ = z) := Lib.hid ⟨_, rfl⟩
             obtain ⟨sz, hsz⟩ := HSZ.out
             rw [hsz] at HBS hszle
             have HSZ2 := Lib.hid hsz
             have e1 : IntKind.i64.wrap ((tl_ : Int) + (bls.length : Int)) = (tl_ : Int) + (bls.length : Int) := wrap64_nat (tl_ + bls.length) (by omega)
             have e2 : IntKind.i64.wrap ((ts : Int) + (sz : Int)) = (ts : Int) + (sz : Int) := wrap64_nat (ts + sz) (by omega)
             have HRANGE : ∀ w', Ext wb w' → w'.rangeAt wr.heap.size 0 [Value.string (st bn), .int .i64 bval, .int .i64 bnx, .slice A2 bls.length cap2] := fun w' hx' j v hj => by
              rw [Nat.zero_add, cell_of_row w' _ j _ _ _ (hx'.obj hrowB)]
              simpa using hj
             have hxn5 := hx5b.drew
             clear hok3 hok4 hsz HBZ HSZ
             cases tf with
             | true =>
              go_wp2_with fail
              refine wp_region_phase (S := fun w' => Ext wb w') 17 (by kernel_rfl) (by kernel_rfl) ?_ (fun hHeld => ?_)
              ·exact hxn5
              simp only [List.drop_succ_cons, List.drop_zero]
              refine name_head ?_
              intro wr0 hw0
              rw [hw0] at hHeld
              refine wt 0 _ ?_
              simp only [red, Act.put]
              refine wt 1 _ ?_
              simp only [red, Act.put]
              refine wt 2 _ ?_
              simp only [red, Act.put]
              refine wt 3 _ ?_
              simp only [red, Act.put]
              refine wt 4 _ ?_
              simp only [red, Act.put]
              refine wt 5 _ ?_
              simp only [red, Act.put]
              refine wy 6 (v := .agg #[.string (st bn), .int .i64 bval, .int .i64 bnx, .slice A2 bls.length cap2]) (by rfl) (by exact yieldsIf_load_mid (by rfl) 136 _ rfl wr.heap.size 0 rfl [.string (st bn), .int .i64 bval, .int .i64 bnx, .slice A2 bls.length cap2] _ HRANGE Tryz.underlying136 rfl (by kernel_rfl)) ?_
              simp only [red, Act.put]
              refine wt 9 _ ?_
              simp only [red, Act.put]
              refine rd [7] ?_
              refine ac (fun K hK => ?_) ?_
              ·refine step_callG (by rfl) (by kernel_rfl) (HBS _ (hxwb.trans hHeld)) ?_
               rintro e wr7 ⟨rfl, hx7⟩
               refine ⟨_, rfl, ?_⟩
               refine hK.out _ _ ?_ (fun hHeld => ?_)
               ·exact hHeld.trans hx7
               clear hK K
               try simp only [red, Act.put]
               refine wt 8 _ ?_
               simp only [red, Act.put]
               refine wt 10 _ ?_
               simp only [red, Act.put]
               refine ws 11 ?_
               simp only [red, Act.put]
               refine ws 12 ?_
               simp only [red, Act.put]
               refine ws 13 ?_
               simp only [red, Act.put]
               refine wt 14 _ ?_
               simp only [red, Act.put]
               refine wt 15 _ ?_
               simp only [red, Act.put]
               refine wt 16 _ ?_
               simp only [red, Act.put]
               refine wpHead_done (by kernel_rfl) ?_
               go_wp2
               go_roundw
               case rel => exact ⟨0 + 1, Tot.add ⟨tl_, ts, true⟩ ⟨bn, bval, bnx, bls⟩, by go_num, by omega, by simp [Tot.add], by simp [Tot.add, HSZ2.out], by simp [Tot.add], by simp only [Tot.add]; omega, by simp only [Tot.add, HSZ2.out]; omega, HC2.out, hxwb.trans hHeld⟩
               case measure => simp [intOf]; omega
              exact AllHead.nil
             | false =>
              go_wp2_with fail
              refine wp_region_phase (S := fun w' => Ext wb w') 17 (by kernel_rfl) (by kernel_rfl) ?_ (fun hHeld => ?_)
              ·exact hxn5
              simp only [List.drop_succ_cons, List.drop_zero]
              refine name_head ?_
              intro wr0 hw0
              rw [hw0] at hHeld
              refine wt 0 _ ?_
              simp only [red, Act.put]
              refine wt 1 _ ?_
              simp only [red, Act.put]
              refine wt 2 _ ?_
              simp only [red, Act.put]
              refine wt 3 _ ?_
              simp only [red, Act.put]
              refine wt 4 _ ?_
              simp only [red, Act.put]
              refine wt 5 _ ?_
              simp only [red, Act.put]
              refine wy 6 (v := .agg #[.string (st bn), .int .i64 bval, .int .i64 bnx, .slice A2 bls.length cap2]) (by rfl) (by exact yieldsIf_load_mid (by rfl) 136 _ rfl wr.heap.size 0 rfl [.string (st bn), .int .i64 bval, .int .i64 bnx, .slice A2 bls.length cap2] _ HRANGE Tryz.underlying136 rfl (by kernel_rfl)) ?_
              simp only [red, Act.put]
              refine wt 9 _ ?_
              simp only [red, Act.put]
              refine rd [7] ?_
              refine ac (fun K hK => ?_) ?_
              ·refine step_callG (by rfl) (by kernel_rfl) (HBS _ (hxwb.trans hHeld)) ?_
               rintro e wr7 ⟨rfl, hx7⟩
               refine ⟨_, rfl, ?_⟩
               refine hK.out _ _ ?_ (fun hHeld => ?_)
               ·exact hHeld.trans hx7
               clear hK K
               try simp only [red, Act.put]
               refine wt 8 _ ?_
               simp only [red, Act.put]
               refine wt 10 _ ?_
               simp only [red, Act.put]
               refine wt 11 _ ?_
               simp only [red, Act.put]
               refine wt 12 _ ?_
               simp only [red, Act.put]
               refine wt 13 _ ?_
               simp only [red, Act.put]
               refine wt 14 _ ?_
               simp only [red, Act.put]
               refine wt 15 _ ?_
               simp only [red, Act.put]
               refine wt 16 _ ?_
               simp only [red, Act.put]
               refine wpHead_done (by kernel_rfl) ?_
               go_wp2
               go_roundw
               case rel => exact ⟨0 + 1, Tot.add ⟨tl_, ts, false⟩ ⟨bn, bval, bnx, bls⟩, by go_num, by omega, by simp [Tot.add], by simp [Tot.add, HSZ2.out], by simp only [Tot.add, Bool.false_or]; exact congrArg Value.bool (inbox_dec bn), by simp only [Tot.add]; omega, by simp only [Tot.add, HSZ2.out]; omega, HC2.out, hxwb.trans hHeld⟩
               case measure => simp [intOf]; omega
              exact AllHead.nil
           ·have hbc2 : (((boxC ⟨bn, bval, bnx, bls⟩ : Nat) : Int) == 0) = false := by simpa using hbc
            have HB2 : Hid (checkU ⟨un, uv, bs⟩ = boxC ⟨bn, bval, bnx, bls⟩) := Lib.hid (by rw [HU.out, ← HC.out, HOB.out]; simp [hbc])
            generalize boxC ⟨bn, bval, bnx, bls⟩ = z at *
            go_wp2
            go_ret
            exact ⟨by rw [HB2.out]; rfl, (hx0.trans hxwb).trans hx5b⟩
          exact AllHead.nil
         ·
          have hk'lt : k' < bs.length := by omega
          have HBH := Lib.hid (hbh1 k' rfl hk'lt)
          clear hbh0 hbh1
          obtain ⟨ad', cs', hA', _, _, hcell', A3, cap3, hcs3, _⟩ := h.at_ (by omega) hk'lt
          cases hA'
          subst hcs3
          have E0 : ∀ w', Ext wb w' → w'.cell? (ad.add (k' * 4)) = some (.string (st bs[k'].name)) := fun w' hx' => (hxwb.trans hx').cell (hcell' 0 _ rfl)
          have hsub : ((k' + 1 : Nat) : Int) - 1 = (k' : Int) := by omega
          have hwk : IntKind.i64.wrap (k' : Int) = (k' : Int) := wrap64_nat k' (by omega)
          have hk'2 : (k' : Int) < bs.length := by omega
          have hgt : (0 : Int) < ((k' + 1 : Nat) : Int) := by omega
          clear hcell'
          generalize bs[k'].name = pn at *
          cases hle : leB bn pn with
          | true =>
           have hle2 : (Op.bytesLess bn pn || bn == pn) = true := hle
           rw [hle] at HBH
           go_wp2_with fail
           refine wp_region_phase (S := fun w' => Ext wb w') 19 (by kernel_rfl) (by kernel_rfl) ?_ (fun hHeld => ?_)
           ·exact hxn
           simp only [List.drop_succ_cons, List.drop_zero]
           refine name_head ?_
           intro wr0 hw0
           rw [hw0] at hHeld
           refine wt 0 _ ?_
           simp only [red, Act.put]
           refine wt 1 _ ?_
           simp only [red, Act.put]
           refine rd [2] ?_
           refine ac (fun K hK => ?_) ?_
           ·refine step_callG (by rfl) (by kernel_rfl) (HRB2 _) ?_
            rintro e wr2 ⟨rfl, hx2⟩
            refine ⟨_, rfl, ?_⟩
            refine hK.out _ _ ?_ (fun hHeld => ?_)
            ·exact hHeld.trans hx2
            clear hK K
            try simp only [red, Act.put]
            refine wt 3 _ ?_
            simp only [red, Act.put]
            refine wt 4 _ ?_
            simp only [red, Act.put]
            refine wt 5 _ ?_
            simp only [red, Act.put]
            refine wt 6 _ ?_
            simp only [red, Act.put]
            refine wt 7 _ ?_
            simp only [red, Act.put]
            refine wt 8 _ ?_
            simp only [red, Act.put]
            refine wt 9 _ ?_
            simp only [red, Act.put]
            refine wt 10 _ ?_
            simp only [red, Act.put]
            refine wt 11 _ ?_
            simp only [red, Act.put]
            refine wt 12 _ ?_
            simp only [red, Act.put]
            refine wt 13 _ ?_
            simp only [red, Act.put]
            refine wt 14 _ ?_
            simp only [red, Act.put]
            refine wt 15 _ ?_
            simp only [red, Act.put]
            refine wt 16 _ ?_
            simp only [red, Act.put]
            refine wt 17 _ ?_
            simp only [red, Act.put]
            refine wt 18 _ ?_
            simp only [red, Act.put]
            refine wpHead_done (by kernel_rfl) ?_
            skip
            have HB2 : Hid (checkU ⟨un, uv, bs⟩ = 4) := Lib.hid (by rw [HU.out, ← HC.out, oneC_form (.inr HBH.out)]; rfl)
            go_wp2
            go_ret
            exact ⟨by rw [HB2.out]; rfl, (hx0.trans hxwb).trans hHeld⟩
           exact AllHead.nil
          | false =>
           have hle2 : (Op.bytesLess bn pn || bn == pn) = false := hle
           rw [hle] at HBH
           go_wp2_with fail
           refine wp_region_phase (S := fun w' => Ext wb w') 19 (by kernel_rfl) (by kernel_rfl) ?_ (fun hHeld => ?_)
           ·exact hxn
           simp only [List.drop_succ_cons, List.drop_zero]
           refine name_head ?_
           intro wr0 hw0
           rw [hw0] at hHeld
           refine wt 0 _ ?_
           simp only [red, Act.put]
           refine wt 1 _ ?_
           simp only [red, Act.put]
           refine rd [2] ?_
           refine ac (fun K hK => ?_) ?_
           ·refine step_callG (by rfl) (by kernel_rfl) (HRB2 _) ?_
            rintro e wr2 ⟨rfl, hx2⟩
            refine ⟨_, rfl, ?_⟩
            refine hK.out _ _ ?_ (fun hHeld => ?_)
            ·exact hHeld.trans hx2
            clear hK K
            try simp only [red, Act.put]
            refine wt 3 _ ?_
            simp only [red, Act.put]
            refine wt 4 _ ?_
            simp only [red, Act.put]
            refine wt 5 _ ?_
            simp only [red, Act.put]
            refine wt 6 _ ?_
            simp only [red, Act.put]
            refine wt 7 _ ?_
            simp only [red, Act.put]
            refine wt 8 _ ?_
            simp only [red, Act.put]
            refine wt 9 _ ?_
            simp only [red, Act.put]
            refine wt 10 _ ?_
            simp only [red, Act.put]
            refine wt 11 _ ?_
            simp only [red, Act.put]
            refine wt 12 _ ?_
            simp only [red, Act.put]
            refine wt 13 _ ?_
            simp only [red, Act.put]
            refine wt 14 _ ?_
            simp only [red, Act.put]
            refine wt 15 _ ?_
            simp only [red, Act.put]
            refine wt 16 _ ?_
            simp only [red, Act.put]
            refine wt 17 _ ?_
            simp only [red, Act.put]
            refine wt 18 _ ?_
            simp only [red, Act.put]
            refine wpHead_done (by kernel_rfl) ?_
            skip
            have HOB := Lib.hid (oneC_box (valid := uv) (b := ⟨bn, bval, bnx, bls⟩) HRT.out HBH.out)
            go_wp2_with (with_reducible refine sL 136 ?_)
            refine go_on (wpList_load_row rfl 136 _ rfl wr.heap.size rfl 136 _ (0, 0) _ (Ext.obj hrowB hHeld) Tryz.underlying136 rfl (by kernel_rfl) ?_)
            go_wp2_with fail
            refine (HBC _ ((hxwb).trans hHeld)).mono ?_
            rintro e w5 ⟨rfl, hx5⟩
            have hx5b := Ext.trans hHeld hx5
            clear hx5
            by_cases hbc : boxC ⟨bn, bval, bnx, bls⟩ = 0
            ·rw [hbc]
             have HBX := Lib.hid hbc
             have HO2 := Lib.hid (HOB.out.trans (if_neg (by simpa using hbc)))
             clear HOB hbc
             by_cases hvv : uv < bval
             ·have HB2 : Hid (checkU ⟨un, uv, bs⟩ = 2) := Lib.hid (by rw [HU.out, ← HC.out, HO2.out, if_pos hvv]; rfl)
              go_wp2
              go_ret
              exact ⟨by rw [HB2.out]; rfl, (hx0.trans hxwb).trans hx5b⟩
             ·have HC2 : Hid (boxesC uv (bs.drop (k' + 1 + 1)) (prevN bs (k' + 1 + 1)) (Tot.add ⟨tl_, ts, tf⟩ ⟨bn, bval, bnx, bls⟩) = boxesC uv bs none ⟨0, 0, false⟩) := Lib.hid (by rw [← HC.out, HO2.out, if_neg hvv]; simp)
              obtain ⟨_, _, hok3, hok4⟩ := boxC_ok HBX.out
              have HBS := fun w' hx' => HBZ w' hx' hok3 (fun l hl => (hok4 l hl).2.2.2)
              have hszle : sizeB ⟨bn, bval, bnx, bls⟩ ≤ 19200 := by
               have := sizeF_le bls (fun l hl => (hok4 l hl).2.2.2) bls.length (Nat.le_refl _)
               rw [List.take_length] at this
               have h3 : bls.length ≤ 32 := hok3
               show sizeF 0 bls ≤ 19200
               omega
              have h3 : bls.length ≤ 32 := hok3
              have HSZ : Hid (∃ z, sizeB ⟨bn, bval, bnx, bls⟩ = z) := Lib.hid ⟨_, rfl⟩
              obtain ⟨sz, hsz⟩ := HSZ.out
              rw [hsz] at HBS hszle
              have HSZ2 := Lib.hid hsz
              have e1 : IntKind.i64.wrap ((tl_ : Int) + (bls.length : Int)) = (tl_ : Int) + (bls.length : Int) := wrap64_nat (tl_ + bls.length) (by omega)
              have e2 : IntKind.i64.wrap ((ts : Int) + (sz : Int)) = (ts : Int) + (sz : Int) := wrap64_nat (ts + sz) (by omega)
              have HRANGE : ∀ w', Ext wb w' → w'.rangeAt wr.heap.size 0 [Value.string (st bn), .int .i64 bval, .int .i64 bnx, .slice A2 bls.length cap2] := fun w' hx' j v hj => by
               rw [Nat.zero_add, cell_of_row w' _ j _ _ _ (hx'.obj hrowB)]
               simpa using hj
              have hxn5 := hx5b.drew
              clear hok3 hok4 hsz HBZ HSZ
              cases tf with
              | true =>
               go_wp2_with fail
               refine wp_region_phase (S := fun w' => Ext wb w') 17 (by kernel_rfl) (by kernel_rfl) ?_ (fun hHeld => ?_)
               ·exact hxn5
               simp only [List.drop_succ_cons, List.drop_zero]
               refine name_head ?_
               intro wr0 hw0
               rw [hw0] at hHeld
               refine wt 0 _ ?_
               simp only [red, Act.put]
               refine wt 1 _ ?_
               simp only [red, Act.put]
               refine wt 2 _ ?_
               simp only [red, Act.put]
               refine wt 3 _ ?_
               simp only [red, Act.put]
               refine wt 4 _ ?_
               simp only [red, Act.put]
               refine wt 5 _ ?_
               simp only [red, Act.put]
               refine wy 6 (v := .agg #[.string (st bn), .int .i64 bval, .int .i64 bnx, .slice A2 bls.length cap2]) (by rfl) (by exact yieldsIf_load_mid (by rfl) 136 _ rfl wr.heap.size 0 rfl [.string (st bn), .int .i64 bval, .int .i64 bnx, .slice A2 bls.length cap2] _ HRANGE Tryz.underlying136 rfl (by kernel_rfl)) ?_
               simp only [red, Act.put]
               refine wt 9 _ ?_
               simp only [red, Act.put]
               refine rd [7] ?_
               refine ac (fun K hK => ?_) ?_
               ·refine step_callG (by rfl) (by kernel_rfl) (HBS _ (hxwb.trans hHeld)) ?_
                rintro e wr7 ⟨rfl, hx7⟩
                refine ⟨_, rfl, ?_⟩
                refine hK.out _ _ ?_ (fun hHeld => ?_)
                ·exact hHeld.trans hx7
                clear hK K
                try simp only [red, Act.put]
                refine wt 8 _ ?_
                simp only [red, Act.put]
                refine wt 10 _ ?_
                simp only [red, Act.put]
                refine ws 11 ?_
                simp only [red, Act.put]
                refine ws 12 ?_
                simp only [red, Act.put]
                refine ws 13 ?_
                simp only [red, Act.put]
                refine wt 14 _ ?_
                simp only [red, Act.put]
                refine wt 15 _ ?_
                simp only [red, Act.put]
                refine wt 16 _ ?_
                simp only [red, Act.put]
                refine wpHead_done (by kernel_rfl) ?_
                go_wp2
                go_roundw
                case rel => exact ⟨k' + 1 + 1, Tot.add ⟨tl_, ts, true⟩ ⟨bn, bval, bnx, bls⟩, by go_num, by omega, by simp [Tot.add], by simp [Tot.add, HSZ2.out], by simp [Tot.add], by simp only [Tot.add]; omega, by simp only [Tot.add, HSZ2.out]; omega, HC2.out, hxwb.trans hHeld⟩
                case measure => simp [intOf]; omega
               exact AllHead.nil
              | false =>
               go_wp2_with fail
               refine wp_region_phase (S := fun w' => Ext wb w') 17 (by kernel_rfl) (by kernel_rfl) ?_ (fun hHeld => ?_)
               ·exact hxn5
               simp only [List.drop_succ_cons, List.drop_zero]
               refine name_head ?_
               intro wr0 hw0
               rw [hw0] at hHeld
               refine wt 0 _ ?_
               simp only [red, Act.put]
               refine wt 1 _ ?_
               simp only [red, Act.put]
               refine wt 2 _ ?_
               simp only [red, Act.put]
               refine wt 3 _ ?_
               simp only [red, Act.put]
               refine wt 4 _ ?_
               simp only [red, Act.put]
               refine wt 5 _ ?_
               simp only [red, Act.put]
               refine wy 6 (v := .agg #[.string (st bn), .int .i64 bval, .int .i64 bnx, .slice A2 bls.length cap2]) (by rfl) (by exact yieldsIf_load_mid (by rfl) 136 _ rfl wr.heap.size 0 rfl [.string (st bn), .int .i64 bval, .int .i64 bnx, .slice A2 bls.length cap2] _ HRANGE Tryz.underlying136 rfl (by kernel_rfl)) ?_
               simp only [red, Act.put]
               refine wt 9 _ ?_
               simp only [red, Act.put]
               refine rd [7] ?_
               refine ac (fun K hK => ?_) ?_
               ·refine step_callG (by rfl) (by kernel_rfl) (HBS _ (hxwb.trans hHeld)) ?_
                rintro e wr7 ⟨rfl, hx7⟩
                refine ⟨_, rfl, ?_⟩
                refine hK.out _ _ ?_ (fun hHeld => ?_)
                ·exact hHeld.trans hx7
                clear hK K
                try simp only [red, Act.put]
                refine wt 8 _ ?_
                simp only [red, Act.put]
                refine wt 10 _ ?_
                simp only [red, Act.put]
                refine wt 11 _ ?_
                simp only [red, Act.put]
                refine wt 12 _ ?_
                simp only [red, Act.put]
                refine wt 13 _ ?_
                simp only [red, Act.put]
                refine wt 14 _ ?_
                simp only [red, Act.put]
                refine wt 15 _ ?_
                simp only [red, Act.put]
                refine wt 16 _ ?_
                simp only [red, Act.put]
                refine wpHead_done (by kernel_rfl) ?_
                go_wp2
                go_roundw
                case rel => exact ⟨k' + 1 + 1, Tot.add ⟨tl_, ts, false⟩ ⟨bn, bval, bnx, bls⟩, by go_num, by omega, by simp [Tot.add], by simp [Tot.add, HSZ2.out], by simp only [Tot.add, Bool.false_or]; exact congrArg Value.bool (inbox_dec bn), by simp only [Tot.add]; omega, by simp only [Tot.add, HSZ2.out]; omega, HC2.out, hxwb.trans hHeld⟩
                case measure => simp [intOf]; omega
               exact AllHead.nil
            ·have hbc2 : (((boxC ⟨bn, bval, bnx, bls⟩ : Nat) : Int) == 0) = false := by simpa using hbc
             have HB2 : Hid (checkU ⟨un, uv, bs⟩ = boxC ⟨bn, bval, bnx, bls⟩) := Lib.hid (by rw [HU.out, ← HC.out, HOB.out]; simp [hbc])
             generalize boxC ⟨bn, bval, bnx, bls⟩ = z at *
             go_wp2
             go_ret
             exact ⟨by rw [HB2.out]; rfl, (hx0.trans hxwb).trans hx5b⟩
           exact AllHead.nil
       ·have hd : bs.drop k = [] := List.drop_eq_nil_of_le (by omega)
        rw [hd, boxesC] at hrun
        cases tf with
        | false =>
         have HB : Hid (checkU ⟨un, uv, bs⟩ = 4) := Lib.hid (by rw [HU.out, ← hrun]; rfl)
         clear hrun hd
         go_wp2
         go_ret
         exact ⟨by rw [HB.out]; rfl, hx0.trans hx⟩
        | true =>
         have HB : Hid (checkU ⟨un, uv, bs⟩ = if 40 < tl_ ∨ 1200 < ts then 8 else 0) := Lib.hid (by rw [HU.out, ← hrun]; rfl)
         clear hrun hd
         by_cases h40 : (40 : Int) < (tl_ : Int)
         ·have HB2 : Hid (checkU ⟨un, uv, bs⟩ = 8) := Lib.hid (by rw [HB.out, if_pos (.inl (by omega))])
          go_wp2
          go_ret
          exact ⟨by rw [HB2.out]; rfl, hx0.trans hx⟩
         ·by_cases h12 : (1200 : Int) < (ts : Int)
          ·have HB2 : Hid (checkU ⟨un, uv, bs⟩ = 8) := Lib.hid (by rw [HB.out, if_pos (.inr (by omega))])
           go_wp2
           go_ret
           exact ⟨by rw [HB2.out]; rfl, hx0.trans hx⟩
          ·have HB2 : Hid (checkU ⟨un, uv, bs⟩ = 0) := Lib.hid (by rw [HB.out, if_neg (by omega)])
           go_wp2
           go_ret
           exact ⟨by rw [HB2.out]; rfl, hx0.trans hx⟩
end Go.Proofs.YthlppbbejdeeoaaGreatDoor
