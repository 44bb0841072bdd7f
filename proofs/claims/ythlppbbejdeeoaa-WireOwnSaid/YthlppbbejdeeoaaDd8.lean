/- The walks of deed.RightUser, Fold, RightBox, box.number, box.Check, box.Size. Conditions: the bounds named. -/
import Derived.Test.YthlppbbejdeeoaaDd7
import Derived.Test.YthlppbbejdeeoaaText8
import Derived.Test.YthlppbbejdeeoaaElem
namespace Go.Proofs.Ythlppbbejdeeoaa
open Go.RowKit
theorem toList_tl (s : ByteArray) : s.toList = tl s := by rw [ByteArray.toList_eq]; rfl
theorem userC_cases (c : Nat) : (97 ≤ c ∧ c ≤ 122 ∧ userC c = true) ∨ (122 < c ∧ userC c = false) ∨ (48 ≤ c ∧ c ≤ 57 ∧ userC c = true) ∨ (57 < c ∧ c < 97 ∧ c ≠ 95 ∧ userC c = false) ∨ (c = 95 ∧ userC c = true) ∨ (c < 48 ∧ c ≠ 46 ∧ c ≠ 45 ∧ userC c = false) ∨ (c = 46 ∧ userC c = true) ∨ (c = 45 ∧ userC c = true) := by
  unfold userC
  by_cases h1 : c = 46
  · subst h1; simp
  by_cases h2 : c = 45
  · subst h2; simp
  by_cases h3 : c = 95
  · subst h3; simp
  simp only [h1, h2, h3, decide_false, Bool.or_false, Bool.or_eq_true, Bool.or_eq_false_iff, decide_eq_true_eq, decide_eq_false_iff_not, not_false_eq_true, true_and, false_and, or_false, false_or, ne_eq]
  omega
set_option maxHeartbeats 4000000 in
theorem RightUser_any (s : ByteArray) (w : World) (hs : s.size ≤ 140737488355328) : Calls Try.prog 53 #[.string s] w fun e w' => e = .returned (.bool (rightU (tl s))) ∧ Ext w w' := by
  have hit0 : It (w.iter s 0) w.heap.size s 0 := World.iter_heap w s 0
  have hxi : Ext w (w.iter s 0) := (Ext.refl w).alloc _
  go_enter Try.func53, Try.ntmps53
  go_wp2
  go_loopw [] (fun wr => ∃ pos ds, ds.all (fun d => userC d.1) = true ∧ At (tl s) pos ds ∧ It wr w.heap.size s pos ∧ Ext w wr) (fun wr => s.size - wr.iterPos w.heap.size)
  case atStart => exact ⟨0, [], rfl, At.zero _, hit0, hxi⟩
  case round =>
    obtain ⟨pos, ds, hall, hat, hit, hx⟩ := hrel
    clear hit0 hxi
    have HALL := Lib.hid hall
    have HPOS := Lib.hid (iterPos_of hit)
    have hle : pos ≤ s.size := by have := hat.le; simpa using this
    clear hall
    by_cases hlt : pos < s.size
    · have hnx := hit.next hlt
      have hit2 := hit.at_ (pos + (Utf8.decode s pos).2)
      have hx2 := hx.iterAt (pos := pos + (Utf8.decode s pos).2) (s := s) (Nat.le_refl w.heap.size)
      obtain ⟨bb, hbl, hspl, hat2⟩ := hat.here hlt
      have hp1 := dec_pos s pos hlt
      have HAT2 := Lib.hid hat2
      have HPOS2 := Lib.hid (iterPos_of hit2)
      have HBAD : Hid (userC (Utf8.decode s pos).1 = false → rightU (tl s) = false) := Lib.hid (fun hb => by
        unfold rightU
        rw [hspl, List.all_append, List.all_cons, hb]
        simp)
      clear hat hat2 hspl hbl
      generalize (Utf8.decode s pos).1 = c at *
      generalize (Utf8.decode s pos).2 = W at *
      rcases userC_cases c with ⟨h1, h2, h3⟩ | ⟨h1, h3⟩ | ⟨h1, h2, h3⟩ | ⟨h1, h2, h4, h3⟩ | ⟨h1, h3⟩ | ⟨h1, h2, h4, h3⟩ | ⟨h1, h3⟩ | ⟨h1, h3⟩
      all_goals have HC := Lib.hid h3
      all_goals clear h3
      · have k1 : (97 : Int) ≤ (c : Int) := by omega
        have k2 : (c : Int) ≤ 122 := by omega
        go_wp2
        go_roundw
        case rel => exact ⟨pos + W, ds ++ [(c, bb)], by rw [List.all_append, HALL.out]; simpa using HC.out, HAT2.out, hit2, hx2⟩
        case measure => rw [HPOS2.out, HPOS.out]; omega
      · have k1 : (97 : Int) ≤ (c : Int) := by omega
        have k2 : ¬ (c : Int) ≤ 122 := by omega
        have k3 : (48 : Int) ≤ (c : Int) := by omega
        have k4 : ¬ (c : Int) ≤ 57 := by omega
        have k5 : ((c : Int) == 46) = false := beq_eq_false_iff_ne.2 (by omega)
        have k6 : ((c : Int) == 45) = false := beq_eq_false_iff_ne.2 (by omega)
        have k7 : ((c : Int) == 95) = false := beq_eq_false_iff_ne.2 (by omega)
        go_wp2
        go_ret
        exact ⟨by rw [HBAD.out HC.out]; rfl, hx2⟩
      · have k1 : ¬ (97 : Int) ≤ (c : Int) := by omega
        have k3 : (48 : Int) ≤ (c : Int) := by omega
        have k4 : (c : Int) ≤ 57 := by omega
        go_wp2
        go_roundw
        case rel => exact ⟨pos + W, ds ++ [(c, bb)], by rw [List.all_append, HALL.out]; simpa using HC.out, HAT2.out, hit2, hx2⟩
        case measure => rw [HPOS2.out, HPOS.out]; omega
      · have k1 : ¬ (97 : Int) ≤ (c : Int) := by omega
        have k3 : (48 : Int) ≤ (c : Int) := by omega
        have k4 : ¬ (c : Int) ≤ 57 := by omega
        have k5 : ((c : Int) == 46) = false := beq_eq_false_iff_ne.2 (by omega)
        have k6 : ((c : Int) == 45) = false := beq_eq_false_iff_ne.2 (by omega)
        have k7 : ((c : Int) == 95) = false := beq_eq_false_iff_ne.2 (by omega)
        go_wp2
        go_ret
        exact ⟨by rw [HBAD.out HC.out]; rfl, hx2⟩
      · subst h1
        go_wp2
        go_roundw
        case rel => exact ⟨pos + W, ds ++ [(95, bb)], by rw [List.all_append, HALL.out]; simpa using HC.out, HAT2.out, hit2, hx2⟩
        case measure => rw [HPOS2.out, HPOS.out]; omega
      · have k1 : ¬ (97 : Int) ≤ (c : Int) := by omega
        have k3 : ¬ (48 : Int) ≤ (c : Int) := by omega
        have k5 : ((c : Int) == 46) = false := beq_eq_false_iff_ne.2 (by omega)
        have k6 : ((c : Int) == 45) = false := beq_eq_false_iff_ne.2 (by omega)
        have k7 : ((c : Int) == 95) = false := beq_eq_false_iff_ne.2 (by omega)
        go_wp2
        go_ret
        exact ⟨by rw [HBAD.out HC.out]; rfl, hx2⟩
      · subst h1
        go_wp2
        go_roundw
        case rel => exact ⟨pos + W, ds ++ [(46, bb)], by rw [List.all_append, HALL.out]; simpa using HC.out, HAT2.out, hit2, hx2⟩
        case measure => rw [HPOS2.out, HPOS.out]; omega
      · subst h1
        go_wp2
        go_roundw
        case rel => exact ⟨pos + W, ds ++ [(45, bb)], by rw [List.all_append, HALL.out]; simpa using HC.out, HAT2.out, hit2, hx2⟩
        case measure => rw [HPOS2.out, HPOS.out]; omega
    · have hst := hit.stop hlt
      have HD := Lib.hid (hat.done hlt)
      have HR : Hid (rightU (tl s) = (decide (tl s ≠ []) && decide (s.size ≤ 24))) := Lib.hid (by unfold rightU; rw [HD.out, HALL.out, tl_length]; simp)
      clear hat
      by_cases h0 : s = ⟨#[]⟩
      · subst h0
        go_wp2
        go_ret
        exact ⟨by rw [HR.out]; rfl, hx⟩
      · have HNE : Hid (tl s ≠ []) := Lib.hid (fun e => h0 (by rw [← st_tl s, e]; rfl))
        have k0 : s.toList.isEmpty = false := by
          rw [toList_tl]
          cases h : tl s with
          | nil => exact absurd h HNE.out
          | cons a l => rfl
        clear h0
        by_cases h24 : (s.size : Int) ≤ 24
        all_goals
          go_wp2
          go_ret
          exact ⟨by rw [HR.out]; have := HNE.out; simp [this]; omega, hx⟩
theorem Fold_any (l : By) (w : World) (hl : l.length ≤ 140737488355328) : Calls Try.prog 64 #[.string (st l)] w fun e w' => e = .returned (.string (st (foldB l))) ∧ Ext w w' := by
  have HS := Same_any (st l) ⟨#[73, 78, 66, 79, 88]⟩ w (by rw [st_size]; exact hl) (by decide)
  have e1 : tl ⟨#[73, 78, 66, 79, 88]⟩ = inboxL := rfl
  rw [tl_st, e1] at HS
  clear e1
  by_cases h : lowL l = lowL inboxL
  · have HF : Hid (foldB l = inboxL) := Lib.hid (by unfold foldB; rw [if_pos h])
    rw [decide_eq_true h] at HS
    clear h
    go_enter Try.func64, Try.ntmps64
    go_wp2_with fail
    refine HS.mono ?_
    rintro e w1 ⟨rfl, hx⟩
    go_wp2
    go_ret
    exact ⟨by rw [HF.out]; rfl, hx⟩
  · have HF : Hid (foldB l = l) := Lib.hid (by unfold foldB; rw [if_neg h])
    rw [decide_eq_false h] at HS
    clear h
    go_enter Try.func64, Try.ntmps64
    go_wp2_with fail
    refine HS.mono ?_
    rintro e w1 ⟨rfl, hx⟩
    go_wp2
    go_ret
    exact ⟨by rw [HF.out]; rfl, hx⟩
theorem RightBox_any (l : By) (w : World) (hl : l.length ≤ 140737488355328) : Calls Try.prog 54 #[.string (st l)] w fun e w' => e = .returned (.bool (rightB l)) ∧ Ext w w' := by
  have HQ := Quote_any (st l) w (by rw [st_size]; exact hl)
  rw [tl_st] at HQ
  have HF := fun W => Fold_any l W hl
  unfold QSays at HQ
  generalize hq1 : (quoteT l).1 = q1 at *
  generalize hq2 : (quoteT l).2.1 = q2 at *
  generalize hq3 : (quoteT l).2.2 = q3 at *
  by_cases h0 : l = []
  · subst h0
    have HE : Hid (rightB [] = false) := Lib.hid (by simp [rightB])
    go_enter Try.func54, Try.ntmps54
    go_wp2_with fail
    refine HQ.mono ?_
    rintro e w1 ⟨rfl, hx1⟩
    clear HF hq1 hq2 hq3
    go_wp2
    go_ret
    exact ⟨by rw [HE.out]; rfl, hx1⟩
  · have k0 : l.isEmpty = false := by cases l with | nil => exact absurd rfl h0 | cons a l => rfl
    by_cases h24 : l.length ≤ 24
    · have k1 : (l.length : Int) ≤ 24 := by omega
      by_cases he : q3 = 0
      · subst he
        cases hf : (foldB l == l) with
        | true =>
          have hf' : foldB l = l := by simpa using hf
          have HE : Hid (rightB l = true) := Lib.hid (by unfold rightB; simp [h0, h24, hq3, hf'])
          go_enter Try.func54, Try.ntmps54
          go_wp2_with fail
          refine HQ.mono ?_
          rintro e w1 ⟨rfl, hx1⟩
          clear hq1 hq2 hq3 h24 h0
          go_wp2_with fail
          refine (HF w1).mono ?_
          rintro e w2 ⟨rfl, hx2⟩
          rw [hf'] at *
          go_wp2
          go_ret
          exact ⟨by rw [HE.out]; rfl, hx1.trans hx2⟩
        | false =>
          have hf' : foldB l ≠ l := by simpa using hf
          have HE : Hid (rightB l = false) := Lib.hid (by unfold rightB; simp [h0, h24, hq3, hf'])
          go_enter Try.func54, Try.ntmps54
          go_wp2_with fail
          refine HQ.mono ?_
          rintro e w1 ⟨rfl, hx1⟩
          clear hq1 hq2 hq3 h24 h0
          go_wp2_with fail
          refine (HF w1).mono ?_
          rintro e w2 ⟨rfl, hx2⟩
          go_wp2
          go_ret
          exact ⟨by rw [HE.out]; rfl, hx1.trans hx2⟩
      · have k2 : ((q3 : Int) == 0) = false := by simp; omega
        have HE : Hid (rightB l = false) := Lib.hid (by unfold rightB; simp [h24, hq3, he])
        go_enter Try.func54, Try.ntmps54
        go_wp2_with fail
        refine HQ.mono ?_
        rintro e w1 ⟨rfl, hx1⟩
        clear hq1 hq2 hq3 h24 h0 HF
        go_wp2
        go_ret
        exact ⟨by rw [HE.out]; rfl, hx1⟩
    · have k1 : ¬ (l.length : Int) ≤ 24 := by omega
      have HE : Hid (rightB l = false) := Lib.hid (by unfold rightB; simp [h24, hq3])
      go_enter Try.func54, Try.ntmps54
      go_wp2_with fail
      refine HQ.mono ?_
      rintro e w1 ⟨rfl, hx1⟩
      clear hq1 hq2 hq3 h24 h0 HF
      go_wp2
      go_ret
      exact ⟨by rw [HE.out]; rfl, hx1⟩
/-! ## boxes -/
theorem number_any (n : Int) (w : World) : Calls Try.prog 78 #[.int .i64 n] w fun e w' => e = .returned (.bool (numB n)) ∧ w = w' := by
  by_cases h1 : 1 ≤ n
  · by_cases h2 : n ≤ 4294967295
    all_goals
      go_enter Try.func78, Try.ntmps78
      go_wp2
      go_ret
      exact ⟨by simp [numB, h1, h2], rfl⟩
  · go_enter Try.func78, Try.ntmps78
    go_wp2
    go_ret
    exact ⟨by simp [numB]; omega, rfl⟩
def RLt : Reading Lt where
  says M w cs l := ∃ A cap, cs = (ltC l (.slice A l.bytes.length cap)).toList ∧ BsM M w A l.bytes
  kept := by
    rintro M w w' cs x ⟨A, cap, h1, h2⟩ hx
    exact ⟨A, cap, h1, h2.kept hx⟩
  old := by
    rintro M N w cs x ⟨A, cap, h1, h2⟩ hx
    exact ⟨A, cap, h1, SlM.old h2 hx⟩
def RBx : Reading Bx where
  says M w cs b := ∃ A cap, cs = (bxC b (.slice A b.letters.length cap)).toList ∧ RsM RLt 3 M w A b.letters
  kept := by
    rintro M w w' cs x ⟨A, cap, h1, h2⟩ hx
    exact ⟨A, cap, h1, h2.kept hx⟩
  old := by
    rintro M N w cs x ⟨A, cap, h1, h2⟩ hx
    exact ⟨A, cap, h1, h2.old hx⟩
theorem lettersC_drop (next : Int) (ls : List Lt) (k : Nat) (last : Int) (hk : k < ls.length) : lettersC next (ls.drop k) last = if ls[k].uid ≤ last ∨ next ≤ ls[k].uid then 4 else if 32 ≤ ls[k].flags.toNat then 2 else if 600 < ls[k].bytes.length then 6 else lettersC next (ls.drop (k + 1)) ls[k].uid := by
  rw [List.drop_eq_getElem_cons hk, lettersC]
set_option maxHeartbeats 4000000 in
theorem BCheck_any (b : Bx) (A : Option Addr) (cap : Nat) (w : World) (h : RsM RLt 3 [] w A b.letters) : Calls Try.prog 73 #[.agg (bxC b (.slice A b.letters.length cap))] w fun e w' => e = .returned (.int .i64 (boxC b : Nat)) ∧ Ext w w' := by
  have hx0 : Ext w (w.alloc (.cells (bxC b (.slice A b.letters.length cap)) 127)) := (Ext.refl w).alloc _
  have hrow := heap_alloc_new w (.cells (bxC b (.slice A b.letters.length cap)) 127)
  have HV := fun w => number_any b.valid w
  have HN := fun w => number_any b.next w
  obtain ⟨hv, hnv⟩ : ∃ v, v = numB b.valid := ⟨_, rfl⟩
  obtain ⟨hn, hnn⟩ : ∃ v, v = numB b.next := ⟨_, rfl⟩
  rw [← hnv] at HV
  rw [← hnn] at HN
  have HE : Hid (boxC b = if hv = false ∨ hn = false then 2 else if 32 < b.letters.length then 8 else lettersC b.next b.letters 0) := Lib.hid (by rw [hnv, hnn, boxC])
  clear hnv hnn
  obtain ⟨wa, hwa⟩ : ∃ wa, wa = w.alloc (.cells (bxC b (.slice A b.letters.length cap)) 127) := ⟨_, rfl⟩
  rw [← hwa] at hx0 hrow
  obtain ⟨bn, bvv, bnx, bls⟩ := b
  simp only at *
  obtain ⟨C0, C1, C2, C3, FF⟩ := rows4 hrow
  clear FF
  have h := h.kept (.of_ext hx0)
  have HWA := Lib.hid hwa
  clear hwa hrow
  unfold bxC at *
  go_enter Try.func73, Try.ntmps73
  go_wp2_with fail
  rw [← HWA.out]
  refine (HV wa).mono ?_
  rintro e w1 ⟨rfl, rfl⟩
  cases hv with
  | false =>
    go_wp2
    go_ret
    exact ⟨by rw [HE.out]; rfl, hx0⟩
  | true =>
    go_wp2_with fail
    refine (HN wa).mono ?_
    rintro e w1 ⟨rfl, rfl⟩
    cases hn with
    | false =>
      go_wp2
      go_ret
      exact ⟨by rw [HE.out]; rfl, hx0⟩
    | true =>
      by_cases h32 : 32 < bls.length
      · have k0 : (32 : Int) < (bls.length : Int) := by omega
        have HB : Hid (boxC ⟨bn, bvv, bnx, bls⟩ = 8) := Lib.hid (by rw [HE.out]; simp [h32])
        clear h32
        go_wp2
        go_ret
        exact ⟨by rw [HB.out]; rfl, hx0⟩
      · have k0 : ¬ (32 : Int) < (bls.length : Int) := by omega
        have HB : Hid (boxC ⟨bn, bvv, bnx, bls⟩ = lettersC bnx bls 0) := Lib.hid (by rw [HE.out]; simp [h32])
        clear HE HV HN
        go_wp2
        go_loopw [3, 25] (fun lv iv wr => ∃ (k : Nat) (last : Int), iv = .int .i64 k ∧ k ≤ bls.length ∧ lv = .int .i64 last ∧ lettersC bnx (bls.drop k) last = lettersC bnx bls 0 ∧ Ext wa wr) (fun _ iv _ => bls.length - (intOf iv).toNat)
        case atStart => exact ⟨0, 0, rfl, by omega, rfl, rfl, Ext.refl _⟩
        case round =>
          obtain ⟨k, last, rfl, hk, rfl, hc, hx⟩ := hrel
          by_cases hlt : k < bls.length
          · obtain ⟨ad, cs, rfl, had, hcs, hcell, A2, cap2, rfl, hby⟩ := h.at_ (by omega) hlt
            rw [lettersC_drop _ _ _ _ hlt] at hc
            have HC := Lib.hid hc
            have hlt2 : (k : Int) < bls.length := by omega
            have hcl := fun j v hj => hx.cell (show wa.cell? ((ad.add (k * 3)).add j) = some v by rw [add_addB]; exact hcell j v hj)
            clear hc had hcs hcell hby
            generalize bls[k] = lt at *
            obtain ⟨lu, lf, lb⟩ := lt
            simp only at *
            go_wp2_with (first | (with_reducible refine stop_alloc 129 ?_) | (with_reducible refine stop_store 129 ?_) | (with_reducible refine stop_load 129 ?_) | (with_reducible refine stop_alloc 127 ?_) | (with_reducible refine stop_store 127 ?_) | (with_reducible refine stop_load 127 ?_))
            refine go_on (wpList_load_elem rfl 129 _ rfl (ad.add (k * 3)) rfl _ _ hcl Try.underlying129 rfl (by kernel_rfl) ?_)
            go_wp2_with (first | (with_reducible refine stop_alloc 129 ?_) | (with_reducible refine stop_store 129 ?_) | (with_reducible refine stop_load 129 ?_) | (with_reducible refine stop_alloc 127 ?_) | (with_reducible refine stop_store 127 ?_) | (with_reducible refine stop_load 127 ?_))
            refine go_on (wpList_alloc_ rfl rfl letter_info ?_)
            go_wp2_with (first | (with_reducible refine stop_alloc 129 ?_) | (with_reducible refine stop_store 129 ?_) | (with_reducible refine stop_load 129 ?_) | (with_reducible refine stop_alloc 127 ?_) | (with_reducible refine stop_store 127 ?_) | (with_reducible refine stop_load 127 ?_))
            refine go_on (wpList_store_last rfl rfl rfl rfl (by kernel_rfl) rfl (by simp [ltC, Value.oneCell']) ?_)
            intro wb hrowL hxb _
            have hxwb := hx.trans hxb
            obtain ⟨D0, D1, D2, _⟩ := rows3 hrowL
            simp only at D0 D1 D2
            by_cases hu : lu ≤ last
            · have HB2 : Hid (lettersC bnx bls 0 = 4) := Lib.hid (by rw [← HC.out, if_pos (.inl hu)])
              go_wp2
              go_ret
              exact ⟨by rw [HB.out, HB2.out]; rfl, hx0.trans hxwb⟩
            · by_cases hu2 : bnx ≤ lu
              · have HB2 : Hid (lettersC bnx bls 0 = 4) := Lib.hid (by rw [← HC.out, if_pos (.inr hu2)])
                go_wp2
                go_ret
                exact ⟨by rw [HB.out, HB2.out]; rfl, hx0.trans hxwb⟩
              · have HC2 := Lib.hid (HC.out.symm.trans (if_neg (by omega)))
                clear HC
                by_cases hf : (32 : Int) ≤ (lf.toNat : Int)
                · have HB2 : Hid (lettersC bnx bls 0 = 2) := Lib.hid (by rw [HC2.out, if_pos (by omega)])
                  go_wp2
                  go_ret
                  exact ⟨by rw [HB.out, HB2.out]; rfl, hx0.trans hxwb⟩
                · have HC3 := Lib.hid (HC2.out.trans (if_neg (by omega)))
                  clear HC2
                  by_cases hb : (600 : Int) < (lb.length : Int)
                  · have HB2 : Hid (lettersC bnx bls 0 = 6) := Lib.hid (by rw [HC3.out, if_pos (by omega)])
                    go_wp2
                    go_ret
                    exact ⟨by rw [HB.out, HB2.out]; rfl, hx0.trans hxwb⟩
                  · have HC4 := Lib.hid (HC3.out.trans (if_neg (by omega)))
                    clear HC3
                    go_wp2
                    go_roundw
                    case rel => exact ⟨k + 1, lu, by go_num, by omega, rfl, HC4.out.symm, hxwb⟩
                    case measure => simp [intOf]; omega
          · have hd : bls.drop k = [] := List.drop_eq_nil_of_le (by omega)
            rw [hd, lettersC] at hc
            have HC := Lib.hid hc
            clear hc hd
            go_wp2
            go_ret
            exact ⟨by rw [HB.out, ← HC.out]; rfl, hx0.trans hx⟩
end Go.Proofs.Ythlppbbejdeeoaa
