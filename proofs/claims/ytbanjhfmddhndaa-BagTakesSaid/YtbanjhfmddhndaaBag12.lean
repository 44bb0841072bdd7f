/- The walk of the law BagCounts: it answers true. Conditions: the script stands in memory, and it has at most 2^47 calls. -/
import Derived.Test.YtbanjhfmddhndaaBag11
import Derived.Deep.RegionHeld3
namespace Go.Proofs.Ytbanjhfmddhndaa
open Go.RowKit
attribute [local go_sem] pt uv
set_option maxHeartbeats 2000000 in
set_option maxRecDepth 100000 in
theorem counts_any (m : Nat) (hm : m < 256) (A : Option Addr) (cap : Nat) (l : List C) (w : World) (h : RsM RC 6 [] w A l) (hl : l.length ≤ 140737488355328) :
    Calls Try.prog 5 #[.int .u8 m, .slice A l.length cap] w (Yes w) := by
  obtain ⟨n, hn⟩ : ∃ n : Nat, n = 1 + m % 48 := ⟨_, rfl⟩
  have hn1 : 1 ≤ n := by omega
  have hn2 : n ≤ 48 := by omega
  have hn3 : (1 + (m : Int) % 48) = (n : Int) := by omega
  have HN := Lib.hid hn3
  clear hn hn3
  go_enter Try.func5, Try.ntmps5
  go_wp2_with fail
  rw [HN.out]
  refine (New_ok n _ (by omega) (by omega)).mono ?_
  rintro e w1 ⟨rfl, hx1, hb1⟩
  unfold pt
  go_wp2
  go_loopw [8, 9, 10] (fun came taken i wr => ∃ (k : Nat) (b : Bg) (c t : Int), k ≤ l.length ∧ k ≤ 150 ∧ i = .int .i64 k ∧ came = .int .i64 c ∧ taken = .int .i64 t ∧ Ext w wr ∧ IsBag [w.heap.size] wr w.heap.size b ∧ Cnt n k c t b) (fun _ _ i _ => 150 - (intOf i).toNat)
  case atStart => exact ⟨0, _, 0, 0, by omega, by omega, rfl, rfl, rfl, hx1, hb1 _, ⟨by simp, by simp, by simp, by simp⟩, rfl, by simp, by simp, by simp, by simp, by simp⟩
  case round =>
    obtain ⟨k, b, c, t, hk1, hk2, rfl, rfl, rfl, hx, hb, hc⟩ := hrel
    by_cases hlt : k < l.length
    · by_cases hlt2 : k < 150
      · obtain ⟨ad, A2, cap2, rfl, hby, hbl, E0, E1, E2, E3, E4, E5⟩ := h.call hlt
        have hby' : BsM [w.heap.size] wr A2 l[k].u.by_ := (SlM.old hby (by simp)).kept (.of_ext hx)
        have hlt3 : (k : Int) < 150 := by omega
        have hlt4 : (k : Int) < l.length := by omega
        have hp := hb.lt
        have hcap : 0 ≤ c ∧ c ≤ 1000000 := by have h1 := hc.sum; have := hc.len; have := hc.taken0; have := hc.taken1; have := hc.lost1; have := hc.small.lost0; omega
        obtain ⟨hc0, hc1⟩ := hcap
        have ht0 := hc.taken0
        have ht1 : t ≤ 1000000 := by have := hc.taken1; omega
        generalize l[k] = cc at *
        by_cases d0 : cc.do_ = 0
        · have e0 : (cc.do_ == 0) = true := by simpa using d0
          have hA := hc.add hlt2 hn2 cc.u
          by_cases ha : addE b cc.u = 2
          · have e1 : (addE b cc.u != 2) = false := by simpa using ha
            rw [if_pos ha] at hA
            clear d0 ha
            go_wp2_with fail
            refine (Add_any w.heap.size cc.u A2 cap2 b [w.heap.size] wr hb (one_lt hp) (by simp) hc.small hby').mono ?_
            rintro e w2 ⟨rfl, hk2, hb2⟩
            have hx2 := hx.kept hk2 (one_ge (Nat.le_refl _))
            have hf := hA
            have hq1 : ¬ (n : Int) < ((addB b cc.u).l.length : Int) := by have := hf.len; omega
            have hq2 := hf.sum
            have hLr : ((addB b cc.u).l.length : Int) ≤ 1000 := by have := hf.len; omega
            have hOr : 0 ≤ (addB b cc.u).lost ∧ (addB b cc.u).lost ≤ 1000000 := ⟨hf.small.lost0, hf.small.lost1⟩
            generalize addB b cc.u = b2 at *
            obtain ⟨L, hL⟩ : ∃ L : Int, L = (b2.l.length : Int) := ⟨_, rfl⟩
            obtain ⟨O, hO⟩ : ∃ O : Int, O = b2.lost := ⟨_, rfl⟩
            have hL0 : 0 ≤ L := by omega
            have HLen := fun W (q : Ext w2 W) => Len_any w.heap.size b2 _ W (hb2.ext q)
            have HLost := fun W (q : Ext w2 W) => Lost_any w.heap.size b2 _ W (hb2.ext q)
            rw [← hL] at hq1 hq2 hLr
            rw [← hO] at hq2 hOr
            simp only [← hL] at HLen
            simp only [← hO] at HLost
            obtain ⟨hO0, hO1⟩ := hOr
            have HL := Lib.hid hL
            have HO := Lib.hid hO
            clear hL hO
            have hq3 : (c != L + t + O) = false := by simpa using hq2
            have HQ := Lib.hid hq2
            clear hq2
            go_wp2_with fail
            refine (HLen _ (Ext.refl _)).mono ?_
            rintro e w3 ⟨rfl, hx3⟩
            go_wp2_with fail
            refine (HLen _ hx3).mono ?_
            rintro e w4 ⟨rfl, hx4⟩
            go_wp2_with fail
            refine (HLost _ (hx3.trans hx4)).mono ?_
            rintro e w5 ⟨rfl, hx5⟩
            go_wp2
            go_roundw
            case rel => exact ⟨k + 1, b2, _, _, by omega, by omega, by go_num, rfl, rfl, hx2.trans (hx3.trans (hx4.trans hx5)), hb2.ext (hx3.trans (hx4.trans hx5)), hf⟩
            case measure => simp [intOf]; omega
          · have e1 : (addE b cc.u != 2) = true := by simpa using ha
            rw [if_neg ha] at hA
            clear d0 ha
            go_wp2_with fail
            refine (Add_any w.heap.size cc.u A2 cap2 b [w.heap.size] wr hb (one_lt hp) (by simp) hc.small hby').mono ?_
            rintro e w2 ⟨rfl, hk2, hb2⟩
            have hx2 := hx.kept hk2 (one_ge (Nat.le_refl _))
            have hf := hA
            have hq1 : ¬ (n : Int) < ((addB b cc.u).l.length : Int) := by have := hf.len; omega
            have hq2 := hf.sum
            have hLr : ((addB b cc.u).l.length : Int) ≤ 1000 := by have := hf.len; omega
            have hOr : 0 ≤ (addB b cc.u).lost ∧ (addB b cc.u).lost ≤ 1000000 := ⟨hf.small.lost0, hf.small.lost1⟩
            generalize addB b cc.u = b2 at *
            obtain ⟨L, hL⟩ : ∃ L : Int, L = (b2.l.length : Int) := ⟨_, rfl⟩
            obtain ⟨O, hO⟩ : ∃ O : Int, O = b2.lost := ⟨_, rfl⟩
            have hL0 : 0 ≤ L := by omega
            have HLen := fun W (q : Ext w2 W) => Len_any w.heap.size b2 _ W (hb2.ext q)
            have HLost := fun W (q : Ext w2 W) => Lost_any w.heap.size b2 _ W (hb2.ext q)
            rw [← hL] at hq1 hq2 hLr
            rw [← hO] at hq2 hOr
            simp only [← hL] at HLen
            simp only [← hO] at HLost
            obtain ⟨hO0, hO1⟩ := hOr
            have HL := Lib.hid hL
            have HO := Lib.hid hO
            clear hL hO
            have hq3 : (c + 1 != L + t + O) = false := by simpa using hq2
            have HQ := Lib.hid hq2
            clear hq2
            go_wp2_with fail
            refine (HLen _ (Ext.refl _)).mono ?_
            rintro e w3 ⟨rfl, hx3⟩
            go_wp2_with fail
            refine (HLen _ hx3).mono ?_
            rintro e w4 ⟨rfl, hx4⟩
            go_wp2_with fail
            refine (HLost _ (hx3.trans hx4)).mono ?_
            rintro e w5 ⟨rfl, hx5⟩
            go_wp2
            go_roundw
            case rel => exact ⟨k + 1, b2, _, _, by omega, by omega, by go_num, rfl, rfl, hx2.trans (hx3.trans (hx4.trans hx5)), hb2.ext (hx3.trans (hx4.trans hx5)), hf⟩
            case measure => simp [intOf]; omega
        · have e0 : (cc.do_ == 0) = false := by simpa using d0
          by_cases d1 : cc.do_ = 1
          · have e1 : (cc.do_ == 1) = true := by simpa using d1
            clear d0 d1
            go_wp2_with fail
            have HT : ∀ W N, Ext wr W → w.heap.size ∈ N → (∀ k ∈ N, k = w.heap.size ∨ (wr.heap.size ≤ k ∧ k < W.heap.size)) → Calls Try.prog 11 #[pt w.heap.size, .int .i64 cc.i, .bool cc.keep] W fun e w2 => ∃ A3 c3, e = .returned (.tuple #[uv (takeU b cc.i) A3 c3, .int .i64 (takeE b cc.i)]) ∧ Kept [w.heap.size] W w2 ∧ Ext w w2 ∧ IsBag N w2 w.heap.size (takeB b cc.i cc.keep) := by
              intro W N hq hN1 hN2
              have hsz := hq.size
              refine (Take_any w.heap.size cc.i cc.keep b N W ((hb.old (fun k hk => ?_)).ext hq) (fun k hk => ?_) hN1 hc.small).mono ?_
              · rcases hN2 k hk with h | h
                · left; simp [h]
                · exact .inr h.1
              · rcases hN2 k hk with h | h <;> omega
              · rintro e w2 ⟨A3, c3, he, ho, hk, hb'⟩
                exact ⟨A3, c3, he, hk, (hx.trans hq).kept hk (one_ge (Nat.le_refl _)), hb'.old (fun k hk => .inl (by simp [hk]))⟩
            have hne : ¬ wr.heap.size = w.heap.size := by omega
            have hsz := hx.size
            have hT := hc.take cc.i cc.keep
            generalize cc.keep = kp at *
            generalize takeB b cc.i kp = b' at *
            generalize takeU b cc.i = u' at *
            generalize takeE b cc.i = e' at *
            go_region_held3 (fun w' => Ext w w') (first | exact hx.drew | assumption | exact Ext.alloc (by assumption) _ | exact ((Ext.setCell (by assumption) hsz _).setCell hsz _).setCell hsz _ | (simp [*, Ext.alloc_iff, Ext.setCell_iff])) ((first
              | (go_at_call 11; refine (HT _ [w.heap.size, wr.heap.size] ((Ext.refl wr).alloc (.cells #[.int .i64 0, .int .i64 0, .slice none 0 0] 30)).drew (by simp) (by intro k hk; simp at hk; rcases hk with rfl | rfl; exact .inl rfl; exact .inr ⟨Nat.le_refl _, by simp⟩)).mono ?_; rintro e w2 ⟨A3, c3, rfl, hk2, hx2, hb2⟩; obtain ⟨r0, r1, r2, r3⟩ := row3_at (hk2.heap (heap_alloc_new wr _) (by simpa using hne)))
              | (go_at_call 11; refine (HT _ [w.heap.size] (Ext.refl wr).drew (by simp) (by simp)).mono ?_; rintro e w2 ⟨A3, c3, rfl, hk2, hx2, hb2⟩)))
            · have hxf := hx2.alloc (.cells #[.int .i64 u'.from_, .int .i64 u'.to_, .slice A3 u'.by_.length c3] 30)
              have hbf := hb2.ext ((Ext.refl w2).alloc (.cells #[.int .i64 u'.from_, .int .i64 u'.to_, .slice A3 u'.by_.length c3] 30))
              generalize w2.alloc (.cells #[.int .i64 u'.from_, .int .i64 u'.to_, .slice A3 u'.by_.length c3] 30) = W4 at hxf hbf ⊢
              clear hx2 hb2 hk2
              by_cases he : e' = 0
              · have e2 : (e' == 0) = true := by simpa using he
                cases kp with
                | false =>
                  rw [if_pos ⟨he, rfl⟩] at hT
                  clear he
                  have hf := hT
                  have hq1 : ¬ (n : Int) < (b'.l.length : Int) := by have := hf.len; omega
                  have hq2 := hf.sum
                  have hLr : (b'.l.length : Int) ≤ 1000 := by have := hf.len; omega
                  have hOr : 0 ≤ b'.lost ∧ b'.lost ≤ 1000000 := ⟨hf.small.lost0, hf.small.lost1⟩
                  obtain ⟨L, hL⟩ : ∃ L : Int, L = (b'.l.length : Int) := ⟨_, rfl⟩
                  obtain ⟨O, hO⟩ : ∃ O : Int, O = b'.lost := ⟨_, rfl⟩
                  have hL0 : 0 ≤ L := by omega
                  have HLen := fun W (q : Ext W4 W) => Len_any w.heap.size b' _ W (hbf.ext q)
                  have HLost := fun W (q : Ext W4 W) => Lost_any w.heap.size b' _ W (hbf.ext q)
                  rw [← hL] at hq1 hq2 hLr
                  rw [← hO] at hq2 hOr
                  simp only [← hL] at HLen
                  simp only [← hO] at HLost
                  obtain ⟨hO0, hO1⟩ := hOr
                  have HL := Lib.hid hL
                  have HO := Lib.hid hO
                  clear hL hO
                  have hq3 : (c != L + (t + 1) + O) = false := by simpa using hq2
                  have HQ := Lib.hid hq2
                  clear hq2
                  go_wp2_with fail
                  refine (HLen _ (Ext.refl _)).mono ?_
                  rintro e w3 ⟨rfl, hx3⟩
                  go_wp2_with fail
                  refine (HLen _ hx3).mono ?_
                  rintro e w4 ⟨rfl, hx4⟩
                  go_wp2_with fail
                  refine (HLost _ (hx3.trans hx4)).mono ?_
                  rintro e w5 ⟨rfl, hx5⟩
                  go_wp2
                  go_roundw
                  case rel => exact ⟨k + 1, b', _, _, by omega, by omega, by go_num, rfl, rfl, hxf.trans (hx3.trans (hx4.trans hx5)), hbf.ext (hx3.trans (hx4.trans hx5)), hf⟩
                  case measure => simp [intOf]; omega
                | true =>
                  rw [if_neg (by simp)] at hT
                  clear he
                  have hf := hT
                  have hq1 : ¬ (n : Int) < (b'.l.length : Int) := by have := hf.len; omega
                  have hq2 := hf.sum
                  have hLr : (b'.l.length : Int) ≤ 1000 := by have := hf.len; omega
                  have hOr : 0 ≤ b'.lost ∧ b'.lost ≤ 1000000 := ⟨hf.small.lost0, hf.small.lost1⟩
                  obtain ⟨L, hL⟩ : ∃ L : Int, L = (b'.l.length : Int) := ⟨_, rfl⟩
                  obtain ⟨O, hO⟩ : ∃ O : Int, O = b'.lost := ⟨_, rfl⟩
                  have hL0 : 0 ≤ L := by omega
                  have HLen := fun W (q : Ext W4 W) => Len_any w.heap.size b' _ W (hbf.ext q)
                  have HLost := fun W (q : Ext W4 W) => Lost_any w.heap.size b' _ W (hbf.ext q)
                  rw [← hL] at hq1 hq2 hLr
                  rw [← hO] at hq2 hOr
                  simp only [← hL] at HLen
                  simp only [← hO] at HLost
                  obtain ⟨hO0, hO1⟩ := hOr
                  have HL := Lib.hid hL
                  have HO := Lib.hid hO
                  clear hL hO
                  have hq3 : (c != L + t + O) = false := by simpa using hq2
                  have HQ := Lib.hid hq2
                  clear hq2
                  go_wp2_with fail
                  refine (HLen _ (Ext.refl _)).mono ?_
                  rintro e w3 ⟨rfl, hx3⟩
                  go_wp2_with fail
                  refine (HLen _ hx3).mono ?_
                  rintro e w4 ⟨rfl, hx4⟩
                  go_wp2_with fail
                  refine (HLost _ (hx3.trans hx4)).mono ?_
                  rintro e w5 ⟨rfl, hx5⟩
                  go_wp2
                  go_roundw
                  case rel => exact ⟨k + 1, b', _, _, by omega, by omega, by go_num, rfl, rfl, hxf.trans (hx3.trans (hx4.trans hx5)), hbf.ext (hx3.trans (hx4.trans hx5)), hf⟩
                  case measure => simp [intOf]; omega
              · have e2 : (e' == 0) = false := by simpa using he
                rw [if_neg (fun h => he h.1)] at hT
                clear he
                have hf := hT
                have hq1 : ¬ (n : Int) < (b'.l.length : Int) := by have := hf.len; omega
                have hq2 := hf.sum
                have hLr : (b'.l.length : Int) ≤ 1000 := by have := hf.len; omega
                have hOr : 0 ≤ b'.lost ∧ b'.lost ≤ 1000000 := ⟨hf.small.lost0, hf.small.lost1⟩
                obtain ⟨L, hL⟩ : ∃ L : Int, L = (b'.l.length : Int) := ⟨_, rfl⟩
                obtain ⟨O, hO⟩ : ∃ O : Int, O = b'.lost := ⟨_, rfl⟩
                have hL0 : 0 ≤ L := by omega
                have HLen := fun W (q : Ext W4 W) => Len_any w.heap.size b' _ W (hbf.ext q)
                have HLost := fun W (q : Ext W4 W) => Lost_any w.heap.size b' _ W (hbf.ext q)
                rw [← hL] at hq1 hq2 hLr
                rw [← hO] at hq2 hOr
                simp only [← hL] at HLen
                simp only [← hO] at HLost
                obtain ⟨hO0, hO1⟩ := hOr
                have HL := Lib.hid hL
                have HO := Lib.hid hO
                clear hL hO
                have hq3 : (c != L + t + O) = false := by simpa using hq2
                have HQ := Lib.hid hq2
                clear hq2
                go_wp2_with fail
                refine (HLen _ (Ext.refl _)).mono ?_
                rintro e w3 ⟨rfl, hx3⟩
                go_wp2_with fail
                refine (HLen _ hx3).mono ?_
                rintro e w4 ⟨rfl, hx4⟩
                go_wp2_with fail
                refine (HLost _ (hx3.trans hx4)).mono ?_
                rintro e w5 ⟨rfl, hx5⟩
                go_wp2
                go_roundw
                case rel => exact ⟨k + 1, b', _, _, by omega, by omega, by go_num, rfl, rfl, hxf.trans (hx3.trans (hx4.trans hx5)), hbf.ext (hx3.trans (hx4.trans hx5)), hf⟩
                case measure => simp [intOf]; omega
            · have hxf := ((hx2.setCell (p := ⟨wr.heap.size, 0, none⟩) hsz (.int .i64 u'.from_)).setCell (p := ⟨wr.heap.size, 1, none⟩) hsz (.int .i64 u'.to_)).setCell (p := ⟨wr.heap.size, 2, none⟩) hsz (.slice A3 u'.by_.length c3)
              have hbf := (hb2.kept ((((Kept.refl [wr.heap.size] w2).setCell (p := ⟨wr.heap.size, 0, none⟩) (.inl (by simp)) (.int .i64 u'.from_)).setCell (p := ⟨wr.heap.size, 1, none⟩) (.inl (by simp)) (.int .i64 u'.to_)).setCell (p := ⟨wr.heap.size, 2, none⟩) (.inl (by simp)) (.slice A3 u'.by_.length c3)) (by simp; omega) (by simp)).old (N := [w.heap.size]) (by simp)
              generalize ((w2.setCell ⟨wr.heap.size, 0, none⟩ (.int .i64 u'.from_)).setCell ⟨wr.heap.size, 1, none⟩ (.int .i64 u'.to_)).setCell ⟨wr.heap.size, 2, none⟩ (.slice A3 u'.by_.length c3) = W4 at hxf hbf ⊢
              clear hx2 hb2 hk2 r0 r1 r2 r3
              by_cases he : e' = 0
              · have e2 : (e' == 0) = true := by simpa using he
                cases kp with
                | false =>
                  rw [if_pos ⟨he, rfl⟩] at hT
                  clear he
                  have hf := hT
                  have hq1 : ¬ (n : Int) < (b'.l.length : Int) := by have := hf.len; omega
                  have hq2 := hf.sum
                  have hLr : (b'.l.length : Int) ≤ 1000 := by have := hf.len; omega
                  have hOr : 0 ≤ b'.lost ∧ b'.lost ≤ 1000000 := ⟨hf.small.lost0, hf.small.lost1⟩
                  obtain ⟨L, hL⟩ : ∃ L : Int, L = (b'.l.length : Int) := ⟨_, rfl⟩
                  obtain ⟨O, hO⟩ : ∃ O : Int, O = b'.lost := ⟨_, rfl⟩
                  have hL0 : 0 ≤ L := by omega
                  have HLen := fun W (q : Ext W4 W) => Len_any w.heap.size b' _ W (hbf.ext q)
                  have HLost := fun W (q : Ext W4 W) => Lost_any w.heap.size b' _ W (hbf.ext q)
                  rw [← hL] at hq1 hq2 hLr
                  rw [← hO] at hq2 hOr
                  simp only [← hL] at HLen
                  simp only [← hO] at HLost
                  obtain ⟨hO0, hO1⟩ := hOr
                  have HL := Lib.hid hL
                  have HO := Lib.hid hO
                  clear hL hO
                  have hq3 : (c != L + (t + 1) + O) = false := by simpa using hq2
                  have HQ := Lib.hid hq2
                  clear hq2
                  go_wp2_with fail
                  refine (HLen _ (Ext.refl _)).mono ?_
                  rintro e w3 ⟨rfl, hx3⟩
                  go_wp2_with fail
                  refine (HLen _ hx3).mono ?_
                  rintro e w4 ⟨rfl, hx4⟩
                  go_wp2_with fail
                  refine (HLost _ (hx3.trans hx4)).mono ?_
                  rintro e w5 ⟨rfl, hx5⟩
                  go_wp2
                  go_roundw
                  case rel => exact ⟨k + 1, b', _, _, by omega, by omega, by go_num, rfl, rfl, hxf.trans (hx3.trans (hx4.trans hx5)), hbf.ext (hx3.trans (hx4.trans hx5)), hf⟩
                  case measure => simp [intOf]; omega
                | true =>
                  rw [if_neg (by simp)] at hT
                  clear he
                  have hf := hT
                  have hq1 : ¬ (n : Int) < (b'.l.length : Int) := by have := hf.len; omega
                  have hq2 := hf.sum
                  have hLr : (b'.l.length : Int) ≤ 1000 := by have := hf.len; omega
                  have hOr : 0 ≤ b'.lost ∧ b'.lost ≤ 1000000 := ⟨hf.small.lost0, hf.small.lost1⟩
                  obtain ⟨L, hL⟩ : ∃ L : Int, L = (b'.l.length : Int) := ⟨_, rfl⟩
                  obtain ⟨O, hO⟩ : ∃ O : Int, O = b'.lost := ⟨_, rfl⟩
                  have hL0 : 0 ≤ L := by omega
                  have HLen := fun W (q : Ext W4 W) => Len_any w.heap.size b' _ W (hbf.ext q)
                  have HLost := fun W (q : Ext W4 W) => Lost_any w.heap.size b' _ W (hbf.ext q)
                  rw [← hL] at hq1 hq2 hLr
                  rw [← hO] at hq2 hOr
                  simp only [← hL] at HLen
                  simp only [← hO] at HLost
                  obtain ⟨hO0, hO1⟩ := hOr
                  have HL := Lib.hid hL
                  have HO := Lib.hid hO
                  clear hL hO
                  have hq3 : (c != L + t + O) = false := by simpa using hq2
                  have HQ := Lib.hid hq2
                  clear hq2
                  go_wp2_with fail
                  refine (HLen _ (Ext.refl _)).mono ?_
                  rintro e w3 ⟨rfl, hx3⟩
                  go_wp2_with fail
                  refine (HLen _ hx3).mono ?_
                  rintro e w4 ⟨rfl, hx4⟩
                  go_wp2_with fail
                  refine (HLost _ (hx3.trans hx4)).mono ?_
                  rintro e w5 ⟨rfl, hx5⟩
                  go_wp2
                  go_roundw
                  case rel => exact ⟨k + 1, b', _, _, by omega, by omega, by go_num, rfl, rfl, hxf.trans (hx3.trans (hx4.trans hx5)), hbf.ext (hx3.trans (hx4.trans hx5)), hf⟩
                  case measure => simp [intOf]; omega
              · have e2 : (e' == 0) = false := by simpa using he
                rw [if_neg (fun h => he h.1)] at hT
                clear he
                have hf := hT
                have hq1 : ¬ (n : Int) < (b'.l.length : Int) := by have := hf.len; omega
                have hq2 := hf.sum
                have hLr : (b'.l.length : Int) ≤ 1000 := by have := hf.len; omega
                have hOr : 0 ≤ b'.lost ∧ b'.lost ≤ 1000000 := ⟨hf.small.lost0, hf.small.lost1⟩
                obtain ⟨L, hL⟩ : ∃ L : Int, L = (b'.l.length : Int) := ⟨_, rfl⟩
                obtain ⟨O, hO⟩ : ∃ O : Int, O = b'.lost := ⟨_, rfl⟩
                have hL0 : 0 ≤ L := by omega
                have HLen := fun W (q : Ext W4 W) => Len_any w.heap.size b' _ W (hbf.ext q)
                have HLost := fun W (q : Ext W4 W) => Lost_any w.heap.size b' _ W (hbf.ext q)
                rw [← hL] at hq1 hq2 hLr
                rw [← hO] at hq2 hOr
                simp only [← hL] at HLen
                simp only [← hO] at HLost
                obtain ⟨hO0, hO1⟩ := hOr
                have HL := Lib.hid hL
                have HO := Lib.hid hO
                clear hL hO
                have hq3 : (c != L + t + O) = false := by simpa using hq2
                have HQ := Lib.hid hq2
                clear hq2
                go_wp2_with fail
                refine (HLen _ (Ext.refl _)).mono ?_
                rintro e w3 ⟨rfl, hx3⟩
                go_wp2_with fail
                refine (HLen _ hx3).mono ?_
                rintro e w4 ⟨rfl, hx4⟩
                go_wp2_with fail
                refine (HLost _ (hx3.trans hx4)).mono ?_
                rintro e w5 ⟨rfl, hx5⟩
                go_wp2
                go_roundw
                case rel => exact ⟨k + 1, b', _, _, by omega, by omega, by go_num, rfl, rfl, hxf.trans (hx3.trans (hx4.trans hx5)), hbf.ext (hx3.trans (hx4.trans hx5)), hf⟩
                case measure => simp [intOf]; omega
          · have e1 : (cc.do_ == 1) = false := by simpa using d1
            by_cases d2 : cc.do_ = 2
            · have e2 : (cc.do_ == 2) = true := by simpa using d2
              have hA := hc.lose hlt2 cc.i
              clear d0 d1 d2
              go_wp2_with fail
              refine (Lose_any w.heap.size cc.i b [w.heap.size] wr hb (one_lt hp) (by simp) hc.small).mono ?_
              rintro e w2 ⟨rfl, hk2, hb2⟩
              have hx2 := hx.kept hk2 (one_ge (Nat.le_refl _))
              have hf := hA
              have hq1 : ¬ (n : Int) < ((loseB b cc.i).l.length : Int) := by have := hf.len; omega
              have hq2 := hf.sum
              have hLr : ((loseB b cc.i).l.length : Int) ≤ 1000 := by have := hf.len; omega
              have hOr : 0 ≤ (loseB b cc.i).lost ∧ (loseB b cc.i).lost ≤ 1000000 := ⟨hf.small.lost0, hf.small.lost1⟩
              generalize loseB b cc.i = b2 at *
              obtain ⟨L, hL⟩ : ∃ L : Int, L = (b2.l.length : Int) := ⟨_, rfl⟩
              obtain ⟨O, hO⟩ : ∃ O : Int, O = b2.lost := ⟨_, rfl⟩
              have hL0 : 0 ≤ L := by omega
              have HLen := fun W (q : Ext w2 W) => Len_any w.heap.size b2 _ W (hb2.ext q)
              have HLost := fun W (q : Ext w2 W) => Lost_any w.heap.size b2 _ W (hb2.ext q)
              rw [← hL] at hq1 hq2 hLr
              rw [← hO] at hq2 hOr
              simp only [← hL] at HLen
              simp only [← hO] at HLost
              obtain ⟨hO0, hO1⟩ := hOr
              have HL := Lib.hid hL
              have HO := Lib.hid hO
              clear hL hO
              have hq3 : (c != L + t + O) = false := by simpa using hq2
              have HQ := Lib.hid hq2
              clear hq2
              go_wp2_with fail
              refine (HLen _ (Ext.refl _)).mono ?_
              rintro e w3 ⟨rfl, hx3⟩
              go_wp2_with fail
              refine (HLen _ hx3).mono ?_
              rintro e w4 ⟨rfl, hx4⟩
              go_wp2_with fail
              refine (HLost _ (hx3.trans hx4)).mono ?_
              rintro e w5 ⟨rfl, hx5⟩
              go_wp2
              go_roundw
              case rel => exact ⟨k + 1, b2, _, _, by omega, by omega, by go_num, rfl, rfl, hx2.trans (hx3.trans (hx4.trans hx5)), hb2.ext (hx3.trans (hx4.trans hx5)), hf⟩
              case measure => simp [intOf]; omega
            · have e2 : (cc.do_ == 2) = false := by simpa using d2
              have hA := hc.on
              have hb2 := hb
              have hx2 := hx
              obtain ⟨w2, hw2⟩ : ∃ w2, w2 = wr := ⟨_, rfl⟩
              subst hw2
              clear d0 d1 d2
              have hf := hA
              have hq1 : ¬ (n : Int) < (b.l.length : Int) := by have := hf.len; omega
              have hq2 := hf.sum
              have hLr : (b.l.length : Int) ≤ 1000 := by have := hf.len; omega
              have hOr : 0 ≤ b.lost ∧ b.lost ≤ 1000000 := ⟨hf.small.lost0, hf.small.lost1⟩
              generalize b = b2 at *
              obtain ⟨L, hL⟩ : ∃ L : Int, L = (b2.l.length : Int) := ⟨_, rfl⟩
              obtain ⟨O, hO⟩ : ∃ O : Int, O = b2.lost := ⟨_, rfl⟩
              have hL0 : 0 ≤ L := by omega
              have HLen := fun W (q : Ext w2 W) => Len_any w.heap.size b2 _ W (hb2.ext q)
              have HLost := fun W (q : Ext w2 W) => Lost_any w.heap.size b2 _ W (hb2.ext q)
              rw [← hL] at hq1 hq2 hLr
              rw [← hO] at hq2 hOr
              simp only [← hL] at HLen
              simp only [← hO] at HLost
              obtain ⟨hO0, hO1⟩ := hOr
              have HL := Lib.hid hL
              have HO := Lib.hid hO
              clear hL hO
              have hq3 : (c != L + t + O) = false := by simpa using hq2
              have HQ := Lib.hid hq2
              clear hq2
              go_wp2_with fail
              refine (HLen _ (Ext.refl _)).mono ?_
              rintro e w3 ⟨rfl, hx3⟩
              go_wp2_with fail
              refine (HLen _ hx3).mono ?_
              rintro e w4 ⟨rfl, hx4⟩
              go_wp2_with fail
              refine (HLost _ (hx3.trans hx4)).mono ?_
              rintro e w5 ⟨rfl, hx5⟩
              go_wp2
              go_roundw
              case rel => exact ⟨k + 1, b2, _, _, by omega, by omega, by go_num, rfl, rfl, hx2.trans (hx3.trans (hx4.trans hx5)), hb2.ext (hx3.trans (hx4.trans hx5)), hf⟩
              case measure => simp [intOf]; omega
      · have hk0 : k = 150 := by omega
        subst hk0
        have hlt4 : ((150 : Nat) : Int) < l.length := by omega
        have hlt4' : (150 : Int) < l.length := by omega
        go_wp2_with fail
        refine (live_any _).mono ?_
        rintro e w2 ⟨rfl, hx2⟩
        go_wp2
        go_ret
        exact Yes.mk' rfl (hx.trans hx2)
    · have hlt4 : ¬ (k : Int) < l.length := by omega
      go_wp2_with fail
      refine (live_any _).mono ?_
      rintro e w2 ⟨rfl, hx2⟩
      go_wp2
      go_ret
      exact Yes.mk' rfl (hx.trans hx2)
    end Go.Proofs.Ytbanjhfmddhndaa
