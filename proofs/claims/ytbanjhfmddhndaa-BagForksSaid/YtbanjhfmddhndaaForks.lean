/- The walk of the law BagForks: it answers true. Conditions: the scripts stand in memory, and have at most 2^47 calls each. -/
import Derived.Test.YtbanjhfmddhndaaPlay
namespace Go.Proofs.Ytbanjhfmddhndaa
open Go.RowKit
attribute [local go_sem] pt uv
set_option maxHeartbeats 2000000 in
set_option maxRecDepth 100000 in
theorem forks_any (A A' : Option Addr) (cap cap' : Nat) (l m : List C) (u : U) (Au : Option Addr) (cu : Nat) (w : World) (h : RsM RC 6 [] w A l) (hl : l.length ≤ 140737488355328) (h' : RsM RC 6 [] w A' m) (hm : m.length ≤ 140737488355328) :
    Calls Try.prog 6 #[.slice A l.length cap, .slice A' m.length cap', uv u Au cu] w (Yes w) := by
  obtain ⟨w0, hw0⟩ : ∃ w0, w0 = w.alloc (.cells #[.int .i64 u.from_, .int .i64 u.to_, .slice Au u.by_.length cu] 30) := ⟨_, rfl⟩
  have hx0 : Ext w w0 := hw0 ▸ (Ext.refl w).alloc _
  have hrow0 : w0.heap[w.heap.size]? = some (.cells #[.int .i64 u.from_, .int .i64 u.to_, .slice Au u.by_.length cu] 30 (0, 0)) := hw0 ▸ heap_alloc_new w _
  obtain ⟨u0, u1, u2, uf⟩ := rows3 hrow0
  have h0 := h.kept (.of_ext hx0)
  have h0' := h'.kept (.of_ext hx0)
  have HP := play_ok 7 A cap l w0 h0 hl (by omega) (by omega)
  have HN := fun W => Take_nil u.from_ true W
  have HF := fun W => First_nil u.to_ W
  have HA := fun W => Add_nil u Au cu W
  unfold uv at HA
  clear h h' h0 hrow0
  unfold uv
  go_enter Try.func6, Try.ntmps6
  go_wp2_with fail
  rw [← hw0]
  have HW0 := Lib.hid hw0
  clear hw0
  refine HP.mono ?_
  rintro e w1 ⟨p, q, k, b, r, rfl, hx1, hpw, hqw, hk, hT⟩
  go_wp2_with fail
  have hp1 := hT.lt p hT.p
  have hq1 := hT.lt q hT.q
  obtain ⟨f, hf⟩ : ∃ f, f = w1.heap.size := ⟨_, rfl⟩
  refine (Fork_any p b [p, q, f] w1 (hT.bag.old (by intro k hk; simp at hk ⊢; omega))).mono ?_
  rintro e w2 ⟨rfl, hx2, hb2, hf2⟩
  rw [← hf] at hf2 ⊢
  unfold pt
  have hpf : p < f := by omega
  have hqf : q < f := by omega
  have hf5 : w1.heap.size ≤ f := by omega
  have hfs := hf2.lt
  obtain ⟨g, hg⟩ : ∃ g, g = w2.heap.size := ⟨_, rfl⟩
  have hg5 : w2.heap.size ≤ g := by omega
  have hg6 : g ≤ w2.heap.size := by omega
  have hs2 := hx2.size
  have HF0 := Lib.hid hf
  have HG0 := Lib.hid hg
  clear hf hg
  have hr0 : IsRB [p, q, f, g] w1 q r := hT.ref.old (by intro k hk; simp at hk ⊢; omega)
  go_wp2_with fail
  refine (RFork_any q r [p, q, f, g] w2 (hr0.ext hx2)).mono ?_
  rintro e w3 ⟨rfl, hx3, hr3, hg3⟩
  rw [← HG0.out] at hg3 ⊢
  unfold pt
  have hfg : f < g := by omega
  have hgs := hg3.lt
  have hM4 : ∀ k ∈ [p, q, f, g], k < w3.heap.size := by intro k hk; simp at hk; omega
  have hT1 : Two [p, q, f, g] w3 p q k b r := ⟨(hb2.old (by intro k hk; simp at hk ⊢; omega)).ext hx3, hr3, by simp, by simp, hM4, hT.st⟩
  have hT2 : Two [p, q, f, g] w3 f g k b r := ⟨(hf2.old (by intro k hk; simp at hk ⊢; omega)).ext hx3, hg3, by simp, by simp, hM4, hT.st⟩
  have hx : Ext w0 w3 := hx1.trans (hx2.trans hx3)
  have hfw : w0.heap.size ≤ f := by omega
  have hgw : w0.heap.size ≤ g := by omega
  have hpne : p ∉ [f, g] := by simp; omega
  have hqne : q ∉ [f, g] := by simp; omega
  have hfgM : ∀ k ∈ [f, g], k ∈ [p, q, f, g] := by intro k hk; simp at hk ⊢; omega
  clear hb2 hf2 hr0 hr3 hg3 hT hM4 hx1 hx2 hx3 hfs hgs hs2 hp1 hq1
  go_wp2
  go_loopw [12] (fun i wr => ∃ (j : Nat) (b' : Bg) (r' : Rg), j ≤ m.length ∧ j ≤ 100 ∧ i = .int .i64 j ∧ Ext w0 wr ∧ Two [p, q, f, g] wr p q k b r ∧ Two [p, q, f, g] wr f g (k + j) b' r') (fun i _ => 100 - (intOf i).toNat)
  case atStart => exact ⟨0, _, _, by omega, by omega, rfl, hx, hT1, hT2⟩
  case round =>
    obtain ⟨j, b', r', hj1, hj2, rfl, hxr, hTa, hTb⟩ := hrel
    clear hx hT1 hT2
    by_cases hlt : j < m.length
    · by_cases hlt2 : j < 100
      · obtain ⟨ad, A2, cap2, rfl, hby, hbl, E0, E1, E2, E3, E4, E5⟩ := h0'.call hlt
        have hci := h0'.call_i hlt
        have hbyM : BsM [p, q, f, g] wr A2 m[j].u.by_ := (SlM.old hby (by intro k hk; simp at hk; right; omega)).kept (.of_ext hxr)
        have hlt3 : (j : Int) < 100 := by omega
        have hlt4 : (j : Int) < m.length := by omega
        have e0 := E0 _ hxr
        have e1 := E1 _ hxr
        have e2 := E2 _ hxr
        have e3 := E3 _ hxr
        have e4 := E4 _ hxr
        have e5 := E5 _ hxr
        have HD := do_any f g (k + j) m[j] A2 cap2 b' r' [p, q, f, g] wr hTb (by omega) hci hbyM hbl
        unfold pt cv at HD
        generalize m[j] = cc at *
        have HTA := Lib.hid hTa
        clear E0 E1 E2 E3 E4 E5 hby hbyM hTa hTb
        go_wp2_with fail
        refine HD.mono ?_
        rintro e w4 ⟨rfl, hk4, b4, r4, hT4⟩
        go_wp2
        go_roundw
        case rel => exact ⟨j + 1, b4, r4, by omega, by omega, by go_num, hxr.kept hk4 (by intro k hk; simp at hk; omega), HTA.out.kept hk4 hpne hqne hfgM, by rw [← Nat.add_assoc]; exact hT4⟩
        case measure => simp [intOf]; omega
      · have hk0 : j = 100 := by omega
        subst hk0
        have hlt4 : (100 : Int) < m.length := by omega
        have hlt5 : ((100 : Nat) : Int) < m.length := by omega
        have hthere : r.there.length ≤ 150 := by have := hTa.st.len; have := hTa.st.all; omega
        go_wp2_with fail
        refine (RLen_any q r [p, q, f, g] wr hTa.ref (by omega)).mono ?_
        rintro e wz ⟨rfl, rfl⟩
        have hcb := cntB_le r.there
        have hN : cntB r.there ≤ 1000 := by omega
        generalize cntB r.there = N at *
        go_wp2
        obtain ⟨wo, rfl⟩ : ∃ wo : World, wo = wr := ⟨_, rfl⟩
        go_loopw [14] (fun i wr => ∃ (j : Nat) (b' : Bg) (r' : Rg), j ≤ N ∧ i = .int .i64 j ∧ Ext w0 wr ∧ Two [p, q, f, g] wr p q (k + j) b' r') (fun i _ => N - (intOf i).toNat)
        case atStart => exact ⟨0, _, _, by omega, rfl, hxr, hTa⟩
        case round =>
          obtain ⟨j, b', r', hj1, rfl, hxr2, hTc⟩ := hrel
          clear hTa hTb hxr
          by_cases hlt3 : j < N
          · have HD := do_any p q (k + j) ⟨1, ⟨0, 0, []⟩, 0, false⟩ none 0 b' r' [p, q, f, g] wr hTc (by omega) (by simp) (SlM.nil _ _ _) (by simp)
            unfold pt cv at HD
            have hlt4 : (j : Int) < N := by omega
            clear hTc
            go_wp2_with fail
            refine HD.mono ?_
            rintro e w4 ⟨rfl, hk4, b4, r4, hT4⟩
            go_wp2
            go_roundw
            case rel => exact ⟨j + 1, b4, r4, by omega, by go_num, hxr2.kept hk4 (by intro k hk; simp at hk; omega), by rw [← Nat.add_assoc]; exact hT4⟩
            case measure => simp [intOf]; omega
          · have hlt4 : ¬ (j : Int) < N := by omega
            clear hTc
            have v0 := u0 _ hxr2
            have v1 := u1 _ hxr2
            have v2 := u2 _ hxr2
            go_wp2_with fail
            refine (HN _).mono ?_
            rintro e w5 ⟨rfl, hx5⟩
            have hx05 := hxr2.trans hx5
            go_wp2_with fail
            refine (HF _).mono ?_
            rintro e w6 ⟨rfl, rfl⟩
            go_wp2_with fail
            refine (live_any _).mono ?_
            rintro e w7 ⟨rfl, hx7⟩
            have hx07 := (hx05.alloc (.cells #[.int .i64 0, .int .i64 0, .slice none 0 0] 30)).trans hx7
            go_wp2_with fail
            refine (HA _).mono ?_
            rintro e w8 ⟨rfl, hx8⟩
            go_wp2_with fail
            refine (Lose_nil 0 _).mono ?_
            rintro e w9 ⟨rfl, rfl⟩
            go_wp2_with fail
            refine (Len_nil _).mono ?_
            rintro e w9 ⟨rfl, rfl⟩
            go_wp2_with fail
            refine (Lost_nil _).mono ?_
            rintro e w9 ⟨rfl, rfl⟩
            go_wp2_with fail
            refine (Fork_nil _).mono ?_
            rintro e w9 ⟨rfl, rfl⟩
            go_wp2
            go_ret
            exact Yes.mk' rfl (hx0.trans (hx07.trans hx8))
    · have hlt4 : ¬ (j : Int) < m.length := by omega
      have hthere : r.there.length ≤ 150 := by have := hTa.st.len; have := hTa.st.all; omega
      go_wp2_with fail
      refine (RLen_any q r [p, q, f, g] wr hTa.ref (by omega)).mono ?_
      rintro e wz ⟨rfl, rfl⟩
      have hcb := cntB_le r.there
      have hN : cntB r.there ≤ 1000 := by omega
      generalize cntB r.there = N at *
      go_wp2
      obtain ⟨wo, rfl⟩ : ∃ wo : World, wo = wr := ⟨_, rfl⟩
      go_loopw [14] (fun i wr => ∃ (j : Nat) (b' : Bg) (r' : Rg), j ≤ N ∧ i = .int .i64 j ∧ Ext w0 wr ∧ Two [p, q, f, g] wr p q (k + j) b' r') (fun i _ => N - (intOf i).toNat)
      case atStart => exact ⟨0, _, _, by omega, rfl, hxr, hTa⟩
      case round =>
        obtain ⟨j, b', r', hj1, rfl, hxr2, hTc⟩ := hrel
        clear hTa hTb hxr
        by_cases hlt3 : j < N
        · have HD := do_any p q (k + j) ⟨1, ⟨0, 0, []⟩, 0, false⟩ none 0 b' r' [p, q, f, g] wr hTc (by omega) (by simp) (SlM.nil _ _ _) (by simp)
          unfold pt cv at HD
          have hlt4 : (j : Int) < N := by omega
          clear hTc
          go_wp2_with fail
          refine HD.mono ?_
          rintro e w4 ⟨rfl, hk4, b4, r4, hT4⟩
          go_wp2
          go_roundw
          case rel => exact ⟨j + 1, b4, r4, by omega, by go_num, hxr2.kept hk4 (by intro k hk; simp at hk; omega), by rw [← Nat.add_assoc]; exact hT4⟩
          case measure => simp [intOf]; omega
        · have hlt4 : ¬ (j : Int) < N := by omega
          clear hTc
          have v0 := u0 _ hxr2
          have v1 := u1 _ hxr2
          have v2 := u2 _ hxr2
          go_wp2_with fail
          refine (HN _).mono ?_
          rintro e w5 ⟨rfl, hx5⟩
          have hx05 := hxr2.trans hx5
          go_wp2_with fail
          refine (HF _).mono ?_
          rintro e w6 ⟨rfl, rfl⟩
          go_wp2_with fail
          refine (live_any _).mono ?_
          rintro e w7 ⟨rfl, hx7⟩
          have hx07 := (hx05.alloc (.cells #[.int .i64 0, .int .i64 0, .slice none 0 0] 30)).trans hx7
          go_wp2_with fail
          refine (HA _).mono ?_
          rintro e w8 ⟨rfl, hx8⟩
          go_wp2_with fail
          refine (Lose_nil 0 _).mono ?_
          rintro e w9 ⟨rfl, rfl⟩
          go_wp2_with fail
          refine (Len_nil _).mono ?_
          rintro e w9 ⟨rfl, rfl⟩
          go_wp2_with fail
          refine (Lost_nil _).mono ?_
          rintro e w9 ⟨rfl, rfl⟩
          go_wp2_with fail
          refine (Fork_nil _).mono ?_
          rintro e w9 ⟨rfl, rfl⟩
          go_wp2
          go_ret
          exact Yes.mk' rfl (hx0.trans (hx07.trans hx8))
end Go.Proofs.Ytbanjhfmddhndaa
