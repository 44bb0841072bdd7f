/- The walks of the law's play and of the laws BagPlays and BagForks: they answer true. Conditions: the scripts stand in memory, and have at most 2^47 calls each. -/
import Derived.Test.YtbanjhfmddhndaaDo2
import Derived.Test.YtbanjhfmddhndaaBag10
namespace Go.Proofs.Ytbanjhfmddhndaa
open Go.RowKit
attribute [local go_sem] pt uv
theorem St.start (n : Int) (hn : 1 ≤ n) : St 0 ⟨n, 0, []⟩ ⟨n, [], [], 0⟩ := ⟨rfl, rfl, rfl, rfl, by simp; omega, by simp, by simp, by simp, by simp⟩
theorem play_no (n : Int) (A : Option Addr) (cap : Nat) (l : List C) (w : World) (h : n < 1 ∨ 48 < n) :
    Calls Try.prog 14 #[.int .i64 n, .slice A l.length cap] w fun e w' => e = .returned (.tuple #[.pointer none, .pointer none, .bool true]) ∧ w = w' := by
  have H1 := New_no n w h
  have H2 := RNew_no n w h
  clear h
  go_enter Try.func14, Try.ntmps14
  go_wp2_with fail
  refine H1.mono ?_
  rintro e w1 ⟨rfl, rfl⟩
  go_wp2_with fail
  refine H2.mono ?_
  rintro e w1 ⟨rfl, rfl⟩
  go_wp2
  refine wp_loop_once ?_
  go_wp2
  go_ret3
  exact ⟨rfl, rfl⟩
/-- play answers two bags, side by side -/
def Played (w : World) (e : Ending) (w' : World) : Prop := ∃ p q k b r, e = .returned (.tuple #[.pointer (some ⟨p, 0, none⟩), .pointer (some ⟨q, 0, none⟩), .bool true]) ∧ Ext w w' ∧ w.heap.size ≤ p ∧ w.heap.size ≤ q ∧ k ≤ 150 ∧ Two [p, q] w' p q k b r
set_option maxHeartbeats 1000000 in
theorem play_ok (n : Int) (A : Option Addr) (cap : Nat) (l : List C) (w : World) (h : RsM RC 6 [] w A l) (hl : l.length ≤ 140737488355328) (h1 : 1 ≤ n) (h2 : n ≤ 48) :
    Calls Try.prog 14 #[.int .i64 n, .slice A l.length cap] w (Played w) := by
  have hst := St.start n h1
  go_enter Try.func14, Try.ntmps14
  go_wp2_with fail
  refine (New_ok n w h1 h2).mono ?_
  rintro e w1 ⟨rfl, hx1, hb1⟩
  unfold pt
  go_wp2_with fail
  refine (RNew_ok n w1 h1 h2).mono ?_
  rintro e w2 ⟨rfl, hx2, hr2⟩
  unfold pt
  have hpq : w.heap.size < w1.heap.size := (hb1 []).lt
  have hq2 : w1.heap.size < w2.heap.size := (hr2 []).lt
  have hT : Two [w.heap.size, w1.heap.size] w2 w.heap.size w1.heap.size 0 ⟨n, 0, []⟩ ⟨n, [], [], 0⟩ :=
    ⟨(hb1 _).ext hx2, hr2 _, by simp, by simp, by intro k hk; simp at hk; omega, hst⟩
  have hx := hx1.trans hx2
  clear hb1 hr2 hx1 hx2 hst
  generalize w1.heap.size = q at *
  obtain ⟨p, hp⟩ : ∃ p, p = w.heap.size := ⟨_, rfl⟩
  rw [← hp] at hT ⊢
  have hpw : w.heap.size ≤ p := by omega
  have hqw : w.heap.size ≤ q := by omega
  have hpq' : p < q := by omega
  have HP := Lib.hid hp
  clear hp hpq hq2
  go_wp2
  go_loopw [11] (fun i wr => ∃ (k : Nat) (b : Bg) (r : Rg), k ≤ l.length ∧ k ≤ 150 ∧ i = .int .i64 k ∧ Ext w wr ∧ Two [p, q] wr p q k b r) (fun i _ => 150 - (intOf i).toNat)
  case atStart => exact ⟨0, _, _, by omega, by omega, rfl, hx, hT⟩
  case round =>
    obtain ⟨k, b, r, hk1, hk2, rfl, hxr, hTr⟩ := hrel
    clear hx hT
    by_cases hlt : k < l.length
    · by_cases hlt2 : k < 150
      · obtain ⟨ad, A2, cap2, rfl, hby, hbl, E0, E1, E2, E3, E4, E5⟩ := h.call hlt
        have hci := h.call_i hlt
        have hbyM : BsM [p, q] wr A2 l[k].u.by_ := (SlM.old hby (by intro k hk; simp at hk; right; omega)).kept (.of_ext hxr)
        have hlt3 : (k : Int) < 150 := by omega
        have hlt4 : (k : Int) < l.length := by omega
        have e0 := E0 _ hxr
        have e1 := E1 _ hxr
        have e2 := E2 _ hxr
        have e3 := E3 _ hxr
        have e4 := E4 _ hxr
        have e5 := E5 _ hxr
        have HD := do_any p q k l[k] A2 cap2 b r [p, q] wr hTr (by omega) hci hbyM hbl
        unfold pt cv at HD
        generalize l[k] = cc at *
        clear E0 E1 E2 E3 E4 E5 hby hbyM hTr
        go_wp2_with fail
        refine HD.mono ?_
        rintro e w3 ⟨rfl, hk3, b3, r3, hT3⟩
        go_wp2
        go_roundw
        case rel => exact ⟨k + 1, b3, r3, by omega, by omega, by go_num, hxr.kept hk3 (by intro k hk; simp at hk; omega), hT3⟩
        case measure => simp [intOf]; omega
      · have hk0 : k = 150 := by omega
        subst hk0
        have hlt4 : (150 : Int) < l.length := by omega
        have hlt5 : ((150 : Nat) : Int) < l.length := by omega
        have HQ : Hid (Played w (.returned (.tuple #[.pointer (some ⟨p, 0, none⟩), .pointer (some ⟨q, 0, none⟩), .bool true])) wr) := Lib.hid ⟨p, q, 150, b, r, rfl, hxr, hpw, hqw, by omega, hTr⟩
        clear hTr
        go_wp2_with fail
        go_ret3
        exact HQ.out
    · have hlt4 : ¬ (k : Int) < l.length := by omega
      have HQ : Hid (Played w (.returned (.tuple #[.pointer (some ⟨p, 0, none⟩), .pointer (some ⟨q, 0, none⟩), .bool true])) wr) := Lib.hid ⟨p, q, k, b, r, rfl, hxr, hpw, hqw, by omega, hTr⟩
      clear hTr
      go_wp2_with fail
      go_ret3
      exact HQ.out
theorem plays_any (n : Int) (A : Option Addr) (cap : Nat) (l : List C) (w : World) (h : RsM RC 6 [] w A l) (hl : l.length ≤ 140737488355328) :
    Calls Try.prog 4 #[.int .i64 n, .slice A l.length cap] w (Yes w) := by
  by_cases hn : 1 ≤ n ∧ n ≤ 48
  · have H := play_ok n A cap l w h hl hn.1 hn.2
    clear hn
    go_enter Try.func4, Try.ntmps4
    go_wp2_with fail
    refine H.mono ?_
    rintro e w1 ⟨p, q, k, b, r, rfl, hx1, _⟩
    go_wp2_with fail
    refine (live_any _).mono ?_
    rintro e w2 ⟨rfl, hx2⟩
    go_wp2
    go_ret
    exact Yes.mk' rfl (hx1.trans hx2)
  · have H := play_no n A cap l w (by omega)
    clear hn
    go_enter Try.func4, Try.ntmps4
    go_wp2_with fail
    refine H.mono ?_
    rintro e w1 ⟨rfl, rfl⟩
    go_wp2_with fail
    refine (live_any _).mono ?_
    rintro e w2 ⟨rfl, hx2⟩
    go_wp2
    go_ret
    exact Yes.mk' rfl hx2
end Go.Proofs.Ytbanjhfmddhndaa
