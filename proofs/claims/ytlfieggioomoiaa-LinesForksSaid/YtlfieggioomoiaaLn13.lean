/- The walks of the law's play and of the laws LinesPlays and LinesForks: they answer true. Conditions: the scripts stand in memory. -/
import Derived.Test.YtlfieggioomoiaaLn12
namespace Go.Proofs.Ytlfieggioomoiaa
open Go.RowKit
attribute [local go_sem] pt
theorem do_any (p q : Nat) (d : De) (A1 : Option Addr) (c1 : Nat) (M : List Nat) (l : List UInt8) (w : World) (h : Two M w p q l) (hb : BsM M w A1 d.by_) (hbl : d.by_.length ≤ 140737488351232) :
    Calls Try.prog 22 #[pt p, pt q, dv d A1 c1] w (Did M w p q) := by
  by_cases h0 : d.do_ = 0
  · exact do_feed p q d A1 c1 M l w h hb hbl h0
  · by_cases h1 : d.do_ = 1
    · exact do_line p q d A1 c1 M l w h h1
    · by_cases h2 : d.do_ = 2
      · exact do_raw p q d A1 c1 M l w h h2
      · exact do_body p q d A1 c1 M l w h h0 h1 h2
theorem old_sl {w0 w : World} {B : List Nat} {A : Option Addr} {xs : List Value} (h : Sl w0 A xs) (hx : Ext w0 w) (hB : ∀ k ∈ B, w0.heap.size ≤ k) : SlM B w A xs :=
  ((SlM.of_sl h).old (fun k hk => .inr (hB k hk))).kept (.of_ext hx)
/-- play answers two buffers, side by side -/
def Played (w : World) (e : Ending) (w' : World) : Prop := ∃ p q l, e = .returned (.tuple #[.pointer (some ⟨p, 0, none⟩), .pointer (some ⟨q, 0, none⟩), .bool true]) ∧ Ext w w' ∧ w.heap.size ≤ p ∧ w.heap.size ≤ q ∧ Two [p, q] w' p q l
set_option maxHeartbeats 2000000 in
theorem play_any (A : Option Addr) (cap : Nat) (l : List De) (w : World) (h : RsM RDe 3 [] w A l) (hm : ML w) : Calls Try.prog 18 #[.slice A l.length cap] w (Played w) := by
  have hmlt := hm.lt
  go_enter Try.func18, Try.ntmps18
  go_wp2_with fail
  refine (LNew_any w).mono ?_
  rintro e w1 ⟨rfl, hx1, hL⟩
  go_wp2_with fail
  refine (RNew_any w1).mono ?_
  rintro e w2 ⟨rfl, hx2, hR⟩
  have hpq : w.heap.size < w1.heap.size := (hL []).lt
  have hq2 : w1.heap.size < w2.heap.size := (hR []).lt
  have hT : Two [w.heap.size, w1.heap.size] w2 w.heap.size w1.heap.size [] :=
    ⟨(hL _).ext hx2, hR _, by simp, by simp, by intro k hk; simp at hk; omega, by omega, by simp, hm.ext (hx1.trans hx2), by omega, by omega⟩
  have hx := hx1.trans hx2
  clear hL hR hx1 hx2 hm
  generalize w1.heap.size = q at *
  obtain ⟨p, hp⟩ : ∃ p, p = w.heap.size := ⟨_, rfl⟩
  rw [← hp] at hT ⊢
  have hpw : w.heap.size ≤ p := by omega
  have hqw : w.heap.size ≤ q := by omega
  have hpq' : p < q := by omega
  have hge : ∀ k ∈ [p, q], w.heap.size ≤ k := by intro k hk; simp at hk; omega
  clear hp hpq hq2
  go_wp2
  go_loopw [7] (fun i wr => ∃ (k : Nat) (t : List UInt8), k ≤ l.length ∧ k ≤ 100 ∧ i = .int .i64 k ∧ Ext w wr ∧ Two [p, q] wr p q t) (fun i _ => 100 - (intOf i).toNat)
  case atStart => exact ⟨0, _, by omega, by omega, rfl, hx, hT⟩
  case round =>
    obtain ⟨k, t, hk1, hk2, rfl, hxr, hTr⟩ := hrel
    clear hx hT
    by_cases hlt : k < l.length ∧ k < 100
    · obtain ⟨hlt, hlt2⟩ := hlt
      obtain ⟨ad, A1, c1, rfl, hby, hbl, E0, E1, E2⟩ := h.deed hlt
      have hlt3 : (k : Int) < 100 := by omega
      have hlt4 : (k : Int) < l.length := by omega
      have e0 := E0 _ hxr
      have e1 := E1 _ hxr
      have e2 := E2 _ hxr
      have HD := do_any p q l[k] A1 c1 [p, q] t wr hTr (old_sl hby hxr hge) hbl
      unfold pt dv at HD
      generalize l[k] = cc at *
      clear E0 E1 E2 hby hTr
      go_wp2_with fail
      refine HD.mono ?_
      rintro e w3 ⟨rfl, l3, hT3, hk3⟩
      have hx3 := hxr.kept hk3 hge
      go_wp2
      go_roundw
      case rel => exact ⟨k + 1, l3, by omega, by omega, by go_num, hx3, hT3⟩
      case measure => simp [intOf]; omega
    · have hor : ¬ (k : Int) < l.length ∨ ((k : Int) < l.length ∧ ¬ (k : Int) < 100) := by omega
      have HQ : Hid (Played w (.returned (.tuple #[.pointer (some ⟨p, 0, none⟩), .pointer (some ⟨q, 0, none⟩), .bool true])) wr) := Lib.hid ⟨p, q, t, rfl, hxr, hpw, hqw, hTr⟩
      clear hTr
      rcases hor with h5 | ⟨h5, h6⟩
      all_goals
        go_wp2_with fail
        go_ret3
        exact HQ.out
theorem plays_any (A : Option Addr) (cap : Nat) (l : List De) (w : World) (h : RsM RDe 3 [] w A l) (hm : ML w) :
    Calls Try.prog 6 #[.slice A l.length cap] w (Yes w) := by
  have H := play_any A cap l w h hm
  have H5 := fun W (hx : Ext w W) => live_any W (hm.ext hx)
  clear h hm
  go_enter Try.func6, Try.ntmps6
  go_wp2_with fail
  refine H.mono ?_
  rintro e w1 ⟨p, q, l, rfl, hx1, _⟩
  go_wp2_with fail
  refine (H5 _ hx1).mono ?_
  rintro e w2 ⟨rfl, hx2⟩
  go_wp2
  go_ret
  exact Yes.mk' rfl (hx1.trans hx2)
/-! ## the nil buffer -/
theorem Line_nil (w : World) : Calls Try.prog 12 #[.pointer none] w fun e w' => e = .returned (.tuple #[.string ⟨#[]⟩, .int .i64 1]) ∧ w' = w := by
  go_enter Try.func12, Try.ntmps12
  go_wp2
  go_ret2
  exact ⟨rfl, rfl⟩
theorem Raw_nil (n : Int) (w : World) : Calls Try.prog 19 #[.pointer none, .int .i64 n] w fun e w' => e = .returned (.tuple #[.slice none 0 0, .int .i64 1]) ∧ w' = w := by
  go_enter Try.func19, Try.ntmps19
  go_wp2
  go_ret2
  exact ⟨rfl, rfl⟩
theorem Body_nil (w : World) : Calls Try.prog 23 #[.pointer none] w fun e w' => e = .returned (.tuple #[.slice none 0 0, .int .i64 1]) ∧ w' = w := by
  go_enter Try.func23, Try.ntmps23
  go_wp2
  go_ret2
  exact ⟨rfl, rfl⟩
theorem Feed_nil (v : Value) (w : World) : Calls Try.prog 11 #[.pointer none, v] w fun e w' => e = .returned (.int .i64 1) ∧ w' = w := by
  go_enter Try.func11, Try.ntmps11
  go_wp2
  go_ret
  exact ⟨rfl, rfl⟩
theorem Wait_nil (w : World) : Calls Try.prog 13 #[.pointer none] w fun e w' => e = .returned (.int .i64 0) ∧ w' = w := by
  go_enter Try.func13, Try.ntmps13
  go_wp2
  go_ret
  exact ⟨rfl, rfl⟩
theorem Fork_nil (w : World) : Calls Try.prog 20 #[.pointer none] w fun e w' => e = .returned (.pointer none) ∧ w' = w := by
  go_enter Try.func20, Try.ntmps20
  go_wp2
  go_ret
  exact ⟨rfl, rfl⟩
set_option maxHeartbeats 4000000 in
set_option maxRecDepth 100000 in
theorem forks_any (A A' : Option Addr) (cap cap' : Nat) (l m : List De) (n : Int) (w : World) (h : RsM RDe 3 [] w A l) (h' : RsM RDe 3 [] w A' m) (hm : ML w) :
    Calls Try.prog 8 #[.slice A l.length cap, .slice A' m.length cap', .int .i64 n] w (Yes w) := by
  have HP := play_any A cap l w h hm
  have H5 := fun W (hx : Ext w W) => live_any W (hm.ext hx)
  have hmlt := hm.lt
  clear h hm
  unfold Yes
  go_enter Try.func8, Try.ntmps8
  go_wp2_with fail
  refine HP.mono ?_
  rintro e w1 ⟨p, q, t, rfl, hx1, hpw, hqw, hT⟩
  have hp1 := hT.lt p hT.pM
  have hq1 := hT.lt q hT.qM
  have hne := hT.ne
  clear HP
  go_wp2_with fail
  refine (LFork_any w1 hT.ln hT.len).mono ?_
  rintro e w2 ⟨f, rfl, hx2, hf1, hf2, hF⟩
  unfold pt
  obtain ⟨g, hg⟩ : ∃ g, g = w2.heap.size := ⟨_, rfl⟩
  have hg1 : w2.heap.size ≤ g := by omega
  have hb : IsBuf 58 [p, q, f, g] w1 q t := hT.bf.old (by intro k hk; have := hx2.size; simp at hk ⊢; omega)
  go_wp2_with fail
  refine (RFork_any w2 (hb.ext hx2)).mono ?_
  rintro e w3 ⟨rfl, hx3, hR⟩
  unfold pt
  rw [← hg] at hR ⊢
  have hg3 : g < w3.heap.size := (hR []  (by simp)).lt
  have hs2 := hx2.size
  have hM4 : ∀ k ∈ [p, q, f, g], k < w3.heap.size := by intro k hk; have := hx3.size; simp at hk; omega
  have hml := hT.ml.ext (hx2.trans hx3)
  have hge : ∀ k ∈ [p, q, f, g], w.heap.size ≤ k := by intro k hk; have := hx1.size; simp at hk; omega
  have hT1 : Two [p, q, f, g] w3 p q t := ⟨(hT.ln.old (by intro k hk; simp at hk ⊢; omega)).ext (hx2.trans hx3), (hb.ext hx2).ext hx3, by simp, by simp, hM4, hne, hT.len, hml, hT.mp, hT.mq⟩
  have hT2 : Two [p, q, f, g] w3 f g t := ⟨((hF [p, q, f] (by intro k hk; simp at hk; omega)).old (by intro k hk; simp at hk ⊢; omega)).ext hx3, hR _ (fun k hk => .inl hk), by simp, by simp, hM4, by omega, hT.len, hml, by have := hx1.size; omega, by have := hx1.size; omega⟩
  have hx : Ext w w3 := hx1.trans (hx2.trans hx3)
  have hpfg : p ∉ [f, g] := by simp; omega
  have hqfg : q ∉ [f, g] := by simp; omega
  have hmfg : 0 ∉ [f, g] := by have := hx1.size; simp; omega
  have hfgM : ∀ k ∈ [f, g], k ∈ [p, q, f, g] := by intro k hk; simp at hk ⊢; omega
  have hfgw : ∀ k ∈ [f, g], w.heap.size ≤ k := fun k hk => hge k (hfgM k hk)
  have hpqw : ∀ k ∈ [p, q], w.heap.size ≤ k := by intro k hk; simp at hk; omega
  clear hg hb hR hF hT hM4 hml hx1 hx2 hx3 hg1 hf1 hf2 hs2 hg3
  go_wp2
  go_loopw [12] (fun i wr => ∃ (k : Nat) (t2 : List UInt8), k ≤ m.length ∧ k ≤ 100 ∧ i = .int .i64 k ∧ Ext w wr ∧ Two [p, q, f, g] wr p q t ∧ Two [p, q, f, g] wr f g t2) (fun i _ => 100 - (intOf i).toNat)
  case atStart => exact ⟨0, _, by omega, by omega, rfl, hx, hT1, hT2⟩
  case round =>
    obtain ⟨k, t2, hk1, hk2, rfl, hxr, hTa, hTb⟩ := hrel
    clear hx hT1 hT2
    by_cases hlt : k < m.length ∧ k < 100
    · obtain ⟨hlt, hlt2⟩ := hlt
      obtain ⟨ad, A1, c1, rfl, hby, hbl, E0, E1, E2⟩ := h'.deed hlt
      have hlt3 : (k : Int) < 100 := by omega
      have hlt4 : (k : Int) < m.length := by omega
      have e0 := E0 _ hxr
      have e1 := E1 _ hxr
      have e2 := E2 _ hxr
      have HD := do_any f g m[k] A1 c1 [p, q, f, g] t2 wr hTb (old_sl hby hxr hge) hbl
      unfold pt dv at HD
      generalize m[k] = cc at *
      have HTA := Lib.hid hTa
      clear E0 E1 E2 hby hTa hTb
      go_wp2_with fail
      refine HD.mono ?_
      rintro e w4 ⟨rfl, l4, hT4, hk4⟩
      have hx4 := hxr.kept hk4 hfgw
      have HTA4 := Lib.hid (HTA.out.kept hk4 hpfg hqfg hfgM hmfg)
      clear hk4
      go_wp2
      go_roundw
      case rel => exact ⟨k + 1, l4, by omega, by omega, by go_num, hx4, HTA4.out, hT4⟩
      case measure => simp [intOf]; omega
    · have hor : ¬ (k : Int) < m.length ∨ ((k : Int) < m.length ∧ ¬ (k : Int) < 100) := by omega
      have HW := fun W (hx : Ext wr W) => LWait_any W (hTa.ln.ext hx)
      have HD := fun W (hx : Ext wr W) => do_any p q ⟨2, [], t.length⟩ none 0 [p, q, f, g] t W (hTa.ext hx) (SlM.nil _ _ _) (by simp)
      unfold pt at HW
      unfold pt dv at HD
      simp only [List.length_nil] at HD
      clear hTa hTb
      rcases hor with h5 | ⟨h5, h6⟩
      all_goals
        go_wp2_with fail
        refine (Line_nil _).mono ?_
        rintro e w4 ⟨rfl, hw⟩
        obtain rfl := hw
        go_wp2_with fail
        refine (Raw_nil n _).mono ?_
        rintro e w5 ⟨rfl, hw⟩
        obtain rfl := hw
        go_wp2_with fail
        refine (Body_nil _).mono ?_
        rintro e w6 ⟨rfl, hw⟩
        obtain rfl := hw
        go_wp2_with fail
        refine (H5 _ hxr).mono ?_
        rintro e w7 ⟨rfl, hx7⟩
        go_wp2_with fail
        refine (HW _ hx7).mono ?_
        rintro e w8 ⟨rfl, hw⟩
        obtain rfl := hw
        go_wp2_with fail
        refine (HD _ hx7).mono ?_
        rintro e w9 ⟨rfl, l9, -, hk9⟩
        have hx9 : Ext w w9 := (hxr.trans hx7).kept hk9 hpqw
        clear hk9
        go_wp2_with fail
        refine (Feed_nil _ _).mono ?_
        rintro e w10 ⟨rfl, hw⟩
        obtain rfl := hw
        go_wp2_with fail
        refine (Wait_nil _).mono ?_
        rintro e w11 ⟨rfl, hw⟩
        obtain rfl := hw
        go_wp2_with fail
        refine (Fork_nil _).mono ?_
        rintro e w12 ⟨rfl, hw⟩
        obtain rfl := hw
        go_wp2
        go_ret
        exact ⟨rfl, hx9⟩
end Go.Proofs.Ytlfieggioomoiaa
