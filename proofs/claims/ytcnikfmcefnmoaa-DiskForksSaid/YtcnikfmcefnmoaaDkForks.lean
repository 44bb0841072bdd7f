/- The walk of the law DiskForks: it answers true. Conditions: the scripts stand in memory. -/
import Derived.Test.YtcnikfmcefnmoaaChecked
import Derived.Test.YtcnikfmcefnmoaaDkFork
namespace Go.Proofs.Ytcnikfmcefnmoaa
open Go.RowKit
attribute [local go_sem] pt
/-! ## the nil disk -/
theorem wrong_nil (i : Int) (b : Bool) (w : World) : Calls Try.prog 24 #[.pointer none, .int .i64 i, .bool b] w fun e w' => e = .returned (.int .i64 1) ∧ Ext w w' := by
  go_enter Try.func24, Try.ntmps24
  go_wp2
  go_ret
  exact ⟨rfl, Ext.refl _⟩
theorem Read_nil (i : Int) (w : World) : Calls Try.prog 13 #[.pointer none, .int .i64 i] w fun e w' => e = .returned (.tuple #[.slice none 0 0, .int .i64 1]) ∧ Ext w w' := by
  go_enter Try.func13, Try.ntmps13
  go_wp2_with fail
  refine (wrong_nil i true _).mono ?_
  rintro e w1 ⟨rfl, hx⟩
  go_wp2
  go_ret2
  exact ⟨rfl, hx⟩
theorem Sure_nil (i : Int) (w : World) : Calls Try.prog 12 #[.pointer none, .int .i64 i] w fun e w' => e = .returned (.tuple #[.slice none 0 0, .int .i64 1]) ∧ Ext w w' := by
  go_enter Try.func12, Try.ntmps12
  go_wp2_with fail
  refine (wrong_nil i false _).mono ?_
  rintro e w1 ⟨rfl, hx⟩
  go_wp2
  go_ret2
  exact ⟨rfl, hx⟩
theorem Write_nil (i : Int) (b : Value) (w : World) : Calls Try.prog 10 #[.pointer none, .int .i64 i, b] w fun e w' => e = .returned (.int .i64 1) ∧ Ext w w' := by
  go_enter Try.func10, Try.ntmps10
  go_wp2_with fail
  refine (wrong_nil i true _).mono ?_
  rintro e w1 ⟨rfl, hx⟩
  go_wp2
  go_ret
  exact ⟨rfl, hx⟩
theorem Flush_nil (w : World) : Calls Try.prog 11 #[.pointer none] w fun e w' => e = .returned (.int .i64 1) ∧ Ext w w' := by
  go_enter Try.func11, Try.ntmps11
  go_wp2_with fail
  refine (wrong_nil 0 true _).mono ?_
  rintro e w1 ⟨rfl, hx⟩
  go_wp2
  go_ret
  exact ⟨rfl, hx⟩
theorem Cut_nil (n : Int) (w : World) : Calls Try.prog 15 #[.pointer none, .int .i64 n] w fun e w' => e = .returned (.int .i64 1) ∧ Ext w w' := by
  go_enter Try.func15, Try.ntmps15
  go_wp2_with fail
  refine (wrong_nil 0 true _).mono ?_
  rintro e w1 ⟨rfl, hx⟩
  go_wp2
  go_ret
  exact ⟨rfl, hx⟩
theorem Crash_nil (w : World) : Calls Try.prog 14 #[.pointer none, .agg #[.slice none 0 0, .int .i64 0, .int .i64 0]] w fun e w' => e = .returned (.int .i64 1) ∧ Ext w w' := by
  go_enter Try.func14, Try.ntmps14
  go_wp2
  go_ret
  exact ⟨rfl, (Ext.refl _).alloc _⟩
theorem Down_nil (w : World) : Calls Try.prog 16 #[.pointer none] w fun e w' => e = .returned (.bool false) ∧ Ext w w' := by
  go_enter Try.func16, Try.ntmps16
  go_wp2
  go_ret
  exact ⟨rfl, Ext.refl _⟩
theorem Age_nil (w : World) : Calls Try.prog 23 #[.pointer none] w fun e w' => e = .returned (.int .i64 0) ∧ Ext w w' := by
  go_enter Try.func23, Try.ntmps23
  go_wp2
  go_ret
  exact ⟨rfl, Ext.refl _⟩
theorem Waits_nil (w : World) : Calls Try.prog 17 #[.pointer none] w fun e w' => e = .returned (.int .i64 0) ∧ Ext w w' := by
  go_enter Try.func17, Try.ntmps17
  go_wp2
  go_ret
  exact ⟨rfl, Ext.refl _⟩
theorem Fork_nil (w : World) : Calls Try.prog 19 #[.pointer none] w fun e w' => e = .returned (.pointer none) ∧ Ext w w' := by
  go_enter Try.func19, Try.ntmps19
  go_wp2
  go_ret
  exact ⟨rfl, Ext.refl _⟩
/-! ## two disks and their forks -/
structure Pair (B B' : List Nat) (w : World) (p q f g : Nat) (s s' : Dk) (n m : Nat) : Prop where
  d : Disk B w p s
  r : Rf ((q :: B) ++ (g :: B')) w q s
  dis : ∀ k ∈ q :: B, k ∉ g :: B'
  ne : q ∉ B
  ok : s.Ok
  few : s.Few n
  t : Two B' w f g s' m
theorem Pair.step {B B' B2 : List Nat} {w w' : World} {p q f g n m m' : Nat} {s s' s2 : Dk} (h : Pair B B' w p q f g s s' n m) (ht : Turn (g :: B') w (g :: B2) w') (hT : Two B2 w' f g s2 m') : Pair B B2 w' p q f g s s2 n m' := by
  have hnew : ∀ k ∈ (q :: B) ++ (g :: B2), k ∈ (q :: B) ++ (g :: B') ∨ w.heap.size ≤ k := fun k hk => by
    rcases List.mem_append.1 hk with hk | hk
    · exact .inl (List.mem_append_left _ hk)
    · rcases ht.new k hk with h1 | h1
      · exact .inl (List.mem_append_right _ h1)
      · exact .inr h1
  refine ⟨h.d.kept ht.kept fun k hk => h.dis k (List.mem_cons_of_mem _ hk), (h.r.old hnew).kept ht.kept (h.dis q (List.mem_cons_self ..)) fun k hk => List.mem_append_right _ (ht.sub k hk), fun k hk hm => ?_, h.ne, h.ok, h.few, hT⟩
  rcases ht.new k hm with h1 | h1
  · exact h.dis k hk h1
  · rcases List.mem_cons.1 hk with rfl | hk
    · have := h.r.lt; omega
    · have := h.d.lt k hk; omega
theorem Pair.two {B B' : List Nat} {w : World} {p q f g n m : Nat} {s s' : Dk} (h : Pair B B' w p q f g s s' n m) : Two B w p q s n :=
  ⟨h.d, h.r.old fun _ hk => .inl (List.mem_append_left _ hk), h.ne, h.ok, h.few⟩
theorem Pair.ext {B B' : List Nat} {w w' : World} {p q f g n m : Nat} {s s' : Dk} (h : Pair B B' w p q f g s s' n m) (hx : Ext w w') : Pair B B' w' p q f g s s' n m :=
  ⟨h.d.ext hx, h.r.ext hx, h.dis, h.ne, h.ok, h.few, h.t.ext hx⟩
theorem Two.pre {B B' : List Nat} {w1 w2 : World} {p q n : Nat} {s : Dk} (h : Two B w1 p q s n) (hx : Ext w1 w2) (hB : ∀ k ∈ B', w1.heap.size ≤ k) : Rf ((q :: B) ++ (w2.heap.size :: B')) w2 q s := by
  refine (h.ref.old fun k hk => ?_).ext hx
  rcases List.mem_append.1 hk with hk | hk
  · exact .inl hk
  · rcases List.mem_cons.1 hk with rfl | hk
    · exact .inr hx.size
    · exact .inr (hB k hk)
theorem Two.forked {B B' : List Nat} {w1 w2 w3 : World} {p q f n : Nat} {s : Dk} (h : Two B w1 p q s n) (hx : Ext w1 w2) (hd : Disk B' w2 f s) (hB : ∀ k ∈ B', w1.heap.size ≤ k) (hx2 : Ext w2 w3)
    (hr : ∀ N, (∀ k ∈ N, k ∈ ((q :: B) ++ (w2.heap.size :: B') : List Nat) ∨ w2.heap.size ≤ k) → Rf N w3 w2.heap.size s) : Pair B B' w3 p q f w2.heap.size s s n n := by
  have hlt := h.lt
  have hs := hx.size
  refine ⟨h.disk.ext (hx.trans hx2), (h.pre hx hB).ext hx2, fun k hk hm => ?_, h.ne, h.ok, h.few, ⟨hd.ext hx2, hr _ fun k hk => .inl (List.mem_append_right _ hk), fun hm => Nat.lt_irrefl _ (hd.lt _ hm), h.ok, h.few⟩⟩
  have h1 := hlt k hk
  rcases List.mem_cons.1 hm with rfl | hm
  · omega
  · have := hB k hm; omega
theorem Fork_any {B : List Nat} {p : Nat} {s : Dk} (w : World) (h : Disk B w p s) (hs : s.Ok) (hm : s.waits.length ≤ 1000000) :
    Calls Try.prog 19 #[.pointer (some ⟨p, 0, none⟩)] w fun e w' => ∃ f B', e = .returned (.pointer (some ⟨f, 0, none⟩)) ∧ Ext w w' ∧ Disk B' w' f s ∧ ∀ k ∈ B', w.heap.size ≤ k := by
  obtain ⟨g, cap, v, h⟩ := h
  exact Fork_is w h hs hm
theorem RFork_all {M : List Nat} {q : Nat} {s : Dk} (w : World) (h : Rf M w q s) : Calls Try.prog 20 #[.pointer (some ⟨q, 0, none⟩)] w fun e w' => e = .returned (.pointer (some ⟨w.heap.size, 0, none⟩)) ∧ Ext w w' ∧ ∀ N, (∀ k ∈ N, k ∈ M ∨ w.heap.size ≤ k) → Rf N w' w.heap.size s := by
  obtain ⟨A1, c1, A2, c2, h⟩ := h
  exact RFork_any w h
set_option maxHeartbeats 4000000 in
set_option maxRecDepth 100000 in
theorem forks_any (A A' : Option Addr) (cap cap' : Nat) (l m : List De) (n : Int) (w : World) (h : RsM RDe 6 [] w A l) (h' : RsM RDe 6 [] w A' m) :
    Calls Try.prog 7 #[.slice A l.length cap, .slice A' m.length cap', .int .i64 n] w (Yes w) := by
  have HP := play_ok 6 A cap l w h (by omega) (by omega)
  clear h
  unfold Yes
  go_enter Try.func7, Try.ntmps7
  go_wp2_with fail
  refine HP.mono ?_
  rintro e w1 ⟨p, q, B, s, rfl, hx1, hB, hT⟩
  clear HP
  go_wp2_with fail
  refine (Fork_any w1 hT.disk hT.ok (by have := hT.few.waits; omega)).mono ?_
  rintro e w2 ⟨f, B', rfl, hx2, hd, hB'⟩
  have hpre := hT.pre hx2 hB'
  go_wp2_with fail
  refine (RFork_all w2 hpre).mono ?_
  rintro e w3 ⟨rfl, hx3, hr⟩
  have hP := hT.forked hx2 hd hB' hx3 hr
  have hgw : ∀ k ∈ w2.heap.size :: B', w.heap.size ≤ k := fun k hk => by
    have h1 := hx1.size
    have h2 := hx2.size
    rcases List.mem_cons.1 hk with rfl | hk
    · omega
    · have := hB' k hk; omega
  have hx : Ext w w3 := hx1.trans (hx2.trans hx3)
  clear hT hpre hd hr hB' hx1 hx2 hx3
  generalize w2.heap.size = g at *
  go_wp2
  go_loopw [12] (fun i wr => ∃ (k : Nat) (B' : List Nat) (s' : Dk), k ≤ m.length ∧ k ≤ 120 ∧ i = .int .i64 k ∧ Ext w wr ∧ (∀ k ∈ g :: B', w.heap.size ≤ k) ∧ Pair B B' wr p q f g s s' 120 (120 + k)) (fun i _ => 120 - (intOf i).toNat)
  case atStart => exact ⟨0, _, _, by omega, by omega, rfl, hx, hgw, hP⟩
  case round =>
    obtain ⟨k, B', s', hk1, hk2, rfl, hxr, hgr, hPr⟩ := hrel
    clear hx hP hgw
    by_cases hlt : k < m.length ∧ k < 120
    · obtain ⟨hlt, hlt2⟩ := hlt
      obtain ⟨ad, A1, c1, A2, c2, rfl, hby, hkp, hkl, hbl, hil, E0, E1, E2, E3, E4, E5⟩ := h'.deed hlt
      have hlt3 : (k : Int) < 120 := by omega
      have hlt4 : (k : Int) < m.length := by omega
      have e0 := E0 _ hxr
      have e1 := E1 _ hxr
      have e2 := E2 _ hxr
      have e3 := E3 _ hxr
      have e4 := E4 _ hxr
      have e5 := E5 _ hxr
      have HD := do_any f g (120 + k) m[k] A1 c1 A2 c2 B' s' wr hPr.t (by omega) (old_sl hby hxr hgr) hbl (old_sl hkp hxr hgr) hkl hil
      unfold pt dv at HD
      generalize m[k] = cc at *
      have HPR := Lib.hid hPr
      clear E0 E1 E2 E3 E4 E5 hby hkp hPr
      go_wp2_with fail
      refine HD.mono ?_
      rintro e w3 ⟨rfl, B3, s3, hT3, ht3⟩
      obtain ⟨hx3, hB3⟩ := ht3.to_ext hxr hgr
      have hP3 := Lib.hid (HPR.out.step ht3 hT3)
      clear ht3 hT3
      go_wp2
      go_roundw
      case rel => exact ⟨k + 1, B3, s3, by omega, by omega, by go_num, hx3, hB3, hP3.out⟩
      case measure => simp [intOf]; omega
    · have hor : ¬ (k : Int) < m.length ∨ ((k : Int) < m.length ∧ ¬ (k : Int) < 120) := by omega
      have HS1 := fun W (hx : Ext wr W) => sure_any W (hPr.two.ext hx) (by omega)
      have HS2 := fun W (hx : Ext wr W) => sure_any W (hPr.t.ext hx) (by omega)
      unfold pt at HS1 HS2
      clear hPr
      rcases hor with h5 | ⟨h5, h6⟩
      all_goals
        go_wp2_with fail
        refine (Read_nil n _).mono ?_
        rintro e w4 ⟨rfl, hx4⟩
        go_wp2_with fail
        refine (Sure_nil n _).mono ?_
        rintro e w5 ⟨rfl, hx5⟩
        go_wp2_with fail
        refine (live_any _).mono ?_
        rintro e w6 ⟨rfl, hx6⟩
        have hx46 := hx4.trans (hx5.trans hx6)
        clear hx4 hx5 hx6
        go_wp2_with fail
        refine (HS1 _ hx46).mono ?_
        rintro e w7 ⟨rfl, hx7⟩
        have hx47 := hx46.trans hx7
        clear hx46 hx7 HS1
        go_wp2_with fail
        refine (HS2 _ hx47).mono ?_
        rintro e w8 ⟨rfl, hx8⟩
        have hx48 := hx47.trans hx8
        clear hx47 hx8 HS2
        go_wp2_with fail
        refine (Write_nil n _ _).mono ?_
        rintro e w9 ⟨rfl, hx9⟩
        have hx49 := hx48.trans hx9
        clear hx48 hx9
        go_wp2_with fail
        refine (Flush_nil _).mono ?_
        rintro e w10 ⟨rfl, hx10⟩
        have hx410 := hx49.trans hx10
        clear hx49 hx10
        go_wp2_with fail
        refine (Cut_nil n _).mono ?_
        rintro e w11 ⟨rfl, hx11⟩
        have hx411 := hx410.trans hx11
        clear hx410 hx11
        go_wp2_with fail
        refine (Crash_nil _).mono ?_
        rintro e w12 ⟨rfl, hx12⟩
        have hx412 := hx411.trans hx12
        clear hx411 hx12
        go_wp2_with fail
        refine (Down_nil _).mono ?_
        rintro e w13 ⟨rfl, hx13⟩
        have hx413 := hx412.trans hx13
        clear hx412 hx13
        go_wp2_with fail
        refine (Age_nil _).mono ?_
        rintro e w14 ⟨rfl, hx14⟩
        have hx414 := hx413.trans hx14
        clear hx413 hx14
        go_wp2_with fail
        refine (Waits_nil _).mono ?_
        rintro e w15 ⟨rfl, hx15⟩
        have hx415 := hx414.trans hx15
        clear hx414 hx15
        go_wp2_with fail
        refine (Fork_nil _).mono ?_
        rintro e w16 ⟨rfl, hx16⟩
        have hx416 := hx415.trans hx16
        clear hx415 hx16
        go_wp2
        go_ret
        exact ⟨rfl, hxr.trans hx416⟩
end Go.Proofs.Ytcnikfmcefnmoaa
