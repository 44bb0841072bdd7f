/- The walks of the law's sure and play and of the law DiskPlays: they answer true. Conditions: those of Two; the script stands in memory, and has at most 2^47 deeds. -/
import Derived.Test.YtcnikfmcefnmoaaDkDo
namespace Go.Proofs.Ytcnikfmcefnmoaa
open Go.RowKit
attribute [local go_sem] pt
section
variable {B : List Nat} {p q n : Nat} {s : Dk}
set_option maxHeartbeats 2000000 in
set_option maxRecDepth 100000 in
theorem sure_any (w : World) (h : Two B w p q s n) (hn : n ≤ 100000) : Calls Try.prog 22 #[pt p, pt q] w fun e w' => e = .returned (.bool true) ∧ Ext w w' := by
  have hm : s.waits.length ≤ 1000000 := by have := h.few.waits; omega
  have H1 := fun W (hx : Ext w W) i => Sure_any (h.disk.ext hx) h.ok i
  have H2 := fun W (hx : Ext w W) i => RSure_all W (h.ref.ext hx) i
  have H3 := fun W (hx : Ext w W) i => Read_any (h.disk.ext hx) h.ok h.few (by omega) i
  have H4 := fun W (hx : Ext w W) i => RRead_all W (h.ref.ext hx) hm i
  obtain ⟨zA1, zc1, zA2, zc2, zr⟩ := h.wr
  have C0 := zr.cells.1
  have hlen : s.sure.length ≤ 512 := h.ok.n2
  clear zr h
  generalize s.sure.length = N at *
  go_enter Try.func22, Try.ntmps22
  go_wp2
  go_loopw [5] (fun i wr => ∃ z : Int, i = .int .i64 z ∧ -1 ≤ z ∧ z ≤ N + 1 ∧ Ext w wr) (fun i _ => (N + 1 - intOf i).toNat)
  case atStart => exact ⟨-1, rfl, by omega, by omega, Ext.refl _⟩
  case round =>
    obtain ⟨z, rfl, hz1, hz2, hx⟩ := hrel
    have c0 := C0 wr hx
    by_cases hle : z ≤ (N : Int)
    · go_wp2_with fail
      refine (H1 _ hx z).mono ?_
      rintro e w1 ⟨Aa, ca, rfl, hfa, hx1, -, -⟩
      go_wp2_with fail
      refine (H2 _ (hx.trans hx1) z).mono ?_
      rintro e w2 ⟨Ab, cb, rfl, hfb, hx2, -⟩
      go_wp2_with fail
      refine (H3 _ (hx.trans (hx1.trans hx2)) z).mono ?_
      rintro e w3 ⟨Ac, cc, rfl, hfc, hx3, -, -⟩
      go_wp2_with fail
      refine (H4 _ (hx.trans (hx1.trans (hx2.trans hx3))) z).mono ?_
      rintro e w4 ⟨Ad, cd, rfl, hfd, hx4, -⟩
      have hba := (BsM.bs (M := []) (hfa.bsM (by simp))).ext (hx2.trans (hx3.trans hx4))
      have hbb := Bs.ext hfb (hx3.trans hx4)
      have hbc := (BsM.bs (M := []) (hfc.bsM (by simp))).ext hx4
      have HX := Lib.hid (hx.trans (hx1.trans (hx2.trans (hx3.trans hx4))))
      clear hfa hfb hfc hx1 hx2 hx3 hx4 hx H1 H2 H3 H4 C0 c0
      generalize sureL s z = la at *
      generalize readL s z = lc at *
      generalize wrongE s z false = ea at *
      generalize wrongE s z true = ec at *
      have hsa := run_str (P := Try.prog) Try.underlying22 Try.underlying5 Try.underlying9 hba la.length ca rfl
      have hsb := run_str (P := Try.prog) Try.underlying22 Try.underlying5 Try.underlying9 hbb la.length cb rfl
      have hsc := run_str (P := Try.prog) Try.underlying22 Try.underlying5 Try.underlying9 hbc lc.length cc rfl
      have hsd := run_str (P := Try.prog) Try.underlying22 Try.underlying5 Try.underlying9 hfd lc.length cd rfl
      clear hba hbb hbc hfd
      go_wp2
      go_roundw
      case rel => (repeat apply Exists.intro); exact ⟨⟨z + 1, by go_num, by omega, by omega, HX.out⟩, rfl⟩
      case measure => simp [intOf]; omega
    · clear H1 H2 H3 H4
      go_wp2
      go_ret
      exact ⟨rfl, hx⟩
end
theorem newTwo {B : List Nat} {w w1 w2 : World} {p n : Nat} (h1 : 1 ≤ n) (h2 : n ≤ 512) (hd : Disk B w1 p (newD n)) (hx : Ext w w1) (hB : ∀ k ∈ B, w.heap.size ≤ k) (hx2 : Ext w1 w2) (hr : ∀ M, (∀ k ∈ M, k ≤ w1.heap.size) → Rf M w2 w1.heap.size (newD n)) :
    Two B w2 p w1.heap.size (newD n) 0 ∧ Ext w w2 ∧ ∀ k ∈ w1.heap.size :: B, w.heap.size ≤ k :=
  ⟨⟨hd.ext hx2, hr _ (fun k hk => by
    rcases List.mem_cons.1 hk with rfl | hk
    · exact Nat.le_refl _
    · exact Nat.le_of_lt (hd.lt k hk)), fun hm => Nat.lt_irrefl _ (hd.lt _ hm), newD_ok h1 h2, newD_few n⟩, hx.trans hx2, fun k hk => by
    rcases List.mem_cons.1 hk with rfl | hk
    · exact hx.size
    · exact hB k hk⟩
/-- play answers two disks, side by side -/
def Played (w : World) (e : Ending) (w' : World) : Prop := ∃ p q B s, e = .returned (.tuple #[.pointer (some ⟨p, 0, none⟩), .pointer (some ⟨q, 0, none⟩), .bool true]) ∧ Ext w w' ∧ (∀ k ∈ q :: B, w.heap.size ≤ k) ∧ Two B w' p q s 120
theorem New_no (n : Int) (w : World) (h : n < 1 ∨ 512 < n) : Calls Try.prog 8 #[.int .i64 n] w fun e w' => e = .returned (.tuple #[.pointer none, .int .i64 2]) ∧ w = w' := by
  rcases h with h | h
  · go_enter Try.func8, Try.ntmps8
    go_wp2
    refine bodyPost_ret (v := .tuple #[.pointer none, .int .i64 2]) (by simp [results, Try.results8, go_sem]) rfl ?_
    exact ⟨rfl, rfl⟩
  · have h1 : ¬ n < 1 := by omega
    go_enter Try.func8, Try.ntmps8
    go_wp2
    refine bodyPost_ret (v := .tuple #[.pointer none, .int .i64 2]) (by simp [results, Try.results8, go_sem]) rfl ?_
    exact ⟨rfl, rfl⟩
theorem play_no (n : Int) (A : Option Addr) (cap : Nat) (l : List De) (w : World) (h : n < 1 ∨ 512 < n) :
    Calls Try.prog 18 #[.int .i64 n, .slice A l.length cap] w fun e w' => e = .returned (.tuple #[.pointer none, .pointer none, .bool true]) ∧ w = w' := by
  have H1 := New_no n w h
  have H2 := RNew_no n w h
  clear h
  go_enter Try.func18, Try.ntmps18
  go_wp2_with fail
  refine H1.mono ?_
  rintro e w1 ⟨rfl, rfl⟩
  go_wp2_with fail
  refine H2.mono ?_
  rintro e w1 ⟨rfl, rfl⟩
  go_wp2
  refine wp_loop_once ?_
  go_wp2
  go_ret3
  exact ⟨rfl, rfl⟩
theorem do_any (p q n : Nat) (d : De) (A1 : Option Addr) (c1 : Nat) (A2 : Option Addr) (c2 : Nat) (B : List Nat) (s : Dk) (w : World) (h : Two B w p q s n) (hn : n ≤ 100000) (hb : BsM (q :: B) w A1 d.by_) (hbl : d.by_.length ≤ 140737488351232) (hK : SlM (q :: B) w A2 (bo d.cr.keep))
    (hkl : d.cr.keep.length ≤ 140737488351232) (hi : d.i ≤ 9223372036854775807) : Calls Try.prog 21 #[pt p, pt q, dv d A1 c1 A2 c2] w (Did B w p q (n + 1)) := by
  by_cases h0 : d.do_ = 0
  · exact do_write p q n d A1 c1 A2 c2 B s w h hn hb hbl h0
  · by_cases h1 : d.do_ = 1
    · exact do_flush p q n d A1 c1 A2 c2 B s w h hn h1
    · by_cases h2 : d.do_ = 2
      · exact do_read p q n d A1 c1 A2 c2 B s w h hn h2
      · by_cases h3 : d.do_ = 3
        · exact do_cut p q n d A1 c1 A2 c2 B s w h hn hi h3
        · exact do_crash p q n d A1 c1 A2 c2 B s w h hn hK (by omega) h0 h1 h2 h3
set_option maxHeartbeats 2000000 in
theorem play_ok (n : Nat) (A : Option Addr) (cap : Nat) (l : List De) (w : World) (h : RsM RDe 6 [] w A l) (h1 : 1 ≤ n) (h2 : n ≤ 512) :
    Calls Try.prog 18 #[.int .i64 n, .slice A l.length cap] w (Played w) := by
  go_enter Try.func18, Try.ntmps18
  go_wp2_with fail
  refine (New_ok n w h1 h2).mono ?_
  rintro e w1 ⟨p, B, rfl, hx1, hd, hB⟩
  unfold pt
  go_wp2_with fail
  refine (RNew_ok n w1 h1 h2).mono ?_
  rintro e w2 ⟨rfl, hx2, hr⟩
  unfold pt
  obtain ⟨hT, hx, hq⟩ := newTwo h1 h2 hd hx1 hB hx2 hr
  clear hd hr hx1 hx2 hB
  generalize w1.heap.size = q at *
  generalize newD n = s0 at *
  go_wp2
  go_loopw [11] (fun i wr => ∃ (k : Nat) (B : List Nat) (s : Dk), k ≤ l.length ∧ k ≤ 120 ∧ i = .int .i64 k ∧ Ext w wr ∧ (∀ k ∈ q :: B, w.heap.size ≤ k) ∧ Two B wr p q s k) (fun i _ => 120 - (intOf i).toNat)
  case atStart => exact ⟨0, _, _, by omega, by omega, rfl, hx, hq, hT⟩
  case round =>
    obtain ⟨k, B', s, hk1, hk2, rfl, hxr, hqr, hTr⟩ := hrel
    clear hx hT hq
    by_cases hlt : k < l.length ∧ k < 120
    · obtain ⟨hlt, hlt2⟩ := hlt
      obtain ⟨ad, A1, c1, A2, c2, rfl, hby, hkp, hkl, hbl, hil, E0, E1, E2, E3, E4, E5⟩ := h.deed hlt
      have hlt3 : (k : Int) < 120 := by omega
      have hlt4 : (k : Int) < l.length := by omega
      have e0 := E0 _ hxr
      have e1 := E1 _ hxr
      have e2 := E2 _ hxr
      have e3 := E3 _ hxr
      have e4 := E4 _ hxr
      have e5 := E5 _ hxr
      have HD := do_any p q k l[k] A1 c1 A2 c2 B' s wr hTr (by omega) (old_sl hby hxr hqr) hbl (old_sl hkp hxr hqr) hkl hil
      unfold pt dv at HD
      generalize l[k] = cc at *
      clear E0 E1 E2 E3 E4 E5 hby hkp hTr
      go_wp2_with fail
      refine HD.mono ?_
      rintro e w3 ⟨rfl, B3, s3, hT3, ht3⟩
      obtain ⟨hx3, hB3⟩ := ht3.to_ext hxr hqr
      go_wp2
      go_roundw
      case rel => exact ⟨k + 1, B3, s3, by omega, by omega, by go_num, hx3, hB3, hT3⟩
      case measure => simp [intOf]; omega
    · have hpre : ¬ (k : Int) < l.length ∨ ((k : Int) < l.length ∧ ¬ (k : Int) < 120) := by omega
      have HS := sure_any wr hTr (by omega)
      have HT := Lib.hid (show Two B' wr p q s 120 from ⟨hTr.disk, hTr.ref, hTr.ne, hTr.ok, hTr.few.mono hk2⟩)
      unfold pt at HS
      clear hTr
      rcases hpre with h5 | ⟨h5, h6⟩
      all_goals
        go_wp2_with fail
        refine HS.mono ?_
        rintro e w4 ⟨rfl, hx4⟩
        go_wp2
        go_ret3
        exact ⟨p, q, B', s, rfl, hxr.trans hx4, hqr, HT.out.ext hx4⟩
theorem plays_any (n : Int) (A : Option Addr) (cap : Nat) (l : List De) (w : World) (h : RsM RDe 6 [] w A l) :
    Calls Try.prog 6 #[.int .i64 n, .slice A l.length cap] w (Yes w) := by
  by_cases hn : 1 ≤ n ∧ n ≤ 512
  · obtain ⟨m, rfl⟩ : ∃ m : Nat, n = m := ⟨n.toNat, by omega⟩
    have H := play_ok m A cap l w h (by omega) (by omega)
    clear hn
    go_enter Try.func6, Try.ntmps6
    go_wp2_with fail
    refine H.mono ?_
    rintro e w1 ⟨p, q, B, s, rfl, hx1, _, _⟩
    go_wp2_with fail
    refine (live_any _).mono ?_
    rintro e w2 ⟨rfl, hx2⟩
    go_wp2
    go_ret
    exact Yes.mk' rfl (hx1.trans hx2)
  · have H := play_no n A cap l w (by omega)
    clear hn
    go_enter Try.func6, Try.ntmps6
    go_wp2_with fail
    refine H.mono ?_
    rintro e w1 ⟨rfl, rfl⟩
    go_wp2_with fail
    refine (live_any _).mono ?_
    rintro e w2 ⟨rfl, hx2⟩
    go_wp2
    go_ret
    exact Yes.mk' rfl hx2
end Go.Proofs.Ytcnikfmcefnmoaa
