/- The log in memory; the walks of begins, room, wrong, begin, number, head, all. Conditions: the hypotheses of each theorem. -/
import Derived.Test.YtklodimokhndoaaWa0
import Derived.Test.YtklodimokhndoaaWa1
import Derived.Test.YtklodimokhndoaaDk9
import Derived.Test.YtklodimokhndoaaDk10
import Derived.Lib.MinMax
namespace Go.Proofs.Ytklodimokhndoaa
open Go.RowKit
structure Lg where
  age : Nat
  base : Nat
  size : Nat
  half : Nat
  gen : Nat
  space : By
  recs : List By
/-- a log of a fitting size -/
structure Lg.Fit (g : Lg) : Prop where
  base : g.base ≤ 512
  s1 : 2 ≤ g.size
  s2 : g.size ≤ 256
  half : g.half ≤ 1
  gen : g.gen ≤ 4611686018427387904
/-- the cells of a log's own block -/
def LgRow (w : World) (q p : Nat) (g : Lg) (A : Option Addr) (c : Nat) (v : Value) : Prop :=
  w.heap[q]? = some (.cells #[pt p, .int .i64 g.age, .int .i64 g.base, .int .i64 g.size, .int .i64 g.half, .int .u64 g.gen, .slice A g.space.length c, v] 77 (0, 0))
section
variable {w w' : World} {q p : Nat} {g : Lg} {A : Option Addr} {c : Nat} {v : Value}
theorem LgRow.ext (h : LgRow w q p g A c v) (hx : Ext w w') : LgRow w' q p g A c v := hx.obj h
theorem LgRow.kept {M : List Nat} (h : LgRow w q p g A c v) (hx : Kept M w w') (hq : q ∉ M) : LgRow w' q p g A c v := hx.heap h hq
theorem LgRow.cell (h : LgRow w q p g A c v) : (∀ W, Ext w W → W.cell? ⟨q, 0, none⟩ = some (pt p)) ∧ (∀ W, Ext w W → W.cell? ⟨q, 1, none⟩ = some (.int .i64 g.age)) ∧ (∀ W, Ext w W → W.cell? ⟨q, 2, none⟩ = some (.int .i64 g.base)) ∧ (∀ W, Ext w W → W.cell? ⟨q, 3, none⟩ = some (.int .i64 g.size)) ∧
    (∀ W, Ext w W → W.cell? ⟨q, 4, none⟩ = some (.int .i64 g.half)) ∧ (∀ W, Ext w W → W.cell? ⟨q, 5, none⟩ = some (.int .u64 g.gen)) ∧ (∀ W, Ext w W → W.cell? ⟨q, 6, none⟩ = some (.slice A g.space.length c)) ∧ (∀ W, Ext w W → W.cell? ⟨q, 7, none⟩ = some v) ∧ (∀ W j, Ext w W → W.frozen? ⟨q, j, none⟩ = false) := by
  refine ⟨fun W hx => ?_, fun W hx => ?_, fun W hx => ?_, fun W hx => ?_, fun W hx => ?_, fun W hx => ?_, fun W hx => ?_, fun W hx => ?_, fun W j hx => frozen_of_row _ q j _ _ (hx.obj h)⟩ <;>
    (rw [cell_of_row _ q _ _ _ _ (hx.obj h)]; rfl)
set_option maxHeartbeats 400000 in
theorem wbegins_any (h : LgRow w q p g A c v) (k : Nat) (hb : g.base ≤ 512) (hs : g.size ≤ 256) (hk : k ≤ 1) : Calls Try.prog 30 #[pt q, .int .i64 k] w fun e w' => e = .returned (.int .i64 ((g.base + k * g.size : Nat) : Int)) ∧ Ext w w' := by
  obtain ⟨-, -, c2, c3, -⟩ := h.cell
  have c2 := c2 w (Ext.refl w)
  have c3 := c3 w (Ext.refl w)
  clear h
  have hm : k * g.size ≤ 256 := by rcases Nat.lt_or_ge k 1 with h | h; (have : k = 0 := by omega); (subst this; omega); (have : k = 1 := by omega); (subst this; omega)
  have w1 : IntKind.i64.wrap ((k : Int) * (g.size : Int)) = ((k * g.size : Nat) : Int) := by rw [show ((k : Int) * (g.size : Int)) = ((k * g.size : Nat) : Int) by simp]; exact wrapI _ (by omega) (by omega)
  have w2 : IntKind.i64.wrap ((g.base : Int) + ((k * g.size : Nat) : Int)) = ((g.base + k * g.size : Nat) : Int) := by rw [wrapI _ (by omega) (by omega)]; omega
  generalize g.base + k * g.size = z at *
  generalize k * g.size = y at *
  unfold pt
  go_enter Try.func30, Try.ntmps30
  go_wp2_with fail
  go_quiet (fail)
  have hx : Ext w (w.drewN nq) := (Ext.refl _).drewN nq
  generalize w.drewN nq = wq at *
  go_wp2
  go_ret
  exact ⟨rfl, hx⟩
theorem wroom_any (h : LgRow w q p g A c v) (h1 : 1 ≤ g.size) (hs : g.size ≤ 256) : Calls Try.prog 45 #[pt q] w fun e w' => e = .returned (.int .i64 (((g.size - 1) * 64 : Nat) : Int)) ∧ w' = w := by
  obtain ⟨-, -, -, c3, -⟩ := h.cell
  have c3 := c3 w (Ext.refl w)
  clear h
  have w1 : IntKind.i64.wrap ((g.size : Int) - 1) = ((g.size - 1 : Nat) : Int) := by rw [wrapI _ (by omega) (by omega)]; omega
  have w2 : IntKind.i64.wrap (((g.size - 1 : Nat) : Int) * 64) = (((g.size - 1) * 64 : Nat) : Int) := by rw [wrapI _ (by omega) (by omega)]; omega
  unfold pt
  go_enter Try.func45, Try.ntmps45
  go_wp2
  go_ret
  exact ⟨rfl, rfl⟩
end
def wrongR (r : By) : Int := if r.length = 0 then 2 else if 2000 < r.length then 6 else 0
theorem wwrong_any (A : Option Addr) (c : Nat) (r : By) (w : World) : Calls Try.prog 49 #[.slice A r.length c] w fun e w' => e = .returned (.int .i64 (wrongR r)) ∧ w' = w := by
  have HR : Hid (wrongR r = if r.length = 0 then 2 else if 2000 < r.length then 6 else 0) := Lib.hid rfl
  by_cases h0 : r.length = 0
  · have h1 : ((r.length : Int) == 0) = true := by simp [h0]
    rw [if_pos h0] at HR
    rw [HR.out]
    clear h0 HR
    go_enter Try.func49, Try.ntmps49
    go_wp2
    go_ret
    exact ⟨rfl, rfl⟩
  · have h1 : ((r.length : Int) == 0) = false := by simpa using h0
    rw [if_neg h0] at HR
    clear h0
    by_cases h2 : 2000 < r.length
    · have h3 : (2000 : Int) < r.length := by omega
      rw [if_pos h2] at HR
      rw [HR.out]
      clear HR
      go_enter Try.func49, Try.ntmps49
      go_wp2
      go_ret
      exact ⟨rfl, rfl⟩
    · have h3 : ¬ (2000 : Int) < r.length := by omega
      rw [if_neg h2] at HR
      rw [HR.out]
      clear HR
      go_enter Try.func49, Try.ntmps49
      go_wp2
      go_ret
      exact ⟨rfl, rfl⟩
/-- the first pages of a half -/
def Lg.at_ (g : Lg) (k : Nat) : Nat := g.base + k * g.size
/-- a half's space as it reads, up to a page -/
def allG (s : Dk) (b n : Nat) : By := (List.range n).flatMap fun i => readS s (b + (i + 1))
theorem allG_succ (s : Dk) (b n : Nat) : allG s b (n + 1) = allG s b n ++ readS s (b + (n + 1)) := by
  unfold allG
  rw [List.range_succ, List.flatMap_append]
  simp
theorem readS_64 {s : Dk} (hs : s.Ok) {i : Nat} (hi : i < s.sure.length) : (readS s i).length = 64 := by
  have := readS_len hs hi s.waits.length
  rwa [List.take_length] at this
theorem allG_len {s : Dk} (hs : s.Ok) {b : Nat} : ∀ n, b + n < s.sure.length → (allG s b n).length = 64 * n := by
  intro n
  induction n with
  | zero => intro _; rfl
  | succ n ih =>
    intro h
    rw [allG_succ, List.length_append, ih (by omega), readS_64 hs (by omega)]
    omega
theorem wrong_ok {s : Dk} (hd : s.down = false) {i : Nat} (hi : i < s.sure.length) : wrongE s i true = 0 := by
  unfold wrongE
  rw [if_neg (by simp [hd]), if_pos (by omega)]
theorem readL_ok {s : Dk} (hd : s.down = false) {i : Nat} (hi : i < s.sure.length) : readL s i = readS s i := by
  unfold readL
  rw [if_neg (by rw [wrong_ok hd hi]; decide)]
  simp
set_option maxHeartbeats 1000000 in
theorem wall_any {B : List Nat} {w : World} {q p : Nat} {g : Lg} {A : Option Addr} {c : Nat} {v : Value} {s : Dk} {n : Nat} (h : LgRow w q p g A c v) (hD : Disk B w p s) (hs : s.Ok) (hf : s.Few n) (hn : n ≤ 1000000) (hd : s.down = false)
    (k : Nat) (hb : g.base ≤ 512) (h1 : 1 ≤ g.size) (h2 : g.size ≤ 256) (hk : k ≤ 1) (hin : g.at_ k + g.size ≤ s.sure.length) :
    Calls Try.prog 34 #[pt q, .int .i64 k] w fun e w' => ∃ v, e = .returned v ∧ Own w' w.heap.size v (allG s (g.at_ k) (g.size - 1)) ∧ Ext w w' := by
  obtain ⟨c0, -, -, c3, -⟩ := h.cell
  have HO0 := Lib.hid (Own.nil w w.heap.size)
  have HH := Lib.hid h
  have HD := Lib.hid hD
  have HG : Hid (g.at_ k = g.base + k * g.size) := Lib.hid rfl
  have hz2 := hs.n2
  clear h hD
  generalize hzz : s.sure.length = z at *
  have HZ := Lib.hid hzz
  clear hzz
  generalize g.at_ k = b at *
  unfold pt at *
  go_enter Try.func34, Try.ntmps34
  go_wp2
  go_loopw [5, 6] (fun ov iv wr => ∃ (m : Nat) (A1 : Option Addr) (c1 : Nat), iv = .int .i64 ((m + 1 : Nat) : Int) ∧ m + 1 ≤ g.size ∧ ov = .slice A1 (allG s b m).length c1 ∧ Hid (Own wr w.heap.size (.slice A1 (allG s b m).length c1) (allG s b m)) ∧ Hid (Ext w wr)) (fun _ iv _ => g.size - (intOf iv).toNat)
  case atStart => exact ⟨0, none, 0, rfl, by omega, rfl, HO0, Lib.hid (Ext.refl w)⟩
  case round =>
    obtain ⟨m, A1, c1, rfl, hm, rfl, HO, HX⟩ := hrel
    clear HO0
    have C0 := fun W (hx : Ext wr W) => c0 W (HX.out.trans hx)
    have c3r := c3 wr HX.out
    have hgl := allG_len hs (b := b) m (by rw [HZ.out]; omega)
    have hlen : (allG s b m).length ≤ 100000 := by omega
    have wm : IntKind.i64.wrap ((b : Int) + ((m : Int) + 1)) = ((b + (m + 1) : Nat) : Int) := by rw [wrapI _ (by omega) (by omega)]; omega
    have wm2 : IntKind.i64.wrap ((m : Int) + 1 + 1) = ((m + 1 + 1 : Nat) : Int) := by rw [wrapI _ (by omega) (by omega)]; omega
    clear hgl
    by_cases hlt : m + 1 < g.size
    · have hlt2 : ((m : Int) + 1) < (g.size : Int) := by omega
      have HBG := fun W (hx : Ext wr W) => wbegins_any (HH.out.ext (HX.out.trans hx)) k hb h2 hk
      rw [← HG.out] at HBG
      have HRD := fun W (hx : Ext wr W) => Read_any (HD.out.ext (HX.out.trans hx)) hs hf hn ((b + (m + 1) : Nat) : Int)
      have hp : b + (m + 1) < s.sure.length := by rw [HZ.out]; omega
      rw [wrong_ok hd hp, readL_ok hd hp] at HRD
      have HAL : Hid (allG s b (m + 1) = allG s b m ++ readS s (b + (m + 1))) := Lib.hid (allG_succ s b m)
      have hrl := readS_64 hs hp
      have HRL := Lib.hid hrl
      clear hrl hp
      generalize readS s (b + (m + 1)) = pg at *
      generalize allG s b m = o1 at *
      unfold pt at *
      have hxd : Ext wr wr.drew := (Ext.refl _).drew
      go_wp2_with fail
      go_region_held3 (fun W => Ext wr W) (first | exact hxd | assumption) ((first
        | (go_at_call 30; refine (HBG _ (by first | assumption | exact hxd)).mono ?_; rintro e w3 ⟨rfl, hx3'⟩; have hx3 : Ext wr w3 := Ext.trans (by first | assumption | exact hxd) hx3'; clear hx3')
        | (go_at_call 27; refine (HRD _ (by first | assumption | exact hxd)).mono ?_; rintro e w4 ⟨A4, c4, rfl, hfr, hx4', hc4, hc5⟩; have hx4 : Ext wr w4 := Ext.trans (by first | assumption | exact hxd) hx4'; clear hx4')))
      all_goals
        clear HBG HRD
        go_wp2_with (at_builtin; refine unstop ?_)
        have HX4 := Lib.hid (HX.out.trans hx4)
        refine go_on (wpList_appB bytesT (HO.out.ext hx4) (hfr.bsM (M := []) (by simp)).bs rfl rfl rfl rfl rfl (by rw [HRL.out]; omega) HX4.out.size ?_)
        intro v5 w5 ho5 hg5 hor5
        rw [← HAL.out] at ho5
        obtain ⟨A5, c5, rfl⟩ := ho5.form
        have HX5 := Lib.hid (HX4.out.own (HO.out.ext hx4) (Nat.le_refl _) hg5)
        have HO5 := Lib.hid ho5
        clear ho5 hg5 hor5 hfr hx4
        go_wp2_with fail
        go_roundw
        case rel => exact ⟨m + 1, A5, c5, by go_num, by omega, rfl, HO5, HX5⟩
        case measure => simp [intOf]; omega
    · obtain rfl : m = g.size - 1 := by omega
      have hlt2 : ¬ ((g.size - 1 : Nat) : Int) + 1 < (g.size : Int) := by omega
      go_wp2
      go_ret
      exact ⟨_, rfl, HO.out, HX.out⟩
end Go.Proofs.Ytklodimokhndoaa
