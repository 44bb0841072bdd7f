/- The walk of the log's Open, where there may be one. Conditions: the hypotheses of the theorem. -/
import Derived.Test.YtklodimokhndoaaWb6
namespace Go.Proofs.Ytklodimokhndoaa
open Go.RowKit
def lg0 (age b sz half gen : Nat) : Lg := ⟨age, b, sz, half, gen, [], []⟩
/-- a new log: no head counts -/
def openN (s : Dk) (b sz : Nat) : Int × Dk × Lg :=
  if (layD s b (sz - 1) [] true).1 ≠ 0 then ((layD s b (sz - 1) [] true).1, (layD s b (sz - 1) [] true).2, lg0 s.age b sz 0 1)
  else ((crownD (layD s b (sz - 1) [] true).2 b 1).1, (crownD (layD s b (sz - 1) [] true).2 b 1).2, lg0 s.age b sz 0 1)
/-- the log of a half -/
def openH (s : Dk) (b sz h gen : Nat) : Int × Dk × Lg :=
  ((layD s (b + h * sz) (sz - 1) ((allG s (b + h * sz) (sz - 1)).take (readF (allG s (b + h * sz) (sz - 1))).2) false).1, (layD s (b + h * sz) (sz - 1) ((allG s (b + h * sz) (sz - 1)).take (readF (allG s (b + h * sz) (sz - 1))).2) false).2,
    ⟨s.age, b, sz, h, gen, (allG s (b + h * sz) (sz - 1)).take (readF (allG s (b + h * sz) (sz - 1))).2, (readF (allG s (b + h * sz) (sz - 1))).1⟩)
def openR (s : Dk) (b sz : Nat) : Int × Dk × Lg :=
  if max (genF (readS s b)) (genF (readS s (b + sz))) = 0 then openN s b sz
  else openH s b sz (if genF (readS s b) < genF (readS s (b + sz)) then 1 else 0) (max (genF (readS s b)) (genF (readS s (b + sz))))
/-- what Open answers -/
def OpenSays (B N0 : List Nat) (w : World) (p : Nat) (r : Int × Dk × Lg) (e : Ending) (w' : World) : Prop :=
  (r.1 ≠ 0 ∧ e = .returned (.tuple #[.pointer none, .int .i64 r.1]) ∧ ∃ B', Disk B' w' p r.2.1 ∧ Turn B w B' w') ∨
  (r.1 = 0 ∧ ∃ q M', e = .returned (.tuple #[pt q, .int .i64 0]) ∧ Sys M' (M' ++ N0) w' p q r.2.1 r.2.2 ∧ Turn B w M' w')
theorem LgC.set5 {w : World} {q p age base size half gen : Nat} {sp v : Value} (h : LgC w q p age base size half gen sp v) (u : Nat) : LgC (w.setCell ⟨q, 5, none⟩ (.int .u64 u)) q p age base size half u sp v := by
  have := heap_setCell_same w q 5 _ _ (.int .u64 u) h
  simpa [LgC] using this
theorem LgC.set4 {w : World} {q p age base size half gen : Nat} {sp v : Value} (h : LgC w q p age base size half gen sp v) (u : Nat) : LgC (w.setCell ⟨q, 4, none⟩ (.int .i64 u)) q p age base size u gen sp v := by
  have := heap_setCell_same w q 4 _ _ (.int .i64 u) h
  simpa [LgC] using this
/-- a log that is the call's own -/
theorem SysI.fresh {B N0 : List Nat} {w : World} {p q : Nat} {s : Dk} {g : Lg} {A : Option Addr} {c : Nat} {v : Value} {base : Nat} (hd : Disk B w p s) (hr : LgRow w q p g A c v) (hB : ∀ k ∈ B, k < q) (hN : ∀ k ∈ N0, k < q) (hqb : q < base) (hsp : Own w base (.slice A g.space.length c) g.space) (hrs : OwnS w base v g.recs) :
    ∃ vs, SysI (q :: (v.ownBlock.toList ++ B)) (q :: (v.ownBlock.toList ++ B) ++ N0) w p q s g B A c v vs := by
  obtain ⟨vs, h1, h2⟩ := hrs
  have hql := (Array.getElem?_eq_some_iff.1 hr).1
  have hvb : ∀ k, v.ownBlock = some k → base ≤ k ∧ k < w.heap.size := h1.lt
  have hne : (5 : Nat) ≠ 46 := by decide
  have out : ∀ {A' : Option Addr} {n' c' : Nat} {l : By}, Own w base (.slice A' n' c') l → BsM (q :: (v.ownBlock.toList ++ B) ++ N0) w A' l := fun {A' n' c' l} ho j x hj => by
    obtain ⟨ad, e, hc⟩ := ho.bs j x hj
    refine ⟨ad, e, fun hm => ?_, hc⟩
    subst e
    have hb := (ho.lt ad.block rfl).1
    simp only [List.cons_append, List.mem_cons, List.mem_append, Option.mem_toList] at hm
    rcases hm with hm | (hm | hm) | hm
    · omega
    · rcases owns_apart ho h1 hne with e | e
      · cases e
      · exact e (by rw [hm]; rfl)
    · have := hB _ hm
      omega
    · have := hN _ hm
      omega
  refine ⟨vs, hd, hr, fun k hk => by simp [hk], by simp, fun k hk => by simp [hk], fun hm => Nat.lt_irrefl _ (hB q hm), fun k hk hm => by have := (hvb k hk).1; have := hB k hm; omega, fun k hk => List.mem_append.2 (.inl hk), fun k hk => ?_, out hsp, hsp.cap.1, owns_low h1 (Nat.zero_le _), fun k l hk => ?_⟩
  · simp only [List.cons_append, List.mem_cons, List.mem_append, Option.mem_toList] at hk
    rcases hk with rfl | (hk | hk) | hk
    · exact hql
    · exact (hvb k hk).2
    · exact hd.lt k hk
    · exact Nat.lt_trans (hN k hk) hql
  · obtain ⟨u, h3, h4⟩ := h2 k l hk
    obtain ⟨A', c', rfl⟩ := h4.form
    exact ⟨A', c', h3, h4.cap.1, out h4⟩
theorem Turn.fresh {B B' : List Nat} {w wc w' : World} {q : Nat} {L : List Nat} (hx : Ext w wc) (t : Turn B wc B' w') (hq : w.heap.size ≤ q) (hL : ∀ k ∈ L, w.heap.size ≤ k) : Turn B w (B' ++ (q :: (L ++ B))) w' := by
  have t2 := (Turn.of_ext (B := B) hx).trans t
  refine ⟨t2.kept, fun k hk => by simp [hk], fun k hk => ?_⟩
  simp only [List.mem_append, List.mem_cons] at hk
  rcases hk with hk | rfl | hk | hk
  · exact t2.new k hk
  · exact .inr hq
  · exact .inr (hL k hk)
  · exact .inl hk
set_option maxRecDepth 20000 in
set_option maxHeartbeats 4000000 in
theorem wopen_any {B : List Nat} (N0 : List Nat) {w : World} {p : Nat} {s : Dk} (hD : Disk B w p s) (hs : s.Ok) {n : Nat} (hf : s.Few n) (hn : n ≤ 90000) (b m : Nat) (hd : s.down = false) (hb : b ≤ 512) (hm1 : 4 ≤ m) (hm2 : m ≤ 512) (hin : b + m ≤ s.sure.length) (hN0 : ∀ k ∈ N0, k < w.heap.size) :
    Calls Try.prog 10 #[pt p, .int .i64 b, .int .i64 m] w (OpenSays B N0 w p (openR s b (m / 2))) := by
  have HDN := Down_all hD
  rw [hd] at HDN
  have HRD := fun W (hx : Ext w W) => Read_any (hD.ext hx) hs hf (by omega) ((b + m - 1 : Nat) : Int)
  rw [wrong_ok hd (by omega)] at HRD
  have HAG := fun W (hx : Ext w W) => Age_all (hD.ext hx)
  have HDD := Lib.hid hD
  have hlt := hD.lt
  have HLT := Lib.hid hlt
  have h1 : ¬ (b : Int) < 0 := by omega
  have h2 : ¬ (m : Int) < 4 := by omega
  have h3 : ¬ (512 : Int) < (m : Int) := by omega
  have h4 : ¬ (512 : Int) < (b : Int) := by omega
  have w1' : IntKind.i64.wrap ((b : Int) + (m : Int)) = (b : Int) + (m : Int) := wrapI _ (by omega) (by omega)
  have w2' : IntKind.i64.wrap ((b : Int) + (m : Int) - 1) = ((b + m - 1 : Nat) : Int) := by rw [wrapI _ (by omega) (by omega)]; omega
  have hq2 : (m : Int) / 2 = ((m / 2 : Nat) : Int) := by omega
  have hz1 : 2 ≤ m / 2 := by omega
  have hz2 : m / 2 ≤ 256 := by omega
  have hz3 : b + m / 2 + m / 2 ≤ s.sure.length := by omega
  clear hD hlt
  generalize m / 2 = sz at *
  generalize b + m - 1 = l1 at *
  unfold pt at *
  go_enter Try.func10, Try.ntmps10
  go_wp2_with fail
  refine HDN.mono ?_
  rintro e w1 ⟨rfl, hx1⟩
  clear HDN
  go_wp2_with fail
  refine (HRD _ hx1).mono ?_
  rintro e w2 ⟨A2, c2, rfl, -, hx2', -⟩
  have hx2 := hx1.trans hx2'
  clear HRD hx1 hx2'
  go_wp2_with fail
  refine (HAG _ hx2).mono ?_
  rintro e w3 ⟨rfl, hx3'⟩
  have hx3 := hx2.trans hx3'
  clear HAG hx2 hx3'
  have hr := heap_alloc_new w3 (.cells #[pt p, .int .i64 s.age, .int .i64 b, .int .i64 sz, .int .i64 0, .int .u64 0, .slice none 0 0, .slice none 0 0] 77)
  have hx4 := hx3.alloc (.cells #[pt p, .int .i64 s.age, .int .i64 b, .int .i64 sz, .int .i64 0, .int .u64 0, .slice none 0 0, .slice none 0 0] 77)
  unfold pt at *
  go_wp2_with fail
  obtain ⟨w4, hw4⟩ : ∃ w4, w3.alloc (.cells #[.pointer (some ⟨p, 0, none⟩), .int .i64 s.age, .int .i64 b, .int .i64 sz, .int .i64 0, .int .u64 0, .slice none 0 0, .slice none 0 0] 77) = w4 := ⟨_, rfl⟩
  rw [hw4] at hr hx4 ⊢
  have hq := hx3.size
  clear hw4 hx3
  generalize w3.heap.size = q at *
  have HR4 : Hid (LgC w4 q p s.age b sz 0 0 (.slice none 0 0) (.slice none 0 0)) := Lib.hid hr
  have HX4 := Lib.hid hx4
  clear hr hx4
  have HB0 : ∀ W, Ext w4 W → Calls Try.prog 30 #[.pointer (some ⟨q, 0, none⟩), .int .i64 0] W fun e w' => e = .returned (.int .i64 (b : Nat)) ∧ Ext W w' := fun W hx => by
    have := wbegins_any (g := lg0 s.age b sz 0 0) (A := none) (c := 0) (HR4.out.ext hx) 0 hb hz2 (by omega)
    rw [show (lg0 s.age b sz 0 0).base + 0 * (lg0 s.age b sz 0 0).size = b by simp [lg0]] at this
    exact this
  have HB1 : ∀ W, Ext w4 W → Calls Try.prog 30 #[.pointer (some ⟨q, 0, none⟩), .int .i64 1] W fun e w' => e = .returned (.int .i64 ((b + sz : Nat) : Int)) ∧ Ext W w' := fun W hx => by
    have := wbegins_any (g := lg0 s.age b sz 0 0) (A := none) (c := 0) (HR4.out.ext hx) 1 hb hz2 (by omega)
    rw [show (lg0 s.age b sz 0 0).base + 1 * (lg0 s.age b sz 0 0).size = b + sz by simp [lg0]] at this
    exact this
  have HH0 : ∀ W, Ext w4 W → Calls Try.prog 29 #[.pointer (some ⟨p, 0, none⟩), .int .i64 b] W fun e w' => e = .returned (.int .u64 (genF (readS s b))) ∧ Ext W w' := fun W hx => by
    have := whead_any (HDD.out.ext (HX4.out.trans hx)) hs hf (by omega) (b : Int)
    rw [readL_ok hd (by omega)] at this
    exact this
  have HH1 : ∀ W, Ext w4 W → Calls Try.prog 29 #[.pointer (some ⟨p, 0, none⟩), .int .i64 ((b + sz : Nat) : Int)] W fun e w' => e = .returned (.int .u64 (genF (readS s (b + sz)))) ∧ Ext W w' := fun W hx => by
    have := whead_any (HDD.out.ext (HX4.out.trans hx)) hs hf (by omega) ((b + sz : Nat) : Int)
    rw [readL_ok hd (by omega)] at this
    exact this
  have hga := genF_le (readS s b)
  have hgb := genF_le (readS s (b + sz))
  have HO : Hid (openR s b sz = if max (genF (readS s b)) (genF (readS s (b + sz))) = 0 then openN s b sz else openH s b sz (if genF (readS s b) < genF (readS s (b + sz)) then 1 else 0) (max (genF (readS s b)) (genF (readS s (b + sz))))) := Lib.hid rfl
  generalize genF (readS s b) = ga at *
  generalize genF (readS s (b + sz)) = gb at *
  generalize hbz : b + sz = bz at *
  have HBZ := Lib.hid hbz
  clear hbz
  refine (HB0 _ (Ext.refl _)).mono ?_
  rintro e w5 ⟨rfl, hx5⟩
  clear HB0
  go_wp2_with fail
  refine (HH0 _ hx5).mono ?_
  rintro e w6 ⟨rfl, hx6'⟩
  have hx6 := hx5.trans hx6'
  clear HH0 hx5 hx6'
  go_wp2_with fail
  refine (HB1 _ hx6).mono ?_
  rintro e w7 ⟨rfl, hx7'⟩
  have hx7 := hx6.trans hx7'
  clear HB1 hx6 hx7'
  go_wp2_with fail
  refine (HH1 _ hx7).mono ?_
  rintro e w8 ⟨rfl, hx8'⟩
  have hx8 := hx7.trans hx8'
  clear HH1 hx7 hx8'
  have HR8 := Lib.hid (HR4.out.ext hx8)
  have HX8 := Lib.hid (HX4.out.trans hx8)
  clear HR4 HX4 hx8
  obtain ⟨-, c4, c5, -, -, f8⟩ := HR8.out.cell
  have f5 := f8 5
  have f4 := f8 4
  have HK8 : Hid (Kept [q] w8 (w8.setCell ⟨q, 5, none⟩ (.int .u64 ((max ga gb : Nat) : Int)))) := Lib.hid ((Kept.refl _ _).setCell (.inl (by simp)) _)
  have HR9 := Lib.hid (HR8.out.set5 (max ga gb))
  have hmx : max (ga : Int) (gb : Int) = ((max ga gb : Nat) : Int) := by omega
  have HMX : Hid (max ga gb = max ga gb) := Lib.hid rfl
  generalize hgm : max ga gb = gm at *
  have HGM := Lib.hid hgm
  clear HMX hgm f8
  by_cases h0 : gm = 0
  · have d0 : ((gm : Int) == 0) = true := by simp [h0]
    rw [if_pos h0] at HO
    clear h0
    go_wp2_with fail
    obtain ⟨wc, hwc⟩ : ∃ wc, (w8.setCell ⟨q, 5, none⟩ (.int .u64 (gm : Int))).setCell ⟨q, 5, none⟩ (.int .u64 1) = wc := ⟨_, rfl⟩
    rw [hwc]
    have HRC : Hid (LgC wc q p s.age b sz 0 1 (.slice none 0 0) (.slice none 0 0)) := Lib.hid (by rw [← hwc]; exact HR9.out.set5 1)
    have HXC : Hid (Ext w wc) := Lib.hid (HX8.out.kept (by rw [← hwc]; exact HK8.out.setCell (.inl (by simp)) _) (by simpa using hq))
    clear hwc HR9 HK8 HR8 HX8 c4 c5 f5 f4
    have hat : (lg0 s.age b sz 0 1).at_ 0 = b := by simp [Lg.at_, lg0]
    have HLY := wlay_any (g := lg0 s.age b sz 0 1) (A := none) (c := 0) HRC.out (HDD.out.ext HXC.out) hs hf (by omega) hd 0 hb hz1 hz2 (by omega) (by rw [hat]; simp only [lg0]; omega) none 0 [] (Sl.nil _ _) (by simp) true
    rw [hat] at HLY
    have hszd : (lg0 s.age b sz 0 1).size - 1 = sz - 1 := rfl
    rw [hszd] at HLY
    have HON : Hid (openN s b sz = if (layD s b (sz - 1) [] true).1 ≠ 0 then ((layD s b (sz - 1) [] true).1, (layD s b (sz - 1) [] true).2, lg0 s.age b sz 0 1)
      else ((crownD (layD s b (sz - 1) [] true).2 b 1).1, (crownD (layD s b (sz - 1) [] true).2 b 1).2, lg0 s.age b sz 0 1)) := Lib.hid rfl
    have hlok := layD_ok hs b (sz - 1) [] true
    have hlfw := layD_few hf b (sz - 1) [] true
    generalize layD s b (sz - 1) [] true = z at *
    obtain ⟨z1, z2⟩ := z
    simp only at HLY HON hlok hlfw
    have HRN : Hid (openR s b sz = openN s b sz) := HO
    clear HO hszd
    unfold pt at *
    refine HLY.mono ?_
    rintro e w9 ⟨B9, rfl, hd9, ht9⟩
    clear HLY
    have hq9 : q ∉ B9 := fun hm => by
      rcases ht9.new q hm with h | h
      · have := HLT.out q h; omega
      · have := (Array.getElem?_eq_some_iff.1 HRC.out).1; omega
    have hqB : q ∉ B := fun hm => by have := HLT.out q hm; omega
    have HR9 := Lib.hid (HRC.out.kept ht9.kept hqB)
    have HD9 := Lib.hid hd9
    have HT9 := Lib.hid ht9
    have HQ9 := Lib.hid hq9
    obtain ⟨vs0, hi0⟩ := SysI.fresh (g := lg0 s.age b sz 0 1) (HDD.out.ext HXC.out) HRC.out (fun k hk => by have := HLT.out k hk; omega) (N0 := N0) (fun k hk => by have := hN0 k hk; omega) (Nat.lt_succ_self q) (Own.nil _ _) (OwnS.nil _ _)
    have HI0 := Lib.hid hi0
    clear hd9 ht9 hq9 hi0 hqB
    by_cases hz : z1 = 0
    · have dz : (z1 == 0) = true := by simp [hz]
      rw [if_neg (by simp [hz])] at HON
      clear hz
      have HCR := wcrown_any (g := lg0 s.age b sz 0 1) (A := none) (c := 0) HR9.out HD9.out HQ9.out hlok hlfw (by omega) 0 1 hb hz2 (by omega)
      rw [hat] at HCR
      generalize crownD z2 b 1 = y at *
      obtain ⟨y1, y2⟩ := y
      simp only at HCR HON
      unfold pt at *
      go_wp2_with fail
      refine HCR.mono ?_
      rintro e w10 ⟨B10, rfl, hd10, ht10⟩
      clear HCR
      have HD10 := Lib.hid hd10
      have HT10 := Lib.hid (HT9.out.trans ht10)
      clear hd10 ht10
      by_cases hy : y1 = 0
      · have dy : (y1 != 0) = false := by simp [hy]
        have HY := Lib.hid hy
        clear hy
        go_wp2
        go_ret2
        refine .inr ⟨by rw [HRN.out, HON.out]; exact HY.out, q, B10 ++ (q :: ((Value.slice none 0 0).ownBlock.toList ++ B)), rfl, ?_, Turn.fresh HXC.out HT10.out hq (by simp [Value.ownBlock])⟩
        rw [HRN.out, HON.out]
        exact ⟨B10, none, 0, _, vs0, by have := HI0.out.turn HD10.out HT10.out; rwa [← List.append_assoc] at this⟩
      · have dy : (y1 != 0) = true := by simpa using hy
        have HY := Lib.hid hy
        clear hy
        go_wp2
        go_ret2
        refine .inl ⟨by rw [HRN.out, HON.out]; exact HY.out, by rw [HRN.out, HON.out]; rfl, B10, by rw [HRN.out, HON.out]; exact HD10.out, (Turn.of_ext HXC.out).trans HT10.out⟩
    · have dz : (z1 == 0) = false := by simpa using hz
      have dz2 : (z1 != 0) = true := by simpa using hz
      rw [if_pos (by simpa using hz)] at HON
      have HZ := Lib.hid hz
      clear hz
      go_wp2
      go_ret2
      refine .inl ⟨by rw [HRN.out, HON.out]; exact HZ.out, by rw [HRN.out, HON.out]; rfl, B9, by rw [HRN.out, HON.out]; exact HD9.out, (Turn.of_ext HXC.out).trans HT9.out⟩
  · have d0 : ((gm : Int) == 0) = false := by simpa using h0
    rw [if_neg h0] at HO
    have HG0 := Lib.hid h0
    clear h0
    by_cases hh : ga < gb
    · have dh : (ga : Int) < (gb : Int) := by omega
      rw [if_pos hh] at HO
      clear hh
      obtain ⟨wc, hwc⟩ : ∃ wc, (w8.setCell ⟨q, 5, none⟩ (.int .u64 (gm : Int))).setCell ⟨q, 4, none⟩ (.int .i64 1) = wc := ⟨_, rfl⟩
      have HRC : Hid (LgC wc q p s.age b sz 1 gm (.slice none 0 0) (.slice none 0 0)) := Lib.hid (by rw [← hwc]; exact HR9.out.set4 1)
      have HXC : Hid (Ext w wc) := Lib.hid (HX8.out.kept (by rw [← hwc]; exact HK8.out.setCell (.inl (by simp)) _) (by simpa using hq))
      have HWC := Lib.hid hwc
      have hat : (lg0 s.age b sz 1 gm).at_ 1 = b + 1 * sz := rfl
      have HAL := wall_any (g := lg0 s.age b sz 1 gm) (A := none) (c := 0) HRC.out (HDD.out.ext HXC.out) hs hf (by omega) hd 1 hb (show 1 ≤ sz by omega) hz2 (by omega) (by rw [hat]; simp only [lg0]; have := HBZ.out; omega)
      rw [hat] at HAL
      have hszd : (lg0 s.age b sz 1 gm).size - 1 = sz - 1 := rfl
      rw [hszd] at HAL
      have HOH : Hid (openH s b sz 1 gm = ((layD s (b + 1 * sz) (sz - 1) ((allG s (b + 1 * sz) (sz - 1)).take (readF (allG s (b + 1 * sz) (sz - 1))).2) false).1, (layD s (b + 1 * sz) (sz - 1) ((allG s (b + 1 * sz) (sz - 1)).take (readF (allG s (b + 1 * sz) (sz - 1))).2) false).2,
          ⟨s.age, b, sz, 1, gm, (allG s (b + 1 * sz) (sz - 1)).take (readF (allG s (b + 1 * sz) (sz - 1))).2, (readF (allG s (b + 1 * sz) (sz - 1))).1⟩)) := Lib.hid rfl
      have hgl := allG_len hs (b := b + 1 * sz) (sz - 1) (by have := HBZ.out; omega)
      have hgl1 : (allG s (b + 1 * sz) (sz - 1)).length ≤ 64 * (sz - 1) := by omega
      have hgl2 : (allG s (b + 1 * sz) (sz - 1)).length % 64 = 0 := by omega
      have hra := readG_at (allG s (b + 1 * sz) (sz - 1)) ((allG s (b + 1 * sz) (sz - 1)).length + 1) 0 (by omega)
      have hra : (readF (allG s (b + 1 * sz) (sz - 1))).2 ≤ (allG s (b + 1 * sz) (sz - 1)).length := hra
      have htl : ((allG s (b + 1 * sz) (sz - 1)).take (readF (allG s (b + 1 * sz) (sz - 1))).2).length ≤ 64 * (sz - 1) := by rw [List.length_take]; omega
      clear hwc HR9 HK8 HR8 HX8 hszd hgl hra hat
      unfold pt at *
      go_wp2_with fail
      rw [HWC.out]
      clear c4 c5 f4 f5
      generalize hall : allG s (b + 1 * sz) (sz - 1) = all at *
      refine HAL.mono ?_
      rintro e w9 ⟨v9, rfl, ho9, hx9⟩
      clear HAL
      obtain ⟨A9, c9, rfl⟩ := ho9.form
      have HRE := wread_any (HRC.out.ext hx9) A9 c9 all ho9.bs (fun ad e => by subst e; have := (ho9.lt ad.block rfl).1; have := (Array.getElem?_eq_some_iff.1 HRC.out).1; omega) ho9.cap.1 hgl2 (by omega)
      have HX9 := Lib.hid (HXC.out.trans hx9)
      have hql : q < w9.heap.size := by have := (Array.getElem?_eq_some_iff.1 HRC.out).1; have := hx9.size; omega
      clear ho9 hx9 hall
      generalize hrf : readF all = rf at *
      obtain ⟨rs, at9⟩ := rf
      simp only at HRE HOH htl
      generalize all.take at9 = sp at *
      clear hrf
      unfold pt at *
      go_wp2_with fail
      refine HRE.mono ?_
      rintro e w10 ⟨rfl, hk10, A10, c10, v10, hr10, ho10, hs10⟩
      clear HRE
      have hx10 : Ext w w10 := HX9.out.kept hk10 (by simpa using hq)
      obtain ⟨-, c4, -, c6, -, -⟩ := hr10.cell
      have C4 : ∀ V, Ext w10 V → V.cell? ⟨q, 4, none⟩ = some (.int .i64 1) := fun V hx => hx.cell c4
      have C6 : ∀ V, Ext w10 V → V.cell? ⟨q, 6, none⟩ = some (.slice A10 sp.length c10) := fun V hx => hx.cell c6
      have hxd := (Ext.refl w10).drew
      have HR10 := Lib.hid hr10
      have HO10 := Lib.hid ho10
      have HS10 := Lib.hid hs10
      have HX10 := Lib.hid hx10
      clear hk10 hr10 ho10 hs10 hx10 c4 c6
      go_wp2_with fail
      refine wp_region_phase (S := fun V => Ext w10 V) 9 (by kernel_rfl) (by kernel_rfl) ?_ (fun hHeld => ?_)
      · exact hxd
      simp only [List.drop_succ_cons, List.drop_zero]
      refine name_head ?_
      intro wr0 hw0
      rw [hw0] at hHeld
      refine wpHead_take (i := 0) (v := ?_) (by rfl) (by kernel_rfl) (by kernel_rfl) (by exact fun _ _ _ h => h) (Or.inl ⟨by rfl, ?_⟩) (by assumption) ?_
      rotate_left
      · intro w hSw
        first | (go_simp; done) | (go_simp; with_reducible rfl)
      simp only [List.getElem_toArray, List.getElem_cons_zero, Act.put, List.setIfInBounds_toArray, List.set_cons_zero, List.set_cons_succ]
      refine wpHead_take (i := 1) (v := ?_) (by rfl) (by kernel_rfl) (by kernel_rfl) (by exact fun _ _ _ h => h) (Or.inl ⟨by rfl, ?_⟩) (by assumption) ?_
      rotate_left
      · intro w hSw
        first | (go_simp; done) | (go_simp; with_reducible rfl)
      simp only [List.getElem_toArray, List.getElem_cons_succ, List.getElem_cons_zero, Act.put, List.setIfInBounds_toArray, List.set_cons_zero, List.set_cons_succ]
      refine wpHead_take (i := 2) (v := ?_) (by rfl) (by kernel_rfl) (by kernel_rfl) (by exact fun _ _ _ h => h) (Or.inl ⟨by rfl, ?_⟩) (by assumption) ?_
      rotate_left
      · intro w hSw
        first | (go_simp; done) | (go_simp; with_reducible rfl)
      simp only [List.getElem_toArray, List.getElem_cons_succ, List.getElem_cons_zero, Act.put, List.setIfInBounds_toArray, List.set_cons_zero, List.set_cons_succ]
      refine wpHead_take (i := 3) (v := ?_) (by rfl) (by kernel_rfl) (by kernel_rfl) (by exact fun _ _ _ h => h) (Or.inl ⟨by rfl, ?_⟩) (by assumption) ?_
      rotate_left
      · intro w hSw
        first | (go_simp; done) | (go_simp; with_reducible rfl)
      simp only [List.getElem_toArray, List.getElem_cons_succ, List.getElem_cons_zero, Act.put, List.setIfInBounds_toArray, List.set_cons_zero, List.set_cons_succ]
      refine wpHead_take (i := 4) (v := ?_) (by rfl) (by kernel_rfl) (by kernel_rfl) (by exact fun _ _ _ h => h) (Or.inl ⟨by rfl, ?_⟩) (by assumption) ?_
      rotate_left
      · intro w hSw
        first | (go_simp; done) | (go_simp; with_reducible rfl)
      simp only [List.getElem_toArray, List.getElem_cons_succ, List.getElem_cons_zero, Act.put, List.setIfInBounds_toArray, List.set_cons_zero, List.set_cons_succ]
      refine wpHead_take (i := 5) (v := ?_) (by rfl) (by kernel_rfl) (by kernel_rfl) (by exact fun _ _ _ h => h) (Or.inl ⟨by rfl, ?_⟩) (by assumption) ?_
      rotate_left
      · intro w hSw
        first | (go_simp; done) | (go_simp; with_reducible rfl)
      simp only [List.getElem_toArray, List.getElem_cons_succ, List.getElem_cons_zero, Act.put, List.setIfInBounds_toArray, List.set_cons_zero, List.set_cons_succ]
      refine wpHead_take (i := 6) (v := ?_) (by rfl) (by kernel_rfl) (by kernel_rfl) (by exact fun _ _ _ h => h) (Or.inl ⟨by rfl, ?_⟩) (by assumption) ?_
      rotate_left
      · intro w hSw
        first | (go_simp; done) | (go_simp; with_reducible rfl)
      simp only [List.getElem_toArray, List.getElem_cons_succ, List.getElem_cons_zero, Act.put, List.setIfInBounds_toArray, List.set_cons_zero, List.set_cons_succ]
      refine wpHead_take (i := 7) (v := ?_) (by rfl) (by kernel_rfl) (by kernel_rfl) (by exact fun _ _ _ h => h) (Or.inl ⟨by rfl, ?_⟩) (by assumption) ?_
      rotate_left
      · intro w hSw
        first | (go_simp; done) | (go_simp; with_reducible rfl)
      simp only [List.getElem_toArray, List.getElem_cons_succ, List.getElem_cons_zero, Act.put, List.setIfInBounds_toArray, List.set_cons_zero, List.set_cons_succ]
      refine wpHead_take (i := 8) (v := ?_) (by rfl) (by kernel_rfl) (by kernel_rfl) (by exact fun _ _ _ h => h) (Or.inl ⟨by rfl, ?_⟩) (by assumption) ?_
      rotate_left
      · intro w hSw
        first | (go_simp; done) | (go_simp; with_reducible rfl)
      simp only [List.getElem_toArray, List.getElem_cons_succ, List.getElem_cons_zero, Act.put, List.setIfInBounds_toArray, List.set_cons_zero, List.set_cons_succ]
      refine wpHead_done (by kernel_rfl) ?_
      clear C4 C6 hxd
      have HXV := Lib.hid (HX10.out.trans hHeld)
      have HRV : Hid (LgRow wr0 q p ⟨s.age, b, sz, 1, gm, sp, rs⟩ A10 c10 v10) := Lib.hid (HR10.out.ext hHeld)
      have HOV := Lib.hid (HO10.out.ext hHeld)
      have HSV := Lib.hid (HS10.out.ext hHeld)
      have hat : (Lg.mk s.age b sz 1 gm sp rs).at_ 1 = b + 1 * sz := rfl
      have HLY := wlay_any HRV.out (HDD.out.ext HXV.out) hs hf (by omega) hd 1 hb hz1 hz2 (by omega) (by rw [hat]; simp only; have := HBZ.out; omega) A10 c10 sp HOV.out.bs htl false
      rw [hat] at HLY
      generalize layD s (b + 1 * sz) (sz - 1) sp false = z at *
      obtain ⟨z1, z2⟩ := z
      have hHO : openR s b sz = (z1, z2, ⟨s.age, b, sz, 1, gm, sp, rs⟩) := by rw [HO.out]; exact HOH.out
      have HHO := Lib.hid hHO
      obtain ⟨vs, hi⟩ := SysI.fresh (HDD.out.ext HXV.out) HRV.out (fun k hk => by have := HLT.out k hk; omega) (N0 := N0) (fun k hk => by have := hN0 k hk; omega) hql HOV.out HSV.out
      have HI := Lib.hid hi
      have HVB : Hid (∀ k ∈ v10.ownBlock.toList, w.heap.size ≤ k) := Lib.hid fun k hk => by
        obtain ⟨us, u1, -⟩ := HSV.out
        have := (u1.lt k (by simpa using hk)).1
        omega
      clear hHO hi hHeld hat
      unfold pt at *
      go_wp2_with fail
      refine HLY.mono ?_
      rintro e w11 ⟨B11, rfl, hd11, ht11⟩
      clear HLY
      by_cases hz : z1 = 0
      · have dz : (z1 != 0) = false := by simp [hz]
        have HZ := Lib.hid hz
        clear hz
        go_wp2
        go_ret2
        refine .inr ⟨by rw [HHO.out]; exact HZ.out, q, _, rfl, ?_, Turn.fresh HXV.out ht11 hq HVB.out⟩
        rw [HHO.out]
        exact ⟨B11, A10, c10, v10, vs, by have := HI.out.turn hd11 ht11; rwa [← List.append_assoc] at this⟩
      · have dz : (z1 != 0) = true := by simpa using hz
        have HZ := Lib.hid hz
        clear hz
        go_wp2
        go_ret2
        exact .inl ⟨by rw [HHO.out]; exact HZ.out, by rw [HHO.out]; rfl, B11, by rw [HHO.out]; exact hd11, (Turn.of_ext HXV.out).trans ht11⟩
    · have dh : ¬ (ga : Int) < (gb : Int) := by omega
      rw [if_neg hh] at HO
      clear hh
      obtain ⟨wc, hwc⟩ : ∃ wc, w8.setCell ⟨q, 5, none⟩ (.int .u64 (gm : Int)) = wc := ⟨_, rfl⟩
      have HRC : Hid (LgC wc q p s.age b sz 0 gm (.slice none 0 0) (.slice none 0 0)) := Lib.hid (by rw [← hwc]; exact HR9.out)
      have HXC : Hid (Ext w wc) := Lib.hid (HX8.out.kept (by rw [← hwc]; exact HK8.out) (by simpa using hq))
      have HWC := Lib.hid hwc
      have hat : (lg0 s.age b sz 0 gm).at_ 0 = b + 0 * sz := rfl
      have HAL := wall_any (g := lg0 s.age b sz 0 gm) (A := none) (c := 0) HRC.out (HDD.out.ext HXC.out) hs hf (by omega) hd 0 hb (show 1 ≤ sz by omega) hz2 (by omega) (by rw [hat]; simp only [lg0]; have := HBZ.out; omega)
      rw [hat] at HAL
      have hszd : (lg0 s.age b sz 0 gm).size - 1 = sz - 1 := rfl
      rw [hszd] at HAL
      have HOH : Hid (openH s b sz 0 gm = ((layD s (b + 0 * sz) (sz - 1) ((allG s (b + 0 * sz) (sz - 1)).take (readF (allG s (b + 0 * sz) (sz - 1))).2) false).1, (layD s (b + 0 * sz) (sz - 1) ((allG s (b + 0 * sz) (sz - 1)).take (readF (allG s (b + 0 * sz) (sz - 1))).2) false).2,
          ⟨s.age, b, sz, 0, gm, (allG s (b + 0 * sz) (sz - 1)).take (readF (allG s (b + 0 * sz) (sz - 1))).2, (readF (allG s (b + 0 * sz) (sz - 1))).1⟩)) := Lib.hid rfl
      have hgl := allG_len hs (b := b + 0 * sz) (sz - 1) (by have := HBZ.out; omega)
      have hgl1 : (allG s (b + 0 * sz) (sz - 1)).length ≤ 64 * (sz - 1) := by omega
      have hgl2 : (allG s (b + 0 * sz) (sz - 1)).length % 64 = 0 := by omega
      have hra := readG_at (allG s (b + 0 * sz) (sz - 1)) ((allG s (b + 0 * sz) (sz - 1)).length + 1) 0 (by omega)
      have hra : (readF (allG s (b + 0 * sz) (sz - 1))).2 ≤ (allG s (b + 0 * sz) (sz - 1)).length := hra
      have htl : ((allG s (b + 0 * sz) (sz - 1)).take (readF (allG s (b + 0 * sz) (sz - 1))).2).length ≤ 64 * (sz - 1) := by rw [List.length_take]; omega
      clear hwc HR9 HK8 HR8 HX8 hszd hgl hra hat
      unfold pt at *
      go_wp2_with fail
      rw [HWC.out]
      clear c4 c5 f4 f5
      generalize hall : allG s (b + 0 * sz) (sz - 1) = all at *
      refine HAL.mono ?_
      rintro e w9 ⟨v9, rfl, ho9, hx9⟩
      clear HAL
      obtain ⟨A9, c9, rfl⟩ := ho9.form
      have HRE := wread_any (HRC.out.ext hx9) A9 c9 all ho9.bs (fun ad e => by subst e; have := (ho9.lt ad.block rfl).1; have := (Array.getElem?_eq_some_iff.1 HRC.out).1; omega) ho9.cap.1 hgl2 (by omega)
      have HX9 := Lib.hid (HXC.out.trans hx9)
      have hql : q < w9.heap.size := by have := (Array.getElem?_eq_some_iff.1 HRC.out).1; have := hx9.size; omega
      clear ho9 hx9 hall
      generalize hrf : readF all = rf at *
      obtain ⟨rs, at9⟩ := rf
      simp only at HRE HOH htl
      generalize all.take at9 = sp at *
      clear hrf
      unfold pt at *
      go_wp2_with fail
      refine HRE.mono ?_
      rintro e w10 ⟨rfl, hk10, A10, c10, v10, hr10, ho10, hs10⟩
      clear HRE
      have hx10 : Ext w w10 := HX9.out.kept hk10 (by simpa using hq)
      obtain ⟨-, c4, -, c6, -, -⟩ := hr10.cell
      have C4 : ∀ V, Ext w10 V → V.cell? ⟨q, 4, none⟩ = some (.int .i64 0) := fun V hx => hx.cell c4
      have C6 : ∀ V, Ext w10 V → V.cell? ⟨q, 6, none⟩ = some (.slice A10 sp.length c10) := fun V hx => hx.cell c6
      have hxd := (Ext.refl w10).drew
      have HR10 := Lib.hid hr10
      have HO10 := Lib.hid ho10
      have HS10 := Lib.hid hs10
      have HX10 := Lib.hid hx10
      clear hk10 hr10 ho10 hs10 hx10 c4 c6
      go_wp2_with fail
      refine wp_region_phase (S := fun V => Ext w10 V) 9 (by kernel_rfl) (by kernel_rfl) ?_ (fun hHeld => ?_)
      · exact hxd
      simp only [List.drop_succ_cons, List.drop_zero]
      refine name_head ?_
      intro wr0 hw0
      rw [hw0] at hHeld
      refine wpHead_take (i := 0) (v := ?_) (by rfl) (by kernel_rfl) (by kernel_rfl) (by exact fun _ _ _ h => h) (Or.inl ⟨by rfl, ?_⟩) (by assumption) ?_
      rotate_left
      · intro w hSw
        first | (go_simp; done) | (go_simp; with_reducible rfl)
      simp only [List.getElem_toArray, List.getElem_cons_zero, Act.put, List.setIfInBounds_toArray, List.set_cons_zero, List.set_cons_succ]
      refine wpHead_take (i := 1) (v := ?_) (by rfl) (by kernel_rfl) (by kernel_rfl) (by exact fun _ _ _ h => h) (Or.inl ⟨by rfl, ?_⟩) (by assumption) ?_
      rotate_left
      · intro w hSw
        first | (go_simp; done) | (go_simp; with_reducible rfl)
      simp only [List.getElem_toArray, List.getElem_cons_succ, List.getElem_cons_zero, Act.put, List.setIfInBounds_toArray, List.set_cons_zero, List.set_cons_succ]
      refine wpHead_take (i := 2) (v := ?_) (by rfl) (by kernel_rfl) (by kernel_rfl) (by exact fun _ _ _ h => h) (Or.inl ⟨by rfl, ?_⟩) (by assumption) ?_
      rotate_left
      · intro w hSw
        first | (go_simp; done) | (go_simp; with_reducible rfl)
      simp only [List.getElem_toArray, List.getElem_cons_succ, List.getElem_cons_zero, Act.put, List.setIfInBounds_toArray, List.set_cons_zero, List.set_cons_succ]
      refine wpHead_take (i := 3) (v := ?_) (by rfl) (by kernel_rfl) (by kernel_rfl) (by exact fun _ _ _ h => h) (Or.inl ⟨by rfl, ?_⟩) (by assumption) ?_
      rotate_left
      · intro w hSw
        first | (go_simp; done) | (go_simp; with_reducible rfl)
      simp only [List.getElem_toArray, List.getElem_cons_succ, List.getElem_cons_zero, Act.put, List.setIfInBounds_toArray, List.set_cons_zero, List.set_cons_succ]
      refine wpHead_take (i := 4) (v := ?_) (by rfl) (by kernel_rfl) (by kernel_rfl) (by exact fun _ _ _ h => h) (Or.inl ⟨by rfl, ?_⟩) (by assumption) ?_
      rotate_left
      · intro w hSw
        first | (go_simp; done) | (go_simp; with_reducible rfl)
      simp only [List.getElem_toArray, List.getElem_cons_succ, List.getElem_cons_zero, Act.put, List.setIfInBounds_toArray, List.set_cons_zero, List.set_cons_succ]
      refine wpHead_take (i := 5) (v := ?_) (by rfl) (by kernel_rfl) (by kernel_rfl) (by exact fun _ _ _ h => h) (Or.inl ⟨by rfl, ?_⟩) (by assumption) ?_
      rotate_left
      · intro w hSw
        first | (go_simp; done) | (go_simp; with_reducible rfl)
      simp only [List.getElem_toArray, List.getElem_cons_succ, List.getElem_cons_zero, Act.put, List.setIfInBounds_toArray, List.set_cons_zero, List.set_cons_succ]
      refine wpHead_take (i := 6) (v := ?_) (by rfl) (by kernel_rfl) (by kernel_rfl) (by exact fun _ _ _ h => h) (Or.inl ⟨by rfl, ?_⟩) (by assumption) ?_
      rotate_left
      · intro w hSw
        first | (go_simp; done) | (go_simp; with_reducible rfl)
      simp only [List.getElem_toArray, List.getElem_cons_succ, List.getElem_cons_zero, Act.put, List.setIfInBounds_toArray, List.set_cons_zero, List.set_cons_succ]
      refine wpHead_take (i := 7) (v := ?_) (by rfl) (by kernel_rfl) (by kernel_rfl) (by exact fun _ _ _ h => h) (Or.inl ⟨by rfl, ?_⟩) (by assumption) ?_
      rotate_left
      · intro w hSw
        first | (go_simp; done) | (go_simp; with_reducible rfl)
      simp only [List.getElem_toArray, List.getElem_cons_succ, List.getElem_cons_zero, Act.put, List.setIfInBounds_toArray, List.set_cons_zero, List.set_cons_succ]
      refine wpHead_take (i := 8) (v := ?_) (by rfl) (by kernel_rfl) (by kernel_rfl) (by exact fun _ _ _ h => h) (Or.inl ⟨by rfl, ?_⟩) (by assumption) ?_
      rotate_left
      · intro w hSw
        first | (go_simp; done) | (go_simp; with_reducible rfl)
      simp only [List.getElem_toArray, List.getElem_cons_succ, List.getElem_cons_zero, Act.put, List.setIfInBounds_toArray, List.set_cons_zero, List.set_cons_succ]
      refine wpHead_done (by kernel_rfl) ?_
      clear C4 C6 hxd
      have HXV := Lib.hid (HX10.out.trans hHeld)
      have HRV : Hid (LgRow wr0 q p ⟨s.age, b, sz, 0, gm, sp, rs⟩ A10 c10 v10) := Lib.hid (HR10.out.ext hHeld)
      have HOV := Lib.hid (HO10.out.ext hHeld)
      have HSV := Lib.hid (HS10.out.ext hHeld)
      have hat : (Lg.mk s.age b sz 0 gm sp rs).at_ 0 = b + 0 * sz := rfl
      have HLY := wlay_any HRV.out (HDD.out.ext HXV.out) hs hf (by omega) hd 0 hb hz1 hz2 (by omega) (by rw [hat]; simp only; have := HBZ.out; omega) A10 c10 sp HOV.out.bs htl false
      rw [hat] at HLY
      generalize layD s (b + 0 * sz) (sz - 1) sp false = z at *
      obtain ⟨z1, z2⟩ := z
      have hHO : openR s b sz = (z1, z2, ⟨s.age, b, sz, 0, gm, sp, rs⟩) := by rw [HO.out]; exact HOH.out
      have HHO := Lib.hid hHO
      obtain ⟨vs, hi⟩ := SysI.fresh (HDD.out.ext HXV.out) HRV.out (fun k hk => by have := HLT.out k hk; omega) (N0 := N0) (fun k hk => by have := hN0 k hk; omega) hql HOV.out HSV.out
      have HI := Lib.hid hi
      have HVB : Hid (∀ k ∈ v10.ownBlock.toList, w.heap.size ≤ k) := Lib.hid fun k hk => by
        obtain ⟨us, u1, -⟩ := HSV.out
        have := (u1.lt k (by simpa using hk)).1
        omega
      clear hHO hi hHeld hat
      unfold pt at *
      go_wp2_with fail
      refine HLY.mono ?_
      rintro e w11 ⟨B11, rfl, hd11, ht11⟩
      clear HLY
      by_cases hz : z1 = 0
      · have dz : (z1 != 0) = false := by simp [hz]
        have HZ := Lib.hid hz
        clear hz
        go_wp2
        go_ret2
        refine .inr ⟨by rw [HHO.out]; exact HZ.out, q, _, rfl, ?_, Turn.fresh HXV.out ht11 hq HVB.out⟩
        rw [HHO.out]
        exact ⟨B11, A10, c10, v10, vs, by have := HI.out.turn hd11 ht11; rwa [← List.append_assoc] at this⟩
      · have dz : (z1 != 0) = true := by simpa using hz
        have HZ := Lib.hid hz
        clear hz
        go_wp2
        go_ret2
        exact .inl ⟨by rw [HHO.out]; exact HZ.out, by rw [HHO.out]; rfl, B11, by rw [HHO.out]; exact hd11, (Turn.of_ext HXV.out).trans ht11⟩
end Go.Proofs.Ytklodimokhndoaa
