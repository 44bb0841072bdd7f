/- The iterator of the pages that differ: what it hands over, whatever the loop's body does that keeps bytes, boxes and logs. Conditions: the hypotheses of each theorem. -/
import Derived.Test.YtklodimokhndoaaWa6
import Derived.Deep.Cut
import Derived.Deep.CutRange
import Derived.OwnWalkIn
import Derived.TacticsInMore
import Derived.LoopNIn
import Derived.LoopIn
namespace Go.Proofs.Ytklodimokhndoaa
open Go.RowKit
def pgO (l : By) (k : Nat) : By := (l.drop (64 * k)).take 64
abbrev Hand := Nat × By × Nat × Nat
def hnd (x : Hand) : Array Value := #[.int .i64 (x.1 : Int), .slice (some ⟨x.2.2.1, x.2.2.2, none⟩) 64 64]
def dif (was tob : By) (k : Nat) : List Nat := (List.range k).filter fun j => decide (pgO tob j ≠ pgO was j)
def em (b : Nat) (was tob : By) (g k : Nat) : List Hand := (dif was tob k).map fun j => (b + 1 + j, pgO tob j, g, 64 * j)
def difs (b : Nat) (was tob : By) (k : Nat) : List (Nat × By) := (dif was tob k).map fun j => (b + 1 + j, pgO tob j)
theorem em_difs (b : Nat) (was tob : By) (g k : Nat) : (em b was tob g k).map (fun x => (x.1, x.2.1)) = difs b was tob k := by simp [em, difs]
theorem dif_same {was tob : By} {k : Nat} (h : pgO tob k = pgO was k) : dif was tob (k + 1) = dif was tob k := by simp [dif, List.range_succ, List.filter_append, h]
theorem dif_new {was tob : By} {k : Nat} (h : pgO tob k ≠ pgO was k) : dif was tob (k + 1) = dif was tob k ++ [k] := by simp [dif, List.range_succ, List.filter_append, h]
theorem dif_len (was tob : By) (k : Nat) : (dif was tob k).length ≤ k := by
  have := List.length_filter_le (fun j => decide (pgO tob j ≠ pgO was j)) (List.range k)
  simpa [dif] using this
theorem em_pre (b : Nat) (was tob : By) (g : Nat) {j m : Nat} (h : j ≤ m) : em b was tob g j <+: em b was tob g m := by
  have : List.range j <+: List.range m := by
    have e : List.range m = List.range j ++ (List.range (m - j)).map (j + ·) := by rw [← List.range_add]; congr 1; omega
    rw [e]
    exact List.prefix_append _ _
  unfold em dif
  obtain ⟨r, hr⟩ := this
  rw [← hr, List.filter_append, List.map_append]
  exact List.prefix_append _ _
theorem pgO_len {l : By} {k n : Nat} (h : l.length = 64 * n) (hk : k < n) : (pgO l k).length = 64 := by
  simp [pgO]; omega
/-- what is handed over reads as its bytes -/
def Hd (x : Hand) (W : World) : Prop := x.2.1.length = 64 ∧ (∃ cs fr, W.heap[x.2.2.1]? = some (Obj.cells cs 5 fr)) ∧ Bs W (some ⟨x.2.2.1, x.2.2.2, none⟩) x.2.1
theorem Kt.own {W W' : World} {base g n c : Nat} {l : By} (h : Own W base (.slice (some ⟨g, 0, none⟩) n c) l) (hk : Kt W W') : Own W' base (.slice (some ⟨g, 0, none⟩) n c) l := by
  obtain ⟨h1, h2⟩ := h
  refine ⟨h1, ?_⟩
  rcases h2 with ⟨e, _⟩ | ⟨g', cap, cur, e, hb, hg, h3⟩
  · cases e
  · exact .inr ⟨g', cap, cur, e, hb, hk _ _ _ _ hg (.inl rfl), h3⟩
theorem Bs.drop {w : World} {g z : Nat} {l : By} (h : Bs w (some ⟨g, 0, none⟩) l) : Bs w (some ⟨g, z, none⟩) (l.drop z) := by
  have := Sl.add h z
  rw [← bv_drop] at this
  have e : (⟨g, 0, none⟩ : Addr).add z = ⟨g, z, none⟩ := by unfold Addr.add; split <;> simp_all
  rw [Option.map_some, e] at this
  exact this
theorem Bs.take {w : World} {A : Option Addr} {l : By} (h : Bs w A l) (k : Nat) : Bs w A (l.take k) := by
  have := Sl.take h k
  rwa [← bv_take] at this
theorem slice3 (g n c z : Nat) (h : z + 64 ≤ c) (W : World) {zi : Int} (hz : zi = (z : Int) + 64) : (Instr.slice 46 (.slice (some ⟨g, 0, none⟩) n c) (some (.int .i64 (z : Int))) (some (.int .i64 zi)) (some (.int .i64 zi))).run Try.prog W = .ok (.slice (some ⟨g, z, none⟩) 64 64) W := by
  have he : Try.prog.elem 46 = 5 := by simp [Program.elem, Try.underlying46]
  have ht' : Try.prog.underlying 46 = some (.slice (Try.prog.elem 46)) := by rw [he]; exact Try.underlying46
  subst hz
  rw [run_slice_lhm W 46 _ _ _ ht' .i64 .i64 .i64 _ _ _ (by omega) (by omega) (by omega) (by omega), he, size8]
  have q : ((z : Int) + 64).toNat = z + 64 := by omega
  have q2 : z + 64 - z = 64 := by omega
  have q3 : ¬ z + 64 = z := by omega
  simp [Result.andThen, sliced, q, q2, Addr.add]
  intro h
  exact h.symm
theorem slice2 (g n c z : Nat) (h : z + 64 ≤ n) (hc : n ≤ c) (W : World) {zi : Int} (hz : zi = (z : Int) + 64) : (Instr.slice 46 (.slice (some ⟨g, 0, none⟩) n c) (some (.int .i64 (z : Int))) (some (.int .i64 zi)) none).run Try.prog W = .ok (.slice (some ⟨g, z, none⟩) 64 (c - z)) W := by
  have he : Try.prog.elem 46 = 5 := by simp [Program.elem, Try.underlying46]
  have ht' : Try.prog.underlying 46 = some (.slice (Try.prog.elem 46)) := by rw [he]; exact Try.underlying46
  subst hz
  rw [run_slice_lh W 46 _ _ _ ht' .i64 .i64 _ _ (by omega) (by omega) (by omega), he, size8]
  have q : ((z : Int) + 64).toNat = z + 64 := by omega
  have q2 : z + 64 - z = 64 := by omega
  have q3 : ¬ c = z := by omega
  simp [Result.andThen, sliced, q, q2, q3, Addr.add]
  intro h
  exact h.symm
attribute [local go_sem] Oper.semAt_some
set_option maxRecDepth 20000 in
set_option maxHeartbeats 2000000 in
theorem other1_mem {B : List Nat} {w : World} {q p : Nat} {g : Lg} {A : Option Addr} {c : Nat} {v : Value} {s : Dk} {n : Nat} (h : LgRow w q p g A c v) (hD : Disk B w p s) (hs : s.Ok) (hf : s.Few n) (hn : n ≤ 1000000) (hd : s.down = false)
    (k : Nat) (hb : g.base ≤ 512) (h1 : 2 ≤ g.size) (h2 : g.size ≤ 256) (hk : k ≤ 1) (hin : g.at_ k + g.size ≤ s.sure.length) (Ai : Option Addr) (ci : Nat) (is : By) (hi : Bs w Ai is) (hil : is.length ≤ 64 * (g.size - 1))
    (b1 b2 b3 m : Nat) (k1 : w.heap[b1]? = some (.cells #[pt q] 29 (0, 0))) (k2 : w.heap[b2]? = some (.cells #[.int .i64 k] 3 (0, 0))) (k3 : w.heap[b3]? = some (.cells #[.slice Ai is.length ci] 46 (0, 0))) :
    SeqMem Fence.wide m Try.prog 72 #[pt b1, pt b2, pt b3] hnd Kt Hd (fun xs => xs.map (fun x => (x.1, x.2.1)) = difs (g.at_ k) (allG s (g.at_ k) (g.size - 1)) (is ++ List.replicate (64 * (g.size - 1) - is.length) 0) (g.size - 1)) (g.size - 1) w := by
  intro l J Jx W hW hJ hJx hY h0
  have hxW : Ext w W := hW
  refine callsIn_wide.2 ?_
  have HAL := wall_any (h.ext hxW) (hD.ext hxW) hs hf hn hd k hb (by omega) h2 hk hin
  have hwl := allG_len hs (b := g.at_ k) (g.size - 1) (by omega)
  have HI := Lib.hid (hi.ext hxW)
  obtain ⟨c1, cf1⟩ := row_at (hxW.obj k1)
  obtain ⟨c2, cf2⟩ := row_at (hxW.obj k2)
  obtain ⟨c3, cf3⟩ := row_at (hxW.obj k3)
  have HR := Lib.hid (h.ext hxW)
  have K1 := Lib.hid (hxW.obj k1)
  have K2 := Lib.hid (hxW.obj k2)
  have K3 := Lib.hid (hxW.obj k3)
  have HG : Hid (g.at_ k = g.base + k * g.size) := Lib.hid rfl
  have HAB : Hid (AbidesFrom W.heap.size J) := Lib.hid hJ
  have HYY := Lib.hid hY
  have HJ0 := Lib.hid h0
  clear h hD hi k1 k2 k3 hW hJ hY h0 hJx
  generalize allG s (g.at_ k) (g.size - 1) = was at *
  have HWL := Lib.hid hwl
  have hwl1 : was.length ≤ 64 * (g.size - 1) := by omega
  have hwl2 : 64 * (g.size - 1) ≤ was.length := by omega
  rw [← hwl]
  clear hwl
  unfold pt at *
  go_enter Try.func72, Try.ntmps72
  go_wp2_with fail
  refine HAL.mono ?_
  rintro e w1 ⟨v1, rfl, ho1, hx1⟩
  obtain ⟨A1, ca1, rfl⟩ := ho1.form
  have HO1 := Lib.hid ho1
  have hle : is.length ≤ was.length := by omega
  clear HAL ho1
  have hxd := (Ext.refl w1).drew
  have C3 : ∀ V, Ext w1 V → V.cell? ⟨b3, 0, none⟩ = some (.slice Ai is.length ci) := fun V hx => (hx1.trans hx).cell c3
  have wk : IntKind.i64.wrap ((was.length : Int) - (is.length : Int)) = ((was.length - is.length : Nat) : Int) := by rw [wrapI _ (by omega) (by omega)]; omega
  have HCL := fun V (hx : Ext w1 V) => fclone_any Ai ci is.length is V (HI.out.ext (hx1.trans hx)) (by omega) rfl
  have HHX1 := Lib.hid hx1
  clear c1 c2 c3 cf1 cf2 cf3 hx1
  go_wp2_with fail
  refine wp_region_phase (S := fun V => Ext w1 V) 8 (by kernel_rfl) (by kernel_rfl) ?_ (fun hHeld => ?_)
  · exact hxd
  simp only [List.drop_succ_cons, List.drop_zero]
  refine name_head ?_
  intro wr0 hw0
  rw [hw0] at hHeld
  refine wpHead_take (i := 0) (v := ?_) (by rfl) (by kernel_rfl) (by kernel_rfl) (by exact fun _ _ _ h => h) (Or.inl ⟨by rfl, ?_⟩) (by assumption) ?_
  rotate_left
  · intro w hSw
    first | (go_simp; done) | (go_simp; with_reducible rfl)
  simp only [List.getElem_toArray, List.getElem_cons_zero, Act.put, List.setIfInBounds_toArray, List.set_cons_zero, List.set_cons_succ]
  refine wpHead_take (i := 2) (v := ?_) (by rfl) (by kernel_rfl) (by kernel_rfl) (by exact fun _ _ _ h => h) (Or.inl ⟨by rfl, ?_⟩) (by assumption) ?_
  rotate_left
  · intro w hSw
    first | (go_simp; done) | (go_simp; with_reducible rfl)
  simp only [List.getElem_toArray, List.getElem_cons_succ, List.getElem_cons_zero, Act.put, List.setIfInBounds_toArray, List.set_cons_zero, List.set_cons_succ]
  refine wpHead_take (i := 3) (v := ?_) (by rfl) (by kernel_rfl) (by kernel_rfl) (by exact fun _ _ _ h => h) (Or.inl ⟨by rfl, ?_⟩) (by assumption) ?_
  rotate_left
  · intro w hSw
    first | (go_simp; done) | (go_simp; with_reducible rfl)
  simp only [List.getElem_toArray, List.getElem_cons_succ, List.getElem_cons_zero, Act.put, List.setIfInBounds_toArray, List.set_cons_zero, List.set_cons_succ]
  refine wpHead_take (i := 4) (v := ?_) (by rfl) (by kernel_rfl) (by kernel_rfl) (by exact fun _ _ _ h => h) (Or.inl ⟨by rfl, ?_⟩) (by assumption) ?_
  rotate_left
  · intro w hSw
    first | (go_simp; done) | (go_simp; with_reducible rfl)
  simp only [List.getElem_toArray, List.getElem_cons_succ, List.getElem_cons_zero, Act.put, List.setIfInBounds_toArray, List.set_cons_zero, List.set_cons_succ]
  refine wpHead_take (i := 5) (v := ?_) (by rfl) (by kernel_rfl) (by kernel_rfl) (by exact fun _ _ _ h => h) (Or.inl ⟨by rfl, ?_⟩) (by assumption) ?_
  rotate_left
  · intro w hSw
    first | (go_simp; done) | (go_simp; with_reducible rfl)
  simp only [List.getElem_toArray, List.getElem_cons_succ, List.getElem_cons_zero, Act.put, List.setIfInBounds_toArray, List.set_cons_zero, List.set_cons_succ]
  refine wpHead_take (i := 6) (v := ?_) (by rfl) (by kernel_rfl) (by kernel_rfl) (by exact fun _ _ _ h => h) (Or.inl ⟨by rfl, ?_⟩) (by assumption) ?_
  rotate_left
  · intro w hSw
    first | (go_simp; done) | (go_simp; with_reducible rfl)
  simp only [List.getElem_toArray, List.getElem_cons_succ, List.getElem_cons_zero, Act.put, List.setIfInBounds_toArray, List.set_cons_zero, List.set_cons_succ]
  refine wpHead_ready (rs := [1]) (by kernel_rfl) (by simp) (by kernel_rfl) ?_
  refine AllHead.cons (by rfl) (fun K hK => ?_) ?_
  · refine step_callG (by rfl) (by kernel_rfl) (HCL wr0 hHeld) ?_
    rintro e wr1 ⟨v2, rfl, ho2, hx2'⟩
    obtain ⟨A2, ca2, rfl⟩ := ho2.form
    have hx2 := hHeld.trans hx2'
    have ho2 := ho2.low hHeld.size
    refine ⟨_, rfl, ?_⟩
    refine hK.out _ _ ?_ (fun hHeld => ?_)
    · exact hx2
    clear hK K
    try simp only [List.getElem_toArray, List.getElem_cons_succ, List.getElem_cons_zero, Act.put, List.setIfInBounds_toArray, List.set_cons_zero, List.set_cons_succ]
    refine wpHead_ready (rs := [7]) (by kernel_rfl) (by simp) (by kernel_rfl) ?_
    refine AllHead.cons (by rfl) (fun K hK => ?_) ?_
    · refine step_zeros ho2 rfl rfl rfl (by first | rfl | exact congrArg _ wk) (by omega) hHeld.size ?_
      rintro v3 wr7 ho3 hg3 hor3
      have hx3 := hHeld.own ho2 (Nat.le_refl _) hg3
      clear hg3 hor3 ho2 hx2 hx2'
      refine hK.out _ _ ?_ (fun hHeld => ?_)
      · exact hx3
      clear hK K
      try simp only [List.getElem_toArray, List.getElem_cons_succ, List.getElem_cons_zero, Act.put, List.setIfInBounds_toArray, List.set_cons_zero, List.set_cons_succ]
      refine wpHead_done (by kernel_rfl) ?_
      clear HCL C3 wk HI hxd
      have htl : (is ++ List.replicate (was.length - is.length) 0).length = was.length := by simp; omega
      generalize hto : is ++ List.replicate (was.length - is.length) 0 = tob at *
      have HTB := Lib.hid hto
      have HTL := Lib.hid htl
      have htl1 : tob.length ≤ was.length := by omega
      have htl2 : was.length ≤ tob.length := by omega
      clear hto htl
      obtain ⟨A3, ca3, rfl⟩ := ho3.form
      obtain ⟨g3, rfl, hg3, hg3l⟩ := ho3.some_ (by omega)
      obtain ⟨g1, rfl, hg1, hg1l⟩ := HO1.out.some_ (by omega)
      have HO3 := Lib.hid ho3
      have hc3 := ho3.cap
      have hc1 := HO1.out.cap
      have HX3 := Lib.hid (HHX1.out.trans hHeld)
      have HO1b := Lib.hid (HO1.out.ext hHeld)
      have HJ3 := Lib.hid (HAB.out _ _ _ none HJ0.out (HX3.out.grows none) (by intro r e; cases e))
      clear HO1 HHX1 hx3 ho3 hHeld
      replace HR := Lib.hid (HR.out.ext HX3.out)
      replace K1 := Lib.hid (HX3.out.obj K1.out)
      replace K2 := Lib.hid (HX3.out.obj K2.out)
      clear K3 HJ0
      obtain ⟨V, rfl⟩ : ∃ V, V = wr7 := ⟨wr7, rfl⟩
      go_wp2
      go_loopw [7] (fun iv wr => ∃ (j z : Nat), iv = .int .i64 z ∧ Hid (z = 64 * j) ∧ z ≤ was.length ∧ Hid (Kt V wr) ∧ Hid (J (em (g.at_ k) was tob g3 j) wr)) (fun iv _ => was.length - (intOf iv).toNat)
      case atStart => exact ⟨0, 0, rfl, Lib.hid rfl, by omega, Lib.hid (Kt.refl _), HJ3⟩
      case round =>
        clear HJ3
        obtain ⟨j, z, rfl, HZ, hz, HK, HJ⟩ := hrel
        by_cases hlt : z < was.length
        · have hlt2 : (z : Int) < (tob.length : Int) := by omega
          have hzz := HZ.out
          have hj : j < g.size - 1 := by omega
          have hz64 : z + 64 ≤ was.length := by omega
          clear hzz
          have wz : IntKind.i64.wrap ((z : Int) + 64) = (z : Int) + 64 := wrapI _ (by omega) (by omega)
          have hsa := fun W' => slice3 g3 tob.length ca3 z (by omega) W' rfl
          have hsb := fun W' => slice2 g1 was.length ca1 z (by omega) hc1.1 W' rfl
          have hb3 : Bs wr (some ⟨g3, z, none⟩) (pgO tob j) := by rw [pgO, ← HZ.out]; exact ((HK.out.own HO3.out).bs.drop).take 64
          have hb1 : Bs wr (some ⟨g1, z, none⟩) (pgO was j) := by rw [pgO, ← HZ.out]; exact ((HK.out.own HO1b.out).bs.drop).take 64
          have hl3 : (pgO tob j).length = 64 := by rw [pgO, ← HZ.out]; simp; omega
          have hl1 : (pgO was j).length = 64 := by rw [pgO, ← HZ.out]; simp; omega
          have HEQ := Equal_any _ _ (pgO tob j) (pgO was j) 64 (ca1 - z) wr hb3 hb1
          rw [hl3, hl1] at HEQ
          by_cases heq : pgO tob j = pgO was j
          · rw [decide_eq_true heq] at HEQ
            have HEM : Hid (em (g.at_ k) was tob g3 (j + 1) = em (g.at_ k) was tob g3 j) := Lib.hid (by unfold em; rw [dif_same heq])
            clear hb3 hb1 heq hl3 hl1
            go_wp2_with fail
            refine HEQ.mono ?_
            rintro e w4 ⟨rfl, rfl⟩
            go_wp2
            go_roundw
            case rel => exact ⟨j + 1, z + 64, by go_num, Lib.hid (by rw [HZ.out]; omega), hz64, HK, by rw [HEM.out]; exact HJ⟩
            case measure => simp [intOf]; omega
          · rw [decide_eq_false heq] at HEQ
            have HEM : Hid (em (g.at_ k) was tob g3 (j + 1) = em (g.at_ k) was tob g3 j ++ [(g.at_ k + 1 + j, pgO tob j, g3, z)]) := Lib.hid (by unfold em; rw [dif_new heq, HZ.out]; simp)
            go_upto_region 6 with fail
            refine (wpIn_wide (n := m)).1 ?_
            have HBG := fun W' (hx : Ext wr W') => wbegins_any (w := W') (LgRow.ext (HK.out _ _ _ _ HR.out (by simp)) hx) k hb h2 hk
            rw [← HG.out] at HBG
            have HHD := Lib.hid (show Hd (g.at_ k + 1 + j, pgO tob j, g3, z) wr from ⟨hl3, (by obtain ⟨_, h2⟩ := HO3.out; rcases h2 with ⟨e, _⟩ | ⟨g', cap, cur, e, _, hg, _⟩; (cases e); (injection e with e _ _; injection e with e; injection e with e; subst e; exact ⟨_, _, HK.out _ _ _ _ hg (.inl rfl)⟩)), hb3⟩)
            obtain ⟨d1, -⟩ := row_at (HK.out _ _ _ _ K1.out (by simp))
            obtain ⟨d2, -⟩ := row_at (HK.out _ _ _ _ K2.out (by simp))
            have hq : (z : Int) / 64 = (j : Int) := by have := HZ.out; omega
            have hz2 := hs.n2
            have wy1 : IntKind.i64.wrap ((g.at_ k : Int) + 1) = (g.at_ k : Int) + 1 := wrapI _ (by omega) (by omega)
            have wy2 : IntKind.i64.wrap ((g.at_ k : Int) + 1 + (j : Int)) = (g.at_ k : Int) + 1 + (j : Int) := wrapI _ (by omega) (by omega)
            have HPL : Hid ((em (g.at_ k) was tob g3 j).length < g.size - 1) := Lib.hid (by have := dif_len was tob j; simp [em]; omega)
            clear hb3 hb1 heq hl3 hl1
            unfold pt at *
            gi_wp2
            refine ⟨trivial, fun h => (by cases h), (callsIn_wide.2 HEQ).mono ?_⟩
            rintro e w4 ⟨rfl, rfl⟩
            clear HEQ
            gi_wp2
            refine ⟨trivial, fun h => (by cases h), (callsIn_wide.2 (HBG _ (Ext.refl _))).mono ?_⟩
            rintro e w5 ⟨rfl, hx5⟩
            clear HBG d1 d2
            have hJ5 := HAB.out _ _ _ none HJ.out (hx5.grows none) (by intro r e; cases e)
            have hHd5 : Hd (g.at_ k + 1 + j, pgO tob j, g3, z) w5 := by
              obtain ⟨q1, ⟨cs, fr, q2⟩, q3⟩ := HHD.out
              exact ⟨q1, ⟨cs, fr, hx5.obj q2⟩, q3.ext hx5⟩
            obtain ⟨fn, tmps, assign, body, hy, hR⟩ := HYY.out _ _ w5 hJ5 hHd5 HPL.out
            have hcast : ((g.at_ k + 1 + j : Nat) : Int) = (g.at_ k : Int) + 1 + (j : Int) := by omega
            simp only [hnd] at hy
            rw [hcast] at hy
            have HKE := Lib.hid (HK.out.trans (Kt.of_ext hx5))
            clear hHd5 hJ5 hcast HHD hx5
            gi_wp2
            refine ⟨fun h => (by cases h), hR.mono ?_⟩
            rintro e w6 (⟨rfl, hJ6, hK6⟩ | ⟨rfl, hJx6⟩)
            · have HJ6 : Hid (J (em (g.at_ k) was tob g3 (j + 1)) w6) := Lib.hid (by rw [HEM.out]; exact hJ6)
              have HK6 := Lib.hid (HKE.out.trans hK6)
              clear hy hR hJ6 hK6 HEM
              gi_wp2
              go_wp2
              go_roundw
              case rel => exact ⟨j + 1, z + 64, by go_num, Lib.hid (by rw [HZ.out]; omega), hz64, HK6, HJ6⟩
              case measure => simp [intOf]; omega
            · have HJ6 := Lib.hid hJx6
              clear hy hR hJx6
              gi_wp2
              go_wp2
              refine bodyPost_ret (results_none rfl _ _ _) rfl ?_
              refine ⟨⟨_, rfl⟩, .inr ?_⟩
              obtain ⟨rest, hrest⟩ := em_pre (g.at_ k) was tob g3 (j := j + 1) (m := g.size - 1) (by omega)
              refine ⟨em (g.at_ k) was tob g3 j, _, rest, ?_, HJ6.out⟩
              rw [HTB.out, ← em_difs _ was tob g3, ← hrest, HEM.out]
              simp
        · have hzz := HZ.out
          obtain rfl : j = g.size - 1 := by omega
          clear hzz
          have hlt2 : ¬ (z : Int) < (tob.length : Int) := by omega
          go_wp2
          go_end0
          exact ⟨⟨_, rfl⟩, .inl ⟨_, by rw [HTB.out]; exact em_difs _ _ _ _ _, HJ.out⟩⟩
    exact AllHead.nil
  exact AllHead.nil
end Go.Proofs.Ytklodimokhndoaa
