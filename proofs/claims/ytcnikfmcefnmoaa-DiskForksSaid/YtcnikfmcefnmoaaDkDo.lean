/- The walks of the law's do: a deed on the disk and on the reference's disk. Conditions: those of Two; both disks are older than the call. -/
import Derived.Test.YtcnikfmcefnmoaaChecked
import Derived.Test.YtcnikfmcefnmoaaDkTwo
import Derived.Test.YtcnikfmcefnmoaaDe
import Derived.BigQuiet
import Derived.Deep.QuietTactic
import Derived.Deep.RegionHeld3
namespace Go.Proofs.Ytcnikfmcefnmoaa
open Go.RowKit
attribute [local go_sem] pt
def dv (d : De) (A1 : Option Addr) (c1 : Nat) (A2 : Option Addr) (c2 : Nat) : Value := .agg #[.int .i64 d.do_, .int .i64 d.i, .slice A1 d.by_.length c1, .slice A2 d.cr.keep.length c2, .int .i64 d.cr.torn, .int .i64 d.cr.at_]
theorem Two.wr {B : List Nat} {w : World} {p q n : Nat} {s : Dk} (h : Two B w p q s n) : ∃ A1 c1 A2 c2, IsRf (q :: B) w q s A1 c1 A2 c2 := h.ref
set_option maxHeartbeats 2000000 in
set_option maxRecDepth 100000 in
theorem do_flush (p q n : Nat) (d : De) (A1 : Option Addr) (c1 : Nat) (A2 : Option Addr) (c2 : Nat) (B : List Nat) (s : Dk) (w : World) (h : Two B w p q s n) (hn : n ≤ 100000) (hd : d.do_ = 1) :
    Calls Try.prog 21 #[pt p, pt q, dv d A1 c1 A2 c2] w (Did B w p q (n + 1)) := by
  obtain ⟨w0, hw0⟩ : ∃ w0, w0 = w.alloc (.cells #[.int .i64 d.do_, .int .i64 d.i, .slice A1 d.by_.length c1, .slice A2 d.cr.keep.length c2, .int .i64 d.cr.torn, .int .i64 d.cr.at_] 39) := ⟨_, rfl⟩
  have hx0 : Ext w w0 := hw0 ▸ (Ext.refl w).alloc _
  have hrow0 : w0.heap[w.heap.size]? = some (.cells #[.int .i64 d.do_, .int .i64 d.i, .slice A1 d.by_.length c1, .slice A2 d.cr.keep.length c2, .int .i64 d.cr.torn, .int .i64 d.cr.at_] 39 (0, 0)) := hw0 ▸ heap_alloc_new w _
  have hlt := h.lt
  have hg5 : w.heap.size ∉ q :: B := fun hm => by have := hlt _ hm; omega
  have h0 := h.ext hx0
  have HT0 := Lib.hid (Turn.of_ext (B := q :: B) hx0)
  have HX0 := Lib.hid hx0
  obtain ⟨k0, k1, k2, k3, k4, k5, kf⟩ := row6_at hrow0
  have e0 : (d.do_ == 0) = false := by rw [hd]; rfl
  have e1 : (d.do_ == 1) = true := by rw [hd]; rfl
  have H1 := Flush_any h0.disk h0.ok h0.few (by omega)
  have H2 := fun W (ht : Turn B w0 B W) (hd : Disk B W p (flushS s)) => h0.rflush hn ht hd
  clear h h0 hd k1 k2 k3 k4 k5 kf hrow0 hlt hx0
  generalize flushE s = E0 at *
  generalize flushS s = s9 at *
  unfold pt dv
  go_enter Try.func21, Try.ntmps21
  go_wp2_with fail
  rw [← hw0]
  have HW0 := Lib.hid hw0
  clear hw0
  refine H1.mono ?_
  rintro e w1 ⟨rfl, hd1, ht1⟩
  go_wp2_with fail
  refine (H2 _ ht1 hd1).mono ?_
  rintro e w2 ⟨rfl, ht, htz⟩
  have htz := HT0.out.trans htz
  clear H1 H2 hd1 ht1
  have hL := fun W (hx : Ext w2 W) => Down_same W (ht.disk.ext hx)
  have hA := fun W (hx : Ext w2 W) => Age_same W (ht.disk.ext hx)
  have hWt := fun W (hx : Ext w2 W) => Waits_same W (ht.disk.ext hx)
  obtain ⟨zA1, zc1, zA2, zc2, zr⟩ := ht.wr
  obtain ⟨z0, z1, z2, z3, z4, zf⟩ := zr.cells
  have HF := Lib.hid (show ∀ m, Did B w p q (n + 1) (.returned (.bool true)) ((w2).drewN m) from fun m => ⟨rfl, _, _, ht.ext ((Ext.refl _).drewN m), htz.ext ((Ext.refl _).drewN m)⟩)
  clear zr z0 z3 zf ht htz
  go_wp2_with fail
  go_quiet ((first
    | (go_at_call 16; exact Calls.quiet_of_same (hL _ (by first | exact Ext.refl _ | exact (Ext.refl _).drewN _)))
    | (go_at_call 23; exact Calls.quiet_of_same (hA _ (by first | exact Ext.refl _ | exact (Ext.refl _).drewN _)))
    | (go_at_call 17; exact Calls.quiet_of_same (hWt _ (by first | exact Ext.refl _ | exact (Ext.refl _).drewN _)))))
  go_wp2
  go_ret
  exact HF.out _
set_option maxHeartbeats 2000000 in
set_option maxRecDepth 100000 in
theorem do_cut (p q n : Nat) (d : De) (A1 : Option Addr) (c1 : Nat) (A2 : Option Addr) (c2 : Nat) (B : List Nat) (s : Dk) (w : World) (h : Two B w p q s n) (_hn : n ≤ 100000) (hi : d.i ≤ 9223372036854775807) (hd : d.do_ = 3) :
    Calls Try.prog 21 #[pt p, pt q, dv d A1 c1 A2 c2] w (Did B w p q (n + 1)) := by
  obtain ⟨w0, hw0⟩ : ∃ w0, w0 = w.alloc (.cells #[.int .i64 d.do_, .int .i64 d.i, .slice A1 d.by_.length c1, .slice A2 d.cr.keep.length c2, .int .i64 d.cr.torn, .int .i64 d.cr.at_] 39) := ⟨_, rfl⟩
  have hx0 : Ext w w0 := hw0 ▸ (Ext.refl w).alloc _
  have hrow0 : w0.heap[w.heap.size]? = some (.cells #[.int .i64 d.do_, .int .i64 d.i, .slice A1 d.by_.length c1, .slice A2 d.cr.keep.length c2, .int .i64 d.cr.torn, .int .i64 d.cr.at_] 39 (0, 0)) := hw0 ▸ heap_alloc_new w _
  have hlt := h.lt
  have hg5 : w.heap.size ∉ q :: B := fun hm => by have := hlt _ hm; omega
  have h0 := h.ext hx0
  have HT0 := Lib.hid (Turn.of_ext (B := q :: B) hx0)
  have HX0 := Lib.hid hx0
  obtain ⟨k0, k1, k2, k3, k4, k5, kf⟩ := row6_at hrow0
  have e0 : (d.do_ == 0) = false := by rw [hd]; rfl
  have e1 : (d.do_ == 1) = false := by rw [hd]; rfl
  have e2 : (d.do_ == 2) = false := by rw [hd]; rfl
  have e3 : (d.do_ == 3) = true := by rw [hd]; rfl
  have H1 := fun W (hx : Ext w0 W) => Cut_all (h0.disk.ext hx) h0.ok d.i
  have H2 := fun W (ht : Turn B w0 B W) (hd : Disk B W p (cutS s d.i)) => h0.rcut ht d.i hi hd
  have K1 := fun w' (hk : Kept (q :: B) w0 w') => hk.cell k1 hg5
  have HE : Hid True := Lib.hid trivial
  clear h h0 hd k2 k3 k4 k5 kf k1 hrow0 hlt hx0
  generalize cutS s d.i = s9 at *
  generalize cutE s d.i = E0 at *
  unfold pt dv
  go_enter Try.func21, Try.ntmps21
  go_wp2_with fail
  rw [← hw0]
  have HW0 := Lib.hid hw0
  clear hw0
  go_region_held3 (fun w' => Kept (q :: B) w0 w') (first | exact (Kept.refl _ _).drew | assumption) ((first
    | (go_at_call 15; refine (H1 _ (Ext.refl _).drew).mono ?_; rintro e w1 ⟨rfl, hd1, ht1⟩; have ht1 := (Turn.of_ext (Ext.refl w0).drew).trans ht1; have hk1' : Kept (q :: B) w0 w1 := ht1.kept.mono (fun _ hk => List.mem_cons_of_mem _ hk))
    | (go_at_call 32; refine (H2 _ ht1 hd1).mono ?_; rintro e w2 ⟨rfl, ht, htz⟩; have hk2' : Kept (q :: B) w0 w2 := htz.kept)))
  have htz := HT0.out.trans htz
  clear H1 H2 hd1 ht1 hk1' hk2'
  have hL := fun W (hx : Ext w2 W) => Down_same W (ht.disk.ext hx)
  have hA := fun W (hx : Ext w2 W) => Age_same W (ht.disk.ext hx)
  have hWt := fun W (hx : Ext w2 W) => Waits_same W (ht.disk.ext hx)
  obtain ⟨zA1, zc1, zA2, zc2, zr⟩ := ht.wr
  obtain ⟨z0, z1, z2, z3, z4, zf⟩ := zr.cells
  have HF := Lib.hid (show ∀ m, Did B w p q (n + 1) (.returned (.bool true)) ((w2).drewN m) from fun m => ⟨rfl, _, _, ht.ext ((Ext.refl _).drewN m), htz.ext ((Ext.refl _).drewN m)⟩)
  clear zr z0 z3 zf ht htz
  go_wp2_with fail
  go_quiet ((first
    | (go_at_call 16; exact Calls.quiet_of_same (hL _ (by first | exact Ext.refl _ | exact (Ext.refl _).drewN _)))
    | (go_at_call 23; exact Calls.quiet_of_same (hA _ (by first | exact Ext.refl _ | exact (Ext.refl _).drewN _)))
    | (go_at_call 17; exact Calls.quiet_of_same (hWt _ (by first | exact Ext.refl _ | exact (Ext.refl _).drewN _)))))
  go_wp2
  go_ret
  exact HF.out _
set_option maxHeartbeats 2000000 in
set_option maxRecDepth 100000 in
theorem do_crash (p q n : Nat) (d : De) (A1 : Option Addr) (c1 : Nat) (A2 : Option Addr) (c2 : Nat) (B : List Nat) (s : Dk) (w : World) (h : Two B w p q s n) (hn : n ≤ 100000) (hK : SlM (q :: B) w A2 (bo d.cr.keep)) (hkl : d.cr.keep.length ≤ 9223372036854775807) (hd0 : d.do_ ≠ 0) (hd1 : d.do_ ≠ 1) (hd2 : d.do_ ≠ 2) (hd3 : d.do_ ≠ 3) :
    Calls Try.prog 21 #[pt p, pt q, dv d A1 c1 A2 c2] w (Did B w p q (n + 1)) := by
  obtain ⟨w0, hw0⟩ : ∃ w0, w0 = w.alloc (.cells #[.int .i64 d.do_, .int .i64 d.i, .slice A1 d.by_.length c1, .slice A2 d.cr.keep.length c2, .int .i64 d.cr.torn, .int .i64 d.cr.at_] 39) := ⟨_, rfl⟩
  have hx0 : Ext w w0 := hw0 ▸ (Ext.refl w).alloc _
  have hrow0 : w0.heap[w.heap.size]? = some (.cells #[.int .i64 d.do_, .int .i64 d.i, .slice A1 d.by_.length c1, .slice A2 d.cr.keep.length c2, .int .i64 d.cr.torn, .int .i64 d.cr.at_] 39 (0, 0)) := hw0 ▸ heap_alloc_new w _
  have hlt := h.lt
  have hg5 : w.heap.size ∉ q :: B := fun hm => by have := hlt _ hm; omega
  have h0 := h.ext hx0
  have HT0 := Lib.hid (Turn.of_ext (B := q :: B) hx0)
  have HX0 := Lib.hid hx0
  obtain ⟨k0, k1, k2, k3, k4, k5, kf⟩ := row6_at hrow0
  have e0 : (d.do_ == 0) = false := by simpa using hd0
  have e1 : (d.do_ == 1) = false := by simpa using hd1
  have e2 : (d.do_ == 2) = false := by simpa using hd2
  have e3 : (d.do_ == 3) = false := by simpa using hd3
  have H1 := fun W (hx : Ext w0 W) => Crash_all (h0.disk.ext hx) h0.ok h0.few (by omega) d.cr A2 c2 (((SlM.kept hK (.of_ext (hx0.trans hx))).less (fun k hk => List.mem_cons_of_mem _ hk))) hkl
  have H2 := fun W (ht : Turn B w0 B W) (hd : Disk B W p (crashed s d.cr)) => h0.rcrash hn ht d.cr hd A2 c2 (SlM.kept hK (.of_ext hx0))
  have K3 := fun w' (hk : Kept (q :: B) w0 w') => hk.cell k3 hg5
  have K4 := fun w' (hk : Kept (q :: B) w0 w') => hk.cell k4 hg5
  have K5 := fun w' (hk : Kept (q :: B) w0 w') => hk.cell k5 hg5
  have HE : Hid True := Lib.hid trivial
  clear h h0 hd0 hd1 hd2 hd3 k1 k2 kf k3 k4 k5 hK hrow0 hlt hx0
  generalize crashed s d.cr = s9 at *
  unfold pt dv
  go_enter Try.func21, Try.ntmps21
  go_wp2_with fail
  rw [← hw0]
  have HW0 := Lib.hid hw0
  clear hw0
  go_region_held3 (fun w' => Kept (q :: B) w0 w') (first | exact (Kept.refl _ _).drew | assumption) ((first
    | (go_at_call 14; refine (H1 _ (Ext.refl _).drew).mono ?_; rintro e w1 ⟨rfl, hd1, ht1⟩; have ht1 := (Turn.of_ext (Ext.refl w0).drew).trans ht1; have hk1' : Kept (q :: B) w0 w1 := ht1.kept.mono (fun _ hk => List.mem_cons_of_mem _ hk))
    | (go_at_call 33; refine (H2 _ ht1 hd1).mono ?_; rintro e w2 ⟨rfl, ht, htz⟩; have hk2' : Kept (q :: B) w0 w2 := htz.kept)))
  have htz := HT0.out.trans htz
  clear H1 H2 hd1 ht1 hk1' hk2'
  have hL := fun W (hx : Ext w2 W) => Down_same W (ht.disk.ext hx)
  have hA := fun W (hx : Ext w2 W) => Age_same W (ht.disk.ext hx)
  have hWt := fun W (hx : Ext w2 W) => Waits_same W (ht.disk.ext hx)
  obtain ⟨zA1, zc1, zA2, zc2, zr⟩ := ht.wr
  obtain ⟨z0, z1, z2, z3, z4, zf⟩ := zr.cells
  have HF := Lib.hid (show ∀ m, Did B w p q (n + 1) (.returned (.bool true)) ((w2).drewN m) from fun m => ⟨rfl, _, _, ht.ext ((Ext.refl _).drewN m), htz.ext ((Ext.refl _).drewN m)⟩)
  clear zr z0 z3 zf ht htz
  go_wp2_with fail
  go_quiet ((first
    | (go_at_call 16; exact Calls.quiet_of_same (hL _ (by first | exact Ext.refl _ | exact (Ext.refl _).drewN _)))
    | (go_at_call 23; exact Calls.quiet_of_same (hA _ (by first | exact Ext.refl _ | exact (Ext.refl _).drewN _)))
    | (go_at_call 17; exact Calls.quiet_of_same (hWt _ (by first | exact Ext.refl _ | exact (Ext.refl _).drewN _)))))
  go_wp2
  go_ret
  exact HF.out _
set_option maxHeartbeats 2000000 in
set_option maxRecDepth 100000 in
theorem do_read (p q n : Nat) (d : De) (A1 : Option Addr) (c1 : Nat) (A2 : Option Addr) (c2 : Nat) (B : List Nat) (s : Dk) (w : World) (h : Two B w p q s n) (hn : n ≤ 100000) (hd : d.do_ = 2) :
    Calls Try.prog 21 #[pt p, pt q, dv d A1 c1 A2 c2] w (Did B w p q (n + 1)) := by
  obtain ⟨w0, hw0⟩ : ∃ w0, w0 = w.alloc (.cells #[.int .i64 d.do_, .int .i64 d.i, .slice A1 d.by_.length c1, .slice A2 d.cr.keep.length c2, .int .i64 d.cr.torn, .int .i64 d.cr.at_] 39) := ⟨_, rfl⟩
  have hx0 : Ext w w0 := hw0 ▸ (Ext.refl w).alloc _
  have hrow0 : w0.heap[w.heap.size]? = some (.cells #[.int .i64 d.do_, .int .i64 d.i, .slice A1 d.by_.length c1, .slice A2 d.cr.keep.length c2, .int .i64 d.cr.torn, .int .i64 d.cr.at_] 39 (0, 0)) := hw0 ▸ heap_alloc_new w _
  have hlt := h.lt
  have hg5 : w.heap.size ∉ q :: B := fun hm => by have := hlt _ hm; omega
  have h0 := h.ext hx0
  have HT0 := Lib.hid (Turn.of_ext (B := q :: B) hx0)
  have HX0 := Lib.hid hx0
  obtain ⟨k0, k1, k2, k3, k4, k5, kf⟩ := row6_at hrow0
  have e0 : (d.do_ == 0) = false := by rw [hd]; rfl
  have e1 : (d.do_ == 1) = false := by rw [hd]; rfl
  have e2 : (d.do_ == 2) = true := by rw [hd]; rfl
  have H1 := Read_any h0.disk h0.ok h0.few (by omega) d.i
  have H2 := fun W (hx : Ext w0 W) => RRead_all W (h0.ref.ext hx) (by have := h0.few.waits; omega) d.i
  have K1 := fun w' (hx : Ext w0 w') => hx.cell k1
  have HH := Lib.hid h0
  clear h h0 hd k2 k3 k4 k5 kf hrow0 hlt hx0
  generalize wrongE s d.i true = E0 at *
  generalize readL s d.i = l0 at *
  unfold pt dv
  go_enter Try.func21, Try.ntmps21
  go_wp2_with fail
  rw [← hw0]
  have HW0 := Lib.hid hw0
  clear hw0
  refine H1.mono ?_
  rintro e w1 ⟨Aa, ca, rfl, hfa, hx1, hca, -⟩
  go_wp2_with fail
  refine (H2 _ hx1).mono ?_
  rintro e w2 ⟨Ab, cb, rfl, hb2, hx2, -⟩
  have hba : Bs w2 Aa l0 := (BsM.bs (M := []) (hfa.bsM (by simp))).ext hx2
  have hsa := run_str (P := Try.prog) Try.underlying22 Try.underlying5 Try.underlying9 hba l0.length ca rfl
  have hsb := run_str (P := Try.prog) Try.underlying22 Try.underlying5 Try.underlying9 hb2 l0.length cb rfl
  have hfa2 := hfa.ext hx2
  have hx12 := hx1.trans hx2
  have hll : l0.length ≤ 64 := by rcases hfa with ⟨_, h⟩ | ⟨_, _, _, h, _⟩ <;> simp [h]
  have HX := Lib.hid hx12
  have HFA := Lib.hid hfa2
  have HCA := Lib.hid hca

  clear H1 H2 hba hb2 hfa hfa2 hx12 hca hx1
  go_wp2
  clear hsa hsb K1 hx2
  go_loopw [14] (fun k wr => ∃ (j : Nat) (l' : List UInt8), k = .int .i64 j ∧ j ≤ l0.length ∧ Ext w0 wr ∧ Fresh w0 wr Aa l' ∧ l'.length = l0.length) (fun k _ => l0.length - (intOf k).toNat)
  case atStart => exact ⟨0, l0, rfl, by omega, HX.out, HFA.out, rfl⟩
  case round =>
    obtain ⟨j, l', rfl, hj, hxr, hfr, hle⟩ := hrel
    by_cases hlt : j < l0.length
    · have hjn : (j : Int) < (l0.length : Int) := by omega
      rcases hfr with ⟨_, h0⟩ | ⟨g, rfl, hg, h64, hrw⟩
      · rw [h0] at hle; simp at hle; omega
      · have hjl : j < l'.length := by omega
        have hc : wr.cell? ⟨g, j, none⟩ = some (.int .u8 (l'[j].toNat : Int)) := by rw [cell_of_row wr g j _ _ _ hrw]; simpa using bv_get hjl
        have hz : wr.frozen? ⟨g, j, none⟩ = false := frozen_of_row wr g j _ _ hrw
        obtain ⟨y, hy⟩ := xor_one l'[j]
        have hrow := heap_setCell_same wr g j _ _ (.int .u8 (y.toNat : Int)) hrw
        have hset : (bv l').toArray.setIfInBounds j (.int .u8 (y.toNat : Int)) = (bv (l'.set j y)).toArray := by simp [bv, List.map_set]
        rw [hset] at hrow
        have HROW := Lib.hid hrow
        have HXR := Lib.hid (Ext.setCell hxr (p := ⟨g, j, none⟩) hg (.int .u8 (y.toNat : Int)))
        have HLE := Lib.hid hle
        have H64 := Lib.hid h64
        have HY := Lib.hid hy
        generalize l'[j].toNat = x at *
        clear hrow hset hle h64 hrw hxr hy
        have hy := HY.out
        go_wp2
        go_roundw
        case rel => exact ⟨j + 1, l'.set j y, by go_num, by omega, HXR.out, .inr ⟨g, rfl, hg, by rw [List.length_set]; exact H64.out, HROW.out⟩, by rw [List.length_set]; exact HLE.out⟩
        case measure => simp [intOf]; omega
    · have hjn : ¬ (j : Int) < (l0.length : Int) := by omega
      have ht := HH.out.ext hxr
      have ht : Two B wr p q s (n + 1) := ⟨ht.disk, ht.ref, ht.ne, ht.ok, ht.few.mono (by omega)⟩
      have htz := HT0.out.ext hxr
      clear hle hfr hxr
      have hL := fun W (hx : Ext wr W) => Down_same W (ht.disk.ext hx)
      have hA := fun W (hx : Ext wr W) => Age_same W (ht.disk.ext hx)
      have hWt := fun W (hx : Ext wr W) => Waits_same W (ht.disk.ext hx)
      obtain ⟨zA1, zc1, zA2, zc2, zr⟩ := ht.wr
      obtain ⟨z0, z1, z2, z3, z4, zf⟩ := zr.cells
      have HF := Lib.hid (show ∀ m, Did B w p q (n + 1) (.returned (.bool true)) ((wr).drewN m) from fun m => ⟨rfl, _, _, ht.ext ((Ext.refl _).drewN m), htz.ext ((Ext.refl _).drewN m)⟩)
      clear zr z0 z3 zf ht htz
      go_wp2_with fail
      go_quiet ((first
        | (go_at_call 16; exact Calls.quiet_of_same (hL _ (by first | exact Ext.refl _ | exact (Ext.refl _).drewN _)))
        | (go_at_call 23; exact Calls.quiet_of_same (hA _ (by first | exact Ext.refl _ | exact (Ext.refl _).drewN _)))
        | (go_at_call 17; exact Calls.quiet_of_same (hWt _ (by first | exact Ext.refl _ | exact (Ext.refl _).drewN _)))))
      go_wp2
      go_ret
      exact HF.out _
set_option maxHeartbeats 4000000 in
set_option maxRecDepth 100000 in
theorem do_write (p q n : Nat) (d : De) (A1 : Option Addr) (c1 : Nat) (A2 : Option Addr) (c2 : Nat) (B : List Nat) (s : Dk) (w : World) (h : Two B w p q s n) (hn : n ≤ 100000) (hby : BsM (q :: B) w A1 d.by_) (hbl : d.by_.length ≤ 140737488351232) (hd : d.do_ = 0) :
    Calls Try.prog 21 #[pt p, pt q, dv d A1 c1 A2 c2] w (Did B w p q (n + 1)) := by
  obtain ⟨w0, hw0⟩ : ∃ w0, w0 = w.alloc (.cells #[.int .i64 d.do_, .int .i64 d.i, .slice A1 d.by_.length c1, .slice A2 d.cr.keep.length c2, .int .i64 d.cr.torn, .int .i64 d.cr.at_] 39) := ⟨_, rfl⟩
  have hx0 : Ext w w0 := hw0 ▸ (Ext.refl w).alloc _
  have hrow0 : w0.heap[w.heap.size]? = some (.cells #[.int .i64 d.do_, .int .i64 d.i, .slice A1 d.by_.length c1, .slice A2 d.cr.keep.length c2, .int .i64 d.cr.torn, .int .i64 d.cr.at_] 39 (0, 0)) := hw0 ▸ heap_alloc_new w _
  have hlt := h.lt
  have hg5 : w.heap.size ∉ q :: B := fun hm => by have := hlt _ hm; omega
  have h0 := h.ext hx0
  have HT0 := Lib.hid (Turn.of_ext (B := q :: B) hx0)
  have HX0 := Lib.hid hx0
  obtain ⟨k0, k1, k2, k3, k4, k5, kf⟩ := row6_at hrow0
  have e0 : (d.do_ == 0) = true := by rw [hd]; rfl
  have hb0 : BsM (q :: B) w0 A1 d.by_ := BsM.kept hby (.of_ext hx0)
  have hem := Own.empty w0 w0.heap.size (Nat.le_refl _)
  have z0 : w0.heap.size = w.heap.size + 1 := by rw [hw0]; simp
  rw [z0] at hem
  have z1 : w0.heap.size ≤ w.heap.size + 1 := by omega
  have z2 : w.heap.size + 1 ≤ w0.heap.size := by omega
  have HH := Lib.hid h0
  have HB := Lib.hid hb0
  have HL0 := Lib.hid h0.lt
  have hbs := hb0.bs
  have K2 := fun w' (hx : Ext w0 w') => hx.cell k2
  have HR0 := Lib.hid hrow0
  clear h h0 hd k3 k4 k5 kf hrow0 hlt hx0 hb0 hby z0
  unfold pt dv
  go_enter Try.func21, Try.ntmps21
  go_wp2_with (at_builtin; refine unstop ?_)
  rw [← hw0]
  have HW0 := Lib.hid hw0
  clear hw0
  have hxe := (Ext.refl w0).alloc (.cells #[] 5)
  refine go_on (wpList_appB bytesT0 hem (hbs.ext hxe) rfl rfl rfl rfl rfl (by simp; omega) (by simp; omega) ?_)
  rintro v9 w9 ho9 hg9 hor9
  simp only [List.nil_append] at ho9
  have hx9 : Ext w0 w9 := Ext.own hxe hem z1 hg9
  obtain ⟨A9, c9, rfl⟩ := ho9.form
  have hobB : ∀ k, (Value.slice A9 d.by_.length c9).ownBlock = some k → k ∉ q :: B ∧ w0.heap.size ≤ k ∧ k < w9.heap.size := fun k hk => by
    have h1 := ho9.lt k hk
    refine ⟨fun hm => ?_, by omega, h1.2⟩
    have := HL0.out k hm
    omega
  have ht9 := HH.out.ext hx9
  obtain ⟨gl, hgl⟩ : ∃ gl, gl = (Value.slice A9 d.by_.length c9).ownBlock.toList := ⟨_, rfl⟩
  have hglb : ∀ k ∈ gl, k ∉ q :: B ∧ w0.heap.size ≤ k ∧ k < w9.heap.size := fun k hk => hobB k (by rw [hgl] at hk; simpa using hk)
  have hnew : ∀ k ∈ q :: (gl ++ B), k ∈ q :: B ∨ w0.heap.size ≤ k := fun k hk => by
    rcases List.mem_cons.1 hk with rfl | hk
    · exact .inl (List.mem_cons_self ..)
    · rcases List.mem_append.1 hk with hk | hk
      · exact .inr (hglb k hk).2.1
      · exact .inl (List.mem_cons_of_mem _ hk)
  have hb9 : BsM (q :: (gl ++ B)) w9 A1 d.by_ := BsM.kept (SlM.old HB.out hnew) (.of_ext hx9)
  have hr9 : Rf (q :: (gl ++ B)) w9 q s := (HH.out.ref.old hnew).ext hx9
  have HGL := Lib.hid hgl
  have HGB := Lib.hid hglb
  have ho9B : BsM B w9 A9 d.by_ := BsM.own ho9 (fun k hk => Nat.lt_of_lt_of_le (HL0.out k (List.mem_cons_of_mem _ hk)) z1)
  have H1 := fun W (hx : Ext w9 W) => Write_any (ht9.disk.ext hx) ht9.ok ht9.few (by omega) d.i A9 c9 d.by_ (BsM.kept ho9B (.of_ext hx))
  have H2 := fun W B' (ht : Turn B w9 B' W) (hd : Disk B' W p (writeS s d.i d.by_)) => ht9.rwriteN hn hr9 (fun k hk => (hglb k hk).2.2) ht d.i d.by_ hd A1 c1 hb9
  have hrw9 := hx9.obj HR0.out
  have K1 := fun w' (hk : Kept (q :: B) w9 w') => (row6_at (hk.heap hrw9 hg5)).2.1
  have K2 := fun w' (hk : Kept (q :: B) w9 w') => (row6_at (hk.heap hrw9 hg5)).2.2.1
  have HT9 := Lib.hid (HT0.out.ext hx9)
  have HO9 := Lib.hid ho9
  have HOB := Lib.hid hobB
  have hs9 := hx9.size
  clear hem hbs hg9 hor9 ho9 hobB ht9 hb9 ho9B hr9 hrw9 hxe hx9 k1 k2 hgl hglb hnew
  generalize writeE s d.i d.by_ = E0 at *
  generalize writeS s d.i d.by_ = s9 at *
  go_wp2_with fail
  go_region_held3 (fun w' => Kept (q :: B) w9 w') (first | exact (Kept.refl _ _).drew | assumption) ((first
    | (go_at_call 10; refine (H1 _ (Ext.refl _).drew).mono ?_; rintro e w1 ⟨B1, rfl, hd1, ht1⟩; have ht1 := (Turn.of_ext (Ext.refl w9).drew).trans ht1; have hk1' : Kept (q :: B) w9 w1 := ht1.kept.mono (fun _ hk => List.mem_cons_of_mem _ hk))
    | (go_at_call 29; refine (H2 _ B1 ht1 hd1).mono ?_; rintro e w2 ⟨rfl, ht, htz, hrg⟩; have hk2' : Kept (q :: B) w9 w2 := htz.kept)))
  have ho2 := own_keptN HO9.out hk2' (fun k hk => (HOB.out k hk).1)
  have hgn : ∀ k ∈ gl, k ∉ q :: B1 := fun k hk hm => by
    obtain ⟨h1, h2, h3⟩ := HGB.out k hk
    rcases htz.new k hm with h4 | h4
    · exact h1 h4
    · omega
  have htz := HT9.out.trans htz
  have hgw : ∀ k ∈ gl, w.heap.size ≤ k := fun k hk => Nat.le_trans HX0.out.size (HGB.out k hk).2.1
  have HGN := Lib.hid hgn
  have HGW := Lib.hid hgw
  have HRG := Lib.hid hrg
  clear hgn hgw hrg
  have HT := Lib.hid ht
  have HTZ := Lib.hid htz
  clear H1 H2 hd1 ht1 hk1' hk2' ht htz K1 K2
  have hs0 : w.heap.size ≤ w0.heap.size := HX0.out.size
  generalize d.by_ = l0 at *
  go_wp2
  go_loopw [9] (fun i wr => ∃ (k : Nat) (l' : List UInt8), k ≤ l0.length ∧ i = .int .i64 k ∧ Two B1 wr p q s9 (n + 1) ∧ Rf (q :: (gl ++ B1)) wr q s9 ∧ Turn (q :: B) w (q :: B1) wr ∧ Own wr (w.heap.size + 1) (.slice A9 l0.length c9) l' ∧ l'.length = l0.length) (fun i _ => l0.length - (intOf i).toNat)
  case atStart => exact ⟨0, l0, by omega, rfl, HT.out, HRG.out, HTZ.out, ho2, rfl⟩
  case round =>
    obtain ⟨k, l', hk, rfl, ht, hrr, htz, hor, hll⟩ := hrel
    by_cases hlt : k < l0.length
    · obtain ⟨g9, rfl, hg91, hg92⟩ := hor.some_ (by omega)
      have hlt' : k < l'.length := by omega
      have hc := hor.cell hlt'
      have hfr := hor.free k
      have hlt2 : (k : Int) < l0.length := by omega
      obtain ⟨y, hy⟩ := xor_one l'[k]
      have hset := hor.set k y
      have hgm : g9 ∈ gl := by rw [HGL.out]; simp [Value.ownBlock]
      have hks : Kept gl wr (wr.setCell ⟨g9, k, none⟩ (.int .u8 (y.toNat : Int))) := (Kept.refl _ _).setCell (.inl hgm) _
      have HT2 := Lib.hid (ht.other hrr hks HGN.out)
      have HTZ2 := Lib.hid (htz.later hks HGW.out)
      generalize l'[k].toNat = x at *
      have HS := Lib.hid hset
      have HY := Lib.hid hy
      have HLL := Lib.hid hll
      clear hset hy hll ht hrr htz hor hks
      have hy := HY.out
      go_wp2
      go_roundw
      case rel => exact ⟨k + 1, l'.set k y, by omega, by go_num, HT2.out.1, HT2.out.2, HTZ2.out, HS.out, by rw [List.length_set]; exact HLL.out⟩
      case measure => simp [intOf]; omega
    · have hlt2 : ¬ (k : Int) < l0.length := by omega
      clear hll hor hrr ho2
      have hL := fun W (hx : Ext wr W) => Down_same W (ht.disk.ext hx)
      have hA := fun W (hx : Ext wr W) => Age_same W (ht.disk.ext hx)
      have hWt := fun W (hx : Ext wr W) => Waits_same W (ht.disk.ext hx)
      obtain ⟨zA1, zc1, zA2, zc2, zr⟩ := ht.wr
      obtain ⟨z0, z1, z2, z3, z4, zf⟩ := zr.cells
      have HF := Lib.hid (show ∀ m, Did B w p q (n + 1) (.returned (.bool true)) ((wr).drewN m) from fun m => ⟨rfl, _, _, ht.ext ((Ext.refl _).drewN m), htz.ext ((Ext.refl _).drewN m)⟩)
      clear zr z0 z3 zf ht htz
      go_wp2_with fail
      go_quiet ((first
        | (go_at_call 16; exact Calls.quiet_of_same (hL _ (by first | exact Ext.refl _ | exact (Ext.refl _).drewN _)))
        | (go_at_call 23; exact Calls.quiet_of_same (hA _ (by first | exact Ext.refl _ | exact (Ext.refl _).drewN _)))
        | (go_at_call 17; exact Calls.quiet_of_same (hWt _ (by first | exact Ext.refl _ | exact (Ext.refl _).drewN _)))))
      go_wp2
      go_ret
      exact HF.out _
end Go.Proofs.Ytcnikfmcefnmoaa
