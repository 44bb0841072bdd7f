/- The reference's disk in memory; the walks of its empty, done, set, Cut. Conditions: those of IsRf. -/
import Derived.Test.YtcnikfmcefnmoaaChecked
import Derived.Test.YtcnikfmcefnmoaaStr
import Derived.Test.YtcnikfmcefnmoaaDk9
namespace Go.Proofs.Ytcnikfmcefnmoaa
open Go.RowKit
def sv (ls : List (List UInt8)) : List Value := ls.map fun l => .string (st l)
@[simp] theorem sv_length (ls : List (List UInt8)) : (sv ls).length = ls.length := by simp [sv]
theorem sv_one (ls : List (List UInt8)) : ∀ u ∈ sv ls, u.oneCell' = true := by
  intro u hu
  simp only [sv, List.mem_map] at hu
  obtain ⟨c, _, rfl⟩ := hu
  rfl
def lw (x : Nat × List UInt8) : List Value := [.int .i64 (x.1 : Int), .string (st x.2)]
def lws (l : List (Nat × List UInt8)) : List Value := (l.map lw).flatten
theorem lws_len (l : List (Nat × List UInt8)) : (lws l).length = l.length * 2 := by
  rw [lws, flat_len (s := 2) (by intro cs hc; obtain ⟨p, _, rfl⟩ := List.mem_map.1 hc; rfl)]; simp
theorem lws_one (l : List (Nat × List UInt8)) : ∀ u ∈ lws l, u.oneCell' = true := by
  intro u hu
  simp only [lws, List.mem_flatten, List.mem_map] at hu
  obtain ⟨_, ⟨x, _, rfl⟩, hu⟩ := hu
  simp only [lw, List.mem_cons, List.not_mem_nil, or_false] at hu
  rcases hu with rfl | rfl <;> rfl
theorem strT : ElemOf Try.prog 66 9 1 16 := ElemOf.mk' (z := .string ⟨#[]⟩) Try.underlying66 (by kernel_rfl) rfl (by omega)
theorem rwT : ElemOf Try.prog 67 72 2 24 := ElemOf.mk' (z := .agg #[.int .i64 0, .string ⟨#[]⟩]) Try.underlying67 (by kernel_rfl) rfl (by omega)
structure IsRf (M : List Nat) (w : World) (q : Nat) (s : Dk) (A1 : Option Addr) (c1 : Nat) (A2 : Option Addr) (c2 : Nat) : Prop where
  row : w.heap[q]? = some (.cells #[.slice A1 s.sure.length c1, .slice A2 s.waits.length c2, .bool s.down, .int .i64 s.cut, .int .i64 s.age] 69 (0, 0))
  sl1 : SlM M w A1 (sv s.sure)
  sl2 : SlM M w A2 (lws s.waits)
  cap1 : s.sure.length ≤ c1
  cap2 : s.waits.length ≤ c2
  max1 : c1 ≤ 9223372036854775807
  max2 : c2 ≤ 9223372036854775807
/-- the reference's disk at q is s; none of its rows lies in a block of M -/
def Rf (M : List Nat) (w : World) (q : Nat) (s : Dk) : Prop := ∃ A1 c1 A2 c2, IsRf M w q s A1 c1 A2 c2
section
variable {M : List Nat} {w w' : World} {q : Nat} {s : Dk} {A1 A2 : Option Addr} {c1 c2 : Nat}
theorem IsRf.kept {N : List Nat} (h : IsRf M w q s A1 c1 A2 c2) (k : Kept N w w') (hq : q ∉ N) (hs : ∀ k ∈ N, k ∈ M) : IsRf M w' q s A1 c1 A2 c2 :=
  ⟨k.heap h.row hq, h.sl1.kept (k.mono hs), h.sl2.kept (k.mono hs), h.cap1, h.cap2, h.max1, h.max2⟩
theorem IsRf.ext (h : IsRf M w q s A1 c1 A2 c2) (k : Ext w w') : IsRf M w' q s A1 c1 A2 c2 := h.kept (N := []) (.of_ext k) (by simp) (by simp)
theorem IsRf.old {N : List Nat} (h : IsRf M w q s A1 c1 A2 c2) (hs : ∀ k ∈ N, k ∈ M ∨ w.heap.size ≤ k) : IsRf N w q s A1 c1 A2 c2 :=
  ⟨h.row, h.sl1.old hs, h.sl2.old hs, h.cap1, h.cap2, h.max1, h.max2⟩
theorem IsRf.lt (h : IsRf M w q s A1 c1 A2 c2) : q < w.heap.size := obj_lt h.row
theorem IsRf.cells (h : IsRf M w q s A1 c1 A2 c2) : (∀ w', Ext w w' → w'.cell? ⟨q, 0, none⟩ = some (.slice A1 s.sure.length c1)) ∧ (∀ w', Ext w w' → w'.cell? ⟨q, 1, none⟩ = some (.slice A2 s.waits.length c2)) ∧
    (∀ w', Ext w w' → w'.cell? ⟨q, 2, none⟩ = some (.bool s.down)) ∧ (∀ w', Ext w w' → w'.cell? ⟨q, 3, none⟩ = some (.int .i64 s.cut)) ∧ (∀ w', Ext w w' → w'.cell? ⟨q, 4, none⟩ = some (.int .i64 s.age)) ∧ (∀ w' j, Ext w w' → w'.frozen? ⟨q, j, none⟩ = false) := by
  refine ⟨fun _ hx => ?_, fun _ hx => ?_, fun _ hx => ?_, fun _ hx => ?_, fun _ hx => ?_, fun _ j hx => frozen_of_row _ q j _ _ (hx.obj h.row)⟩ <;>
    (rw [cell_of_row _ q _ _ _ _ (hx.obj h.row)]; rfl)
/-- the object's own block turns: its rows stand -/
theorem IsRf.turned {s' : Dk} (h : IsRf M w q s A1 c1 A2 c2) (hq : q ∈ M) (hx : Kept [q] w w') (e1 : s'.sure = s.sure) (e2 : s'.waits = s.waits)
    (hr : w'.heap[q]? = some (.cells #[.slice A1 s.sure.length c1, .slice A2 s.waits.length c2, .bool s'.down, .int .i64 s'.cut, .int .i64 s'.age] 69 (0, 0))) : IsRf M w' q s' A1 c1 A2 c2 := by
  have hm : ∀ k ∈ [q], k ∈ M := by intro k hk; simp at hk; subst hk; exact hq
  exact ⟨by rw [e1, e2]; exact hr, by rw [e1]; exact h.sl1.kept (hx.mono hm), by rw [e2]; exact h.sl2.kept (hx.mono hm), by rw [e1]; exact h.cap1, by rw [e2]; exact h.cap2, h.max1, h.max2⟩
end
theorem empty_any (w : World) : Calls Try.prog 35 #[] w fun e w' => e = .returned (.string (st zpage)) ∧ Ext w w' := by
  obtain ⟨iu, hiu, hzu, hsu, hbu⟩ := info_parts (P := Try.prog) (e := 5) (z := .int .u8 0) (size := 1) (bytes := 1) (by kernel_rfl)
  have hmk : (Instr.makeSlice 22 (.int .i64 64) (.int .i64 64)).run Try.prog w = .ok (.slice (some ⟨w.heap.size, 0, none⟩) 64 64) (w.alloc (.cells (madeCells #[.int .u8 0] 64) 5)) := by
    have h := run_make (P := Try.prog) w 22 5 iu (.int .u8 0) Try.underlying22 hiu hzu .i64 .i64 64 64 (by omega) (by omega) (by rw [hbu]; omega) (by omega)
    rw [hsu] at h
    exact h
  have hz : (madeCells #[Value.int .u8 0] 64).toList = bv zpage := by
    rw [toList_madeCells_one]; rfl
  have hb : Bs (w.alloc (.cells (madeCells #[.int .u8 0] 64) 5)) (some ⟨w.heap.size, 0, none⟩) zpage := by
    refine Bs.new w _ _ ?_ 5 (0, 0)
    rw [← hz]
  have hcm := run_str (P := Try.prog) Try.underlying22 Try.underlying5 Try.underlying9 hb 64 64 rfl _ (Ext.refl _)
  have hx := (Ext.refl w).alloc (.cells (madeCells #[.int .u8 0] 64) 5)
  clear hb hz hiu hzu hsu hbu
  generalize zpage = z at *
  generalize madeCells #[Value.int .u8 0] 64 = mc at *
  go_enter Try.func35, Try.ntmps35
  go_wp2
  go_ret
  exact ⟨rfl, hx⟩
section
variable {M : List Nat} {q : Nat} {s : Dk} {A1 A2 : Option Addr} {c1 c2 : Nat}
theorem done_any (w : World) (h : IsRf M w q s A1 c1 A2 c2) (hq : q ∈ M) (hd : s.down = false) (hc : s.cut ≤ 9223372036854775807) : Calls Try.prog 36 #[pt q] w fun e w' => e = .returned (.bool (!(spent s).down)) ∧ Kept [q] w w' ∧ IsRf M w' q (spent s) A1 c1 A2 c2 := by
  obtain ⟨x0, x1, x2, x3, x4, cf⟩ := h.cells
  have x2 := x2 w (Ext.refl w)
  have x3 := x3 w (Ext.refl w)
  have cf := fun j => cf w j (Ext.refl w)
  clear x0 x1 x4
  obtain ⟨sure, waits, down, cut, age⟩ := s
  simp only at hd hc x2 x3
  subst hd
  have H := Lib.hid h
  unfold pt
  by_cases h0 : cut = 0
  · subst h0
    have hS : Hid (spent ⟨sure, waits, false, 0, age⟩ = ⟨sure, waits, false, 0, age⟩) := Lib.hid rfl
    clear h
    go_enter Try.func36, Try.ntmps36
    go_wp2
    go_ret
    rw [hS.out]
    exact ⟨rfl, Kept.refl _ _, H.out⟩
  · have hS : Hid (spent ⟨sure, waits, false, cut, age⟩ = ⟨sure, waits, decide (cut = 1), cut - 1, age⟩) := Lib.hid (by unfold spent; rw [if_neg h0])
    by_cases h1 : cut = 1
    · subst h1
      have hkq := ((Kept.refl [q] w).setCell (p := ⟨q, 2, none⟩) (.inl (by simp)) (.bool true)).setCell (p := ⟨q, 3, none⟩) (.inl (by simp)) (.int .i64 0)
      have hrow := heap_setCell_same _ q 3 _ _ (.int .i64 0) (heap_setCell_same w q 2 _ _ (.bool true) h.row)
      have HFIN := Lib.hid (h.turned (s' := ⟨sure, waits, true, 0, age⟩) hq hkq rfl rfl (by simpa using hrow))
      have HK := Lib.hid hkq
      clear h hkq hrow
      go_enter Try.func36, Try.ntmps36
      go_wp2
      go_ret
      rw [hS.out]
      exact ⟨rfl, HK.out, HFIN.out⟩
    · have hi1 : ((cut : Int) == 1) = false := by simp; omega
      have hgt : (0 : Int) < (cut : Int) := by omega
      have hw : IntKind.i64.wrap ((cut : Int) - 1) = (cut : Int) - 1 := IntWalk.i64_in _ (by omega)
      have hkq := (Kept.refl [q] w).setCell (p := ⟨q, 3, none⟩) (.inl (by simp)) (.int .i64 ((cut : Int) - 1))
      have hrow := heap_setCell_same w q 3 _ _ (.int .i64 ((cut : Int) - 1)) h.row
      have hz : ((cut - 1 : Nat) : Int) = (cut : Int) - 1 := by omega
      have HFIN := Lib.hid (h.turned (s' := ⟨sure, waits, decide (cut = 1), cut - 1, age⟩) hq hkq rfl rfl (by rw [decide_eq_false h1]; simp only; rw [hz]; simpa using hrow))
      have HK := Lib.hid hkq
      have HD : Hid (decide (cut = 1) = false) := Lib.hid (decide_eq_false h1)
      clear h hkq hrow h0 h1 hz
      go_enter Try.func36, Try.ntmps36
      go_wp2
      go_ret
      rw [hS.out]
      exact ⟨by simp only; rw [HD.out]; rfl, HK.out, HFIN.out⟩
theorem RCut_any (w : World) (h : IsRf M w q s A1 c1 A2 c2) (hq : q ∈ M) (n : Int) : Calls Try.prog 32 #[pt q, .int .i64 n] w fun e w' => e = .returned (.int .i64 (cutE s n)) ∧ Kept [q] w w' ∧ IsRf M w' q (cutS s n) A1 c1 A2 c2 := by
  obtain ⟨x0, x1, x2, x3, x4, cf⟩ := h.cells
  have x2 := x2 w (Ext.refl w)
  have x3 := x3 w (Ext.refl w)
  have cf := fun j => cf w j (Ext.refl w)
  clear x0 x1 x4
  unfold cutE cutS
  obtain ⟨sure, waits, down, cut, age⟩ := s
  simp only at x2 x3 ⊢
  have H := Lib.hid h
  unfold pt
  cases down
  · by_cases hn : n < 0
    · rw [if_neg (by simp), if_pos hn, if_pos (.inr hn)]
      clear h
      go_enter Try.func32, Try.ntmps32
      go_wp2
      go_ret
      exact ⟨rfl, Kept.refl _ _, H.out⟩
    · rw [if_neg (by simp), if_neg hn, if_neg (by simp; omega)]
      have hkq := (Kept.refl [q] w).setCell (p := ⟨q, 3, none⟩) (.inl (by simp)) (.int .i64 n)
      have hrow := heap_setCell_same w q 3 _ _ (.int .i64 n) h.row
      have hz : ((n.toNat : Nat) : Int) = n := by omega
      have HFIN := Lib.hid (h.turned (s' := ⟨sure, waits, false, n.toNat, age⟩) hq hkq rfl rfl (by simp only; rw [hz]; simpa using hrow))
      have HK := Lib.hid hkq
      clear h hkq hrow hz
      go_enter Try.func32, Try.ntmps32
      go_wp2
      go_ret
      exact ⟨rfl, HK.out, HFIN.out⟩
  · rw [if_pos rfl, if_pos (.inl rfl)]
    clear h
    go_enter Try.func32, Try.ntmps32
    go_wp2
    go_ret
    exact ⟨rfl, Kept.refl _ _, H.out⟩
end
end Go.Proofs.Ytcnikfmcefnmoaa
