/- The reference's disk in memory; the walks of its empty, done, set, Cut. Conditions: those of IsRf. The walks of the reference's Sure and Read. Conditions: those of IsRf. The walks of the reference's set and Write. Conditions: those of IsRf. The walks of the reference's Flush, New, Fork. Conditions: those of IsRf. The walks of the reference's Sum and Pack, and plain lemmas on numbers of bytes. Conditions: the lengths named in each theorem. The walk of the reference's One: it answers as frame.One. Conditions: the lengths named. The reference's log on a new disk: the walks of left, empty, Number, page, head, write, setHead. Conditions: the hypotheses of each theorem. The reference's log on a new disk: the walks of head, write, setHead. Conditions: the hypotheses of each theorem. The reference's Open on a new disk, and its Room. Conditions: the hypotheses of each theorem. The reference's Room, of no log and of a new one. Conditions: the hypotheses of each theorem. -/
import Derived.Test.YtklodimokhndoaaChecked
import Derived.Test.YtklodimokhndoaaStr
import Derived.Test.YtklodimokhndoaaDk9
import Derived.Test.YtklodimokhndoaaDe
import Derived.Test.YtklodimokhndoaaDk13
import Derived.Test.YtklodimokhndoaaPhase
import Derived.Test.YtklodimokhndoaaFrm2
import Derived.BigQuiet
import Derived.Deep.QuietTactic
import Derived.Test.YtklodimokhndoaaWa5
import Derived.Test.YtklodimokhndoaaWb0
import Derived.Test.YtklodimokhndoaaWb6
import Derived.Test.YtklodimokhndoaaWb7
namespace Go.Proofs.Ytklodimokhndoaa
open Go.RowKit
def sv (ls : List (List UInt8)) : List Value := ls.map fun l => .string (st l)
@[simp] theorem sv_length (ls : List (List UInt8)) : (sv ls).length = ls.length := by simp [sv]
theorem sv_one (ls : List (List UInt8)) : ∀ u ∈ sv ls, u.oneCell' = true := by
  intro u hu
  simp only [sv, List.mem_map] at hu
  obtain ⟨c, _, rfl⟩ := hu
  rfl
def lw (x : Nat × List UInt8) : List Value := [.int .i64 (x.1 : Int), .string (st x.2)]
def lws (l : List (Nat × List UInt8)) : List Value := (l.map lw).flatten
theorem lws_len (l : List (Nat × List UInt8)) : (lws l).length = l.length * 2 := by
  rw [lws, flat_len (s := 2) (by intro cs hc; obtain ⟨p, _, rfl⟩ := List.mem_map.1 hc; rfl)]; simp
theorem lws_one (l : List (Nat × List UInt8)) : ∀ u ∈ lws l, u.oneCell' = true := by
  intro u hu
  simp only [lws, List.mem_flatten, List.mem_map] at hu
  obtain ⟨_, ⟨x, _, rfl⟩, hu⟩ := hu
  simp only [lw, List.mem_cons, List.not_mem_nil, or_false] at hu
  rcases hu with rfl | rfl <;> rfl
theorem strT : ElemOf Try.prog 69 9 1 16 := ElemOf.mk' (z := .string ⟨#[]⟩) Try.underlying69 (by kernel_rfl) rfl (by omega)
theorem rwT : ElemOf Try.prog 70 119 2 24 := ElemOf.mk' (z := .agg #[.int .i64 0, .string ⟨#[]⟩]) Try.underlying70 (by kernel_rfl) rfl (by omega)
structure IsRf (M : List Nat) (w : World) (q : Nat) (s : Dk) (A1 : Option Addr) (c1 : Nat) (A2 : Option Addr) (c2 : Nat) : Prop where
  row : w.heap[q]? = some (.cells #[.slice A1 s.sure.length c1, .slice A2 s.waits.length c2, .bool s.down, .int .i64 s.cut, .int .i64 s.age] 72 (0, 0))
  sl1 : SlM M w A1 (sv s.sure)
  sl2 : SlM M w A2 (lws s.waits)
  cap1 : s.sure.length ≤ c1
  cap2 : s.waits.length ≤ c2
  max1 : c1 ≤ 9223372036854775807
  max2 : c2 ≤ 9223372036854775807
/-- the reference's disk at q is s; none of its rows lies in a block of M -/
def Rf (M : List Nat) (w : World) (q : Nat) (s : Dk) : Prop := ∃ A1 c1 A2 c2, IsRf M w q s A1 c1 A2 c2
section
variable {M : List Nat} {w w' : World} {q : Nat} {s : Dk} {A1 A2 : Option Addr} {c1 c2 : Nat}
theorem IsRf.kept {N : List Nat} (h : IsRf M w q s A1 c1 A2 c2) (k : Kept N w w') (hq : q ∉ N) (hs : ∀ k ∈ N, k ∈ M) : IsRf M w' q s A1 c1 A2 c2 :=
  ⟨k.heap h.row hq, h.sl1.kept (k.mono hs), h.sl2.kept (k.mono hs), h.cap1, h.cap2, h.max1, h.max2⟩
theorem IsRf.ext (h : IsRf M w q s A1 c1 A2 c2) (k : Ext w w') : IsRf M w' q s A1 c1 A2 c2 := h.kept (N := []) (.of_ext k) (by simp) (by simp)
theorem IsRf.old {N : List Nat} (h : IsRf M w q s A1 c1 A2 c2) (hs : ∀ k ∈ N, k ∈ M ∨ w.heap.size ≤ k) : IsRf N w q s A1 c1 A2 c2 :=
  ⟨h.row, h.sl1.old hs, h.sl2.old hs, h.cap1, h.cap2, h.max1, h.max2⟩
theorem IsRf.lt (h : IsRf M w q s A1 c1 A2 c2) : q < w.heap.size := obj_lt h.row
theorem IsRf.cells (h : IsRf M w q s A1 c1 A2 c2) : (∀ w', Ext w w' → w'.cell? ⟨q, 0, none⟩ = some (.slice A1 s.sure.length c1)) ∧ (∀ w', Ext w w' → w'.cell? ⟨q, 1, none⟩ = some (.slice A2 s.waits.length c2)) ∧
    (∀ w', Ext w w' → w'.cell? ⟨q, 2, none⟩ = some (.bool s.down)) ∧ (∀ w', Ext w w' → w'.cell? ⟨q, 3, none⟩ = some (.int .i64 s.cut)) ∧ (∀ w', Ext w w' → w'.cell? ⟨q, 4, none⟩ = some (.int .i64 s.age)) ∧ (∀ w' j, Ext w w' → w'.frozen? ⟨q, j, none⟩ = false) := by
  refine ⟨fun _ hx => ?_, fun _ hx => ?_, fun _ hx => ?_, fun _ hx => ?_, fun _ hx => ?_, fun _ j hx => frozen_of_row _ q j _ _ (hx.obj h.row)⟩ <;>
    (rw [cell_of_row _ q _ _ _ _ (hx.obj h.row)]; rfl)
/-- the object's own block turns: its rows stand -/
theorem IsRf.turned {s' : Dk} (h : IsRf M w q s A1 c1 A2 c2) (hq : q ∈ M) (hx : Kept [q] w w') (e1 : s'.sure = s.sure) (e2 : s'.waits = s.waits)
    (hr : w'.heap[q]? = some (.cells #[.slice A1 s.sure.length c1, .slice A2 s.waits.length c2, .bool s'.down, .int .i64 s'.cut, .int .i64 s'.age] 72 (0, 0))) : IsRf M w' q s' A1 c1 A2 c2 := by
  have hm : ∀ k ∈ [q], k ∈ M := by intro k hk; simp at hk; subst hk; exact hq
  exact ⟨by rw [e1, e2]; exact hr, by rw [e1]; exact h.sl1.kept (hx.mono hm), by rw [e2]; exact h.sl2.kept (hx.mono hm), by rw [e1]; exact h.cap1, by rw [e2]; exact h.cap2, h.max1, h.max2⟩
end
theorem empty_any (w : World) : Calls Try.prog 25 #[] w fun e w' => e = .returned (.string (st zpage)) ∧ Ext w w' := by
  obtain ⟨iu, hiu, hzu, hsu, hbu⟩ := info_parts (P := Try.prog) (e := 5) (z := .int .u8 0) (size := 1) (bytes := 1) (by kernel_rfl)
  have hmk : (Instr.makeSlice 46 (.int .i64 64) (.int .i64 64)).run Try.prog w = .ok (.slice (some ⟨w.heap.size, 0, none⟩) 64 64) (w.alloc (.cells (madeCells #[.int .u8 0] 64) 5)) := by
    have h := run_make (P := Try.prog) w 46 5 iu (.int .u8 0) Try.underlying46 hiu hzu .i64 .i64 64 64 (by omega) (by omega) (by rw [hbu]; omega) (by omega)
    rw [hsu] at h
    exact h
  have hz : (madeCells #[Value.int .u8 0] 64).toList = bv zpage := by
    rw [toList_madeCells_one]; rfl
  have hb : Bs (w.alloc (.cells (madeCells #[.int .u8 0] 64) 5)) (some ⟨w.heap.size, 0, none⟩) zpage := by
    refine Bs.new w _ _ ?_ 5 (0, 0)
    rw [← hz]
  have hcm := run_str (P := Try.prog) Try.underlying46 Try.underlying5 Try.underlying9 hb 64 64 rfl _ (Ext.refl _)
  have hx := (Ext.refl w).alloc (.cells (madeCells #[.int .u8 0] 64) 5)
  clear hb hz hiu hzu hsu hbu
  generalize zpage = z at *
  generalize madeCells #[Value.int .u8 0] 64 = mc at *
  go_enter Try.func25, Try.ntmps25
  go_wp2
  go_ret
  exact ⟨rfl, hx⟩
section
variable {M : List Nat} {q : Nat} {s : Dk} {A1 A2 : Option Addr} {c1 c2 : Nat}
theorem done_any (w : World) (h : IsRf M w q s A1 c1 A2 c2) (hq : q ∈ M) (hd : s.down = false) (hc : s.cut ≤ 9223372036854775807) : Calls Try.prog 63 #[pt q] w fun e w' => e = .returned (.bool (!(spent s).down)) ∧ Kept [q] w w' ∧ IsRf M w' q (spent s) A1 c1 A2 c2 := by
  obtain ⟨x0, x1, x2, x3, x4, cf⟩ := h.cells
  have x2 := x2 w (Ext.refl w)
  have x3 := x3 w (Ext.refl w)
  have cf := fun j => cf w j (Ext.refl w)
  clear x0 x1 x4
  obtain ⟨sure, waits, down, cut, age⟩ := s
  simp only at hd hc x2 x3
  subst hd
  have H := Lib.hid h
  unfold pt
  by_cases h0 : cut = 0
  · subst h0
    have hS : Hid (spent ⟨sure, waits, false, 0, age⟩ = ⟨sure, waits, false, 0, age⟩) := Lib.hid rfl
    clear h
    go_enter Try.func63, Try.ntmps63
    go_wp2
    go_ret
    rw [hS.out]
    exact ⟨rfl, Kept.refl _ _, H.out⟩
  · have hS : Hid (spent ⟨sure, waits, false, cut, age⟩ = ⟨sure, waits, decide (cut = 1), cut - 1, age⟩) := Lib.hid (by unfold spent; rw [if_neg h0])
    by_cases h1 : cut = 1
    · subst h1
      have hkq := ((Kept.refl [q] w).setCell (p := ⟨q, 2, none⟩) (.inl (by simp)) (.bool true)).setCell (p := ⟨q, 3, none⟩) (.inl (by simp)) (.int .i64 0)
      have hrow := heap_setCell_same _ q 3 _ _ (.int .i64 0) (heap_setCell_same w q 2 _ _ (.bool true) h.row)
      have HFIN := Lib.hid (h.turned (s' := ⟨sure, waits, true, 0, age⟩) hq hkq rfl rfl (by simpa using hrow))
      have HK := Lib.hid hkq
      clear h hkq hrow
      go_enter Try.func63, Try.ntmps63
      go_wp2
      go_ret
      rw [hS.out]
      exact ⟨rfl, HK.out, HFIN.out⟩
    · have hi1 : ((cut : Int) == 1) = false := by simp; omega
      have hgt : (0 : Int) < (cut : Int) := by omega
      have hw : IntKind.i64.wrap ((cut : Int) - 1) = (cut : Int) - 1 := IntWalk.i64_in _ (by omega)
      have hkq := (Kept.refl [q] w).setCell (p := ⟨q, 3, none⟩) (.inl (by simp)) (.int .i64 ((cut : Int) - 1))
      have hrow := heap_setCell_same w q 3 _ _ (.int .i64 ((cut : Int) - 1)) h.row
      have hz : ((cut - 1 : Nat) : Int) = (cut : Int) - 1 := by omega
      have HFIN := Lib.hid (h.turned (s' := ⟨sure, waits, decide (cut = 1), cut - 1, age⟩) hq hkq rfl rfl (by rw [decide_eq_false h1]; simp only; rw [hz]; simpa using hrow))
      have HK := Lib.hid hkq
      have HD : Hid (decide (cut = 1) = false) := Lib.hid (decide_eq_false h1)
      clear h hkq hrow h0 h1 hz
      go_enter Try.func63, Try.ntmps63
      go_wp2
      go_ret
      rw [hS.out]
      exact ⟨by simp only; rw [HD.out]; rfl, HK.out, HFIN.out⟩
end
end Go.Proofs.Ytklodimokhndoaa
namespace Go.Proofs.Ytklodimokhndoaa
open Go.RowKit
section
variable {M : List Nat} {q : Nat} {s : Dk} {A1 A2 : Option Addr} {c1 c2 : Nat}
theorem IsRf.sure_at {w : World} (h : IsRf M w q s A1 c1 A2 c2) {i : Nat} (hi : i < s.sure.length) : ∃ ad, A1 = some ad ∧ ad.block ∉ M ∧ ∀ w', Ext w w' → w'.cell? (ad.add i) = some (.string (st s.sure[i])) := by
  obtain ⟨ad, e, hn, hc⟩ := h.sl1 i (.string (st s.sure[i])) (by simp [sv, hi])
  exact ⟨ad, e, hn, fun w' hx => hx.cell hc⟩
theorem IsRf.wait_at {w : World} (h : IsRf M w q s A1 c1 A2 c2) {k : Nat} (hk : k < s.waits.length) : ∃ ad, A2 = some ad ∧ ad.block ∉ M ∧ (∀ w', Ext w w' → w'.cell? (ad.add (k * 2)) = some (.int .i64 ((s.waits[k]).1 : Int))) ∧
    (∀ w', Ext w w' → w'.cell? ⟨(ad.add (k * 2)).block, (ad.add (k * 2)).off + 1, none⟩ = some (.string (st (s.waits[k]).2))) := by
  have hg := fun j (hj : j < 2) => flatten_get (css := s.waits.map lw) (s := 2) (by intro cs hc; obtain ⟨p, _, rfl⟩ := List.mem_map.1 hc; rfl) k j (lw s.waits[k]) (by simp [hk]) hj
  obtain ⟨ad, e, hn, hc⟩ := h.sl2 (k * 2 + 0) (.int .i64 ((s.waits[k]).1 : Int)) (by rw [lws, hg 0 (by omega)]; rfl)
  obtain ⟨ad', e', _, hc'⟩ := h.sl2 (k * 2 + 1) (.string (st (s.waits[k]).2)) (by rw [lws, hg 1 (by omega)]; rfl)
  rw [e] at e'
  cases e'
  exact ⟨ad, e, hn, fun w' hx => hx.cell hc, fun w' hx => by rw [← add_field ad (k * 2) 0]; exact hx.cell hc'⟩
set_option maxHeartbeats 1000000 in
theorem RRead_any (w : World) (h : IsRf M w q s A1 c1 A2 c2) (hm : s.waits.length ≤ 1000000) (i : Int) :
    Calls Try.prog 61 #[pt q, .int .i64 i] w fun e w' => ∃ A c, e = .returned (.tuple #[.slice A (readL s i).length c, .int .i64 (wrongE s i true)]) ∧ Bs w' A (readL s i) ∧ Ext w w' ∧ (readL s i).length ≤ c := by
  obtain ⟨x0, x1, x2, x3, x4, cf⟩ := h.cells
  replace x2 := x2 w (Ext.refl w)
  clear x3 x4 cf
  unfold pt readL wrongE
  by_cases hd : s.down = true
  · rw [hd] at x2
    simp only [hd, and_self, if_true]
    rw [if_pos (by simp)]
    clear h x0 x1 hd
    go_enter Try.func61, Try.ntmps61
    go_wp2
    go_ret2
    first | exact ⟨none, 0, rfl, Sl.nil _ _, Ext.refl _, by simp⟩ | exact ⟨0, rfl, Sl.nil _ _, Ext.refl _, by simp⟩ | exact ⟨none, ⟨0, rfl⟩, Sl.nil _ _, Ext.refl _⟩
  · have hd' : s.down = false := by simpa using hd
    rw [hd'] at x2
    simp only [hd', Bool.false_eq_true, and_false, if_false]
    clear hd hd'
    by_cases hi0 : i < 0
    · rw [if_neg (show ¬ (0 ≤ i ∧ i < s.sure.length) by omega), if_pos (by simp)]
      replace x0 := x0 w (Ext.refl w)
      clear h x1
      go_enter Try.func61, Try.ntmps61
      go_wp2
      go_ret2
      first | exact ⟨none, 0, rfl, Sl.nil _ _, Ext.refl _, by simp⟩ | exact ⟨0, rfl, Sl.nil _ _, Ext.refl _, by simp⟩ | exact ⟨none, ⟨0, rfl⟩, Sl.nil _ _, Ext.refl _⟩
    · by_cases hi1 : i < (s.sure.length : Int)
      · obtain ⟨k, rfl⟩ : ∃ k : Nat, i = k := ⟨i.toNat, by omega⟩
        have hk : k < s.sure.length := by omega
        rw [if_pos (show (0 : Int) ≤ k ∧ (k : Int) < s.sure.length by omega), if_neg (by simp), Int.toNat_natCast]
        obtain ⟨ad, rfl, _, hc⟩ := h.sure_at hk
        have hc := hc w (Ext.refl w)
        replace x0 := x0 w (Ext.refl w)
        have e : s.sure.getD k [] = s.sure[k] := by rw [List.getD_eq_getElem?_getD, List.getElem?_eq_getElem hk]; rfl
        have hread : readS s k = (s.waits.take s.waits.length).foldl (fun p x => if x.1 = k then x.2 else p) s.sure[k] := by
          unfold readS
          rw [List.take_length, e]
        have HRD := Lib.hid hread
        have HWT := Lib.hid (fun j (hj : j < s.waits.length) => h.wait_at hj)
        generalize s.sure[k] = pg at *
        generalize readS s k = res at *
        clear h e hread
        generalize s.waits = ws at *
        go_enter Try.func61, Try.ntmps61
        go_wp2
        go_loopw [6, 7] (fun o n wr => ∃ j : Nat, n = .int .i64 j ∧ j ≤ ws.length ∧ o = .string (st ((ws.take j).foldl (fun p x => if x.1 = k then x.2 else p) pg)) ∧ wr = w) (fun _ n _ => ws.length - (intOf n).toNat)
        case atStart => exact ⟨0, rfl, by omega, rfl, rfl⟩
        case round =>
          obtain ⟨j, rfl, hj, rfl, rfl⟩ := hrel
          replace x1 := x1 wr (Ext.refl wr)
          by_cases hlt : j < ws.length
          · have hjn : (j : Int) < (ws.length : Int) := by omega
            obtain ⟨ad2, rfl, _, y1, y2⟩ := HWT.out j hlt
            have y1 := y1 wr (Ext.refl wr)
            have y2 := y2 wr (Ext.refl wr)
            have hstep : (ws.take (j + 1)).foldl (fun p x => if x.1 = k then x.2 else p) pg = if (ws[j]).1 = k then (ws[j]).2 else (ws.take j).foldl (fun p x => if x.1 = k then x.2 else p) pg := by
              rw [List.take_add_one, List.getElem?_eq_getElem hlt, Option.toList_some, List.foldl_append]
              rfl
            have HST := Lib.hid hstep
            clear hstep
            generalize ws[j] = xx at *
            obtain ⟨xi, xp⟩ := xx
            simp only at HST y1 y2
            generalize (ws.take j).foldl (fun p x => if x.1 = k then x.2 else p) pg = cur at *
            by_cases hxi : xi = k
            · have ht : ((xi : Int) == (k : Int)) = true := by rw [hxi]; simp
              rw [if_pos hxi] at HST
              clear hxi
              go_wp2
              go_roundw
              case rel => exact ⟨j + 1, by go_num, by omega, by rw [HST.out], by first | rfl | trivial⟩
              case measure => simp [intOf]; omega
            · have ht : ((xi : Int) == (k : Int)) = false := by simpa using fun e => hxi (by omega)
              rw [if_neg hxi] at HST
              clear hxi
              go_wp2
              go_roundw
              case rel => exact ⟨j + 1, by go_num, by omega, by rw [HST.out], by first | rfl | trivial⟩
              case measure => simp [intOf]; omega
          · have hjn : ¬ (j : Int) < (ws.length : Int) := by omega
            have hjj : j = ws.length := by omega
            subst hjj
            rw [← HRD.out]
            obtain ⟨cap, W, hcv, hx, hb, hl⟩ := conv_bytes wr (st res)
            have HB := Lib.hid hb
            have HL := Lib.hid hl
            have hz : (st res).size = res.length := st_size _
            rw [hz] at hcv
            clear hb hl
            go_wp2
            go_ret2
            exact ⟨_, cap, rfl, by have := HB.out.bs; rwa [tl_st] at this, hx, by have := HL.out; rwa [st_size] at this⟩
      · rw [if_neg (show ¬ (0 ≤ i ∧ i < s.sure.length) by omega), if_pos (by simp)]
        replace x0 := x0 w (Ext.refl w)
        clear h x1
        go_enter Try.func61, Try.ntmps61
        go_wp2
        go_ret2
        first | exact ⟨none, 0, rfl, Sl.nil _ _, Ext.refl _, by simp⟩ | exact ⟨0, rfl, Sl.nil _ _, Ext.refl _, by simp⟩ | exact ⟨none, ⟨0, rfl⟩, Sl.nil _ _, Ext.refl _⟩
end
end Go.Proofs.Ytklodimokhndoaa
namespace Go.Proofs.Ytklodimokhndoaa
open Go.RowKit
section
variable {P : Program} {ops : Array Oper} {Q : Exit → Act → World → Prop} {a : Act} {w : World} {K : Act → World → Prop} {E : Prop}
/-- a call, by its contract, as one step of a region that draws -/
theorem step_call {o : Oper} {f : Nat} {args : Array Value} {R : Ending → World → Prop} (hgd : o.guard = none) (hrun : (execOp a.eval o).run P w = .ok (.enter f args) w) (hc : Calls P f args w R)
    (h : ∀ e w'', R e w'' → ∃ v, e = .returned v ∧ K (a.put o.dst v) w'') : if Region.wanted o (yielded ops a.tmps) = true then Oper.wp P o a w K Q else E := by
  have hw : Region.wanted o (yielded ops a.tmps) = true := by simp [Region.wanted, hgd]
  rw [if_pos hw]
  unfold Oper.wp
  rw [hrun, Oper.upon_enter]
  refine hc.mono fun e w'' hh => ?_
  obtain ⟨v, rfl, hk⟩ := h e w'' hh
  exact hk
end
theorem ex_st (s : ByteArray) (a b : Nat) : s.extract a b = st (((tl s).take b).drop a) := by
  apply ByteArray.ext
  simp only [st, tl, ByteArray.data_extract]
  apply Array.toList_inj.1
  simp [Array.toList_extract, List.drop_take]
theorem own_some {w : World} {base e s n : Nat} {v : Value} {xs : List Value} (h : w.ownsRow base e s v n xs) (hn : 0 < n) : ∃ g cap, v = .slice (some ⟨g, 0, none⟩) n cap ∧ base ≤ g ∧ g < w.heap.size ∧ n ≤ cap ∧ cap ≤ 9223372036854775807 := by
  rcases h.2 with ⟨_, h0⟩ | ⟨g, cap, cur, e1, hb, hg, hc, hm, _⟩
  · omega
  · exact ⟨g, cap, e1, hb, obj_lt hg, hc, hm⟩
section
variable {M : List Nat} {q : Nat} {s : Dk} {A1 A2 : Option Addr} {c1 c2 : Nat}
theorem RSet_any (w : World) (h : IsRf M w q s A1 c1 A2 c2) (hq : q ∈ M) (hM : ∀ k ∈ M, k < w.heap.size) (i : Nat) (hi : i < s.sure.length) (hn : s.sure.length ≤ 512) (x : List UInt8) :
    Calls Try.prog 64 #[pt q, .int .i64 i, .string (st x)] w fun e w' => e = .returned (.tuple #[]) ∧ Kept [q] w w' ∧ Rf M w' q ⟨s.sure.set i x, s.waits, s.down, s.cut, s.age⟩ := by
  have hx0 := (Ext.refl w).alloc (.cells #[] 9)
  have c0 := h.cells.1 _ hx0
  have ho0 := World.ownsRow_made (base := w.heap.size) (e := 9) (size := 1) w #[] 0 (Nat.le_refl _) (by simp [maxLen]) rfl
  have hs0 := (h.sl1.sl).ext hx0
  have H := Lib.hid h
  have HX0 := Lib.hid hx0
  have HM := Lib.hid hM
  have hqlt := h.lt
  have hii : (i : Int) < (s.sure.length : Int) := by omega
  clear h hM hx0
  unfold pt
  go_enter Try.func64, Try.ntmps64
  go_wp2_with (at_builtin; refine unstop ?_)
  refine go_on (wpList_app strT ho0 hs0 rfl rfl rfl rfl (by simp) (sv_one _) (by omega) (by omega) (by simp) ?_)
  rintro v w2 ho2 hg2 -
  simp only [Nat.zero_add, List.nil_append] at ho2
  obtain ⟨g, cap, rfl, hgb, hgl, hgc, hgm⟩ := own_some ho2 (by omega)
  have hx2 : Ext w w2 := Ext.own HX0.out ho0 (Nat.le_refl _) hg2
  have hgq : g ≠ q := by omega
  have cg : w2.cell? ⟨g, i, none⟩ = some (.string (st s.sure[i])) := by rw [ho2.cellAt i (by omega)]; simp [sv, hi]
  have fg := ho2.frozenAt i
  have hst := (ho2.stored i (.string (st x))).1
  have hk3 := (Kept.of_ext (M := [q]) hx2).setCell (p := ⟨g, i, none⟩) (.inr hgb) (.string (st x))
  have hx3 := Ext.setCell hx2 (p := ⟨g, i, none⟩) hgb (.string (st x))
  have c3 := H.out.cells.1 _ hx3
  have f3 := H.out.cells.2.2.2.2.2 _ 0 hx3
  have hkq := hk3.setCell (p := ⟨q, 0, none⟩) (.inl (by simp)) (.slice (some ⟨g, 0, none⟩) s.sure.length cap)
  have hrow := heap_setCell_same _ q 0 _ _ (.slice (some ⟨g, 0, none⟩) s.sure.length cap) (hx3.obj H.out.row)
  have hkM : Kept M (w2.setCell ⟨g, i, none⟩ (.string (st x))) ((w2.setCell ⟨g, i, none⟩ (.string (st x))).setCell ⟨q, 0, none⟩ (.slice (some ⟨g, 0, none⟩) s.sure.length cap)) := (Kept.refl M _).setCell (p := ⟨q, 0, none⟩) (.inl hq) _
  have hsv : (sv s.sure).set i (.string (st x)) = sv (s.sure.set i x) := by simp [sv, List.map_set]
  rw [hsv] at hst
  have hsl : SlM M (w2.setCell ⟨g, i, none⟩ (.string (st x))) (some ⟨g, 0, none⟩) (sv (s.sure.set i x)) := SlM.own hst rfl HM.out
  have hfin : IsRf M ((w2.setCell ⟨g, i, none⟩ (.string (st x))).setCell ⟨q, 0, none⟩ (.slice (some ⟨g, 0, none⟩) s.sure.length cap)) q ⟨s.sure.set i x, s.waits, s.down, s.cut, s.age⟩ (some ⟨g, 0, none⟩) cap A2 c2 :=
    ⟨by simpa using hrow, hsl.kept hkM, ((H.out.ext hx3).sl2).kept hkM, by simpa using hgc, H.out.cap2, hgm, H.out.max2⟩
  have HF := Lib.hid hfin
  have HK := Lib.hid hkq
  clear hfin hkq hrow hkM hsv hsl hst ho2 ho0 hs0 hg2 hk3
  go_wp2
  exact bodyPost_end (results_none rfl _ _ _) rfl ⟨rfl, HK.out, _, _, _, _, HF.out⟩
theorem RWrite_no (w : World) (h : IsRf M w q s A1 c1 A2 c2) (i : Int) (A : Option Addr) (c : Nat) (l : List UInt8) (hn : wrongE s i true ≠ 0 ∨ 64 < l.length) : Calls Try.prog 62 #[pt q, .int .i64 i, .slice A l.length c] w fun e w' => e = .returned (.int .i64 (writeE s i l)) ∧ Ext w w' := by
  have x0 := h.cells.1 w (Ext.refl w)
  have x2 := h.cells.2.2.1 w (Ext.refl w)
  clear h
  obtain ⟨sure, waits, down, cut, age⟩ := s
  simp only at x0 x2
  unfold pt
  cases down
  · by_cases hi0 : i < 0
    · have hE : Hid (writeE ⟨sure, waits, false, cut, age⟩ i l = 2) := Lib.hid (by
        have hw : wrongE ⟨sure, waits, false, cut, age⟩ i true = 2 := by unfold wrongE; rw [if_neg (by simp), if_neg (by omega)]
        unfold writeE; rw [hw, if_pos (by simp)])
      rw [hE.out]
      clear hn hE
      go_enter Try.func62, Try.ntmps62
      go_wp2
      go_ret
      exact ⟨rfl, Ext.refl _⟩
    · by_cases hi1 : i < (sure.length : Int)
      · have hw : wrongE ⟨sure, waits, false, cut, age⟩ i true = 0 := by unfold wrongE; rw [if_neg (by simp), if_pos (by simp only; omega)]
        have hl : 64 < l.length := by
          rcases hn with h | h
          · exact absurd hw h
          · exact h
        have hl' : (64 : Int) < (l.length : Int) := by omega
        have hE : writeE ⟨sure, waits, false, cut, age⟩ i l = 6 := by unfold writeE; rw [hw, if_neg (by simp), if_pos hl]
        rw [hE]
        clear hn hE hl hw
        go_enter Try.func62, Try.ntmps62
        go_wp2
        go_ret
        exact ⟨rfl, Ext.refl _⟩
      · have hE : Hid (writeE ⟨sure, waits, false, cut, age⟩ i l = 2) := Lib.hid (by
          have hw : wrongE ⟨sure, waits, false, cut, age⟩ i true = 2 := by unfold wrongE; rw [if_neg (by simp), if_neg (by simp only; omega)]
          unfold writeE; rw [hw, if_pos (by simp)])
        rw [hE.out]
        clear hn hE
        go_enter Try.func62, Try.ntmps62
        go_wp2
        go_ret
        exact ⟨rfl, Ext.refl _⟩
  · have hE : Hid (writeE ⟨sure, waits, true, cut, age⟩ i l = 7) := Lib.hid (by
      have hw : wrongE ⟨sure, waits, true, cut, age⟩ i true = 7 := by unfold wrongE; rw [if_pos ⟨rfl, rfl⟩]
      unfold writeE; rw [hw, if_pos (by simp)])
    rw [hE.out]
    clear hn hE
    go_enter Try.func62, Try.ntmps62
    go_wp2
    go_ret
    exact ⟨rfl, Ext.refl _⟩
set_option maxHeartbeats 4000000 in
theorem RWrite_ok (w : World) (h : IsRf M w q s A1 c1 A2 c2) (hq : q ∈ M) (hM : ∀ k ∈ M, k < w.heap.size) (hcut : s.cut ≤ 9223372036854775807) (hm : s.waits.length ≤ 1000000) (i : Nat) (A : Option Addr) (c : Nat) (l : List UInt8) (hw : wrongE s i true = 0) (hl : l.length ≤ 64) (hb : BsM M w A l) :
    Calls Try.prog 62 #[pt q, .int .i64 i, .slice A l.length c] w fun e w' => e = .returned (.int .i64 (writeE s i l)) ∧ Kept [q] w w' ∧ Rf M w' q (writeS s i l) := by
  obtain ⟨hd, hi0, hi1⟩ := wrong_in hw
  have hd := hd rfl
  obtain ⟨e1, e2⟩ := write_eq hw hl
  have x0 := h.cells.1 w (Ext.refl w)
  have x2 := h.cells.2.2.1 w (Ext.refl w)
  rw [hd] at x2
  have HD := done_any w h hq hd hcut
  have hll : ¬ (64 : Int) < (l.length : Int) := by omega
  have hs1 := spent_waits s
  have hs2 := spent_sure s
  have hs3 := spent_age s
  rw [e1, e2]
  by_cases hsp : (spent s).down = true
  · rw [if_pos hsp, if_pos hsp]
    rw [hsp] at HD
    clear h hd e1 e2 hw hsp hs1 hs2 hs3
    unfold pt at *
    go_enter Try.func62, Try.ntmps62
    go_wp2_with fail
    refine HD.mono ?_
    rintro e w1 ⟨rfl, hk, h1⟩
    have H1 := Lib.hid h1
    clear h1
    go_wp2
    go_ret
    exact ⟨rfl, hk, _, _, _, _, H1.out⟩
  · have hsp : (spent s).down = false := by simpa using hsp
    rw [hsp]
    rw [if_neg (by simp), if_neg (by simp)]
    rw [hsp] at HD
    have hwr : wrote s (i : Int).toNat l = ⟨(spent s).sure, (spent s).waits ++ [(i, padL l)], false, (spent s).cut, (spent s).age⟩ := by unfold wrote; rw [hsp, Int.toNat_natCast]
    have hlz : (l.length : Int) ≤ (zpage.length : Int) := by rw [zpage_len]; omega
    have hex : (st zpage).extract l.length zpage.length = st (zpage.drop l.length) := by rw [ex_st, tl_st, List.take_length]
    have hzd : (zpage.drop l.length).length ≤ 64 := by rw [List.length_drop, zpage_len]; omega
    rw [show padL l = l ++ zpage.drop l.length from rfl] at hwr
    rw [hwr]
    have hemp := empty_any
    have hsd : spent s = ⟨(spent s).sure, (spent s).waits, false, (spent s).cut, (spent s).age⟩ := by rw [← hsp]
    have HSD := Lib.hid hsd
    have HB := Lib.hid hb
    have HM := Lib.hid hM
    have HML : (spent s).waits.length ≤ 1000000 := by rw [hs1]; exact hm
    clear h hd e1 e2 hw hsp hs1 hs2 hs3 hwr hsd hb hM
    generalize zpage.drop l.length = zd at *
    generalize zpage = z at *
    generalize (spent s).sure = sure1 at *
    generalize (spent s).waits = ws at *
    generalize (spent s).cut = cut1 at *
    generalize (spent s).age = age1 at *
    unfold pt at *
    go_enter Try.func62, Try.ntmps62
    go_wp2_with fail
    refine HD.mono ?_
    rintro e w2 ⟨rfl, hk2, h2⟩
    rw [HSD.out] at h2
    have hgr : w.heap.size ≤ w2.heap.size := hk2.size
    have hqlt := h2.lt
    have X1 := h2.cells.2.1
    have XF := h2.cells.2.2.2.2.2
    have HSL2 := Lib.hid (fun w' (hx : Ext w2 w') => h2.sl2.sl.ext hx)
    have H2 := Lib.hid h2
    have HK2 := Lib.hid hk2
    have hb2 : Bs w2 A l := BsM.bs (BsM.kept HB.out (hk2.mono (by intro k hk; simp at hk; subst hk; exact hq)))
    have hcv := run_str (P := Try.prog) Try.underlying46 Try.underlying5 Try.underlying9 hb2 l.length c rfl
    clear hk2 HB h2 x0 x2
    have hcc : ¬ 9223372036854775807 < l.length + zd.length := by omega
    have hb1 : (0 + ws.length) * 24 ≤ 140737488355328 := by omega
    have hb2' : 0 + ws.length ≤ 140737488355328 := by omega
    have hb3 : (ws.length + 1) * 24 ≤ 140737488355328 := by omega
    have hb4 : ws.length + 1 ≤ 140737488355328 := by omega
    have HLL := Lib.hid (lws_len ws)
    have HL1 := Lib.hid (lws_one ws)
    go_wp2_with fail
    have hxn : Ext w2 w2.drew := (Ext.refl w2).drew
    refine wp_region_phase (S := fun w' => Ext w2 w') 18 (by kernel_rfl) (by kernel_rfl) ?_ (fun hHeld => ?_)
    · exact hxn
    simp only [List.drop_succ_cons, List.drop_zero]
    refine name_head ?_
    intro wr0 hw0
    rw [hw0] at hHeld
    refine wpHead_take (i := 0) (v := ?_) (by rfl) (by kernel_rfl) (by kernel_rfl) (by exact fun _ _ _ h => h) (Or.inl ⟨by rfl, ?_⟩) (by assumption) ?_
    rotate_left
    · intro w hSw
      first | (go_simp; done) | (go_simp; with_reducible rfl)
    simp only [List.getElem_toArray, List.getElem_cons_zero, Act.put, List.setIfInBounds_toArray, List.set_cons_zero, List.set_cons_succ]
    refine wpHead_take (i := 2) (v := ?_) (by rfl) (by kernel_rfl) (by kernel_rfl) (by exact fun _ _ _ h => h) (Or.inl ⟨by rfl, ?_⟩) (by assumption) ?_
    rotate_left
    · intro w hSw
      first | (go_simp; done) | (go_simp; with_reducible rfl)
    simp only [List.getElem_toArray, List.getElem_cons_succ, List.getElem_cons_zero, Act.put, List.setIfInBounds_toArray, List.set_cons_zero, List.set_cons_succ]
    refine wpHead_take (i := 3) (v := ?_) (by rfl) (by kernel_rfl) (by kernel_rfl) (by exact fun _ _ _ h => h) (Or.inl ⟨by rfl, ?_⟩) (by assumption) ?_
    rotate_left
    · intro w hSw
      first | (go_simp; done) | (go_simp; with_reducible rfl)
    simp only [List.getElem_toArray, List.getElem_cons_succ, List.getElem_cons_zero, Act.put, List.setIfInBounds_toArray, List.set_cons_zero, List.set_cons_succ]
    refine wpHead_take (i := 4) (v := ?_) (by rfl) (by kernel_rfl) (by kernel_rfl) (by exact fun _ _ _ h => h) (Or.inl ⟨by rfl, ?_⟩) (by assumption) ?_
    rotate_left
    · intro w hSw
      first | (go_simp; done) | (go_simp; with_reducible rfl)
    simp only [List.getElem_toArray, List.getElem_cons_succ, List.getElem_cons_zero, Act.put, List.setIfInBounds_toArray, List.set_cons_zero, List.set_cons_succ]
    refine wpHead_take (i := 5) (v := ?_) (by rfl) (by kernel_rfl) (by kernel_rfl) (by exact fun _ _ _ h => h) (Or.inl ⟨by rfl, ?_⟩) (by assumption) ?_
    rotate_left
    · intro w hSw
      first | (go_simp; done) | (go_simp; with_reducible rfl)
    simp only [List.getElem_toArray, List.getElem_cons_succ, List.getElem_cons_zero, Act.put, List.setIfInBounds_toArray, List.set_cons_zero, List.set_cons_succ]
    refine wpHead_take (i := 7) (v := ?_) (by rfl) (by kernel_rfl) (by kernel_rfl) (by exact fun _ _ _ h => h) (Or.inl ⟨by rfl, ?_⟩) (by assumption) ?_
    rotate_left
    · intro w hSw
      first | (go_simp; done) | (go_simp; with_reducible rfl)
    simp only [List.getElem_toArray, List.getElem_cons_succ, List.getElem_cons_zero, Act.put, List.setIfInBounds_toArray, List.set_cons_zero, List.set_cons_succ]
    refine wpHead_take (i := 8) (v := ?_) (by rfl) (by kernel_rfl) (by kernel_rfl) (by exact fun _ _ _ h => h) (Or.inl ⟨by rfl, ?_⟩) (by assumption) ?_
    rotate_left
    · intro w hSw
      first | (go_simp; done) | (go_simp; with_reducible rfl)
    simp only [List.getElem_toArray, List.getElem_cons_succ, List.getElem_cons_zero, Act.put, List.setIfInBounds_toArray, List.set_cons_zero, List.set_cons_succ]
    refine wpHead_take (i := 9) (v := ?_) (by rfl) (by kernel_rfl) (by kernel_rfl) (by exact fun _ _ _ h => h) (Or.inl ⟨by rfl, ?_⟩) (by assumption) ?_
    rotate_left
    · intro w hSw
      first | (go_simp; done) | (go_simp; with_reducible rfl)
    simp only [List.getElem_toArray, List.getElem_cons_succ, List.getElem_cons_zero, Act.put, List.setIfInBounds_toArray, List.set_cons_zero, List.set_cons_succ]
    refine wpHead_take (i := 11) (v := ?_) (by rfl) (by kernel_rfl) (by kernel_rfl) (by exact fun _ _ _ h => h) (Or.inl ⟨by rfl, ?_⟩) (by assumption) ?_
    rotate_left
    · intro w hSw
      first | (go_simp; done) | (go_simp; with_reducible rfl)
    simp only [List.getElem_toArray, List.getElem_cons_succ, List.getElem_cons_zero, Act.put, List.setIfInBounds_toArray, List.set_cons_zero, List.set_cons_succ]
    refine wpHead_take (i := 12) (v := ?_) (by rfl) (by kernel_rfl) (by kernel_rfl) (by exact fun _ _ _ h => h) (Or.inl ⟨by rfl, ?_⟩) (by assumption) ?_
    rotate_left
    · intro w hSw
      first | (go_simp; done) | (go_simp; with_reducible rfl)
    simp only [List.getElem_toArray, List.getElem_cons_succ, List.getElem_cons_zero, Act.put, List.setIfInBounds_toArray, List.set_cons_zero, List.set_cons_succ]
    refine wpHead_ready (rs := [1]) (by kernel_rfl) (by simp) (by kernel_rfl) ?_
    refine AllHead.cons (by rfl) (fun K hK => ?_) ?_
    · go_simp
      refine name_world ?_
      rintro wr1 hw1
      have hxn1 : Ext wr0 wr1 := hw1 ▸ (Ext.refl _).alloc _
      have hrow1 : wr1.heap[wr0.heap.size]? = some (.cells #[] 119) := hw1 ▸ heap_alloc_new wr0 _
      have ho1 : wr1.ownsRow w2.heap.size 119 2 (.slice (some ⟨wr0.heap.size, 0, none⟩) 0 0) 0 [] := by rw [← hw1]; exact World.ownsRow_made wr0 #[] 0 (Ext.size hHeld) (by simp [maxLen]) rfl
      have hz1 : wr0.heap.size < wr1.heap.size := by rw [← hw1]; simp
      try replace hs16 := hs16.ext hxn1
      refine hK.out _ _ ?_ (fun hHeld => ?_)
      · first | assumption | exact Ext.trans (by assumption) (by assumption)
      clear hK K
      try simp only [List.getElem_toArray, List.getElem_cons_succ, List.getElem_cons_zero, Act.put, List.setIfInBounds_toArray, List.set_cons_zero, List.set_cons_succ]
      refine wpHead_ready (rs := [6]) (by kernel_rfl) (by simp) (by kernel_rfl) ?_
      refine AllHead.cons (by rfl) (fun K hK => ?_) ?_
      · refine step_ap rwT ho1 (HSL2.out _ hHeld) (by rfl) (by rfl) (by rfl) (by rfl) (by rw [HLL.out]) HL1.out hb1 hb2' (Ext.size hHeld) ?_
        rintro v6 wr6 ho6 hg6 hor6
        have hx6 : Ext w2 wr6 := Ext.own hHeld ho1 (Nat.le_refl _) hg6
        simp only [Nat.zero_add, List.nil_append] at ho6
        try replace hs16 := hs16.grown hg6 (by intro ad e0; cases e0; simp [Value.ownBlock]; omega)
        refine hK.out _ _ ?_ (fun hHeld => ?_)
        · first | assumption | exact Ext.trans (by assumption) (by assumption)
        clear hK K
        try simp only [List.getElem_toArray, List.getElem_cons_succ, List.getElem_cons_zero, Act.put, List.setIfInBounds_toArray, List.set_cons_zero, List.set_cons_succ]
        refine wpHead_ready (rs := [10]) (by kernel_rfl) (by simp) (by kernel_rfl) ?_
        refine AllHead.cons (by rfl) (fun K hK => ?_) ?_
        · refine step_call (by rfl) (by kernel_rfl) (hemp _) ?_
          rintro e wr10 ⟨rfl, hx10⟩
          refine ⟨_, rfl, ?_⟩
          try replace ho1 := owns_ext ho1 hx10
          try replace ho6 := owns_ext ho6 hx10
          refine hK.out _ _ ?_ (fun hHeld => ?_)
          · first | assumption | exact Ext.trans (by assumption) (by assumption)
          clear hK K
          try simp only [List.getElem_toArray, List.getElem_cons_succ, List.getElem_cons_zero, Act.put, List.setIfInBounds_toArray, List.set_cons_zero, List.set_cons_succ]
          refine wpHead_take (i := 13) (v := ?_) (by rfl) (by kernel_rfl) (by kernel_rfl) (by exact fun _ _ _ h => h) (Or.inl ⟨by rfl, ?_⟩) (by assumption) ?_
          rotate_left
          · intro w hSw
            first | (go_simp; done) | (go_simp; with_reducible rfl)
          simp only [List.getElem_toArray, List.getElem_cons_succ, List.getElem_cons_zero, Act.put, List.setIfInBounds_toArray, List.set_cons_zero, List.set_cons_succ]
          refine wpHead_take (i := 14) (v := ?_) (by rfl) (by kernel_rfl) (by kernel_rfl) (by exact fun _ _ _ h => h) (Or.inl ⟨by rfl, ?_⟩) (by assumption) ?_
          rotate_left
          · intro w hSw
            first | (go_simp; done) | (go_simp; with_reducible rfl)
          simp only [List.getElem_toArray, List.getElem_cons_succ, List.getElem_cons_zero, Act.put, List.setIfInBounds_toArray, List.set_cons_zero, List.set_cons_succ]
          refine wpHead_take (i := 15) (v := ?_) (by rfl) (by kernel_rfl) (by kernel_rfl) (by exact fun _ _ _ h => h) (Or.inl ⟨by rfl, ?_⟩) (by assumption) ?_
          rotate_left
          · intro w hSw
            first | (go_simp; done) | (go_simp; with_reducible rfl)
          simp only [List.getElem_toArray, List.getElem_cons_succ, List.getElem_cons_zero, Act.put, List.setIfInBounds_toArray, List.set_cons_zero, List.set_cons_succ]
          refine wpHead_ready (rs := [16]) (by kernel_rfl) (by simp) (by kernel_rfl) ?_
          refine AllHead.cons (by rfl) (fun K hK => ?_) ?_
          · go_simp
            refine name_world ?_
            rintro wr16 hw16
            have hxn16 : Ext wr10 wr16 := hw16 ▸ (Ext.refl _).alloc _
            have hrow16 : wr16.heap[wr10.heap.size]? = some (.cells #[.int .i64 i, .string (st (l ++ zd))] 119) := hw16 ▸ heap_alloc_new wr10 _
            have hs16 : Sl wr16 (some ⟨wr10.heap.size, 0, none⟩) [.int .i64 i, .string (st (l ++ zd))] := Sl.of_row hrow16
            have hz16 : wr10.heap.size < wr16.heap.size := by rw [← hw16]; simp
            try replace ho1 := owns_ext ho1 hxn16
            try replace ho6 := owns_ext ho6 hxn16
            refine hK.out _ _ ?_ (fun hHeld => ?_)
            · first | assumption | exact Ext.trans (by assumption) (by assumption)
            clear hK K
            try simp only [List.getElem_toArray, List.getElem_cons_succ, List.getElem_cons_zero, Act.put, List.setIfInBounds_toArray, List.set_cons_zero, List.set_cons_succ]
            refine wpHead_ready (rs := [17]) (by kernel_rfl) (by simp) (by kernel_rfl) ?_
            refine AllHead.cons (by rfl) (fun K hK => ?_) ?_
            · refine step_ap rwT ho6 hs16 (by rfl) (by rfl) (by rfl) (by rfl) (by rfl) (by simp [Value.oneCell']) hb3 hb4 (Ext.size hHeld) ?_
              rintro v17 wr17 ho17 hg17 hor17
              have hx17 : Ext w2 wr17 := Ext.own hHeld ho6 (Nat.le_refl _) hg17
              refine hK.out _ _ ?_ (fun hHeld => ?_)
              · first | assumption | exact Ext.trans (by assumption) (by assumption)
              clear hK K
              try simp only [List.getElem_toArray, List.getElem_cons_succ, List.getElem_cons_zero, Act.put, List.setIfInBounds_toArray, List.set_cons_zero, List.set_cons_succ]
              refine wpHead_done (by kernel_rfl) ?_
              clear ho1 ho6 hs16 hHeld
              obtain ⟨A9, cap9, rfl, hg9, hgl9, hgc9, hgm9⟩ := own_some ho17 (by omega)
              have hsl9 := SlM.own (M := M) ho17 rfl (fun k hk => by have := HM.out k hk; omega)
              have e9 : lws ws ++ [.int .i64 i, .string (st (l ++ zd))] = lws (ws ++ [(i, l ++ zd)]) := by simp [lws, lw]
              rw [e9] at hsl9
              have hkq := (Kept.refl [q] wr17).setCell (p := ⟨q, 1, none⟩) (.inl (by simp)) (.slice (some ⟨A9, 0, none⟩) (ws.length + 1) cap9)
              have hrow := heap_setCell_same _ q 1 _ _ (.slice (some ⟨A9, 0, none⟩) (ws.length + 1) cap9) (hx17.obj H2.out.row)
              have hqm : ∀ k ∈ [q], k ∈ M := by intro k hk; simp at hk; subst hk; exact hq
              have hfin : IsRf M (wr17.setCell ⟨q, 1, none⟩ (.slice (some ⟨A9, 0, none⟩) (ws.length + 1) cap9)) q ⟨sure1, ws ++ [(i, l ++ zd)], false, cut1, age1⟩ A1 c1 (some ⟨A9, 0, none⟩) cap9 :=
                ⟨by simpa using hrow, ((H2.out.ext hx17).sl1).kept (hkq.mono hqm), hsl9.kept (hkq.mono hqm), H2.out.cap1, by simpa using hgc9, H2.out.max1, hgm9⟩
              have HF := Lib.hid hfin
              have HK := Lib.hid ((HK2.out.ext hx17).trans hkq)
              have y1 := X1 _ hx17
              have yf := fun j => XF _ j hx17
              clear ho17 hsl9 hkq hrow hfin e9 hg17 hor17
              go_wp2
              go_ret
              exact ⟨rfl, HK.out, _, _, _, _, HF.out⟩
            exact AllHead.nil
          exact AllHead.nil
        exact AllHead.nil
      exact AllHead.nil
    exact AllHead.nil
end
end Go.Proofs.Ytklodimokhndoaa
namespace Go.Proofs.Ytklodimokhndoaa
open Go.RowKit
section
variable {M : List Nat} {q : Nat} {s : Dk} {A1 A2 : Option Addr} {c1 c2 : Nat}
theorem RSet_all (w : World) (h : Rf M w q s) (hq : q ∈ M) (hM : ∀ k ∈ M, k < w.heap.size) (i : Nat) (hi : i < s.sure.length) (hn : s.sure.length ≤ 512) (x : List UInt8) :
    Calls Try.prog 64 #[pt q, .int .i64 i, .string (st x)] w fun e w' => e = .returned (.tuple #[]) ∧ Kept [q] w w' ∧ Rf M w' q ⟨s.sure.set i x, s.waits, s.down, s.cut, s.age⟩ := by
  obtain ⟨A1, c1, A2, c2, h⟩ := h
  exact RSet_any w h hq hM i hi hn x
theorem IsRf.cleared {w : World} (h : IsRf M w q s A1 c1 A2 c2) (hq : q ∈ M) : IsRf M (w.setCell ⟨q, 1, none⟩ (.slice none 0 0)) q ⟨s.sure, [], s.down, s.cut, s.age⟩ A1 c1 none 0 ∧ Kept [q] w (w.setCell ⟨q, 1, none⟩ (.slice none 0 0)) := by
  have hk : Kept [q] w (w.setCell ⟨q, 1, none⟩ (.slice none 0 0)) := (Kept.refl _ _).setCell (.inl (by simp)) _
  have hm : ∀ k ∈ [q], k ∈ M := by intro k hk; simp at hk; subst hk; exact hq
  exact ⟨⟨by simpa using heap_setCell_same w q 1 _ _ (.slice none 0 0) h.row, h.sl1.kept (hk.mono hm), SlM.nil _ _ _, h.cap1, by simp, h.max1, by omega⟩, hk⟩
set_option maxHeartbeats 2000000 in
theorem RFlush_any (w : World) (h : IsRf M w q s A1 c1 A2 c2) (hq : q ∈ M) (hM : ∀ k ∈ M, k < w.heap.size) (hs : s.Ok) (hcut : s.cut ≤ 9223372036854775807) (hm : s.waits.length ≤ 1000000) :
    Calls Try.prog 39 #[pt q] w fun e w' => e = .returned (.int .i64 (flushE s)) ∧ Kept [q] w w' ∧ Rf M w' q (flushS s) := by
  have x2 := h.cells.2.2.1 w (Ext.refl w)
  by_cases hd : s.down = true
  · have e1 : flushE s = 7 := by unfold flushE; rw [if_pos hd]
    have e2 : flushS s = s := by unfold flushS; rw [if_pos hd]
    rw [e1, e2]
    rw [hd] at x2
    have H := Lib.hid h
    clear h hs hd e1 e2
    unfold pt
    go_enter Try.func39, Try.ntmps39
    go_wp2
    go_ret
    exact ⟨rfl, Kept.refl _ _, _, _, _, _, H.out⟩
  · have hd : s.down = false := by simpa using hd
    rw [hd] at x2
    obtain ⟨e1, e2⟩ := flush_eq hd
    have HD := done_any w h hq hd hcut
    have hs1 := spent_waits s
    have hs2 := spent_sure s
    have hs3 := spent_age s
    rw [e1, e2]
    by_cases hsp : (spent s).down = true
    · rw [if_pos hsp, if_pos hsp]
      rw [hsp] at HD
      clear h hd e1 e2 hsp hs1 hs2 hs3 hs
      unfold pt at *
      go_enter Try.func39, Try.ntmps39
      go_wp2_with fail
      refine HD.mono ?_
      rintro e w1 ⟨rfl, hk, h1⟩
      have H1 := Lib.hid h1
      clear h1
      go_wp2
      go_ret
      exact ⟨rfl, hk, _, _, _, _, H1.out⟩
    · have hsp : (spent s).down = false := by simpa using hsp
      rw [hsp]
      rw [if_neg (by simp), if_neg (by simp)]
      rw [hsp] at HD
      have hfl : flushed s = ⟨laid s.sure (s.waits.take s.waits.length), [], false, (spent s).cut, s.age⟩ := by unfold flushed; rw [hsp, List.take_length]
      rw [hfl]
      have hsd : spent s = ⟨s.sure, s.waits, false, (spent s).cut, s.age⟩ := by
        have : spent s = ⟨(spent s).sure, (spent s).waits, (spent s).down, (spent s).cut, (spent s).age⟩ := rfl
        rw [this, hsp, hs1, hs2, hs3]
      have HSD := Lib.hid hsd
      have HOK := Lib.hid hs
      have HM := Lib.hid hM
      clear h hd e1 e2 hsp hs1 hs2 hs3 hsd hM hs hfl
      generalize (spent s).cut = cut1 at *
      obtain ⟨sure, ws, down, cut0, age⟩ := s
      simp only at *
      have hqm : ∀ k ∈ [q], k ∈ M := by intro k hk; simp at hk; subst hk; exact hq
      unfold pt at *
      go_enter Try.func39, Try.ntmps39
      go_wp2_with fail
      refine HD.mono ?_
      rintro e w2 ⟨rfl, hk2, h2⟩
      rw [HSD.out] at h2
      have HK2 := Lib.hid hk2
      have H2 := Lib.hid h2
      clear hk2 h2 x2
      go_wp2
      go_loopw [3] (fun k wr => ∃ j : Nat, k = .int .i64 j ∧ j ≤ ws.length ∧ Kept [q] w wr ∧ Rf M wr q ⟨laid sure (ws.take j), ws, false, cut1, age⟩) (fun k _ => ws.length - (intOf k).toNat)
      case atStart => exact ⟨0, rfl, by omega, HK2.out, _, _, _, _, H2.out⟩
      case round =>
        obtain ⟨j, rfl, hj, hkr, B1, d1, B2, d2, hr⟩ := hrel
        have x1 := hr.cells.2.1
        have HKR := Lib.hid hkr
        have HR := Lib.hid hr
        have hMr : ∀ k ∈ M, k < wr.heap.size := fun k hk => Nat.lt_of_lt_of_le (HM.out k hk) hkr.size
        have HMR := Lib.hid hMr
        clear hkr hr hMr
        by_cases hlt : j < ws.length
        · have hjn : (j : Int) < (ws.length : Int) := by omega
          obtain ⟨ad2, rfl, _, y1, y2⟩ := HR.out.wait_at (k := j) hlt
          have hxl := HOK.out.wait _ (List.getElem_mem hlt)
          have hstep : laid sure (ws.take (j + 1)) = (laid sure (ws.take j)).set (ws[j]).1 (ws[j]).2 := by
            rw [List.take_add_one, List.getElem?_eq_getElem hlt, Option.toList_some, laid_snoc]
          have HST := Lib.hid hstep
          have hll : (laid sure (ws.take j)).length = sure.length := laid_len _ _
          have HLL := Lib.hid hll
          have hn512 : (laid sure (ws.take j)).length ≤ 512 := by rw [hll]; exact HOK.out.n2
          clear hstep hll
          simp only at y1 y2 hxl
          generalize ws[j] = xx at *
          obtain ⟨xi, xp⟩ := xx
          simp only at HST y1 y2 hxl
          have hxi : xi < (laid sure (ws.take j)).length := by rw [HLL.out]; exact hxl.2
          generalize laid sure (ws.take j) = sj at *
          have HSET := fun W (hx : Ext wr W) => RSet_all W ⟨_, _, _, _, HR.out.ext hx⟩ hq (fun k hk => Nat.lt_of_lt_of_le (HMR.out k hk) hx.size) xi hxi hn512 xp
          clear hxl hn512 hxi
          unfold pt at HSET
          go_wp2_with fail
          have hxn : Ext wr wr.drew := (Ext.refl wr).drew
          refine wp_region_phase (S := fun w' => Ext wr w') 17 (by kernel_rfl) (by kernel_rfl) ?_ (fun hHeld => ?_)
          · exact hxn
          simp only [List.drop_succ_cons, List.drop_zero]
          refine name_head ?_
          intro wr0 hw0
          rw [hw0] at hHeld
          refine wpHead_take (i := 0) (v := ?_) (by rfl) (by kernel_rfl) (by kernel_rfl) (by exact fun _ _ _ h => h) (Or.inl ⟨by rfl, ?_⟩) (by assumption) ?_
          rotate_left
          · intro w hSw
            first | (go_simp; done) | (go_simp; with_reducible rfl)
          simp only [List.getElem_toArray, List.getElem_cons_zero, Act.put, List.setIfInBounds_toArray, List.set_cons_zero, List.set_cons_succ]
          refine wpHead_take (i := 1) (v := ?_) (by rfl) (by kernel_rfl) (by kernel_rfl) (by exact fun _ _ _ h => h) (Or.inl ⟨by rfl, ?_⟩) (by assumption) ?_
          rotate_left
          · intro w hSw
            first | (go_simp; done) | (go_simp; with_reducible rfl)
          simp only [List.getElem_toArray, List.getElem_cons_succ, List.getElem_cons_zero, Act.put, List.setIfInBounds_toArray, List.set_cons_zero, List.set_cons_succ]
          refine wpHead_take (i := 2) (v := ?_) (by rfl) (by kernel_rfl) (by kernel_rfl) (by exact fun _ _ _ h => h) (Or.inl ⟨by rfl, ?_⟩) (by assumption) ?_
          rotate_left
          · intro w hSw
            first | (go_simp; done) | (go_simp; with_reducible rfl)
          simp only [List.getElem_toArray, List.getElem_cons_succ, List.getElem_cons_zero, Act.put, List.setIfInBounds_toArray, List.set_cons_zero, List.set_cons_succ]
          refine wpHead_take (i := 3) (v := ?_) (by rfl) (by kernel_rfl) (by kernel_rfl) (by exact fun _ _ _ h => h) (Or.inl ⟨by rfl, ?_⟩) (by assumption) ?_
          rotate_left
          · intro w hSw
            first | (go_simp; done) | (go_simp; with_reducible rfl)
          simp only [List.getElem_toArray, List.getElem_cons_succ, List.getElem_cons_zero, Act.put, List.setIfInBounds_toArray, List.set_cons_zero, List.set_cons_succ]
          refine wpHead_take (i := 4) (v := ?_) (by rfl) (by kernel_rfl) (by kernel_rfl) (by exact fun _ _ _ h => h) (Or.inl ⟨by rfl, ?_⟩) (by assumption) ?_
          rotate_left
          · intro w hSw
            first | (go_simp; done) | (go_simp; with_reducible rfl)
          simp only [List.getElem_toArray, List.getElem_cons_succ, List.getElem_cons_zero, Act.put, List.setIfInBounds_toArray, List.set_cons_zero, List.set_cons_succ]
          refine wpHead_take (i := 5) (v := ?_) (by rfl) (by kernel_rfl) (by kernel_rfl) (by exact fun _ _ _ h => h) (Or.inl ⟨by rfl, ?_⟩) (by assumption) ?_
          rotate_left
          · intro w hSw
            first | (go_simp; done) | (go_simp; with_reducible rfl)
          simp only [List.getElem_toArray, List.getElem_cons_succ, List.getElem_cons_zero, Act.put, List.setIfInBounds_toArray, List.set_cons_zero, List.set_cons_succ]
          refine wpHead_take (i := 6) (v := ?_) (by rfl) (by kernel_rfl) (by kernel_rfl) (by exact fun _ _ _ h => h) (Or.inl ⟨by rfl, ?_⟩) (by assumption) ?_
          rotate_left
          · intro w hSw
            first | (go_simp; done) | (go_simp; with_reducible rfl)
          simp only [List.getElem_toArray, List.getElem_cons_succ, List.getElem_cons_zero, Act.put, List.setIfInBounds_toArray, List.set_cons_zero, List.set_cons_succ]
          refine wpHead_take (i := 7) (v := ?_) (by rfl) (by kernel_rfl) (by kernel_rfl) (by exact fun _ _ _ h => h) (Or.inl ⟨by rfl, ?_⟩) (by assumption) ?_
          rotate_left
          · intro w hSw
            first | (go_simp; done) | (go_simp; with_reducible rfl)
          simp only [List.getElem_toArray, List.getElem_cons_succ, List.getElem_cons_zero, Act.put, List.setIfInBounds_toArray, List.set_cons_zero, List.set_cons_succ]
          refine wpHead_take (i := 8) (v := ?_) (by rfl) (by kernel_rfl) (by kernel_rfl) (by exact fun _ _ _ h => h) (Or.inl ⟨by rfl, ?_⟩) (by assumption) ?_
          rotate_left
          · intro w hSw
            first | (go_simp; done) | (go_simp; with_reducible rfl)
          simp only [List.getElem_toArray, List.getElem_cons_succ, List.getElem_cons_zero, Act.put, List.setIfInBounds_toArray, List.set_cons_zero, List.set_cons_succ]
          refine wpHead_take (i := 9) (v := ?_) (by rfl) (by kernel_rfl) (by kernel_rfl) (by exact fun _ _ _ h => h) (Or.inl ⟨by rfl, ?_⟩) (by assumption) ?_
          rotate_left
          · intro w hSw
            first | (go_simp; done) | (go_simp; with_reducible rfl)
          simp only [List.getElem_toArray, List.getElem_cons_succ, List.getElem_cons_zero, Act.put, List.setIfInBounds_toArray, List.set_cons_zero, List.set_cons_succ]
          refine wpHead_take (i := 10) (v := ?_) (by rfl) (by kernel_rfl) (by kernel_rfl) (by exact fun _ _ _ h => h) (Or.inl ⟨by rfl, ?_⟩) (by assumption) ?_
          rotate_left
          · intro w hSw
            first | (go_simp; done) | (go_simp; with_reducible rfl)
          simp only [List.getElem_toArray, List.getElem_cons_succ, List.getElem_cons_zero, Act.put, List.setIfInBounds_toArray, List.set_cons_zero, List.set_cons_succ]
          refine wpHead_take (i := 11) (v := ?_) (by rfl) (by kernel_rfl) (by kernel_rfl) (by exact fun _ _ _ h => h) (Or.inl ⟨by rfl, ?_⟩) (by assumption) ?_
          rotate_left
          · intro w hSw
            first | (go_simp; done) | (go_simp; with_reducible rfl)
          simp only [List.getElem_toArray, List.getElem_cons_succ, List.getElem_cons_zero, Act.put, List.setIfInBounds_toArray, List.set_cons_zero, List.set_cons_succ]
          refine wpHead_take (i := 12) (v := ?_) (by rfl) (by kernel_rfl) (by kernel_rfl) (by exact fun _ _ _ h => h) (Or.inl ⟨by rfl, ?_⟩) (by assumption) ?_
          rotate_left
          · intro w hSw
            first | (go_simp; done) | (go_simp; with_reducible rfl)
          simp only [List.getElem_toArray, List.getElem_cons_succ, List.getElem_cons_zero, Act.put, List.setIfInBounds_toArray, List.set_cons_zero, List.set_cons_succ]
          refine wpHead_take (i := 13) (v := ?_) (by rfl) (by kernel_rfl) (by kernel_rfl) (by exact fun _ _ _ h => h) (Or.inl ⟨by rfl, ?_⟩) (by assumption) ?_
          rotate_left
          · intro w hSw
            first | (go_simp; done) | (go_simp; with_reducible rfl)
          simp only [List.getElem_toArray, List.getElem_cons_succ, List.getElem_cons_zero, Act.put, List.setIfInBounds_toArray, List.set_cons_zero, List.set_cons_succ]
          refine wpHead_take (i := 14) (v := ?_) (by rfl) (by kernel_rfl) (by kernel_rfl) (by exact fun _ _ _ h => h) (Or.inl ⟨by rfl, ?_⟩) (by assumption) ?_
          rotate_left
          · intro w hSw
            first | (go_simp; done) | (go_simp; with_reducible rfl)
          simp only [List.getElem_toArray, List.getElem_cons_succ, List.getElem_cons_zero, Act.put, List.setIfInBounds_toArray, List.set_cons_zero, List.set_cons_succ]
          refine wpHead_take (i := 15) (v := ?_) (by rfl) (by kernel_rfl) (by kernel_rfl) (by exact fun _ _ _ h => h) (Or.inl ⟨by rfl, ?_⟩) (by assumption) ?_
          rotate_left
          · intro w hSw
            first | (go_simp; done) | (go_simp; with_reducible rfl)
          simp only [List.getElem_toArray, List.getElem_cons_succ, List.getElem_cons_zero, Act.put, List.setIfInBounds_toArray, List.set_cons_zero, List.set_cons_succ]
          refine wpHead_take (i := 16) (v := ?_) (by rfl) (by kernel_rfl) (by kernel_rfl) (by exact fun _ _ _ h => h) (Or.inl ⟨by rfl, ?_⟩) (by assumption) ?_
          rotate_left
          · intro w hSw
            first | (go_simp; done) | (go_simp; with_reducible rfl)
          simp only [List.getElem_toArray, List.getElem_cons_succ, List.getElem_cons_zero, Act.put, List.setIfInBounds_toArray, List.set_cons_zero, List.set_cons_succ]
          refine wpHead_done (by kernel_rfl) ?_
          go_wp2_with fail
          refine (HSET _ hHeld).mono ?_
          rintro e w5 ⟨rfl, hk5, hr5⟩
          have HR5 := Lib.hid hr5
          have HK5 := Lib.hid ((HKR.out.ext hHeld).trans hk5)
          clear hk5 hr5 HSET
          go_wp2
          go_roundw
          case rel => exact ⟨j + 1, by go_num, by omega, HK5.out, by rw [HST.out]; exact HR5.out⟩
          case measure => simp [intOf]; omega
        · have hjn : ¬ (j : Int) < (ws.length : Int) := by omega
          have hjj : j = ws.length := by omega
          rw [hjj] at HR
          have hcl := HR.out.cleared hq
          have HC := Lib.hid hcl
          have x1 := x1 wr (Ext.refl _)
          have xf := fun j => HR.out.cells.2.2.2.2.2 wr j (Ext.refl _)
          clear hjj hcl
          go_wp2
          go_ret
          exact ⟨rfl, HKR.out.trans HC.out.2, _, _, _, _, by have := HC.out.1; rw [List.take_length] at this; exact this⟩
end
theorem RNew_no (n : Int) (w : World) (h : n < 1 ∨ 512 < n) : Calls Try.prog 9 #[.int .i64 n] w fun e w' => e = .returned (.tuple #[.pointer none, .int .i64 2]) ∧ w' = w := by
  rcases h with h | h
  · go_enter Try.func9, Try.ntmps9
    go_wp2
    refine bodyPost_ret (v := .tuple #[.pointer none, .int .i64 2]) (by simp [results, Try.results9, go_sem]) rfl ?_
    exact ⟨rfl, rfl⟩
  · have h1 : ¬ n < 1 := by omega
    go_enter Try.func9, Try.ntmps9
    go_wp2
    refine bodyPost_ret (v := .tuple #[.pointer none, .int .i64 2]) (by simp [results, Try.results9, go_sem]) rfl ?_
    exact ⟨rfl, rfl⟩
set_option maxHeartbeats 2000000 in
theorem RNew_ok (n : Nat) (w : World) (h1 : 1 ≤ n) (h2 : n ≤ 512) : Calls Try.prog 9 #[.int .i64 n] w fun e w' => e = .returned (.tuple #[pt w.heap.size, .int .i64 0]) ∧ Ext w w' ∧ ∀ M, (∀ k ∈ M, k ≤ w.heap.size) → Rf M w' w.heap.size (newD n) := by
  have hi1 : ¬ (n : Int) < 1 := by omega
  have hi2 : ¬ (512 : Int) < (n : Int) := by omega
  have hemp := empty_any
  have hx0 := (Ext.refl w).alloc (.cells #[.slice none 0 0, .slice none 0 0, .bool false, .int .i64 0, .int .i64 0] 72)
  have hr0 := heap_alloc_new w (.cells #[.slice none 0 0, .slice none 0 0, .bool false, .int .i64 0, .int .i64 0] 72)
  have HX0 := Lib.hid hx0
  have HR0 := Lib.hid hr0
  clear hx0 hr0
  rw [show newD n = ⟨List.replicate n zpage, [], false, 0, 0⟩ from rfl]
  generalize zpage = z at *
  go_enter Try.func9, Try.ntmps9
  go_wp2
  go_loopw [5] (fun k wr => ∃ (j : Nat) (v : Value), k = .int .i64 j ∧ j ≤ n ∧ Ext w wr ∧ wr.ownsRow (w.heap.size + 1) 9 1 v j (sv (List.replicate j z)) ∧ wr.heap[w.heap.size]? = some (.cells #[v, .slice none 0 0, .bool false, .int .i64 0, .int .i64 0] 72 (0, 0))) (fun k _ => n - (intOf k).toNat)
  case atStart => exact ⟨0, .slice none 0 0, rfl, by omega, HX0.out, World.ownsRow_nil _ _ _ _, HR0.out⟩
  case round =>
    obtain ⟨j, v, rfl, hj, hx, ho, hr⟩ := hrel
    have hqlt := obj_lt hr
    have hpn : w.heap.size ∉ v.ownBlock.toList := by
      intro hm
      cases hv : v.ownBlock with
      | none => rw [hv] at hm; simp at hm
      | some j => rw [hv] at hm; simp at hm; have := (ho.lt _ hv).1; omega
    have HX := Lib.hid hx
    have HO := Lib.hid ho
    have HR := Lib.hid hr
    by_cases hlt : j < n
    · have hjn : (j : Int) < (n : Int) := by omega
      have C0 : ∀ w', Kept v.ownBlock.toList wr w' → w'.cell? ⟨w.heap.size, 0, none⟩ = some v := fun w' hk => by rw [cell_of_row w' _ 0 _ _ _ (hk.heap hr hpn)]; rfl
      have CF : ∀ w' j, Kept v.ownBlock.toList wr w' → w'.frozen? ⟨w.heap.size, j, none⟩ = false := fun w' j hk => frozen_of_row w' _ j _ _ (hk.heap hr hpn)
      have hb3 : (j + 1) * 16 ≤ 140737488355328 := by omega
      have hb4 : j + 1 ≤ 140737488355328 := by omega
      have hgr : w.heap.size + 1 ≤ wr.heap.size := hqlt
      clear hx ho hr
      go_wp2_with fail
      have hk0 : Kept v.ownBlock.toList wr wr.drew := (Kept.refl _ wr).drew
      refine wp_region_phase (S := fun w' => Kept v.ownBlock.toList wr w') 8 (by kernel_rfl) (by kernel_rfl) ?_ (fun hHeld => ?_)
      · exact hk0
      simp only [List.drop_succ_cons, List.drop_zero]
      refine name_head ?_
      intro wr0 hw0
      rw [hw0] at hHeld
      refine wpHead_take (i := 0) (v := ?_) (by rfl) (by kernel_rfl) (by kernel_rfl) (by exact fun _ _ _ h => h) (Or.inl ⟨by rfl, ?_⟩) (by assumption) ?_
      rotate_left
      · intro w hSw
        first | (go_simp; done) | (go_simp; with_reducible rfl)
      simp only [List.getElem_toArray, List.getElem_cons_zero, Act.put, List.setIfInBounds_toArray, List.set_cons_zero, List.set_cons_succ]
      refine wpHead_take (i := 1) (v := ?_) (by rfl) (by kernel_rfl) (by kernel_rfl) (by exact fun _ _ _ h => h) (Or.inl ⟨by rfl, ?_⟩) (by assumption) ?_
      rotate_left
      · intro w hSw
        first | (go_simp; done) | (go_simp; with_reducible rfl)
      simp only [List.getElem_toArray, List.getElem_cons_succ, List.getElem_cons_zero, Act.put, List.setIfInBounds_toArray, List.set_cons_zero, List.set_cons_succ]
      refine wpHead_take (i := 2) (v := ?_) (by rfl) (by kernel_rfl) (by kernel_rfl) (by exact fun _ _ _ h => h) (Or.inl ⟨by rfl, ?_⟩) (by assumption) ?_
      rotate_left
      · intro w hSw
        first | (go_simp; done) | (go_simp; with_reducible rfl)
      simp only [List.getElem_toArray, List.getElem_cons_succ, List.getElem_cons_zero, Act.put, List.setIfInBounds_toArray, List.set_cons_zero, List.set_cons_succ]
      refine wpHead_take (i := 3) (v := ?_) (by rfl) (by kernel_rfl) (by kernel_rfl) (by exact fun _ _ _ h => h) (Or.inl ⟨by rfl, ?_⟩) (by assumption) ?_
      rotate_left
      · intro w hSw
        first | (go_simp; done) | (go_simp; with_reducible rfl)
      simp only [List.getElem_toArray, List.getElem_cons_succ, List.getElem_cons_zero, Act.put, List.setIfInBounds_toArray, List.set_cons_zero, List.set_cons_succ]
      refine wpHead_take (i := 4) (v := ?_) (by rfl) (by kernel_rfl) (by kernel_rfl) (by exact fun _ _ _ h => h) (Or.inl ⟨by rfl, ?_⟩) (by assumption) ?_
      rotate_left
      · intro w hSw
        first | (go_simp; done) | (go_simp; with_reducible rfl)
      simp only [List.getElem_toArray, List.getElem_cons_succ, List.getElem_cons_zero, Act.put, List.setIfInBounds_toArray, List.set_cons_zero, List.set_cons_succ]
      refine wpHead_ready (rs := [5]) (by kernel_rfl) (by simp) (by kernel_rfl) ?_
      refine AllHead.cons (by rfl) (fun K hK => ?_) ?_
      · refine step_call (by rfl) (by kernel_rfl) (hemp _) ?_
        rintro e wr5 ⟨rfl, hx5⟩
        refine ⟨_, rfl, ?_⟩
        have ho5 : wr5.ownsRow (w.heap.size + 1) 9 1 v j (sv (List.replicate j z)) := owns_ext (by rw [← hw0]; exact HO.out) hx5
        refine hK.out _ _ ?_ (fun hHeld => ?_)
        · exact Kept.ext hHeld hx5
        clear hK K
        try simp only [List.getElem_toArray, List.getElem_cons_succ, List.getElem_cons_zero, Act.put, List.setIfInBounds_toArray, List.set_cons_zero, List.set_cons_succ]
        refine wpHead_ready (rs := [6]) (by kernel_rfl) (by simp) (by kernel_rfl) ?_
        refine AllHead.cons (by rfl) (fun K hK => ?_) ?_
        · go_simp
          refine name_world ?_
          rintro wr6 hw6
          have hxn6 : Ext wr5 wr6 := hw6 ▸ (Ext.refl _).alloc _
          have hrow6 : wr6.heap[wr5.heap.size]? = some (.cells #[.string (st z)] 9) := hw6 ▸ heap_alloc_new wr5 _
          have hs6 : Sl wr6 (some ⟨wr5.heap.size, 0, none⟩) [.string (st z)] := Sl.of_row hrow6
          have ho6 := owns_ext ho5 hxn6
          refine hK.out _ _ ?_ (fun hHeld => ?_)
          · exact Kept.ext hHeld hxn6
          clear hK K
          try simp only [List.getElem_toArray, List.getElem_cons_succ, List.getElem_cons_zero, Act.put, List.setIfInBounds_toArray, List.set_cons_zero, List.set_cons_succ]
          refine wpHead_ready (rs := [7]) (by kernel_rfl) (by simp) (by kernel_rfl) ?_
          refine AllHead.cons (by rfl) (fun K hK => ?_) ?_
          · refine step_ap strT ho6 hs6 (by rfl) (by rfl) (by rfl) (by rfl) (by rfl) (by simp [Value.oneCell']) hb3 hb4 (by have := hHeld.size; omega) ?_
            rintro v7 wr7 ho7 hg7 hor7
            have hk7 : Kept v.ownBlock.toList wr wr7 := hHeld.grown hg7 (fun k hk => .inl (by simp [hk]))
            refine hK.out _ _ ?_ (fun hHeld => ?_)
            · exact hk7
            clear hK K
            try simp only [List.getElem_toArray, List.getElem_cons_succ, List.getElem_cons_zero, Act.put, List.setIfInBounds_toArray, List.set_cons_zero, List.set_cons_succ]
            refine wpHead_done (by kernel_rfl) ?_
            obtain ⟨g7, n7, rfl, hgb7, hgl7, hgc7, hgm7⟩ := own_some ho7 (by omega)
            have c7 := C0 wr7 hk7
            have cf7 := fun j => CF wr7 j hk7
            have hx7 : Ext w wr7 := HX.out.kept hk7 (by
              intro k hm
              cases hv : v.ownBlock with
              | none => rw [hv] at hm; simp at hm
              | some i => rw [hv] at hm; simp at hm; subst hm; have := (HO.out.lt _ hv).1; omega)
            have e7 : sv (List.replicate j z) ++ [.string (st z)] = sv (List.replicate (j + 1) z) := by simp [sv, List.replicate_succ']
            rw [e7] at ho7
            have hs1 : wr7.grownBy (wr7.setCell ⟨w.heap.size, 0, none⟩ (.slice (some ⟨g7, 0, none⟩) (j + 1) n7)) (some w.heap.size) := ⟨rfl, rfl, rfl, by simp, fun k _ hk => heap_setCell_other wr7 ⟨w.heap.size, 0, none⟩ k _ (fun e => hk (by simp [e]))⟩
            have ho8 := ho7.kept hs1 (.inr (by simp [Value.ownBlock]; omega))
            have hr8 := heap_setCell_same wr7 w.heap.size 0 _ _ (.slice (some ⟨g7, 0, none⟩) (j + 1) n7) (hk7.heap HR.out hpn)
            have HX8 := Lib.hid (Ext.setCell hx7 (p := ⟨w.heap.size, 0, none⟩) (Nat.le_refl _) (.slice (some ⟨g7, 0, none⟩) (j + 1) n7))
            have HO8 := Lib.hid ho8
            have HR8 := Lib.hid hr8
            clear ho7 ho8 hr8 hs1 e7 hg7 hor7 C0 CF hs6 ho6 ho5
            go_wp2
            go_roundw
            case rel => exact ⟨j + 1, _, by go_num, by omega, HX8.out, HO8.out, by simpa using HR8.out⟩
            case measure => simp [intOf]; omega
          exact AllHead.nil
        exact AllHead.nil
      exact AllHead.nil
    · have hjn : ¬ (j : Int) < (n : Int) := by omega
      obtain rfl : j = n := by omega
      clear hx ho hr
      go_wp2
      refine bodyPost_ret (v := .tuple #[pt w.heap.size, .int .i64 0]) (by simp [results, Try.results9, go_sem, pt]) rfl ?_
      refine ⟨rfl, HX.out, fun M hM => ?_⟩
      obtain ⟨g7, n7, rfl, hgb7, hgl7, hgc7, hgm7⟩ := own_some HO.out (by omega)
      exact ⟨_, _, none, 0, by simpa using HR.out, SlM.own HO.out rfl (fun k hk => Nat.lt_succ_of_le (hM k hk)), SlM.nil _ _ _, by simpa using hgc7, by simp, hgm7, by omega⟩
end Go.Proofs.Ytklodimokhndoaa
namespace Go.Proofs.Ytklodimokhndoaa
open Go.RowKit
def bitsL (l : List UInt8) : List Nat := l.flatMap bitsOf
theorem bitsOf_length (c : UInt8) : (bitsOf c).length = 8 := by simp [bitsOf]
theorem bitsL_length (l : List UInt8) : (bitsL l).length = 8 * l.length := by
  induction l with
  | nil => rfl
  | cons c l ih => simp only [bitsL, List.flatMap_cons, List.length_append, bitsOf_length, List.length_cons] at *; omega
theorem bitsL_get (l : List UInt8) : ∀ i (h : i / 8 < l.length), (bitsL l)[i]? = some (l[i / 8].toNat / 2 ^ (i % 8) % 2) := by
  induction l with
  | nil => intro i h; simp at h
  | cons c l ih =>
    intro i h
    simp only [bitsL, List.flatMap_cons]
    by_cases hi : i < 8
    · rw [List.getElem?_append_left (by rw [bitsOf_length]; exact hi)]
      have h0 : i / 8 = 0 := by omega
      have h1 : i % 8 = i := by omega
      simp [bitsOf, h0, h1, hi]
    · rw [List.getElem?_append_right (by rw [bitsOf_length]; omega), bitsOf_length]
      have h0 : i / 8 = (i - 8) / 8 + 1 := by omega
      have h1 : i % 8 = (i - 8) % 8 := by omega
      have := ih (i - 8) (by simp at h; omega)
      simp only [bitsL] at this
      rw [this, h1]
      simp [h0]
theorem crcS_bits (l : List UInt8) : ∀ r, crcS r l = crcL r (bitsL l) := by
  induction l with
  | nil => intro r; rfl
  | cons c l ih => intro r; simp only [crcS, List.foldl_cons, bitsL, List.flatMap_cons, crcL, List.foldl_append] at *; rw [ih]; rfl
theorem crcL_take (l : List UInt8) (i : Nat) (h : i / 8 < l.length) (r : Nat) : crcL r ((bitsL l).take (i + 1)) = crcB (crcL r ((bitsL l).take i)) (l[i / 8].toNat / 2 ^ (i % 8) % 2) := by
  unfold crcL
  rw [List.take_add_one, bitsL_get l i h]
  simp [List.foldl_append]
theorem cast_bit (c j : Nat) : ((c : Int) / 2 ^ j % 2) = ((c / 2 ^ j % 2 : Nat) : Int) := by
  rw [Int.natCast_emod, Int.natCast_ediv, Int.natCast_pow]; rfl
theorem crcB_ne (r c j : Nat) (h : ((r : Int) % 2 != (c : Int) / 2 ^ j % 2) = true) : crcB r (c / 2 ^ j % 2) = (r / 2) ^^^ 3988292384 := by
  rw [cast_bit, bne_iff_ne] at h
  unfold crcB
  rw [if_neg (by omega)]
theorem crcB_eq (r c j : Nat) (h : ((r : Int) % 2 != (c : Int) / 2 ^ j % 2) = false) : crcB r (c / 2 ^ j % 2) = r / 2 := by
  rw [cast_bit, bne_eq_false_iff_eq] at h
  unfold crcB
  rw [if_pos (by omega)]
set_option maxHeartbeats 400000 in
theorem RSum_any (A : Option Addr) (cap n : Nat) (l : List UInt8) (w : World) (h : Bs w A l) (hn : l.length ≤ 140737488355328) (hl : n = l.length) :
    Calls Try.prog 75 #[.slice A n cap] w fun e w' => e = .returned (.int .u32 (crcF [l] : Nat)) ∧ w = w' := by
  subst hl
  go_enter Try.func75, Try.ntmps75
  go_wp2
  go_loop [3, 4] (fun r i => ∃ k : Nat, k ≤ 8 * l.length ∧ i = .int .i64 k ∧ r = .int .u32 (crcL 4294967295 ((bitsL l).take k) : Nat)) (fun _ i => 8 * l.length - (intOf i).toNat)
  case atStart => exact ⟨0, by omega, rfl, rfl⟩
  case round =>
    obtain ⟨k, hk, rfl, rfl⟩ := hrel
    by_cases hlt : k < 8 * l.length
    · obtain ⟨ad, rfl, hc⟩ := Sl.now h (bv_get (l := l) (k := k / 8) (by omega))
      have hk8 : k / 8 < l.length := by omega
      have hr := crcL_lt ((bitsL l).take k) 4294967295 (by omega)
      have hs := Lib.hid (crcL_take l k (by omega) 4294967295)
      have h2 := l[k / 8].toNat_lt
      generalize hr0 : crcL 4294967295 ((bitsL l).take k) = r at *
      have hlt2 : (k : Int) < 8 * (l.length : Int) := by omega
      go_wp2
      all_goals
        go_round
        case rel =>
          refine ⟨k + 1, by omega, by go_num, ?_⟩
          rw [hs.out]
          first
            | rw [crcB_ne _ _ _ ‹_›, xorP _ hr]
            | (rw [crcB_eq _ _ _ ‹_›]; rfl)
        case measure => simp [intOf]; omega
    · have hk' : k = 8 * l.length := by omega
      subst hk'
      have hr := crcL_lt ((bitsL l).take (8 * l.length)) 4294967295 (by omega)
      have hlt2 : ¬ (8 * (l.length : Int)) < 8 * (l.length : Int) := by omega
      go_wp2
      go_ret
      refine ⟨ret_int ?_, rfl⟩
      have e : crcF [l] = 4294967295 - crcL 4294967295 ((bitsL l).take (8 * l.length)) := by
        rw [List.take_of_length_le (by rw [bitsL_length]; omega)]
        simp only [crcF, crcP, List.foldl_cons, List.foldl_nil, crcS_bits]
      rw [e]; omega
theorem RPack_arg (A : Option Addr) (cap n : Nat) (l : List UInt8) (w : World) (hl : n = l.length) (h : l.length = 0) :
    Calls Try.prog 65 #[.slice A n cap] w fun e w' => e = .returned (.tuple #[.slice none 0 0, .int .i64 2]) ∧ w = w' := by
  subst hl
  have h1 : ((l.length : Int) == 0) = true := by rw [h]; rfl
  clear h
  go_enter Try.func65, Try.ntmps65
  go_wp2
  go_ret2
  exact ⟨rfl, rfl⟩
theorem RPack_limit (A : Option Addr) (cap n : Nat) (l : List UInt8) (w : World) (hl : n = l.length) (h : 2000 < l.length) :
    Calls Try.prog 65 #[.slice A n cap] w fun e w' => e = .returned (.tuple #[.slice none 0 0, .int .i64 6]) ∧ w = w' := by
  subst hl
  have h1 : ((l.length : Int) == 0) = false := beq_eq_false_iff_ne.2 (by omega)
  have h2 : (2000 : Int) < l.length := by omega
  clear h
  go_enter Try.func65, Try.ntmps65
  go_wp2
  go_ret2
  exact ⟨rfl, rfl⟩
theorem be4_cells (c : Nat) (h : c < 4294967296) : #[Value.int .u8 ((c : Int) / 16777216), .int .u8 ((c : Int) / 65536 % 256), .int .u8 ((c : Int) / 256 % 256), .int .u8 ((c : Int) % 256)] = (bv (be 4 c)).toArray := by
  simp only [be, bv, List.map_cons, List.map_nil, UInt8.toNat_ofNat']
  have e1 : ((c : Int) / 16777216) = ((c / 256 ^ 3 % 2 ^ 8 : Nat) : Int) := by omega
  have e2 : ((c : Int) / 65536 % 256) = ((c / 256 ^ 2 % 2 ^ 8 : Nat) : Int) := by omega
  have e3 : ((c : Int) / 256 % 256) = ((c / 256 ^ 1 % 2 ^ 8 : Nat) : Int) := by omega
  have e4 : ((c : Int) % 256) = ((c / 256 ^ 0 % 2 ^ 8 : Nat) : Int) := by omega
  rw [e1, e2, e3, e4]
set_option maxHeartbeats 1000000 in
theorem RPack_ok (A : Option Addr) (cap n : Nat) (l : List UInt8) (w : World) (h : Bs w A l) (hl : n = l.length) (hlo : 0 < l.length) (hhi : l.length ≤ 2000) :
    Calls Try.prog 65 #[.slice A n cap] w fun e w' => ∃ v, e = .returned (.tuple #[v, .int .i64 0]) ∧ Own w' w.heap.size v (packL l) ∧ Ext w w' := by
  subst hl
  have h1 : ((l.length : Int) == 0) = false := beq_eq_false_iff_ne.2 (by omega)
  have h2 : (l.length : Int) ≤ 2000 := by omega
  go_enter Try.func65, Try.ntmps65
  go_wp2_with (at_builtin; refine unstop ?_)
  have q1 : ((l.length : Int) / 256) = ((UInt8.ofNat (l.length / 256 ^ 1)).toNat : Int) := by rw [UInt8.toNat_ofNat']; omega
  have q2 : ((l.length : Int) % 256) = ((UInt8.ofNat (l.length / 256 ^ 0)).toNat : Int) := by rw [UInt8.toNat_ofNat']; omega
  rw [q1, q2]
  have hl2 := be_length 2 l.length
  have ho1 : Own (w.alloc (.cells #[.int .u8 ((UInt8.ofNat (l.length / 256 ^ 1)).toNat : Int), .int .u8 ((UInt8.ofNat (l.length / 256 ^ 0)).toNat : Int)] 5)) w.heap.size (.slice (some ⟨w.heap.size, 0, none⟩) 2 2) (be 2 l.length) :=
    Own.new w w.heap.size _ (be 2 l.length) 2 rfl hl2.symm (Nat.le_refl _) (by simp [maxLen])
  generalize hw1 : w.alloc (.cells #[.int .u8 ((UInt8.ofNat (l.length / 256 ^ 1)).toNat : Int), .int .u8 ((UInt8.ofNat (l.length / 256 ^ 0)).toNat : Int)] 5) = w1 at *
  have hx1 : Ext w w1 := by rw [← hw1]; exact (Ext.refl _).alloc _
  have hs1 : w.heap.size + 1 = w1.heap.size := by rw [← hw1]; simp
  clear hw1 q1 q2
  rw [hs1]
  refine go_on (wpList_appB bytesT (Own.empty w1 w1.heap.size (Nat.le_refl _)) (ho1.bs.ext ((Ext.refl _).alloc _)) rfl rfl rfl rfl hl2.symm (by simp [hl2]) (by simp) ?_)
  rintro v2 w2 ho2 hg2 -
  have hx2 : Ext w1 w2 := ((Ext.refl w1).alloc _).own (Own.empty w1 w1.heap.size (Nat.le_refl _)) (Nat.le_refl _) hg2
  obtain ⟨A2, c2, rfl⟩ := ho2.form
  go_wp2_with (at_builtin; refine unstop ?_)
  refine go_on (wpList_appB bytesT ho2 (h.ext (hx1.trans hx2)) rfl rfl rfl rfl rfl (by simp [hl2]; omega) (by have := hx2.size; omega) ?_)
  rintro v3 w3 ho3 hg3 -
  have hx3 : Ext w1 w3 := hx2.own ho2 (Nat.le_refl _) hg3
  obtain ⟨A3, c3, rfl⟩ := ho3.form
  go_wp2_with fail
  refine (RSum_any A3 c3 _ _ w3 ho3.bs (by simp [hl2]; omega) (by simp [hl2])).mono ?_
  rintro e w4 ⟨rfl, rfl⟩
  have hcr : crcF [[] ++ be 2 l.length ++ l] = crcF [be 2 l.length, l] := by simp [crcF, crcP, crcS]
  rw [hcr]
  have hlt := crcF_lt [be 2 l.length, l]
  have hpk : packL l = be 2 l.length ++ be 4 (crcF [be 2 l.length, l]) ++ l := rfl
  generalize crcF [be 2 l.length, l] = cr at *
  have hx4 : Ext w w3 := hx1.trans hx3
  go_wp2_with (at_builtin; refine unstop ?_)
  refine go_on (wpList_appB bytesT ((ho1.ext hx3).alloc _) (Bs.new w3 (be 4 cr) _ (be4_cells cr hlt) _ _) rfl rfl rfl rfl (by simp [be_length]) (by simp [be_length]) (by have := hx4.size; simp; omega) ?_)
  rintro v5 w5 ho5 hg5 -
  have hx5 : Ext w w5 := (hx4.alloc _).own ((ho1.ext hx3).alloc _) (Nat.le_refl _) hg5
  obtain ⟨A5, c5, rfl⟩ := ho5.form
  go_wp2_with (at_builtin; refine unstop ?_)
  refine go_on (wpList_appB bytesT ho5 (h.ext hx5) rfl rfl rfl rfl rfl (by simp [be_length]; omega) hx5.size ?_)
  rintro v6 w6 ho6 hg6 -
  go_wp2
  go_ret2
  exact ⟨_, rfl, by rw [hpk]; exact ho6, hx5.own ho5 (Nat.le_refl _) hg6⟩
theorem numL_go (l : List UInt8) : ∀ v, l.foldl (fun v c => v * 256 + c.toNat) v = v * 256 ^ l.length + numL l := by
  induction l with
  | nil => intro v; simp [numL]
  | cons c l ih =>
    intro v
    simp only [List.foldl_cons, List.length_cons, numL]
    rw [ih, Nat.zero_mul, Nat.zero_add, ih c.toNat, Nat.pow_succ]
    have : (v * 256 + c.toNat) * 256 ^ l.length = v * (256 ^ l.length * 256) + c.toNat * 256 ^ l.length := by
      rw [Nat.add_mul, Nat.mul_assoc, Nat.mul_comm 256]
    omega
theorem numL_cons (c : UInt8) (l : List UInt8) : numL (c :: l) = c.toNat * 256 ^ l.length + numL l := by
  have := numL_go l c.toNat
  unfold numL at *
  simp only [List.foldl_cons, Nat.zero_mul, Nat.zero_add]
  exact this
theorem numL_all (l : List UInt8) : numL l < 256 ^ l.length := by
  have := numL_lt l l.length (Nat.le_refl _)
  rwa [List.take_length] at this
theorem be_mod (n : Nat) : ∀ v k, be n (v + k * 256 ^ n) = be n v := by
  induction n with
  | zero => intro v k; rfl
  | succ n ih =>
    intro v k
    have h : v + k * 256 ^ (n + 1) = v + (k * 256) * 256 ^ n := by rw [Nat.pow_succ, Nat.mul_assoc, Nat.mul_comm 256]
    simp only [be]
    rw [h, ih]
    congr 1
    rw [Nat.add_mul_div_right _ _ (Nat.pow_pos (by omega))]
    apply UInt8.toNat_inj.1
    rw [UInt8.toNat_ofNat', UInt8.toNat_ofNat']
    omega
theorem be_numL (l : List UInt8) : be l.length (numL l) = l := by
  induction l with
  | nil => rfl
  | cons c l ih =>
    have h1 := numL_all l
    simp only [List.length_cons, be]
    rw [numL_cons, Nat.add_comm, be_mod, ih]
    congr 1
    rw [Nat.add_mul_div_right _ _ (Nat.pow_pos (by omega)), Nat.div_eq_of_lt h1]
    simp
theorem numL_be (n : Nat) : ∀ v, v < 256 ^ n → numL (be n v) = v := by
  induction n with
  | zero => intro v h; simp at h; subst h; rfl
  | succ n ih =>
    intro v h
    have hp : 0 < 256 ^ n := Nat.pow_pos (by omega)
    have h1 : be n v = be n (v % 256 ^ n) := by
      have := be_mod n (v % 256 ^ n) (v / 256 ^ n)
      rw [← this, Nat.mul_comm, Nat.mod_add_div]
    simp only [be]
    rw [numL_cons, be_length, h1, ih _ (Nat.mod_lt _ hp), UInt8.toNat_ofNat']
    have h2 : v / 256 ^ n < 256 := Nat.div_lt_of_lt_mul (by rw [Nat.pow_succ] at h; exact h)
    have h3 := Nat.div_add_mod v (256 ^ n)
    rw [Nat.mod_eq_of_lt (by omega), Nat.mul_comm]
    exact h3
theorem be_inj (n : Nat) (a b : Nat) (ha : a < 256 ^ n) (hb : b < 256 ^ n) (h : be n a = be n b) : a = b := by
  rw [← numL_be n a ha, ← numL_be n b hb, h]
theorem take_parts (r : List UInt8) (m : Nat) : r.take (6 + m) = r.take 2 ++ (r.drop 2).take 4 ++ (r.drop 6).take m := by
  have h1 : r.take (6 + m) = r.take 6 ++ (r.drop 6).take m := List.take_add
  have h2 : r.take 6 = r.take 2 ++ (r.drop 2).take 4 := List.take_add (i := 2) (j := 4)
  rw [h1, h2]
theorem pack_iff (r : List UInt8) (m : Nat) (hm : numL (r.take 2) = m) (hr : 6 + m ≤ r.length) :
    packL ((r.drop 6).take m) = r.take (6 + m) ↔ crcF [r.take 2, (r.drop 6).take m] = numL ((r.drop 2).take 4) := by
  have hl : ((r.drop 6).take m).length = m := by simp; omega
  have h2 : be 2 m = r.take 2 := by
    have := be_numL (r.take 2)
    rw [hm] at this
    rwa [List.length_take, Nat.min_eq_left (by omega)] at this
  have hl4 : ((r.drop 2).take 4).length = 4 := by simp; omega
  have h4 := be_numL ((r.drop 2).take 4)
  rw [hl4] at h4
  have h4l := numL_all ((r.drop 2).take 4)
  rw [hl4] at h4l
  rw [take_parts]
  unfold packL
  rw [hl, h2]
  constructor
  · intro h
    have h := List.append_cancel_right h
    have h := List.append_cancel_left h
    have := numL_be 4 _ (crcF_lt [r.take 2, (r.drop 6).take m])
    rw [h] at this
    exact this.symm
  · intro h
    rw [h, h4]
end Go.Proofs.Ytklodimokhndoaa
namespace Go.Proofs.Ytklodimokhndoaa
open Go.RowKit
theorem num2 (r : List UInt8) (h : 6 ≤ r.length) : numL (r.take 2) = 256 * r[0].toNat + r[1].toNat := by
  match r, h with
  | a :: b :: r, _ => simp [numL]; omega
set_option maxHeartbeats 1000000 in
theorem ROne_any (A : Option Addr) (cap n : Nat) (b : List UInt8) (at_ : Int) (w : World) (h : Bs w A b) (hl : n = b.length) (hc : b.length ≤ cap) (hbn : b.length ≤ 140737488355328) :
    Calls Try.prog 60 #[.slice A n cap, .int .i64 at_] w (OneSays b at_ w) := by
  subst hl
  by_cases h1 : at_ < 0 ∨ (b.length : Int) < at_
  · have hs : oneL b at_ = ([], 0, 2) := by unfold oneL; rw [if_pos h1]
    have HS := Lib.hid hs
    clear hs
    by_cases h2 : at_ < 0
    · go_enter Try.func60, Try.ntmps60
      go_wp2
      go_ret3
      exact OneSays.bad HS.out (Ext.refl _)
    · have h3 : (b.length : Int) < at_ := by omega
      clear h1
      go_enter Try.func60, Try.ntmps60
      go_wp2
      go_ret3
      exact OneSays.bad HS.out (Ext.refl _)
  obtain ⟨k, rfl⟩ : ∃ k : Nat, at_ = (k : Int) := ⟨at_.toNat, by omega⟩
  have hk : k ≤ b.length := by omega
  clear h1
  have hr : (b.drop k).length = b.length - k := by simp
  by_cases h2 : b.length - k < 6
  · have hs : oneL b k = ([], 0, 3) := by unfold oneL; rw [if_neg (by omega), if_pos (by simp; omega)]
    have HS := Lib.hid hs
    clear hs
    have h3 : (b.length : Int) - (k : Int) < 6 := by omega
    clear h2
    go_enter Try.func60, Try.ntmps60
    go_wp2
    go_ret3
    exact OneSays.bad HS.out (Ext.refl _)
  have HS : Hid (oneL b k = if numL ((b.drop k).take 2) = 0 ∨ 2000 < numL ((b.drop k).take 2) then (([], 0, 4) : List UInt8 × Int × Int)
    else if (b.drop k).length < 6 + numL ((b.drop k).take 2) then ([], 0, 3)
    else if crcF [(b.drop k).take 2, ((b.drop k).drop 6).take (numL ((b.drop k).take 2))] ≠ numL (((b.drop k).drop 2).take 4) then ([], 0, 5)
    else (((b.drop k).drop 6).take (numL ((b.drop k).take 2)), (k : Int) + 6 + numL ((b.drop k).take 2), 0)) := by
    unfold oneL
    rw [if_neg (by omega), Int.toNat_natCast, if_neg (by omega)]
    exact rfl
  obtain ⟨ad, rfl, hc0⟩ := h.at_ (k := k) (by omega)
  obtain ⟨_, e, hc1⟩ := h.at_ (k := k + 1) (by omega)
  cases e
  have hn2 := num2 (b.drop k) (by omega)
  rw [List.getElem_drop, List.getElem_drop] at hn2
  simp only [Nat.add_zero] at hn2
  have hb0 := b[k].toNat_lt
  have hb1 := b[k + 1].toNat_lt
  generalize hnn : numL ((b.drop k).take 2) = m at *
  generalize hu0 : b[k].toNat = u0 at *
  generalize hu1 : b[k + 1].toNat = u1 at *
  have h3 : (6 : Int) ≤ (b.length : Int) - (k : Int) := by omega
  have hk0 : (0 : Int) ≤ (k : Int) := by omega
  have hk1 : (k : Int) < (b.length : Int) := by omega
  have hk2 : (0 : Int) ≤ (k : Int) + 1 := by omega
  have hk3 : (k : Int) + 1 < (b.length : Int) := by omega
  have wr1 : IntKind.i64.wrap ((k : Int) + 1) = (k : Int) + 1 := IntWalk.i64_in _ (by omega)
  have c0 := hc0 w (Ext.refl _)
  have c1 := hc1 w (Ext.refl _)
  rw [add_pos'] at c1
  have wr2 : IntKind.i64.wrap (u0 : Int) = (u0 : Int) := IntWalk.i64_in _ (by omega)
  have wr3 : IntKind.i64.wrap (u1 : Int) = (u1 : Int) := IntWalk.i64_in _ (by omega)
  have wr4 : IntKind.i64.wrap (256 * (u0 : Int)) = 256 * (u0 : Int) := IntWalk.i64_in _ (by omega)
  have wr5 : IntKind.i64.wrap (256 * (u0 : Int) + (u1 : Int)) = (m : Int) := by rw [IntWalk.i64_in _ (by omega)]; omega
  have HN2 := Lib.hid hn2
  clear hn2 hu0 hu1 wr2 wr3 wr4 wr5 c0 c1 wr1
  have WR := Lib.hid (show IntKind.i64.wrap (u0 : Int) = (u0 : Int) ∧ IntKind.i64.wrap (u1 : Int) = (u1 : Int) ∧ IntKind.i64.wrap (256 * (u0 : Int)) = 256 * (u0 : Int) ∧
    IntKind.i64.wrap (256 * (u0 : Int) + (u1 : Int)) = (m : Int) ∧ IntKind.i64.wrap ((k : Int) + 1) = (k : Int) + 1 ∧ w.cell? (ad.add k) = some (.int .u8 (u0 : Int)) ∧ w.cell? ⟨ad.block, ad.off + (k + 1), none⟩ = some (.int .u8 (u1 : Int)) from
    ⟨IntWalk.i64_in _ (by omega), IntWalk.i64_in _ (by omega), IntWalk.i64_in _ (by omega), (by have := HN2.out; rw [IntWalk.i64_in _ (by omega)]; omega), IntWalk.i64_in _ (by omega), hc0 w (Ext.refl _), by rw [← add_pos']; exact hc1 w (Ext.refl _)⟩)
  clear hc0 hc1
  by_cases h4 : m = 0 ∨ 2000 < m
  · have HS2 := Lib.hid (HS.out.trans (if_pos h4))
    clear HS
    by_cases h5 : m = 0
    · have h6 : (m : Int) < 1 := by omega
      clear h4 h5 h2 hk hr hnn
      obtain ⟨wr1, wr2, wr3, wr4, wr5, c0, c1⟩ := WR.out
      go_enter Try.func60, Try.ntmps60
      go_wp2_with fail
      go_quiet (fail)
      clear wr1 wr2 wr3 wr4 wr5 c0 c1
      go_wp2
      go_ret3
      exact OneSays.bad HS2.out ((Ext.refl _).drewN _)
    · have h6 : (1 : Int) ≤ m := by omega
      have h7 : (2000 : Int) < m := by omega
      clear h4 h5 h2 hk hr hnn
      obtain ⟨wr1, wr2, wr3, wr4, wr5, c0, c1⟩ := WR.out
      go_enter Try.func60, Try.ntmps60
      go_wp2_with fail
      go_quiet (fail)
      clear wr1 wr2 wr3 wr4 wr5 c0 c1
      go_wp2
      go_ret3
      exact OneSays.bad HS2.out ((Ext.refl _).drewN _)
  have h5 : (1 : Int) ≤ (m : Int) := by omega
  have h6 : (m : Int) ≤ 2000 := by omega
  have HS2 := Lib.hid (HS.out.trans (if_neg h4))
  clear HS h4
  by_cases h8 : (b.drop k).length < 6 + m
  · have HS3 := Lib.hid (HS2.out.trans (if_pos h8))
    have h9 : (b.length : Int) - (k : Int) < 6 + (m : Int) := by omega
    clear h8 h2 hk hr hnn HS2
    obtain ⟨wr1, wr2, wr3, wr4, wr5, c0, c1⟩ := WR.out
    go_enter Try.func60, Try.ntmps60
    go_wp2_with fail
    go_quiet (fail)
    clear wr1 wr2 wr3 wr4 wr5 c0 c1
    go_wp2
    go_ret3
    exact OneSays.bad HS3.out ((Ext.refl _).drewN _)
  have HS3 := Lib.hid (HS2.out.trans (if_neg h8))
  clear HS2
  have h9 : (6 : Int) + (m : Int) ≤ (b.length : Int) - (k : Int) := by omega
  obtain ⟨A3, e3, f3⟩ := cutB_lh Try.underlying46 size8 (some ad) b.length cap b (k + 6) (k + 6 + m) (li := (k : Int) + 6) (hi := (k : Int) + 6 + (m : Int)) (by omega) (by omega) rfl (by omega) (by omega) (by omega)
  obtain ⟨A4, e4, f4⟩ := cutB_lh Try.underlying46 size8 (some ad) b.length cap b k (k + 6 + m) (li := (k : Int)) (hi := (k : Int) + 6 + (m : Int)) (by omega) (by omega) rfl (by omega) (by omega) (by omega)
  have hb3 := f3 w h
  have hb4 := f4 w h
  have q3 : k + 6 + m - (k + 6) = m := by omega
  have q4 : k + 6 + m - k = 6 + m := by omega
  rw [q3] at e3 hb3
  rw [q4] at e4 hb4
  have q5 : b.drop (k + 6) = (b.drop k).drop 6 := by simp
  rw [q5] at hb3
  have hpi := pack_iff (b.drop k) m hnn (by omega)
  have hlp : (((b.drop k).drop 6).take m).length = m := by simp; omega
  have hlq : ((b.drop k).take (6 + m)).length = 6 + m := by simp; omega
  clear f3 f4 q3 q4 q5 hnn h8 hr
  generalize hp : ((b.drop k).drop 6).take m = p at *
  generalize hq : (b.drop k).take (6 + m) = q at *
  have HP := Lib.hid hp
  have HQ := Lib.hid hq
  have HPI := Lib.hid hpi
  have HLP := Lib.hid hlp
  have HLQ := Lib.hid hlq
  clear hp hq hpi hlp hlq
  obtain ⟨wr1, wr2, wr3, wr4, wr5, c0, c1⟩ := WR.out
  go_enter Try.func60, Try.ntmps60
  go_wp2_with fail
  go_quiet (fail)
  clear wr1 wr2 wr3 wr4 wr5 c0 c1
  have hxq : Ext w (w.drewN nq) := (Ext.refl _).drewN _
  go_wp2_with (at_builtin; refine unstop ?_)
  refine go_on (wpList_appB bytesT (Own.empty (w.drewN nq) (w.drewN nq).heap.size (Nat.le_refl _)) (hb3.ext (hxq.alloc _)) rfl rfl rfl rfl HLP.out.symm (by simp only [List.length_nil]; rw [HLP.out]; omega) (by simp) ?_)
  rintro v2 w2 ho2 hg2 -
  have hxs : w.heap.size ≤ (w.drewN nq).heap.size := hxq.size
  have hx2 : Ext w w2 := (hxq.alloc _).own (Own.empty (w.drewN nq) (w.drewN nq).heap.size (Nat.le_refl _)) hxs hg2
  obtain ⟨A2, c2, rfl⟩ := ho2.form
  rw [List.nil_append] at ho2 ⊢
  rw [HLP.out] at ho2 ⊢
  go_wp2_with fail
  refine (RPack_ok A2 c2 m p w2 ho2.bs HLP.out.symm (by rw [HLP.out]; omega) (by rw [HLP.out]; omega)).mono ?_
  rintro e w3 ⟨v3, rfl, ho3, hx3⟩
  obtain ⟨A5, c5, rfl⟩ := ho3.form
  have hx23 : Ext w w3 := hx2.trans hx3
  have s1 := run_str (P := Try.prog) Try.underlying46 Try.underlying5 Try.underlying9 ho3.bs (packL p).length c5 rfl
  have s2 := run_str (P := Try.prog) Try.underlying46 Try.underlying5 Try.underlying9 (hb4.ext hx23) (6 + m) (cap - k) HLQ.out.symm
  by_cases h10 : packL p = q
  · have h11 : (packL p == q) = true := by rw [h10]; exact beq_self_eq_true _
    have HS4 := Lib.hid (HS3.out.trans (if_neg (not_not_intro (HPI.out.1 h10))))
    clear h10
    go_wp2_with fail
    go_quiet (fail)
    go_wp2
    go_ret3
    exact OneSays.good HS4.out (ho2.low hxs |>.ext (hx3.drewN _)) (hx23.drewN _)
  · have h11 : (packL p == q) = false := beq_eq_false_iff_ne.2 h10
    have HS4 := Lib.hid (HS3.out.trans (if_pos (fun h => h10 (HPI.out.2 h))))
    clear h10
    go_wp2_with fail
    go_quiet (fail)
    go_wp2
    go_ret3
    exact OneSays.bad HS4.out (hx23.drewN _)
end Go.Proofs.Ytklodimokhndoaa
namespace Go.Proofs.Ytklodimokhndoaa
open Go.RowKit
theorem rleft_any (a : Nat) (w : World) (ha : a ≤ 1000000000) : Calls Try.prog 46 #[.int .i64 a] w fun e w' => e = .returned (.int .i64 ((64 - a % 64 : Nat) : Int)) ∧ w' = w := by
  have hm : (a : Int) % 64 = ((a % 64 : Nat) : Int) := by omega
  have hlt : a % 64 < 64 := Nat.mod_lt _ (by omega)
  generalize a % 64 = m at *
  have h1 : IntKind.i64.wrap (64 - (m : Int)) = ((64 - m : Nat) : Int) := by rw [wrapI _ (by omega) (by omega)]; omega
  go_enter Try.func46, Try.ntmps46
  go_wp2
  go_ret
  exact ⟨rfl, rfl⟩
theorem rempty_zero (A : Option Addr) (c n : Nat) (w : World) (hb : Bs w A (List.replicate n 0)) (hn : n ≤ 1000000) : Calls Try.prog 36 #[.slice A n c] w fun e w' => e = .returned (.bool true) ∧ w' = w := by
  go_enter Try.func36, Try.ntmps36
  go_wp2
  go_loopw [3] (fun iv wr => ∃ k : Nat, iv = .int .i64 k ∧ k ≤ n ∧ wr = w) (fun iv _ => n - (intOf iv).toNat)
  case atStart => exact ⟨0, rfl, by omega, rfl⟩
  case round =>
    obtain ⟨k, rfl, hk, rfl⟩ := hrel
    by_cases hlt : k < n
    · have hlt2 : (k : Int) < (n : Int) := by omega
      obtain ⟨ad, rfl, hc⟩ := hb.at_ (k := k) (by simpa using hlt)
      have hc := hc _ (Ext.refl _)
      rw [List.getElem_replicate] at hc
      have hc : wr.cell? (ad.add k) = some (.int .u8 0) := hc
      go_wp2
      go_roundw
      case rel => exact ⟨k + 1, by go_num, by omega, trivial⟩
      case measure => simp [intOf]; omega
    · have hlt2 : ¬ (k : Int) < (n : Int) := by omega
      go_wp2
      go_ret
      exact ⟨rfl, rfl⟩
set_option maxHeartbeats 1000000 in
theorem rnumber_any (v : Nat) (w : World) : Calls Try.prog 66 #[.int .u64 v] w fun e w' => ∃ v', e = .returned v' ∧ Own w' w.heap.size v' (be 8 v) ∧ Ext w w' := by
  go_enter Try.func66, Try.ntmps66
  go_wp2
  go_loopw [3, 4] (fun ov iv wr => ∃ (k : Nat) (A1 : Option Addr) (c1 : Nat), iv = .int .i64 (7 - (k : Int)) ∧ k ≤ 8 ∧ ov = .slice A1 k c1 ∧ Hid (Own wr w.heap.size (.slice A1 k c1) ((be 8 v).take k)) ∧ Hid (Ext w wr)) (fun _ iv _ => (intOf iv + 1).toNat)
  case atStart => exact ⟨0, some ⟨w.heap.size, 0, none⟩, 0, rfl, by omega, rfl, Lib.hid (Own.empty w w.heap.size (Nat.le_refl _)), Lib.hid ((Ext.refl w).alloc _)⟩
  case round =>
    obtain ⟨k, A1, c1, rfl, hk, rfl, HO, HX⟩ := hrel
    by_cases hlt : k < 8
    · have hge : (0 : Int) ≤ 7 - (k : Int) := by omega
      have w2 : IntKind.i64.wrap (8 * (7 - (k : Int))) = ((8 * (7 - k) : Nat) : Int) := by rw [wrapI _ (by omega) (by omega)]; omega
      have HTK := Lib.hid (be_take 8 v k hlt)
      have hl : ((be 8 v).take k).length ≤ 8 := by simp [be_length]; omega
      have hl1 : ((be 8 v).take (k + 1)).length = k + 1 := by simp [be_length]; omega
      have HL1 := Lib.hid hl1
      clear hl1
      have w3 : IntKind.i64.wrap (7 - (k : Int) - 1) = 7 - ((k : Int) + 1) := by rw [wrapI _ (by omega) (by omega)]; omega
      generalize (be 8 v).take k = o1 at *
      go_wp2_with (at_builtin; refine unstop ?_)
      rw [be_val]
      refine go_on (wpList_appB bytesT (HO.out.alloc _) (Bs.new _ [_] _ rfl _ _) rfl rfl rfl rfl rfl (by simp only [List.length_singleton]; omega) (by have := HX.out.size; simp; omega) ?_)
      intro v' w1 ho1 hg1 hor1
      have HX1 := Lib.hid ((HX.out.alloc _).own (HO.out.alloc _) (Nat.le_refl _) hg1)
      rw [show 7 - k = 8 - 1 - k by omega, ← HTK.out] at ho1
      obtain ⟨A2, c2, rfl⟩ := ho1.form
      rw [HL1.out] at ho1 ⊢
      have HO1 := Lib.hid ho1
      clear ho1 hg1 hor1
      go_wp2
      go_roundw
      case rel => exact ⟨k + 1, A2, c2, by simp, by omega, rfl, HO1, HX1⟩
      case measure => simp [intOf]; omega
    · obtain rfl : k = 8 := by omega
      have hge : ¬ (0 : Int) ≤ 7 - ((8 : Nat) : Int) := by omega
      have htk : (be 8 v).take 8 = be 8 v := List.take_of_length_le (by simp [be_length])
      rw [htk] at HO
      clear htk
      go_wp2
      go_ret
      exact ⟨_, rfl, HO.out, HX.out⟩
/-- the reference's log in memory -/
def RgC (w : World) (q x age base size half gen : Nat) (lv bv' : Value) : Prop :=
  w.heap[q]? = some (Obj.cells #[pt x, .int .i64 age, .int .i64 base, .int .i64 size, .int .i64 half, .int .u64 gen, lv, bv'] 85 (0, 0))
section
variable {w w' : World} {q x age base size half gen : Nat} {lv bv' : Value}
theorem RgC.ext (h : RgC w q x age base size half gen lv bv') (hx : Ext w w') : RgC w' q x age base size half gen lv bv' := hx.obj h
theorem RgC.kept {M : List Nat} (h : RgC w q x age base size half gen lv bv') (hx : Kept M w w') (hq : q ∉ M) : RgC w' q x age base size half gen lv bv' := hx.heap h hq
theorem RgC.cell (h : RgC w q x age base size half gen lv bv') : w.cell? ⟨q, 0, none⟩ = some (pt x) ∧ w.cell? ⟨q, 2, none⟩ = some (.int .i64 base) ∧ w.cell? ⟨q, 3, none⟩ = some (.int .i64 size) ∧ w.cell? ⟨q, 5, none⟩ = some (.int .u64 gen) ∧ w.cell? ⟨q, 6, none⟩ = some lv ∧ w.cell? ⟨q, 7, none⟩ = some bv' ∧ (∀ j, w.frozen? ⟨q, j, none⟩ = false) := by
  refine ⟨?_, ?_, ?_, ?_, ?_, ?_, fun j => frozen_of_row _ q j _ _ h⟩ <;> (rw [cell_of_row _ q _ _ _ _ h]; rfl)
set_option maxHeartbeats 1000000 in
theorem rpage_any {M : List Nat} {s : Dk} (h : RgC w q x age base size half gen lv bv') (hR : Rf M w x s) (hm : s.waits.length ≤ 1000000) (k i : Nat) (hb : base ≤ 512) (h2 : size ≤ 256) (hk : k ≤ 1) (hi : i ≤ 1000) :
    Calls Try.prog 37 #[pt q, .int .i64 k, .int .i64 i] w fun e w' => ∃ A c, e = .returned (.slice A (readL s ((base + k * size + i : Nat) : Int)).length c) ∧ Bs w' A (readL s ((base + k * size + i : Nat) : Int)) ∧ Ext w w' ∧ (readL s ((base + k * size + i : Nat) : Int)).length ≤ c := by
  obtain ⟨c0, c2, c3, -⟩ := h.cell
  have C0 : ∀ W, Ext w W → W.cell? ⟨q, 0, none⟩ = some (pt x) := fun W hx => hx.cell c0
  have C2 : ∀ W, Ext w W → W.cell? ⟨q, 2, none⟩ = some (.int .i64 base) := fun W hx => hx.cell c2
  have C3 : ∀ W, Ext w W → W.cell? ⟨q, 3, none⟩ = some (.int .i64 size) := fun W hx => hx.cell c3
  obtain ⟨A1, c1, A2, c2', hI⟩ := hR
  have HRD := fun W (hx : Ext w W) => RRead_any W (hI.ext hx) hm ((base + k * size + i : Nat) : Int)
  have hks : k * size ≤ 256 := by rcases Nat.lt_or_ge k 1 with h | h; (have : k = 0 := by omega); (subst this; omega); (have : k = 1 := by omega); (subst this; omega)
  have w1 : IntKind.i64.wrap ((k : Int) * (size : Int)) = ((k * size : Nat) : Int) := by rw [show ((k : Int) * (size : Int)) = ((k * size : Nat) : Int) by simp]; exact wrapI _ (by omega) (by omega)
  have w2 : IntKind.i64.wrap ((base : Int) + ((k * size : Nat) : Int)) = ((base + k * size : Nat) : Int) := by rw [wrapI _ (by omega) (by omega)]; omega
  have w3 : IntKind.i64.wrap (((base + k * size : Nat) : Int) + (i : Int)) = ((base + k * size + i : Nat) : Int) := by rw [wrapI _ (by omega) (by omega)]; omega
  have hxd := (Ext.refl w).drew
  clear h hI c0 c2 c3
  generalize base + k * size + i = z at *
  generalize base + k * size = y at *
  generalize k * size = ks at *
  generalize readL s (z : Int) = pg at *
  unfold pt at *
  go_enter Try.func37, Try.ntmps37
  go_wp2_with fail
  go_region_held3 (fun W => Ext w W) (first | exact hxd | assumption) ((first
    | (go_at_call 61; refine (HRD _ (by first | assumption | exact hxd)).mono ?_; rintro e w4 ⟨A4, c4, rfl, hb4, hx4', hc4⟩; have hx4 : Ext w w4 := Ext.trans (by first | assumption | exact hxd) hx4'; clear hx4')))
  all_goals
    go_wp2
    go_ret
    exact ⟨A4, c4, rfl, hb4, hx4, hc4⟩
end
end Go.Proofs.Ytklodimokhndoaa
namespace Go.Proofs.Ytklodimokhndoaa
open Go.RowKit
section
variable {w w' : World} {q x age base size half gen : Nat} {lv bv' : Value}
set_option maxHeartbeats 1000000 in
theorem rhead_zero {M : List Nat} {s : Dk} (h : RgC w q x age base size half gen lv bv') (hR : Rf M w x s) (hm : s.waits.length ≤ 1000000) (k : Nat) (hb : base ≤ 512) (h2 : size ≤ 256) (hk : k ≤ 1) (hz : readL s ((base + k * size + 0 : Nat) : Int) = zpage) :
    Calls Try.prog 35 #[pt q, .int .i64 k] w fun e w' => e = .returned (.int .u64 0) ∧ Ext w w' := by
  have HP := rpage_any h hR hm k 0 hb h2 hk (by omega)
  rw [hz] at HP
  have h64 : zpage.length = 64 := rfl
  rw [h64] at HP
  have ho : oneL zpage 0 = ([], 0, 4) := by decide +kernel
  clear h hR hm hz h64
  unfold pt at *
  go_enter Try.func35, Try.ntmps35
  go_wp2_with fail
  refine HP.mono ?_
  rintro e w1 ⟨A, c, rfl, hb1, hx1, hc1⟩
  clear HP
  have HO := ROne_any A c 64 zpage 0 w1 hb1 rfl hc1 (by decide)
  go_wp2_with fail
  refine HO.mono ?_
  rintro e w2 ⟨v, rfl, ho2, hx2⟩
  rw [ho] at ho2 ⊢
  clear HO
  obtain ⟨A2, c2, rfl⟩ := ho2.form
  go_wp2
  go_ret
  exact ⟨rfl, hx1.trans hx2⟩
set_option maxHeartbeats 1000000 in
theorem rwrite_any {M : List Nat} {s : Dk} (h : RgC w q x age base size half gen lv bv') (hR : Rf M w x s) (hx : x ∈ M) (hM : ∀ k ∈ M, k < w.heap.size) (hcut : s.cut ≤ 9223372036854775807) (hm : s.waits.length ≤ 1000000) (k i : Nat) (hb : base ≤ 512) (h2 : size ≤ 256) (hk : k ≤ 1) (hi : i ≤ 1000)
    (A : Option Addr) (c : Nat) (l : By) (hw : wrongE s ((base + k * size + i : Nat) : Int) true = 0) (hl : l.length ≤ 64) (hbl : BsM M w A l) :
    Calls Try.prog 38 #[pt q, .int .i64 k, .int .i64 i, .slice A l.length c] w fun e w' => e = .returned (.int .i64 (writeE s ((base + k * size + i : Nat) : Int) l)) ∧ Kept [x] w w' ∧ Rf M w' x (writeS s ((base + k * size + i : Nat) : Int) l) := by
  obtain ⟨c0, c2, c3, -⟩ := h.cell
  have C0 : ∀ W, Ext w W → W.cell? ⟨q, 0, none⟩ = some (pt x) := fun W hx => hx.cell c0
  have C2 : ∀ W, Ext w W → W.cell? ⟨q, 2, none⟩ = some (.int .i64 base) := fun W hx => hx.cell c2
  have C3 : ∀ W, Ext w W → W.cell? ⟨q, 3, none⟩ = some (.int .i64 size) := fun W hx => hx.cell c3
  obtain ⟨A1, c1, A2, c2', hI⟩ := hR
  have HWR := fun W (he : Ext w W) => RWrite_ok W (hI.ext he) hx (fun k hk => Nat.lt_of_lt_of_le (hM k hk) he.size) hcut hm (base + k * size + i) A c l hw hl (BsM.kept hbl (.of_ext he))
  have hks : k * size ≤ 256 := by rcases Nat.lt_or_ge k 1 with h | h; (have : k = 0 := by omega); (subst this; omega); (have : k = 1 := by omega); (subst this; omega)
  have w1 : IntKind.i64.wrap ((k : Int) * (size : Int)) = ((k * size : Nat) : Int) := by rw [show ((k : Int) * (size : Int)) = ((k * size : Nat) : Int) by simp]; exact wrapI _ (by omega) (by omega)
  have w2 : IntKind.i64.wrap ((base : Int) + ((k * size : Nat) : Int)) = ((base + k * size : Nat) : Int) := by rw [wrapI _ (by omega) (by omega)]; omega
  have w3 : IntKind.i64.wrap (((base + k * size : Nat) : Int) + (i : Int)) = ((base + k * size + i : Nat) : Int) := by rw [wrapI _ (by omega) (by omega)]; omega
  have hxd := (Ext.refl w).drew
  clear h hI c0 c2 c3 hw hbl hcut
  generalize base + k * size + i = z at *
  generalize base + k * size = y at *
  generalize k * size = ks at *
  unfold pt at *
  go_enter Try.func38, Try.ntmps38
  go_wp2_with fail
  refine wp_region_phase (S := fun V => Ext w V) 18 (by kernel_rfl) (by kernel_rfl) ?_ (fun hHeld => ?_)
  · exact hxd
  simp only [List.drop_succ_cons, List.drop_zero]
  refine name_head ?_
  intro wr0 hw0
  rw [hw0] at hHeld
  refine wpHead_take (i := 0) (v := ?_) (by rfl) (by kernel_rfl) (by kernel_rfl) (by exact fun _ _ _ h => h) (Or.inl ⟨by rfl, ?_⟩) (by assumption) ?_
  rotate_left
  · intro w hSw
    first | (go_simp; done) | (go_simp; with_reducible rfl)
  simp only [List.getElem_toArray, List.getElem_cons_zero, Act.put, List.setIfInBounds_toArray, List.set_cons_zero, List.set_cons_succ]
  refine wpHead_take (i := 1) (v := ?_) (by rfl) (by kernel_rfl) (by kernel_rfl) (by exact fun _ _ _ h => h) (Or.inl ⟨by rfl, ?_⟩) (by assumption) ?_
  rotate_left
  · intro w hSw
    first | (go_simp; done) | (go_simp; with_reducible rfl)
  simp only [List.getElem_toArray, List.getElem_cons_succ, List.getElem_cons_zero, Act.put, List.setIfInBounds_toArray, List.set_cons_zero, List.set_cons_succ]
  refine wpHead_take (i := 2) (v := ?_) (by rfl) (by kernel_rfl) (by kernel_rfl) (by exact fun _ _ _ h => h) (Or.inl ⟨by rfl, ?_⟩) (by assumption) ?_
  rotate_left
  · intro w hSw
    first | (go_simp; done) | (go_simp; with_reducible rfl)
  simp only [List.getElem_toArray, List.getElem_cons_succ, List.getElem_cons_zero, Act.put, List.setIfInBounds_toArray, List.set_cons_zero, List.set_cons_succ]
  refine wpHead_take (i := 3) (v := ?_) (by rfl) (by kernel_rfl) (by kernel_rfl) (by exact fun _ _ _ h => h) (Or.inl ⟨by rfl, ?_⟩) (by assumption) ?_
  rotate_left
  · intro w hSw
    first | (go_simp; done) | (go_simp; with_reducible rfl)
  simp only [List.getElem_toArray, List.getElem_cons_succ, List.getElem_cons_zero, Act.put, List.setIfInBounds_toArray, List.set_cons_zero, List.set_cons_succ]
  refine wpHead_take (i := 4) (v := ?_) (by rfl) (by kernel_rfl) (by kernel_rfl) (by exact fun _ _ _ h => h) (Or.inl ⟨by rfl, ?_⟩) (by assumption) ?_
  rotate_left
  · intro w hSw
    first | (go_simp; done) | (go_simp; with_reducible rfl)
  simp only [List.getElem_toArray, List.getElem_cons_succ, List.getElem_cons_zero, Act.put, List.setIfInBounds_toArray, List.set_cons_zero, List.set_cons_succ]
  refine wpHead_take (i := 5) (v := ?_) (by rfl) (by kernel_rfl) (by kernel_rfl) (by exact fun _ _ _ h => h) (Or.inl ⟨by rfl, ?_⟩) (by assumption) ?_
  rotate_left
  · intro w hSw
    first | (go_simp; done) | (go_simp; with_reducible rfl)
  simp only [List.getElem_toArray, List.getElem_cons_succ, List.getElem_cons_zero, Act.put, List.setIfInBounds_toArray, List.set_cons_zero, List.set_cons_succ]
  refine wpHead_take (i := 6) (v := ?_) (by rfl) (by kernel_rfl) (by kernel_rfl) (by exact fun _ _ _ h => h) (Or.inl ⟨by rfl, ?_⟩) (by assumption) ?_
  rotate_left
  · intro w hSw
    first | (go_simp; done) | (go_simp; with_reducible rfl)
  simp only [List.getElem_toArray, List.getElem_cons_succ, List.getElem_cons_zero, Act.put, List.setIfInBounds_toArray, List.set_cons_zero, List.set_cons_succ]
  refine wpHead_take (i := 7) (v := ?_) (by rfl) (by kernel_rfl) (by kernel_rfl) (by exact fun _ _ _ h => h) (Or.inl ⟨by rfl, ?_⟩) (by assumption) ?_
  rotate_left
  · intro w hSw
    first | (go_simp; done) | (go_simp; with_reducible rfl)
  simp only [List.getElem_toArray, List.getElem_cons_succ, List.getElem_cons_zero, Act.put, List.setIfInBounds_toArray, List.set_cons_zero, List.set_cons_succ]
  refine wpHead_take (i := 8) (v := ?_) (by rfl) (by kernel_rfl) (by kernel_rfl) (by exact fun _ _ _ h => h) (Or.inl ⟨by rfl, ?_⟩) (by assumption) ?_
  rotate_left
  · intro w hSw
    first | (go_simp; done) | (go_simp; with_reducible rfl)
  simp only [List.getElem_toArray, List.getElem_cons_succ, List.getElem_cons_zero, Act.put, List.setIfInBounds_toArray, List.set_cons_zero, List.set_cons_succ]
  refine wpHead_take (i := 9) (v := ?_) (by rfl) (by kernel_rfl) (by kernel_rfl) (by exact fun _ _ _ h => h) (Or.inl ⟨by rfl, ?_⟩) (by assumption) ?_
  rotate_left
  · intro w hSw
    first | (go_simp; done) | (go_simp; with_reducible rfl)
  simp only [List.getElem_toArray, List.getElem_cons_succ, List.getElem_cons_zero, Act.put, List.setIfInBounds_toArray, List.set_cons_zero, List.set_cons_succ]
  refine wpHead_take (i := 10) (v := ?_) (by rfl) (by kernel_rfl) (by kernel_rfl) (by exact fun _ _ _ h => h) (Or.inl ⟨by rfl, ?_⟩) (by assumption) ?_
  rotate_left
  · intro w hSw
    first | (go_simp; done) | (go_simp; with_reducible rfl)
  simp only [List.getElem_toArray, List.getElem_cons_succ, List.getElem_cons_zero, Act.put, List.setIfInBounds_toArray, List.set_cons_zero, List.set_cons_succ]
  refine wpHead_take (i := 11) (v := ?_) (by rfl) (by kernel_rfl) (by kernel_rfl) (by exact fun _ _ _ h => h) (Or.inl ⟨by rfl, ?_⟩) (by assumption) ?_
  rotate_left
  · intro w hSw
    first | (go_simp; done) | (go_simp; with_reducible rfl)
  simp only [List.getElem_toArray, List.getElem_cons_succ, List.getElem_cons_zero, Act.put, List.setIfInBounds_toArray, List.set_cons_zero, List.set_cons_succ]
  refine wpHead_take (i := 12) (v := ?_) (by rfl) (by kernel_rfl) (by kernel_rfl) (by exact fun _ _ _ h => h) (Or.inl ⟨by rfl, ?_⟩) (by assumption) ?_
  rotate_left
  · intro w hSw
    first | (go_simp; done) | (go_simp; with_reducible rfl)
  simp only [List.getElem_toArray, List.getElem_cons_succ, List.getElem_cons_zero, Act.put, List.setIfInBounds_toArray, List.set_cons_zero, List.set_cons_succ]
  refine wpHead_take (i := 13) (v := ?_) (by rfl) (by kernel_rfl) (by kernel_rfl) (by exact fun _ _ _ h => h) (Or.inl ⟨by rfl, ?_⟩) (by assumption) ?_
  rotate_left
  · intro w hSw
    first | (go_simp; done) | (go_simp; with_reducible rfl)
  simp only [List.getElem_toArray, List.getElem_cons_succ, List.getElem_cons_zero, Act.put, List.setIfInBounds_toArray, List.set_cons_zero, List.set_cons_succ]
  refine wpHead_take (i := 14) (v := ?_) (by rfl) (by kernel_rfl) (by kernel_rfl) (by exact fun _ _ _ h => h) (Or.inl ⟨by rfl, ?_⟩) (by assumption) ?_
  rotate_left
  · intro w hSw
    first | (go_simp; done) | (go_simp; with_reducible rfl)
  simp only [List.getElem_toArray, List.getElem_cons_succ, List.getElem_cons_zero, Act.put, List.setIfInBounds_toArray, List.set_cons_zero, List.set_cons_succ]
  refine wpHead_take (i := 15) (v := ?_) (by rfl) (by kernel_rfl) (by kernel_rfl) (by exact fun _ _ _ h => h) (Or.inl ⟨by rfl, ?_⟩) (by assumption) ?_
  rotate_left
  · intro w hSw
    first | (go_simp; done) | (go_simp; with_reducible rfl)
  simp only [List.getElem_toArray, List.getElem_cons_succ, List.getElem_cons_zero, Act.put, List.setIfInBounds_toArray, List.set_cons_zero, List.set_cons_succ]
  refine wpHead_take (i := 16) (v := ?_) (by rfl) (by kernel_rfl) (by kernel_rfl) (by exact fun _ _ _ h => h) (Or.inl ⟨by rfl, ?_⟩) (by assumption) ?_
  rotate_left
  · intro w hSw
    first | (go_simp; done) | (go_simp; with_reducible rfl)
  simp only [List.getElem_toArray, List.getElem_cons_succ, List.getElem_cons_zero, Act.put, List.setIfInBounds_toArray, List.set_cons_zero, List.set_cons_succ]
  refine wpHead_take (i := 17) (v := ?_) (by rfl) (by kernel_rfl) (by kernel_rfl) (by exact fun _ _ _ h => h) (Or.inl ⟨by rfl, ?_⟩) (by assumption) ?_
  rotate_left
  · intro w hSw
    first | (go_simp; done) | (go_simp; with_reducible rfl)
  simp only [List.getElem_toArray, List.getElem_cons_succ, List.getElem_cons_zero, Act.put, List.setIfInBounds_toArray, List.set_cons_zero, List.set_cons_succ]
  refine wpHead_done (by kernel_rfl) ?_
  clear C0 C2 C3 hxd w1 w2 w3
  have HW := HWR wr0 hHeld
  go_wp2_with fail
  refine HW.mono ?_
  rintro e w5 ⟨rfl, hk5, hr5⟩
  go_wp2
  go_ret
  exact ⟨rfl, (Kept.of_ext hHeld).trans hk5, hr5⟩
set_option maxHeartbeats 2000000 in
theorem rsetHead_any {s : Dk} (h : RgC w q x age base size half gen lv bv') (hqx : q ≠ x) (hR : Rf [x] w x s) (hs : s.Ok) (hd : s.down = false) (hcut : s.cut ≤ 9223372036854775807) (hm : s.waits.length ≤ 100000) (hAge : s.age ≤ 100000) (k g2 : Nat) (hb : base ≤ 512) (h2 : size ≤ 256) (hk : k ≤ 1) (hin : base + k * size < s.sure.length) :
    Calls Try.prog 40 #[pt q, .int .i64 k, .int .u64 g2] w fun e w' => e = .returned (.int .i64 (crownD s (base + k * size) g2).1) ∧ Kept [x] w w' ∧ Rf [x] w' x (crownD s (base + k * size) g2).2 := by
  have HN := rnumber_any g2 w
  have HBL := be_length 8 g2
  have hxl : x < w.heap.size := by obtain ⟨_, _, _, _, hI⟩ := hR; exact hI.lt
  have HC : Hid (crownD s (base + k * size) g2 = if writeE s (base + k * size : Nat) (packL (be 8 g2)) ≠ 0 then (writeE s (base + k * size : Nat) (packL (be 8 g2)), writeS s (base + k * size : Nat) (packL (be 8 g2))) else (flushE (writeS s (base + k * size : Nat) (packL (be 8 g2))), flushS (writeS s (base + k * size : Nat) (packL (be 8 g2))))) := Lib.hid rfl
  have HPL := packL_len (be 8 g2)
  rw [HBL] at HPL
  have HR := Lib.hid h
  have HD := Lib.hid hR
  clear h hR
  generalize hbe : be 8 g2 = bb at *
  generalize hpk : packL bb = pk at *
  have HPK := Lib.hid hpk
  have HBB := Lib.hid HBL
  have hpl : pk.length ≤ 14 := by omega
  clear hbe hpk HBL HPL
  unfold pt at *
  go_enter Try.func40, Try.ntmps40
  go_wp2_with fail
  refine HN.mono ?_
  rintro e w1 ⟨v1, rfl, ho1, hx1⟩
  clear HN
  obtain ⟨A1, c1, rfl⟩ := ho1.form
  have HP := RPack_ok A1 c1 bb.length bb w1 ho1.bs rfl (by have := HBB.out; omega) (by have := HBB.out; omega)
  rw [HPK.out] at HP
  clear ho1
  go_wp2_with fail
  refine HP.mono ?_
  rintro e w2 ⟨v2, rfl, ho2, hx2'⟩
  obtain ⟨A2, c2, rfl⟩ := ho2.form
  have hx2 := hx1.trans hx2'
  have hr2 : Rf [x] w2 x s := by obtain ⟨a1, a2, a3, a4, hI⟩ := HD.out; exact ⟨a1, a2, a3, a4, hI.ext hx2⟩
  have hbm : BsM [x] w2 A2 pk := BsM.own ho2 (by intro k hk; simp at hk; subst hk; have := hx1.size; omega)
  have HWR := rwrite_any (HR.out.ext hx2) hr2 (by simp) (by intro k hk; simp at hk; subst hk; have := hx2.size; omega) hcut (by omega) k 0 hb h2 hk (by omega) A2 c2 pk (wrong_ok hd (by omega)) (by omega) hbm
  rw [Nat.add_zero] at HWR
  have HX2 := Lib.hid hx2
  clear HP hx2' hx1 hx2 ho2 hbm hr2
  have hok := writeS_ok hs ((base + k * size : Nat) : Int) pk
  have hfw := writeS_few (n := 100000) (s := s) ⟨hm, hAge, hcut⟩ ((base + k * size : Nat) : Int) pk
  generalize writeE s ((base + k * size : Nat) : Int) pk = ew at *
  generalize writeS s ((base + k * size : Nat) : Int) pk = s2 at *
  unfold pt at HWR
  go_wp2_with fail
  refine HWR.mono ?_
  rintro e w4 ⟨rfl, hk4, hr4⟩
  clear HWR
  have HRR := Lib.hid ((HR.out.ext HX2.out).kept hk4 (by simpa using hqx))
  have HK4 := Lib.hid ((Kept.of_ext HX2.out).trans hk4)
  have HR4 := Lib.hid hr4
  have hs4 := hk4.size
  obtain ⟨c0, -⟩ := HRR.out.cell
  clear hk4 hr4
  by_cases hw : ew = 0
  · have dw : (ew == 0) = true := by simp [hw]
    rw [if_neg (by simp [hw])] at HC
    clear hw
    have HFL : Calls Try.prog 39 #[pt x] w4 fun e w' => e = .returned (.int .i64 (flushE s2)) ∧ Kept [x] w4 w' ∧ Rf [x] w' x (flushS s2) := by
      obtain ⟨a1, a2, a3, a4, hI⟩ := HR4.out
      exact RFlush_any w4 hI (by simp) (by intro k hk; simp at hk; subst hk; exact hI.lt) hok hfw.cut (by have := hfw.waits; omega)
    unfold pt at *
    go_wp2_with fail
    refine HFL.mono ?_
    rintro e w5 ⟨rfl, hk5, hr5⟩
    go_wp2
    go_ret
    exact ⟨by rw [HC.out]; rfl, HK4.out.trans hk5, by rw [HC.out]; exact hr5⟩
  · have dw : (ew == 0) = false := by simpa using hw
    rw [if_pos hw] at HC
    clear hw
    unfold pt at *
    go_wp2
    go_ret
    exact ⟨by rw [HC.out]; rfl, HK4.out, by rw [HC.out]; exact HR4.out⟩
end
end Go.Proofs.Ytklodimokhndoaa
namespace Go.Proofs.Ytklodimokhndoaa
open Go.RowKit
set_option maxRecDepth 20000 in
set_option maxHeartbeats 1000000 in
theorem ropen_bad {M : List Nat} {w : World} {x : Nat} {s : Dk} (hR : Rf M w x s) (hs : s.Ok) (a b : Int) (he : openE s a b ≠ 0) :
    Calls Try.prog 11 #[pt x, .int .i64 a, .int .i64 b] w fun e w' => e = .returned (.tuple #[.pointer none, .int .i64 (openE s a b)]) ∧ Ext w w' := by
  have HE : Hid (openE s a b = if s.down = true then 7 else if a < 0 ∨ b < 4 ∨ 512 < b ∨ 512 < a then 2 else if a + b ≤ s.sure.length then 0 else 2) := Lib.hid rfl
  obtain ⟨A1, c1, A2, c2, hI⟩ := hR
  obtain ⟨x0, -, x2, -⟩ := hI.cells
  replace x0 := x0 w (Ext.refl _)
  replace x2 := x2 w (Ext.refl _)
  have HNE := Lib.hid he
  have hz2 := hs.n2
  clear hI he hs
  unfold pt at *
  go_enter Try.func11, Try.ntmps11
  by_cases hd : s.down = true
  · rw [hd] at x2
    have HV := Lib.hid (HE.out.trans (if_pos hd))
    clear HE hd HNE
    go_wp2
    go_ret2
    exact ⟨by rw [HV.out]; rfl, Ext.refl _⟩
  · have hdf : s.down = false := by simpa using hd
    rw [if_neg hd] at HE
    clear hd
    rw [hdf] at x2
    clear hdf
    by_cases h1 : a < 0
    · have HV := Lib.hid (HE.out.trans (if_pos (.inl h1)))
      clear HE HNE
      go_wp2
      go_ret2
      exact ⟨by rw [HV.out]; rfl, Ext.refl _⟩
    · by_cases h2 : b < 4
      · have HV := Lib.hid (HE.out.trans (if_pos (.inr (.inl h2))))
        clear HE HNE
        go_wp2
        go_ret2
        exact ⟨by rw [HV.out]; rfl, Ext.refl _⟩
      · by_cases h3 : 512 < b
        · have HV := Lib.hid (HE.out.trans (if_pos (.inr (.inr (.inl h3)))))
          clear HE HNE
          go_wp2
          go_ret2
          exact ⟨by rw [HV.out]; rfl, Ext.refl _⟩
        · by_cases h4 : 512 < a
          · have HV := Lib.hid (HE.out.trans (if_pos (.inr (.inr (.inr h4)))))
            clear HE HNE
            go_wp2
            go_ret2
            exact ⟨by rw [HV.out]; rfl, Ext.refl _⟩
          · rw [if_neg (by omega)] at HE
            have h5 : ¬ a + b ≤ s.sure.length := fun h => HNE.out (by rw [HE.out, if_pos h])
            have HV := Lib.hid (HE.out.trans (if_neg h5))
            have h6 : (s.sure.length : Int) < a + b := by omega
            have w1' : IntKind.i64.wrap (a + b) = a + b := wrapI _ (by omega) (by omega)
            clear HE HNE h5
            go_wp2
            go_ret2
            exact ⟨by rw [HV.out]; rfl, Ext.refl _⟩
set_option maxRecDepth 20000 in
set_option maxHeartbeats 4000000 in
theorem ropen_new {w : World} {x : Nat} {s : Dk} (hR : Rf [x] w x s) (hs : s.Ok) (hd : s.down = false) (hcut : s.cut ≤ 9223372036854775807) (hm : s.waits.length ≤ 1000) (ha : s.age ≤ 1000) (hz : ∀ i : Nat, i < s.sure.length → readL s (i : Int) = zpage) (b m : Nat) (hb : b ≤ 512) (hm1 : 4 ≤ m) (hm2 : m ≤ 512) (hin : b + m ≤ s.sure.length)
    (hfl : flushE s = 0) (hfd : (flushS s).down = false) (hcr : (crownD (flushS s) b 1).1 = 0) :
    Calls Try.prog 11 #[pt x, .int .i64 b, .int .i64 m] w fun e w' => ∃ q, e = .returned (.tuple #[pt q, .int .i64 0]) ∧ Kept [x] w w' ∧ w.heap.size ≤ q ∧ RgC w' q x s.age b (m / 2) 0 1 (.slice none 0 0) (.slice none 0 0) := by
  have hxl : x < w.heap.size := by obtain ⟨_, _, _, _, hI⟩ := hR; exact hI.lt
  obtain ⟨a1, a2, a3, a4, hI⟩ := hR
  obtain ⟨x0, -, x2, -, x4, -⟩ := hI.cells
  replace x0 := x0 w (Ext.refl _)
  replace x2 := x2 w (Ext.refl _)
  replace x4 := x4 w (Ext.refl _)
  rw [hd] at x2
  have HI := Lib.hid hI
  have hgz := hs.n2
  have h1 : ¬ (b : Int) < 0 := by omega
  have h2 : ¬ (m : Int) < 4 := by omega
  have h3 : ¬ (512 : Int) < (m : Int) := by omega
  have h4 : ¬ (512 : Int) < (b : Int) := by omega
  have h5 : ¬ (s.sure.length : Int) < (b : Int) + (m : Int) := by omega
  have w1' : IntKind.i64.wrap ((b : Int) + (m : Int)) = (b : Int) + (m : Int) := wrapI _ (by omega) (by omega)
  have hq2 : (m : Int) / 2 = ((m / 2 : Nat) : Int) := by omega
  have hz1 : 2 ≤ m / 2 := by omega
  have hz2 : m / 2 ≤ 256 := by omega
  have hz3 : b + m / 2 + m / 2 ≤ s.sure.length := by omega
  have HFL := Lib.hid hfl
  have HCR := Lib.hid hcr
  have HFD := Lib.hid hfd
  clear hI hfl hcr hfd
  generalize m / 2 = sz at *
  have hr := heap_alloc_new w (.cells #[pt x, .int .i64 s.age, .int .i64 b, .int .i64 sz, .int .i64 0, .int .u64 0, .slice none 0 0, .slice none 0 0] 85)
  have hx4 := (Ext.refl w).alloc (.cells #[pt x, .int .i64 s.age, .int .i64 b, .int .i64 sz, .int .i64 0, .int .u64 0, .slice none 0 0, .slice none 0 0] 85)
  obtain ⟨wc, hwc⟩ : ∃ wc, w.alloc (.cells #[pt x, .int .i64 s.age, .int .i64 b, .int .i64 sz, .int .i64 0, .int .u64 0, .slice none 0 0, .slice none 0 0] 85) = wc := ⟨_, rfl⟩
  rw [hwc] at hr hx4
  have HWC := Lib.hid hwc
  have HQ : Hid (w.heap.size ≤ w.heap.size) := Lib.hid (Nat.le_refl _)
  have HR4 : Hid (RgC wc w.heap.size x s.age b sz 0 0 (.slice none 0 0) (.slice none 0 0)) := Lib.hid hr
  have HX4 := Lib.hid hx4
  have hrf : Rf [x] wc x s := ⟨a1, a2, a3, a4, HI.out.ext hx4⟩
  have HH0 := rhead_zero HR4.out hrf (by omega) 0 hb hz2 (by omega) (hz _ (by omega))
  have HH1 := fun W (hx : Ext wc W) => rhead_zero (HR4.out.ext hx) (w := W) ⟨a1, a2, a3, a4, HI.out.ext (HX4.out.trans hx)⟩ (by omega) 1 hb hz2 (by omega) (hz _ (by omega))
  clear hwc hr hx4 hrf
  unfold pt at *
  go_enter Try.func11, Try.ntmps11
  go_wp2_with fail
  rw [HWC.out]
  refine HH0.mono ?_
  rintro e w5 ⟨rfl, hx5⟩
  clear HH0 x0 x2 x4 HWC
  go_wp2_with fail
  refine (HH1 _ hx5).mono ?_
  rintro e w6 ⟨rfl, hx6'⟩
  have hx6 := hx5.trans hx6'
  clear HH1 hx5 hx6'
  have HR6 := Lib.hid (HR4.out.ext hx6)
  have HX6 := Lib.hid (HX4.out.trans hx6)
  obtain ⟨-, -, -, c5, -, -, f6⟩ := HR6.out.cell
  have f5 := f6 5
  have HK7 : Hid (Ext w (w6.setCell ⟨w.heap.size, 5, none⟩ (.int .u64 1))) := Lib.hid (HX6.out.setCell (p := ⟨w.heap.size, 5, none⟩) (Nat.le_refl _) _)
  have HR7 : Hid (RgC (w6.setCell ⟨w.heap.size, 5, none⟩ (.int .u64 1)) w.heap.size x s.age b sz 0 1 (.slice none 0 0) (.slice none 0 0)) := Lib.hid (by
    have := heap_setCell_same w6 w.heap.size 5 _ _ (.int .u64 1) HR6.out
    simpa [RgC] using this)
  clear HR4 HX4 HR6 HX6 hx6 f6
  go_wp2_with fail
  obtain ⟨w7, hw7⟩ : ∃ w7, w6.setCell ⟨w.heap.size, 5, none⟩ (.int .u64 1) = w7 := ⟨_, rfl⟩
  rw [hw7] at HK7 HR7
  have HW7 := Lib.hid hw7
  clear hw7 c5 f5
  have HI7 := fun W (hx : Ext w7 W) => HI.out.ext (HK7.out.trans hx)
  rw [HW7.out]
  go_loopw [11] (fun iv wr => ∃ k : Nat, iv = .int .i64 ((k + 1 : Nat) : Int) ∧ k + 1 ≤ sz ∧ Hid (Ext w7 wr)) (fun iv _ => sz - (intOf iv).toNat)
  case atStart => exact ⟨0, rfl, by omega, Lib.hid (Ext.refl _)⟩
  case round =>
    obtain ⟨k, rfl, hk, HX⟩ := hrel
    have HRr := Lib.hid (HR7.out.ext HX.out)
    obtain ⟨-, -, c3, -, -, -, -⟩ := HRr.out.cell
    by_cases hlt : k + 1 < sz
    · have hlt2 : (k : Int) + 1 < (sz : Int) := by omega
      have HP := rpage_any HRr.out (M := [x]) (s := s) ⟨a1, a2, a3, a4, HI7 wr HX.out⟩ (by omega) 0 (k + 1) hb hz2 (by omega) (by omega)
      rw [hz _ (by omega)] at HP
      have h64 : zpage.length = 64 := rfl
      rw [h64] at HP
      have wk : IntKind.i64.wrap ((k : Int) + 1 + 1) = (k : Int) + 1 + 1 := wrapI _ (by omega) (by omega)
      unfold pt at HP
      clear h64
      go_wp2_with fail
      refine HP.mono ?_
      rintro e w8 ⟨A8, c8, rfl, hb8, hx8, hc8⟩
      have HEM := rempty_zero A8 c8 64 w8 hb8 (by omega)
      clear HP
      go_wp2_with fail
      refine HEM.mono ?_
      rintro e w9 ⟨rfl, hw9⟩
      subst hw9
      clear HEM
      have HX9 := Lib.hid (HX.out.trans hx8)
      clear hx8 hb8
      go_wp2
      go_roundw
      case rel => exact ⟨k + 1, by go_num, by omega, HX9⟩
      case measure => simp [intOf]; omega
    · have hlt2 : ¬ (k : Int) + 1 < (sz : Int) := by omega
      have HFLU := RFlush_any wr (HI7 wr HX.out) (by simp) (by intro k hk; simp at hk; subst hk; have := HK7.out.size; have := HX.out.size; omega) hs hcut (by omega)
      rw [HFL.out] at HFLU
      unfold pt at HFLU
      go_wp2_with fail
      refine HFLU.mono ?_
      rintro e w8 ⟨rfl, hk8, hr8⟩
      have hqx : w.heap.size ≠ x := by omega
      have HSH := rsetHead_any (HRr.out.kept hk8 (by simpa using hqx)) hqx hr8 (flushS_ok hs) HFD.out (flushS_few (n := 1000) ⟨hm, ha, hcut⟩).cut (Nat.le_trans (flushS_few (n := 1000) ⟨hm, ha, hcut⟩).waits (by omega)) (Nat.le_trans (flushS_few (n := 1000) ⟨hm, ha, hcut⟩).age (by omega)) 0 1 hb hz2 (by omega) (by rw [flushS_len]; omega)
      rw [Nat.zero_mul, Nat.add_zero, HCR.out] at HSH
      have HR8 := Lib.hid (HRr.out.kept hk8 (by simpa using hqx))
      have HK8 := Lib.hid ((Kept.of_ext (M := [x]) (HK7.out.trans HX.out)).trans hk8)
      unfold pt at HSH
      clear HFLU hk8 hr8
      go_wp2_with fail
      refine HSH.mono ?_
      rintro e w9 ⟨rfl, hk9, hr9⟩
      clear HSH
      go_wp2
      go_ret2
      exact ⟨w.heap.size, rfl, HK8.out.trans hk9, Nat.le_refl _, HR8.out.kept hk9 (by simpa using hqx)⟩
end Go.Proofs.Ytklodimokhndoaa
namespace Go.Proofs.Ytklodimokhndoaa
open Go.RowKit
theorem rRoom_nil (w : World) : Calls Try.prog 14 #[.pointer none] w fun e w' => e = .returned (.int .i64 0) ∧ Ext w w' := by
  go_enter Try.func14, Try.ntmps14
  go_wp2
  go_ret
  exact ⟨rfl, Ext.refl _⟩
set_option maxHeartbeats 1000000 in
theorem rRoom_new {w : World} {q x age base size half gen : Nat} {lv : Value} (h : RgC w q x age base size half gen lv (.slice none 0 0)) (h1 : 1 ≤ size) (h2 : size ≤ 256) :
    Calls Try.prog 14 #[pt q] w fun e w' => e = .returned (.int .i64 ((min (61 * (size - 1)) 2000 : Nat) : Int)) ∧ Ext w w' := by
  obtain ⟨-, -, c3, -, -, c7, -⟩ := h.cell
  have HL := rleft_any 0 w (by omega)
  have w1 : IntKind.i64.wrap ((size : Int) - 1) = ((size - 1 : Nat) : Int) := by rw [wrapI _ (by omega) (by omega)]; omega
  have w2 : IntKind.i64.wrap (64 * ((size - 1 : Nat) : Int)) = ((64 * (size - 1) : Nat) : Int) := by rw [wrapI _ (by omega) (by omega)]; omega
  clear h
  generalize hs : size - 1 = N at *
  have hN : N ≤ 256 := by omega
  clear hs
  have w3 : ((64 * N : Nat) : Int) = 64 * (N : Int) := by omega
  rw [w3] at w2
  clear w3
  unfold pt
  go_enter Try.func14, Try.ntmps14
  go_wp2
  go_loopw [3] (fun iv wr => iv = .int .i64 0 ∧ wr = w) (fun _ _ => 0)
  case atStart => exact ⟨rfl, rfl⟩
  case round =>
    obtain ⟨rfl, rfl⟩ := hrel
    go_wp2_with fail
    refine HL.mono ?_
    rintro e wo ⟨rfl, hwo⟩
    subst hwo
    clear HL
    go_wp2
    go_loopw [3, 4] (fun iv nv wr => ∃ k : Nat, iv = .int .i64 (64 * (k : Int)) ∧ nv = .int .i64 (61 * (k : Int)) ∧ k ≤ N ∧ wr = wo) (fun iv _ _ => 64 * N - (intOf iv).toNat)
    case atStart => exact ⟨0, rfl, rfl, by omega, rfl⟩
    case round =>
      obtain ⟨k, rfl, rfl, hk, rfl⟩ := hrel
      by_cases hlt : k < N
      · have hlt2 : 64 * (k : Int) < 64 * (N : Int) := by omega
        have HL1 := rleft_any (64 * k) wr (by omega)
        rw [show (64 - 64 * k % 64) = 64 by omega, show ((64 * k : Nat) : Int) = 64 * (k : Int) by omega] at HL1
        have e1 : IntKind.i64.wrap (61 * (k : Int) + 64) = 61 * (k : Int) + 64 := wrapI _ (by omega) (by omega)
        have e2 : IntKind.i64.wrap (61 * (k : Int) + 64 - 3) = 61 * ((k + 1 : Nat) : Int) := by rw [wrapI _ (by omega) (by omega)]; omega
        have e3 : IntKind.i64.wrap (64 * (k : Int) + 64) = 64 * ((k + 1 : Nat) : Int) := by rw [wrapI _ (by omega) (by omega)]; omega
        generalize hkk : k + 1 = k1 at *
        go_wp2_with fail
        refine HL1.mono ?_
        rintro e w2 ⟨rfl, hw2⟩
        subst hw2
        go_wp2_with fail
        refine HL1.mono ?_
        rintro e w2 ⟨rfl, hw2⟩
        subst hw2
        clear HL1
        go_wp2
        go_roundw
        case rel => exact ⟨k1, rfl, rfl, by omega, trivial⟩
        case measure => simp [intOf]; omega
      · obtain rfl : k = N := by omega
        have hlt2 : ¬ 64 * (k : Int) < 64 * (k : Int) := by omega
        by_cases h2k : (2000 : Int) < 61 * (k : Int)
        · go_wp2
          go_ret
          exact ⟨by rw [show min (61 * k) 2000 = 2000 by omega]; rfl, Ext.refl _⟩
        · go_wp2
          go_ret
          exact ⟨by rw [show min (61 * k) 2000 = 61 * k by omega]; exact ret_int (by omega), Ext.refl _⟩
end Go.Proofs.Ytklodimokhndoaa
