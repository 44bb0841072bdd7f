/- The walk of frame.One: what it answers at every bytes and place. Conditions: the slice is one (its length is at most its capacity). -/
import Derived.Test.YtklodimokhndoaaFrm
import Derived.Deep.RegionHeld3
namespace Go.Proofs.Ytklodimokhndoaa
open Go.RowKit
/-- what One tells: what is held, the place behind it, the error -/
def oneL (b : List UInt8) (at_ : Int) : List UInt8 × Int × Int :=
  if at_ < 0 ∨ (b.length : Int) < at_ then ([], 0, 2)
  else if (b.drop at_.toNat).length < 6 then ([], 0, 3)
  else if numL ((b.drop at_.toNat).take 2) = 0 ∨ 2000 < numL ((b.drop at_.toNat).take 2) then ([], 0, 4)
  else if (b.drop at_.toNat).length < 6 + numL ((b.drop at_.toNat).take 2) then ([], 0, 3)
  else if crcF [(b.drop at_.toNat).take 2, ((b.drop at_.toNat).drop 6).take (numL ((b.drop at_.toNat).take 2))] ≠ numL (((b.drop at_.toNat).drop 2).take 4) then ([], 0, 5)
  else (((b.drop at_.toNat).drop 6).take (numL ((b.drop at_.toNat).take 2)), at_ + 6 + numL ((b.drop at_.toNat).take 2), 0)
def OneSays (b : List UInt8) (at_ : Int) (w : World) (e : Ending) (w' : World) : Prop :=
  ∃ v, e = .returned (.tuple #[v, .int .i64 (oneL b at_).2.1, .int .i64 (oneL b at_).2.2]) ∧ Own w' w.heap.size v (oneL b at_).1 ∧ Ext w w'
theorem OneSays.bad {b : List UInt8} {at_ : Int} {w w' : World} {n : Int} (h : oneL b at_ = ([], 0, n)) (hx : Ext w w') : OneSays b at_ w (.returned (.tuple #[.slice none 0 0, .int .i64 0, .int .i64 n])) w' := by
  refine ⟨.slice none 0 0, ?_, ?_, hx⟩
  · rw [h]
  · rw [h]; exact Own.nil _ _
theorem OneSays.good {b p : List UInt8} {at_ : Int} {w w' : World} {n : Int} {v : Value} (h : oneL b at_ = (p, n, 0)) (ho : Own w' w.heap.size v p) (hx : Ext w w') : OneSays b at_ w (.returned (.tuple #[v, .int .i64 n, .int .i64 0])) w' := by
  refine ⟨v, ?_, ?_, hx⟩
  · rw [h]
  · rw [h]; exact ho
theorem size8 : ∀ w, (Go.sizeOf 5).run Try.prog w = .ok 1 w := fun _ => by kernel_rfl
set_option maxHeartbeats 400000 in
theorem One_any (A : Option Addr) (cap n : Nat) (b : List UInt8) (at_ : Int) (w : World) (h : Bs w A b) (hl : n = b.length) (hc : b.length ≤ cap) (hm : cap ≤ 9223372036854775807) :
    Calls Try.prog 55 #[.slice A n cap, .int .i64 at_] w (OneSays b at_ w) := by
  subst hl
  by_cases h1 : at_ < 0 ∨ (b.length : Int) < at_
  · have hs : oneL b at_ = ([], 0, 2) := by unfold oneL; rw [if_pos h1]
    have HS := Lib.hid hs
    clear hs
    by_cases h2 : at_ < 0
    · go_enter Try.func55, Try.ntmps55
      go_wp2
      go_ret3
      exact OneSays.bad HS.out (Ext.refl _)
    · have h3 : (b.length : Int) < at_ := by omega
      clear h1
      go_enter Try.func55, Try.ntmps55
      go_wp2
      go_ret3
      exact OneSays.bad HS.out (Ext.refl _)
  obtain ⟨k, rfl⟩ : ∃ k : Nat, at_ = (k : Int) := ⟨at_.toNat, by omega⟩
  have hk : k ≤ b.length := by omega
  clear h1
  obtain ⟨A1, e1, f1⟩ := cutB_l Try.underlying46 size8 A b.length cap b k rfl rfl hc hk
  have hb1 := f1 w h
  have hr : (b.drop k).length = b.length - k := by simp
  clear f1
  by_cases h2 : b.length - k < 6
  · have hs : oneL b k = ([], 0, 3) := by unfold oneL; rw [if_neg (by omega), if_pos (by simp; omega)]
    have HS := Lib.hid hs
    clear hs
    have h3 : ((b.length - k : Nat) : Int) < 6 := by omega
    clear h2
    go_enter Try.func55, Try.ntmps55
    go_wp2
    go_ret3
    exact OneSays.bad HS.out (Ext.refl _)
  generalize hrr : b.drop k = r at *
  obtain ⟨A2, e2, f2⟩ := cutB_h Try.underlying46 size8 A1 (b.length - k) (cap - k) r 2 (hi := 2) rfl hr (by omega) (by omega)
  have h3 : (6 : Int) ≤ ((b.length - k : Nat) : Int) := by omega
  have HS : Hid (oneL b k = if numL (r.take 2) = 0 ∨ 2000 < numL (r.take 2) then (([], 0, 4) : List UInt8 × Int × Int)
    else if r.length < 6 + numL (r.take 2) then ([], 0, 3)
    else if crcF [r.take 2, (r.drop 6).take (numL (r.take 2))] ≠ numL ((r.drop 2).take 4) then ([], 0, 5)
    else ((r.drop 6).take (numL (r.take 2)), (k : Int) + 6 + numL (r.take 2), 0)) := by
    unfold oneL
    rw [if_neg (by omega), Int.toNat_natCast, hrr, if_neg (by omega)]
    exact rfl
  have hn2 := numL_lt (r.take 2) 2 (by simp; omega)
  rw [List.take_take, Nat.min_self] at hn2
  have HN := fun w (hb : Bs w A2 (r.take 2)) => fnum_any A2 (cap - k) 2 (r.take 2) w hb (by simp; omega) (by simp; omega)
  have hb2 := f2 w hb1
  clear f2
  generalize hnn : numL (r.take 2) = m at *
  by_cases h4 : m = 0 ∨ 2000 < m
  · have HS2 := Lib.hid (HS.out.trans (if_pos h4))
    clear HS h2 hk
    have HNN := Lib.hid hnn
    have HNC := Lib.hid HN
    clear hnn HN hrr
    by_cases h5 : m = 0
    · have h6 : ((m : Int) == 0) = true := by rw [h5]; rfl
      clear h4 h5
      go_enter Try.func55, Try.ntmps55
      go_wp2_with fail
      refine (HNC.out _ hb2).mono ?_
      rintro e w1 ⟨rfl, rfl⟩
      go_wp2
      go_ret3
      exact OneSays.bad HS2.out (Ext.refl _)
    · have h6 : ((m : Int) == 0) = false := beq_eq_false_iff_ne.2 (by omega)
      have h7 : (2000 : Int) < m := by omega
      clear h4 h5
      go_enter Try.func55, Try.ntmps55
      go_wp2_with fail
      refine (HNC.out _ hb2).mono ?_
      rintro e w1 ⟨rfl, rfl⟩
      go_wp2
      go_ret3
      exact OneSays.bad HS2.out (Ext.refl _)
  have h5 : ((m : Int) == 0) = false := beq_eq_false_iff_ne.2 (by omega)
  have h6 : (m : Int) ≤ 2000 := by omega
  have h7 : 0 < m := by omega
  have HS2 := Lib.hid (HS.out.trans (if_neg h4))
  clear HS h4
  by_cases h8 : r.length < 6 + m
  · have HS3 := Lib.hid (HS2.out.trans (if_pos h8))
    have h9 : ((b.length - k : Nat) : Int) < 6 + (m : Int) := by omega
    have HNN := Lib.hid hnn
    have HNC := Lib.hid HN
    clear hnn HN hrr h8 h2 hk HS2 hr
    go_enter Try.func55, Try.ntmps55
    go_wp2_with fail
    refine (HNC.out _ hb2).mono ?_
    rintro e w1 ⟨rfl, rfl⟩
    go_wp2
    go_ret3
    exact OneSays.bad HS3.out (Ext.refl _)
  have HS3 := Lib.hid (HS2.out.trans (if_neg h8))
  clear HS2
  obtain ⟨A3, e3, f3⟩ := cutB_lh Try.underlying46 size8 A1 (b.length - k) (cap - k) r 6 (6 + m) (li := 6) (hi := 6 + (m : Int)) rfl (by omega) hr (by omega) (by omega) (by omega)
  obtain ⟨A4, e4, f4⟩ := cutB_lh Try.underlying46 size8 A1 (b.length - k) (cap - k) r 2 6 (li := 2) (hi := 6) rfl rfl hr (by omega) (by omega) (by omega)
  have hb3 := f3 w hb1
  have hb4 := f4 w hb1
  rw [Nat.add_sub_cancel_left] at e3 hb3
  clear f3 f4
  have h9 : (6 : Int) + (m : Int) ≤ ((b.length - k : Nat) : Int) := by omega
  have HNC := Lib.hid HN
  have HNN := Lib.hid hnn
  clear hnn HN hrr h8 hk
  go_enter Try.func55, Try.ntmps55
  go_wp2_with fail
  refine (HNC.out _ hb2).mono ?_
  rintro e w1 ⟨rfl, rfl⟩
  go_wp2_with fail
  have HA : ∀ w', Ext w w' → Calls Try.prog 70 #[.slice A4 4 (cap - k - 2)] w' fun e w'' => e = .returned (.int .u32 (numL ((r.drop 2).take 4) : Nat)) ∧ w' = w'' :=
    fun w' hx => fnum_any A4 _ 4 _ w' (hb4.ext hx) (by simp; omega) (by simp; omega)
  have HB : Calls Try.prog 71 #[.slice (some ⟨w.heap.size, 0, none⟩) 2 2] (w.alloc (.cells #[.slice A2 2 (cap - k), .slice A3 m (cap - k - 6)] 46)).drew fun e w3 =>
      e = .returned (.int .u32 (crcF [r.take 2, (r.drop 6).take m] : Nat)) ∧ Ext w w3 := by
    have hx : Ext w (w.alloc (.cells #[.slice A2 2 (cap - k), .slice A3 m (cap - k - 6)] 46)).drew := ((Ext.refl w).alloc _).drew
    have hbs : BsS (w.alloc (.cells #[.slice A2 2 (cap - k), .slice A3 m (cap - k - 6)] 46)) (some ⟨w.heap.size, 0, none⟩) [r.take 2, (r.drop 6).take m] :=
      BsS.new w _ [_, _] _ rfl _ _ (fun j x hj => by
        match j, hj with
        | 0, hj => simp at hj; subst hj; exact ⟨A2, cap - k, by simp; omega, hb2⟩
        | 1, hj => simp at hj; subst hj; exact ⟨A3, cap - k - 6, by simp; omega, hb3⟩)
    refine (sum_any _ 2 2 [r.take 2, (r.drop 6).take m] (w.alloc (.cells #[.slice A2 2 (cap - k), .slice A3 m (cap - k - 6)] 46)).drew hbs rfl (by simp) ?_).mono (fun e w3 hh => ⟨hh.1, hx.trans hh.2⟩)
    intro x hxx
    simp at hxx
    rcases hxx with rfl | rfl <;> simp <;> omega
  have hwr : IntKind.i64.wrap (6 + (m : Int)) = 6 + (m : Int) := IntWalk.i64_in _ (by omega)
  generalize hc1 : crcF [r.take 2, (r.drop 6).take m] = c1 at *
  generalize hc2 : numL ((r.drop 2).take 4) = c2 at *
  have HC1 := Lib.hid hc1
  have HC2 := Lib.hid hc2
  clear hc1 hc2
  by_cases h10 : c1 = c2
  · have HS4 := Lib.hid (HS3.out.trans (if_neg (not_not_intro h10)))
    have h11 : ((c1 : Int) != (c2 : Int)) = false := by subst h10; simp
    have hlm : ((r.drop 6).take m).length = m := by simp; omega
    have HCL : ∀ w', Ext w w' → Calls Try.prog 47 #[.slice A3 m (cap - k - 6)] w' fun e w'' => ∃ v, e = .returned v ∧ Own w'' w.heap.size v ((r.drop 6).take m) ∧ Ext w w'' := by
      intro w' hx
      refine (fclone_any A3 _ m _ w' (hb3.ext hx) (by omega) hlm.symm).mono ?_
      rintro e w'' ⟨v, he, ho, hx'⟩
      exact ⟨v, he, ho.low hx.size, hx.trans hx'⟩
    clear h10
    go_region_held3 (fun w' => Ext w w') (first | assumption | exact (Ext.refl _).drew | exact Ext.alloc (by assumption) _ | exact Ext.drew (by assumption)) ((first
      | (go_at_call 70; refine (HA _ ?_).mono ?_; (focus assumption); rintro e w1 ⟨rfl, rfl⟩)
      | (go_at_call 71; refine HB.mono ?_; rintro e w1 ⟨rfl, hx1⟩)))
    all_goals
      go_wp2_with fail
      refine (HCL _ hx1).mono ?_
      rintro e w2 ⟨v, rfl, ho, hx2⟩
      go_wp2
      go_ret3
      exact OneSays.good HS4.out ho hx2
  · have HS4 := Lib.hid (HS3.out.trans (if_pos h10))
    have h11 : ((c1 : Int) != (c2 : Int)) = true := by rw [bne_iff_ne]; omega
    clear h10
    go_region_held3 (fun w' => Ext w w') (first | assumption | exact (Ext.refl _).drew | exact Ext.alloc (by assumption) _ | exact Ext.drew (by assumption)) ((first
      | (go_at_call 70; refine (HA _ ?_).mono ?_; (focus assumption); rintro e w1 ⟨rfl, rfl⟩)
      | (go_at_call 71; refine HB.mono ?_; rintro e w1 ⟨rfl, hx1⟩)))
    all_goals
      go_wp2
      go_ret3
      exact OneSays.bad HS4.out hx1
end Go.Proofs.Ytklodimokhndoaa
