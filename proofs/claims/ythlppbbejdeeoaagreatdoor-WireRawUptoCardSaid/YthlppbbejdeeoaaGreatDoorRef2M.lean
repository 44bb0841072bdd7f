/- The walk of the reference's One: it answers as frame.One. Conditions: the lengths named. -/
import Derived.Test.YthlppbbejdeeoaaGreatDoorC10
namespace Go.Proofs.YthlppbbejdeeoaaGreatDoor
open Go.RowKit
theorem num2 (r : List UInt8) (h : 6 ≤ r.length) : numL (r.take 2) = 256 * r[0].toNat + r[1].toNat := by
 match r, h with
 | a :: b :: r, _ => simp [numL]; omega
set_option maxHeartbeats 1000000 in
theorem ROne_any (A : Option Addr) (cap n : Nat) (b : List UInt8) (at_ : Int) (w : World) (h : Bs w A b) (hl : n = b.length) (hc : b.length ≤ cap) (hbn : b.length ≤ 140737488355328) :
 Calls Tryz.prog 20 #[.slice A n cap, .int .i64 at_] w (OneSays b at_ w) := by
 subst hl
 by_cases h1 : at_ < 0 ∨ (b.length : Int) < at_
 ·have hs : oneL b at_ = ([], 0, 2) := by unfold oneL; rw [if_pos h1]
  have HS := Lib.hid hs
  clear hs
  by_cases h2 : at_ < 0
  ·go_enter Tryz.func20, Tryz.ntmps20
   go_wp2
   go_ret3
   exact OneSays.bad HS.out (Ext.refl _)
  ·have h3 : (b.length : Int) < at_ := by omega
   clear h1
   go_enter Tryz.func20, Tryz.ntmps20
   go_wp2
   go_ret3
   exact OneSays.bad HS.out (Ext.refl _)
 obtain ⟨k, rfl⟩ : ∃ k : Nat, at_ = (k : Int) := ⟨at_.toNat, by omega⟩
 have hk : k ≤ b.length := by omega
 clear h1
 have hr : (b.drop k).length = b.length - k := by simp
 by_cases h2 : b.length - k < 6
 ·have hs : oneL b k = ([], 0, 3) := by unfold oneL; rw [if_neg (by omega), if_pos (by simp; omega)]
  have HS := Lib.hid hs
  clear hs
  have h3 : (b.length : Int) - (k : Int) < 6 := by omega
  clear h2
  go_enter Tryz.func20, Tryz.ntmps20
  go_wp2
  go_ret3
  exact OneSays.bad HS.out (Ext.refl _)
 have HS : Hid (oneL b k = if numL ((b.drop k).take 2) = 0 ∨ 2000 < numL ((b.drop k).take 2) then (([], 0, 4) : List UInt8 × Int × Int)
  else if (b.drop k).length < 6 + numL ((b.drop k).take 2) then ([], 0, 3)
  else if crcF [(b.drop k).take 2, ((b.drop k).drop 6).take (numL ((b.drop k).take 2))] ≠ numL (((b.drop k).drop 2).take 4) then ([], 0, 5)
  else (((b.drop k).drop 6).take (numL ((b.drop k).take 2)), (k : Int) + 6 + numL ((b.drop k).take 2), 0)) := by
  unfold oneL
  rw [if_neg (by omega), Int.toNat_natCast, if_neg (by omega)]
  exact rfl
 obtain ⟨ad, rfl, hc0⟩ := h.at_ (k := k) (by omega)
 obtain ⟨_, e, hc1⟩ := h.at_ (k := k + 1) (by omega)
 cases e
 have hn2 := num2 (b.drop k) (by omega)
 rw [List.getElem_drop, List.getElem_drop] at hn2
 simp only [Nat.add_zero] at hn2
 have hb0 := b[k].toNat_lt
 have hb1 := b[k + 1].toNat_lt
 generalize hnn : numL ((b.drop k).take 2) = m at *
 generalize hu0 : b[k].toNat = u0 at *
 generalize hu1 : b[k + 1].toNat = u1 at *
 have h3 : (6 : Int) ≤ (b.length : Int) - (k : Int) := by omega
 have hk0 : (0 : Int) ≤ (k : Int) := by omega
 have hk1 : (k : Int) < (b.length : Int) := by omega
 have hk2 : (0 : Int) ≤ (k : Int) + 1 := by omega
 have hk3 : (k : Int) + 1 < (b.length : Int) := by omega
 have wr1 : IntKind.i64.wrap ((k : Int) + 1) = (k : Int) + 1 := IntWalk.i64_in _ (by omega)
 have c0 := hc0 w (Ext.refl _)
 have c1 := hc1 w (Ext.refl _)
 rw [add_pos'] at c1
 have wr2 : IntKind.i64.wrap (u0 : Int) = (u0 : Int) := IntWalk.i64_in _ (by omega)
 have wr3 : IntKind.i64.wrap (u1 : Int) = (u1 : Int) := IntWalk.i64_in _ (by omega)
 have wr4 : IntKind.i64.wrap (256 * (u0 : Int)) = 256 * (u0 : Int) := IntWalk.i64_in _ (by omega)
 have wr5 : IntKind.i64.wrap (256 * (u0 : Int) + (u1 : Int)) = (m : Int) := by rw [IntWalk.i64_in _ (by omega)]; omega
 have HN2 := Lib.hid hn2
 clear hn2 hu0 hu1 wr2 wr3 wr4 wr5 c0 c1 wr1
 have WR := Lib.hid (show IntKind.i64.wrap (u0 : Int) = (u0 : Int) ∧ IntKind.i64.wrap (u1 : Int) = (u1 : Int) ∧ IntKind.i64.wrap (256 * (u0 : Int)) = 256 * (u0 : Int) ∧
  IntKind.i64.wrap (256 * (u0 : Int) + (u1 : Int)) = (m : Int) ∧ IntKind.i64.wrap ((k : Int) + 1) = (k : Int) + 1 ∧ w.cell? (ad.add k) = some (.int .u8 (u0 : Int)) ∧ w.cell? ⟨ad.block, ad.off + (k + 1), none⟩ = some (.int .u8 (u1 : Int)) from
  ⟨IntWalk.i64_in _ (by omega), IntWalk.i64_in _ (by omega), IntWalk.i64_in _ (by omega), (by have := HN2.out; rw [IntWalk.i64_in _ (by omega)]; omega), IntWalk.i64_in _ (by omega), hc0 w (Ext.refl _), by rw [← add_pos']; exact hc1 w (Ext.refl _)⟩)
 clear hc0 hc1
 by_cases h4 : m = 0 ∨ 2000 < m
 ·have HS2 := Lib.hid (HS.out.trans (if_pos h4))
  clear HS
  by_cases h5 : m = 0
  ·have h6 : (m : Int) < 1 := by omega
   clear h4 h5 h2 hk hr hnn
   obtain ⟨wr1, wr2, wr3, wr4, wr5, c0, c1⟩ := WR.out
   go_enter Tryz.func20, Tryz.ntmps20
   go_wp2_with fail
   go_quiet (fail)
   clear wr1 wr2 wr3 wr4 wr5 c0 c1
   go_wp2
   go_ret3
   exact OneSays.bad HS2.out ((Ext.refl _).drewN _)
  ·have h6 : (1 : Int) ≤ m := by omega
   have h7 : (2000 : Int) < m := by omega
   clear h4 h5 h2 hk hr hnn
   obtain ⟨wr1, wr2, wr3, wr4, wr5, c0, c1⟩ := WR.out
   go_enter Tryz.func20, Tryz.ntmps20
   go_wp2_with fail
   go_quiet (fail)
   clear wr1 wr2 wr3 wr4 wr5 c0 c1
   go_wp2
   go_ret3
   exact OneSays.bad HS2.out ((Ext.refl _).drewN _)
 have h5 : (1 : Int) ≤ (m : Int) := by omega
 have h6 : (m : Int) ≤ 2000 := by omega
 have HS2 := Lib.hid (HS.out.trans (if_neg h4))
 clear HS h4
 by_cases h8 : (b.drop k).length < 6 + m
 ·have HS3 := Lib.hid (HS2.out.trans (if_pos h8))
  have h9 : (b.length : Int) - (k : Int) < 6 + (m : Int) := by omega
  clear h8 h2 hk hr hnn HS2
  obtain ⟨wr1, wr2, wr3, wr4, wr5, c0, c1⟩ := WR.out
  go_enter Tryz.func20, Tryz.ntmps20
  go_wp2_with fail
  go_quiet (fail)
  clear wr1 wr2 wr3 wr4 wr5 c0 c1
  go_wp2
  go_ret3
  exact OneSays.bad HS3.out ((Ext.refl _).drewN _)
 have HS3 := Lib.hid (HS2.out.trans (if_neg h8))
 clear HS2
 have h9 : (6 : Int) + (m : Int) ≤ (b.length : Int) - (k : Int) := by omega
 obtain ⟨A3, e3, f3⟩ := cutB_lh Tryz.underlying22 size8 (some ad) b.length cap b (k + 6) (k + 6 + m) (li := (k : Int) + 6) (hi := (k : Int) + 6 + (m : Int)) (by omega) (by omega) rfl (by omega) (by omega) (by omega)
 obtain ⟨A4, e4, f4⟩ := cutB_lh Tryz.underlying22 size8 (some ad) b.length cap b k (k + 6 + m) (li := (k : Int)) (hi := (k : Int) + 6 + (m : Int)) (by omega) (by omega) rfl (by omega) (by omega) (by omega)
 have hb3 := f3 w h
 have hb4 := f4 w h
 have q3 : k + 6 + m - (k + 6) = m := by omega
 have q4 : k + 6 + m - k = 6 + m := by omega
 rw [q3] at e3 hb3
 rw [q4] at e4 hb4
 have q5 : b.drop (k + 6) = (b.drop k).drop 6 := by simp
 rw [q5] at hb3
 have hpi := pack_iff (b.drop k) m hnn (by omega)
 have hlp : (((b.drop k).drop 6).take m).length = m := by simp; omega
 have hlq : ((b.drop k).take (6 + m)).length = 6 + m := by simp; omega
 clear f3 f4 q3 q4 q5 hnn h8 hr
 generalize hp : ((b.drop k).drop 6).take m = p at *
 generalize hq : (b.drop k).take (6 + m) = q at *
 have HP := Lib.hid hp
 have HQ := Lib.hid hq
 have HPI := Lib.hid hpi
 have HLP := Lib.hid hlp
 have HLQ := Lib.hid hlq
 clear hp hq hpi hlp hlq
 obtain ⟨wr1, wr2, wr3, wr4, wr5, c0, c1⟩ := WR.out
 go_enter Tryz.func20, Tryz.ntmps20
 go_wp2_with fail
 go_quiet (fail)
 clear wr1 wr2 wr3 wr4 wr5 c0 c1
 have hxq : Ext w (w.drewN nq) := (Ext.refl _).drewN _
 go_wp2_with (at_builtin; refine unstop ?_)
 refine go_on (wpList_appB bytesT (Own.empty (w.drewN nq) (w.drewN nq).heap.size (Nat.le_refl _)) (hb3.ext (hxq.alloc _)) rfl rfl rfl rfl HLP.out.symm (by simp only [List.length_nil]; rw [HLP.out]; omega) (by simp) ?_)
 rintro v2 w2 ho2 hg2 -
 have hxs : w.heap.size ≤ (w.drewN nq).heap.size := hxq.size
 have hx2 : Ext w w2 := (hxq.alloc _).own (Own.empty (w.drewN nq) (w.drewN nq).heap.size (Nat.le_refl _)) hxs hg2
 obtain ⟨A2, c2, rfl⟩ := ho2.form
 rw [List.nil_append] at ho2 ⊢
 rw [HLP.out] at ho2 ⊢
 go_wp2_with fail
 refine (RPack_ok A2 c2 m p w2 ho2.bs HLP.out.symm (by rw [HLP.out]; omega) (by rw [HLP.out]; omega)).mono ?_
 rintro e w3 ⟨v3, rfl, ho3, hx3⟩
 obtain ⟨A5, c5, rfl⟩ := ho3.form
 have hx23 : Ext w w3 := hx2.trans hx3
 have s1 := run_str (P := Tryz.prog) Tryz.underlying22 Tryz.underlying5 Tryz.underlying9 ho3.bs (packL p).length c5 rfl
 have s2 := run_str (P := Tryz.prog) Tryz.underlying22 Tryz.underlying5 Tryz.underlying9 (hb4.ext hx23) (6 + m) (cap - k) HLQ.out.symm
 by_cases h10 : packL p = q
 ·have h11 : (packL p == q) = true := by rw [h10]; exact beq_self_eq_true _
  have HS4 := Lib.hid (HS3.out.trans (if_neg (not_not_intro (HPI.out.1 h10))))
  clear h10
  go_wp2_with fail
  go_quiet (fail)
  go_wp2
  go_ret3
  exact OneSays.good HS4.out (ho2.low hxs |>.ext (hx3.drewN _)) (hx23.drewN _)
 ·have h11 : (packL p == q) = false := beq_eq_false_iff_ne.2 h10
  have HS4 := Lib.hid (HS3.out.trans (if_pos (fun h => h10 (HPI.out.2 h))))
  clear h10
  go_wp2_with fail
  go_quiet (fail)
  go_wp2
  go_ret3
  exact OneSays.bad HS4.out (hx23.drewN _)
end Go.Proofs.YthlppbbejdeeoaaGreatDoor
