/- The walks of the reference's small ones: hasTx, hasVote, hasN, number, numbers, RightTx, PutTx. Conditions: the hypotheses of each theorem. -/
import Derived.Test.YthlppbbejdeeoaaGreatDoorC3
import Derived.Test.YthlppbbejdeeoaaGreatDoorWrAM
import Derived.Test.YthlppbbejdeeoaaGreatDoorWrBM
import Derived.Test.YthlppbbejdeeoaaGreatDoorC11
namespace Go.Proofs.YthlppbbejdeeoaaGreatDoor
open Go.RowKit
theorem inI_out {a lo hi : Int} (h : a < lo ∨ hi < a) : inI a lo hi = false := by
 unfold inI
 by_cases h1 : lo ≤ a
 ·have : ¬ a ≤ hi := by omega
  simp [this]
 ·simp [h1]
theorem inI_in {a lo hi : Int} (h : lo ≤ a) (h2 : a ≤ hi) : inI a lo hi = true := by unfold inI; simp [h, h2]
theorem rhasTx_any (k : Int) (w : World) : Calls Tryz.prog 22 #[.int .i64 k] w fun e w' => e = .returned (.bool (kTx k)) ∧ w = w' := by
 unfold kTx
 go_enter Tryz.func22, Tryz.ntmps22
 by_cases h1 : 1 ≤ k
 ·by_cases h2 : k ≤ 5
  ·have HB : Hid (inI k 1 5 = true) := Lib.hid (inI_in (by omega) (by omega))
   go_wp2
   go_ret
   exact ⟨by rw [HB.out]; rfl, rfl⟩
  ·have HB : Hid (inI k 1 5 = false) := Lib.hid (inI_out (by omega))
   go_wp2
   go_ret
   exact ⟨by rw [HB.out]; rfl, rfl⟩
 ·have HB : Hid (inI k 1 5 = false) := Lib.hid (inI_out (by omega))
  go_wp2
  go_ret
  exact ⟨by rw [HB.out]; rfl, rfl⟩
theorem rnumber_any (k : Int) (w : World) : Calls Tryz.prog 60 #[.int .i64 k] w fun e w' => e = .returned (.bool (inI k 0 4294967295)) ∧ w = w' := by
 go_enter Tryz.func60, Tryz.ntmps60
 by_cases h1 : 0 ≤ k
 ·by_cases h2 : k ≤ 4294967295
  ·have HB : Hid (inI k 0 4294967295 = true) := Lib.hid (inI_in (by omega) (by omega))
   go_wp2
   go_ret
   exact ⟨by rw [HB.out]; rfl, rfl⟩
  ·have HB : Hid (inI k 0 4294967295 = false) := Lib.hid (inI_out (by omega))
   go_wp2
   go_ret
   exact ⟨by rw [HB.out]; rfl, rfl⟩
 ·have HB : Hid (inI k 0 4294967295 = false) := Lib.hid (inI_out (by omega))
  go_wp2
  go_ret
  exact ⟨by rw [HB.out]; rfl, rfl⟩
theorem rhasVote_any (k : Int) (w : World) : Calls Tryz.prog 26 #[.int .i64 k] w fun e w' => e = .returned (.bool (kVote k)) ∧ w = w' := by
 by_cases h1 : k = 2
 ·subst h1
  go_enter Tryz.func26, Tryz.ntmps26
  go_wp2
  go_ret
  exact ⟨rfl, rfl⟩
 by_cases h2 : k = 7
 ·subst h2
  go_enter Tryz.func26, Tryz.ntmps26
  go_wp2
  go_ret
  exact ⟨rfl, rfl⟩
 have HB : Hid (kVote k = false) := Lib.hid (by unfold kVote; simp [h1, h2])
 have k1 : (k == 2) = false := by simpa using h1
 have k2 : (k == 7) = false := by simpa using h2
 go_enter Tryz.func26, Tryz.ntmps26
 go_wp2
 go_ret
 exact ⟨by rw [HB.out]; rfl, rfl⟩
theorem rhasN_any (k : Int) (w : World) : Calls Tryz.prog 23 #[.int .i64 k] w fun e w' => e = .returned (.bool (kN k)) ∧ w = w' := by
 by_cases h1 : k = 6
 ·subst h1
  go_enter Tryz.func23, Tryz.ntmps23
  go_wp2
  go_ret
  exact ⟨rfl, rfl⟩
 by_cases h2 : k = 7
 ·subst h2
  go_enter Tryz.func23, Tryz.ntmps23
  go_wp2
  go_ret
  exact ⟨rfl, rfl⟩
 have HB : Hid (kN k = false) := Lib.hid (by exact inI_out (by omega))
 have k1 : (k == 6) = false := by simpa using h1
 have k2 : (k == 7) = false := by simpa using h2
 go_enter Tryz.func23, Tryz.ntmps23
 go_wp2
 go_ret
 exact ⟨by rw [HB.out]; rfl, rfl⟩
theorem allI_take {l : List Int} {k : Nat} {hi : Int} (hk : k < l.length) (h : ∀ v ∈ l.take k, inI v 0 hi = true) (hv : inI l[k] 0 hi = true) : ∀ v ∈ l.take (k + 1), inI v 0 hi = true := by
 rw [wtake_len hk]
 intro v hv'
 rcases List.mem_append.1 hv' with h1 | h1
 ·exact h v h1
 ·simp at h1; rw [h1]; exact hv
theorem allI_bad {l : List Int} {k : Nat} {hi : Int} (hk : k < l.length) (hv : inI l[k] 0 hi = false) : allI l hi = false := by
 unfold allI
 rw [List.all_eq_false]
 exact ⟨l[k], List.getElem_mem hk, by simp [hv]⟩
set_option maxHeartbeats 1000000 in
theorem rnumbers_any (l : List Int) (most : Int) (A : Option Addr) (c : Nat) (w : World) (h : Sl w A (doV l)) (hl : l.length ≤ 140737488355328) :
 Calls Tryz.prog 59 #[.slice A l.length c, .int .i64 most] w fun e w' => e = .returned (.bool (allI l most)) ∧ w = w' := by
 go_enter Tryz.func59, Tryz.ntmps59
 go_wp2
 go_loopw [5] (fun iv wr => ∃ k : Nat, iv = .int .i64 k ∧ k ≤ l.length ∧ wr = w ∧ ∀ v ∈ l.take k, inI v 0 most = true) (fun iv _ => l.length - (intOf iv).toNat)
 case atStart => exact ⟨0, rfl, by omega, rfl, by simp⟩
 case round =>
  obtain ⟨k, rfl, hk, rfl, hok⟩ := hrel
  by_cases hlt : k < l.length
  ·obtain ⟨ad, rfl, hc⟩ := Sl.now h (doV_get hlt)
   have hlt2 : (k : Int) < (l.length : Int) := by omega
   have HT := Lib.hid (fun hv => allI_take hlt hok hv)
   have HF := Lib.hid (fun hv => allI_bad (hi := most) hlt hv)
   generalize l[k] = x at *
   clear hok h
   by_cases h0 : x < 0
   ·have HB : Hid (allI l most = false) := Lib.hid (HF.out (inI_out (.inl h0)))
    clear HT HF
    go_wp2
    go_ret
    exact ⟨by rw [HB.out]; rfl, rfl⟩
   ·by_cases h1 : most < x
    ·have HB : Hid (allI l most = false) := Lib.hid (HF.out (inI_out (.inr h1)))
     clear HT HF
     go_wp2
     go_ret
     exact ⟨by rw [HB.out]; rfl, rfl⟩
    ·have HB := Lib.hid (HT.out (inI_in (by omega) (by omega)))
     clear HT HF
     go_wp2
     go_roundw
     case rel => exact ⟨k + 1, by go_num, by omega, by trivial, HB.out⟩
     case measure => simp [intOf]; omega
  ·have hlt2 : ¬ (k : Int) < (l.length : Int) := by omega
   have HB : Hid (allI l most = true) := Lib.hid (List.all_eq_true.2 fun v hv => hok v (by rw [List.take_of_length_le (by omega)]; exact hv))
   clear hok h
   go_wp2
   go_ret
   exact ⟨by rw [HB.out]; rfl, rfl⟩
set_option maxHeartbeats 1000000 in
theorem rRightTx_any (t : Tx3) (w : World) : Calls Tryz.prog 58 #[.agg (txC t)] w fun e w' => e = .returned (.bool (txB t)) ∧ Ext w w' := by
 obtain ⟨a, b, n⟩ := t
 obtain ⟨tb, htb⟩ : ∃ tb, tb = txB ⟨a, b, n⟩ := ⟨_, rfl⟩
 rw [← htb]
 have HT : Hid (tb = (inI a 0 255 && inI b 1 2147483647 && inI n 1 2147483647)) := Lib.hid (by rw [htb]; rfl)
 have hx : Ext w (w.alloc (.cells #[.int .i64 a, .int .i64 b, .int .i64 n] 25)) := (Ext.refl w).alloc _
 clear htb
 unfold txC
 simp only
 go_enter Tryz.func58, Tryz.ntmps58
 by_cases a1 : 0 ≤ a
 ·by_cases a2 : a ≤ 255
  ·by_cases b1 : 1 ≤ b
   ·by_cases b2 : b ≤ 2147483647
    ·by_cases n1 : 1 ≤ n
     ·by_cases n2 : n ≤ 2147483647
      ·have HB : Hid (tb = true) := Lib.hid (by rw [HT.out, inI_in a1 a2, inI_in b1 b2, inI_in n1 n2]; rfl)
       go_wp2
       go_ret
       exact ⟨by rw [HB.out]; rfl, hx⟩
      ·have o := inI_out (lo := 1) (.inr (by omega : (2147483647 : Int) < n))
       have HB : Hid (tb = false) := Lib.hid (by rw [HT.out, o]; simp)
       clear o
       go_wp2
       go_ret
       exact ⟨by rw [HB.out]; rfl, hx⟩
     ·have o := inI_out (hi := 2147483647) (.inl (by omega : n < 1))
      have HB : Hid (tb = false) := Lib.hid (by rw [HT.out, o]; simp)
      clear o
      go_wp2
      go_ret
      exact ⟨by rw [HB.out]; rfl, hx⟩
    ·have o := inI_out (lo := 1) (.inr (by omega : (2147483647 : Int) < b))
     have HB : Hid (tb = false) := Lib.hid (by rw [HT.out, o]; simp)
     clear o
     go_wp2
     go_ret
     exact ⟨by rw [HB.out]; rfl, hx⟩
   ·have o := inI_out (hi := 2147483647) (.inl (by omega : b < 1))
    have HB : Hid (tb = false) := Lib.hid (by rw [HT.out, o]; simp)
    clear o
    go_wp2
    go_ret
    exact ⟨by rw [HB.out]; rfl, hx⟩
  ·have o := inI_out (lo := 0) (.inr (by omega : (255 : Int) < a))
   have HB : Hid (tb = false) := Lib.hid (by rw [HT.out, o]; simp)
   clear o
   go_wp2
   go_ret
   exact ⟨by rw [HB.out]; rfl, hx⟩
 ·have o := inI_out (hi := 255) (.inl (by omega : a < 0))
  have HB : Hid (tb = false) := Lib.hid (by rw [HT.out, o]; simp)
  clear o
  go_wp2
  go_ret
  exact ⟨by rw [HB.out]; rfl, hx⟩
set_option maxRecDepth 20000 in
set_option maxHeartbeats 2000000 in
theorem rPutTx_any (w0 w : World) (b : Value) (l : By) (t1 t2 t3 : Nat) (hx : Ext w0 w) (ho : Own w w0.heap.size b l) (hl : l.length ≤ 4000000) (h1 : t1 ≤ 4294967295) (h2 : t2 ≤ 4294967295) (h3 : t3 ≤ 4294967295) :
 Calls Tryz.prog 62 #[b, .agg (txC ⟨t1, t2, t3⟩)] w fun e w' => ∃ b', e = .returned b' ∧ Lay w0 w (l ++ putTx ⟨t1, t2, t3⟩) w' b' := by
 unfold txC
 simp only
 obtain ⟨wa, hwa⟩ : ∃ wa, wa = w.alloc (.cells #[.int .i64 t1, .int .i64 t2, .int .i64 t3] 25) := ⟨_, rfl⟩
 have hxa : Ext w wa := by rw [hwa]; exact (Ext.refl w).alloc _
 have hrow : wa.heap[w.heap.size]? = some (.cells #[.int .i64 t1, .int .i64 t2, .int .i64 t3] 25 (0, 0)) := by rw [hwa]; exact heap_alloc_new w _
 have hl0 : Lay w0 w l wa.drew b := ⟨(ho.ext hxa).ext (Ext.refl _).drew, (hx.trans hxa).drew, fun ts _ => (Stp.of_ext hxa).drew⟩
 have HWA := Lib.hid hwa
 have HM : 25 ∈ [25] := by simp
 have C0 := row_s hrow HM 0 (.int .i64 t1) rfl
 have C1 := row_s hrow HM 1 (.int .i64 t2) rfl
 have C2 := row_s hrow HM 2 (.int .i64 t3) rfl
 have hND : 5 ∉ [25] := by simp
 have HP : Hid (putTx ⟨t1, t2, t3⟩ = beN 1 t1 ++ beN 4 t2 ++ beN 4 t3) := Lib.hid rfl
 have hN := fun (W : World) (b : Value) (l : By) (v n : Nat) (hL : Lay w0 w l W b) (h1 : l.length ≤ 9000000) (hn : n ≤ 4) (hv : v ≤ 4294967295) => RNumB_any w0 W b l v n hL.x hL.o (by omega) hn (by omega)
 clear hwa hrow ho hx
 go_enter Tryz.func62, Tryz.ntmps62
 go_wp2_with fail
 rw [← HWA.out]
 refine wp_region_phase (S := fun w' => Stp [25] wa w') 10 (by kernel_rfl) (by kernel_rfl) ?_ (fun hHeld => ?_)
 ·exact (Stp.refl _ wa).drew
 simp only [List.drop_succ_cons, List.drop_zero]
 refine name_head ?_
 intro wr0 hw0
 rw [hw0] at hHeld
 refine wt 0 _ ?_
 simp only [red, Act.put]
 refine wt 1 _ ?_
 simp only [red, Act.put]
 refine wt 2 _ ?_
 simp only [red, Act.put]
 refine wt 4 _ ?_
 simp only [red, Act.put]
 refine wt 5 _ ?_
 simp only [red, Act.put]
 refine wt 7 _ ?_
 simp only [red, Act.put]
 refine wt 8 _ ?_
 simp only [red, Act.put]
 refine rd [3] ?_
 refine ac (fun K hK => ?_) ?_
 ·refine step_callG (by rfl) (by kernel_rfl) (hN _ _ _ t1 1 (by rw [← hw0]; exact hl0) (by omega) (by omega) (by omega)) ?_
  rintro e wr3 ⟨a3, rfl, hl3⟩
  refine ⟨_, rfl, ?_⟩
  refine hK.out _ _ ?_ (fun hHeld => ?_)
  ·exact hHeld.trans (hl3.s _ hND)
  clear hK K
  try simp only [red, Act.put]
  refine rd [6] ?_
  refine ac (fun K hK => ?_) ?_
  ·have hl3' := hl0.trans (hw0 ▸ hl3)
   refine step_callG (by rfl) (by kernel_rfl) (hN _ _ _ t2 4 hl3' (by simp; omega) (by omega) (by omega)) ?_
   rintro e wr6 ⟨a6, rfl, hl6⟩
   refine ⟨_, rfl, ?_⟩
   refine hK.out _ _ ?_ (fun hHeld => ?_)
   ·exact hHeld.trans (hl6.s _ hND)
   clear hK K
   try simp only [red, Act.put]
   refine rd [9] ?_
   refine ac (fun K hK => ?_) ?_
   ·have hl6' := hl3'.trans hl6
    refine step_callG (by rfl) (by kernel_rfl) (hN _ _ _ t3 4 hl6' (by simp; omega) (by omega) (by omega)) ?_
    rintro e wr9 ⟨a9, rfl, hl9⟩
    refine ⟨_, rfl, ?_⟩
    refine hK.out _ _ ?_ (fun hHeld => ?_)
    ·exact hHeld.trans (hl9.s _ hND)
    clear hK K
    try simp only [red, Act.put]
    refine wpHead_done (by kernel_rfl) ?_
    have hl9' := hl6'.trans hl9
    clear hl3 hl3' hl6 hl6' hl9 hl0 hHeld hw0
    go_wp2
    go_ret
    exact ⟨_, rfl, by rw [HP.out]; simpa [List.append_assoc] using hl9'⟩
   exact AllHead.nil
  exact AllHead.nil
 exact AllHead.nil
end Go.Proofs.YthlppbbejdeeoaaGreatDoor
