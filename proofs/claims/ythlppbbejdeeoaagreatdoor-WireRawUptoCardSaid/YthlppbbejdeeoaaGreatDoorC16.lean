/- The walk of deed.Check. Conditions: the bounds named. What the walk of Check shows, in the words that the other walks ask for. No condition. -/
import Derived.Test.YthlppbbejdeeoaaGreatDoorC6
import Derived.Deep.RegionHeld3
namespace Go.Proofs.YthlppbbejdeeoaaGreatDoor
open Go.RowKit
theorem row_c {w : World} {p t : Nat} {cs : Array Value} {fr : Nat × Nat} (h : w.heap[p]? = some (.cells cs t fr)) (j : Nat) (v : Value) (hv : cs[j]? = some v) : ∀ w', Ext w w' → w'.cell? ⟨p, j, none⟩ = some v := fun w' hx => by
 rw [cell_of_row w' p j _ _ _ (hx.obj h), hv]
theorem takeUs_nz {l : By} {k : Nat} (h : takeUs l = .inl k) : k ≠ 0 := by
 unfold takeUs at h
 cases hp : readP userP l with
 | inl e => rw [hp] at h; cases h; exact Nz.user.read hp
 | inr u =>
  rw [hp] at h
  simp only at h
  split at h
  ·rename_i hc
   cases h
   exact hc
  ·cases h
theorem is_any (wa : World) (g : Nat) (o : Int) (h0 : ∀ w', Ext wa w' → w'.cell? ⟨g, 0, none⟩ = some (.int .i64 o)) (ls : List Int) (n : Nat) (x : Bool) (cs : Array Value) (hn : n = ls.length) (hl : ls.length ≤ 1000) (hcs : cs = (doV ls).toArray) (hx : x = decide (o ∈ ls)) (W : World) (hW : Ext wa W) :
 Calls Tryz.prog 79 #[.slice (some ⟨W.heap.size, 0, none⟩) n n, .pointer (some ⟨g, 0, none⟩)] (W.alloc (.cells cs 88)) fun e w' => e = .returned (.bool x) ∧ W.alloc (.cells cs 88) = w' := by
 subst hx hcs hn
 refine (Check1_any ls g o _ _ _ _ ?_ hl (h0 _ (hW.alloc _)) rfl)
 have := Sl.row (heap_alloc_new W (.cells (doV ls).toArray 88))
 simpa using this
/-- what Check tells, by letters -/
def checkL (d : Dd) (x6 x7 x56 x5 x45 x9 x89 x4 x48 x8 : Bool) : Nat :=
 if d.dw < 1 ∨ 9 < d.dw then 14 else if (!rightU d.user || (x6 && !rightB d.box) || (!x6 && decide (d.box ≠ [])) || (x7 && !rightB d.dest) || (!x7 && decide (d.dest ≠ []))) = true then 4
 else if (!withinB x56 d.uid 1 4294967295 || !withinB x5 d.how 0 2 || !withinB x45 d.flags.toNat 0 31 || !withinB x9 d.shard 0 3 || !withinB x89 d.epoch 1 4294967295) = true then 2
 else if x4 = true ∧ 600 < d.bytes.length then 6 else if x48 = false ∧ 0 < d.bytes.length then 2 else if x8 = false then 0 else lastC d
theorem checkL_ex (d : Dd) : ∃ x6 x7 x56 x5 x45 x9 x89 x4 x48 x8 : Bool, checkD d = checkL d x6 x7 x56 x5 x45 x9 x89 x4 x48 x8 ∧ x6 = decide (d.dw ∈ [2, 3, 4, 5, 6, 7]) ∧ x7 = decide (d.dw ∈ [7]) ∧ x56 = decide (d.dw ∈ [5, 6]) ∧ x5 = decide (d.dw ∈ [5]) ∧ x45 = decide (d.dw ∈ [4, 5]) ∧ x9 = decide (d.dw ∈ [9]) ∧ x89 = decide (d.dw ∈ [8, 9]) ∧ x4 = decide (d.dw ∈ [4]) ∧ x48 = decide (d.dw ∈ [4, 8]) ∧ x8 = decide (d.dw ∈ [8]) ∧
 (x8 = true → x4 = false ∧ x48 = true) ∧ (x7 = true → x6 = true) := by
 refine ⟨_, _, _, _, _, _, _, _, _, _, ?_, rfl, rfl, rfl, rfl, rfl, rfl, rfl, rfl, rfl, rfl, by simp; omega, by simp; omega⟩
 unfold checkD checkL form4 form2 boxed
 simp only [List.mem_cons, List.not_mem_nil, or_false, ne_eq, decide_eq_true_eq, decide_eq_false_iff_not]
set_option maxRecDepth 20000 in
set_option maxHeartbeats 16000000 in
theorem Check_any (d : Dd) (A : Option Addr) (cap : Nat) (w : World) (hb : Bs w A d.bytes) (hcap : d.bytes.length ≤ cap) (hl : d.bytes.length ≤ 140737488351232) (h1 : d.user.length ≤ 140737488355328) (h2 : d.box.length ≤ 140737488355328) (h3 : d.dest.length ≤ 140737488355328) :
 Calls Tryz.prog 52 #[.agg (ddC d (.slice A d.bytes.length cap))] w fun e w' => e = .returned (.int .i64 (checkD d : Nat)) ∧ Ext w w' := by
 have hmf : ∀ (fn : Fn) (first cap : Array Value) (w : World), (Instr.makeFunc fn first cap).run Tryz.prog w = .ok (.func fn first cap) w := fun _ _ _ _ => rfl
 have hcf := call_Check1
 have hx0 : Ext w (w.alloc (.cells (ddC d (.slice A d.bytes.length cap)) 90)) := (Ext.refl w).alloc _
 have hrow := heap_alloc_new w (.cells (ddC d (.slice A d.bytes.length cap)) 90)
 obtain ⟨wa, hwa⟩ : ∃ wa, wa = w.alloc (.cells (ddC d (.slice A d.bytes.length cap)) 90) := ⟨_, rfl⟩
 rw [← hwa] at hx0 hrow
 have HSZ : Hid (w.heap.size + 1 = wa.heap.size) := Lib.hid (by rw [hwa]; simp)
 have HWA := Lib.hid hwa
 unfold ddC at HWA
 obtain ⟨x6, x7, x56, x5, x45, x9, x89, x4, x48, x8, HEQ, e6, e7, e56, e5, e45, e9, e89, e4, e48, e8, R8, R67⟩ := checkL_ex d
 have C0 := row_c hrow 0 (.int .i64 d.dw) rfl
 have C1 := row_c hrow 1 (.string (st d.user)) rfl
 have C2 := row_c hrow 2 (.string (st d.box)) rfl
 have C3 := row_c hrow 3 (.string (st d.dest)) rfl
 have C4 := row_c hrow 4 (.int .i64 d.uid) rfl
 have C5 := row_c hrow 5 (.int .i64 d.how) rfl
 have C6 := row_c hrow 6 (.int .u8 (d.flags.toNat : Int)) rfl
 have C7 := row_c hrow 7 (.int .i64 d.shard) rfl
 have C8 := row_c hrow 8 (.int .i64 d.epoch) rfl
 have C9 := row_c hrow 9 (.slice A d.bytes.length cap) rfl
 have J6 := is_any wa w.heap.size d.dw C0 [2, 3, 4, 5, 6, 7] 6 x6 #[.int .i64 2, .int .i64 3, .int .i64 4, .int .i64 5, .int .i64 6, .int .i64 7] rfl (by decide) rfl e6
 have J7 := is_any wa w.heap.size d.dw C0 [7] 1 x7 #[.int .i64 7] rfl (by decide) rfl e7
 have J56 := is_any wa w.heap.size d.dw C0 [5, 6] 2 x56 #[.int .i64 5, .int .i64 6] rfl (by decide) rfl e56
 have J5 := is_any wa w.heap.size d.dw C0 [5] 1 x5 #[.int .i64 5] rfl (by decide) rfl e5
 have J45 := is_any wa w.heap.size d.dw C0 [4, 5] 2 x45 #[.int .i64 4, .int .i64 5] rfl (by decide) rfl e45
 have J9 := is_any wa w.heap.size d.dw C0 [9] 1 x9 #[.int .i64 9] rfl (by decide) rfl e9
 have J89 := is_any wa w.heap.size d.dw C0 [8, 9] 2 x89 #[.int .i64 8, .int .i64 9] rfl (by decide) rfl e89
 have J4 := is_any wa w.heap.size d.dw C0 [4] 1 x4 #[.int .i64 4] rfl (by decide) rfl e4
 have J48 := is_any wa w.heap.size d.dw C0 [4, 8] 2 x48 #[.int .i64 4, .int .i64 8] rfl (by decide) rfl e48
 have J8 := is_any wa w.heap.size d.dw C0 [8] 1 x8 #[.int .i64 8] rfl (by decide) rfl e8
 have HE := Lib.hid HEQ
 have HRU := fun w => RightUser_any (st d.user) w (by rw [st_size]; exact h1)
 rw [tl_st] at HRU
 have HRB := fun w => RightBox_any d.box w h2
 have HRT := fun w => RightBox_any d.dest w h3
 have HTU := fun w1 (hx1 : Ext wa w1) => TakeUser_any A cap d.bytes w1 (hb.ext (hx0.trans hx1)) hcap hl
 clear HEQ e6 e7 e56 e5 e45 e9 e89 e4 e48 e8 hwa hrow h1 h2 h3 hb hcap
 unfold ddC
 go_enter Tryz.func52, Tryz.ntmps52
 go_wp2_with fail
 rw [← HWA.out, HSZ.out]
 refine (J6 wa (Ext.refl _)).mono ?_
 rintro e w1 ⟨rfl, hw1⟩
 have hx1 : Ext wa w1 := hw1 ▸ (Ext.refl wa).alloc _
 clear hw1
 by_cases ho1 : d.dw < 1
 ·
  have HB : Hid (checkD d = 14) := Lib.hid (by rw [HE.out]; unfold checkL; rw [if_pos (.inl ho1)])
  go_wp2
  go_ret
  exact ⟨by rw [HB.out]; rfl, hx0.trans hx1⟩
 by_cases ho9 : 9 < d.dw
 ·
  have HB : Hid (checkD d = 14) := Lib.hid (by rw [HE.out]; unfold checkL; rw [if_pos (.inr ho9)])
  go_wp2
  go_ret
  exact ⟨by rw [HB.out]; rfl, hx0.trans hx1⟩
 have HE2 := Lib.hid (HE.out.trans (by unfold checkL; rw [if_neg (by omega)]))
 clear HE
 go_wp2_with fail
 refine (HRU w1).mono ?_
 rintro e w2 ⟨rfl, hx2⟩
 have hx2 := hx1.trans hx2
 clear hx1
 cases hru : rightU d.user with
 | false =>
  rw [hru] at HE2
  have HB : Hid (checkD d = 4) := Lib.hid (by rw [HE2.out]; simp)
  go_wp2
  go_ret
  exact ⟨by rw [HB.out]; rfl, hx0.trans hx2⟩
 | true =>
  rw [hru] at HE2
  cases x6 with
  | true =>
   go_wp2_with fail
   refine (HRB w2).mono ?_
   rintro e w3 ⟨rfl, hx3⟩
   have hx3 := hx2.trans hx3
   clear hx2
   cases hrb : rightB d.box with
   | false =>
    rw [hrb] at HE2
    have HB : Hid (checkD d = 4) := Lib.hid (by rw [HE2.out]; simp)
    go_wp2
    go_ret
    exact ⟨by rw [HB.out]; rfl, hx0.trans hx3⟩
   | true =>
    rw [hrb] at HE2
    go_wp2_with fail
    refine (J7 w3 hx3).mono ?_
    rintro e w4 ⟨rfl, hw4⟩
    have hx4 : Ext wa w4 := hw4 ▸ hx3.alloc _
    clear hw4 hx3
    cases x7 with
    | true =>
     go_wp2_with fail
     refine (HRT w4).mono ?_
     rintro e w5 ⟨rfl, hx5⟩
     have hx5 := hx4.trans hx5
     clear hx4
     cases hrt : rightB d.dest with
     | false =>
      rw [hrt] at HE2
      have HB : Hid (checkD d = 4) := Lib.hid (by rw [HE2.out]; simp)
      go_wp2
      go_ret
      exact ⟨by rw [HB.out]; rfl, hx0.trans hx5⟩
     | true =>
      rw [hrt] at HE2
      go_wp2_with fail
      refine (J7 w5 hx5).mono ?_
      rintro e w6 ⟨rfl, hw6⟩
      have hx6 : Ext wa w6 := hw6 ▸ hx5.alloc _
      clear hw6 hx5
      have HF := Lib.hid (HE2.out.trans (if_neg (by simp)))
      go_wp2_with fail
      clear HE2 J6 J7 C0 C2 C3 HRU HRB HRT
      have hwf : IntKind.i64.wrap ((d.flags.toNat : Nat) : Int) = ((d.flags.toNat : Nat) : Int) := wrap64_nat _ (by have := d.flags.toNat_lt; omega)
      have K1 := fun w => within_any x56 d.uid 1 4294967295 w
      have K2 := fun w => within_any x5 d.how 0 2 w
      have K3 := fun w => within_any x45 d.flags.toNat 0 31 w
      have K4 := fun w => within_any x9 d.shard 0 3 w
      have K5 := fun w => within_any x89 d.epoch 1 4294967295 w
      generalize withinB x56 d.uid 1 4294967295 = v1 at *
      generalize withinB x5 d.how 0 2 = v2 at *
      generalize withinB x45 d.flags.toNat 0 31 = v3 at *
      generalize withinB x9 d.shard 0 3 = v4 at *
      generalize withinB x89 d.epoch 1 4294967295 = v5 at *
      go_wp2_with fail
      go_region_held3 (fun w' => Ext wa w') (first | exact hx6.drew | exact (hx6.alloc _).drew | exact hx6.drew.alloc _ | assumption) ((first | (go_at_call 79; refine (J56 (World.drew w6) hx6.drew).mono ?_; rintro e w9 ⟨rfl, rfl⟩) | (go_at_call 83; refine (K1 _).mono ?_; rintro e w9 ⟨rfl, rfl⟩)))
      have hx7 := (hx6.alloc (.cells #[.int .i64 5, .int .i64 6] 88)).drew
      generalize (World.alloc w6 (.cells #[.int .i64 5, .int .i64 6] 88)).drew = w7 at *
      clear hx6 K1
      cases v1
      ·
       have HB : Hid (checkD d = 2) := Lib.hid (by rw [HF.out]; simp)
       go_wp2
       go_ret
       exact ⟨by rw [HB.out]; rfl, hx0.trans hx7⟩
      go_wp2_with fail
      go_region_held3 (fun w' => Ext wa w') (first | exact hx7.drew | exact (hx7.alloc _).drew | exact hx7.drew.alloc _ | assumption) ((first | (go_at_call 79; refine (J5 (World.drew w7) hx7.drew).mono ?_; rintro e w9 ⟨rfl, rfl⟩) | (go_at_call 83; refine (K2 _).mono ?_; rintro e w9 ⟨rfl, rfl⟩)))
      have hx8 := (hx7.alloc (.cells #[.int .i64 5] 88)).drew
      generalize (World.alloc w7 (.cells #[.int .i64 5] 88)).drew = w8 at *
      clear hx7 K2
      cases v2
      ·
       have HB : Hid (checkD d = 2) := Lib.hid (by rw [HF.out]; simp)
       go_wp2
       go_ret
       exact ⟨by rw [HB.out]; rfl, hx0.trans hx8⟩
      go_wp2_with fail
      go_region_held3 (fun w' => Ext wa w') (first | exact hx8.drew | exact (hx8.alloc _).drew | exact hx8.drew.alloc _ | assumption) ((first | (go_at_call 79; refine (J45 (World.drew w8) hx8.drew).mono ?_; rintro e w9 ⟨rfl, rfl⟩) | (go_at_call 83; refine (K3 _).mono ?_; rintro e w9 ⟨rfl, rfl⟩)))
      have hx9 := (hx8.alloc (.cells #[.int .i64 4, .int .i64 5] 88)).drew
      generalize (World.alloc w8 (.cells #[.int .i64 4, .int .i64 5] 88)).drew = w9 at *
      clear hx8 K3
      cases v3
      ·
       have HB : Hid (checkD d = 2) := Lib.hid (by rw [HF.out]; simp)
       go_wp2
       go_ret
       exact ⟨by rw [HB.out]; rfl, hx0.trans hx9⟩
      go_wp2_with fail
      go_region_held3 (fun w' => Ext wa w') (first | exact hx9.drew | exact (hx9.alloc _).drew | exact hx9.drew.alloc _ | assumption) ((first | (go_at_call 79; refine (J9 (World.drew w9) hx9.drew).mono ?_; rintro e w9 ⟨rfl, rfl⟩) | (go_at_call 83; refine (K4 _).mono ?_; rintro e w9 ⟨rfl, rfl⟩)))
      have hx10 := (hx9.alloc (.cells #[.int .i64 9] 88)).drew
      generalize (World.alloc w9 (.cells #[.int .i64 9] 88)).drew = w10 at *
      clear hx9 K4
      cases v4
      ·
       have HB : Hid (checkD d = 2) := Lib.hid (by rw [HF.out]; simp)
       go_wp2
       go_ret
       exact ⟨by rw [HB.out]; rfl, hx0.trans hx10⟩
      go_wp2_with fail
      go_region_held3 (fun w' => Ext wa w') (first | exact hx10.drew | exact (hx10.alloc _).drew | exact hx10.drew.alloc _ | assumption) ((first | (go_at_call 79; refine (J89 (World.drew w10) hx10.drew).mono ?_; rintro e w9 ⟨rfl, rfl⟩) | (go_at_call 83; refine (K5 _).mono ?_; rintro e w9 ⟨rfl, rfl⟩)))
      have hx11 := (hx10.alloc (.cells #[.int .i64 8, .int .i64 9] 88)).drew
      generalize (World.alloc w10 (.cells #[.int .i64 8, .int .i64 9] 88)).drew = w11 at *
      clear hx10 K5
      cases v5
      ·
       have HB : Hid (checkD d = 2) := Lib.hid (by rw [HF.out]; simp)
       go_wp2
       go_ret
       exact ⟨by rw [HB.out]; rfl, hx0.trans hx11⟩
      have HG := Lib.hid (HF.out.trans (if_neg (by simp)))
      clear HF J56 J5 J45 J9 J89 C4 C5 C6 C7 C8
      go_wp2_with fail
      refine (J4 w11 hx11).mono ?_
      rintro e w12 ⟨rfl, hw12⟩
      have hx12 : Ext wa w12 := hw12 ▸ hx11.alloc _
      clear hw12 hx11
      cases x8 with
      | true =>
       obtain ⟨rfl, rfl⟩ := R8 rfl
       have HH : Hid (checkD d = lastC d) := Lib.hid (by rw [HG.out]; simp)
       clear HG
       go_wp2_with fail
       refine (J48 w12 hx12).mono ?_
       rintro e w13 ⟨rfl, hw13⟩
       have hx13 : Ext wa w13 := hw13 ▸ hx12.alloc _
       clear hw13 hx12
       go_wp2_with fail
       refine (J8 w13 hx13).mono ?_
       rintro e w14 ⟨rfl, hw14⟩
       have hx14 : Ext wa w14 := hw14 ▸ hx13.alloc _
       clear hw14 hx13
       go_wp2_with fail
       refine (HTU w14 hx14).mono ?_
       rintro e w15 ⟨hx15, hq⟩
       have hx15 := hx14.trans hx15
       clear hx14
       cases htu : takeUs d.bytes with
       | inl k =>
        rw [htu] at hq
        obtain rfl := hq
        have HB : Hid (checkD d = k) := Lib.hid (by rw [HH.out]; unfold lastC; rw [htu])
        have k1 : (((k : Nat) : Int) == 0) = false := by simpa using takeUs_nz htu
        clear htu HH HTU J4 J48 J8
        unfold zUser
        go_wp2
        go_ret
        exact ⟨by rw [HB.out]; rfl, hx0.trans (hx15.alloc _)⟩
       | inr u =>
        rw [htu] at hq
        obtain ⟨v, rfl, hown⟩ := hq
        obtain ⟨A2, c2, rfl⟩ := hown.form
        clear HTU J4 J48 J8 hown
        unfold usC
        cases hn : (u.name == d.user) with
        | true =>
         have HB : Hid (checkD d = 0) := Lib.hid (by rw [HH.out]; unfold lastC; rw [htu]; exact if_neg (by simpa using hn))
         clear htu HH
         go_wp2
         go_ret
         exact ⟨by rw [HB.out]; rfl, hx0.trans (hx15.alloc _)⟩
        | false =>
         have HB : Hid (checkD d = 4) := Lib.hid (by rw [HH.out]; unfold lastC; rw [htu]; exact if_pos (by simpa using hn))
         clear htu HH
         go_wp2
         go_ret
         exact ⟨by rw [HB.out]; rfl, hx0.trans (hx15.alloc _)⟩
      | false =>
       cases x4 with
       | true =>
        by_cases h600 : (600 : Int) < (d.bytes.length : Int)
        ·
         have HB : Hid (checkD d = 6) := Lib.hid (by rw [HG.out]; simp; omega)
         go_wp2
         go_ret
         exact ⟨by rw [HB.out]; rfl, hx0.trans hx12⟩
        ·have HG2 := Lib.hid (HG.out.trans (if_neg (by simp; omega)))
         clear HG
         go_wp2_with fail
         refine (J48 w12 hx12).mono ?_
         rintro e w13 ⟨rfl, hw13⟩
         have hx13 : Ext wa w13 := hw13 ▸ hx12.alloc _
         clear hw13 hx12
         cases x48 with
         | true =>
          have HG3 : Hid (checkD d = 0) := Lib.hid (by rw [HG2.out]; simp)
          go_wp2_with fail
          refine (J8 w13 hx13).mono ?_
          rintro e w14 ⟨rfl, hw14⟩
          have hx14 : Ext wa w14 := hw14 ▸ hx13.alloc _
          clear hw14
          have HB := HG3
          go_wp2
          go_ret
          exact ⟨by rw [HB.out]; rfl, hx0.trans hx14⟩
         | false =>
          by_cases hlen : (0 : Int) < (d.bytes.length : Int)
          ·
           have HB : Hid (checkD d = 2) := Lib.hid (by rw [HG2.out]; exact if_pos ⟨rfl, by omega⟩)
           go_wp2
           go_ret
           exact ⟨by rw [HB.out]; rfl, hx0.trans hx13⟩
          ·have HG3 : Hid (checkD d = 0) := Lib.hid (HG2.out.trans ((if_neg (fun h => hlen (by have := h.2; omega))).trans (if_pos (by trivial))))
           go_wp2_with fail
           refine (J8 w13 hx13).mono ?_
           rintro e w14 ⟨rfl, hw14⟩
           have hx14 : Ext wa w14 := hw14 ▸ hx13.alloc _
           clear hw14
           have HB := HG3
           go_wp2
           go_ret
           exact ⟨by rw [HB.out]; rfl, hx0.trans hx14⟩
       | false =>
        have HG2 := Lib.hid (HG.out.trans (if_neg (by simp)))
        clear HG
        go_wp2_with fail
        refine (J48 w12 hx12).mono ?_
        rintro e w13 ⟨rfl, hw13⟩
        have hx13 : Ext wa w13 := hw13 ▸ hx12.alloc _
        clear hw13 hx12
        cases x48 with
        | true =>
         have HG3 : Hid (checkD d = 0) := Lib.hid (by rw [HG2.out]; simp)
         go_wp2_with fail
         refine (J8 w13 hx13).mono ?_
         rintro e w14 ⟨rfl, hw14⟩
         have hx14 : Ext wa w14 := hw14 ▸ hx13.alloc _
         clear hw14
         have HB := HG3
         go_wp2
         go_ret
         exact ⟨by rw [HB.out]; rfl, hx0.trans hx14⟩
        | false =>
         by_cases hlen : (0 : Int) < (d.bytes.length : Int)
         ·
          have HB : Hid (checkD d = 2) := Lib.hid (by rw [HG2.out]; exact if_pos ⟨rfl, by omega⟩)
          go_wp2
          go_ret
          exact ⟨by rw [HB.out]; rfl, hx0.trans hx13⟩
         ·have HG3 : Hid (checkD d = 0) := Lib.hid (HG2.out.trans ((if_neg (fun h => hlen (by have := h.2; omega))).trans (if_pos (by trivial))))
          go_wp2_with fail
          refine (J8 w13 hx13).mono ?_
          rintro e w14 ⟨rfl, hw14⟩
          have hx14 : Ext wa w14 := hw14 ▸ hx13.alloc _
          clear hw14
          have HB := HG3
          go_wp2
          go_ret
          exact ⟨by rw [HB.out]; rfl, hx0.trans hx14⟩
    | false =>
     go_wp2_with fail
     refine (J7 w4 hx4).mono ?_
     rintro e w6 ⟨rfl, hw6⟩
     have hx6 : Ext wa w6 := hw6 ▸ hx4.alloc _
     clear hw6 hx4
     cases hto : d.dest.isEmpty with
     | false =>
      have hto' : d.dest ≠ [] := by simpa using hto
      have HB : Hid (checkD d = 4) := Lib.hid (by rw [HE2.out]; simp [hto'])
      go_wp2
      go_ret
      exact ⟨by rw [HB.out]; rfl, hx0.trans hx6⟩
     | true =>
      have hto' : d.dest = [] := by simpa using hto
      have HF := Lib.hid (HE2.out.trans (if_neg (by simp [hto'])))
      clear hto'
      go_wp2_with fail
      clear HE2 J6 J7 C0 C2 C3 HRU HRB HRT
      have hwf : IntKind.i64.wrap ((d.flags.toNat : Nat) : Int) = ((d.flags.toNat : Nat) : Int) := wrap64_nat _ (by have := d.flags.toNat_lt; omega)
      have K1 := fun w => within_any x56 d.uid 1 4294967295 w
      have K2 := fun w => within_any x5 d.how 0 2 w
      have K3 := fun w => within_any x45 d.flags.toNat 0 31 w
      have K4 := fun w => within_any x9 d.shard 0 3 w
      have K5 := fun w => within_any x89 d.epoch 1 4294967295 w
      generalize withinB x56 d.uid 1 4294967295 = v1 at *
      generalize withinB x5 d.how 0 2 = v2 at *
      generalize withinB x45 d.flags.toNat 0 31 = v3 at *
      generalize withinB x9 d.shard 0 3 = v4 at *
      generalize withinB x89 d.epoch 1 4294967295 = v5 at *
      go_wp2_with fail
      go_region_held3 (fun w' => Ext wa w') (first | exact hx6.drew | exact (hx6.alloc _).drew | exact hx6.drew.alloc _ | assumption) ((first | (go_at_call 79; refine (J56 (World.drew w6) hx6.drew).mono ?_; rintro e w9 ⟨rfl, rfl⟩) | (go_at_call 83; refine (K1 _).mono ?_; rintro e w9 ⟨rfl, rfl⟩)))
      have hx7 := (hx6.alloc (.cells #[.int .i64 5, .int .i64 6] 88)).drew
      generalize (World.alloc w6 (.cells #[.int .i64 5, .int .i64 6] 88)).drew = w7 at *
      clear hx6 K1
      cases v1
      ·
       have HB : Hid (checkD d = 2) := Lib.hid (by rw [HF.out]; simp)
       go_wp2
       go_ret
       exact ⟨by rw [HB.out]; rfl, hx0.trans hx7⟩
      go_wp2_with fail
      go_region_held3 (fun w' => Ext wa w') (first | exact hx7.drew | exact (hx7.alloc _).drew | exact hx7.drew.alloc _ | assumption) ((first | (go_at_call 79; refine (J5 (World.drew w7) hx7.drew).mono ?_; rintro e w9 ⟨rfl, rfl⟩) | (go_at_call 83; refine (K2 _).mono ?_; rintro e w9 ⟨rfl, rfl⟩)))
      have hx8 := (hx7.alloc (.cells #[.int .i64 5] 88)).drew
      generalize (World.alloc w7 (.cells #[.int .i64 5] 88)).drew = w8 at *
      clear hx7 K2
      cases v2
      ·
       have HB : Hid (checkD d = 2) := Lib.hid (by rw [HF.out]; simp)
       go_wp2
       go_ret
       exact ⟨by rw [HB.out]; rfl, hx0.trans hx8⟩
      go_wp2_with fail
      go_region_held3 (fun w' => Ext wa w') (first | exact hx8.drew | exact (hx8.alloc _).drew | exact hx8.drew.alloc _ | assumption) ((first | (go_at_call 79; refine (J45 (World.drew w8) hx8.drew).mono ?_; rintro e w9 ⟨rfl, rfl⟩) | (go_at_call 83; refine (K3 _).mono ?_; rintro e w9 ⟨rfl, rfl⟩)))
      have hx9 := (hx8.alloc (.cells #[.int .i64 4, .int .i64 5] 88)).drew
      generalize (World.alloc w8 (.cells #[.int .i64 4, .int .i64 5] 88)).drew = w9 at *
      clear hx8 K3
      cases v3
      ·
       have HB : Hid (checkD d = 2) := Lib.hid (by rw [HF.out]; simp)
       go_wp2
       go_ret
       exact ⟨by rw [HB.out]; rfl, hx0.trans hx9⟩
      go_wp2_with fail
      go_region_held3 (fun w' => Ext wa w') (first | exact hx9.drew | exact (hx9.alloc _).drew | exact hx9.drew.alloc _ | assumption) ((first | (go_at_call 79; refine (J9 (World.drew w9) hx9.drew).mono ?_; rintro e w9 ⟨rfl, rfl⟩) | (go_at_call 83; refine (K4 _).mono ?_; rintro e w9 ⟨rfl, rfl⟩)))
      have hx10 := (hx9.alloc (.cells #[.int .i64 9] 88)).drew
      generalize (World.alloc w9 (.cells #[.int .i64 9] 88)).drew = w10 at *
      clear hx9 K4
      cases v4
      ·
       have HB : Hid (checkD d = 2) := Lib.hid (by rw [HF.out]; simp)
       go_wp2
       go_ret
       exact ⟨by rw [HB.out]; rfl, hx0.trans hx10⟩
      go_wp2_with fail
      go_region_held3 (fun w' => Ext wa w') (first | exact hx10.drew | exact (hx10.alloc _).drew | exact hx10.drew.alloc _ | assumption) ((first | (go_at_call 79; refine (J89 (World.drew w10) hx10.drew).mono ?_; rintro e w9 ⟨rfl, rfl⟩) | (go_at_call 83; refine (K5 _).mono ?_; rintro e w9 ⟨rfl, rfl⟩)))
      have hx11 := (hx10.alloc (.cells #[.int .i64 8, .int .i64 9] 88)).drew
      generalize (World.alloc w10 (.cells #[.int .i64 8, .int .i64 9] 88)).drew = w11 at *
      clear hx10 K5
      cases v5
      ·
       have HB : Hid (checkD d = 2) := Lib.hid (by rw [HF.out]; simp)
       go_wp2
       go_ret
       exact ⟨by rw [HB.out]; rfl, hx0.trans hx11⟩
      have HG := Lib.hid (HF.out.trans (if_neg (by simp)))
      clear HF J56 J5 J45 J9 J89 C4 C5 C6 C7 C8
      go_wp2_with fail
      refine (J4 w11 hx11).mono ?_
      rintro e w12 ⟨rfl, hw12⟩
      have hx12 : Ext wa w12 := hw12 ▸ hx11.alloc _
      clear hw12 hx11
      cases x8 with
      | true =>
       obtain ⟨rfl, rfl⟩ := R8 rfl
       have HH : Hid (checkD d = lastC d) := Lib.hid (by rw [HG.out]; simp)
       clear HG
       go_wp2_with fail
       refine (J48 w12 hx12).mono ?_
       rintro e w13 ⟨rfl, hw13⟩
       have hx13 : Ext wa w13 := hw13 ▸ hx12.alloc _
       clear hw13 hx12
       go_wp2_with fail
       refine (J8 w13 hx13).mono ?_
       rintro e w14 ⟨rfl, hw14⟩
       have hx14 : Ext wa w14 := hw14 ▸ hx13.alloc _
       clear hw14 hx13
       go_wp2_with fail
       refine (HTU w14 hx14).mono ?_
       rintro e w15 ⟨hx15, hq⟩
       have hx15 := hx14.trans hx15
       clear hx14
       cases htu : takeUs d.bytes with
       | inl k =>
        rw [htu] at hq
        obtain rfl := hq
        have HB : Hid (checkD d = k) := Lib.hid (by rw [HH.out]; unfold lastC; rw [htu])
        have k1 : (((k : Nat) : Int) == 0) = false := by simpa using takeUs_nz htu
        clear htu HH HTU J4 J48 J8
        unfold zUser
        go_wp2
        go_ret
        exact ⟨by rw [HB.out]; rfl, hx0.trans (hx15.alloc _)⟩
       | inr u =>
        rw [htu] at hq
        obtain ⟨v, rfl, hown⟩ := hq
        obtain ⟨A2, c2, rfl⟩ := hown.form
        clear HTU J4 J48 J8 hown
        unfold usC
        cases hn : (u.name == d.user) with
        | true =>
         have HB : Hid (checkD d = 0) := Lib.hid (by rw [HH.out]; unfold lastC; rw [htu]; exact if_neg (by simpa using hn))
         clear htu HH
         go_wp2
         go_ret
         exact ⟨by rw [HB.out]; rfl, hx0.trans (hx15.alloc _)⟩
        | false =>
         have HB : Hid (checkD d = 4) := Lib.hid (by rw [HH.out]; unfold lastC; rw [htu]; exact if_pos (by simpa using hn))
         clear htu HH
         go_wp2
         go_ret
         exact ⟨by rw [HB.out]; rfl, hx0.trans (hx15.alloc _)⟩
      | false =>
       cases x4 with
       | true =>
        by_cases h600 : (600 : Int) < (d.bytes.length : Int)
        ·
         have HB : Hid (checkD d = 6) := Lib.hid (by rw [HG.out]; simp; omega)
         go_wp2
         go_ret
         exact ⟨by rw [HB.out]; rfl, hx0.trans hx12⟩
        ·have HG2 := Lib.hid (HG.out.trans (if_neg (by simp; omega)))
         clear HG
         go_wp2_with fail
         refine (J48 w12 hx12).mono ?_
         rintro e w13 ⟨rfl, hw13⟩
         have hx13 : Ext wa w13 := hw13 ▸ hx12.alloc _
         clear hw13 hx12
         cases x48 with
         | true =>
          have HG3 : Hid (checkD d = 0) := Lib.hid (by rw [HG2.out]; simp)
          go_wp2_with fail
          refine (J8 w13 hx13).mono ?_
          rintro e w14 ⟨rfl, hw14⟩
          have hx14 : Ext wa w14 := hw14 ▸ hx13.alloc _
          clear hw14
          have HB := HG3
          go_wp2
          go_ret
          exact ⟨by rw [HB.out]; rfl, hx0.trans hx14⟩
         | false =>
          by_cases hlen : (0 : Int) < (d.bytes.length : Int)
          ·
           have HB : Hid (checkD d = 2) := Lib.hid (by rw [HG2.out]; exact if_pos ⟨rfl, by omega⟩)
           go_wp2
           go_ret
           exact ⟨by rw [HB.out]; rfl, hx0.trans hx13⟩
          ·have HG3 : Hid (checkD d = 0) := Lib.hid (HG2.out.trans ((if_neg (fun h => hlen (by have := h.2; omega))).trans (if_pos (by trivial))))
           go_wp2_with fail
           refine (J8 w13 hx13).mono ?_
           rintro e w14 ⟨rfl, hw14⟩
           have hx14 : Ext wa w14 := hw14 ▸ hx13.alloc _
           clear hw14
           have HB := HG3
           go_wp2
           go_ret
           exact ⟨by rw [HB.out]; rfl, hx0.trans hx14⟩
       | false =>
        have HG2 := Lib.hid (HG.out.trans (if_neg (by simp)))
        clear HG
        go_wp2_with fail
        refine (J48 w12 hx12).mono ?_
        rintro e w13 ⟨rfl, hw13⟩
        have hx13 : Ext wa w13 := hw13 ▸ hx12.alloc _
        clear hw13 hx12
        cases x48 with
        | true =>
         have HG3 : Hid (checkD d = 0) := Lib.hid (by rw [HG2.out]; simp)
         go_wp2_with fail
         refine (J8 w13 hx13).mono ?_
         rintro e w14 ⟨rfl, hw14⟩
         have hx14 : Ext wa w14 := hw14 ▸ hx13.alloc _
         clear hw14
         have HB := HG3
         go_wp2
         go_ret
         exact ⟨by rw [HB.out]; rfl, hx0.trans hx14⟩
        | false =>
         by_cases hlen : (0 : Int) < (d.bytes.length : Int)
         ·
          have HB : Hid (checkD d = 2) := Lib.hid (by rw [HG2.out]; exact if_pos ⟨rfl, by omega⟩)
          go_wp2
          go_ret
          exact ⟨by rw [HB.out]; rfl, hx0.trans hx13⟩
         ·have HG3 : Hid (checkD d = 0) := Lib.hid (HG2.out.trans ((if_neg (fun h => hlen (by have := h.2; omega))).trans (if_pos (by trivial))))
          go_wp2_with fail
          refine (J8 w13 hx13).mono ?_
          rintro e w14 ⟨rfl, hw14⟩
          have hx14 : Ext wa w14 := hw14 ▸ hx13.alloc _
          clear hw14
          have HB := HG3
          go_wp2
          go_ret
          exact ⟨by rw [HB.out]; rfl, hx0.trans hx14⟩
  | false =>
   cases hbo : d.box.isEmpty with
   | false =>
    have hbo' : d.box ≠ [] := by simpa using hbo
    have HB : Hid (checkD d = 4) := Lib.hid (by rw [HE2.out]; simp [hbo'])
    go_wp2
    go_ret
    exact ⟨by rw [HB.out]; rfl, hx0.trans hx2⟩
   | true =>
    have hbo' : d.box = [] := by simpa using hbo
    go_wp2_with fail
    refine (J7 w2 hx2).mono ?_
    rintro e w4 ⟨rfl, hw4⟩
    have hx4 : Ext wa w4 := hw4 ▸ hx2.alloc _
    clear hw4 hx2
    cases x7 with
    | true => exact absurd (R67 rfl) (by simp)
    | false =>
     go_wp2_with fail
     refine (J7 w4 hx4).mono ?_
     rintro e w6 ⟨rfl, hw6⟩
     have hx6 : Ext wa w6 := hw6 ▸ hx4.alloc _
     clear hw6 hx4
     cases hto : d.dest.isEmpty with
     | false =>
      have hto' : d.dest ≠ [] := by simpa using hto
      have HB : Hid (checkD d = 4) := Lib.hid (by rw [HE2.out]; simp [hto'])
      go_wp2
      go_ret
      exact ⟨by rw [HB.out]; rfl, hx0.trans hx6⟩
     | true =>
      have hto' : d.dest = [] := by simpa using hto
      have HF := Lib.hid (HE2.out.trans (if_neg (by simp [hto', hbo'])))
      clear hto' hbo'
      go_wp2_with fail
      clear HE2 J6 J7 C0 C2 C3 HRU HRB HRT
      have hwf : IntKind.i64.wrap ((d.flags.toNat : Nat) : Int) = ((d.flags.toNat : Nat) : Int) := wrap64_nat _ (by have := d.flags.toNat_lt; omega)
      have K1 := fun w => within_any x56 d.uid 1 4294967295 w
      have K2 := fun w => within_any x5 d.how 0 2 w
      have K3 := fun w => within_any x45 d.flags.toNat 0 31 w
      have K4 := fun w => within_any x9 d.shard 0 3 w
      have K5 := fun w => within_any x89 d.epoch 1 4294967295 w
      generalize withinB x56 d.uid 1 4294967295 = v1 at *
      generalize withinB x5 d.how 0 2 = v2 at *
      generalize withinB x45 d.flags.toNat 0 31 = v3 at *
      generalize withinB x9 d.shard 0 3 = v4 at *
      generalize withinB x89 d.epoch 1 4294967295 = v5 at *
      go_wp2_with fail
      go_region_held3 (fun w' => Ext wa w') (first | exact hx6.drew | exact (hx6.alloc _).drew | exact hx6.drew.alloc _ | assumption) ((first | (go_at_call 79; refine (J56 (World.drew w6) hx6.drew).mono ?_; rintro e w9 ⟨rfl, rfl⟩) | (go_at_call 83; refine (K1 _).mono ?_; rintro e w9 ⟨rfl, rfl⟩)))
      have hx7 := (hx6.alloc (.cells #[.int .i64 5, .int .i64 6] 88)).drew
      generalize (World.alloc w6 (.cells #[.int .i64 5, .int .i64 6] 88)).drew = w7 at *
      clear hx6 K1
      cases v1
      ·
       have HB : Hid (checkD d = 2) := Lib.hid (by rw [HF.out]; simp)
       go_wp2
       go_ret
       exact ⟨by rw [HB.out]; rfl, hx0.trans hx7⟩
      go_wp2_with fail
      go_region_held3 (fun w' => Ext wa w') (first | exact hx7.drew | exact (hx7.alloc _).drew | exact hx7.drew.alloc _ | assumption) ((first | (go_at_call 79; refine (J5 (World.drew w7) hx7.drew).mono ?_; rintro e w9 ⟨rfl, rfl⟩) | (go_at_call 83; refine (K2 _).mono ?_; rintro e w9 ⟨rfl, rfl⟩)))
      have hx8 := (hx7.alloc (.cells #[.int .i64 5] 88)).drew
      generalize (World.alloc w7 (.cells #[.int .i64 5] 88)).drew = w8 at *
      clear hx7 K2
      cases v2
      ·
       have HB : Hid (checkD d = 2) := Lib.hid (by rw [HF.out]; simp)
       go_wp2
       go_ret
       exact ⟨by rw [HB.out]; rfl, hx0.trans hx8⟩
      go_wp2_with fail
      go_region_held3 (fun w' => Ext wa w') (first | exact hx8.drew | exact (hx8.alloc _).drew | exact hx8.drew.alloc _ | assumption) ((first | (go_at_call 79; refine (J45 (World.drew w8) hx8.drew).mono ?_; rintro e w9 ⟨rfl, rfl⟩) | (go_at_call 83; refine (K3 _).mono ?_; rintro e w9 ⟨rfl, rfl⟩)))
      have hx9 := (hx8.alloc (.cells #[.int .i64 4, .int .i64 5] 88)).drew
      generalize (World.alloc w8 (.cells #[.int .i64 4, .int .i64 5] 88)).drew = w9 at *
      clear hx8 K3
      cases v3
      ·
       have HB : Hid (checkD d = 2) := Lib.hid (by rw [HF.out]; simp)
       go_wp2
       go_ret
       exact ⟨by rw [HB.out]; rfl, hx0.trans hx9⟩
      go_wp2_with fail
      go_region_held3 (fun w' => Ext wa w') (first | exact hx9.drew | exact (hx9.alloc _).drew | exact hx9.drew.alloc _ | assumption) ((first | (go_at_call 79; refine (J9 (World.drew w9) hx9.drew).mono ?_; rintro e w9 ⟨rfl, rfl⟩) | (go_at_call 83; refine (K4 _).mono ?_; rintro e w9 ⟨rfl, rfl⟩)))
      have hx10 := (hx9.alloc (.cells #[.int .i64 9] 88)).drew
      generalize (World.alloc w9 (.cells #[.int .i64 9] 88)).drew = w10 at *
      clear hx9 K4
      cases v4
      ·
       have HB : Hid (checkD d = 2) := Lib.hid (by rw [HF.out]; simp)
       go_wp2
       go_ret
       exact ⟨by rw [HB.out]; rfl, hx0.trans hx10⟩
      go_wp2_with fail
      go_region_held3 (fun w' => Ext wa w') (first | exact hx10.drew | exact (hx10.alloc _).drew | exact hx10.drew.alloc _ | assumption) ((first | (go_at_call 79; refine (J89 (World.drew w10) hx10.drew).mono ?_; rintro e w9 ⟨rfl, rfl⟩) | (go_at_call 83; refine (K5 _).mono ?_; rintro e w9 ⟨rfl, rfl⟩)))
      have hx11 := (hx10.alloc (.cells #[.int .i64 8, .int .i64 9] 88)).drew
      generalize (World.alloc w10 (.cells #[.int .i64 8, .int .i64 9] 88)).drew = w11 at *
      clear hx10 K5
      cases v5
      ·
       have HB : Hid (checkD d = 2) := Lib.hid (by rw [HF.out]; simp)
       go_wp2
       go_ret
       exact ⟨by rw [HB.out]; rfl, hx0.trans hx11⟩
      have HG := Lib.hid (HF.out.trans (if_neg (by simp)))
      clear HF J56 J5 J45 J9 J89 C4 C5 C6 C7 C8
      go_wp2_with fail
      refine (J4 w11 hx11).mono ?_
      rintro e w12 ⟨rfl, hw12⟩
      have hx12 : Ext wa w12 := hw12 ▸ hx11.alloc _
      clear hw12 hx11
      cases x8 with
      | true =>
       obtain ⟨rfl, rfl⟩ := R8 rfl
       have HH : Hid (checkD d = lastC d) := Lib.hid (by rw [HG.out]; simp)
       clear HG
       go_wp2_with fail
       refine (J48 w12 hx12).mono ?_
       rintro e w13 ⟨rfl, hw13⟩
       have hx13 : Ext wa w13 := hw13 ▸ hx12.alloc _
       clear hw13 hx12
       go_wp2_with fail
       refine (J8 w13 hx13).mono ?_
       rintro e w14 ⟨rfl, hw14⟩
       have hx14 : Ext wa w14 := hw14 ▸ hx13.alloc _
       clear hw14 hx13
       go_wp2_with fail
       refine (HTU w14 hx14).mono ?_
       rintro e w15 ⟨hx15, hq⟩
       have hx15 := hx14.trans hx15
       clear hx14
       cases htu : takeUs d.bytes with
       | inl k =>
        rw [htu] at hq
        obtain rfl := hq
        have HB : Hid (checkD d = k) := Lib.hid (by rw [HH.out]; unfold lastC; rw [htu])
        have k1 : (((k : Nat) : Int) == 0) = false := by simpa using takeUs_nz htu
        clear htu HH HTU J4 J48 J8
        unfold zUser
        go_wp2
        go_ret
        exact ⟨by rw [HB.out]; rfl, hx0.trans (hx15.alloc _)⟩
       | inr u =>
        rw [htu] at hq
        obtain ⟨v, rfl, hown⟩ := hq
        obtain ⟨A2, c2, rfl⟩ := hown.form
        clear HTU J4 J48 J8 hown
        unfold usC
        cases hn : (u.name == d.user) with
        | true =>
         have HB : Hid (checkD d = 0) := Lib.hid (by rw [HH.out]; unfold lastC; rw [htu]; exact if_neg (by simpa using hn))
         clear htu HH
         go_wp2
         go_ret
         exact ⟨by rw [HB.out]; rfl, hx0.trans (hx15.alloc _)⟩
        | false =>
         have HB : Hid (checkD d = 4) := Lib.hid (by rw [HH.out]; unfold lastC; rw [htu]; exact if_pos (by simpa using hn))
         clear htu HH
         go_wp2
         go_ret
         exact ⟨by rw [HB.out]; rfl, hx0.trans (hx15.alloc _)⟩
      | false =>
       cases x4 with
       | true =>
        by_cases h600 : (600 : Int) < (d.bytes.length : Int)
        ·
         have HB : Hid (checkD d = 6) := Lib.hid (by rw [HG.out]; simp; omega)
         go_wp2
         go_ret
         exact ⟨by rw [HB.out]; rfl, hx0.trans hx12⟩
        ·have HG2 := Lib.hid (HG.out.trans (if_neg (by simp; omega)))
         clear HG
         go_wp2_with fail
         refine (J48 w12 hx12).mono ?_
         rintro e w13 ⟨rfl, hw13⟩
         have hx13 : Ext wa w13 := hw13 ▸ hx12.alloc _
         clear hw13 hx12
         cases x48 with
         | true =>
          have HG3 : Hid (checkD d = 0) := Lib.hid (by rw [HG2.out]; simp)
          go_wp2_with fail
          refine (J8 w13 hx13).mono ?_
          rintro e w14 ⟨rfl, hw14⟩
          have hx14 : Ext wa w14 := hw14 ▸ hx13.alloc _
          clear hw14
          have HB := HG3
          go_wp2
          go_ret
          exact ⟨by rw [HB.out]; rfl, hx0.trans hx14⟩
         | false =>
          by_cases hlen : (0 : Int) < (d.bytes.length : Int)
          ·
           have HB : Hid (checkD d = 2) := Lib.hid (by rw [HG2.out]; exact if_pos ⟨rfl, by omega⟩)
           go_wp2
           go_ret
           exact ⟨by rw [HB.out]; rfl, hx0.trans hx13⟩
          ·have HG3 : Hid (checkD d = 0) := Lib.hid (HG2.out.trans ((if_neg (fun h => hlen (by have := h.2; omega))).trans (if_pos (by trivial))))
           go_wp2_with fail
           refine (J8 w13 hx13).mono ?_
           rintro e w14 ⟨rfl, hw14⟩
           have hx14 : Ext wa w14 := hw14 ▸ hx13.alloc _
           clear hw14
           have HB := HG3
           go_wp2
           go_ret
           exact ⟨by rw [HB.out]; rfl, hx0.trans hx14⟩
       | false =>
        have HG2 := Lib.hid (HG.out.trans (if_neg (by simp)))
        clear HG
        go_wp2_with fail
        refine (J48 w12 hx12).mono ?_
        rintro e w13 ⟨rfl, hw13⟩
        have hx13 : Ext wa w13 := hw13 ▸ hx12.alloc _
        clear hw13 hx12
        cases x48 with
        | true =>
         have HG3 : Hid (checkD d = 0) := Lib.hid (by rw [HG2.out]; simp)
         go_wp2_with fail
         refine (J8 w13 hx13).mono ?_
         rintro e w14 ⟨rfl, hw14⟩
         have hx14 : Ext wa w14 := hw14 ▸ hx13.alloc _
         clear hw14
         have HB := HG3
         go_wp2
         go_ret
         exact ⟨by rw [HB.out]; rfl, hx0.trans hx14⟩
        | false =>
         by_cases hlen : (0 : Int) < (d.bytes.length : Int)
         ·
          have HB : Hid (checkD d = 2) := Lib.hid (by rw [HG2.out]; exact if_pos ⟨rfl, by omega⟩)
          go_wp2
          go_ret
          exact ⟨by rw [HB.out]; rfl, hx0.trans hx13⟩
         ·have HG3 : Hid (checkD d = 0) := Lib.hid (HG2.out.trans ((if_neg (fun h => hlen (by have := h.2; omega))).trans (if_pos (by trivial))))
          go_wp2_with fail
          refine (J8 w13 hx13).mono ?_
          rintro e w14 ⟨rfl, hw14⟩
          have hx14 : Ext wa w14 := hw14 ▸ hx13.alloc _
          clear hw14
          have HB := HG3
          go_wp2
          go_ret
          exact ⟨by rw [HB.out]; rfl, hx0.trans hx14⟩
end Go.Proofs.YthlppbbejdeeoaaGreatDoor
namespace Go.Proofs.YthlppbbejdeeoaaGreatDoor
theorem checkLaw : CheckLaw := fun d A cap w a b c p q r => Check_any d A cap w a b c p q r
end Go.Proofs.YthlppbbejdeeoaaGreatDoor
