/- The walks of the reference's args, Check and Put. Conditions: what is read of a message's deeds (RDdB), the bounds named; the library's two tables. -/
import Derived.Test.YthlppbbejdeeoaaGreatDoorRWrA2M
import Derived.Test.YthlppbbejdeeoaaGreatDoorRWrA3M
import Derived.Test.YthlppbbejdeeoaaGreatDoorRWrA4M
import Derived.Test.YthlppbbejdeeoaaGreatDoorRWrA5M
import Derived.Test.YthlppbbejdeeoaaGreatDoorRWrA6M
import Derived.Test.YthlppbbejdeeoaaGreatDoorRWrA7M
import Derived.Test.YthlppbbejdeeoaaGreatDoorRWr3M
import Derived.Test.YthlppbbejdeeoaaGreatDoorWrCM
import Derived.Test.YthlppbbejdeeoaaGreatDoorC10
namespace Go.Proofs.YthlppbbejdeeoaaGreatDoor
open Go.RowKit
theorem rargs_any (m : Ml) (Ap Ad Ae An Av : Option Addr) (cp cd ce cn cv : Nat) (w : World)
 (hP : Sl w Ap (doV m.peers)) (hE : Sl w Ae (doV m.epochs)) (hN : Sl w An (doV m.nums)) (lp : m.peers.length ≤ 140737488351232) (le : m.epochs.length ≤ 140737488351232) (ln : m.nums.length ≤ 140737488351232) (hk : inI m.kind 1 7 = true) :
 Calls Tryz.prog 37 #[.agg (mlC m (.slice Ap m.peers.length cp) (.slice Ad m.deeds.length cd) (.slice Ae m.epochs.length ce) (.slice An m.nums.length cn) (.slice Av m.vbytes.length cv))] w fun e w' => e = .returned (.bool (argsB m)) ∧ Ext w w' := by
 obtain ⟨k, s, d, ⟨t1, t2, t3⟩, ⟨p1, p2, p3⟩, peers, deeds, epochs, er, nums, su, sh, se, vb, fa, us, ue, nn⟩ := m
 have hk := kind_ok hk
 simp only at hk
 rcases hk with rfl | rfl | rfl | rfl | rfl | rfl | rfl
 ·exact rargs1_any s d t1 t2 t3 p1 p2 p3 peers deeds epochs er nums su sh se vb fa us ue nn Ap Ad Ae An Av cp cd ce cn cv w hP hE hN lp le ln
 ·exact rargs2_any s d t1 t2 t3 p1 p2 p3 peers deeds epochs er nums su sh se vb fa us ue nn Ap Ad Ae An Av cp cd ce cn cv w hP hE hN lp le ln
 ·exact rargs3_any s d t1 t2 t3 p1 p2 p3 peers deeds epochs er nums su sh se vb fa us ue nn Ap Ad Ae An Av cp cd ce cn cv w hP hE hN lp le ln
 ·exact rargs4_any s d t1 t2 t3 p1 p2 p3 peers deeds epochs er nums su sh se vb fa us ue nn Ap Ad Ae An Av cp cd ce cn cv w hP hE hN lp le ln
 ·exact rargs5_any s d t1 t2 t3 p1 p2 p3 peers deeds epochs er nums su sh se vb fa us ue nn Ap Ad Ae An Av cp cd ce cn cv w hP hE hN lp le ln
 ·exact rargs6_any s d t1 t2 t3 p1 p2 p3 peers deeds epochs er nums su sh se vb fa us ue nn Ap Ad Ae An Av cp cd ce cn cv w hP hE hN lp le ln
 ·exact rargs7_any s d t1 t2 t3 p1 p2 p3 peers deeds epochs er nums su sh se vb fa us ue nn Ap Ad Ae An Av cp cd ce cn cv w hP hE hN lp le ln
set_option maxRecDepth 20000 in
set_option maxHeartbeats 8000000 in
theorem rCheck_any (m : Ml) (Ap Ad Ae An Av : Option Addr) (cp cd ce cn cv : Nat) (w : World)
 (hP : Sl w Ap (doV m.peers)) (hE : Sl w Ae (doV m.epochs)) (hNs : Sl w An (doV m.nums)) (hV : Bs w Av m.vbytes) (hD : RsM RDdB 10 [] w Ad m.deeds)
 (hlp : m.peers.length ≤ 140737488351232) (hdl : m.deeds.length ≤ 1048576) (hle : m.epochs.length ≤ 140737488351232) (hln : m.nums.length ≤ 140737488351232) (hTb : Tabs w) :
 Calls Tryz.prog 13 #[.agg (mlC m (.slice Ap m.peers.length cp) (.slice Ad m.deeds.length cd) (.slice Ae m.epochs.length ce) (.slice An m.nums.length cn) (.slice Av m.vbytes.length cv))] w fun e w' =>
  e = .returned (.int .i64 (checkM m : Nat)) ∧ Ext w w' := by
 have HPU := fun W (hx : Ext w W) => RPutAll_any m.deeds Ad cd W (hD.kept (.of_ext hx)) hdl (hTb.ext hx)
 have HA := fun W (hx : Ext w W) (hk : inI m.kind 1 7 = true) => rargs_any m Ap Ad Ae An Av cp cd ce cn cv W (hP.ext hx) (hE.ext hx) (hNs.ext hx) hlp hle hln hk
 have HY := fun W (hx : Ext w W) (hr : Right m) (hpd : m.kind = 1 → (putAllT m.deeds).2 = 0) => rBytes_any m Ap Ad Ae An Av cp cd ce cn cv W hr hpd (hP.ext hx) (hE.ext hx) (hNs.ext hx) (hV.ext hx) (hD.kept (.of_ext hx)) hdl (hTb.ext hx)
 obtain ⟨mc, hmc⟩ : ∃ mc, mc = mlC m (.slice Ap m.peers.length cp) (.slice Ad m.deeds.length cd) (.slice Ae m.epochs.length ce) (.slice An m.nums.length cn) (.slice Av m.vbytes.length cv) := ⟨_, rfl⟩
 have hC0 : mc[0]? = some (.int .i64 m.kind) := by rw [hmc]; rfl
 have hC10 : mc[10]? = some (.slice Ad m.deeds.length cd) := by rw [hmc]; rfl
 have hsm : (Tryz.prog.info? 37).map (·.size) = some mc.size := by rw [hmc]; kernel_rfl
 rw [← hmc] at HA HY ⊢
 have HE : Hid (checkM m = if ¬ inI m.kind 1 7 then 14 else if ¬ argsB m then 2 else if m.kind = 1 ∧ (putAllT m.deeds).2 ≠ 0 then (putAllT m.deeds).2 else if 2000 < (layM m).length then 6 else 0) := Lib.hid rfl
 have hrt : inI m.kind 1 7 = true → argsB m = true → Right m := Right.of
 obtain ⟨cm, hcm⟩ : ∃ x, x = checkM m := ⟨_, rfl⟩
 rw [← hcm] at HE ⊢
 obtain ⟨wa, hwa⟩ : ∃ wa, wa = w.alloc (.cells mc 37) := ⟨_, rfl⟩
 have hxa : Ext w wa := by rw [hwa]; exact (Ext.refl w).alloc _
 have hrowM : wa.heap[w.heap.size]? = some (.cells mc 37 (0, 0)) := by rw [hwa]; exact heap_alloc_new w _
 have C0 := row_e hrowM 0 _ hC0
 have C10 := row_e hrowM 10 _ hC10
 have hx0 : Ext wa wa := Ext.refl _
 have hwaA := hwa.symm
 generalize m.kind = k at *
 clear hwa hP hE hNs hV hD hmc hC0 hC10 hlp hle hln hcm hTb
 go_enter Tryz.func13, Tryz.ntmps13
 by_cases k1 : k < 1
 ·have HB : Hid (cm = 14) := Lib.hid (HE.out.trans (if_pos (by simp [inI]; omega)))
  clear HE HPU HA HY
  go_wp2
  go_ret
  exact ⟨by rw [HB.out]; rfl, hxa⟩
 by_cases k7 : 7 < k
 ·have HB : Hid (cm = 14) := Lib.hid (HE.out.trans (if_pos (by simp [inI]; omega)))
  clear HE HPU HA HY
  go_wp2
  go_ret
  exact ⟨by rw [HB.out]; rfl, hxa⟩
 have hin : inI k 1 7 = true := inI_in (by omega) (by omega)
 have HE1 := Lib.hid (HE.out.trans (if_neg (by simp [hin])))
 clear HE
 go_wp2_with (with_reducible (refine sL 37 ?_))
 clear hwaA hx0
 refine go_on (wpList_load_row rfl 37 _ rfl w.heap.size rfl 37 _ (0, 0) _ hrowM Tryz.underlying37 rfl hsm ?_)
 go_wp2_with fail
 refine (HA wa hxa hin).mono ?_
 rintro e w1 ⟨rfl, hx1⟩
 have hx01 := hxa.trans hx1
 clear HA
 by_cases ha : argsB m = true; rotate_left
 ·have HB : Hid (cm = 2) := Lib.hid (HE1.out.trans (if_pos (by simpa using ha)))
  have ha : argsB m = false := by simpa using ha
  rw [ha]
  clear HE1 HPU HY
  go_wp2
  go_ret
  exact ⟨by rw [HB.out]; rfl, hx01⟩
 have HE2 := Lib.hid (HE1.out.trans (if_neg (by simp [ha])))
 have HY2 := fun W hx => HY W hx (hrt hin ha)
 rw [ha]
 clear HE1 HY ha hrt hin
 by_cases h1 : k = 1
 ·subst h1
  clear k1 k7
  go_wp2_with fail
  refine (HPU _ hx01).mono ?_
  rintro e w2 ⟨hx2, v2, rfl, -⟩
  have hx02 := hx01.trans hx2
  have hx12 := hx1.trans hx2
  clear HPU hx2 hx01 hx1
  by_cases h0 : (putAllT m.deeds).2 = 0
  ·have HE3 := Lib.hid (HE2.out.trans (if_neg (by simp [h0])))
   have HY3 := fun W hx => HY2 W hx (fun _ => h0)
   rw [h0]
   clear HE2 HY2 h0
   go_wp2_with (with_reducible (refine sL 37 ?_))
   refine go_on (wpList_load_row rfl 37 _ rfl w.heap.size rfl 37 _ (0, 0) _ (hx12.obj hrowM) Tryz.underlying37 rfl hsm ?_)
   go_wp2_with fail
   refine (HY3 _ hx02).mono ?_
   rintro e w6 ⟨b, rfl, hob, hx6⟩
   have hx06 := hx02.trans hx6
   obtain ⟨Ab, cb, rfl⟩ := hob.form
   clear hob hx6 HY3
   generalize (layM m).length = ln at *
   by_cases h20 : (2000 : Int) < (ln : Int)
   ·have HB : Hid (cm = 6) := Lib.hid (HE3.out.trans (if_pos (by omega)))
    clear HE3
    go_wp2
    go_ret
    exact ⟨by rw [HB.out]; rfl, hx06⟩
   ·have HB : Hid (cm = 0) := Lib.hid (HE3.out.trans (if_neg (by omega)))
    clear HE3
    go_wp2
    go_ret
    exact ⟨by rw [HB.out]; rfl, hx06⟩
  ·have HB : Hid (cm = (putAllT m.deeds).2) := Lib.hid (HE2.out.trans (if_pos ⟨trivial, h0⟩))
   clear HE2 HY2
   generalize (putAllT m.deeds).2 = pc at *
   have h0 : ¬ (pc : Int) = 0 := by omega
   go_wp2
   go_ret
   exact ⟨by rw [HB.out]; rfl, hx02⟩
 ·have HE3 := Lib.hid (HE2.out.trans (if_neg (by simp [h1])))
  have HY3 := fun W hx => HY2 W hx (fun h => absurd h h1)
  clear HE2 HY2 HPU
  go_wp2_with (with_reducible (refine sL 37 ?_))
  refine go_on (wpList_load_row rfl 37 _ rfl w.heap.size rfl 37 _ (0, 0) _ (hx1.obj hrowM) Tryz.underlying37 rfl hsm ?_)
  go_wp2_with fail
  refine (HY3 _ hx01).mono ?_
  rintro e w6 ⟨b, rfl, hob, hx6⟩
  have hx06 := hx01.trans hx6
  obtain ⟨Ab, cb, rfl⟩ := hob.form
  clear hob hx6 HY3
  generalize (layM m).length = ln at *
  by_cases h20 : (2000 : Int) < (ln : Int)
  ·have HB : Hid (cm = 6) := Lib.hid (HE3.out.trans (if_pos (by omega)))
   clear HE3
   go_wp2
   go_ret
   exact ⟨by rw [HB.out]; rfl, hx06⟩
  ·have HB : Hid (cm = 0) := Lib.hid (HE3.out.trans (if_neg (by omega)))
   clear HE3
   go_wp2
   go_ret
   exact ⟨by rw [HB.out]; rfl, hx06⟩
set_option maxRecDepth 20000 in
set_option maxHeartbeats 4000000 in
theorem rPut_any (m : Ml) (Ap Ad Ae An Av : Option Addr) (cp cd ce cn cv : Nat) (w : World)
 (hP : Sl w Ap (doV m.peers)) (hE : Sl w Ae (doV m.epochs)) (hNs : Sl w An (doV m.nums)) (hV : Bs w Av m.vbytes) (hD : RsM RDdB 10 [] w Ad m.deeds)
 (hlp : m.peers.length ≤ 140737488351232) (hdl : m.deeds.length ≤ 1048576) (hle : m.epochs.length ≤ 140737488351232) (hln : m.nums.length ≤ 140737488351232) (hTb : Tabs w) :
 Calls Tryz.prog 15 #[.agg (mlC m (.slice Ap m.peers.length cp) (.slice Ad m.deeds.length cd) (.slice Ae m.epochs.length ce) (.slice An m.nums.length cn) (.slice Av m.vbytes.length cv))] w (PutSays (putMT m) w) := by
 have HC := fun W (hx : Ext w W) => rCheck_any m Ap Ad Ae An Av cp cd ce cn cv W (hP.ext hx) (hE.ext hx) (hNs.ext hx) (hV.ext hx) (hD.kept (.of_ext hx)) hlp hdl hle hln (hTb.ext hx)
 have HL := fun W (hx : Ext w W) (h0 : checkM m = 0) => rBytes_any m Ap Ad Ae An Av cp cd ce cn cv W (checkM_right h0) (checkM_ok h0).2.2.1 (hP.ext hx) (hE.ext hx) (hNs.ext hx) (hV.ext hx) (hD.kept (.of_ext hx)) hdl (hTb.ext hx)
 obtain ⟨mc, hmc⟩ : ∃ mc, mc = mlC m (.slice Ap m.peers.length cp) (.slice Ad m.deeds.length cd) (.slice Ae m.epochs.length ce) (.slice An m.nums.length cn) (.slice Av m.vbytes.length cv) := ⟨_, rfl⟩
 have hsm : (Tryz.prog.info? 37).map (·.size) = some mc.size := by rw [hmc]; kernel_rfl
 rw [← hmc] at HC HL ⊢
 obtain ⟨wa, hwa⟩ : ∃ wa, wa = w.alloc (.cells mc 37) := ⟨_, rfl⟩
 have hxa : Ext w wa := by rw [hwa]; exact (Ext.refl w).alloc _
 have hrowM : wa.heap[w.heap.size]? = some (.cells mc 37 (0, 0)) := by rw [hwa]; exact heap_alloc_new w _
 have HWA := Lib.hid hwa
 have HP0 : Hid (putMT m = if checkM m ≠ 0 then ([], checkM m) else (packL (layM m), 0)) := Lib.hid rfl
 clear hwa hP hE hNs hV hD hmc hlp hdl hle hln hTb
 go_enter Tryz.func15, Tryz.ntmps15
 go_wp2_with (with_reducible (refine sL 37 ?_))
 rw [← HWA.out]
 refine go_on (wpList_load_row rfl 37 _ rfl w.heap.size rfl 37 _ (0, 0) _ hrowM Tryz.underlying37 rfl hsm ?_)
 go_wp2_with fail
 refine (HC wa hxa).mono ?_
 rintro e w1 ⟨rfl, hx1⟩
 have hx01 := hxa.trans hx1
 by_cases h0 : checkM m = 0
 ·have HB := Lib.hid (HP0.out.trans (if_neg (by simpa using h0)))
  have HL2 := fun W hx => HL W hx h0
  have h20 := (checkM_ok h0).2.2.2
  have hpos := layM_pos m
  rw [h0]
  generalize layM m = lm at *
  clear HL h0 HP0 HC
  go_wp2_with (with_reducible (refine sL 37 ?_))
  refine go_on (wpList_load_row rfl 37 _ rfl w.heap.size rfl 37 _ (0, 0) _ (hx1.obj hrowM) Tryz.underlying37 rfl hsm ?_)
  go_wp2_with fail
  refine (HL2 w1 hx01).mono ?_
  rintro e w3 ⟨b, rfl, hob, hx3⟩
  have hx03 := hx01.trans hx3
  obtain ⟨Ab, cb, rfl⟩ := hob.form
  have HPK := RPack_ok Ab cb _ lm w3 hob.bs rfl hpos h20
  clear HL2 hob hx01 hx3
  go_wp2_with fail
  refine HPK.mono ?_
  rintro e w4 ⟨v, rfl, hov, hx4⟩
  have hx04 := hx03.trans hx4
  have hov2 := hov.low hx03.size
  clear HPK hov hx4 hx03
  go_wp2
  go_ret2
  refine ⟨hx04, v, ?_, ?_⟩
  ·rw [HB.out]; rfl
  ·rw [HB.out]; exact hov2
 ·have HB := Lib.hid (HP0.out.trans (if_pos h0))
  clear HP0 HC HL
  generalize checkM m = cm at *
  have h0 : ¬ (cm : Int) = 0 := by omega
  go_wp2
  go_ret2
  exact PutSays.none HB.out hx01
theorem OwnDs.rsmB {w : World} {base n c : Nat} {A : Option Addr} {ds : List Dd} (h : OwnDs w base (.slice A n c) ds) (hok : ∀ d ∈ ds, okD d) : RsM RDdB 10 [] w A ds := by
 obtain ⟨css, h1, h2, h3, h4⟩ := h
 refine ⟨css, h1, h2, SlM.own h3 rfl (by simp), fun k cs x a b => ?_⟩
 obtain ⟨pv, h5, h6⟩ := h4 k cs x a b
 obtain ⟨A', c', rfl⟩ := h6.form
 obtain ⟨_, q1, q2, q3, _, _, _, _, q4⟩ := hok x (List.mem_of_getElem? b)
 exact ⟨A', c', h5, BsM.own h6 (by simp), h6.cap.1, ⟨by omega, by omega, by omega, by omega⟩⟩
theorem rCheck_own {m : Ml} {P D E N V : Value} {w : World} {base : Nat} (hP : OwnI w base P m.peers) (hD : OwnDs w base D m.deeds) (hE : OwnI w base E m.epochs) (hN : OwnI w base N m.nums) (hV : Own w base V m.vbytes)
 (hl : m.peers.length ≤ 65535 ∧ m.epochs.length ≤ 65535 ∧ m.nums.length ≤ 65535 ∧ m.vbytes.length ≤ 65535 ∧ m.deeds.length ≤ 65535 ∧ ∀ dd ∈ m.deeds, okD dd) (hT : Tabs w) :
 Calls Tryz.prog 13 #[.agg (mlC m P D E N V)] w fun e w' => e = .returned (.int .i64 (checkM m : Nat)) ∧ Ext w w' := by
 obtain ⟨Ap, cp, rfl⟩ := hP.form
 obtain ⟨Ad, cd, rfl⟩ := hD.form
 obtain ⟨Ae, ce, rfl⟩ := hE.form
 obtain ⟨An, cn, rfl⟩ := hN.form
 obtain ⟨Av, cv, rfl⟩ := hV.form
 obtain ⟨l1, l2, l3, l4, l5, hok⟩ := hl
 exact rCheck_any m Ap Ad Ae An Av cp cd ce cn cv w hP.sl hE.sl hN.sl hV.bs (hD.rsmB hok) (by omega) (by omega) (by omega) (by omega) hT
end Go.Proofs.YthlppbbejdeeoaaGreatDoor
