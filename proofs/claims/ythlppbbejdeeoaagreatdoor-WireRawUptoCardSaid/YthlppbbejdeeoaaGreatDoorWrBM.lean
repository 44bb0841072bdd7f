/- The walk of wire.Check. Conditions: the walk of deed.Check (CheckLaw), and the bounds named. -/
import Derived.Test.YthlppbbejdeeoaaGreatDoorWrAM
import Derived.Deep.Cut
import Derived.Deep.CutRange
namespace Go.Proofs.YthlppbbejdeeoaaGreatDoor
open Go.RowKit
theorem row_e {w : World} {p t : Nat} {cs : Array Value} {fr : Nat × Nat} (h : w.heap[p]? = some (.cells cs t fr)) (j : Nat) (v : Value) (hv : cs[j]? = some v) : ∀ w', Ext w w' → w'.cell? ⟨p, j, none⟩ = some v := fun w' hx => by
 rw [cell_of_row w' p j _ _ _ (hx.obj h), hv]
theorem wwithinS (n a b : Int) (w : World) : Calls Tryz.prog 31 #[.int .i64 n, .int .i64 a, .int .i64 b] w fun e w' => e = .returned (.bool (inI n a b)) ∧ w = w' :=
 (wwithin_any n a b w).mono fun _ _ h => ⟨h.1, h.2.symm⟩
def t9B (f : Bool) (fa : Int) : Bool := f != (decide (fa = 1) || decide (fa = 2))
def t10B (f : Bool) (fa : Int) : Bool := !f && !decide (fa = 0)
def t12B (u : Bool) (us : By) (ep : Int) : Bool := !u && (!decide (us = []) || !decide (ep = 0))
def a4B (m : Ml) : Bool := if m.kind = 1 then partT m else part0 m
def a5B (m : Ml) : Bool := if kVote m.kind then inI m.verr 0 14 && decide (m.nums.length ≤ 12) && allI m.nums big && inI m.shard 0 3 && inI m.sepoch 0 big && decide (m.suser.length ≤ 24) && decide (m.vbytes.length ≤ 1800) else vote0 m.verr m.nums m.suser m.shard m.sepoch m.vbytes
theorem a4B_eq (m : Ml) : a4B m = partB m := by
 unfold a4B partB
 split
 ·unfold partT inI
  have e1 : (decide ((1 : Int) ≤ (m.peers.length : Int)) && decide ((m.peers.length : Int) ≤ 4)) = (decide (1 ≤ m.peers.length) && decide (m.peers.length ≤ 4)) := by
   rw [show decide ((1 : Int) ≤ (m.peers.length : Int)) = decide (1 ≤ m.peers.length) from decide_eq_decide.2 (by omega), show decide ((m.peers.length : Int) ≤ 4) = decide (m.peers.length ≤ 4) from decide_eq_decide.2 (by omega)]
  rw [e1]
 ·unfold part0
  have e1 : (((m.peers.length : Int) + m.deeds.length + m.epochs.length) == 0) = (decide (m.peers = []) && decide (m.deeds.length = 0) && decide (m.epochs = [])) := by
   cases m.peers with
   | cons a l => simp; omega
   | nil => cases m.epochs with
    | cons a l => simp; omega
    | nil => by_cases h : m.deeds.length = 0 <;> simp [h]
  rw [e1]
  simp only [Bool.and_assoc]
theorem a5B_eq (m : Ml) : a5B m = voteB m := by
 unfold a5B voteB vote0
 split <;> rfl
theorem args_eq (m : Ml) : argsB m = (inI m.src 0 7 && inI m.dst 0 7 && txsB m && a4B m && a5B m && !t9B (decide (m.kind = 3)) m.fate && !t10B (decide (m.kind = 3)) m.fate && !(!kN m.kind && !decide (m.n = 0)) && !t12B (decide (m.kind = 6)) m.user m.epoch && inI m.n 0 4294967295 && inI m.epoch 0 4294967295 && decide ((m.user.length : Int) ≤ 24)) := by
 have ef : fateB m = (!t9B (decide (m.kind = 3)) m.fate && !t10B (decide (m.kind = 3)) m.fate) := by
  unfold fateB t9B t10B inI
  by_cases h : m.kind = 3
  ·by_cases h1 : m.fate = 1
   ·simp [h, h1]
   ·by_cases h2 : m.fate = 2
    ·simp [h, h2]
    ·have : ¬ (1 ≤ m.fate ∧ m.fate ≤ 2) := by omega
     simp [h, h1, h2]
     omega
  ·by_cases h0 : m.fate = 0
   ·simp [h, h0]
   ·simp [h, h0]
 have en : nB m = (!(!kN m.kind && !decide (m.n = 0)) && inI m.n 0 4294967295) := by
  unfold nB big
  cases kN m.kind with
  | true => simp
  | false =>
   by_cases h : m.n = 0
   ·simp [h, inI]
   ·simp [h]
 have eu : userB m = (!t12B (decide (m.kind = 6)) m.user m.epoch && inI m.epoch 0 4294967295 && decide ((m.user.length : Int) ≤ 24)) := by
  have e24 : decide ((m.user.length : Int) ≤ 24) = decide (m.user.length ≤ 24) := decide_eq_decide.2 (by omega)
  unfold userB t12B big
  rw [e24]
  by_cases h : m.kind = 6
  ·simp [h, Bool.and_comm]
  ·by_cases h1 : m.user = []
   ·by_cases h2 : m.epoch = 0
    ·simp [h, h1, h2, inI]
    ·simp [h, h1, h2]
   ·simp [h, h1]
 unfold argsB
 rw [ef, en, eu, a4B_eq, a5B_eq]
 generalize inI m.src 0 7 = b1
 generalize inI m.dst 0 7 = b2
 generalize txsB m = b3
 generalize partB m = b4
 generalize voteB m = b5
 generalize t9B _ _ = b6
 generalize t10B _ _ = b7
 generalize (!kN m.kind && !decide (m.n = 0)) = b8
 generalize t12B _ _ _ = b9
 generalize inI m.n 0 4294967295 = b10
 generalize inI m.epoch 0 4294967295 = b11
 generalize decide ((m.user.length : Int) ≤ 24) = b12
 cases b1 <;> cases b2 <;> cases b3 <;> cases b4 <;> cases b5 <;> cases b6 <;> cases b7 <;> cases b8 <;> simp [Bool.and_comm, Bool.and_left_comm]
set_option maxRecDepth 20000 in
set_option maxHeartbeats 16000000 in
theorem wCheck_any (HCK : CheckLaw) (m : Ml) (Ap Ad Ae An Av : Option Addr) (cp cd ce cn cv : Nat) (w : World)
 (hP : Sl w Ap (doV m.peers)) (hE : Sl w Ae (doV m.epochs)) (hNs : Sl w An (doV m.nums)) (hV : Bs w Av m.vbytes) (hD : RsM RDd 10 [] w Ad m.deeds)
 (hlp : m.peers.length ≤ 140737488351232) (hdl : m.deeds.length ≤ 140737488351232) (hle : m.epochs.length ≤ 140737488351232) (hln : m.nums.length ≤ 140737488351232) (hlv : m.vbytes.length ≤ 140737488351232) :
 Calls Tryz.prog 12 #[.agg (mlC m (.slice Ap m.peers.length cp) (.slice Ad m.deeds.length cd) (.slice Ae m.epochs.length ce) (.slice An m.nums.length cn) (.slice Av m.vbytes.length cv))] w fun e w' =>
  e = .returned (.int .i64 (checkM m : Nat)) ∧ Ext w w' := by
 obtain ⟨mc, hmc⟩ : ∃ mc, mc = mlC m (.slice Ap m.peers.length cp) (.slice Ad m.deeds.length cd) (.slice Ae m.epochs.length ce) (.slice An m.nums.length cn) (.slice Av m.vbytes.length cv) := ⟨_, rfl⟩
 obtain ⟨vc, hvc⟩ : ∃ vc, vc = voC m (.slice An m.nums.length cn) (.slice Av m.vbytes.length cv) := ⟨_, rfl⟩
 obtain ⟨tc, htc⟩ : ∃ tc, tc = txC m.tx := ⟨_, rfl⟩
 obtain ⟨hc, hhc⟩ : ∃ hc, hc = hasC m.kind := ⟨_, rfl⟩
 obtain ⟨cm, hcm⟩ : ∃ cm, cm = checkM m := ⟨_, rfl⟩
 obtain ⟨hT, hhT⟩ : ∃ x, x = kTx m.kind := ⟨_, rfl⟩
 obtain ⟨hP1, hhP⟩ : ∃ x, x = decide (m.kind = 1) := ⟨_, rfl⟩
 obtain ⟨hVo, hhV⟩ : ∃ x, x = kVote m.kind := ⟨_, rfl⟩
 obtain ⟨hF, hhF⟩ : ∃ x, x = decide (m.kind = 3) := ⟨_, rfl⟩
 obtain ⟨hNn, hhN⟩ : ∃ x, x = kN m.kind := ⟨_, rfl⟩
 obtain ⟨hU, hhU⟩ : ∃ x, x = decide (m.kind = 6) := ⟨_, rfl⟩
 have HE0 : Hid (cm = if inI m.kind 1 7 = false then 14 else if (inI m.src 0 7 && inI m.dst 0 7 && txsB m && a4B m && a5B m && !t9B hF m.fate && !t10B hF m.fate && !(!hNn && !decide (m.n = 0)) && !t12B hU m.user m.epoch && inI m.n 0 4294967295 && inI m.epoch 0 4294967295 && decide ((m.user.length : Int) ≤ 24)) = false then 2
  else if hP1 = true ∧ (putAllT m.deeds).2 ≠ 0 then (putAllT m.deeds).2 else if 2000 < (layM m).length then 6 else 0) := Lib.hid (by
  rw [hcm, hhF, hhN, hhU, hhP, ← args_eq]
  unfold checkM
  simp only [Bool.not_eq_true, decide_eq_true_eq])
 have HLAY : ∀ W, Ext w W → inI m.kind 1 7 = true → (inI m.src 0 7 && inI m.dst 0 7 && txsB m && a4B m && a5B m && !t9B hF m.fate && !t10B hF m.fate && !(!hNn && !decide (m.n = 0)) && !t12B hU m.user m.epoch && inI m.n 0 4294967295 && inI m.epoch 0 4294967295 && decide ((m.user.length : Int) ≤ 24)) = true → (hP1 = true → (putAllT m.deeds).2 = 0) →
  Calls Tryz.prog 36 #[.agg mc, .agg hc] W fun e w' => ∃ b, e = .returned b ∧ Own w' W.heap.size b (layM m) ∧ Ext W w' := fun W hx h1 h2 h3 => by
  rw [hmc, hhc]
  rw [hhF, hhN, hhU, ← args_eq] at h2
  refine wlay_any HCK m Ap Ad Ae An Av cp cd ce cn cv W (Right.of h1 h2) (fun h => h3 (by rw [hhP]; exact decide_eq_true h)) (hP.ext hx) (hE.ext hx) (hNs.ext hx) (hV.ext hx) (hD.kept (.of_ext hx)) hdl
 have HTX : ∀ W, Calls Tryz.prog 32 #[.bool hT, .agg tc] W fun e w' => e = .returned (.bool (txsB m)) ∧ Ext W w' := fun W => by
  have := wrightTx_any hT m.tx W
  rw [htc, hhT] at *
  exact this
 have HPA : ∀ W, Ext w W → Calls Tryz.prog 33 #[.bool hP1, .agg mc] W fun e w' => e = .returned (.bool (a4B m)) ∧ Ext W w' := fun W hx => by
  rw [hmc, hhP]
  unfold a4B
  by_cases h : m.kind = 1
  ·rw [if_pos h, decide_eq_true h]
   exact wrightPart_any m Ap Ad Ae cp cd ce _ _ W (hP.ext hx) (hE.ext hx) (by omega)
  ·rw [if_neg h, decide_eq_false h]
   exact wrightPart0_any m Ap Ad Ae cp cd ce _ _ W (by omega) (by omega) (by omega)
 have HVO : ∀ W, Ext w W → Calls Tryz.prog 34 #[.bool hVo, .agg vc] W fun e w' => e = .returned (.bool (a5B m)) ∧ Ext W w' := fun W hx => by
  rw [hvc, hhV]
  unfold a5B
  cases h : kVote m.kind with
  | true => rw [if_pos rfl]; exact wrightVote_any m An Av cn cv W (hNs.ext hx)
  | false => rw [if_neg (by simp)]; exact wrightVote0_any m An Av cn cv W (by omega) (by omega)
 have HPU := fun W (hx : Ext w W) => PutAll_any HCK m.deeds Ad cd W (hD.kept (.of_ext hx)) hdl
 have HOF := fun W => of_any m.kind W
 have HW1 := fun W => wwithinS m.src 0 7 W
 have HW2 := fun W => wwithinS m.dst 0 7 W
 have HW3 := fun W => wwithinS m.n 0 4294967295 W
 have HW4 := fun W => wwithinS m.epoch 0 4294967295 W
 obtain ⟨wa, hwa⟩ : ∃ wa, wa = w.alloc (.cells mc 37) := ⟨_, rfl⟩
 have hxa : Ext w wa := by rw [hwa]; exact (Ext.refl w).alloc _
 have hrowM : wa.heap[w.heap.size]? = some (.cells mc 37 (0, 0)) := by rw [hwa]; exact heap_alloc_new w _
 have HWA := Lib.hid hwa
 have hcell : ∀ j v, (mlC m (.slice Ap m.peers.length cp) (.slice Ad m.deeds.length cd) (.slice Ae m.epochs.length ce) (.slice An m.nums.length cn) (.slice Av m.vbytes.length cv))[j]? = some v → ∀ W, Ext wa W → W.cell? ⟨w.heap.size, j, none⟩ = some v := fun j v hv => row_e hrowM j v (by rw [hmc]; exact hv)
 have C0 := hcell 0 (.int .i64 m.kind) rfl
 have C1 := hcell 1 (.int .i64 m.src) rfl
 have C2 := hcell 2 (.int .i64 m.dst) rfl
 have C10 := hcell 10 (.slice Ad m.deeds.length cd) rfl
 have C18 := hcell 18 (.int .i64 m.fate) rfl
 have C19 := hcell 19 (.string (st m.user)) rfl
 have C20 := hcell 20 (.int .i64 m.epoch) rfl
 have C21 := hcell 21 (.int .i64 m.n) rfl
 have RT : ∀ W, Ext wa W → W.rangeAt w.heap.size 3 tc.toList := fun W hx => by
  have := World.rangeAt_of_block (hx.obj hrowM) 3 3
  rw [hmc] at this
  rw [htc]
  exact this
 have RV : ∀ W, Ext wa W → W.rangeAt w.heap.size 12 vc.toList := fun W hx => by
  have := World.rangeAt_of_block (hx.obj hrowM) 12 6
  rw [hmc] at this
  rw [hvc]
  exact this
 have HRM := fun W (hx : Ext wa W) => hx.obj hrowM
 have hsm : (Tryz.prog.info? 37).map (·.size) = some mc.size := by rw [hmc]; kernel_rfl
 have hsv : (Tryz.prog.info? 34).map (·.size) = some vc.toList.length := by rw [hvc]; kernel_rfl
 have hst : (Tryz.prog.info? 25).map (·.size) = some tc.toList.length := by rw [htc]; kernel_rfl
 have hsh : (Tryz.prog.info? 57).map (·.size) = some hc.size := by rw [hhc]; kernel_rfl
 have hz6 : zHas.size = hc.size := by rw [hhc]; rfl
 have h1c : hc.all (·.oneCell') = true := by rw [hhc]; simp [hasC, Value.oneCell']
 have HC : ∀ (W : World) (g : Nat), W.heap[g]? = some (.cells hc 57 (0, 0)) → (∀ W', Ext W W' → W'.cell? ⟨g, 0, none⟩ = some (.bool hT)) ∧ (∀ W', Ext W W' → W'.cell? ⟨g, 1, none⟩ = some (.bool hP1)) ∧ (∀ W', Ext W W' → W'.cell? ⟨g, 2, none⟩ = some (.bool hVo)) ∧ (∀ W', Ext W W' → W'.cell? ⟨g, 3, none⟩ = some (.bool hF)) ∧ (∀ W', Ext W W' → W'.cell? ⟨g, 4, none⟩ = some (.bool hNn)) ∧ (∀ W', Ext W W' → W'.cell? ⟨g, 5, none⟩ = some (.bool hU)) := fun W g hg => by
  have hh : hc = #[.bool hT, .bool hP1, .bool hVo, .bool hF, .bool hNn, .bool hU] := by rw [hhc, hhT, hhP, hhV, hhF, hhN, hhU]; rfl
  exact ⟨row_e hg 0 _ (by rw [hh]; rfl), row_e hg 1 _ (by rw [hh]; rfl), row_e hg 2 _ (by rw [hh]; rfl), row_e hg 3 _ (by rw [hh]; rfl), row_e hg 4 _ (by rw [hh]; rfl), row_e hg 5 _ (by rw [hh]; rfl)⟩
 clear hcell hwa hrowM hP hE hNs hV hD
 rw [← hmc, ← hcm]
 rw [← hhc] at HOF
 clear hmc hvc htc hhc hcm hhT hhP hhV hhF hhN hhU
 have hwa := HWA.out.symm
 go_enter Tryz.func12, Tryz.ntmps12
 go_wp2_with fail
 clear hwa
 refine (HOF wa).mono ?_
 rintro e w1 ⟨rfl, hx1⟩
 cases hin : inI m.kind 1 7 with
 | false =>
  rw [hin] at HE0
  have HB : Hid (cm = 14) := Lib.hid (HE0.out.trans (if_pos rfl))
  clear HE0 HLAY HOF HC
  go_wp2_with (with_reducible first | refine sA 57 ?_ | refine sS 57 ?_ | refine sL 57 ?_ | refine sL 37 ?_ | refine sL 25 ?_ | refine sL 34 ?_)
  refine go_on (wpList_alloc_ rfl rfl has_info ?_)
  go_wp2_with (with_reducible first | refine sA 57 ?_ | refine sS 57 ?_ | refine sL 57 ?_ | refine sL 37 ?_ | refine sL 25 ?_ | refine sL 34 ?_)
  refine go_on (wpList_store_last (c' := hc) rfl rfl rfl rfl hsh hz6 h1c ?_)
  intro wb hrowB hxb _
  have hx := hxa.trans (hx1.trans hxb)
  go_wp2
  go_ret
  exact ⟨by rw [HB.out]; rfl, hx⟩
 | true =>
 rw [hin] at HE0
 have HE := Lib.hid (HE0.out.trans (if_neg (by simp)))
 clear HE0 HOF
 go_wp2_with (with_reducible first | refine sA 57 ?_ | refine sS 57 ?_ | refine sL 57 ?_ | refine sL 37 ?_ | refine sL 25 ?_ | refine sL 34 ?_)
 refine go_on (wpList_alloc_ rfl rfl has_info ?_)
 go_wp2_with (with_reducible first | refine sA 57 ?_ | refine sS 57 ?_ | refine sL 57 ?_ | refine sL 37 ?_ | refine sL 25 ?_ | refine sL 34 ?_)
 refine go_on (wpList_store_last (c' := hc) rfl rfl rfl rfl hsh hz6 h1c ?_)
 intro wb hrowB hxb _
 have hx := hxa.trans (hx1.trans hxb)
 have hab := hx1.trans hxb
 obtain ⟨K0, K1, K2, K3, K4, K5⟩ := HC wb _ hrowB
 have HRB := fun W (hx : Ext wb W) => hx.obj hrowB
 clear HC hrowB hx1 hxb
 go_wp2_with fail
 refine (HW1 wb).mono ?_
 rintro e w2 ⟨rfl, rfl⟩
 generalize inI m.src 0 7 = a1 at *
 cases a1 with
 | false =>
  clear HLAY
  have HB : Hid (cm = 2) := Lib.hid (by rw [HE.out]; simp)
  clear HE
  go_wp2
  go_ret
  exact ⟨by rw [HB.out]; rfl, hx⟩
 | true =>
 go_wp2_with fail
 refine (HW2 wb).mono ?_
 rintro e w2 ⟨rfl, rfl⟩
 generalize inI m.dst 0 7 = a2 at *
 cases a2 with
 | false =>
  clear HLAY
  have HB : Hid (cm = 2) := Lib.hid (by rw [HE.out]; simp)
  clear HE
  go_wp2
  go_ret
  exact ⟨by rw [HB.out]; rfl, hx⟩
 | true =>
 clear HW1 HW2 C1 C2
 go_wp2_with (with_reducible refine sL 25 ?_)
 refine go_on (wpList_load_mid rfl 25 _ rfl w.heap.size 3 rfl _ _ (RT wb hab) Tryz.underlying25 rfl hst ?_)
 go_wp2_with fail
 refine (HTX wb).mono ?_
 rintro e w2 ⟨rfl, hx2⟩
 have hx02 := hx.trans hx2
 have hab2 := hab.trans hx2
 generalize txsB m = a3 at *
 cases a3 with
 | false =>
  clear HLAY
  have HB : Hid (cm = 2) := Lib.hid (by rw [HE.out]; simp)
  clear HE
  go_wp2
  go_ret
  exact ⟨by rw [HB.out]; rfl, hx02⟩
 | true =>
 clear HTX RT hst
 go_wp2_with (with_reducible refine sL 37 ?_)
 refine go_on (wpList_load_row rfl 37 _ rfl w.heap.size rfl 37 _ (0, 0) _ (HRM w2 hab2) Tryz.underlying37 rfl hsm ?_)
 go_wp2_with fail
 refine (HPA w2 hx02).mono ?_
 rintro e w3 ⟨rfl, hx3⟩
 have hxb3 := hx2.trans hx3
 have hx03 := hx02.trans hx3
 have hab3 := hab2.trans hx3
 generalize a4B m = a4 at *
 clear hx2 hx02 hab2 hx3 HPA
 cases a4 with
 | false =>
  clear HLAY
  have HB : Hid (cm = 2) := Lib.hid (by rw [HE.out]; simp)
  clear HE
  go_wp2
  go_ret
  exact ⟨by rw [HB.out]; rfl, hx03⟩
 | true =>
 go_wp2_with (with_reducible refine sL 34 ?_)
 refine go_on (wpList_load_mid rfl 34 _ rfl w.heap.size 12 rfl _ _ (RV w3 hab3) Tryz.underlying34 rfl hsv ?_)
 go_wp2_with fail
 refine (HVO w3 hx03).mono ?_
 rintro e w4 ⟨rfl, hx4⟩
 have hxb4 := hxb3.trans hx4
 have hx04 := hx03.trans hx4
 have hab4 := hab3.trans hx4
 generalize a5B m = a5 at *
 clear hxb3 hx03 hab3 hx4 HVO RV hsv hx hab hxa
 cases a5 with
 | false =>
  clear HLAY
  have HB : Hid (cm = 2) := Lib.hid (by rw [HE.out]; simp)
  clear HE
  go_wp2
  go_ret
  exact ⟨by rw [HB.out]; rfl, hx04⟩
 | true =>
 obtain ⟨T9, hT9⟩ : ∃ x, x = t9B hF m.fate := ⟨_, rfl⟩
 obtain ⟨T10, hT10⟩ : ∃ x, x = t10B hF m.fate := ⟨_, rfl⟩
 obtain ⟨T11, hT11⟩ : ∃ x, x = (!hNn && !decide (m.n = 0)) := ⟨_, rfl⟩
 obtain ⟨T12, hT12⟩ : ∃ x, x = t12B hU m.user m.epoch := ⟨_, rfl⟩
 rw [← hT9, ← hT10, ← hT11, ← hT12] at HE HLAY
 have HT9 := Lib.hid hT9
 have HT10 := Lib.hid hT10
 have HT11 := Lib.hid hT11
 have HT12 := Lib.hid hT12
 clear hT9 hT10 hT11 hT12
 go_upto_region 9 with fail
 go_cut [16] from 42 to 52 (fun s wx => s = .bool T9 ∧ w4 = wx)
 case first =>
  cases hF with
  | true =>
   by_cases f1 : m.fate = 1
   ·have hv : T9 = false := by rw [HT9.out, f1]; rfl
    have k1 : (m.fate == 1) = true := by simpa using f1
    clear f1
    go_wp2_with fail
    go_meet
    exact ⟨by rw [hv], rfl⟩
   ·have k1 : (m.fate == 1) = false := by simpa using f1
    by_cases f2 : m.fate = 2
    ·have hv : T9 = false := by rw [HT9.out, f2]; rfl
     have k2 : (m.fate == 2) = true := by simpa using f2
     clear f1 f2
     go_wp2_with fail
     go_meet
     exact ⟨by rw [hv], rfl⟩
    ·have hv : T9 = true := by rw [HT9.out]; simp [t9B, f1, f2]
     have k2 : (m.fate == 2) = false := by simpa using f2
     clear f1 f2
     go_wp2_with fail
     go_meet
     exact ⟨by rw [hv], rfl⟩
  | false =>
   by_cases f1 : m.fate = 1
   ·have hv : T9 = true := by rw [HT9.out, f1]; rfl
    have k1 : (m.fate == 1) = true := by simpa using f1
    clear f1
    go_wp2_with fail
    go_meet
    exact ⟨by rw [hv], rfl⟩
   ·have k1 : (m.fate == 1) = false := by simpa using f1
    by_cases f2 : m.fate = 2
    ·have hv : T9 = true := by rw [HT9.out, f2]; rfl
     have k2 : (m.fate == 2) = true := by simpa using f2
     clear f1 f2
     go_wp2_with fail
     go_meet
     exact ⟨by rw [hv], rfl⟩
    ·have hv : T9 = false := by rw [HT9.out]; simp [t9B, f1, f2]
     have k2 : (m.fate == 2) = false := by simpa using f2
     clear f1 f2
     go_wp2_with fail
     go_meet
     exact ⟨by rw [hv], rfl⟩
 case rest =>
 obtain ⟨rfl, rfl⟩ := hcut
 clear HT9
 cases T9 with
 | true =>
  clear HLAY
  have HB : Hid (cm = 2) := Lib.hid (by rw [HE.out]; simp)
  clear HE
  go_wp2
  go_ret
  exact ⟨by rw [HB.out]; rfl, hx04⟩
 | false =>
 go_upto_region 10 with fail
 go_cut [16] from 53 to 60 (fun s wx => s = .bool T10 ∧ w4 = wx)
 case first =>
  cases hF with
  | true =>
   have hv : T10 = false := by rw [HT10.out]; rfl
   go_wp2_with fail
   go_meet
   exact ⟨by rw [hv], rfl⟩
  | false =>
   by_cases f0 : m.fate = 0
   ·have hv : T10 = false := by rw [HT10.out]; simp [t10B, f0]
    have k0 : (m.fate != 0) = false := by simpa using f0
    clear f0
    go_wp2_with fail
    go_meet
    exact ⟨by rw [hv], rfl⟩
   ·have hv : T10 = true := by rw [HT10.out]; simp [t10B, f0]
    have k0 : (m.fate != 0) = true := by simpa using f0
    clear f0
    go_wp2_with fail
    go_meet
    exact ⟨by rw [hv], rfl⟩
 case rest =>
 obtain ⟨rfl, rfl⟩ := hcut
 clear HT10 C18 K3
 cases T10 with
 | true =>
  clear HLAY
  have HB : Hid (cm = 2) := Lib.hid (by rw [HE.out]; simp)
  clear HE
  go_wp2
  go_ret
  exact ⟨by rw [HB.out]; rfl, hx04⟩
 | false =>
 go_upto_region 11 with fail
 go_cut [16] from 61 to 68 (fun s wx => s = .bool T11 ∧ w4 = wx)
 case first =>
  cases hNn with
  | true =>
   have hv : T11 = false := by rw [HT11.out]; rfl
   go_wp2_with fail
   go_meet
   exact ⟨by rw [hv], rfl⟩
  | false =>
   by_cases f0 : m.n = 0
   ·have hv : T11 = false := by rw [HT11.out]; simp [f0]
    have k0 : (m.n != 0) = false := by simpa using f0
    clear f0
    go_wp2_with fail
    go_meet
    exact ⟨by rw [hv], rfl⟩
   ·have hv : T11 = true := by rw [HT11.out]; simp [f0]
    have k0 : (m.n != 0) = true := by simpa using f0
    clear f0
    go_wp2_with fail
    go_meet
    exact ⟨by rw [hv], rfl⟩
 case rest =>
 obtain ⟨rfl, rfl⟩ := hcut
 clear HT11 K4
 cases T11 with
 | true =>
  clear HLAY
  have HB : Hid (cm = 2) := Lib.hid (by rw [HE.out]; simp)
  clear HE
  go_wp2
  go_ret
  exact ⟨by rw [HB.out]; rfl, hx04⟩
 | false =>
 go_upto_region 12 with fail
 go_cut [16] from 69 to 81 (fun s wx => s = .bool T12 ∧ w4 = wx)
 case first =>
  cases hU with
  | true =>
   have hv : T12 = false := by rw [HT12.out]; rfl
   go_wp2_with fail
   go_meet
   exact ⟨by rw [hv], rfl⟩
  | false =>
   by_cases f0 : m.epoch = 0
   ·have k0 : (m.epoch != 0) = false := by simpa using f0
    have HT13 : Hid (T12 = !decide (m.user = [])) := Lib.hid (by rw [HT12.out]; simp [t12B, f0])
    clear f0 HT12
    cases hus : m.user.isEmpty with
    | true =>
     have hv : T12 = false := by rw [HT13.out]; simpa using hus
     go_wp2_with fail
     go_meet
     exact ⟨by rw [hv], rfl⟩
    | false =>
     have hv : T12 = true := by rw [HT13.out]; simpa using hus
     go_wp2_with fail
     go_meet
     exact ⟨by rw [hv], rfl⟩
   ·have k0 : (m.epoch != 0) = true := by simpa using f0
    have hv : T12 = true := by rw [HT12.out]; simp [t12B, f0]
    clear f0 HT12
    cases hus : m.user.isEmpty with
    | true =>
     go_wp2_with fail
     go_meet
     exact ⟨by rw [hv], rfl⟩
    | false =>
     go_wp2_with fail
     go_meet
     exact ⟨by rw [hv], rfl⟩
 case rest =>
 obtain ⟨rfl, rfl⟩ := hcut
 clear HT12 K5
 cases T12 with
 | true =>
  clear HLAY
  have HB : Hid (cm = 2) := Lib.hid (by rw [HE.out]; simp)
  clear HE
  go_wp2
  go_ret
  exact ⟨by rw [HB.out]; rfl, hx04⟩
 | false =>
 go_wp2_with fail
 refine (HW3 w4).mono ?_
 rintro e w5 ⟨rfl, rfl⟩
 generalize inI m.n 0 4294967295 = a6 at *
 cases a6 with
 | false =>
  clear HLAY
  have HB : Hid (cm = 2) := Lib.hid (by rw [HE.out]; simp)
  clear HE
  go_wp2
  go_ret
  exact ⟨by rw [HB.out]; rfl, hx04⟩
 | true =>
 go_wp2_with fail
 refine (HW4 w4).mono ?_
 rintro e w5 ⟨rfl, rfl⟩
 generalize inI m.epoch 0 4294967295 = a7 at *
 cases a7 with
 | false =>
  clear HLAY
  have HB : Hid (cm = 2) := Lib.hid (by rw [HE.out]; simp)
  clear HE
  go_wp2
  go_ret
  exact ⟨by rw [HB.out]; rfl, hx04⟩
 | true =>
 clear HW3 HW4 C20 C21
 by_cases h24 : (m.user.length : Int) ≤ 24
 ·have d24 : decide ((m.user.length : Int) ≤ 24) = true := decide_eq_true h24
  have k24 : ¬ (24 : Int) < (m.user.length : Int) := by omega
  rw [d24] at HE HLAY
  have HE2 := Lib.hid (HE.out.trans (if_neg (by simp)))
  have HL2 := fun W hx h => HLAY W hx hin (by simp) h
  clear HE HLAY d24 h24
  cases hP1 with
  | true =>
   go_wp2_with fail
   refine (HPU w4 hx04).mono ?_
   rintro e w5 ⟨hx5, v, rfl, -⟩
   have hx05 := hx04.trans hx5
   have hab5 := hab4.trans hx5
   have hxb5 := hxb4.trans hx5
   clear HPU hx04 hab4 hxb4 hx5
   by_cases hp0 : (putAllT m.deeds).2 = 0
   ·have HE3 := Lib.hid (HE2.out.trans (if_neg (by simp [hp0])))
    have HL3 := fun W hx => HL2 W hx (fun _ => hp0)
    rw [hp0]
    clear HE2 HL2 hp0
    go_wp2_with (with_reducible refine sL 37 ?_)
    refine go_on (wpList_load_row rfl 37 _ rfl w.heap.size rfl 37 _ (0, 0) _ (HRM w5 hab5) Tryz.underlying37 rfl hsm ?_)
    go_wp2_with (with_reducible refine sL 57 ?_)
    refine go_on (wpList_load_row rfl 57 _ rfl w1.heap.size rfl 57 _ (0, 0) _ (HRB w5 hxb5) Tryz.underlying57 rfl hsh ?_)
    go_wp2_with fail
    refine (HL3 w5 hx05).mono ?_
    rintro e w6 ⟨b, rfl, hob, hx6⟩
    have hx06 := hx05.trans hx6
    obtain ⟨Ab, cb, rfl⟩ := hob.form
    clear hob hx6 HL3
    generalize (layM m).length = ln at *
    by_cases h20 : (2000 : Int) < (ln : Int)
    ·have HB : Hid (cm = 6) := Lib.hid (HE3.out.trans (if_pos (by omega)))
     clear HE3
     go_wp2
     go_ret
     exact ⟨by rw [HB.out]; rfl, hx06⟩
    ·have HB : Hid (cm = 0) := Lib.hid (HE3.out.trans (if_neg (by omega)))
     clear HE3
     go_wp2
     go_ret
     exact ⟨by rw [HB.out]; rfl, hx06⟩
   ·have HB : Hid (cm = (putAllT m.deeds).2) := Lib.hid (HE2.out.trans (if_pos ⟨by trivial, hp0⟩))
    have k0 : (((putAllT m.deeds).2 : Int) == 0) = false := by simpa using hp0
    generalize (putAllT m.deeds).2 = z at *
    clear hp0 HE2 HL2
    go_wp2
    go_ret
    exact ⟨by rw [HB.out]; rfl, hx05⟩
  | false =>
   have HE3 := Lib.hid (HE2.out.trans (if_neg (by simp)))
   have HL3 := fun W hx => HL2 W hx (fun h => by cases h)
   clear HE2 HL2 HPU
   go_wp2_with (with_reducible refine sL 37 ?_)
   refine go_on (wpList_load_row rfl 37 _ rfl w.heap.size rfl 37 _ (0, 0) _ (HRM w4 hab4) Tryz.underlying37 rfl hsm ?_)
   go_wp2_with (with_reducible refine sL 57 ?_)
   refine go_on (wpList_load_row rfl 57 _ rfl w1.heap.size rfl 57 _ (0, 0) _ (HRB w4 hxb4) Tryz.underlying57 rfl hsh ?_)
   go_wp2_with fail
   refine (HL3 w4 hx04).mono ?_
   rintro e w6 ⟨b, rfl, hob, hx6⟩
   have hx06 := hx04.trans hx6
   obtain ⟨Ab, cb, rfl⟩ := hob.form
   clear hob hx6 HL3
   generalize (layM m).length = ln at *
   by_cases h20 : (2000 : Int) < (ln : Int)
   ·have HB : Hid (cm = 6) := Lib.hid (HE3.out.trans (if_pos (by omega)))
    clear HE3
    go_wp2
    go_ret
    exact ⟨by rw [HB.out]; rfl, hx06⟩
   ·have HB : Hid (cm = 0) := Lib.hid (HE3.out.trans (if_neg (by omega)))
    clear HE3
    go_wp2
    go_ret
    exact ⟨by rw [HB.out]; rfl, hx06⟩
 ·have d24 : decide ((m.user.length : Int) ≤ 24) = false := decide_eq_false h24
  have k24 : (24 : Int) < (m.user.length : Int) := by omega
  rw [d24] at HE
  clear HLAY d24 h24
  have HB : Hid (cm = 2) := Lib.hid (by rw [HE.out]; simp)
  clear HE
  go_wp2
  go_ret
  exact ⟨by rw [HB.out]; rfl, hx04⟩
end Go.Proofs.YthlppbbejdeeoaaGreatDoor
