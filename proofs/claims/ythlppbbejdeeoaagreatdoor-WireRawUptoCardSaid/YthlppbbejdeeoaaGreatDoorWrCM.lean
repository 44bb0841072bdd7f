/- The walk of wire.Put. Conditions: the walk of deed.Check (CheckLaw), and the bounds named. -/
import Derived.Test.YthlppbbejdeeoaaGreatDoorWrBM
import Derived.Test.YthlppbbejdeeoaaGreatDoorC10
namespace Go.Proofs.YthlppbbejdeeoaaGreatDoor
open Go.RowKit
/-- a message's bytes, or why there are none -/
def putMT (m : Ml) : By × Nat := if checkM m ≠ 0 then ([], checkM m) else (packL (layM m), 0)
theorem layM_pos (m : Ml) : 0 < (layM m).length := by
 rw [layM_eq]
 simp [layHead]
 omega
set_option maxRecDepth 20000 in
set_option maxHeartbeats 4000000 in
theorem wPut_any (HCK : CheckLaw) (m : Ml) (Ap Ad Ae An Av : Option Addr) (cp cd ce cn cv : Nat) (w : World)
 (hP : Sl w Ap (doV m.peers)) (hE : Sl w Ae (doV m.epochs)) (hNs : Sl w An (doV m.nums)) (hV : Bs w Av m.vbytes) (hD : RsM RDd 10 [] w Ad m.deeds)
 (hlp : m.peers.length ≤ 140737488351232) (hdl : m.deeds.length ≤ 140737488351232) (hle : m.epochs.length ≤ 140737488351232) (hln : m.nums.length ≤ 140737488351232) (hlv : m.vbytes.length ≤ 140737488351232) :
 Calls Tryz.prog 14 #[.agg (mlC m (.slice Ap m.peers.length cp) (.slice Ad m.deeds.length cd) (.slice Ae m.epochs.length ce) (.slice An m.nums.length cn) (.slice Av m.vbytes.length cv))] w (PutSays (putMT m) w) := by
 have HC := fun W (hx : Ext w W) => wCheck_any HCK m Ap Ad Ae An Av cp cd ce cn cv W (hP.ext hx) (hE.ext hx) (hNs.ext hx) (hV.ext hx) (hD.kept (.of_ext hx)) hlp hdl hle hln hlv
 have HL := fun W (hx : Ext w W) (h0 : checkM m = 0) => wlay_any HCK m Ap Ad Ae An Av cp cd ce cn cv W (checkM_right h0) (checkM_ok h0).2.2.1 (hP.ext hx) (hE.ext hx) (hNs.ext hx) (hV.ext hx) (hD.kept (.of_ext hx)) hdl
 have HOF := fun W => of_any m.kind W
 obtain ⟨mc, hmc⟩ : ∃ mc, mc = mlC m (.slice Ap m.peers.length cp) (.slice Ad m.deeds.length cd) (.slice Ae m.epochs.length ce) (.slice An m.nums.length cn) (.slice Av m.vbytes.length cv) := ⟨_, rfl⟩
 obtain ⟨hc, hhc⟩ : ∃ hc, hc = hasC m.kind := ⟨_, rfl⟩
 have hC0 : mc[0]? = some (.int .i64 m.kind) := by rw [hmc]; rfl
 have hsm : (Tryz.prog.info? 37).map (·.size) = some mc.size := by rw [hmc]; kernel_rfl
 have hsh : (Tryz.prog.info? 57).map (·.size) = some hc.size := by rw [hhc]; kernel_rfl
 have hz6 : zHas.size = hc.size := by rw [hhc]; rfl
 have h1c : hc.all (·.oneCell') = true := by rw [hhc]; simp [hasC, Value.oneCell']
 rw [← hmc] at HC ⊢
 rw [← hmc, ← hhc] at HL
 rw [← hhc] at HOF
 obtain ⟨wa, hwa⟩ : ∃ wa, wa = w.alloc (.cells mc 37) := ⟨_, rfl⟩
 have hxa : Ext w wa := by rw [hwa]; exact (Ext.refl w).alloc _
 have hrowM : wa.heap[w.heap.size]? = some (.cells mc 37 (0, 0)) := by rw [hwa]; exact heap_alloc_new w _
 have C0 := row_e hrowM 0 _ hC0
 have HWA := Lib.hid hwa
 have HP0 : Hid (putMT m = if checkM m ≠ 0 then ([], checkM m) else (packL (layM m), 0)) := Lib.hid rfl
 clear hwa hP hE hNs hV hD hmc hhc hC0 hlp hdl hle hln hlv
 go_enter Tryz.func14, Tryz.ntmps14
 go_wp2_with (with_reducible refine sL 37 ?_)
 rw [← HWA.out]
 refine go_on (wpList_load_row rfl 37 _ rfl w.heap.size rfl 37 _ (0, 0) _ hrowM Tryz.underlying37 rfl hsm ?_)
 go_wp2_with fail
 refine (HC wa hxa).mono ?_
 rintro e w1 ⟨rfl, hx1⟩
 have hx01 := hxa.trans hx1
 by_cases h0 : checkM m = 0
 ·have HB := Lib.hid (HP0.out.trans (if_neg (by simpa using h0)))
  have HL2 := fun W hx => HL W hx h0
  have h20 := (checkM_ok h0).2.2.2
  have hpos := layM_pos m
  rw [h0]
  generalize layM m = lm at *
  clear HL h0 HP0 HC
  go_wp2_with fail
  refine (HOF w1).mono ?_
  rintro e w2 ⟨rfl, hx2⟩
  go_wp2_with (with_reducible first | refine sA 57 ?_ | refine sS 57 ?_ | refine sL 57 ?_ | refine sL 37 ?_)
  refine go_on (wpList_alloc_ rfl rfl has_info ?_)
  go_wp2_with (with_reducible first | refine sA 57 ?_ | refine sS 57 ?_ | refine sL 57 ?_ | refine sL 37 ?_)
  refine go_on (wpList_store_last (c' := hc) rfl rfl rfl rfl hsh hz6 h1c ?_)
  intro wb hrowB hxb _
  have hx := hx01.trans (hx2.trans hxb)
  have hab := hx1.trans (hx2.trans hxb)
  go_wp2_with (with_reducible refine sL 37 ?_)
  refine go_on (wpList_load_row rfl 37 _ rfl w.heap.size rfl 37 _ (0, 0) _ (hab.obj hrowM) Tryz.underlying37 rfl hsm ?_)
  go_wp2_with (with_reducible refine sL 57 ?_)
  refine go_on (wpList_load_row rfl 57 _ rfl w2.heap.size rfl 57 _ (0, 0) _ hrowB Tryz.underlying57 rfl hsh ?_)
  clear hrowB hx2 hxb
  go_wp2_with fail
  refine (HL2 wb hx).mono ?_
  rintro e w3 ⟨b, rfl, hob, hx3⟩
  have hx03 := hx.trans hx3
  obtain ⟨Ab, cb, rfl⟩ := hob.form
  have HPK := Pack_ok Ab cb _ lm w3 hob.bs rfl hpos h20
  clear HL2 hob hx hx3
  go_wp2_with fail
  refine HPK.mono ?_
  rintro e w4 ⟨v, rfl, hov, hx4⟩
  have hx04 := hx03.trans hx4
  have hov2 := hov.low hx03.size
  clear HPK hov hx4 hx03
  go_wp2
  go_ret2
  refine ⟨hx04, v, ?_, ?_⟩
  ·rw [HB.out]; rfl
  ·rw [HB.out]; exact hov2
 ·have HB := Lib.hid (HP0.out.trans (if_pos h0))
  have k0 : (((checkM m : Nat) : Int) == 0) = false := by simpa using h0
  generalize checkM m = z at *
  clear h0 HP0 HL HC
  go_wp2
  go_ret2
  exact PutSays.none HB.out hx01
end Go.Proofs.YthlppbbejdeeoaaGreatDoor
