/- The walks of WireChecks and WirePuts. Conditions: the walk of deed.Check (CheckLaw), what is read of a message's deeds (RDdB), the bounds named; the library's two tables. -/
import Derived.Test.YthlppbbejdeeoaaGreatDoorC3
import Derived.Test.YthlppbbejdeeoaaGreatDoorWrKM
import Derived.Test.YthlppbbejdeeoaaGreatDoorRWrCM
namespace Go.Proofs.YthlppbbejdeeoaaGreatDoor
open Go.RowKit
set_option maxRecDepth 20000 in
set_option maxHeartbeats 4000000 in
theorem WirePuts_any (HCK : CheckLaw) (m : Ml) (Ap Ad Ae An Av : Option Addr) (cp cd ce cn cv : Nat) (w : World)
 (hP : Sl w Ap (doV m.peers)) (hE : Sl w Ae (doV m.epochs)) (hNs : Sl w An (doV m.nums)) (hV : Bs w Av m.vbytes) (hD : RsM RDdB 10 [] w Ad m.deeds)
 (hlp : m.peers.length ≤ 1048576) (hdl : m.deeds.length ≤ 1048576) (hle : m.epochs.length ≤ 1048576) (hln : m.nums.length ≤ 1048576) (hlv : m.vbytes.length ≤ 1048576) (hTb : Tabs w) :
 Calls Tryz.prog 6 #[.agg (mlC m (.slice Ap m.peers.length cp) (.slice Ad m.deeds.length cd) (.slice Ae m.epochs.length ce) (.slice An m.nums.length cn) (.slice Av m.vbytes.length cv))] w (Yes w) := by
 have HP := fun W (hx : Ext w W) => wPut_any HCK m Ap Ad Ae An Av cp cd ce cn cv W (hP.ext hx) (hE.ext hx) (hNs.ext hx) (hV.ext hx) ((RDdB.weak hD).kept (.of_ext hx)) (by omega) (by omega) (by omega) (by omega) (by omega)
 have HR := fun W (hx : Ext w W) => rPut_any m Ap Ad Ae An Av cp cd ce cn cv W (hP.ext hx) (hE.ext hx) (hNs.ext hx) (hV.ext hx) (hD.kept (.of_ext hx)) (by omega) hdl (by omega) (by omega) (hTb.ext hx)
 obtain ⟨mc, hmc⟩ : ∃ mc, mc = mlC m (.slice Ap m.peers.length cp) (.slice Ad m.deeds.length cd) (.slice Ae m.epochs.length ce) (.slice An m.nums.length cn) (.slice Av m.vbytes.length cv) := ⟨_, rfl⟩
 have hsm : (Tryz.prog.info? 37).map (·.size) = some mc.size := by rw [hmc]; kernel_rfl
 rw [← hmc] at HP HR ⊢
 obtain ⟨wa, hwa⟩ : ∃ wa, wa = w.alloc (.cells mc 37) := ⟨_, rfl⟩
 have hxa : Ext w wa := by rw [hwa]; exact (Ext.refl w).alloc _
 have hrowM : wa.heap[w.heap.size]? = some (.cells mc 37 (0, 0)) := by rw [hwa]; exact heap_alloc_new w _
 have HWA := Lib.hid hwa
 clear hwa hP hE hNs hV hD hmc hTb hlp hdl hle hln hlv
 generalize putMT m = r at *
 obtain ⟨l, k⟩ := r
 go_enter Tryz.func6, Tryz.ntmps6
 go_wp2_with (with_reducible refine sL 37 ?_)
 rw [← HWA.out]
 refine go_on (wpList_load_row rfl 37 _ rfl w.heap.size rfl 37 _ (0, 0) _ hrowM Tryz.underlying37 rfl hsm ?_)
 go_wp2_with fail
 refine (HP wa hxa).mono ?_
 rintro e w1 ⟨hx1, v1, rfl, hown1⟩
 obtain ⟨A1, c1, rfl⟩ := hown1.form
 have hx01 := hxa.trans hx1
 have hrow1 := hx1.obj hrowM
 clear HP hrowM
 go_wp2_with (with_reducible refine sL 37 ?_)
 refine go_on (wpList_load_row rfl 37 _ rfl w.heap.size rfl 37 _ (0, 0) _ hrow1 Tryz.underlying37 rfl hsm ?_)
 go_wp2_with fail
 refine (HR w1 hx01).mono ?_
 rintro e w2 ⟨hx2, v2, rfl, hown2⟩
 obtain ⟨A2, c2, rfl⟩ := hown2.form
 have hx02 := hx01.trans hx2
 clear HR hrow1
 go_wp2_with fail
 refine (wlive_any HCK w2).mono ?_
 rintro e w3 ⟨rfl, hx3⟩
 have hx03 := hx02.trans hx3
 have s1 := run_str (P := Tryz.prog) Tryz.underlying22 Tryz.underlying5 Tryz.underlying9 hown1.bs l.length c1 rfl w3 (hx2.trans hx3)
 have s2 := run_str (P := Tryz.prog) Tryz.underlying22 Tryz.underlying5 Tryz.underlying9 hown2.bs l.length c2 rfl w3 hx3
 clear hown1 hown2 hx02 hx1 hx2 hx01 hxa hx3
 go_wp2
 go_ret
 exact ⟨rfl, hx03⟩
set_option maxRecDepth 20000 in
set_option maxHeartbeats 4000000 in
theorem WireChecks_any (HCK : CheckLaw) (m : Ml) (Ap Ad Ae An Av : Option Addr) (cp cd ce cn cv : Nat) (w : World)
 (hP : Sl w Ap (doV m.peers)) (hE : Sl w Ae (doV m.epochs)) (hNs : Sl w An (doV m.nums)) (hV : Bs w Av m.vbytes) (hD : RsM RDdB 10 [] w Ad m.deeds)
 (hlp : m.peers.length ≤ 1048576) (hdl : m.deeds.length ≤ 1048576) (hle : m.epochs.length ≤ 1048576) (hln : m.nums.length ≤ 1048576) (hlv : m.vbytes.length ≤ 1048576) (hTb : Tabs w) :
 Calls Tryz.prog 5 #[.agg (mlC m (.slice Ap m.peers.length cp) (.slice Ad m.deeds.length cd) (.slice Ae m.epochs.length ce) (.slice An m.nums.length cn) (.slice Av m.vbytes.length cv))] w (Yes w) := by
 have HP := fun W (hx : Ext w W) => wCheck_any HCK m Ap Ad Ae An Av cp cd ce cn cv W (hP.ext hx) (hE.ext hx) (hNs.ext hx) (hV.ext hx) ((RDdB.weak hD).kept (.of_ext hx)) (by omega) (by omega) (by omega) (by omega) (by omega)
 have HR := fun W (hx : Ext w W) => rCheck_any m Ap Ad Ae An Av cp cd ce cn cv W (hP.ext hx) (hE.ext hx) (hNs.ext hx) (hV.ext hx) (hD.kept (.of_ext hx)) (by omega) hdl (by omega) (by omega) (hTb.ext hx)
 obtain ⟨mc, hmc⟩ : ∃ mc, mc = mlC m (.slice Ap m.peers.length cp) (.slice Ad m.deeds.length cd) (.slice Ae m.epochs.length ce) (.slice An m.nums.length cn) (.slice Av m.vbytes.length cv) := ⟨_, rfl⟩
 have hsm : (Tryz.prog.info? 37).map (·.size) = some mc.size := by rw [hmc]; kernel_rfl
 rw [← hmc] at HP HR ⊢
 obtain ⟨wa, hwa⟩ : ∃ wa, wa = w.alloc (.cells mc 37) := ⟨_, rfl⟩
 have hxa : Ext w wa := by rw [hwa]; exact (Ext.refl w).alloc _
 have hrowM : wa.heap[w.heap.size]? = some (.cells mc 37 (0, 0)) := by rw [hwa]; exact heap_alloc_new w _
 obtain ⟨ml, rfl⟩ : ∃ ml : List Value, mc = ml.toArray := ⟨mc.toList, by simp⟩
 have RM : ∀ W, Ext wa W → W.rangeAt w.heap.size 0 ml := fun W hx => by
  have := World.rangeAt_of_block (hx.obj hrowM) 0 ml.length
  simpa using this
 have hxaA : Ext wa wa := Ext.refl _
 have hd0 : Ext wa wa.drew := (Ext.refl _).drew
 have hwaA := hwa.symm
 have hsl : (Tryz.prog.info? 37).map (·.size) = some ml.length := by simpa using hsm
 have HL := fun W => wlive_any HCK W
 clear hwa hP hE hNs hV hD hmc hTb hlp hdl hle hln hlv hrowM hsm
 generalize checkM m = k at *
 go_enter Tryz.func5, Tryz.ntmps5
 go_wp2_with fail
 clear hwaA hxaA
 refine wp_region_phase (S := fun w' => Ext wa w') 8 (by kernel_rfl) (by kernel_rfl) ?_ (fun hHeld => ?_)
 ·exact hd0
 simp only [List.drop_succ_cons, List.drop_zero]
 refine name_head ?_
 intro wr0 hw0
 rw [hw0] at hHeld
 refine rd [0] ?_
 refine ac (fun K hK => ?_) ?_
 ·refine step_callG (by rfl) (by kernel_rfl) (HL _) ?_
  rintro e wr0 ⟨rfl, hx0⟩
  refine ⟨_, rfl, ?_⟩
  refine hK.out _ _ ?_ (fun hHeld => ?_)
  ·exact hHeld.trans hx0
  clear hK K
  try simp only [red, Act.put]
  refine wt 1 _ ?_
  simp only [red, Act.put]
  refine wy 2 (v := .agg ml.toArray) (by rfl) (by exact yieldsIf_load_mid (by rfl) 37 _ rfl w.heap.size 0 rfl ml _ RM Tryz.underlying37 rfl hsl) ?_
  simp only [red, Act.put]
  refine wy 4 (v := .agg ml.toArray) (by rfl) (by exact yieldsIf_load_mid (by rfl) 37 _ rfl w.heap.size 0 rfl ml _ RM Tryz.underlying37 rfl hsl) ?_
  simp only [red, Act.put]
  refine rd [3] ?_
  refine ac (fun K hK => ?_) ?_
  ·refine step_callG (by rfl) (by kernel_rfl) (HP _ (hxa.trans hHeld)) ?_
   rintro e wr3 ⟨rfl, hx3⟩
   refine ⟨_, rfl, ?_⟩
   refine hK.out _ _ ?_ (fun hHeld => ?_)
   ·exact hHeld.trans hx3
   clear hK K
   try simp only [red, Act.put]
   refine rd [5] ?_
   refine ac (fun K hK => ?_) ?_
   ·refine step_callG (by rfl) (by kernel_rfl) (HR _ (hxa.trans hHeld)) ?_
    rintro e wr5 ⟨rfl, hx5⟩
    refine ⟨_, rfl, ?_⟩
    refine hK.out _ _ ?_ (fun hHeld => ?_)
    ·exact hHeld.trans hx5
    clear hK K
    try simp only [red, Act.put]
    refine wt 6 _ ?_
    simp only [red, Act.put]
    refine wt 7 _ ?_
    simp only [red, Act.put]
    refine wpHead_done (by kernel_rfl) ?_
    have hz := hxa.trans hHeld
    clear hx0 hx3 hx5 hHeld hw0 hd0 HP HR HL RM
    go_wp2
    go_ret
    exact ⟨rfl, hz⟩
   exact AllHead.nil
  exact AllHead.nil
 exact AllHead.nil
end Go.Proofs.YthlppbbejdeeoaaGreatDoor
