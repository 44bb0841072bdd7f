/- The walks of WireTakes and WireRaw. Conditions: the walk of deed.Check (CheckLaw), the bounds named; the library's two tables. -/
import Derived.Test.YthlppbbejdeeoaaGreatDoorWrKM
import Derived.Test.YthlppbbejdeeoaaGreatDoorRWrTM
namespace Go.Proofs.YthlppbbejdeeoaaGreatDoor
open Go.RowKit
theorem same_rows {m : Ml} {P D E N V P' D' E' N' V' : Value} {w : World} {b b' : Nat} (h : Rows w b m P D E N V) (h' : Rows w b' m P' D' E' N' V') (hc : checkM m = 0) :
 Calls Tryz.prog 10 #[.agg (mlC m P D E N V), .agg (mlC m P' D' E' N' V')] w fun e w' => e = .returned (.bool true) ∧ Ext w w' := by
 obtain ⟨hP, hD, hE, hN, hV⟩ := h
 obtain ⟨Ap, cp, rfl⟩ := hP.form
 obtain ⟨Ad, cd, rfl⟩ := hD.form
 obtain ⟨Ae, ce, rfl⟩ := hE.form
 obtain ⟨An, cn, rfl⟩ := hN.form
 obtain ⟨Av, cv, rfl⟩ := hV.form
 obtain ⟨hP', hD', hE', hN', hV'⟩ := h'
 obtain ⟨Ap', cp', rfl⟩ := hP'.form
 obtain ⟨Ad', cd', rfl⟩ := hD'.form
 obtain ⟨Ae', ce', rfl⟩ := hE'.form
 obtain ⟨An', cn', rfl⟩ := hN'.form
 obtain ⟨Av', cv', rfl⟩ := hV'.form
 obtain ⟨l1, l2, l3, l4, l5, l6⟩ := right_len hc
 exact MSame_any m Ap Ad Ae An Av Ap' Ad' Ae' An' Av' cp cd ce cn cv cp' cd' ce' cn' cv' w hP.sl hE.sl hN.sl hV.bs (hD.rsm l6) hP'.sl hE'.sl hN'.sl hV'.bs (hD'.rsm l6) l1 l2 l3 l4
theorem same_zero (w : World) : Calls Tryz.prog 10 #[.agg zMC, .agg zMC] w fun e w' => e = .returned (.bool true) ∧ Ext w w' := by
 have := MSame_any zM none none none none none none none none none none 0 0 0 0 0 0 0 0 0 0 w (Sl.nil _ _) (Sl.nil _ _) (Sl.nil _ _) (Sl.nil _ _) (RsM.nil _ _ _ _ _) (Sl.nil _ _) (Sl.nil _ _) (Sl.nil _ _) (Sl.nil _ _) (RsM.nil _ _ _ _ _) (by decide) (by decide) (by decide) (by decide)
 exact this
set_option maxRecDepth 20000 in
set_option maxHeartbeats 4000000 in
theorem WireTakes_any (HCK : CheckLaw) (b : By) (A : Option Addr) (cap : Nat) (w : World) (hb : Bs w A b) (hc : b.length ≤ cap) (hm : cap ≤ 9223372036854775807) (hbl : b.length ≤ 1048576) (hTb : Tabs w) :
 Calls Tryz.prog 3 #[.slice A b.length cap] w (Yes w) := by
 have HT := wTake_any HCK A cap b w hb hc hm
 have HR := fun W (hx : Ext w W) => rTake_any A cap b W (hb.ext hx) hc (by omega) (hTb.ext hx)
 have HRT : ∀ m, takeT b = .inr m → checkM m = 0 := fun m h => takeT_right h
 clear hb hTb
 unfold TakeW at HT HR
 generalize takeT b = tk at *
 cases tk with
 | inl c =>
  clear HRT
  simp only at HT HR
  go_enter Tryz.func3, Tryz.ntmps3
  go_wp2_with fail
  refine HT.mono ?_
  rintro e w1 ⟨hx1, rfl⟩
  go_wp2_with (with_reducible first | refine sL 37 ?_ | refine sS 37 ?_ | refine sA 37 ?_)
  refine go_on (wpList_alloc_ rfl rfl mail_info ?_)
  go_wp2_with (with_reducible first | refine sL 37 ?_ | refine sS 37 ?_ | refine sA 37 ?_)
  refine go_on (wpList_store_last (c' := zMC) rfl rfl rfl rfl (by kernel_rfl) rfl zMC_one ?_)
  intro w2 hrow2 hx2 _
  have hx02 := hx1.trans hx2
  clear HT
  go_wp2_with fail
  refine (HR w2 hx02).mono ?_
  rintro e w3 ⟨hx3, rfl⟩
  have hx03 := hx02.trans hx3
  go_wp2_with (with_reducible first | refine sL 37 ?_ | refine sS 37 ?_ | refine sA 37 ?_)
  refine go_on (wpList_alloc_ rfl rfl mail_info ?_)
  go_wp2_with (with_reducible first | refine sL 37 ?_ | refine sS 37 ?_ | refine sA 37 ?_)
  refine go_on (wpList_store_last (c' := zMC) rfl rfl rfl rfl (by kernel_rfl) rfl zMC_one ?_)
  intro w4 hrow4 hx4 _
  have hx04 := hx03.trans hx4
  clear HR
  go_wp2_with fail
  refine (wlive_any HCK w4).mono ?_
  rintro e w5 ⟨rfl, hx5⟩
  have hx05 := hx04.trans hx5
  have hr2 := ((hx3.trans hx4).trans hx5).obj hrow2
  have hr4 := hx5.obj hrow4
  have HS := same_zero w5
  clear hrow2 hrow4 hx1 hx2 hx3 hx4 hx5 hx02 hx03 hx04
  go_wp2_with (with_reducible refine sL 37 ?_)
  refine go_on (wpList_load_rowG (by rfl) 37 _ rfl w1.heap.size rfl 37 _ (0, 0) _ hr2 Tryz.underlying37 rfl (by kernel_rfl) ?_)
  go_wp2_with (with_reducible refine sL 37 ?_)
  refine go_on (wpList_load_rowG (by rfl) 37 _ rfl w3.heap.size rfl 37 _ (0, 0) _ hr4 Tryz.underlying37 rfl (by kernel_rfl) ?_)
  clear hr2 hr4
  go_wp2_with fail
  refine HS.mono ?_
  rintro e w6 ⟨rfl, hx6⟩
  have hx06 := hx05.trans hx6
  clear HS hx05 hx6
  go_wp2
  go_ret
  exact ⟨rfl, hx06⟩
 | inr m =>
  have hck := HRT m rfl
  clear HRT
  simp only at HT HR
  go_enter Tryz.func3, Tryz.ntmps3
  go_wp2_with fail
  refine HT.mono ?_
  rintro e w1 ⟨hx1, P, D, E, N, V, rfl, hrows⟩
  go_wp2_with (with_reducible first | refine sL 37 ?_ | refine sS 37 ?_ | refine sA 37 ?_)
  refine go_on (wpList_alloc_ rfl rfl mail_info ?_)
  go_wp2_with (with_reducible first | refine sL 37 ?_ | refine sS 37 ?_ | refine sA 37 ?_)
  refine go_on (wpList_store_last (c' := mlC m P D E N V) rfl rfl rfl rfl (mlC_info _ _ _ _ _ _) rfl hrows.one ?_)
  intro w2 hrow2 hx2 _
  have hx02 := hx1.trans hx2
  clear HT
  go_wp2_with fail
  refine (HR w2 hx02).mono ?_
  rintro e w3 ⟨hx3, P', D', E', N', V', rfl, hrows'⟩
  have hx03 := hx02.trans hx3
  go_wp2_with (with_reducible first | refine sL 37 ?_ | refine sS 37 ?_ | refine sA 37 ?_)
  refine go_on (wpList_alloc_ rfl rfl mail_info ?_)
  go_wp2_with (with_reducible first | refine sL 37 ?_ | refine sS 37 ?_ | refine sA 37 ?_)
  refine go_on (wpList_store_last (c' := mlC m P' D' E' N' V') rfl rfl rfl rfl (mlC_info _ _ _ _ _ _) rfl hrows'.one ?_)
  intro w4 hrow4 hx4 _
  have hx04 := hx03.trans hx4
  clear HR
  go_wp2_with fail
  refine (wlive_any HCK w4).mono ?_
  rintro e w5 ⟨rfl, hx5⟩
  have hx05 := hx04.trans hx5
  have hr2 := ((hx3.trans hx4).trans hx5).obj hrow2
  have hr4 := hx5.obj hrow4
  have HS := same_rows (hrows.ext (((hx2.trans hx3).trans hx4).trans hx5)) (hrows'.ext (hx4.trans hx5)) hck
  clear hrow2 hrow4 hx1 hx2 hx3 hx4 hx5 hx02 hx03 hx04
  go_wp2_with (with_reducible refine sL 37 ?_)
  refine go_on (wpList_load_rowG (by rfl) 37 _ rfl w1.heap.size rfl 37 _ (0, 0) _ hr2 Tryz.underlying37 rfl (mlC_info _ _ _ _ _ _) ?_)
  go_wp2_with (with_reducible refine sL 37 ?_)
  refine go_on (wpList_load_rowG (by rfl) 37 _ rfl w3.heap.size rfl 37 _ (0, 0) _ hr4 Tryz.underlying37 rfl (mlC_info _ _ _ _ _ _) ?_)
  clear hr2 hr4
  go_wp2_with fail
  refine HS.mono ?_
  rintro e w6 ⟨rfl, hx6⟩
  have hx06 := hx05.trans hx6
  clear HS hx05 hx6
  go_wp2
  go_ret
  exact ⟨rfl, hx06⟩
set_option maxRecDepth 20000 in
set_option maxHeartbeats 4000000 in
theorem WireRaw_any (HCK : CheckLaw) (p : By) (A : Option Addr) (cap : Nat) (w : World) (hb : Bs w A p) (hTb : Tabs w) :
 Calls Tryz.prog 4 #[.slice A p.length cap] w (Yes w) := by
 have HPK := RPack_any A cap p.length p w hb rfl
 unfold PackSays at HPK
 have hlo : (packO p).length ≤ 2006 := by
  unfold packO
  split
  ·simp
  ·split
   ·simp
   ·rw [packL_length]; omega
 generalize packE p = pe at *
 generalize packO p = lo at *
 clear hb
 go_enter Tryz.func4, Tryz.ntmps4
 go_wp2_with fail
 refine HPK.mono ?_
 rintro e w1 ⟨v1, rfl, hown1, hx1⟩
 obtain ⟨Ac, cc, rfl⟩ := hown1.form
 have HT := WireTakes_any HCK lo Ac cc w1 hown1.bs hown1.cap.1 hown1.cap.2 (by omega) (hTb.ext hx1)
 clear HPK hown1 hTb
 go_wp2_with fail
 refine HT.mono ?_
 rintro e w2 ⟨rfl, hx2⟩
 have hx02 := hx1.trans hx2
 go_wp2
 go_ret
 exact ⟨rfl, hx02⟩
end Go.Proofs.YthlppbbejdeeoaaGreatDoor
