/- The walk of live of the laws of coord: it answers true. No condition. -/
import Derived.Test.YtijopcdjlpafdaaCo16M
import Derived.Test.YtijopcdjlpafdaaCo10M
namespace Go.Proofs.Ytijopcdjlpafdaa
open Go.RowKit
def L0 : Cs := ⟨7, 0, 1, []⟩
def L1 : Cs := ⟨7, 1, 1, []⟩
def L2 : Cs := ⟨7, 1, 2, [⟨⟨7, 1, 1⟩, [0, 1], false, [], []⟩]⟩
def L3 : Cs := ⟨7, 1, 2, [⟨⟨7, 1, 1⟩, [0, 1], false, [0], []⟩]⟩
def L4 : Cs := ⟨7, 1, 2, [⟨⟨7, 1, 1⟩, [0, 1], false, [0, 1], []⟩]⟩
def L5 : Cs := ⟨7, 1, 2, [⟨⟨7, 1, 1⟩, [0, 1], true, [], []⟩]⟩
def recL : By := [2, 0, 0, 0, 1, 0, 0, 0, 1, 2, 0, 1]
theorem l_boot : bootO L0 = ([1, 0, 0, 0, 1], 0) := by decide
theorem l_redo0 : redoO L0 [1, 0, 0, 0, 1] = (0, L1) := by kernel_rfl
theorem l_begin : beginE L1 [0, 1] = 0 ∧ beginT L1 [0, 1] = ⟨7, 1, 1⟩ ∧ beginS L1 [0, 1] = L2 := ⟨by rfl, by rfl, by rfl⟩
theorem l_vote0 : voteO L2 ⟨7, 1, 1⟩ 0 true = ⟨[], 0, L3⟩ := by rfl
theorem l_vote1 : voteO L3 ⟨7, 1, 1⟩ 1 true = ⟨recL, 0, L4⟩ := by rfl
theorem l_ask0 : askF L4 ⟨7, 1, 1⟩ = 0 := by rfl
theorem l_redo1 : redoO L4 recL = (0, L5) := by kernel_rfl
theorem l_ask1 : askF L5 ⟨7, 1, 1⟩ = 1 := by rfl
theorem l_todo : (todoF L5).length = 2 := by rfl
theorem l_ok : L0.Ok ∧ L1.Ok ∧ L2.Ok ∧ L3.Ok ∧ L4.Ok ∧ L5.Ok := by
 have h0 : L0.Ok := ok_new 7
 have h1 : L1.Ok := by have := ok_redo h0 [1, 0, 0, 0, 1]; rwa [l_redo0] at this
 have h2 : L2.Ok := by have := ok_begin h1 [0, 1]; rwa [l_begin.2.2] at this
 have h3 : L3.Ok := by have := ok_vote h2 ⟨7, 1, 1⟩ 0 true; rwa [l_vote0] at this
 have h4 : L4.Ok := by have := ok_vote h3 ⟨7, 1, 1⟩ 1 true; rwa [l_vote1] at this
 have h5 : L5.Ok := by have := ok_redo h4 recL; rwa [l_redo1] at this
 exact ⟨h0, h1, h2, h3, h4, h5⟩
set_option maxRecDepth 20000 in
set_option maxHeartbeats 1000000 in
theorem live_any (w : World) : Calls Try.prog 13 #[] w (Yes w) := by
 obtain ⟨ok0, ok1, ok2, ok3, ok4, ok5⟩ := l_ok
 have HN := CNew_any 7 w (by omega) (by omega)
 unfold Yes
 unfold pt at HN
 go_enter Try.func13, Try.ntmps13
 go_wp2_with fail
 refine HN.mono ?_
 rintro e w1 ⟨rfl, hx1, hp1, hco1⟩
 have hco1 := hco1 [w.heap.size]
 generalize hpp : w.heap.size = p at *
 have HSZ := Lib.hid (Nat.le_of_eq hpp)
 clear hpp
 have hM1 : ∀ k ∈ [p], k < w1.heap.size := by intro k hk; simp at hk; omega
 have hpm : p ∈ [p] := by simp
 have HB := CBoot_any hco1 ok0
 rw [show (⟨7, 0, 1, []⟩ : Cs) = L0 from rfl, l_boot] at HB
 have HX1 := Lib.hid hx1
 unfold pt at HB
 go_wp2_with fail
 refine HB.mono ?_
 rintro e w2 ⟨v2, rfl, ho2, hx2⟩
 obtain ⟨A2, c2, rfl⟩ := ho2.form
 have HR := CRedo_any (hco1.ext hx2) ok0 hpm (fun k hk => Nat.lt_of_lt_of_le (hM1 k hk) hx2.size) A2 c2 _ ho2.bs ho2.cap.1 (by simp)
 rw [show (⟨7, 0, 1, []⟩ : Cs) = L0 from rfl, l_redo0] at HR
 unfold pt at HR
 have HX2 := Lib.hid (HX1.out.trans hx2)
 clear HB HN hx1 hco1 ho2
 go_wp2_with fail
 refine HR.mono ?_
 rintro e w3 ⟨rfl, hco3, hk3⟩
 have hK3 := (Kept.of_ext (M := [p]) HX2.out).trans hk3
 have hM3 : ∀ k ∈ [p], k < w3.heap.size := fun k hk => Nat.lt_of_lt_of_le (hM1 k hk) (Nat.le_trans hx2.size hk3.size)
 clear HR hk3 hx2
 go_wp2_with fail
 have hx34 : Ext w3 (w3.alloc (.cells #[.int .i64 0, .int .i64 1] 3)) := (Ext.refl _).alloc _
 have hsl : SlM [p] (w3.alloc (.cells #[.int .i64 0, .int .i64 1] 3)) (some ⟨w3.heap.size, 0, none⟩) (ib [0, 1]) := SlM.new w3 (ib [0, 1]) _ rfl _ _ _ hM3
 generalize w3.alloc (.cells #[.int .i64 0, .int .i64 1] 3) = w4 at *
 have hM4 : ∀ k ∈ [p], k < w4.heap.size := fun k hk => Nat.lt_of_lt_of_le (hM3 k hk) hx34.size
 have HBG := CBegin_any (hco3.ext hx34) ok1 hpm hM4 _ 2 [0, 1] hsl (by simp)
 rw [l_begin.1, l_begin.2.1, l_begin.2.2] at HBG
 unfold pt at HBG
 have hK4 := hK3.ext hx34
 clear hsl hx34 hco3
 refine HBG.mono ?_
 rintro e w5 ⟨rfl, hco5, hk5⟩
 have hK5 := hK4.trans hk5
 have hM5 : ∀ k ∈ [p], k < w5.heap.size := fun k hk => Nat.lt_of_lt_of_le (hM4 k hk) hk5.size
 clear HBG hk5
 go_wp2_with (with_reducible first | refine sL 35 ?_ | refine sA 35 ?_ | refine sS 35 ?_)
 refine go_on (wpList_alloc_ rfl rfl apitx_info ?_)
 go_wp2_with (with_reducible first | refine sL 35 ?_ | refine sA 35 ?_ | refine sS 35 ?_)
 refine go_on (wpList_store_last rfl rfl rfl rfl (apitx_size _ _ _) rfl (by simp [Value.oneCell']) ?_)
 intro w6 hrow6 hx6 _
 have hgp : w5.heap.size ≠ p := by have := hM5 p (by simp); omega
 have hz6 := hx6.size
 generalize w5.heap.size = g at *
 have hco6 := hco5.ext hx6
 have hK6 := hK5.ext hx6
 have hM6 : ∀ k ∈ [p], k < w6.heap.size := fun k hk => Nat.lt_of_lt_of_le (hM5 k hk) hz6
 obtain ⟨t0, t1, t2, -⟩ := row3_at hrow6
 have HR6 := Lib.hid hrow6
 have HV1 := CVote_any hco6 ok2 hpm hM6 ⟨7, 1, 1⟩ 0 true
 rw [l_vote0] at HV1
 unfold pt at HV1
 clear hx6 hco5 hrow6
 go_wp2_with fail
 refine HV1.mono ?_
 rintro e w7 ⟨v7, rfl, ho7, hco7, hk7⟩
 have hK7 := hK6.trans hk7
 have hM7 : ∀ k ∈ [p], k < w7.heap.size := fun k hk => Nat.lt_of_lt_of_le (hM6 k hk) hk7.size
 have hrow7 := hk7.heap HR6.out (by simpa using hgp)
 clear HV1 hk7 t0 t1 t2 ho7
 obtain ⟨t0, t1, t2, -⟩ := row3_at hrow7
 have HR7 := Lib.hid hrow7
 have HV2 := CVote_any hco7 ok3 hpm hM7 ⟨7, 1, 1⟩ 1 true
 rw [l_vote1] at HV2
 unfold pt at HV2
 clear hrow7
 go_wp2_with fail
 refine HV2.mono ?_
 rintro e w8 ⟨v8, rfl, ho8, hco8, hk8⟩
 have hK8 := hK7.trans hk8
 have hM8 : ∀ k ∈ [p], k < w8.heap.size := fun k hk => Nat.lt_of_lt_of_le (hM7 k hk) hk8.size
 have hrow8 := hk8.heap HR7.out (by simpa using hgp)
 clear HV2 hk8 t0 t1 t2
 obtain ⟨t0, t1, t2, -⟩ := row3_at hrow8
 have HR8 := Lib.hid hrow8
 obtain ⟨A8, c8, rfl⟩ := ho8.form
 have HA0 := CAsk_any hco8 ⟨7, 1, 1⟩ (by decide)
 rw [l_ask0] at HA0
 unfold pt at HA0
 clear hrow8
 go_wp2_with fail
 refine HA0.mono ?_
 rintro e w9 ⟨rfl, hx9⟩
 have hM9 : ∀ k ∈ [p], k < w9.heap.size := fun k hk => Nat.lt_of_lt_of_le (hM8 k hk) hx9.size
 have HRD := CRedo_any (hco8.ext hx9) ok4 hpm hM9 A8 c8 recL (ho8.bs.ext hx9) ho8.cap.1 (by decide)
 rw [l_redo1] at HRD
 unfold pt at HRD
 have hK9 := hK8.ext hx9
 have HR9 := Lib.hid (hx9.obj HR8.out)
 clear t0 t1 t2 HA0 ho8 hx9
 go_wp2_with fail
 refine HRD.mono ?_
 rintro e w10 ⟨rfl, hco10, hk10⟩
 have hK10 := hK9.trans hk10
 have hrow10 := hk10.heap HR9.out (by simpa using hgp)
 obtain ⟨t0, t1, t2, -⟩ := row3_at hrow10
 have HA1 := CAsk_any hco10 ⟨7, 1, 1⟩ (by decide)
 rw [l_ask1] at HA1
 unfold pt at HA1
 clear HRD hk10 hrow10
 go_wp2_with fail
 refine HA1.mono ?_
 rintro e w11 ⟨rfl, hx11⟩
 have HTD := CTodo_any (hco10.ext hx11) ok5
 unfold pt at HTD
 have hK11 := hK10.ext hx11
 clear HA1 hx11 t0 t1 t2
 go_wp2_with fail
 refine HTD.mono ?_
 rintro e w12 ⟨v12, rfl, ho12, hx12⟩
 obtain ⟨A12, c12, rfl⟩ := own_form ho12
 rw [l_todo]
 have HXX : Hid (Ext w w12) := Lib.hid ((hK11.ext hx12).to_ext (one_ge HSZ.out))
 clear HTD ho12 hx12
 go_wp2
 go_ret
 exact ⟨rfl, HXX.out⟩
end Go.Proofs.Ytijopcdjlpafdaa
