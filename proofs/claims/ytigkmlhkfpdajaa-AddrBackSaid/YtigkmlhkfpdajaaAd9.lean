/- The walk of AddrBack: it answers true. Conditions: the bounds named. -/
import Derived.Test.YtigkmlhkfpdajaaAd5
import Derived.Test.YtigkmlhkfpdajaaAd8
namespace Go.Proofs.Ytigkmlhkfpdajaa
open Go.RowKit
theorem formT_len {x y : List UInt8} (h : Gd x y) : (formT x y).length ≤ 6000 := by
  have h1 := h.l64
  have h2 := h.l255
  have h3 := quoteT_len x
  unfold formT
  split <;> simp only [List.length_append, List.length_cons] <;> omega
set_option maxRecDepth 20000 in
set_option maxHeartbeats 1600000 in
theorem AddrBack_any (x y : List UInt8) (s : ByteArray) (w : World) (hx : x.length ≤ 140737488355310) (hy : y.length ≤ 140737488355310) (hs : s.size ≤ 140737488355310) :
    Calls Try.prog 4 #[.agg #[.string (st x), .string (st y)], .string s] w fun e w' => e = .returned (.bool true) ∧ Ext w w' := by
  have h1 := heap_alloc_new w (.cells #[.string (st x), .string (st y)] 23 (0, 0))
  have hx0 := (Ext.refl w).alloc (.cells #[.string (st x), .string (st y)] 23)
  have HP := fun w => Print_any x y w (by omega) (by omega)
  have HPS := fun w => Parse_any s w (by omega)
  have HGD0 := fun (h : (parseT (tl s)).2.2.2 = 0) (hne : (parseT (tl s)).1 ≠ []) => parse_good (s := tl s) (p := (parseT (tl s)).2.2.1) (Prod.ext rfl (Prod.ext rfl (Prod.ext rfl h))) hne
  unfold PrSays at HP
  unfold PSays at HPS
  generalize parseT (tl s) = pr at *
  obtain ⟨px, py, pp, pe⟩ := pr
  dsimp only at HPS HGD0
  have HGD : Hid (pe = 0 → px ≠ [] → Hid (Gd px py) ∧ Hid ((formT px py).length ≤ 140737488355310)) := Lib.hid (fun a b => ⟨Lib.hid (HGD0 a b), Lib.hid (by have := formT_len (HGD0 a b); omega)⟩)
  clear HGD0
  have HPRT : Hid ((printT x y).2 = 0 → Gd x y ∧ (printT x y).1 = formT x y) := Lib.hid (fun h => print_ok (Prod.ext rfl h))
  generalize printT x y = pt at *
  obtain ⟨pta, pte⟩ := pt
  dsimp only at HP HPRT
  go_enter Try.func4, Try.ntmps4
  go_wp2_with (first | (with_reducible refine stop_alloc 23 ?_) | (with_reducible refine stop_store 23 ?_) | (with_reducible refine stop_load 23 ?_))
  generalize hw0 : w.alloc (.cells #[.string (st x), .string (st y)] 23) = w0 at *
  generalize w.heap.size = g0 at *
  clear hw0
  have HR0 := Lib.hid h1
  have HX0 := Lib.hid hx0
  clear h1 hx0
  refine go_on (wpList_load_row rfl 23 _ rfl g0 rfl 23 _ (0, 0) _ HR0.out Try.underlying23 rfl (by kernel_rfl) ?_)
  go_wp2_with fail
  refine (HP _).mono ?_
  rintro e w1 ⟨rfl, hx1⟩
  have HX1 := Lib.hid (HX0.out.trans hx1)
  have HR1 := Lib.hid (hx1.obj HR0.out)
  clear hx1 HP HR0 HX0
  by_cases hpte : pte = 0
  · subst hpte
    obtain ⟨hg, hpt⟩ := HPRT.out rfl
    have HG := Lib.hid hg
    have hlen := formT_len hg
    subst hpt
    clear hg HPRT
    have HPF := fun w => Parse_any (st (formT x y)) w (by rw [st_size]; omega)
    have HPA := fun w => Path_any (⟨#[60]⟩ ++ st (formT x y) ++ ⟨#[62, 32, 120]⟩) w (by simp [show (⟨#[60]⟩ : ByteArray) = st [60] from rfl, show (⟨#[62, 32, 120]⟩ : ByteArray) = st [62, 32, 120] from rfl, st_append, st_size]; omega)
    unfold PSays at HPF
    unfold PaSays at HPA
    rw [tl_st, parse_form HG.out] at HPF
    rw [show tl (⟨#[60]⟩ ++ st (formT x y) ++ ⟨#[62, 32, 120]⟩) = 60 :: formT x y ++ [62, 32, 120] by
      rw [show (⟨#[60]⟩ : ByteArray) = st [60] from rfl, show (⟨#[62, 32, 120]⟩ : ByteArray) = st [62, 32, 120] from rfl, st_append, st_append, tl_st]; rfl, path_form HG.out] at HPA
    dsimp only at HPF HPA
    generalize formT x y = ft at *
    go_wp2_with fail
    refine (HPF _).mono ?_
    rintro e w2 ⟨rfl, hx2⟩
    have HX2 := Lib.hid (HX1.out.trans hx2)
    have HR2 := Lib.hid (hx2.obj HR1.out)
    clear hx2 HPF
    go_wp2_with (first | (with_reducible refine stop_alloc 23 ?_) | (with_reducible refine stop_store 23 ?_) | (with_reducible refine stop_load 23 ?_))
    refine go_on (wpList_alloc_ rfl rfl addr_info ?_)
    go_wp2_with (first | (with_reducible refine stop_alloc 23 ?_) | (with_reducible refine stop_store 23 ?_) | (with_reducible refine stop_load 23 ?_))
    refine go_on (wpList_store_whole rfl rfl rfl rfl (heap_alloc_new w2 _) (by kernel_rfl) rfl (by simp [Value.oneCell']) ?_)
    intro w3 hrow hk2 hz2
    have HX3 : Hid (Ext w2 w3) := Lib.hid (((Ext.refl _).alloc _).kept hk2 (one_ge (Nat.le_refl _)))
    have HR3 := Lib.hid hrow
    have HRR3 := Lib.hid (HX3.out.obj HR2.out)
    clear hrow hk2 hz2
    generalize w2.heap.size = g3 at *
    have hcc1 : ¬ (9223372036854775807 : Int) < 1 + (ft.length : Int) := by omega
    have hcc2 : ¬ (9223372036854775807 : Int) < 1 + (ft.length : Int) + 3 := by omega
    go_wp2_with fail
    refine (HPA _).mono ?_
    rintro e w4 ⟨rfl, hx4⟩
    have HX4 := Lib.hid ((HX2.out.trans HX3.out).trans hx4)
    have HR4 := Lib.hid (hx4.obj HR3.out)
    have HRR4 := Lib.hid (hx4.obj HRR3.out)
    clear hx4 HPA
    go_wp2_with (first | (with_reducible refine stop_alloc 23 ?_) | (with_reducible refine stop_store 23 ?_) | (with_reducible refine stop_load 23 ?_))
    refine go_on (wpList_alloc_ rfl rfl addr_info ?_)
    go_wp2_with (first | (with_reducible refine stop_alloc 23 ?_) | (with_reducible refine stop_store 23 ?_) | (with_reducible refine stop_load 23 ?_))
    refine go_on (wpList_store_whole rfl rfl rfl rfl (heap_alloc_new w4 _) (by kernel_rfl) rfl (by simp [Value.oneCell']) ?_)
    intro w5 hrow hk2 hz2
    have hx5 : Ext w4 w5 := ((Ext.refl _).alloc _).kept hk2 (one_ge (Nat.le_refl _))
    have HX5 := Lib.hid (HX4.out.trans hx5)
    have HR5 := Lib.hid hrow
    have HRA5 := Lib.hid (hx5.obj HR4.out)
    have HRR5 := Lib.hid (hx5.obj HRR4.out)
    clear hrow hk2 hz2 hx5
    generalize w4.heap.size = g5 at *
    go_wp2_with (first | (with_reducible refine stop_alloc 23 ?_) | (with_reducible refine stop_store 23 ?_) | (with_reducible refine stop_load 23 ?_))
    refine go_on (wpList_load_rowG (by rfl) 23 _ rfl g3 rfl 23 _ (0, 0) _ HRA5.out Try.underlying23 rfl (by kernel_rfl) ?_)
    go_wp2_with (first | (with_reducible refine stop_alloc 23 ?_) | (with_reducible refine stop_store 23 ?_) | (with_reducible refine stop_load 23 ?_))
    refine go_on (wpList_load_rowG (by rfl) 23 _ rfl g0 rfl 23 _ (0, 0) _ HRR5.out Try.underlying23 rfl (by kernel_rfl) ?_)
    go_wp2_with (first | (with_reducible refine stop_alloc 23 ?_) | (with_reducible refine stop_store 23 ?_) | (with_reducible refine stop_load 23 ?_))
    refine go_on (wpList_load_rowG (by rfl) 23 _ rfl g5 rfl 23 _ (0, 0) _ HR5.out Try.underlying23 rfl (by kernel_rfl) ?_)
    go_wp2_with (first | (with_reducible refine stop_alloc 23 ?_) | (with_reducible refine stop_store 23 ?_) | (with_reducible refine stop_load 23 ?_))
    refine go_on (wpList_load_rowG (by rfl) 23 _ rfl g0 rfl 23 _ (0, 0) _ HRR5.out Try.underlying23 rfl (by kernel_rfl) ?_)
    go_wp2_with fail
    refine (HPS _).mono ?_
    rintro e v1 ⟨rfl, hv1⟩
    have HV1 := Lib.hid ((HX5.out).trans hv1)
    clear hv1 HPS
    go_wp2_with (first | (with_reducible refine stop_alloc 23 ?_) | (with_reducible refine stop_store 23 ?_) | (with_reducible refine stop_load 23 ?_))
    refine go_on (wpList_alloc_ rfl rfl addr_info ?_)
    go_wp2_with (first | (with_reducible refine stop_alloc 23 ?_) | (with_reducible refine stop_store 23 ?_) | (with_reducible refine stop_load 23 ?_))
    refine go_on (wpList_store_whole rfl rfl rfl rfl (heap_alloc_new v1 _) (by kernel_rfl) rfl (by simp [Value.oneCell']) ?_)
    intro v2 hrow hk2 hz2
    have HXv2 : Hid (Ext w v2) := Lib.hid (((HV1.out).alloc _).kept hk2 (one_ge (HV1.out).size))
    have HRv2 := Lib.hid hrow
    clear hrow hk2 hz2
    generalize v1.heap.size = gv2 at *
    by_cases hpe : pe = 0
    · subst hpe
      by_cases hpx : px = []
      · subst hpx
        have q0 : (([] : List UInt8) == []) = true := rfl
        obtain ⟨c0, c1, c2⟩ := row2_at HRv2.out
        go_wp2_with fail
        refine (live_any _).mono ?_
        rintro e v3 ⟨rfl, hv3⟩
        go_wp2
        go_ret
        exact ⟨rfl, HXv2.out.trans hv3⟩
      · have q0 : (px == []) = false := by simpa using hpx
        obtain ⟨c0, c1, c2⟩ := row2_at HRv2.out
        obtain ⟨H1, H2⟩ := HGD.out rfl hpx
        have HPR := fun w => Print_any px py w (by have := H1.out.l64; omega) (by have := H1.out.l255; omega)
        have HPP := fun w => Parse_any (st (formT px py)) w (by rw [st_size]; have := H2.out; omega)
        unfold PrSays at HPR
        unfold PSays at HPP
        rw [print_good H1.out] at HPR
        rw [tl_st, parse_form H1.out] at HPP
        dsimp only at HPR HPP
        generalize formT px py = ft at *
        clear hpx HGD
        go_wp2_with (first | (with_reducible refine stop_alloc 23 ?_) | (with_reducible refine stop_store 23 ?_) | (with_reducible refine stop_load 23 ?_))
        refine go_on (wpList_load_row rfl 23 _ rfl gv2 rfl 23 _ (0, 0) _ HRv2.out Try.underlying23 rfl (by kernel_rfl) ?_)
        clear c0 c1 c2
        go_wp2_with fail
        refine (HPR _).mono ?_
        rintro e v3 ⟨rfl, hv3⟩
        have HV3 := Lib.hid (HXv2.out.trans hv3)
        have HR3 := Lib.hid (hv3.obj HRv2.out)
        clear hv3
        go_wp2_with fail
        refine (HPP _).mono ?_
        rintro e v4 ⟨rfl, hv4⟩
        have HV4 := Lib.hid (HV3.out.trans hv4)
        have HR4 := Lib.hid (hv4.obj HR3.out)
        clear hv4
        go_wp2_with (first | (with_reducible refine stop_alloc 23 ?_) | (with_reducible refine stop_store 23 ?_) | (with_reducible refine stop_load 23 ?_))
        refine go_on (wpList_alloc_ rfl rfl addr_info ?_)
        go_wp2_with (first | (with_reducible refine stop_alloc 23 ?_) | (with_reducible refine stop_store 23 ?_) | (with_reducible refine stop_load 23 ?_))
        refine go_on (wpList_store_whole rfl rfl rfl rfl (heap_alloc_new v4 _) (by kernel_rfl) rfl (by simp [Value.oneCell']) ?_)
        intro v5 hrow hk2 hz2
        have HX5 : Hid (Ext v4 v5) := Lib.hid (((Ext.refl _).alloc _).kept hk2 (one_ge (Nat.le_refl _)))
        have HR5 := Lib.hid hrow
        have HRR5 := Lib.hid (HX5.out.obj HR4.out)
        clear hrow hk2 hz2
        generalize v4.heap.size = gv5 at *
        go_wp2_with (first | fail | (with_reducible refine stop_load 23 ?_))
        refine (live_any _).mono ?_
        rintro e v6 ⟨rfl, hv6⟩
        have HV6 := Lib.hid ((HV4.out.trans HX5.out).trans hv6)
        have HR6 := Lib.hid (hv6.obj HR5.out)
        have HRR6 := Lib.hid (hv6.obj HRR5.out)
        clear hv6
        go_wp2_with (first | (with_reducible refine stop_alloc 23 ?_) | (with_reducible refine stop_store 23 ?_) | (with_reducible refine stop_load 23 ?_))
        refine go_on (wpList_load_rowG (by rfl) 23 _ rfl gv5 rfl 23 _ (0, 0) _ HR6.out Try.underlying23 rfl (by kernel_rfl) ?_)
        go_wp2_with (first | (with_reducible refine stop_alloc 23 ?_) | (with_reducible refine stop_store 23 ?_) | (with_reducible refine stop_load 23 ?_))
        refine go_on (wpList_load_rowG (by rfl) 23 _ rfl gv2 rfl 23 _ (0, 0) _ HRR6.out Try.underlying23 rfl (by kernel_rfl) ?_)
        go_wp2
        go_ret
        exact ⟨by first | rfl | simp, HV6.out⟩
    · have q0 : ((pe : Int) != 0) = true := by simp; omega
      clear hpe
      go_wp2_with fail
      refine (live_any _).mono ?_
      rintro e v3 ⟨rfl, hv3⟩
      go_wp2
      go_ret
      exact ⟨rfl, HXv2.out.trans hv3⟩
  · have q0 : ((pte : Int) == 0) = false := beq_eq_false_iff_ne.2 (by omega)
    clear hpte
    go_wp2_with fail
    refine (HPS _).mono ?_
    rintro e v1 ⟨rfl, hv1⟩
    have HV1 := Lib.hid ((HX1.out).trans hv1)
    clear hv1 HPS
    go_wp2_with (first | (with_reducible refine stop_alloc 23 ?_) | (with_reducible refine stop_store 23 ?_) | (with_reducible refine stop_load 23 ?_))
    refine go_on (wpList_alloc_ rfl rfl addr_info ?_)
    go_wp2_with (first | (with_reducible refine stop_alloc 23 ?_) | (with_reducible refine stop_store 23 ?_) | (with_reducible refine stop_load 23 ?_))
    refine go_on (wpList_store_whole rfl rfl rfl rfl (heap_alloc_new v1 _) (by kernel_rfl) rfl (by simp [Value.oneCell']) ?_)
    intro v2 hrow hk2 hz2
    have HXv2 : Hid (Ext w v2) := Lib.hid (((HV1.out).alloc _).kept hk2 (one_ge (HV1.out).size))
    have HRv2 := Lib.hid hrow
    clear hrow hk2 hz2
    generalize v1.heap.size = gv2 at *
    by_cases hpe : pe = 0
    · subst hpe
      by_cases hpx : px = []
      · subst hpx
        have q0 : (([] : List UInt8) == []) = true := rfl
        obtain ⟨c0, c1, c2⟩ := row2_at HRv2.out
        go_wp2_with fail
        refine (live_any _).mono ?_
        rintro e v3 ⟨rfl, hv3⟩
        go_wp2
        go_ret
        exact ⟨rfl, HXv2.out.trans hv3⟩
      · have q0 : (px == []) = false := by simpa using hpx
        obtain ⟨c0, c1, c2⟩ := row2_at HRv2.out
        obtain ⟨H1, H2⟩ := HGD.out rfl hpx
        have HPR := fun w => Print_any px py w (by have := H1.out.l64; omega) (by have := H1.out.l255; omega)
        have HPP := fun w => Parse_any (st (formT px py)) w (by rw [st_size]; have := H2.out; omega)
        unfold PrSays at HPR
        unfold PSays at HPP
        rw [print_good H1.out] at HPR
        rw [tl_st, parse_form H1.out] at HPP
        dsimp only at HPR HPP
        generalize formT px py = ft at *
        clear hpx HGD
        go_wp2_with (first | (with_reducible refine stop_alloc 23 ?_) | (with_reducible refine stop_store 23 ?_) | (with_reducible refine stop_load 23 ?_))
        refine go_on (wpList_load_row rfl 23 _ rfl gv2 rfl 23 _ (0, 0) _ HRv2.out Try.underlying23 rfl (by kernel_rfl) ?_)
        clear c0 c1 c2
        go_wp2_with fail
        refine (HPR _).mono ?_
        rintro e v3 ⟨rfl, hv3⟩
        have HV3 := Lib.hid (HXv2.out.trans hv3)
        have HR3 := Lib.hid (hv3.obj HRv2.out)
        clear hv3
        go_wp2_with fail
        refine (HPP _).mono ?_
        rintro e v4 ⟨rfl, hv4⟩
        have HV4 := Lib.hid (HV3.out.trans hv4)
        have HR4 := Lib.hid (hv4.obj HR3.out)
        clear hv4
        go_wp2_with (first | (with_reducible refine stop_alloc 23 ?_) | (with_reducible refine stop_store 23 ?_) | (with_reducible refine stop_load 23 ?_))
        refine go_on (wpList_alloc_ rfl rfl addr_info ?_)
        go_wp2_with (first | (with_reducible refine stop_alloc 23 ?_) | (with_reducible refine stop_store 23 ?_) | (with_reducible refine stop_load 23 ?_))
        refine go_on (wpList_store_whole rfl rfl rfl rfl (heap_alloc_new v4 _) (by kernel_rfl) rfl (by simp [Value.oneCell']) ?_)
        intro v5 hrow hk2 hz2
        have HX5 : Hid (Ext v4 v5) := Lib.hid (((Ext.refl _).alloc _).kept hk2 (one_ge (Nat.le_refl _)))
        have HR5 := Lib.hid hrow
        have HRR5 := Lib.hid (HX5.out.obj HR4.out)
        clear hrow hk2 hz2
        generalize v4.heap.size = gv5 at *
        go_wp2_with (first | fail | (with_reducible refine stop_load 23 ?_))
        refine (live_any _).mono ?_
        rintro e v6 ⟨rfl, hv6⟩
        have HV6 := Lib.hid ((HV4.out.trans HX5.out).trans hv6)
        have HR6 := Lib.hid (hv6.obj HR5.out)
        have HRR6 := Lib.hid (hv6.obj HRR5.out)
        clear hv6
        go_wp2_with (first | (with_reducible refine stop_alloc 23 ?_) | (with_reducible refine stop_store 23 ?_) | (with_reducible refine stop_load 23 ?_))
        refine go_on (wpList_load_rowG (by rfl) 23 _ rfl gv5 rfl 23 _ (0, 0) _ HR6.out Try.underlying23 rfl (by kernel_rfl) ?_)
        go_wp2_with (first | (with_reducible refine stop_alloc 23 ?_) | (with_reducible refine stop_store 23 ?_) | (with_reducible refine stop_load 23 ?_))
        refine go_on (wpList_load_rowG (by rfl) 23 _ rfl gv2 rfl 23 _ (0, 0) _ HRR6.out Try.underlying23 rfl (by kernel_rfl) ?_)
        go_wp2
        go_ret
        exact ⟨by first | rfl | simp, HV6.out⟩
    · have q0 : ((pe : Int) != 0) = true := by simp; omega
      clear hpe
      go_wp2_with fail
      refine (live_any _).mono ?_
      rintro e v3 ⟨rfl, hv3⟩
      go_wp2
      go_ret
      exact ⟨rfl, HXv2.out.trans hv3⟩
end Go.Proofs.Ytigkmlhkfpdajaa
