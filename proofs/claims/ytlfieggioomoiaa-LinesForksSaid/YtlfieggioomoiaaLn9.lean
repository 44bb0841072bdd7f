/- The walks of the law's live and of the laws LinesStuffs and LinesBack: they answer true. Conditions: the lengths named. -/
import Derived.Test.YtlfieggioomoiaaLn8
import Derived.Lib.SlBytesConst
import Derived.Test.YtlfieggioomoiaaStep
namespace Go.Proofs.Ytlfieggioomoiaa
open Go.RowKit
attribute [local go_sem] pt
def lv1 : List UInt8 := [97, 98, 13]
def lv2 : List UInt8 := [97, 98, 13, 10, 46, 120, 13, 10, 46, 13, 10]
def lv3 : List UInt8 := [46, 120, 13, 10, 46, 13, 10]
theorem lv_facts : feedE [] lv1 = 0 ∧ feedL [] lv1 = lv1 ∧ lineE lv1 = 3 ∧ lineL lv1 = lv1 ∧ feedE lv1 [10, 46, 120, 13, 10, 46, 13, 10] = 0 ∧ feedL lv1 [10, 46, 120, 13, 10, 46, 13, 10] = lv2 ∧
    lineE lv2 = 0 ∧ lineS lv2 = [97, 98] ∧ lineL lv2 = lv3 ∧ unE lv3 = 0 ∧ unL lv3 = [120, 13, 10] ∧ lv3.drop (unN lv3) = [] ∧ stuffed [46, 97] = [46, 46, 97, 13, 10, 46, 13, 10] := by decide +kernel
set_option maxHeartbeats 2000000 in
set_option maxRecDepth 100000 in
theorem live_any (w : World) (hm : ML w) : Calls Try.prog 10 #[] w fun e w' => e = .returned (.bool true) ∧ Ext w w' := by
  obtain ⟨f1, f2, f3, f4, f5, f6, f7, f8, f9, f10, f11, f12, f13⟩ := lv_facts
  have kc := fun (w : World) (C : Array Value) (n c : Nat) => Lib.run_convert_bytes_const (P := Try.prog) w 25 5 C n c Try.underlying25 Try.underlying5
  have hlt := hm.lt
  go_enter Try.func10, Try.ntmps10
  go_wp2_with fail
  refine (LNew_any w).mono ?_
  rintro e w1 ⟨rfl, hx1, hL⟩
  have hL := hL [w.heap.size]
  have hp1 := hL.lt
  obtain ⟨p, hp⟩ : ∃ p, p = w.heap.size := ⟨_, rfl⟩
  rw [← hp] at hL ⊢
  have hpw : w.heap.size ≤ p := by omega
  have hpm : 0 ∉ [p] := by simp; omega
  rw [← hp] at hp1
  clear hp
  go_wp2_with fail
  have hxa := (Ext.refl w1).alloc (.cells #[.int .u8 97, .int .u8 98, .int .u8 13] 5 (3, 4))
  refine (LFeed_any _ (hL.ext hxa) (by simp) (one_lt (by simp; omega)) (by simp) _ 3 lv1 (Bs.new w1 lv1 _ rfl 5 (3, 4))).mono ?_
  rintro e w2 ⟨rfl, hk2, h2⟩
  rw [f2] at h2
  rw [f1]
  have hx2 : Ext w w2 := (hx1.trans hxa).kept hk2 (one_ge hpw)
  have hl2 := h2.lt
  clear hk2 hxa hL
  go_wp2_with fail
  refine (LLine_any _ h2 (by simp) (one_lt hl2) (by decide) (hm.ext hx2)).mono ?_
  rintro e w3 ⟨rfl, hk3, h3⟩
  rw [f4] at h3
  rw [f3]
  have hx3 : Ext w w3 := hx2.kept hk3 (one_ge hpw)
  have hl3 := h3.lt
  clear hk3 h2 hx2
  go_wp2_with fail
  have hxa := (Ext.refl w3).alloc (.cells #[.int .u8 10, .int .u8 46, .int .u8 120, .int .u8 13, .int .u8 10, .int .u8 46, .int .u8 13, .int .u8 10] 5 (8, 9))
  refine (LFeed_any _ (h3.ext hxa) (by simp) (one_lt (by simp; omega)) (by decide) _ 8 [10, 46, 120, 13, 10, 46, 13, 10] (Bs.new w3 [10, 46, 120, 13, 10, 46, 13, 10] _ rfl 5 (8, 9))).mono ?_
  rintro e w4 ⟨rfl, hk4, h4⟩
  rw [f6] at h4
  rw [f5]
  have hx4 : Ext w w4 := (hx3.trans hxa).kept hk4 (one_ge hpw)
  have hl4 := h4.lt
  clear hk4 hxa h3 hx3
  go_wp2_with fail
  refine (LLine_any _ h4 (by simp) (one_lt hl4) (by decide) (hm.ext hx4)).mono ?_
  rintro e w5 ⟨rfl, hk5, h5⟩
  rw [f9] at h5
  rw [f7, f8]
  have hx5 : Ext w w5 := hx4.kept hk5 (one_ge hpw)
  have hl5 := h5.lt
  clear hk5 h4 hx4
  go_wp2_with fail
  refine (LBody_any _ h5 (by simp) (one_lt hl5) (by decide) (hm.ext hx5)).mono ?_
  rintro e w6 ⟨B, b, rfl, ho, hk6, h6⟩
  rw [f12] at h6
  rw [f11] at ho ⊢
  rw [f10]
  have hx6 : Ext w w6 := hx5.kept hk6 (one_ge hpw)
  clear hk6 h5 hx5
  have hcv := run_str (P := Try.prog) Try.underlying25 Try.underlying5 Try.underlying9 ho.bs 3 b rfl
  have q1 : st [97, 98] = ⟨#[97, 98]⟩ := rfl
  have q2 : st [120, 13, 10] = ⟨#[120, 13, 10]⟩ := rfl
  clear ho f1 f2 f3 f4 f5 f6 f7 f8 f9 f10 f11 f12
  go_wp2_with fail
  refine (LWait_any w6 h6).mono ?_
  rintro e w7 ⟨rfl, hw7⟩
  obtain rfl := hw7
  go_wp2_with fail
  have hxa := (Ext.refl w7).alloc (.cells #[.int .u8 46, .int .u8 97] 5 (2, 3))
  refine (LStuff_any (some ⟨w7.heap.size, 0, none⟩) 2 2 [46, 97] _ (Bs.new w7 [46, 97] _ rfl 5 (2, 3)) rfl (by simp)).mono ?_
  rintro e w8 ⟨v8, rfl, ho8, hx8⟩
  rw [f13] at ho8
  obtain ⟨A8, c8, rfl⟩ := ho8.form
  have hcv8 := run_str (P := Try.prog) Try.underlying25 Try.underlying5 Try.underlying9 ho8.bs 8 c8 rfl
  have q3 : st [46, 46, 97, 13, 10, 46, 13, 10] = ⟨#[46, 46, 97, 13, 10, 46, 13, 10]⟩ := rfl
  clear ho8 f13
  go_wp2
  go_ret
  exact ⟨rfl, hx6.trans (hxa.trans hx8)⟩
set_option maxHeartbeats 2000000 in
set_option maxRecDepth 100000 in
theorem stuffs_any (A : Option Addr) (c : Nat) (l : List UInt8) (w : World) (h : Bs w A l) (hc : l.length ≤ c) (hA : A = none → c = 0) (hm : ML w) (hl : l.length ≤ 4000000000) :
    Calls Try.prog 4 #[.slice A l.length c] w (Yes w) := by
  have H1 := LUnstuff_any A l.length c l w h rfl hc hA hm hl
  have H2 := fun W (hx : Ext w W) => RUnstuff_any A l.length c l W (h.ext hx) rfl hl
  have H3 := fun W (hx : Ext w W) => LStuff_any A l.length c l W (h.ext hx) rfl hl
  have H4 := fun W (hx : Ext w W) => RStuff_any A l.length c l W (h.ext hx) rfl hl
  have H5 := fun W (hx : Ext w W) => live_any W (hm.ext hx)
  unfold UnSays at H1 H2
  clear h hm hA
  unfold Yes
  go_enter Try.func4, Try.ntmps4
  go_wp2_with fail
  refine H1.mono ?_
  rintro e w1 ⟨A1, c1, rfl, ho1, hx1⟩
  go_wp2_with fail
  refine (H2 _ hx1).mono ?_
  rintro e w2 ⟨A2, c2, rfl, ho2, hx2⟩
  have hcv1 := run_str (P := Try.prog) Try.underlying25 Try.underlying5 Try.underlying9 (ho1.bs.ext hx2) (unL l).length c1 rfl
  have hcv2 := run_str (P := Try.prog) Try.underlying25 Try.underlying5 Try.underlying9 ho2.bs (unL l).length c2 rfl
  have hx12 := hx1.trans hx2
  clear ho1 ho2 H1 H2 hx1 hx2
  generalize unL l = lu at *
  generalize unE l = le at *
  generalize unN l = ln at *
  generalize stuffed l = ls at *
  go_wp2_with fail
  have hxn : Ext w2 w2.drew := (Ext.refl w2).drew
  refine wp_region_phase (S := fun w' => Ext w2 w') 27 (by kernel_rfl) (by kernel_rfl) ?_ (fun hHeld => ?_)
  · exact hxn
  simp only [List.drop_succ_cons, List.drop_zero]
  refine name_head ?_
  intro wr0 hw0
  rw [hw0] at hHeld
  refine wpHead_ready (rs := [0]) (by kernel_rfl) (by simp) (by kernel_rfl) ?_
  refine AllHead.cons (by rfl) (fun K hK => ?_) ?_
  · refine step_callG (by rfl) (by kernel_rfl) (H5 _ (hx12.trans hHeld)) ?_
    rintro e wr0 ⟨rfl, hx5⟩
    refine ⟨_, rfl, ?_⟩
    refine hK.out _ _ ?_ (fun hHeld => ?_)
    · exact hHeld.trans hx5
    clear hK K
    try simp only [List.getElem_toArray, List.getElem_cons_zero, Act.put, List.setIfInBounds_toArray, List.set_cons_zero, List.set_cons_succ]
    refine wpHead_take (i := 1) (v := ?_) (by rfl) (by kernel_rfl) (by kernel_rfl) (by exact fun _ _ _ h => h) (Or.inl ⟨by rfl, ?_⟩) (by assumption) ?_
    rotate_left
    · intro w hSw
      first | (go_simp; done) | (go_simp; with_reducible rfl)
    simp only [List.getElem_toArray, List.getElem_cons_succ, List.getElem_cons_zero, Act.put, List.setIfInBounds_toArray, List.set_cons_zero, List.set_cons_succ]
    refine wpHead_take (i := 2) (v := ?_) (by rfl) (by kernel_rfl) (by kernel_rfl) (by exact fun _ _ _ h => h) (Or.inl ⟨by rfl, ?_⟩) (by assumption) ?_
    rotate_left
    · intro w hSw
      first | (go_simp; done) | (go_simp; with_reducible rfl)
    simp only [List.getElem_toArray, List.getElem_cons_succ, List.getElem_cons_zero, Act.put, List.setIfInBounds_toArray, List.set_cons_zero, List.set_cons_succ]
    refine wpHead_take (i := 5) (v := ?_) (by rfl) (by kernel_rfl) (by kernel_rfl) (by exact fun _ _ _ h => h) (Or.inl ⟨by rfl, ?_⟩) (by assumption) ?_
    rotate_left
    · intro w hSw
      first | (go_simp; done) | (go_simp; with_reducible rfl)
    simp only [List.getElem_toArray, List.getElem_cons_succ, List.getElem_cons_zero, Act.put, List.setIfInBounds_toArray, List.set_cons_zero, List.set_cons_succ]
    refine wpHead_ready (rs := [3]) (by kernel_rfl) (by simp) (by kernel_rfl) ?_
    refine AllHead.cons (by rfl) (fun K hK => ?_) ?_
    · refine step_callG (by rfl) (by kernel_rfl) (H3 _ (hx12.trans hHeld)) ?_
      rintro e wr3 ⟨v6, rfl, ho6, hx6⟩
      obtain ⟨A6, c6, rfl⟩ := ho6.form
      have hcv6 := run_str (P := Try.prog) Try.underlying25 Try.underlying5 Try.underlying9 ho6.bs ls.length c6 rfl
      refine ⟨_, rfl, ?_⟩
      refine hK.out _ _ ?_ (fun hHeld => ?_)
      · exact hHeld.trans hx6
      clear hK K
      try simp only [List.getElem_toArray, List.getElem_cons_succ, List.getElem_cons_zero, Act.put, List.setIfInBounds_toArray, List.set_cons_zero, List.set_cons_succ]
      refine wpHead_ready (rs := [4, 6]) (by kernel_rfl) (by simp) (by kernel_rfl) ?_
      refine AllHead.cons (by rfl) (fun K hK => ?_) ?_
      · go_simp
        refine name_world ?_
        rintro wr4 hw4
        obtain rfl := hw4.symm
        refine hK.out _ _ ?_ (fun hHeld => ?_)
        · exact hHeld
        clear hK K
        try simp only [List.getElem_toArray, List.getElem_cons_succ, List.getElem_cons_zero, Act.put, List.setIfInBounds_toArray, List.set_cons_zero, List.set_cons_succ]
        refine wpHead_ready (rs := [6]) (by kernel_rfl) (by simp) (by kernel_rfl) ?_
        refine AllHead.cons (by rfl) (fun K hK => ?_) ?_
        · refine step_callG (by rfl) (by kernel_rfl) (H4 _ (hx12.trans hHeld)) ?_
          rintro e wr6 ⟨v7, rfl, ho7, hx7⟩
          obtain ⟨A7, c7, rfl⟩ := ho7.form
          have hcv7 := run_str (P := Try.prog) Try.underlying25 Try.underlying5 Try.underlying9 ho7.bs ls.length c7 rfl
          refine ⟨_, rfl, ?_⟩
          refine hK.out _ _ ?_ (fun hHeld => ?_)
          · exact hHeld.trans hx7
          clear hK K
          try simp only [List.getElem_toArray, List.getElem_cons_succ, List.getElem_cons_zero, Act.put, List.setIfInBounds_toArray, List.set_cons_zero, List.set_cons_succ]
          refine wpHead_ready (rs := [7]) (by kernel_rfl) (by simp) (by kernel_rfl) ?_
          refine AllHead.cons (by rfl) (fun K hK => ?_) ?_
          · go_simp
            refine name_world ?_
            rintro wr7 hw4
            obtain rfl := hw4.symm
            refine hK.out _ _ ?_ (fun hHeld => ?_)
            · exact hHeld
            clear hK K
            try simp only [List.getElem_toArray, List.getElem_cons_succ, List.getElem_cons_zero, Act.put, List.setIfInBounds_toArray, List.set_cons_zero, List.set_cons_succ]
            refine wpHead_take (i := 8) (v := ?_) (by rfl) (by kernel_rfl) (by kernel_rfl) (by exact fun _ _ _ h => h) (Or.inl ⟨by rfl, ?_⟩) (by assumption) ?_
            rotate_left
            · intro w hSw
              first | (go_simp; done) | (go_simp; with_reducible rfl)
            simp only [List.getElem_toArray, List.getElem_cons_succ, List.getElem_cons_zero, Act.put, List.setIfInBounds_toArray, List.set_cons_zero, List.set_cons_succ]
            refine wpHead_take (i := 9) (v := ?_) (by rfl) (by kernel_rfl) (by kernel_rfl) (by exact fun _ _ _ h => h) (Or.inl ⟨by rfl, ?_⟩) (by assumption) ?_
            rotate_left
            · intro w hSw
              first | (go_simp; done) | (go_simp; with_reducible rfl)
            simp only [List.getElem_toArray, List.getElem_cons_succ, List.getElem_cons_zero, Act.put, List.setIfInBounds_toArray, List.set_cons_zero, List.set_cons_succ]
            refine wpHead_take (i := 10) (v := ?_) (by rfl) (by kernel_rfl) (by kernel_rfl) (by exact fun _ _ _ h => h) (Or.inl ⟨by rfl, ?_⟩) (by assumption) ?_
            rotate_left
            · intro w hSw
              first | (go_simp; done) | (go_simp; with_reducible rfl)
            simp only [List.getElem_toArray, List.getElem_cons_succ, List.getElem_cons_zero, Act.put, List.setIfInBounds_toArray, List.set_cons_zero, List.set_cons_succ]
            refine wpHead_take (i := 11) (v := ?_) (by rfl) (by kernel_rfl) (by kernel_rfl) (by exact fun _ _ _ h => h) (Or.inl ⟨by rfl, ?_⟩) (by assumption) ?_
            rotate_left
            · intro w hSw
              first | (go_simp; done) | (go_simp; with_reducible rfl)
            simp only [List.getElem_toArray, List.getElem_cons_succ, List.getElem_cons_zero, Act.put, List.setIfInBounds_toArray, List.set_cons_zero, List.set_cons_succ]
            refine wpHead_take (i := 12) (v := ?_) (by rfl) (by kernel_rfl) (by kernel_rfl) (by exact fun _ _ _ h => h) (Or.inl ⟨by rfl, ?_⟩) (by assumption) ?_
            rotate_left
            · intro w hSw
              first | (go_simp; done) | (go_simp; with_reducible rfl)
            simp only [List.getElem_toArray, List.getElem_cons_succ, List.getElem_cons_zero, Act.put, List.setIfInBounds_toArray, List.set_cons_zero, List.set_cons_succ]
            refine wpHead_take (i := 13) (v := ?_) (by rfl) (by kernel_rfl) (by kernel_rfl) (by exact fun _ _ _ h => h) (Or.inl ⟨by rfl, ?_⟩) (by assumption) ?_
            rotate_left
            · intro w hSw
              first | (go_simp; done) | (go_simp; with_reducible rfl)
            simp only [List.getElem_toArray, List.getElem_cons_succ, List.getElem_cons_zero, Act.put, List.setIfInBounds_toArray, List.set_cons_zero, List.set_cons_succ]
            refine wpHead_take (i := 14) (v := ?_) (by rfl) (by kernel_rfl) (by kernel_rfl) (by exact fun _ _ _ h => h) (Or.inl ⟨by rfl, ?_⟩) (by assumption) ?_
            rotate_left
            · intro w hSw
              first | (go_simp; done) | (go_simp; with_reducible rfl)
            simp only [List.getElem_toArray, List.getElem_cons_succ, List.getElem_cons_zero, Act.put, List.setIfInBounds_toArray, List.set_cons_zero, List.set_cons_succ]
            refine wpHead_take (i := 15) (v := ?_) (by rfl) (by kernel_rfl) (by kernel_rfl) (by exact fun _ _ _ h => h) (Or.inl ⟨by rfl, ?_⟩) (by assumption) ?_
            rotate_left
            · intro w hSw
              first | (go_simp; done) | (go_simp; with_reducible rfl)
            simp only [List.getElem_toArray, List.getElem_cons_succ, List.getElem_cons_zero, Act.put, List.setIfInBounds_toArray, List.set_cons_zero, List.set_cons_succ]
            refine wpHead_take (i := 16) (v := ?_) (by rfl) (by kernel_rfl) (by kernel_rfl) (by exact fun _ _ _ h => h) (Or.inl ⟨by rfl, ?_⟩) (by assumption) ?_
            rotate_left
            · intro w hSw
              first | (go_simp; done) | (go_simp; with_reducible rfl)
            simp only [List.getElem_toArray, List.getElem_cons_succ, List.getElem_cons_zero, Act.put, List.setIfInBounds_toArray, List.set_cons_zero, List.set_cons_succ]
            refine wpHead_take (i := 17) (v := ?_) (by rfl) (by kernel_rfl) (by kernel_rfl) (by exact fun _ _ _ h => h) (Or.inl ⟨by rfl, ?_⟩) (by assumption) ?_
            rotate_left
            · intro w hSw
              first | (go_simp; done) | (go_simp; with_reducible rfl)
            simp only [List.getElem_toArray, List.getElem_cons_succ, List.getElem_cons_zero, Act.put, List.setIfInBounds_toArray, List.set_cons_zero, List.set_cons_succ]
            refine wpHead_take (i := 18) (v := ?_) (by rfl) (by kernel_rfl) (by kernel_rfl) (by exact fun _ _ _ h => h) (Or.inl ⟨by rfl, ?_⟩) (by assumption) ?_
            rotate_left
            · intro w hSw
              first | (go_simp; done) | (go_simp; with_reducible rfl)
            simp only [List.getElem_toArray, List.getElem_cons_succ, List.getElem_cons_zero, Act.put, List.setIfInBounds_toArray, List.set_cons_zero, List.set_cons_succ]
            refine wpHead_take (i := 19) (v := ?_) (by rfl) (by kernel_rfl) (by kernel_rfl) (by exact fun _ _ _ h => h) (Or.inl ⟨by rfl, ?_⟩) (by assumption) ?_
            rotate_left
            · intro w hSw
              first | (go_simp; done) | (go_simp; with_reducible rfl)
            simp only [List.getElem_toArray, List.getElem_cons_succ, List.getElem_cons_zero, Act.put, List.setIfInBounds_toArray, List.set_cons_zero, List.set_cons_succ]
            refine wpHead_take (i := 20) (v := ?_) (by rfl) (by kernel_rfl) (by kernel_rfl) (by exact fun _ _ _ h => h) (Or.inl ⟨by rfl, ?_⟩) (by assumption) ?_
            rotate_left
            · intro w hSw
              first | (go_simp; done) | (go_simp; with_reducible rfl)
            simp only [List.getElem_toArray, List.getElem_cons_succ, List.getElem_cons_zero, Act.put, List.setIfInBounds_toArray, List.set_cons_zero, List.set_cons_succ]
            refine wpHead_take (i := 21) (v := ?_) (by rfl) (by kernel_rfl) (by kernel_rfl) (by exact fun _ _ _ h => h) (Or.inl ⟨by rfl, ?_⟩) (by assumption) ?_
            rotate_left
            · intro w hSw
              first | (go_simp; done) | (go_simp; with_reducible rfl)
            simp only [List.getElem_toArray, List.getElem_cons_succ, List.getElem_cons_zero, Act.put, List.setIfInBounds_toArray, List.set_cons_zero, List.set_cons_succ]
            refine wpHead_take (i := 22) (v := ?_) (by rfl) (by kernel_rfl) (by kernel_rfl) (by exact fun _ _ _ h => h) (Or.inl ⟨by rfl, ?_⟩) (by assumption) ?_
            rotate_left
            · intro w hSw
              first | (go_simp; done) | (go_simp; with_reducible rfl)
            simp only [List.getElem_toArray, List.getElem_cons_succ, List.getElem_cons_zero, Act.put, List.setIfInBounds_toArray, List.set_cons_zero, List.set_cons_succ]
            refine wpHead_take (i := 23) (v := ?_) (by rfl) (by kernel_rfl) (by kernel_rfl) (by exact fun _ _ _ h => h) (Or.inl ⟨by rfl, ?_⟩) (by assumption) ?_
            rotate_left
            · intro w hSw
              first | (go_simp; done) | (go_simp; with_reducible rfl)
            simp only [List.getElem_toArray, List.getElem_cons_succ, List.getElem_cons_zero, Act.put, List.setIfInBounds_toArray, List.set_cons_zero, List.set_cons_succ]
            refine wpHead_take (i := 24) (v := ?_) (by rfl) (by kernel_rfl) (by kernel_rfl) (by exact fun _ _ _ h => h) (Or.inl ⟨by rfl, ?_⟩) (by assumption) ?_
            rotate_left
            · intro w hSw
              first | (go_simp; done) | (go_simp; with_reducible rfl)
            simp only [List.getElem_toArray, List.getElem_cons_succ, List.getElem_cons_zero, Act.put, List.setIfInBounds_toArray, List.set_cons_zero, List.set_cons_succ]
            refine wpHead_take (i := 25) (v := ?_) (by rfl) (by kernel_rfl) (by kernel_rfl) (by exact fun _ _ _ h => h) (Or.inl ⟨by rfl, ?_⟩) (by assumption) ?_
            rotate_left
            · intro w hSw
              first | (go_simp; done) | (go_simp; with_reducible rfl)
            simp only [List.getElem_toArray, List.getElem_cons_succ, List.getElem_cons_zero, Act.put, List.setIfInBounds_toArray, List.set_cons_zero, List.set_cons_succ]
            refine wpHead_take (i := 26) (v := ?_) (by rfl) (by kernel_rfl) (by kernel_rfl) (by exact fun _ _ _ h => h) (Or.inl ⟨by rfl, ?_⟩) (by assumption) ?_
            rotate_left
            · intro w hSw
              first | (go_simp; done) | (go_simp; with_reducible rfl)
            simp only [List.getElem_toArray, List.getElem_cons_succ, List.getElem_cons_zero, Act.put, List.setIfInBounds_toArray, List.set_cons_zero, List.set_cons_succ]
            refine wpHead_done (by kernel_rfl) ?_
            go_wp2
            go_ret
            exact ⟨rfl, hx12.trans hHeld⟩
          exact AllHead.nil
        exact AllHead.nil
      refine AllHead.cons (by rfl) (fun K hK => ?_) ?_
      · refine step_callG (by rfl) (by kernel_rfl) (H4 _ (hx12.trans hHeld)) ?_
        rintro e wr6 ⟨v7, rfl, ho7, hx7⟩
        obtain ⟨A7, c7, rfl⟩ := ho7.form
        have hcv7 := run_str (P := Try.prog) Try.underlying25 Try.underlying5 Try.underlying9 ho7.bs ls.length c7 rfl
        refine ⟨_, rfl, ?_⟩
        refine hK.out _ _ ?_ (fun hHeld => ?_)
        · exact hHeld.trans hx7
        clear hK K
        try simp only [List.getElem_toArray, List.getElem_cons_succ, List.getElem_cons_zero, Act.put, List.setIfInBounds_toArray, List.set_cons_zero, List.set_cons_succ]
        refine wpHead_ready (rs := [4, 7]) (by kernel_rfl) (by simp) (by kernel_rfl) ?_
        refine AllHead.cons (by rfl) (fun K hK => ?_) ?_
        · go_simp
          refine name_world ?_
          rintro wr4 hw4
          obtain rfl := hw4.symm
          refine hK.out _ _ ?_ (fun hHeld => ?_)
          · exact hHeld
          clear hK K
          try simp only [List.getElem_toArray, List.getElem_cons_succ, List.getElem_cons_zero, Act.put, List.setIfInBounds_toArray, List.set_cons_zero, List.set_cons_succ]
          refine wpHead_ready (rs := [7]) (by kernel_rfl) (by simp) (by kernel_rfl) ?_
          refine AllHead.cons (by rfl) (fun K hK => ?_) ?_
          · go_simp
            refine name_world ?_
            rintro wr7 hw4
            obtain rfl := hw4.symm
            refine hK.out _ _ ?_ (fun hHeld => ?_)
            · exact hHeld
            clear hK K
            try simp only [List.getElem_toArray, List.getElem_cons_succ, List.getElem_cons_zero, Act.put, List.setIfInBounds_toArray, List.set_cons_zero, List.set_cons_succ]
            refine wpHead_take (i := 8) (v := ?_) (by rfl) (by kernel_rfl) (by kernel_rfl) (by exact fun _ _ _ h => h) (Or.inl ⟨by rfl, ?_⟩) (by assumption) ?_
            rotate_left
            · intro w hSw
              first | (go_simp; done) | (go_simp; with_reducible rfl)
            simp only [List.getElem_toArray, List.getElem_cons_succ, List.getElem_cons_zero, Act.put, List.setIfInBounds_toArray, List.set_cons_zero, List.set_cons_succ]
            refine wpHead_take (i := 9) (v := ?_) (by rfl) (by kernel_rfl) (by kernel_rfl) (by exact fun _ _ _ h => h) (Or.inl ⟨by rfl, ?_⟩) (by assumption) ?_
            rotate_left
            · intro w hSw
              first | (go_simp; done) | (go_simp; with_reducible rfl)
            simp only [List.getElem_toArray, List.getElem_cons_succ, List.getElem_cons_zero, Act.put, List.setIfInBounds_toArray, List.set_cons_zero, List.set_cons_succ]
            refine wpHead_take (i := 10) (v := ?_) (by rfl) (by kernel_rfl) (by kernel_rfl) (by exact fun _ _ _ h => h) (Or.inl ⟨by rfl, ?_⟩) (by assumption) ?_
            rotate_left
            · intro w hSw
              first | (go_simp; done) | (go_simp; with_reducible rfl)
            simp only [List.getElem_toArray, List.getElem_cons_succ, List.getElem_cons_zero, Act.put, List.setIfInBounds_toArray, List.set_cons_zero, List.set_cons_succ]
            refine wpHead_take (i := 11) (v := ?_) (by rfl) (by kernel_rfl) (by kernel_rfl) (by exact fun _ _ _ h => h) (Or.inl ⟨by rfl, ?_⟩) (by assumption) ?_
            rotate_left
            · intro w hSw
              first | (go_simp; done) | (go_simp; with_reducible rfl)
            simp only [List.getElem_toArray, List.getElem_cons_succ, List.getElem_cons_zero, Act.put, List.setIfInBounds_toArray, List.set_cons_zero, List.set_cons_succ]
            refine wpHead_take (i := 12) (v := ?_) (by rfl) (by kernel_rfl) (by kernel_rfl) (by exact fun _ _ _ h => h) (Or.inl ⟨by rfl, ?_⟩) (by assumption) ?_
            rotate_left
            · intro w hSw
              first | (go_simp; done) | (go_simp; with_reducible rfl)
            simp only [List.getElem_toArray, List.getElem_cons_succ, List.getElem_cons_zero, Act.put, List.setIfInBounds_toArray, List.set_cons_zero, List.set_cons_succ]
            refine wpHead_take (i := 13) (v := ?_) (by rfl) (by kernel_rfl) (by kernel_rfl) (by exact fun _ _ _ h => h) (Or.inl ⟨by rfl, ?_⟩) (by assumption) ?_
            rotate_left
            · intro w hSw
              first | (go_simp; done) | (go_simp; with_reducible rfl)
            simp only [List.getElem_toArray, List.getElem_cons_succ, List.getElem_cons_zero, Act.put, List.setIfInBounds_toArray, List.set_cons_zero, List.set_cons_succ]
            refine wpHead_take (i := 14) (v := ?_) (by rfl) (by kernel_rfl) (by kernel_rfl) (by exact fun _ _ _ h => h) (Or.inl ⟨by rfl, ?_⟩) (by assumption) ?_
            rotate_left
            · intro w hSw
              first | (go_simp; done) | (go_simp; with_reducible rfl)
            simp only [List.getElem_toArray, List.getElem_cons_succ, List.getElem_cons_zero, Act.put, List.setIfInBounds_toArray, List.set_cons_zero, List.set_cons_succ]
            refine wpHead_take (i := 15) (v := ?_) (by rfl) (by kernel_rfl) (by kernel_rfl) (by exact fun _ _ _ h => h) (Or.inl ⟨by rfl, ?_⟩) (by assumption) ?_
            rotate_left
            · intro w hSw
              first | (go_simp; done) | (go_simp; with_reducible rfl)
            simp only [List.getElem_toArray, List.getElem_cons_succ, List.getElem_cons_zero, Act.put, List.setIfInBounds_toArray, List.set_cons_zero, List.set_cons_succ]
            refine wpHead_take (i := 16) (v := ?_) (by rfl) (by kernel_rfl) (by kernel_rfl) (by exact fun _ _ _ h => h) (Or.inl ⟨by rfl, ?_⟩) (by assumption) ?_
            rotate_left
            · intro w hSw
              first | (go_simp; done) | (go_simp; with_reducible rfl)
            simp only [List.getElem_toArray, List.getElem_cons_succ, List.getElem_cons_zero, Act.put, List.setIfInBounds_toArray, List.set_cons_zero, List.set_cons_succ]
            refine wpHead_take (i := 17) (v := ?_) (by rfl) (by kernel_rfl) (by kernel_rfl) (by exact fun _ _ _ h => h) (Or.inl ⟨by rfl, ?_⟩) (by assumption) ?_
            rotate_left
            · intro w hSw
              first | (go_simp; done) | (go_simp; with_reducible rfl)
            simp only [List.getElem_toArray, List.getElem_cons_succ, List.getElem_cons_zero, Act.put, List.setIfInBounds_toArray, List.set_cons_zero, List.set_cons_succ]
            refine wpHead_take (i := 18) (v := ?_) (by rfl) (by kernel_rfl) (by kernel_rfl) (by exact fun _ _ _ h => h) (Or.inl ⟨by rfl, ?_⟩) (by assumption) ?_
            rotate_left
            · intro w hSw
              first | (go_simp; done) | (go_simp; with_reducible rfl)
            simp only [List.getElem_toArray, List.getElem_cons_succ, List.getElem_cons_zero, Act.put, List.setIfInBounds_toArray, List.set_cons_zero, List.set_cons_succ]
            refine wpHead_take (i := 19) (v := ?_) (by rfl) (by kernel_rfl) (by kernel_rfl) (by exact fun _ _ _ h => h) (Or.inl ⟨by rfl, ?_⟩) (by assumption) ?_
            rotate_left
            · intro w hSw
              first | (go_simp; done) | (go_simp; with_reducible rfl)
            simp only [List.getElem_toArray, List.getElem_cons_succ, List.getElem_cons_zero, Act.put, List.setIfInBounds_toArray, List.set_cons_zero, List.set_cons_succ]
            refine wpHead_take (i := 20) (v := ?_) (by rfl) (by kernel_rfl) (by kernel_rfl) (by exact fun _ _ _ h => h) (Or.inl ⟨by rfl, ?_⟩) (by assumption) ?_
            rotate_left
            · intro w hSw
              first | (go_simp; done) | (go_simp; with_reducible rfl)
            simp only [List.getElem_toArray, List.getElem_cons_succ, List.getElem_cons_zero, Act.put, List.setIfInBounds_toArray, List.set_cons_zero, List.set_cons_succ]
            refine wpHead_take (i := 21) (v := ?_) (by rfl) (by kernel_rfl) (by kernel_rfl) (by exact fun _ _ _ h => h) (Or.inl ⟨by rfl, ?_⟩) (by assumption) ?_
            rotate_left
            · intro w hSw
              first | (go_simp; done) | (go_simp; with_reducible rfl)
            simp only [List.getElem_toArray, List.getElem_cons_succ, List.getElem_cons_zero, Act.put, List.setIfInBounds_toArray, List.set_cons_zero, List.set_cons_succ]
            refine wpHead_take (i := 22) (v := ?_) (by rfl) (by kernel_rfl) (by kernel_rfl) (by exact fun _ _ _ h => h) (Or.inl ⟨by rfl, ?_⟩) (by assumption) ?_
            rotate_left
            · intro w hSw
              first | (go_simp; done) | (go_simp; with_reducible rfl)
            simp only [List.getElem_toArray, List.getElem_cons_succ, List.getElem_cons_zero, Act.put, List.setIfInBounds_toArray, List.set_cons_zero, List.set_cons_succ]
            refine wpHead_take (i := 23) (v := ?_) (by rfl) (by kernel_rfl) (by kernel_rfl) (by exact fun _ _ _ h => h) (Or.inl ⟨by rfl, ?_⟩) (by assumption) ?_
            rotate_left
            · intro w hSw
              first | (go_simp; done) | (go_simp; with_reducible rfl)
            simp only [List.getElem_toArray, List.getElem_cons_succ, List.getElem_cons_zero, Act.put, List.setIfInBounds_toArray, List.set_cons_zero, List.set_cons_succ]
            refine wpHead_take (i := 24) (v := ?_) (by rfl) (by kernel_rfl) (by kernel_rfl) (by exact fun _ _ _ h => h) (Or.inl ⟨by rfl, ?_⟩) (by assumption) ?_
            rotate_left
            · intro w hSw
              first | (go_simp; done) | (go_simp; with_reducible rfl)
            simp only [List.getElem_toArray, List.getElem_cons_succ, List.getElem_cons_zero, Act.put, List.setIfInBounds_toArray, List.set_cons_zero, List.set_cons_succ]
            refine wpHead_take (i := 25) (v := ?_) (by rfl) (by kernel_rfl) (by kernel_rfl) (by exact fun _ _ _ h => h) (Or.inl ⟨by rfl, ?_⟩) (by assumption) ?_
            rotate_left
            · intro w hSw
              first | (go_simp; done) | (go_simp; with_reducible rfl)
            simp only [List.getElem_toArray, List.getElem_cons_succ, List.getElem_cons_zero, Act.put, List.setIfInBounds_toArray, List.set_cons_zero, List.set_cons_succ]
            refine wpHead_take (i := 26) (v := ?_) (by rfl) (by kernel_rfl) (by kernel_rfl) (by exact fun _ _ _ h => h) (Or.inl ⟨by rfl, ?_⟩) (by assumption) ?_
            rotate_left
            · intro w hSw
              first | (go_simp; done) | (go_simp; with_reducible rfl)
            simp only [List.getElem_toArray, List.getElem_cons_succ, List.getElem_cons_zero, Act.put, List.setIfInBounds_toArray, List.set_cons_zero, List.set_cons_succ]
            refine wpHead_done (by kernel_rfl) ?_
            go_wp2
            go_ret
            exact ⟨rfl, hx12.trans hHeld⟩
          exact AllHead.nil
        refine AllHead.cons (by rfl) (fun K hK => ?_) ?_
        · go_simp
          refine name_world ?_
          rintro wr7 hw4
          obtain rfl := hw4.symm
          refine hK.out _ _ ?_ (fun hHeld => ?_)
          · exact hHeld
          clear hK K
          try simp only [List.getElem_toArray, List.getElem_cons_succ, List.getElem_cons_zero, Act.put, List.setIfInBounds_toArray, List.set_cons_zero, List.set_cons_succ]
          refine wpHead_ready (rs := [4]) (by kernel_rfl) (by simp) (by kernel_rfl) ?_
          refine AllHead.cons (by rfl) (fun K hK => ?_) ?_
          · go_simp
            refine name_world ?_
            rintro wr4 hw4
            obtain rfl := hw4.symm
            refine hK.out _ _ ?_ (fun hHeld => ?_)
            · exact hHeld
            clear hK K
            try simp only [List.getElem_toArray, List.getElem_cons_succ, List.getElem_cons_zero, Act.put, List.setIfInBounds_toArray, List.set_cons_zero, List.set_cons_succ]
            refine wpHead_take (i := 8) (v := ?_) (by rfl) (by kernel_rfl) (by kernel_rfl) (by exact fun _ _ _ h => h) (Or.inl ⟨by rfl, ?_⟩) (by assumption) ?_
            rotate_left
            · intro w hSw
              first | (go_simp; done) | (go_simp; with_reducible rfl)
            simp only [List.getElem_toArray, List.getElem_cons_succ, List.getElem_cons_zero, Act.put, List.setIfInBounds_toArray, List.set_cons_zero, List.set_cons_succ]
            refine wpHead_take (i := 9) (v := ?_) (by rfl) (by kernel_rfl) (by kernel_rfl) (by exact fun _ _ _ h => h) (Or.inl ⟨by rfl, ?_⟩) (by assumption) ?_
            rotate_left
            · intro w hSw
              first | (go_simp; done) | (go_simp; with_reducible rfl)
            simp only [List.getElem_toArray, List.getElem_cons_succ, List.getElem_cons_zero, Act.put, List.setIfInBounds_toArray, List.set_cons_zero, List.set_cons_succ]
            refine wpHead_take (i := 10) (v := ?_) (by rfl) (by kernel_rfl) (by kernel_rfl) (by exact fun _ _ _ h => h) (Or.inl ⟨by rfl, ?_⟩) (by assumption) ?_
            rotate_left
            · intro w hSw
              first | (go_simp; done) | (go_simp; with_reducible rfl)
            simp only [List.getElem_toArray, List.getElem_cons_succ, List.getElem_cons_zero, Act.put, List.setIfInBounds_toArray, List.set_cons_zero, List.set_cons_succ]
            refine wpHead_take (i := 11) (v := ?_) (by rfl) (by kernel_rfl) (by kernel_rfl) (by exact fun _ _ _ h => h) (Or.inl ⟨by rfl, ?_⟩) (by assumption) ?_
            rotate_left
            · intro w hSw
              first | (go_simp; done) | (go_simp; with_reducible rfl)
            simp only [List.getElem_toArray, List.getElem_cons_succ, List.getElem_cons_zero, Act.put, List.setIfInBounds_toArray, List.set_cons_zero, List.set_cons_succ]
            refine wpHead_take (i := 12) (v := ?_) (by rfl) (by kernel_rfl) (by kernel_rfl) (by exact fun _ _ _ h => h) (Or.inl ⟨by rfl, ?_⟩) (by assumption) ?_
            rotate_left
            · intro w hSw
              first | (go_simp; done) | (go_simp; with_reducible rfl)
            simp only [List.getElem_toArray, List.getElem_cons_succ, List.getElem_cons_zero, Act.put, List.setIfInBounds_toArray, List.set_cons_zero, List.set_cons_succ]
            refine wpHead_take (i := 13) (v := ?_) (by rfl) (by kernel_rfl) (by kernel_rfl) (by exact fun _ _ _ h => h) (Or.inl ⟨by rfl, ?_⟩) (by assumption) ?_
            rotate_left
            · intro w hSw
              first | (go_simp; done) | (go_simp; with_reducible rfl)
            simp only [List.getElem_toArray, List.getElem_cons_succ, List.getElem_cons_zero, Act.put, List.setIfInBounds_toArray, List.set_cons_zero, List.set_cons_succ]
            refine wpHead_take (i := 14) (v := ?_) (by rfl) (by kernel_rfl) (by kernel_rfl) (by exact fun _ _ _ h => h) (Or.inl ⟨by rfl, ?_⟩) (by assumption) ?_
            rotate_left
            · intro w hSw
              first | (go_simp; done) | (go_simp; with_reducible rfl)
            simp only [List.getElem_toArray, List.getElem_cons_succ, List.getElem_cons_zero, Act.put, List.setIfInBounds_toArray, List.set_cons_zero, List.set_cons_succ]
            refine wpHead_take (i := 15) (v := ?_) (by rfl) (by kernel_rfl) (by kernel_rfl) (by exact fun _ _ _ h => h) (Or.inl ⟨by rfl, ?_⟩) (by assumption) ?_
            rotate_left
            · intro w hSw
              first | (go_simp; done) | (go_simp; with_reducible rfl)
            simp only [List.getElem_toArray, List.getElem_cons_succ, List.getElem_cons_zero, Act.put, List.setIfInBounds_toArray, List.set_cons_zero, List.set_cons_succ]
            refine wpHead_take (i := 16) (v := ?_) (by rfl) (by kernel_rfl) (by kernel_rfl) (by exact fun _ _ _ h => h) (Or.inl ⟨by rfl, ?_⟩) (by assumption) ?_
            rotate_left
            · intro w hSw
              first | (go_simp; done) | (go_simp; with_reducible rfl)
            simp only [List.getElem_toArray, List.getElem_cons_succ, List.getElem_cons_zero, Act.put, List.setIfInBounds_toArray, List.set_cons_zero, List.set_cons_succ]
            refine wpHead_take (i := 17) (v := ?_) (by rfl) (by kernel_rfl) (by kernel_rfl) (by exact fun _ _ _ h => h) (Or.inl ⟨by rfl, ?_⟩) (by assumption) ?_
            rotate_left
            · intro w hSw
              first | (go_simp; done) | (go_simp; with_reducible rfl)
            simp only [List.getElem_toArray, List.getElem_cons_succ, List.getElem_cons_zero, Act.put, List.setIfInBounds_toArray, List.set_cons_zero, List.set_cons_succ]
            refine wpHead_take (i := 18) (v := ?_) (by rfl) (by kernel_rfl) (by kernel_rfl) (by exact fun _ _ _ h => h) (Or.inl ⟨by rfl, ?_⟩) (by assumption) ?_
            rotate_left
            · intro w hSw
              first | (go_simp; done) | (go_simp; with_reducible rfl)
            simp only [List.getElem_toArray, List.getElem_cons_succ, List.getElem_cons_zero, Act.put, List.setIfInBounds_toArray, List.set_cons_zero, List.set_cons_succ]
            refine wpHead_take (i := 19) (v := ?_) (by rfl) (by kernel_rfl) (by kernel_rfl) (by exact fun _ _ _ h => h) (Or.inl ⟨by rfl, ?_⟩) (by assumption) ?_
            rotate_left
            · intro w hSw
              first | (go_simp; done) | (go_simp; with_reducible rfl)
            simp only [List.getElem_toArray, List.getElem_cons_succ, List.getElem_cons_zero, Act.put, List.setIfInBounds_toArray, List.set_cons_zero, List.set_cons_succ]
            refine wpHead_take (i := 20) (v := ?_) (by rfl) (by kernel_rfl) (by kernel_rfl) (by exact fun _ _ _ h => h) (Or.inl ⟨by rfl, ?_⟩) (by assumption) ?_
            rotate_left
            · intro w hSw
              first | (go_simp; done) | (go_simp; with_reducible rfl)
            simp only [List.getElem_toArray, List.getElem_cons_succ, List.getElem_cons_zero, Act.put, List.setIfInBounds_toArray, List.set_cons_zero, List.set_cons_succ]
            refine wpHead_take (i := 21) (v := ?_) (by rfl) (by kernel_rfl) (by kernel_rfl) (by exact fun _ _ _ h => h) (Or.inl ⟨by rfl, ?_⟩) (by assumption) ?_
            rotate_left
            · intro w hSw
              first | (go_simp; done) | (go_simp; with_reducible rfl)
            simp only [List.getElem_toArray, List.getElem_cons_succ, List.getElem_cons_zero, Act.put, List.setIfInBounds_toArray, List.set_cons_zero, List.set_cons_succ]
            refine wpHead_take (i := 22) (v := ?_) (by rfl) (by kernel_rfl) (by kernel_rfl) (by exact fun _ _ _ h => h) (Or.inl ⟨by rfl, ?_⟩) (by assumption) ?_
            rotate_left
            · intro w hSw
              first | (go_simp; done) | (go_simp; with_reducible rfl)
            simp only [List.getElem_toArray, List.getElem_cons_succ, List.getElem_cons_zero, Act.put, List.setIfInBounds_toArray, List.set_cons_zero, List.set_cons_succ]
            refine wpHead_take (i := 23) (v := ?_) (by rfl) (by kernel_rfl) (by kernel_rfl) (by exact fun _ _ _ h => h) (Or.inl ⟨by rfl, ?_⟩) (by assumption) ?_
            rotate_left
            · intro w hSw
              first | (go_simp; done) | (go_simp; with_reducible rfl)
            simp only [List.getElem_toArray, List.getElem_cons_succ, List.getElem_cons_zero, Act.put, List.setIfInBounds_toArray, List.set_cons_zero, List.set_cons_succ]
            refine wpHead_take (i := 24) (v := ?_) (by rfl) (by kernel_rfl) (by kernel_rfl) (by exact fun _ _ _ h => h) (Or.inl ⟨by rfl, ?_⟩) (by assumption) ?_
            rotate_left
            · intro w hSw
              first | (go_simp; done) | (go_simp; with_reducible rfl)
            simp only [List.getElem_toArray, List.getElem_cons_succ, List.getElem_cons_zero, Act.put, List.setIfInBounds_toArray, List.set_cons_zero, List.set_cons_succ]
            refine wpHead_take (i := 25) (v := ?_) (by rfl) (by kernel_rfl) (by kernel_rfl) (by exact fun _ _ _ h => h) (Or.inl ⟨by rfl, ?_⟩) (by assumption) ?_
            rotate_left
            · intro w hSw
              first | (go_simp; done) | (go_simp; with_reducible rfl)
            simp only [List.getElem_toArray, List.getElem_cons_succ, List.getElem_cons_zero, Act.put, List.setIfInBounds_toArray, List.set_cons_zero, List.set_cons_succ]
            refine wpHead_take (i := 26) (v := ?_) (by rfl) (by kernel_rfl) (by kernel_rfl) (by exact fun _ _ _ h => h) (Or.inl ⟨by rfl, ?_⟩) (by assumption) ?_
            rotate_left
            · intro w hSw
              first | (go_simp; done) | (go_simp; with_reducible rfl)
            simp only [List.getElem_toArray, List.getElem_cons_succ, List.getElem_cons_zero, Act.put, List.setIfInBounds_toArray, List.set_cons_zero, List.set_cons_succ]
            refine wpHead_done (by kernel_rfl) ?_
            go_wp2
            go_ret
            exact ⟨rfl, hx12.trans hHeld⟩
          exact AllHead.nil
        exact AllHead.nil
      exact AllHead.nil
    exact AllHead.nil
  exact AllHead.nil
theorem ext_st (l : List UInt8) (a b : Nat) : (st l).extract a b = st ((l.take b).drop a) := by
  apply ByteArray.ext
  simp only [st, ByteArray.data_extract]
  apply Array.toList_inj.1
  simp [List.drop_take]
theorem beg_len0 : beg [] 0 = true := rfl
/-- what stands behind a body that has no line's end at its end -/
theorem whole_eq {l : List UInt8} (h : beg l l.length = true) : whole l = l := by unfold whole; rw [if_pos h]; simp
theorem whole_ne {l : List UInt8} (h : beg l l.length = false) : whole l = l ++ [13, 10] := by unfold whole; rw [if_neg (by simp [h])]
theorem tail_ends {l : List UInt8} (h : 2 ≤ l.length) : (l.drop (l.length - 2) = [13, 10]) ↔ endsB l (l.length - 2) = true := by
  have e : l.drop (l.length - 2) = [l[l.length - 2], l[l.length - 1]] := by
    rw [List.drop_eq_getElem_cons (by omega), List.drop_eq_getElem_cons (by omega), List.drop_of_length_le (by omega)]
    simp [show l.length - 2 + 1 = l.length - 1 by omega]
  rw [e, ends_iff, List.getElem?_eq_getElem (by omega), List.getElem?_eq_getElem (by omega)]
  simp [show l.length - 2 + 1 = l.length - 1 by omega]
set_option maxHeartbeats 4000000 in
set_option maxRecDepth 100000 in
theorem back_any (A A' : Option Addr) (c c' : Nat) (l q : List UInt8) (w : World) (h : Bs w A l) (h' : Bs w A' q) (hm : ML w) (hl : l.length ≤ 1000000000) (hq : q.length ≤ 1000000000) :
    Calls Try.prog 5 #[.slice A l.length c, .slice A' q.length c'] w (Yes w) := by
  have H1 := LStuff_any A l.length c l w h rfl (by omega)
  have hsl : (stuffed l).length ≤ 2 * l.length + 5 := by
    have := stuffTo_le l l.length
    unfold stuffed
    split <;> simp <;> omega
  obtain ⟨u1, u2, u3⟩ := un_stuffed l q
  have HQ := Lib.hid h'
  have HB := Lib.hid h
  have HU := fun W (hx : Ext w W) A c n (hb : Bs W A (stuffed l ++ q)) (hn : n = (stuffed l ++ q).length) hc hA => LUnstuff_any A n c (stuffed l ++ q) W hb hn hc hA (hm.ext hx) (by simp; omega)
  unfold UnSays at HU
  rw [u1, u2, u3] at HU
  have H5 := fun W (hx : Ext w W) => live_any W (hm.ext hx)
  have hcq := run_str (P := Try.prog) Try.underlying25 Try.underlying5 Try.underlying9 h l.length c rfl
  have HW : Hid (whole l = if beg l l.length = true then l else l ++ [13, 10]) := Lib.hid (by unfold whole; split <;> simp)
  clear u1 u2 u3 h h' hm
  have HSL := Lib.hid hsl
  generalize stuffed l = s at *
  unfold Yes
  go_enter Try.func5, Try.ntmps5
  go_wp2_with fail
  refine H1.mono ?_
  rintro e w1 ⟨v1, rfl, ho1, hx1⟩
  obtain ⟨A1, c1, rfl⟩ := ho1.form
  have hem := Own.empty w1 w1.heap.size (Nat.le_refl _)
  have hxe := (Ext.refl w1).alloc (.cells #[] 5)
  clear H1
  go_wp2_with (at_builtin; refine unstop ?_)
  refine go_on (wpList_appB bytesTc hem (ho1.bs.ext hxe) rfl rfl rfl rfl rfl (by simp; omega) (by simp) ?_)
  intro v2 w2 ho2 hg2 hor2
  simp only [List.nil_append] at ho2
  have hx2 : Ext w1 w2 := Ext.own hxe hem (Nat.le_refl _) hg2
  have hx12 := hx1.trans hx2
  clear hem hg2 hor2 hxe ho1
  go_wp2_with (at_builtin; refine unstop ?_)
  refine go_on (wpList_appB bytesTc ho2 (HQ.out.ext hx12) rfl rfl rfl rfl rfl (by omega) hx2.size ?_)
  intro v3 w3 ho3 hg3 hor3
  have hx3 : Ext w1 w3 := Ext.own hx2 ho2 (Nat.le_refl _) hg3
  have hx13 := hx1.trans hx3
  have f3 := ho3.form
  rw [List.length_append] at f3
  obtain ⟨A3, c3, rfl⟩ := f3
  have HUU := HU w3 hx13 A3 c3 (s.length + q.length) ho3.bs (by simp) ho3.cap.1 (own_nil ho3)
  clear hg3 hor3 ho3 ho2 HU
  go_wp2_with fail
  refine HUU.mono ?_
  rintro e w4 ⟨A4, c4, rfl, ho4, hx4⟩
  have hx14 := hx13.trans hx4
  have hcv := run_str (P := Try.prog) Try.underlying25 Try.underlying5 Try.underlying9 ho4.bs (whole l).length c4 rfl
  clear ho4 HUU
  have hsl2 : (s.length : Int) ≤ 3000000000 := by omega
  cases hb : beg l l.length with
  | true =>
    have hw : whole l = l := by rw [HW.out, hb]; rfl
    rw [hw] at hcv ⊢
    clear hw
    by_cases h0 : l.length = 0
    · obtain rfl := List.eq_nil_of_length_eq_zero h0
      clear hb h0
      simp only [List.length_nil] at hcq hcv
      go_wp2_with fail
      refine (H5 _ hx14).mono ?_
      rintro e w5 ⟨rfl, hx5⟩
      go_wp2
      go_ret
      exact ⟨rfl, hx14.trans hx5⟩
    · obtain ⟨h2, hE⟩ := (beg_pos (by omega)).1 hb
      have ht := (tail_ends h2).2 hE
      have hgt : (0 : Int) < (l.length : Int) := by omega
      have hge : (2 : Int) ≤ (l.length : Int) := by omega
      have hex : (st l).extract (l.length - 2) l.length = st [13, 10] := by rw [ext_st, List.take_length, ht]
      have q1 : (⟨#[13, 10]⟩ : ByteArray) = st [13, 10] := rfl
      clear hb hE ht h0
      go_wp2_with fail
      refine (H5 _ hx14).mono ?_
      rintro e w5 ⟨rfl, hx5⟩
      go_wp2
      go_ret
      exact ⟨rfl, hx14.trans hx5⟩
  | false =>
    have hw : whole l = l ++ [13, 10] := by rw [HW.out, hb]; rfl
    have e2 : (l ++ ([13, 10] : List UInt8)).length = l.length + 2 := by simp
    rw [hw, e2] at hcv
    rw [hw]
    clear hw e2
    have h0 : 0 < l.length := by
      rcases Nat.eq_zero_or_pos l.length with h | h
      · rw [h] at hb; cases hb
      · exact h
    have hgt : (0 : Int) < (l.length : Int) := by omega
    have q1 : (⟨#[13, 10]⟩ : ByteArray) = st [13, 10] := rfl
    by_cases h2 : 2 ≤ l.length
    · have hge : (2 : Int) ≤ (l.length : Int) := by omega
      have hne : l.drop (l.length - 2) ≠ [13, 10] := fun he => by
        have := (tail_ends h2).1 he
        have : beg l l.length = true := (beg_pos h0).2 ⟨h2, this⟩
        rw [hb] at this; cases this
      have hex : (st l).extract (l.length - 2) l.length = st (l.drop (l.length - 2)) := by rw [ext_st, List.take_length]
      have hqf : (l.drop (l.length - 2) == [13, 10]) = false := by simpa using hne
      clear hb hne
      generalize l.drop (l.length - 2) = t at *
      go_wp2_with fail
      refine (H5 _ hx14).mono ?_
      rintro e w5 ⟨rfl, hx5⟩
      go_wp2
      go_ret
      exact ⟨rfl, hx14.trans hx5⟩
    · have hge : ¬ (2 : Int) ≤ (l.length : Int) := by omega
      clear hb
      go_wp2_with fail
      refine (H5 _ hx14).mono ?_
      rintro e w5 ⟨rfl, hx5⟩
      go_wp2
      go_ret
      exact ⟨rfl, hx14.trans hx5⟩
end Go.Proofs.Ytlfieggioomoiaa
