/- The walk of the session's mail. Conditions: the hypotheses of the theorem. -/
import Derived.Test.YtchokelpimibdaaSm3
namespace Go.Proofs.Ytchokelpimibdaa
open Go.RowKit
theorem not_empty {l : By} (h : l ≠ []) : l.isEmpty = false := by
  cases l with
  | nil => exact absurd rfl h
  | cons a l => rfl
/-- of a size that is named: does it stand there; which error; how much -/
theorem sizeT_cases (more : By) (h : more ≠ []) : (sizeT more = 1 ∧ (behindT more wSize).2 = false) ∨ (sizeT more = 1 ∧ (behindT more wSize).2 = true ∧ (numberL (behindT more wSize).1).2.2 ≠ 0) ∨
    (sizeT more = 2 ∧ (behindT more wSize).2 = true ∧ (numberL (behindT more wSize).1).2.2 = 0 ∧ 600 < (numberL (behindT more wSize).1).1) ∨ (sizeT more = 0 ∧ (behindT more wSize).2 = true ∧ (numberL (behindT more wSize).1).2.2 = 0 ∧ ¬ 600 < (numberL (behindT more wSize).1).1) := by
  unfold sizeT
  rw [if_neg h]
  by_cases h1 : (behindT more wSize).2 = false
  · rw [if_pos (.inl h1)]
    exact .inl ⟨rfl, h1⟩
  have h1' : (behindT more wSize).2 = true := by simpa using h1
  by_cases h2 : (numberL (behindT more wSize).1).2.2 = 0
  · rw [if_neg (by simp [h1', h2])]
    by_cases h3 : 600 < (numberL (behindT more wSize).1).1
    · rw [if_pos h3]
      exact .inr (.inr (.inl ⟨rfl, h1', h2, h3⟩))
    · rw [if_neg h3]
      exact .inr (.inr (.inr ⟨rfl, h1', h2, h3⟩))
  · rw [if_pos (.inr h2)]
    exact .inr (.inl ⟨rfl, h1', h2⟩)
set_option maxRecDepth 20000 in
set_option maxHeartbeats 4000000 in
theorem smail_any {M : List Nat} {w : World} {p q : Nat} {s : Se} (h : IsS M w p q s) (r : By) (hr : r.length ≤ 140737488355320) :
    Calls Try.prog 40 #[pt p, .string (st r)] w fun e w' => e = .returned (.string (st (mailT s r).1)) ∧ IsS M w' p q (mailT s r).2 ∧ Kept [p] w w' := by
  have HS := Lib.hid h
  have C2 := h.cells.2.1
  have c2 := C2 w (Ext.refl _)
  unfold pt
  clear h
  by_cases h1 : s.st ≠ 2
  · have HV : Hid (mailT s r = (notB, s)) := Lib.hid (by unfold mailT; rw [if_pos h1])
    have h1' : ((s.st : Int) != 2) = true := by simp; omega
    clear h1 C2
    go_enter Try.func40, Try.ntmps40
    go_wp2
    go_ret
    rw [HV.out]
    exact ⟨rfl, HS.out, Kept.refl _ _⟩
  have h2 : s.st = 2 := by simpa using h1
  have hxl := behindT_le r wFrom
  have HB := behind_st r wFrom w (by decide)
  have HV0 : Hid (mailT s r = if (behindT r wFrom).2 = false ∨ (pathT (behindT r wFrom).1).2.2.2 ≠ 0 then (pathB, s)
    else if sizeT (pathT (behindT r wFrom).1).2.2.1 = 1 then (pathB, s)
    else if sizeT (pathT (behindT r wFrom).1).2.2.1 = 2 then (tooB, s)
    else (okB, ⟨s.buf, 3, s.hello, (pathT (behindT r wFrom).1).1, (pathT (behindT r wFrom).1).2.1, s.to_⟩)) := Lib.hid (by unfold mailT; rw [if_neg h1])
  rw [h2] at c2
  clear h1 h2
  generalize (behindT r wFrom).2 = is at *
  generalize (behindT r wFrom).1 = x at *
  have HP := fun W => path_st x W (by omega)
  have hml := pathT_more x
  unfold wFrom at HB
  go_enter Try.func40, Try.ntmps40
  cases is with
  | false =>
    have HV : Hid (mailT s r = (pathB, s)) := Lib.hid (by rw [HV0.out, if_pos (.inl rfl)])
    clear hxl hml HV0 C2
    go_wp2_with fail
    refine HB.mono ?_
    rintro e w1 ⟨rfl, hx1⟩
    go_wp2_with fail
    refine (HP w1).mono ?_
    rintro e w2 ⟨rfl, hx2⟩
    go_wp2_with (first | (with_reducible refine stop_alloc 35 ?_) | (with_reducible refine stop_store 35 ?_) | (with_reducible refine stop_load 35 ?_))
    refine go_on (wpList_alloc_ rfl rfl addr_info ?_)
    go_wp2_with (first | (with_reducible refine stop_alloc 35 ?_) | (with_reducible refine stop_store 35 ?_) | (with_reducible refine stop_load 35 ?_))
    refine go_on (wpList_store_last rfl rfl rfl rfl (ad_size _ _) rfl (by simp [Value.oneCell']) ?_)
    intro w3 hrow3 hx3 hz3
    have HX3 := Lib.hid (hx1.trans (hx2.trans hx3))
    have HR3 := Lib.hid hrow3
    generalize w2.heap.size = g3 at *
    clear hx1 hx2 hx3 hz3 hrow3 HB HP
    go_wp2
    go_ret
    rw [HV.out]
    exact ⟨rfl, HS.out.ext HX3.out, .of_ext HX3.out⟩
  | true =>
    by_cases he : (pathT x).2.2.2 ≠ 0
    · have HV : Hid (mailT s r = (pathB, s)) := Lib.hid (by rw [HV0.out, if_pos (.inr he)])
      have he' : (((pathT x).2.2.2 : Int) != 0) = true := by simp; omega
      clear hxl hml HV0 C2 he
      generalize (pathT x).2.2.2 = er at *
      go_wp2_with fail
      refine HB.mono ?_
      rintro e w1 ⟨rfl, hx1⟩
      go_wp2_with fail
      refine (HP w1).mono ?_
      rintro e w2 ⟨rfl, hx2⟩
      go_wp2_with (first | (with_reducible refine stop_alloc 35 ?_) | (with_reducible refine stop_store 35 ?_) | (with_reducible refine stop_load 35 ?_))
      refine go_on (wpList_alloc_ rfl rfl addr_info ?_)
      go_wp2_with (first | (with_reducible refine stop_alloc 35 ?_) | (with_reducible refine stop_store 35 ?_) | (with_reducible refine stop_load 35 ?_))
      refine go_on (wpList_store_last rfl rfl rfl rfl (ad_size _ _) rfl (by simp [Value.oneCell']) ?_)
      intro w3 hrow3 hx3 hz3
      have HX3 := Lib.hid (hx1.trans (hx2.trans hx3))
      have HR3 := Lib.hid hrow3
      generalize w2.heap.size = g3 at *
      clear hx1 hx2 hx3 hz3 hrow3 HB HP
      go_wp2
      go_ret
      rw [HV.out]
      exact ⟨rfl, HS.out.ext HX3.out, .of_ext HX3.out⟩
    have he0 : (pathT x).2.2.2 = 0 := by simpa using he
    rw [he0] at HP
    have HV1 := Lib.hid (HV0.out.trans (if_neg (by simp [he0])))
    clear he he0 HV0
    by_cases hm : (pathT x).2.2.1 = []
    · have HV : Hid (mailT s r = (okB, ⟨s.buf, 3, s.hello, (pathT x).1, (pathT x).2.1, s.to_⟩)) := Lib.hid (by rw [HV1.out, hm, if_neg (by decide), if_neg (by decide)])
      rw [hm] at HP
      clear hxl hml HV1 C2 hm
      go_wp2_with fail
      refine HB.mono ?_
      rintro e w1 ⟨rfl, hx1⟩
      go_wp2_with fail
      refine (HP w1).mono ?_
      rintro e w2 ⟨rfl, hx2⟩
      go_wp2_with (first | (with_reducible refine stop_alloc 35 ?_) | (with_reducible refine stop_store 35 ?_) | (with_reducible refine stop_load 35 ?_))
      refine go_on (wpList_alloc_ rfl rfl addr_info ?_)
      go_wp2_with (first | (with_reducible refine stop_alloc 35 ?_) | (with_reducible refine stop_store 35 ?_) | (with_reducible refine stop_load 35 ?_))
      refine go_on (wpList_store_last rfl rfl rfl rfl (ad_size _ _) rfl (by simp [Value.oneCell']) ?_)
      intro w3 hrow3 hx3 hz3
      have HX3 := Lib.hid (hx1.trans (hx2.trans hx3))
      have HR3 := Lib.hid hrow3
      generalize w2.heap.size = g3 at *
      clear hx1 hx2 hx3 hz3 hrow3 HB HP
      go_wp2_with (first | (with_reducible refine stop_alloc 35 ?_) | (with_reducible refine stop_store 35 ?_) | (with_reducible refine stop_load 35 ?_))
      refine go_on (wpList_load_row rfl 35 _ rfl g3 rfl 35 _ (0, 0) _ HR3.out Try.underlying35 rfl (by kernel_rfl) ?_)
      go_wp2_with (first | (with_reducible refine stop_alloc 35 ?_) | (with_reducible refine stop_store 35 ?_) | (with_reducible refine stop_load 35 ?_))
      refine go_on (wpList_store_from (fl := (pathT x).1) (fd := (pathT x).2.1) (HS.out.ext HX3.out) rfl rfl rfl rfl (ad_size (.string (st [])) (.string (st []))) ?_)
      intro w6 h6 hk6 _
      obtain ⟨h7, hk7⟩ := h6.set 2 (.int .i64 3) ⟨s.buf, 3, s.hello, (pathT x).1, (pathT x).2.1, s.to_⟩ rfl rfl ⟨h6.ok.buf, h6.ok.to_, h6.ok.ads, by simp⟩ (fun v => rfl)
      have c2 := h6.cells.2.1 w6 (Ext.refl _)
      have cf := fun j => h6.cells.2.2.2 w6 j (Ext.refl _)
      have H7 := Lib.hid h7
      have K7 := Lib.hid ((Kept.of_ext HX3.out).trans (hk6.trans hk7))
      clear h6 hk6 h7 hk7
      go_wp2
      go_ret
      rw [HV.out]
      exact ⟨rfl, H7.out, K7.out⟩
    · have hne := not_empty hm
      have hcs := sizeT_cases _ hm
      have hyl := behindT_le (pathT x).2.2.1 wSize
      have HB2 := fun W => behind_st (pathT x).2.2.1 wSize W (by decide)
      have HN := fun W => number_st (behindT (pathT x).2.2.1 wSize).1 W (by omega)
      unfold wSize at HB2
      rcases hcs with ⟨h1, h2⟩ | ⟨h1, h2, h3⟩ | ⟨h1, h2, h3, h4⟩ | ⟨h1, h2, h3, h4⟩
      · have HV : Hid (mailT s r = (pathB, s)) := Lib.hid (by rw [HV1.out, if_pos h1])
        unfold wSize at h2
        rw [h2] at HB2
        clear hxl hml HV1 C2 hm h1 h2 hyl
        go_wp2_with fail
        refine HB.mono ?_
        rintro e w1 ⟨rfl, hx1⟩
        go_wp2_with fail
        refine (HP w1).mono ?_
        rintro e w2 ⟨rfl, hx2⟩
        go_wp2_with (first | (with_reducible refine stop_alloc 35 ?_) | (with_reducible refine stop_store 35 ?_) | (with_reducible refine stop_load 35 ?_))
        refine go_on (wpList_alloc_ rfl rfl addr_info ?_)
        go_wp2_with (first | (with_reducible refine stop_alloc 35 ?_) | (with_reducible refine stop_store 35 ?_) | (with_reducible refine stop_load 35 ?_))
        refine go_on (wpList_store_last rfl rfl rfl rfl (ad_size _ _) rfl (by simp [Value.oneCell']) ?_)
        intro w3 hrow3 hx3 hz3
        have HX3 := Lib.hid (hx1.trans (hx2.trans hx3))
        have HR3 := Lib.hid hrow3
        generalize w2.heap.size = g3 at *
        clear hx1 hx2 hx3 hz3 hrow3 HB HP
        go_wp2_with fail
        refine (HB2 w3).mono ?_
        rintro e w4 ⟨rfl, hx4⟩
        go_wp2_with fail
        refine (HN w4).mono ?_
        rintro e w5 ⟨rfl, hx5⟩
        have HX5 := Lib.hid (HX3.out.trans (hx4.trans hx5))
        have HR5 := Lib.hid ((hx4.trans hx5).obj HR3.out)
        clear hx4 hx5 HB2 HN HR3
        go_wp2
        go_ret
        rw [HV.out]
        exact ⟨rfl, HS.out.ext HX5.out, .of_ext HX5.out⟩
      · have HV : Hid (mailT s r = (pathB, s)) := Lib.hid (by rw [HV1.out, if_pos h1])
        unfold wSize at h2
        rw [h2] at HB2
        have h3' : ((numberL (behindT (pathT x).2.2.1 wSize).1).2.2 != 0) = true := by simpa using h3
        clear hxl hml HV1 C2 hm h1 h2 hyl h3
        generalize (numberL (behindT (pathT x).2.2.1 wSize).1).2.2 = er at *
        go_wp2_with fail
        refine HB.mono ?_
        rintro e w1 ⟨rfl, hx1⟩
        go_wp2_with fail
        refine (HP w1).mono ?_
        rintro e w2 ⟨rfl, hx2⟩
        go_wp2_with (first | (with_reducible refine stop_alloc 35 ?_) | (with_reducible refine stop_store 35 ?_) | (with_reducible refine stop_load 35 ?_))
        refine go_on (wpList_alloc_ rfl rfl addr_info ?_)
        go_wp2_with (first | (with_reducible refine stop_alloc 35 ?_) | (with_reducible refine stop_store 35 ?_) | (with_reducible refine stop_load 35 ?_))
        refine go_on (wpList_store_last rfl rfl rfl rfl (ad_size _ _) rfl (by simp [Value.oneCell']) ?_)
        intro w3 hrow3 hx3 hz3
        have HX3 := Lib.hid (hx1.trans (hx2.trans hx3))
        have HR3 := Lib.hid hrow3
        generalize w2.heap.size = g3 at *
        clear hx1 hx2 hx3 hz3 hrow3 HB HP
        go_wp2_with fail
        refine (HB2 w3).mono ?_
        rintro e w4 ⟨rfl, hx4⟩
        go_wp2_with fail
        refine (HN w4).mono ?_
        rintro e w5 ⟨rfl, hx5⟩
        have HX5 := Lib.hid (HX3.out.trans (hx4.trans hx5))
        have HR5 := Lib.hid ((hx4.trans hx5).obj HR3.out)
        clear hx4 hx5 HB2 HN HR3
        go_wp2
        go_ret
        rw [HV.out]
        exact ⟨rfl, HS.out.ext HX5.out, .of_ext HX5.out⟩
      · have HV : Hid (mailT s r = (tooB, s)) := Lib.hid (by rw [HV1.out, if_neg (by omega), if_pos h1])
        unfold wSize at h2
        rw [h2] at HB2
        rw [h3] at HN
        clear hxl hml HV1 C2 hm h1 h2 hyl h3
        generalize (numberL (behindT (pathT x).2.2.1 wSize).1).1 = nn at *
        go_wp2_with fail
        refine HB.mono ?_
        rintro e w1 ⟨rfl, hx1⟩
        go_wp2_with fail
        refine (HP w1).mono ?_
        rintro e w2 ⟨rfl, hx2⟩
        go_wp2_with (first | (with_reducible refine stop_alloc 35 ?_) | (with_reducible refine stop_store 35 ?_) | (with_reducible refine stop_load 35 ?_))
        refine go_on (wpList_alloc_ rfl rfl addr_info ?_)
        go_wp2_with (first | (with_reducible refine stop_alloc 35 ?_) | (with_reducible refine stop_store 35 ?_) | (with_reducible refine stop_load 35 ?_))
        refine go_on (wpList_store_last rfl rfl rfl rfl (ad_size _ _) rfl (by simp [Value.oneCell']) ?_)
        intro w3 hrow3 hx3 hz3
        have HX3 := Lib.hid (hx1.trans (hx2.trans hx3))
        have HR3 := Lib.hid hrow3
        generalize w2.heap.size = g3 at *
        clear hx1 hx2 hx3 hz3 hrow3 HB HP
        go_wp2_with fail
        refine (HB2 w3).mono ?_
        rintro e w4 ⟨rfl, hx4⟩
        go_wp2_with fail
        refine (HN w4).mono ?_
        rintro e w5 ⟨rfl, hx5⟩
        have HX5 := Lib.hid (HX3.out.trans (hx4.trans hx5))
        have HR5 := Lib.hid ((hx4.trans hx5).obj HR3.out)
        clear hx4 hx5 HB2 HN HR3
        go_wp2
        go_ret
        rw [HV.out]
        exact ⟨rfl, HS.out.ext HX5.out, .of_ext HX5.out⟩
      · have HV : Hid (mailT s r = (okB, ⟨s.buf, 3, s.hello, (pathT x).1, (pathT x).2.1, s.to_⟩)) := Lib.hid (by rw [HV1.out, if_neg (by omega), if_neg (by omega)])
        unfold wSize at h2
        rw [h2] at HB2
        rw [h3] at HN
        clear hxl hml HV1 C2 hm h1 h2 hyl h3
        generalize (numberL (behindT (pathT x).2.2.1 wSize).1).1 = nn at *
        go_wp2_with fail
        refine HB.mono ?_
        rintro e w1 ⟨rfl, hx1⟩
        go_wp2_with fail
        refine (HP w1).mono ?_
        rintro e w2 ⟨rfl, hx2⟩
        go_wp2_with (first | (with_reducible refine stop_alloc 35 ?_) | (with_reducible refine stop_store 35 ?_) | (with_reducible refine stop_load 35 ?_))
        refine go_on (wpList_alloc_ rfl rfl addr_info ?_)
        go_wp2_with (first | (with_reducible refine stop_alloc 35 ?_) | (with_reducible refine stop_store 35 ?_) | (with_reducible refine stop_load 35 ?_))
        refine go_on (wpList_store_last rfl rfl rfl rfl (ad_size _ _) rfl (by simp [Value.oneCell']) ?_)
        intro w3 hrow3 hx3 hz3
        have HX3 := Lib.hid (hx1.trans (hx2.trans hx3))
        have HR3 := Lib.hid hrow3
        generalize w2.heap.size = g3 at *
        clear hx1 hx2 hx3 hz3 hrow3 HB HP
        go_wp2_with fail
        refine (HB2 w3).mono ?_
        rintro e w4 ⟨rfl, hx4⟩
        go_wp2_with fail
        refine (HN w4).mono ?_
        rintro e w5 ⟨rfl, hx5⟩
        have HX5 := Lib.hid (HX3.out.trans (hx4.trans hx5))
        have HR5 := Lib.hid ((hx4.trans hx5).obj HR3.out)
        clear hx4 hx5 HB2 HN HR3
        go_wp2_with (first | (with_reducible refine stop_alloc 35 ?_) | (with_reducible refine stop_store 35 ?_) | (with_reducible refine stop_load 35 ?_))
        refine go_on (wpList_load_row rfl 35 _ rfl g3 rfl 35 _ (0, 0) _ HR5.out Try.underlying35 rfl (by kernel_rfl) ?_)
        go_wp2_with (first | (with_reducible refine stop_alloc 35 ?_) | (with_reducible refine stop_store 35 ?_) | (with_reducible refine stop_load 35 ?_))
        refine go_on (wpList_store_from (fl := (pathT x).1) (fd := (pathT x).2.1) (HS.out.ext HX5.out) rfl rfl rfl rfl (ad_size (.string (st [])) (.string (st []))) ?_)
        intro w6 h6 hk6 _
        obtain ⟨h7, hk7⟩ := h6.set 2 (.int .i64 3) ⟨s.buf, 3, s.hello, (pathT x).1, (pathT x).2.1, s.to_⟩ rfl rfl ⟨h6.ok.buf, h6.ok.to_, h6.ok.ads, by simp⟩ (fun v => rfl)
        have c2 := h6.cells.2.1 w6 (Ext.refl _)
        have cf := fun j => h6.cells.2.2.2 w6 j (Ext.refl _)
        have H7 := Lib.hid h7
        have K7 := Lib.hid ((Kept.of_ext HX5.out).trans (hk6.trans hk7))
        clear h6 hk6 h7 hk7
        go_wp2
        go_ret
        rw [HV.out]
        exact ⟨rfl, H7.out, K7.out⟩
end Go.Proofs.Ytchokelpimibdaa
