/- The walk of the session's rcpt. Conditions: the hypotheses of the theorem. -/
import Derived.Test.YtchokelpimibdaaSm5
import Derived.Test.YtchokelpimibdaaAd4
import Derived.Deep.QuietTactic
import Derived.Deep.Cut
import Derived.Deep.CutRange
import Derived.BigQuiet
namespace Go.Proofs.Ytchokelpimibdaa
open Go.RowKit
theorem OwnR.push {α : Type} {R : Reading α} {s e : Nat} {M : List Nat} {wr w' : World} {base : Nat} {v' : Value} {xs : List α} {css : List (List Value)} {cs : List Value} {x : α} (h1 : css.length = xs.length) (h2 : ∀ cs ∈ css, cs.length = s)
    (h4 : ∀ (k : Nat) (cs : List Value) (x : α), css[k]? = some cs → xs[k]? = some x → R.says M wr cs x) (hc : cs.length = s) (hs : R.says M wr cs x) (h3 : w'.ownsRow base e s v' (xs.length + 1) (css.flatten ++ cs)) : OwnR R s e M wr w' base v' (xs ++ [x]) := by
  refine ⟨css ++ [cs], by simp [h1], ?_, by simpa using h3, ?_⟩
  · intro d hd
    rcases List.mem_append.1 hd with h | h
    · exact h2 d h
    · simp at h; subst h; exact hc
  · intro k d z hk hz
    rw [List.getElem?_append] at hk hz
    by_cases hlt : k < css.length
    · rw [if_pos hlt] at hk
      rw [if_pos (by omega)] at hz
      exact h4 k d z hk hz
    · rw [if_neg hlt] at hk
      rw [if_neg (by omega)] at hz
      have hk0 : k - css.length = 0 := by
        rcases Nat.eq_zero_or_pos (k - css.length) with h | h
        · exact h
        · rw [List.getElem?_eq_none (by simp; omega)] at hk; cases hk
      rw [hk0] at hk
      rw [show k - xs.length = 0 by omega] at hz
      simp at hk hz
      subst hk hz
      exact hs
set_option maxRecDepth 20000 in
set_option maxHeartbeats 4000000 in
theorem srcpt_any {M : List Nat} {w : World} {p q : Nat} {s : Se} (h : IsS M w p q s) (r : By) (hr : r.length ≤ 140737488355320) :
    Calls Try.prog 41 #[pt p, .string (st r)] w fun e w' => e = .returned (.string (st (rcptT s r).1)) ∧ IsS M w' p q (rcptT s r).2 ∧ Kept [p] w w' := by
  have HS := Lib.hid h
  have C2 := h.cells.2.1
  have c2 := C2 w (Ext.refl _)
  unfold pt
  clear h
  by_cases h1 : s.st ≠ 3
  · have HV : Hid (rcptT s r = (notB, s)) := Lib.hid (by unfold rcptT; rw [if_pos h1])
    have h1' : ((s.st : Int) != 3) = true := by simp; omega
    clear h1 C2
    go_enter Try.func41, Try.ntmps41
    go_wp2
    go_ret
    rw [HV.out]
    exact ⟨rfl, HS.out, Kept.refl _ _⟩
  have h2 : s.st = 3 := by simpa using h1
  have hxl := behindT_le r wTo
  have HB := behind_st r wTo w (by decide)
  have HV0 : Hid (rcptT s r = if (behindT r wTo).2 = false ∨ (pathT (behindT r wTo).1).2.2.2 ≠ 0 ∨ (pathT (behindT r wTo).1).2.2.1 ≠ [] ∨ ((pathT (behindT r wTo).1).1 = [] ∧ (pathT (behindT r wTo).1).2.1 = []) then (pathB, s)
    else if lowL (pathT (behindT r wTo).1).2.1 ≠ lowL hereB ∨ rightU (lowL (pathT (behindT r wTo).1).1) = false then (elseB, s)
    else if knownT s.to_ (lowL (pathT (behindT r wTo).1).1) = true then (okB, s)
    else if s.to_.length = 4 then (manyB, s)
    else (okB, ⟨s.buf, s.st, s.hello, s.fl, s.fd, s.to_ ++ [((pathT (behindT r wTo).1).1, (pathT (behindT r wTo).1).2.1)]⟩)) := Lib.hid (by unfold rcptT; rw [if_neg h1])
  rw [h2] at c2
  clear h1 h2
  generalize (behindT r wTo).2 = is at *
  generalize (behindT r wTo).1 = x at *
  have HP := fun W => path_st x W (by omega)
  have hpl := pathT_len x
  have HU := fun W => AUser_any (pathT x).1 (pathT x).2.1 W (by omega)
  have hml := pathT_more x
  unfold wTo at HB
  go_enter Try.func41, Try.ntmps41
  cases is with
  | false =>
    have HV : Hid (rcptT s r = (pathB, s)) := Lib.hid (by rw [HV0.out, if_pos (.inl rfl)])
    clear hxl hml HV0 C2 hpl
    go_wp2_with fail
    refine HB.mono ?_
    rintro e w1 ⟨rfl, hx1⟩
    go_wp2_with fail
    refine (HP w1).mono ?_
    rintro e w2 ⟨rfl, hx2⟩
    go_wp2_with (first | (with_reducible refine stop_alloc 35 ?_) | (with_reducible refine stop_store 35 ?_) | (with_reducible refine stop_load 35 ?_))
    refine go_on (wpList_alloc_ rfl rfl addr_info ?_)
    go_wp2_with (first | (with_reducible refine stop_alloc 35 ?_) | (with_reducible refine stop_store 35 ?_) | (with_reducible refine stop_load 35 ?_))
    refine go_on (wpList_store_last rfl rfl rfl rfl (ad_size _ _) rfl (by simp [Value.oneCell']) ?_)
    intro w3 hrow3 hx3 hz3
    have HX3 := Lib.hid (hx1.trans (hx2.trans hx3))
    have HR3 := Lib.hid hrow3
    generalize w2.heap.size = g3 at *
    clear hx1 hx2 hx3 hz3 hrow3 HB HP
    go_wp2_with (first | (with_reducible refine stop_alloc 35 ?_) | (with_reducible refine stop_store 35 ?_) | (with_reducible refine stop_load 35 ?_))
    refine go_on (wpList_load_row rfl 35 _ rfl g3 rfl 35 _ (0, 0) _ HR3.out Try.underlying35 rfl (by kernel_rfl) ?_)
    go_wp2_with fail
    refine (HU _).mono ?_
    rintro e w4 ⟨rfl, hx4⟩
    clear HU
    go_upto_region 6 with fail
    generalize hw5 : w4.alloc (.cells #[.string (st (lowL (pathT x).1))] 9) = w5
    have hx5 : Ext w4 w5 := hw5 ▸ (Ext.refl w4).alloc _
    have hr5 : w5.heap[w4.heap.size]? = some (.cells #[.string (st (lowL (pathT x).1))] 9 (0, 0)) := hw5 ▸ heap_alloc_new w4 _
    have HX5 := Lib.hid (HX3.out.trans (hx4.trans hx5))
    have HR5 := Lib.hid ((hx4.trans hx5).obj HR3.out)
    have HC5 := Lib.hid (row1_cell hr5).1
    generalize w4.heap.size = g5 at *
    clear hw5 hx4 hx5 hr5 HR3 HX3
    go_wp2
    go_ret
    rw [HV.out]
    exact ⟨rfl, HS.out.ext HX5.out, .of_ext HX5.out⟩
  | true =>
    by_cases he : (pathT x).2.2.2 ≠ 0
    · have HV : Hid (rcptT s r = (pathB, s)) := Lib.hid (by rw [HV0.out, if_pos (.inr (.inl he))])
      have he' : (((pathT x).2.2.2 : Int) != 0) = true := by simp; omega
      clear hxl hml HV0 C2 he hpl
      generalize (pathT x).2.2.2 = er at *
      go_wp2_with fail
      refine HB.mono ?_
      rintro e w1 ⟨rfl, hx1⟩
      go_wp2_with fail
      refine (HP w1).mono ?_
      rintro e w2 ⟨rfl, hx2⟩
      go_wp2_with (first | (with_reducible refine stop_alloc 35 ?_) | (with_reducible refine stop_store 35 ?_) | (with_reducible refine stop_load 35 ?_))
      refine go_on (wpList_alloc_ rfl rfl addr_info ?_)
      go_wp2_with (first | (with_reducible refine stop_alloc 35 ?_) | (with_reducible refine stop_store 35 ?_) | (with_reducible refine stop_load 35 ?_))
      refine go_on (wpList_store_last rfl rfl rfl rfl (ad_size _ _) rfl (by simp [Value.oneCell']) ?_)
      intro w3 hrow3 hx3 hz3
      have HX3 := Lib.hid (hx1.trans (hx2.trans hx3))
      have HR3 := Lib.hid hrow3
      generalize w2.heap.size = g3 at *
      clear hx1 hx2 hx3 hz3 hrow3 HB HP
      go_wp2_with (first | (with_reducible refine stop_alloc 35 ?_) | (with_reducible refine stop_store 35 ?_) | (with_reducible refine stop_load 35 ?_))
      refine go_on (wpList_load_row rfl 35 _ rfl g3 rfl 35 _ (0, 0) _ HR3.out Try.underlying35 rfl (by kernel_rfl) ?_)
      go_wp2_with fail
      refine (HU _).mono ?_
      rintro e w4 ⟨rfl, hx4⟩
      clear HU
      go_upto_region 6 with fail
      generalize hw5 : w4.alloc (.cells #[.string (st (lowL (pathT x).1))] 9) = w5
      have hx5 : Ext w4 w5 := hw5 ▸ (Ext.refl w4).alloc _
      have hr5 : w5.heap[w4.heap.size]? = some (.cells #[.string (st (lowL (pathT x).1))] 9 (0, 0)) := hw5 ▸ heap_alloc_new w4 _
      have HX5 := Lib.hid (HX3.out.trans (hx4.trans hx5))
      have HR5 := Lib.hid ((hx4.trans hx5).obj HR3.out)
      have HC5 := Lib.hid (row1_cell hr5).1
      generalize w4.heap.size = g5 at *
      clear hw5 hx4 hx5 hr5 HR3 HX3
      go_wp2
      go_ret
      rw [HV.out]
      exact ⟨rfl, HS.out.ext HX5.out, .of_ext HX5.out⟩
    have he0 : (pathT x).2.2.2 = 0 := by simpa using he
    rw [he0] at HP
    clear he
    by_cases hm : (pathT x).2.2.1 ≠ []
    · have HV : Hid (rcptT s r = (pathB, s)) := Lib.hid (by rw [HV0.out, if_pos (.inr (.inr (.inl hm)))])
      have hne := not_empty hm
      clear hxl hml HV0 C2 hm hpl he0
      go_wp2_with fail
      refine HB.mono ?_
      rintro e w1 ⟨rfl, hx1⟩
      go_wp2_with fail
      refine (HP w1).mono ?_
      rintro e w2 ⟨rfl, hx2⟩
      go_wp2_with (first | (with_reducible refine stop_alloc 35 ?_) | (with_reducible refine stop_store 35 ?_) | (with_reducible refine stop_load 35 ?_))
      refine go_on (wpList_alloc_ rfl rfl addr_info ?_)
      go_wp2_with (first | (with_reducible refine stop_alloc 35 ?_) | (with_reducible refine stop_store 35 ?_) | (with_reducible refine stop_load 35 ?_))
      refine go_on (wpList_store_last rfl rfl rfl rfl (ad_size _ _) rfl (by simp [Value.oneCell']) ?_)
      intro w3 hrow3 hx3 hz3
      have HX3 := Lib.hid (hx1.trans (hx2.trans hx3))
      have HR3 := Lib.hid hrow3
      generalize w2.heap.size = g3 at *
      clear hx1 hx2 hx3 hz3 hrow3 HB HP
      go_wp2_with (first | (with_reducible refine stop_alloc 35 ?_) | (with_reducible refine stop_store 35 ?_) | (with_reducible refine stop_load 35 ?_))
      refine go_on (wpList_load_row rfl 35 _ rfl g3 rfl 35 _ (0, 0) _ HR3.out Try.underlying35 rfl (by kernel_rfl) ?_)
      go_wp2_with fail
      refine (HU _).mono ?_
      rintro e w4 ⟨rfl, hx4⟩
      clear HU
      go_upto_region 6 with fail
      generalize hw5 : w4.alloc (.cells #[.string (st (lowL (pathT x).1))] 9) = w5
      have hx5 : Ext w4 w5 := hw5 ▸ (Ext.refl w4).alloc _
      have hr5 : w5.heap[w4.heap.size]? = some (.cells #[.string (st (lowL (pathT x).1))] 9 (0, 0)) := hw5 ▸ heap_alloc_new w4 _
      have HX5 := Lib.hid (HX3.out.trans (hx4.trans hx5))
      have HR5 := Lib.hid ((hx4.trans hx5).obj HR3.out)
      have HC5 := Lib.hid (row1_cell hr5).1
      generalize w4.heap.size = g5 at *
      clear hw5 hx4 hx5 hr5 HR3 HX3
      go_wp2
      go_ret
      rw [HV.out]
      exact ⟨rfl, HS.out.ext HX5.out, .of_ext HX5.out⟩
    have hm0 : (pathT x).2.2.1 = [] := by simpa using hm
    rw [hm0] at HP
    clear hm
    by_cases hz : (pathT x).1 = [] ∧ (pathT x).2.1 = []
    · have HV : Hid (rcptT s r = (pathB, s)) := Lib.hid (by rw [HV0.out, if_pos (.inr (.inr (.inr hz)))])
      obtain ⟨z1, z2⟩ := hz
      rw [z1, z2] at HP
      rw [z1, z2] at HU
      clear hxl hml HV0 C2 hpl he0 hm0 z1 z2
      go_wp2_with fail
      refine HB.mono ?_
      rintro e w1 ⟨rfl, hx1⟩
      go_wp2_with fail
      refine (HP w1).mono ?_
      rintro e w2 ⟨rfl, hx2⟩
      go_wp2_with (first | (with_reducible refine stop_alloc 35 ?_) | (with_reducible refine stop_store 35 ?_) | (with_reducible refine stop_load 35 ?_))
      refine go_on (wpList_alloc_ rfl rfl addr_info ?_)
      go_wp2_with (first | (with_reducible refine stop_alloc 35 ?_) | (with_reducible refine stop_store 35 ?_) | (with_reducible refine stop_load 35 ?_))
      refine go_on (wpList_store_last rfl rfl rfl rfl (ad_size _ _) rfl (by simp [Value.oneCell']) ?_)
      intro w3 hrow3 hx3 hz3
      have HX3 := Lib.hid (hx1.trans (hx2.trans hx3))
      have HR3 := Lib.hid hrow3
      generalize w2.heap.size = g3 at *
      clear hx1 hx2 hx3 hz3 hrow3 HB HP
      go_wp2_with (first | (with_reducible refine stop_alloc 35 ?_) | (with_reducible refine stop_store 35 ?_) | (with_reducible refine stop_load 35 ?_))
      refine go_on (wpList_load_row rfl 35 _ rfl g3 rfl 35 _ (0, 0) _ HR3.out Try.underlying35 rfl (by kernel_rfl) ?_)
      go_wp2_with fail
      refine (HU _).mono ?_
      rintro e w4 ⟨rfl, hx4⟩
      clear HU
      go_upto_region 6 with fail
      generalize hw5 : w4.alloc (.cells #[.string (st (lowL []))] 9) = w5
      have hx5 : Ext w4 w5 := hw5 ▸ (Ext.refl w4).alloc _
      have hr5 : w5.heap[w4.heap.size]? = some (.cells #[.string (st (lowL []))] 9 (0, 0)) := hw5 ▸ heap_alloc_new w4 _
      have HX5 := Lib.hid (HX3.out.trans (hx4.trans hx5))
      have HR5 := Lib.hid ((hx4.trans hx5).obj HR3.out)
      have HC5 := Lib.hid (row1_cell hr5).1
      generalize w4.heap.size = g5 at *
      clear hw5 hx4 hx5 hr5 HR3 HX3
      go_wp2_with (first | (with_reducible refine stop_alloc 35 ?_) | (with_reducible refine stop_store 35 ?_) | (with_reducible refine stop_load 35 ?_))
      refine go_on (wpList_load_rowG (by rfl) 35 _ rfl g3 rfl 35 _ (0, 0) _ HR5.out Try.underlying35 rfl (by kernel_rfl) ?_)
      go_wp2
      go_ret
      rw [HV.out]
      exact ⟨rfl, HS.out.ext HX5.out, .of_ext HX5.out⟩
    have HV1 : Hid (rcptT s r = if lowL (pathT x).2.1 ≠ lowL hereB ∨ rightU (lowL (pathT x).1) = false then (elseB, s)
      else if knownT s.to_ (lowL (pathT x).1) = true then (okB, s)
      else if s.to_.length = 4 then (manyB, s)
      else (okB, ⟨s.buf, s.st, s.hello, s.fl, s.fd, s.to_ ++ [((pathT x).1, (pathT x).2.1)]⟩)) := Lib.hid (by rw [HV0.out, if_neg (by simp [he0, hm0]; simpa using hz)])
    clear hxl hml HV0 C2 he0 hm0
    generalize (pathT x).1 = lo at *
    generalize (pathT x).2.1 = dm at *
    go_wp2_with fail
    refine HB.mono ?_
    rintro e w1 ⟨rfl, hx1⟩
    go_wp2_with fail
    refine (HP w1).mono ?_
    rintro e w2 ⟨rfl, hx2⟩
    go_wp2_with (first | (with_reducible refine stop_alloc 35 ?_) | (with_reducible refine stop_store 35 ?_) | (with_reducible refine stop_load 35 ?_))
    refine go_on (wpList_alloc_ rfl rfl addr_info ?_)
    go_wp2_with (first | (with_reducible refine stop_alloc 35 ?_) | (with_reducible refine stop_store 35 ?_) | (with_reducible refine stop_load 35 ?_))
    refine go_on (wpList_store_last rfl rfl rfl rfl (ad_size _ _) rfl (by simp [Value.oneCell']) ?_)
    intro w3 hrow3 hx3 hz3
    have HX3 := Lib.hid (hx1.trans (hx2.trans hx3))
    have HR3 := Lib.hid hrow3
    generalize w2.heap.size = g3 at *
    clear hx1 hx2 hx3 hz3 hrow3 HB HP
    go_wp2_with (first | (with_reducible refine stop_alloc 35 ?_) | (with_reducible refine stop_store 35 ?_) | (with_reducible refine stop_load 35 ?_))
    refine go_on (wpList_load_row rfl 35 _ rfl g3 rfl 35 _ (0, 0) _ HR3.out Try.underlying35 rfl (by kernel_rfl) ?_)
    go_wp2_with fail
    refine (HU _).mono ?_
    rintro e w4 ⟨rfl, hx4⟩
    clear HU
    go_upto_region 6 with fail
    generalize hw5 : w4.alloc (.cells #[.string (st (lowL lo))] 9) = w5
    have hx5 : Ext w4 w5 := hw5 ▸ (Ext.refl w4).alloc _
    have hr5 : w5.heap[w4.heap.size]? = some (.cells #[.string (st (lowL lo))] 9 (0, 0)) := hw5 ▸ heap_alloc_new w4 _
    have HX5 := Lib.hid (HX3.out.trans (hx4.trans hx5))
    have HR5 := Lib.hid ((hx4.trans hx5).obj HR3.out)
    have HC5 := Lib.hid (row1_cell hr5).1
    generalize w4.heap.size = g5 at *
    clear hw5 hx4 hx5 hr5 HR3 HX3
    go_cut [29] from 29 to 44 (fun s wx => s = .bool false ∧ w5 = wx)
    case first =>
      go_wp2_with (first | (with_reducible refine stop_alloc 35 ?_) | (with_reducible refine stop_store 35 ?_) | (with_reducible refine stop_load 35 ?_))
      refine go_on (wpList_load_rowG (by rfl) 35 _ rfl g3 rfl 35 _ (0, 0) _ HR5.out Try.underlying35 rfl (by kernel_rfl) ?_)
      by_cases hlo : lo = []
      · have hdm : ¬ dm = [] := fun h => hz ⟨hlo, h⟩
        subst hlo
        go_wp2_with fail
        go_meet
        exact ⟨rfl, rfl⟩
      · go_wp2_with fail
        go_meet
        exact ⟨rfl, rfl⟩
    case rest =>
      obtain ⟨rfl, rfl⟩ := hcut
      clear hz
      have hs5 := HS.out.ext HX5.out
      obtain ⟨A, c, hrow, hrs, hlc, hcm⟩ := hs5.row
      obtain ⟨E2, -, -, -, E6, EF⟩ := row7_at hrow
      have HROW := Lib.hid hrow
      have HRS := Lib.hid hrs
      have HS5 := Lib.hid hs5
      have E1 := (rows2 HR5.out).2.1
      have HC := HC5.out
      have HSA : ∀ W, Calls Try.prog 55 #[.string (st dm), .string (st hereB)] W fun e w' => e = .returned (.bool (decide (lowL dm = lowL hereB))) ∧ Ext W w' := fun W => by
        have := Same_any (st dm) (st hereB) W (by rw [st_len]; omega) (by rw [st_len]; decide)
        rw [tl_st, tl_st] at this
        exact this
      have HRU : ∀ W, Calls Try.prog 56 #[.string (st (lowL lo))] W fun e w' => e = .returned (.bool (rightU (lowL lo))) ∧ Ext W w' := fun W => by
        have := RightUser_any (st (lowL lo)) W (by rw [st_len]; simp [lowL]; omega)
        rw [tl_st] at this
        exact this
      have hxd : Ext w5 w5.drew := (Ext.refl _).drew
      have hads := fun a (ha : a ∈ s.to_) => (hs5.ok.ads a ha).1
      have hto4 := hs5.ok.to_
      have HADS := Lib.hid hads
      have HCF := fun V (hx : Ext w5 V) => acontf_any 58 #[.pointer (some ⟨g5, 0, none⟩)] enters_rcpt (fun a => decide (lowL a.1 = lowL lo)) M A c s.to_ V (HRS.out.kept (.of_ext hx)) HADS.out (rcpt_tells (lowL lo) g5 V (HC V hx)) (by omega)
      clear hs5 hrow hrs hads
      by_cases k1 : lowL dm = lowL hereB; rotate_left
      · have HV : Hid (rcptT s r = (elseB, s)) := Lib.hid (by rw [HV1.out, if_pos (.inl k1)])
        rw [decide_eq_false k1] at HSA
        clear k1 HV1 HCF HRU
        go_upto_region 8 with fail
        refine wp_region_phase (S := fun V => Ext w5 V) 13 (by kernel_rfl) (by kernel_rfl) ?_ (fun hHeld => ?_)
        · exact hxd
        simp only [List.drop_succ_cons, List.drop_zero]
        refine name_head ?_
        intro wr0 hw0
        rw [hw0] at hHeld
        refine wpHead_take (i := 0) (v := ?_) (by rfl) (by kernel_rfl) (by kernel_rfl) (by exact fun _ _ _ h => h) (Or.inl ⟨by rfl, ?_⟩) (by assumption) ?_
        rotate_left
        · intro w hSw
          first | (go_simp; done) | (go_simp; with_reducible rfl)
        simp only [List.getElem_toArray, List.getElem_cons_zero, Act.put, List.setIfInBounds_toArray, List.set_cons_zero, List.set_cons_succ]
        refine wpHead_take (i := 1) (v := ?_) (by rfl) (by kernel_rfl) (by kernel_rfl) (by exact fun _ _ _ h => h) (Or.inl ⟨by rfl, ?_⟩) (by assumption) ?_
        rotate_left
        · intro w hSw
          first | (go_simp; done) | (go_simp; with_reducible rfl)
        simp only [List.getElem_toArray, List.getElem_cons_succ, List.getElem_cons_zero, Act.put, List.setIfInBounds_toArray, List.set_cons_zero, List.set_cons_succ]
        refine wpHead_take (i := 2) (v := ?_) (by rfl) (by kernel_rfl) (by kernel_rfl) (by exact fun _ _ _ h => h) (Or.inl ⟨by rfl, ?_⟩) (by assumption) ?_
        rotate_left
        · intro w hSw
          first | (go_simp; done) | (go_simp; with_reducible rfl)
        simp only [List.getElem_toArray, List.getElem_cons_succ, List.getElem_cons_zero, Act.put, List.setIfInBounds_toArray, List.set_cons_zero, List.set_cons_succ]
        refine wpHead_take (i := 3) (v := ?_) (by rfl) (by kernel_rfl) (by kernel_rfl) (by exact fun _ _ _ h => h) (Or.inl ⟨by rfl, ?_⟩) (by assumption) ?_
        rotate_left
        · intro w hSw
          first | (go_simp; done) | (go_simp; with_reducible rfl)
        simp only [List.getElem_toArray, List.getElem_cons_succ, List.getElem_cons_zero, Act.put, List.setIfInBounds_toArray, List.set_cons_zero, List.set_cons_succ]
        refine wpHead_take (i := 4) (v := ?_) (by rfl) (by kernel_rfl) (by kernel_rfl) (by exact fun _ _ _ h => h) (Or.inl ⟨by rfl, ?_⟩) (by assumption) ?_
        rotate_left
        · intro w hSw
          first | (go_simp; done) | (go_simp; with_reducible rfl)
        simp only [List.getElem_toArray, List.getElem_cons_succ, List.getElem_cons_zero, Act.put, List.setIfInBounds_toArray, List.set_cons_zero, List.set_cons_succ]
        refine wpHead_take (i := 5) (v := ?_) (by rfl) (by kernel_rfl) (by kernel_rfl) (by exact fun _ _ _ h => h) (Or.inl ⟨by rfl, ?_⟩) (by assumption) ?_
        rotate_left
        · intro w hSw
          first | (go_simp; done) | (go_simp; with_reducible rfl)
        simp only [List.getElem_toArray, List.getElem_cons_succ, List.getElem_cons_zero, Act.put, List.setIfInBounds_toArray, List.set_cons_zero, List.set_cons_succ]
        refine wpHead_ready (rs := [6]) (by kernel_rfl) (by simp) (by kernel_rfl) ?_
        refine AllHead.cons (by rfl) (fun K hK => ?_) ?_
        · refine step_callG (by rfl) (by kernel_rfl) (HSA wr0) ?_
          rintro e wr6 ⟨rfl, hx1⟩
          refine ⟨_, rfl, ?_⟩
          refine hK.out _ _ ?_ (fun hHeld => ?_)
          · exact hHeld.trans hx1
          clear hK K
          try simp only [List.getElem_toArray, List.getElem_cons_succ, List.getElem_cons_zero, Act.put, List.setIfInBounds_toArray, List.set_cons_zero, List.set_cons_succ]
          refine wpHead_take (i := 7) (v := ?_) (by rfl) (by kernel_rfl) (by kernel_rfl) (by exact fun _ _ _ h => h) (Or.inl ⟨by rfl, ?_⟩) (by assumption) ?_
          rotate_left
          · intro w hSw
            first | (go_simp; done) | (go_simp; with_reducible rfl)
          simp only [List.getElem_toArray, List.getElem_cons_succ, List.getElem_cons_zero, Act.put, List.setIfInBounds_toArray, List.set_cons_zero, List.set_cons_succ]
          refine wpHead_take (i := 8) (v := ?_) (by rfl) (by kernel_rfl) (by kernel_rfl) (by exact fun _ _ _ h => h) (Or.inl ⟨by rfl, ?_⟩) (by assumption) ?_
          rotate_left
          · intro w hSw
            first | (go_simp; done) | (go_simp; with_reducible rfl)
          simp only [List.getElem_toArray, List.getElem_cons_succ, List.getElem_cons_zero, Act.put, List.setIfInBounds_toArray, List.set_cons_zero, List.set_cons_succ]
          refine wpHead_take (i := 9) (v := undef) (by rfl) (by kernel_rfl) (by kernel_rfl) (by exact fun _ _ _ h => h) (Or.inr ⟨by rfl, rfl⟩) (by assumption) ?_
          simp only [List.getElem_toArray, List.getElem_cons_succ, List.getElem_cons_zero, Act.put, List.setIfInBounds_toArray, List.set_cons_zero, List.set_cons_succ]
          refine wpHead_take (i := 10) (v := undef) (by rfl) (by kernel_rfl) (by kernel_rfl) (by exact fun _ _ _ h => h) (Or.inr ⟨by rfl, rfl⟩) (by assumption) ?_
          simp only [List.getElem_toArray, List.getElem_cons_succ, List.getElem_cons_zero, Act.put, List.setIfInBounds_toArray, List.set_cons_zero, List.set_cons_succ]
          refine wpHead_take (i := 11) (v := undef) (by rfl) (by kernel_rfl) (by kernel_rfl) (by exact fun _ _ _ h => h) (Or.inr ⟨by rfl, rfl⟩) (by assumption) ?_
          simp only [List.getElem_toArray, List.getElem_cons_succ, List.getElem_cons_zero, Act.put, List.setIfInBounds_toArray, List.set_cons_zero, List.set_cons_succ]
          refine wpHead_take (i := 12) (v := ?_) (by rfl) (by kernel_rfl) (by kernel_rfl) (by exact fun _ _ _ h => h) (Or.inl ⟨by rfl, ?_⟩) (by assumption) ?_
          rotate_left
          · intro w hSw
            first | (go_simp; done) | (go_simp; with_reducible rfl)
          simp only [List.getElem_toArray, List.getElem_cons_succ, List.getElem_cons_zero, Act.put, List.setIfInBounds_toArray, List.set_cons_zero, List.set_cons_succ]
          refine wpHead_done (by kernel_rfl) ?_
          have HX8 := Lib.hid (HX5.out.trans hHeld)
          go_wp2
          go_ret
          rw [HV.out]
          exact ⟨rfl, HS.out.ext HX8.out, .of_ext HX8.out⟩
        exact AllHead.nil
      rw [decide_eq_true k1] at HSA
      cases k2 : rightU (lowL lo) with
      | false =>
        have HV : Hid (rcptT s r = (elseB, s)) := Lib.hid (by rw [HV1.out, if_pos (.inr k2)])
        rw [k2] at HRU
        clear k1 k2 HV1 HCF
        go_upto_region 8 with fail
        refine wp_region_phase (S := fun V => Ext w5 V) 13 (by kernel_rfl) (by kernel_rfl) ?_ (fun hHeld => ?_)
        · exact hxd
        simp only [List.drop_succ_cons, List.drop_zero]
        refine name_head ?_
        intro wr0 hw0
        rw [hw0] at hHeld
        refine wpHead_take (i := 0) (v := ?_) (by rfl) (by kernel_rfl) (by kernel_rfl) (by exact fun _ _ _ h => h) (Or.inl ⟨by rfl, ?_⟩) (by assumption) ?_
        rotate_left
        · intro w hSw
          first | (go_simp; done) | (go_simp; with_reducible rfl)
        simp only [List.getElem_toArray, List.getElem_cons_zero, Act.put, List.setIfInBounds_toArray, List.set_cons_zero, List.set_cons_succ]
        refine wpHead_take (i := 1) (v := ?_) (by rfl) (by kernel_rfl) (by kernel_rfl) (by exact fun _ _ _ h => h) (Or.inl ⟨by rfl, ?_⟩) (by assumption) ?_
        rotate_left
        · intro w hSw
          first | (go_simp; done) | (go_simp; with_reducible rfl)
        simp only [List.getElem_toArray, List.getElem_cons_succ, List.getElem_cons_zero, Act.put, List.setIfInBounds_toArray, List.set_cons_zero, List.set_cons_succ]
        refine wpHead_take (i := 2) (v := ?_) (by rfl) (by kernel_rfl) (by kernel_rfl) (by exact fun _ _ _ h => h) (Or.inl ⟨by rfl, ?_⟩) (by assumption) ?_
        rotate_left
        · intro w hSw
          first | (go_simp; done) | (go_simp; with_reducible rfl)
        simp only [List.getElem_toArray, List.getElem_cons_succ, List.getElem_cons_zero, Act.put, List.setIfInBounds_toArray, List.set_cons_zero, List.set_cons_succ]
        refine wpHead_take (i := 3) (v := ?_) (by rfl) (by kernel_rfl) (by kernel_rfl) (by exact fun _ _ _ h => h) (Or.inl ⟨by rfl, ?_⟩) (by assumption) ?_
        rotate_left
        · intro w hSw
          first | (go_simp; done) | (go_simp; with_reducible rfl)
        simp only [List.getElem_toArray, List.getElem_cons_succ, List.getElem_cons_zero, Act.put, List.setIfInBounds_toArray, List.set_cons_zero, List.set_cons_succ]
        refine wpHead_take (i := 4) (v := ?_) (by rfl) (by kernel_rfl) (by kernel_rfl) (by exact fun _ _ _ h => h) (Or.inl ⟨by rfl, ?_⟩) (by assumption) ?_
        rotate_left
        · intro w hSw
          first | (go_simp; done) | (go_simp; with_reducible rfl)
        simp only [List.getElem_toArray, List.getElem_cons_succ, List.getElem_cons_zero, Act.put, List.setIfInBounds_toArray, List.set_cons_zero, List.set_cons_succ]
        refine wpHead_take (i := 5) (v := ?_) (by rfl) (by kernel_rfl) (by kernel_rfl) (by exact fun _ _ _ h => h) (Or.inl ⟨by rfl, ?_⟩) (by assumption) ?_
        rotate_left
        · intro w hSw
          first | (go_simp; done) | (go_simp; with_reducible rfl)
        simp only [List.getElem_toArray, List.getElem_cons_succ, List.getElem_cons_zero, Act.put, List.setIfInBounds_toArray, List.set_cons_zero, List.set_cons_succ]
        refine wpHead_ready (rs := [6]) (by kernel_rfl) (by simp) (by kernel_rfl) ?_
        refine AllHead.cons (by rfl) (fun K hK => ?_) ?_
        · refine step_callG (by rfl) (by kernel_rfl) (HSA wr0) ?_
          rintro e wr6 ⟨rfl, hx1⟩
          refine ⟨_, rfl, ?_⟩
          refine hK.out _ _ ?_ (fun hHeld => ?_)
          · exact hHeld.trans hx1
          clear hK K
          try simp only [List.getElem_toArray, List.getElem_cons_succ, List.getElem_cons_zero, Act.put, List.setIfInBounds_toArray, List.set_cons_zero, List.set_cons_succ]
          refine wpHead_take (i := 7) (v := ?_) (by rfl) (by kernel_rfl) (by kernel_rfl) (by exact fun _ _ _ h => h) (Or.inl ⟨by rfl, ?_⟩) (by assumption) ?_
          rotate_left
          · intro w hSw
            first | (go_simp; done) | (go_simp; with_reducible rfl)
          simp only [List.getElem_toArray, List.getElem_cons_succ, List.getElem_cons_zero, Act.put, List.setIfInBounds_toArray, List.set_cons_zero, List.set_cons_succ]
          refine wpHead_take (i := 8) (v := ?_) (by rfl) (by kernel_rfl) (by kernel_rfl) (by exact fun _ _ _ h => h) (Or.inl ⟨by rfl, ?_⟩) (by assumption) ?_
          rotate_left
          · intro w hSw
            first | (go_simp; done) | (go_simp; with_reducible rfl)
          simp only [List.getElem_toArray, List.getElem_cons_succ, List.getElem_cons_zero, Act.put, List.setIfInBounds_toArray, List.set_cons_zero, List.set_cons_succ]
          refine wpHead_take (i := 9) (v := ?_) (by rfl) (by kernel_rfl) (by kernel_rfl) (by exact fun _ _ _ h => h) (Or.inl ⟨by rfl, ?_⟩) (by assumption) ?_
          rotate_left
          · intro w hSw
            first | (go_simp; done) | (go_simp; with_reducible rfl)
          simp only [List.getElem_toArray, List.getElem_cons_succ, List.getElem_cons_zero, Act.put, List.setIfInBounds_toArray, List.set_cons_zero, List.set_cons_succ]
          refine wpHead_ready (rs := [10]) (by kernel_rfl) (by simp) (by kernel_rfl) ?_
          refine AllHead.cons (by rfl) (fun K hK => ?_) ?_
          · refine step_callG (by rfl) (by kernel_rfl) (HRU wr6) ?_
            rintro e wr10 ⟨rfl, hx2⟩
            refine ⟨_, rfl, ?_⟩
            refine hK.out _ _ ?_ (fun hHeld => ?_)
            · exact hHeld.trans hx2
            clear hK K
            try simp only [List.getElem_toArray, List.getElem_cons_succ, List.getElem_cons_zero, Act.put, List.setIfInBounds_toArray, List.set_cons_zero, List.set_cons_succ]
            refine wpHead_take (i := 11) (v := ?_) (by rfl) (by kernel_rfl) (by kernel_rfl) (by exact fun _ _ _ h => h) (Or.inl ⟨by rfl, ?_⟩) (by assumption) ?_
            rotate_left
            · intro w hSw
              first | (go_simp; done) | (go_simp; with_reducible rfl)
            simp only [List.getElem_toArray, List.getElem_cons_succ, List.getElem_cons_zero, Act.put, List.setIfInBounds_toArray, List.set_cons_zero, List.set_cons_succ]
            refine wpHead_take (i := 12) (v := ?_) (by rfl) (by kernel_rfl) (by kernel_rfl) (by exact fun _ _ _ h => h) (Or.inl ⟨by rfl, ?_⟩) (by assumption) ?_
            rotate_left
            · intro w hSw
              first | (go_simp; done) | (go_simp; with_reducible rfl)
            simp only [List.getElem_toArray, List.getElem_cons_succ, List.getElem_cons_zero, Act.put, List.setIfInBounds_toArray, List.set_cons_zero, List.set_cons_succ]
            refine wpHead_done (by kernel_rfl) ?_
            have HX8 := Lib.hid (HX5.out.trans hHeld)
            go_wp2
            go_ret
            rw [HV.out]
            exact ⟨rfl, HS.out.ext HX8.out, .of_ext HX8.out⟩
          exact AllHead.nil
        exact AllHead.nil
      | true =>
        have HV2 : Hid (rcptT s r = if knownT s.to_ (lowL lo) = true then (okB, s) else if s.to_.length = 4 then (manyB, s) else (okB, ⟨s.buf, s.st, s.hello, s.fl, s.fd, s.to_ ++ [(lo, dm)]⟩)) := Lib.hid (by rw [HV1.out, if_neg (by simp [k1, k2])])
        rw [k2] at HRU
        clear k1 k2 HV1
        go_upto_region 8 with fail
        refine wp_region_phase (S := fun V => Ext w5 V) 13 (by kernel_rfl) (by kernel_rfl) ?_ (fun hHeld => ?_)
        · exact hxd
        simp only [List.drop_succ_cons, List.drop_zero]
        refine name_head ?_
        intro wr0 hw0
        rw [hw0] at hHeld
        refine wpHead_take (i := 0) (v := ?_) (by rfl) (by kernel_rfl) (by kernel_rfl) (by exact fun _ _ _ h => h) (Or.inl ⟨by rfl, ?_⟩) (by assumption) ?_
        rotate_left
        · intro w hSw
          first | (go_simp; done) | (go_simp; with_reducible rfl)
        simp only [List.getElem_toArray, List.getElem_cons_zero, Act.put, List.setIfInBounds_toArray, List.set_cons_zero, List.set_cons_succ]
        refine wpHead_take (i := 1) (v := ?_) (by rfl) (by kernel_rfl) (by kernel_rfl) (by exact fun _ _ _ h => h) (Or.inl ⟨by rfl, ?_⟩) (by assumption) ?_
        rotate_left
        · intro w hSw
          first | (go_simp; done) | (go_simp; with_reducible rfl)
        simp only [List.getElem_toArray, List.getElem_cons_succ, List.getElem_cons_zero, Act.put, List.setIfInBounds_toArray, List.set_cons_zero, List.set_cons_succ]
        refine wpHead_take (i := 2) (v := ?_) (by rfl) (by kernel_rfl) (by kernel_rfl) (by exact fun _ _ _ h => h) (Or.inl ⟨by rfl, ?_⟩) (by assumption) ?_
        rotate_left
        · intro w hSw
          first | (go_simp; done) | (go_simp; with_reducible rfl)
        simp only [List.getElem_toArray, List.getElem_cons_succ, List.getElem_cons_zero, Act.put, List.setIfInBounds_toArray, List.set_cons_zero, List.set_cons_succ]
        refine wpHead_take (i := 3) (v := ?_) (by rfl) (by kernel_rfl) (by kernel_rfl) (by exact fun _ _ _ h => h) (Or.inl ⟨by rfl, ?_⟩) (by assumption) ?_
        rotate_left
        · intro w hSw
          first | (go_simp; done) | (go_simp; with_reducible rfl)
        simp only [List.getElem_toArray, List.getElem_cons_succ, List.getElem_cons_zero, Act.put, List.setIfInBounds_toArray, List.set_cons_zero, List.set_cons_succ]
        refine wpHead_take (i := 4) (v := ?_) (by rfl) (by kernel_rfl) (by kernel_rfl) (by exact fun _ _ _ h => h) (Or.inl ⟨by rfl, ?_⟩) (by assumption) ?_
        rotate_left
        · intro w hSw
          first | (go_simp; done) | (go_simp; with_reducible rfl)
        simp only [List.getElem_toArray, List.getElem_cons_succ, List.getElem_cons_zero, Act.put, List.setIfInBounds_toArray, List.set_cons_zero, List.set_cons_succ]
        refine wpHead_take (i := 5) (v := ?_) (by rfl) (by kernel_rfl) (by kernel_rfl) (by exact fun _ _ _ h => h) (Or.inl ⟨by rfl, ?_⟩) (by assumption) ?_
        rotate_left
        · intro w hSw
          first | (go_simp; done) | (go_simp; with_reducible rfl)
        simp only [List.getElem_toArray, List.getElem_cons_succ, List.getElem_cons_zero, Act.put, List.setIfInBounds_toArray, List.set_cons_zero, List.set_cons_succ]
        refine wpHead_ready (rs := [6]) (by kernel_rfl) (by simp) (by kernel_rfl) ?_
        refine AllHead.cons (by rfl) (fun K hK => ?_) ?_
        · refine step_callG (by rfl) (by kernel_rfl) (HSA wr0) ?_
          rintro e wr6 ⟨rfl, hx1⟩
          refine ⟨_, rfl, ?_⟩
          refine hK.out _ _ ?_ (fun hHeld => ?_)
          · exact hHeld.trans hx1
          clear hK K
          try simp only [List.getElem_toArray, List.getElem_cons_succ, List.getElem_cons_zero, Act.put, List.setIfInBounds_toArray, List.set_cons_zero, List.set_cons_succ]
          refine wpHead_take (i := 7) (v := ?_) (by rfl) (by kernel_rfl) (by kernel_rfl) (by exact fun _ _ _ h => h) (Or.inl ⟨by rfl, ?_⟩) (by assumption) ?_
          rotate_left
          · intro w hSw
            first | (go_simp; done) | (go_simp; with_reducible rfl)
          simp only [List.getElem_toArray, List.getElem_cons_succ, List.getElem_cons_zero, Act.put, List.setIfInBounds_toArray, List.set_cons_zero, List.set_cons_succ]
          refine wpHead_take (i := 8) (v := ?_) (by rfl) (by kernel_rfl) (by kernel_rfl) (by exact fun _ _ _ h => h) (Or.inl ⟨by rfl, ?_⟩) (by assumption) ?_
          rotate_left
          · intro w hSw
            first | (go_simp; done) | (go_simp; with_reducible rfl)
          simp only [List.getElem_toArray, List.getElem_cons_succ, List.getElem_cons_zero, Act.put, List.setIfInBounds_toArray, List.set_cons_zero, List.set_cons_succ]
          refine wpHead_take (i := 9) (v := ?_) (by rfl) (by kernel_rfl) (by kernel_rfl) (by exact fun _ _ _ h => h) (Or.inl ⟨by rfl, ?_⟩) (by assumption) ?_
          rotate_left
          · intro w hSw
            first | (go_simp; done) | (go_simp; with_reducible rfl)
          simp only [List.getElem_toArray, List.getElem_cons_succ, List.getElem_cons_zero, Act.put, List.setIfInBounds_toArray, List.set_cons_zero, List.set_cons_succ]
          refine wpHead_ready (rs := [10]) (by kernel_rfl) (by simp) (by kernel_rfl) ?_
          refine AllHead.cons (by rfl) (fun K hK => ?_) ?_
          · refine step_callG (by rfl) (by kernel_rfl) (HRU wr6) ?_
            rintro e wr10 ⟨rfl, hx2⟩
            refine ⟨_, rfl, ?_⟩
            refine hK.out _ _ ?_ (fun hHeld => ?_)
            · exact hHeld.trans hx2
            clear hK K
            try simp only [List.getElem_toArray, List.getElem_cons_succ, List.getElem_cons_zero, Act.put, List.setIfInBounds_toArray, List.set_cons_zero, List.set_cons_succ]
            refine wpHead_take (i := 11) (v := ?_) (by rfl) (by kernel_rfl) (by kernel_rfl) (by exact fun _ _ _ h => h) (Or.inl ⟨by rfl, ?_⟩) (by assumption) ?_
            rotate_left
            · intro w hSw
              first | (go_simp; done) | (go_simp; with_reducible rfl)
            simp only [List.getElem_toArray, List.getElem_cons_succ, List.getElem_cons_zero, Act.put, List.setIfInBounds_toArray, List.set_cons_zero, List.set_cons_succ]
            refine wpHead_take (i := 12) (v := ?_) (by rfl) (by kernel_rfl) (by kernel_rfl) (by exact fun _ _ _ h => h) (Or.inl ⟨by rfl, ?_⟩) (by assumption) ?_
            rotate_left
            · intro w hSw
              first | (go_simp; done) | (go_simp; with_reducible rfl)
            simp only [List.getElem_toArray, List.getElem_cons_succ, List.getElem_cons_zero, Act.put, List.setIfInBounds_toArray, List.set_cons_zero, List.set_cons_succ]
            refine wpHead_done (by kernel_rfl) ?_
            have HX8 := Lib.hid hHeld
            have e6 := E6 _ hHeld
            have HCF := HCF _ hHeld
            have hmf : ∀ (fn : Fn) (first cap : Array Value) (w : World), (Instr.makeFunc fn first cap).run Try.prog w = .ok (.func fn first cap) w := fun _ _ _ _ => rfl
            have HCE : Hid ((s.to_.any fun a => decide (lowL a.1 = lowL lo)) = knownT s.to_ (lowL lo)) := Lib.hid rfl
            rw [HCE.out] at HCF
            clear HSA HRU E1 E2 hHeld hx1 hx2
            cases k3 : knownT s.to_ (lowL lo) with
            | true =>
              have HV : Hid (rcptT s r = (okB, s)) := Lib.hid (by rw [HV2.out, if_pos k3])
              rw [k3] at HCF
              clear k3 HV2 HCE
              go_wp2_with fail
              refine HCF.mono ?_
              rintro e w9 ⟨rfl, hx9⟩
              have HX9 := Lib.hid (HX5.out.trans (HX8.out.trans hx9))
              clear hx9 HCF
              go_wp2
              go_ret
              rw [HV.out]
              exact ⟨rfl, HS.out.ext HX9.out, .of_ext HX9.out⟩
            | false =>
              rw [k3] at HCF
              by_cases k4 : s.to_.length = 4
              · have HV : Hid (rcptT s r = (manyB, s)) := Lib.hid (by rw [HV2.out, if_neg (by simp [k3]), if_pos k4])
                have k4' : ((s.to_.length : Int) == 4) = true := by simp; omega
                clear k3 HV2 HCE k4
                have E6' := fun V (hx : Ext wr10 V) => E6 V (HX8.out.trans hx)
                go_wp2_with fail
                refine HCF.mono ?_
                rintro e w9 ⟨rfl, hx9⟩
                have e9 := E6' _ hx9
                have HX9 := Lib.hid (HX5.out.trans (HX8.out.trans hx9))
                clear hx9 HCF E6 E6'
                go_wp2
                go_ret
                rw [HV.out]
                exact ⟨rfl, HS.out.ext HX9.out, .of_ext HX9.out⟩
              · have HV : Hid (rcptT s r = (okB, ⟨s.buf, s.st, s.hello, s.fl, s.fd, s.to_ ++ [(lo, dm)]⟩)) := Lib.hid (by rw [HV2.out, if_neg (by simp [k3]), if_neg k4])
                have k4' : ((s.to_.length : Int) == 4) = false := by simp; omega
                have k5 : s.to_.length + 1 ≤ 4 := by omega
                clear k3 HV2 HCE k4
                have E6' := fun V (hx : Ext wr10 V) => E6 V (HX8.out.trans hx)
                go_wp2_with fail
                refine HCF.mono ?_
                rintro e w9 ⟨rfl, hx9⟩
                have e9 := E6' _ hx9
                have hx59 := HX8.out.trans hx9
                have HX59 := Lib.hid hx59
                have E69 := fun V (hx : Ext w9 V) => E6 V (hx59.trans hx)
                have EF9 := fun V j (hx : Ext w9 V) => EF V j (hx59.trans hx)
                have HCL := fun V (hx : Ext w9 V) => aclone_any A c s.to_ M V (HRS.out.kept (.of_ext (hx59.trans hx))) (by omega)
                have HG3 : ∀ V, Ext w9 V → V.rangeAt g3 0 [.string (st lo), .string (st dm)] := fun V hv => by
                  have := World.rangeAt_of_block ((hx59.trans hv).obj HR5.out) 0 2
                  simpa using this
                have hxd9 : Ext w9 w9.drew := (Ext.refl _).drew
                have HZ9 := Lib.hid (Nat.le_trans HX5.out.size hx59.size)
                clear hx9 HCF E6 E6' EF hx59 hxd e9
                go_wp2_with fail
                refine wp_region_phase (S := fun V => Ext w9 V) 9 (by kernel_rfl) (by kernel_rfl) ?_ (fun hHeld => ?_)
                · exact hxd9
                simp only [List.drop_succ_cons, List.drop_zero]
                refine name_head ?_
                intro wr0 hw0
                rw [hw0] at hHeld
                refine wpHead_take (i := 0) (v := ?_) (by rfl) (by kernel_rfl) (by kernel_rfl) (by exact fun _ _ _ h => h) (Or.inl ⟨by rfl, ?_⟩) (by assumption) ?_
                rotate_left
                · intro w hSw
                  first | (go_simp; done) | (go_simp; with_reducible rfl)
                simp only [List.getElem_toArray, List.getElem_cons_zero, Act.put, List.setIfInBounds_toArray, List.set_cons_zero, List.set_cons_succ]
                refine wpHead_take (i := 1) (v := ?_) (by rfl) (by kernel_rfl) (by kernel_rfl) (by exact fun _ _ _ h => h) (Or.inl ⟨by rfl, ?_⟩) (by assumption) ?_
                rotate_left
                · intro w hSw
                  first | (go_simp; done) | (go_simp; with_reducible rfl)
                simp only [List.getElem_toArray, List.getElem_cons_succ, List.getElem_cons_zero, Act.put, List.setIfInBounds_toArray, List.set_cons_zero, List.set_cons_succ]
                refine wpHead_take (i := 2) (v := ?_) (by rfl) (by kernel_rfl) (by kernel_rfl) (by exact fun _ _ _ h => h) (Or.inl ⟨by rfl, ?_⟩) (by assumption) ?_
                rotate_left
                · intro w hSw
                  first | (go_simp; done) | (go_simp; with_reducible rfl)
                simp only [List.getElem_toArray, List.getElem_cons_succ, List.getElem_cons_zero, Act.put, List.setIfInBounds_toArray, List.set_cons_zero, List.set_cons_succ]
                refine wpHead_take (i := 3) (v := ?_) (by rfl) (by kernel_rfl) (by kernel_rfl) (by exact fun _ _ _ h => h) (Or.inl ⟨by rfl, ?_⟩) (by assumption) ?_
                rotate_left
                · intro w hSw
                  first | (go_simp; done) | (go_simp; with_reducible rfl)
                simp only [List.getElem_toArray, List.getElem_cons_succ, List.getElem_cons_zero, Act.put, List.setIfInBounds_toArray, List.set_cons_zero, List.set_cons_succ]
                refine wpHead_take (i := 4) (v := ?_) (by rfl) (by kernel_rfl) (by kernel_rfl) (by exact fun _ _ _ h => h) (Or.inl ⟨by rfl, ?_⟩) (by assumption) ?_
                rotate_left
                · intro w hSw
                  first | (go_simp; done) | (go_simp; with_reducible rfl)
                simp only [List.getElem_toArray, List.getElem_cons_succ, List.getElem_cons_zero, Act.put, List.setIfInBounds_toArray, List.set_cons_zero, List.set_cons_succ]
                refine wpHead_take (i := 6) (v := (.agg #[.string (st lo), .string (st dm)])) (by rfl) (by kernel_rfl) (by kernel_rfl) (by exact fun _ _ _ h => h) (by exact yieldsIf_load_mid (by rfl) 35 _ rfl g3 0 rfl [.string (st lo), .string (st dm)] _ (fun w' hx => HG3 w' hx) Try.underlying35 rfl (ad_size (.string (st [])) (.string (st [])))) (by assumption) ?_
                simp only [List.getElem_toArray, List.getElem_cons_succ, List.getElem_cons_zero, Act.put, List.setIfInBounds_toArray, List.set_cons_zero, List.set_cons_succ]
                refine wpHead_ready (rs := [5, 7]) (by kernel_rfl) (by simp) (by kernel_rfl) ?_
                refine AllHead.cons (by rfl) (fun K hK => ?_) ?_
                · have hb5 := hHeld.size
                  refine step_callG (by rfl) (by kernel_rfl) (HCL _ hHeld) ?_
                  rintro e wr5 ⟨v5, rfl, ho5, hx5⟩
                  obtain ⟨A5, c5, rfl⟩ := ho5.form
                  try replace hsl7 := Sl.ext hsl7 hx5
                  refine ⟨_, rfl, ?_⟩
                  refine hK.out _ _ ?_ (fun hHeld => ?_)
                  · exact hHeld.trans hx5
                  clear hK K
                  try simp only [List.getElem_toArray, List.getElem_cons_succ, List.getElem_cons_zero, Act.put, List.setIfInBounds_toArray, List.set_cons_zero, List.set_cons_succ]
                  refine wpHead_ready (rs := [7]) (by kernel_rfl) (by simp) (by kernel_rfl) ?_
                  refine AllHead.cons (by rfl) (fun K hK => ?_) ?_
                  · go_simp
                    refine name_world ?_
                    rintro wr7 hw7
                    have hxn7 : Ext wr5 wr7 := hw7 ▸ (Ext.refl _).alloc _
                    have hrow7 : wr7.heap[wr5.heap.size]? = some (.cells #[.string (st lo), .string (st dm)] 35) := hw7 ▸ heap_alloc_new wr5 _
                    try replace ho5 := ho5.ext hxn7
                    have hsl7 := Sl.of_row (l := [.string (st lo), .string (st dm)]) hrow7
                    refine hK.out _ _ ?_ (fun hHeld => ?_)
                    · first | assumption | exact Ext.trans (by assumption) (by assumption)
                    clear hK K
                    try simp only [List.getElem_toArray, List.getElem_cons_succ, List.getElem_cons_zero, Act.put, List.setIfInBounds_toArray, List.set_cons_zero, List.set_cons_succ]
                    refine wpHead_ready (rs := [8]) (by kernel_rfl) (by simp) (by kernel_rfl) ?_
                    refine AllHead.cons (by rfl) (fun K hK => ?_) ?_
                    · have hHw8 := hHeld
                      obtain ⟨css, q1, q2, q3, q4⟩ := ho5
                      refine step_ap adT q3 hsl7 rfl rfl rfl rfl rfl (by simp [Value.oneCell']) (by omega) (by omega) (by have := hx5.size; have := hxn7.size; omega) ?_
                      rintro v8 wr8 ho8 hg8 hor8
                      refine hK.out _ _ ?_ (fun hHeld => ?_)
                      · exact hHeld.own q3 hb5 hg8
                      clear hK K
                      try simp only [List.getElem_toArray, List.getElem_cons_succ, List.getElem_cons_zero, Act.put, List.setIfInBounds_toArray, List.set_cons_zero, List.set_cons_succ]
                      refine wpHead_done (by kernel_rfl) ?_
                      obtain ⟨A8, c8, rfl⟩ := own_form ho8
                      have ho9 : OwnR RAd 2 35 M wr8 wr8 _ (.slice A8 (s.to_.length + 1) c8) (s.to_ ++ [(lo, dm)]) := OwnR.push q1 q2 (fun k cs x h1 h2 => q4 k cs x h1 h2) rfl rfl (by simpa using ho8)
                      have hcap := ho9.cap
                      have hrs9 := ho9.rsm (M := M) (Kept.refl _ _) (fun k hk => by have := HS5.out.lt k hk; have := HX59.out.size; omega)
                      have hs9 := HS5.out.ext (HX59.out.trans hHeld)
                      have hset := hs9.setTo A8 c8 _ hrs9 hcap.2.1 hcap.2.2 ⟨hs9.ok.buf, by simp; omega, fun a ha => by
                        rcases List.mem_append.1 ha with h1 | h1
                        · exact hs9.ok.ads a h1
                        · simp only [List.mem_cons, List.not_mem_nil, or_false] at h1
                          subst h1
                          exact hpl, hs9.ok.st⟩
                      rw [List.length_append, List.length_cons, List.length_nil] at hset
                      have HSET := Lib.hid hset
                      have HK := Lib.hid (Kept.of_ext (M := [p]) (HX5.out.trans (HX59.out.trans hHeld)))
                      have f6 := E69 _ hHeld
                      have ff := fun j => EF9 _ j hHeld
                      clear hset hs9 hrs9 hcap ho9 ho8 q1 q2 q3 q4 E69 EF9 HCL HG3 hsl7 hg8 hor8
                      go_wp2
                      go_ret
                      rw [HV.out]
                      exact ⟨rfl, HSET.out.1, HK.out.trans HSET.out.2⟩
                    exact AllHead.nil
                  exact AllHead.nil
                refine AllHead.cons (by rfl) (fun K hK => ?_) ?_
                · go_simp
                  refine name_world ?_
                  rintro wr7 hw7
                  have hxn7 : Ext wr0 wr7 := hw7 ▸ (Ext.refl _).alloc _
                  have hrow7 : wr7.heap[wr0.heap.size]? = some (.cells #[.string (st lo), .string (st dm)] 35) := hw7 ▸ heap_alloc_new wr0 _
                  try replace ho5 := ho5.ext hxn7
                  have hsl7 := Sl.of_row (l := [.string (st lo), .string (st dm)]) hrow7
                  refine hK.out _ _ ?_ (fun hHeld => ?_)
                  · first | assumption | exact Ext.trans (by assumption) (by assumption)
                  clear hK K
                  try simp only [List.getElem_toArray, List.getElem_cons_succ, List.getElem_cons_zero, Act.put, List.setIfInBounds_toArray, List.set_cons_zero, List.set_cons_succ]
                  refine wpHead_ready (rs := [5]) (by kernel_rfl) (by simp) (by kernel_rfl) ?_
                  refine AllHead.cons (by rfl) (fun K hK => ?_) ?_
                  · have hb5 := hHeld.size
                    refine step_callG (by rfl) (by kernel_rfl) (HCL _ hHeld) ?_
                    rintro e wr5 ⟨v5, rfl, ho5, hx5⟩
                    obtain ⟨A5, c5, rfl⟩ := ho5.form
                    try replace hsl7 := Sl.ext hsl7 hx5
                    refine ⟨_, rfl, ?_⟩
                    refine hK.out _ _ ?_ (fun hHeld => ?_)
                    · exact hHeld.trans hx5
                    clear hK K
                    try simp only [List.getElem_toArray, List.getElem_cons_succ, List.getElem_cons_zero, Act.put, List.setIfInBounds_toArray, List.set_cons_zero, List.set_cons_succ]
                    refine wpHead_ready (rs := [8]) (by kernel_rfl) (by simp) (by kernel_rfl) ?_
                    refine AllHead.cons (by rfl) (fun K hK => ?_) ?_
                    · have hHw8 := hHeld
                      obtain ⟨css, q1, q2, q3, q4⟩ := ho5
                      refine step_ap adT q3 hsl7 rfl rfl rfl rfl rfl (by simp [Value.oneCell']) (by omega) (by omega) (by have := hx5.size; have := hxn7.size; omega) ?_
                      rintro v8 wr8 ho8 hg8 hor8
                      refine hK.out _ _ ?_ (fun hHeld => ?_)
                      · exact hHeld.own q3 hb5 hg8
                      clear hK K
                      try simp only [List.getElem_toArray, List.getElem_cons_succ, List.getElem_cons_zero, Act.put, List.setIfInBounds_toArray, List.set_cons_zero, List.set_cons_succ]
                      refine wpHead_done (by kernel_rfl) ?_
                      obtain ⟨A8, c8, rfl⟩ := own_form ho8
                      have ho9 : OwnR RAd 2 35 M wr8 wr8 _ (.slice A8 (s.to_.length + 1) c8) (s.to_ ++ [(lo, dm)]) := OwnR.push q1 q2 (fun k cs x h1 h2 => q4 k cs x h1 h2) rfl rfl (by simpa using ho8)
                      have hcap := ho9.cap
                      have hrs9 := ho9.rsm (M := M) (Kept.refl _ _) (fun k hk => by have := HS5.out.lt k hk; have := HX59.out.size; omega)
                      have hs9 := HS5.out.ext (HX59.out.trans hHeld)
                      have hset := hs9.setTo A8 c8 _ hrs9 hcap.2.1 hcap.2.2 ⟨hs9.ok.buf, by simp; omega, fun a ha => by
                        rcases List.mem_append.1 ha with h1 | h1
                        · exact hs9.ok.ads a h1
                        · simp only [List.mem_cons, List.not_mem_nil, or_false] at h1
                          subst h1
                          exact hpl, hs9.ok.st⟩
                      rw [List.length_append, List.length_cons, List.length_nil] at hset
                      have HSET := Lib.hid hset
                      have HK := Lib.hid (Kept.of_ext (M := [p]) (HX5.out.trans (HX59.out.trans hHeld)))
                      have f6 := E69 _ hHeld
                      have ff := fun j => EF9 _ j hHeld
                      clear hset hs9 hrs9 hcap ho9 ho8 q1 q2 q3 q4 E69 EF9 HCL HG3 hsl7 hg8 hor8
                      go_wp2
                      go_ret
                      rw [HV.out]
                      exact ⟨rfl, HSET.out.1, HK.out.trans HSET.out.2⟩
                    exact AllHead.nil
                  exact AllHead.nil
                exact AllHead.nil
          exact AllHead.nil
        exact AllHead.nil
end Go.Proofs.Ytchokelpimibdaa
