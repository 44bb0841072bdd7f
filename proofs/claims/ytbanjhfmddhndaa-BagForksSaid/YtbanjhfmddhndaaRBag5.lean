/- The walks of the reference's Take and First. Conditions: those of IsRB; the bag's own block is older than the call. -/
import Derived.Test.YtbanjhfmddhndaaRBag4
namespace Go.Proofs.Ytbanjhfmddhndaa
open Go.RowKit
attribute [local go_sem] pt uv
theorem und_cells {M : List Nat} {w : World} {A : Option Addr} {l : List U} (h : RsM RU 3 M w A l) {k : Nat} (hk : k < l.length) :
    ∃ ad A2 cap2, A = some ad ∧ ad.block ∉ M ∧ BsM M w A2 l[k].by_ ∧ (∀ w', Ext w w' → w'.cell? (ad.add (k * 3)) = some (.int .i64 l[k].from_)) ∧
      (∀ w', Ext w w' → w'.cell? ⟨(ad.add (k * 3)).block, (ad.add (k * 3)).off + 1, none⟩ = some (.int .i64 l[k].to_)) ∧
      (∀ w', Ext w w' → w'.cell? ⟨(ad.add (k * 3)).block, (ad.add (k * 3)).off + 2, none⟩ = some (.slice A2 l[k].by_.length cap2)) := by
  obtain ⟨ad, cs, e, hn, _, hcell, A2, cap2, rfl, hby⟩ := h.at_ (by omega) hk
  exact ⟨ad, A2, cap2, e, hn, hby, fun w' hx => hx.cell (hcell 0 _ rfl), fun w' hx => hx.cell (by rw [← add_field ad (k * 3) 0]; exact hcell 1 _ rfl), fun w' hx => hx.cell (by rw [← add_field ad (k * 3) 1]; exact hcell 2 _ rfl)⟩
set_option maxHeartbeats 1000000 in
theorem RTake_keep (q i k : Nat) (r : Rg) (M : List Nat) (w : World) (h : IsRB M w q r) (hn : r.there.length ≤ 1000000) (hi : i ≤ 9223372036854775807) (hk : nth r.there i = some k) (hkl : k < r.all.length) :
    Calls Try.prog 29 #[pt q, .int .i64 i, .bool true] w fun e w' => ∃ A c, e = .returned (.tuple #[uv r.all[k] A c, .int .i64 0]) ∧ BsM M w' A r.all[k].by_ ∧ Ext w w' := by
  have hx := (Ext.refl w).alloc (.cells #[.int .i64 0, .int .i64 0, .slice none 0 0] 30)
  have HR := Rat_some q i k r M _ (h.ext hx) hn hi hk
  obtain ⟨d0, d1, d2, f0⟩ := row3_at (heap_alloc_new w (.cells #[.int .i64 0, .int .i64 0, .slice none 0 0] 30))
  obtain ⟨A, c, T, ct, h1, h2, h3, h4⟩ := h
  obtain ⟨c0, c1, c2, c3, cf⟩ := rows4 h1
  obtain ⟨ad, A2, cap2, rfl, hadM, hby, E0, E1, E2⟩ := und_cells h2 hkl
  have HK := Lib.hid hk
  have hkl2 : (k : Int) < r.all.length := by omega
  generalize r.all[k] = u at *
  clear hk h1 h2 h3 h4
  unfold pt at *
  go_enter Try.func29, Try.ntmps29
  go_wp2_with fail
  refine HR.mono ?_
  rintro e w1 ⟨rfl, rfl⟩
  go_wp2_with fail
  have hs3 := ((hx.setCell (p := ⟨w.heap.size, 0, none⟩) (Nat.le_refl _) (.int .i64 u.from_)).setCell (p := ⟨w.heap.size, 1, none⟩) (Nat.le_refl _) (.int .i64 u.to_)).setCell (p := ⟨w.heap.size, 2, none⟩) (Nat.le_refl _) (.slice A2 u.by_.length cap2)
  have hx2 := (Ext.refl w).alloc (.cells #[.int .i64 u.from_, .int .i64 u.to_, .slice A2 u.by_.length cap2] 30)
  refine bodyPost_ret (v := .tuple #[.agg #[.int .i64 u.from_, .int .i64 u.to_, .slice A2 u.by_.length cap2], .int .i64 0]) (by simp [results, Try.results29, go_sem]) rfl ?_
  first
    | exact ⟨A2, cap2, rfl, hby.kept (.of_ext hs3), hs3⟩
    | exact ⟨A2, cap2, rfl, hby.kept (.of_ext hx2), hx2⟩
set_option maxHeartbeats 1000000 in
theorem RTake_drop (q i k : Nat) (r : Rg) (M : List Nat) (w : World) (h : IsRB M w q r) (hM : ∀ k ∈ M, k < w.heap.size) (hq : q ∈ M) (hn : r.there.length ≤ 1000000) (hi : i ≤ 9223372036854775807) (hk : nth r.there i = some k) (hkl : k < r.all.length) :
    Calls Try.prog 29 #[pt q, .int .i64 i, .bool false] w fun e w' => ∃ A c, e = .returned (.tuple #[uv r.all[k] A c, .int .i64 0]) ∧ BsM M w' A r.all[k].by_ ∧ Kept [q] w w' ∧ IsRB M w' q ⟨r.most, r.all, r.there.set k false, r.gone⟩ := by
  have hx := (Ext.refl w).alloc (.cells #[.int .i64 0, .int .i64 0, .slice none 0 0] 30)
  have hz : (w.alloc (.cells #[.int .i64 0, .int .i64 0, .slice none 0 0] 30)).heap.size = w.heap.size + 1 := by simp
  have h' := (h.old (N := w.heap.size :: M) (by intro k hk; simp at hk; rcases hk with rfl | hk; exact .inr (Nat.le_refl _); exact .inl hk)).ext hx
  have HR := Rat_some q i k r _ _ h' hn hi hk
  have HO := Rout_ok q k r _ _ h' (by intro k hk; rw [hz]; simp at hk; rcases hk with rfl | hk; omega; have := hM k hk; omega) (by simp [hq]) hn (nth_lt hk).1
  have hnew := heap_alloc_new w (.cells #[.int .i64 0, .int .i64 0, .slice none 0 0] 30)
  have hqlt := h.lt
  have HK := Lib.hid hk
  have HM := Lib.hid hM
  have HZ := Lib.hid hz
  have hkl2 : (k : Int) < r.all.length := by omega
  have hne1 : ¬ w.heap.size = q := by omega
  have hne2 : ¬ q = w.heap.size := by omega
  obtain ⟨u, hu⟩ : ∃ u, u = r.all[k] := ⟨_, rfl⟩
  rw [← hu]
  have HU := Lib.hid hu
  clear hk h hM hz hu
  unfold pt at *
  go_enter Try.func29, Try.ntmps29
  go_wp2_with fail
  generalize w.alloc (.cells #[.int .i64 0, .int .i64 0, .slice none 0 0] 30) = wa at *
  refine HR.mono ?_
  rintro e w1 ⟨rfl, rfl⟩
  go_wp2_with fail
  refine HO.mono ?_
  rintro e w2 ⟨rfl, hk2, hb2⟩
  have HB2 := Lib.hid hb2
  obtain ⟨A, c, T, ct, b1, b2, b3, b4⟩ := hb2
  simp only [] at b1 b2
  obtain ⟨ad, A2, cap2, rfl, hadM, hby, E0, E1, E2⟩ := und_cells b2 hkl
  obtain ⟨c0, c1, c2, c3, cf⟩ := row4_at b1
  obtain ⟨d0, d1, d2, f0⟩ := row3_at (hk2.heap hnew (by simpa using hne1))
  rw [← HU.out] at E0 E1 E2 hby
  have e0 := E0 _ (Ext.refl w2)
  have e1 := E1 _ (Ext.refl w2)
  have e2 := E2 _ (Ext.refl w2)
  have hkw : Kept [q] w w2 := (Kept.of_ext hx).trans hk2
  clear b1 b2 b3 b4 E0 E1 E2 HR HO
  go_wp2_with fail
  refine bodyPost_ret (v := .tuple #[.agg #[.int .i64 u.from_, .int .i64 u.to_, .slice A2 u.by_.length cap2], .int .i64 0]) (by simp [results, Try.results29, go_sem, d0, d1, d2]) rfl ?_
  have hk3 := (((Kept.refl [w.heap.size] w2).setCell (p := ⟨w.heap.size, 0, none⟩) (.inl (by simp)) (.int .i64 u.from_)).setCell (p := ⟨w.heap.size, 1, none⟩) (.inl (by simp)) (.int .i64 u.to_)).setCell (p := ⟨w.heap.size, 2, none⟩) (.inl (by simp)) (.slice A2 u.by_.length cap2)
  have hk4 := ((hkw.setCell (p := ⟨w.heap.size, 0, none⟩) (.inr (Nat.le_refl _)) (.int .i64 u.from_)).setCell (p := ⟨w.heap.size, 1, none⟩) (.inr (Nat.le_refl _)) (.int .i64 u.to_)).setCell (p := ⟨w.heap.size, 2, none⟩) (.inr (Nat.le_refl _)) (.slice A2 u.by_.length cap2)
  exact ⟨A2, cap2, rfl, SlM.less (M := w.heap.size :: M) (SlM.kept hby (hk3.mono (by simp))) (by intro k hk; simp [hk]), hk4, (HB2.out.kept hk3 (by simpa using hne2) (by simp)).old (by intro k hk; exact .inl (by simp [hk]))⟩
theorem first_app {a b : List U} {u : U} {to : Int} (h : firstL a to = none) (he : u.to_ = to) : firstL (a ++ u :: b) to = some a.length := by
  refine first_at (k := a.length) (by simp) ?_ (by simpa using he)
  simpa using h
theorem first_app_no {a : List U} {u : U} {to : Int} (h : firstL a to = none) (he : ¬ u.to_ = to) : firstL (a ++ [u]) to = none := by
  unfold firstL at *
  rw [List.findIdx?_eq_none_iff] at *
  intro x hx
  rcases List.mem_append.1 hx with hx | hx
  · exact h x hx
  · simp at hx; subst hx; simpa using he
set_option maxHeartbeats 1000000 in
theorem RFirst_any (q : Nat) (to : Int) (r : Rg) (M : List Nat) (w : World) (h : IsRB M w q r) (hn : r.there.length ≤ 1000000) :
    Calls Try.prog 31 #[pt q, .int .i64 to] w fun e w' => FirstSays (lv r.all r.there) to e ∧ w = w' := by
  obtain ⟨A, c, T, ct, h1, h2, h3, h4⟩ := h
  obtain ⟨c0, c1, c2, c3, cf⟩ := row4_at h1
  have hall : r.all.length ≤ 1000000 := by omega
  have H4 := Lib.hid h4
  clear h1 h4
  unfold pt
  go_enter Try.func31, Try.ntmps31
  go_wp2
  go_loop [6, 7] (fun n i => ∃ k : Nat, k ≤ r.all.length ∧ i = .int .i64 k ∧ n = .int .i64 ((lv (r.all.take k) (r.there.take k)).length : Nat) ∧ firstL (lv (r.all.take k) (r.there.take k)) to = none) (fun _ i => r.all.length - (intOf i).toNat)
  case atStart => exact ⟨0, by omega, rfl, by simp [lv], by simp [lv, firstL]⟩
  case round =>
    obtain ⟨k, hk, rfl, rfl, ht⟩ := hrel
    have hl4 := H4.out
    have hlen := lv_len (a := r.all.take k) (s := r.there.take k) (by simp [hl4])
    have hcb := cntB_le (r.there.take k)
    rw [List.length_take] at hcb
    have hn0 : (lv (r.all.take k) (r.there.take k)).length ≤ 1000000 := by omega
    clear hlen hcb
    by_cases hlt : k < r.all.length
    · have hlt' : k < r.there.length := by omega
      obtain ⟨ad, A2, cap2, rfl, hadM, hby, E0, E1, E2⟩ := und_cells h2 hlt
      obtain ⟨ad2, rfl, hcell⟩ := Sl.now h3.sl (tv_get hlt')
      have e1 := E1 _ (Ext.refl w)
      have hlt2 : (k : Int) < r.all.length := by omega
      have hlt3 : (k : Int) < r.there.length := by omega
      have hs1 : lv (r.all.take (k + 1)) (r.there.take (k + 1)) = lv (r.all.take k) (r.there.take k) ++ lv [r.all[k]] [r.there[k]] := by
        rw [List.take_succ_eq_append_getElem hlt, List.take_succ_eq_append_getElem hlt', lv_append (by simp [hl4])]
      have hs2 : lv r.all r.there = lv (r.all.take k) (r.there.take k) ++ lv (r.all[k] :: r.all.drop (k + 1)) (r.there[k] :: r.there.drop (k + 1)) := by
        conv => lhs; rw [← List.take_append_drop k r.all, ← List.take_append_drop k r.there, List.drop_eq_getElem_cons hlt, List.drop_eq_getElem_cons hlt']
        rw [lv_append (by simp [hl4])]
      generalize r.there[k] = t at *
      generalize r.all[k] = u at *
      generalize lv (r.all.take k) (r.there.take k) = pre at *
      have HS1 := Lib.hid hs1
      have HS2 := Lib.hid hs2
      have HT := Lib.hid ht
      clear hs1 hs2 ht hl4 E0 E1 E2 hby
      cases t with
      | true =>
        by_cases he : u.to_ = to
        · have e2 : (u.to_ == to) = true := by rw [he]; exact beq_self_eq_true _
          have hq := Lib.hid (FirstSays.yes (l := lv r.all r.there) (to := to) (k := pre.length) (by rw [HS2.out]; exact first_app HT.out he))
          clear he
          go_wp2_with fail
          go_ret2
          exact ⟨hq.out, rfl⟩
        · have e2 : (u.to_ == to) = false := beq_eq_false_iff_ne.2 he
          have hq := Lib.hid (first_app_no HT.out he)
          clear he
          go_wp2_with fail
          go_round
          case rel => exact ⟨k + 1, by omega, by go_num, by rw [HS1.out]; simp [lv], by rw [HS1.out]; exact hq.out⟩
          case measure => simp [intOf]; omega
      | false =>
        go_wp2_with fail
        go_round
        case rel => exact ⟨k + 1, by omega, by go_num, by rw [HS1.out]; simp [lv], by rw [HS1.out]; simpa [lv] using HT.out⟩
        case measure => simp [intOf]; omega
    · have hk' : k = r.all.length := by omega
      subst hk'
      have hlt2 : ¬ (r.all.length : Int) < r.all.length := by omega
      have hf := Lib.hid (FirstSays.no (l := lv r.all r.there) (to := to) (by rwa [List.take_length, hl4, List.take_length] at ht))
      clear ht hl4 hn0
      go_wp2
      go_ret2
      exact ⟨hf.out, rfl⟩
end Go.Proofs.Ytbanjhfmddhndaa
