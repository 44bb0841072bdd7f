/- The walks of the reference's Sure and Read. Conditions: those of IsRf. -/
import Derived.Test.YtcnikfmcefnmoaaChecked
import Derived.Test.YtcnikfmcefnmoaaDe
import Derived.Test.YtcnikfmcefnmoaaRDk1
namespace Go.Proofs.Ytcnikfmcefnmoaa
open Go.RowKit
section
variable {M : List Nat} {q : Nat} {s : Dk} {A1 A2 : Option Addr} {c1 c2 : Nat}
theorem IsRf.sure_at {w : World} (h : IsRf M w q s A1 c1 A2 c2) {i : Nat} (hi : i < s.sure.length) : ∃ ad, A1 = some ad ∧ ad.block ∉ M ∧ ∀ w', Ext w w' → w'.cell? (ad.add i) = some (.string (st s.sure[i])) := by
  obtain ⟨ad, e, hn, hc⟩ := h.sl1 i (.string (st s.sure[i])) (by simp [sv, hi])
  exact ⟨ad, e, hn, fun w' hx => hx.cell hc⟩
theorem IsRf.wait_at {w : World} (h : IsRf M w q s A1 c1 A2 c2) {k : Nat} (hk : k < s.waits.length) : ∃ ad, A2 = some ad ∧ ad.block ∉ M ∧ (∀ w', Ext w w' → w'.cell? (ad.add (k * 2)) = some (.int .i64 ((s.waits[k]).1 : Int))) ∧
    (∀ w', Ext w w' → w'.cell? ⟨(ad.add (k * 2)).block, (ad.add (k * 2)).off + 1, none⟩ = some (.string (st (s.waits[k]).2))) := by
  have hg := fun j (hj : j < 2) => flatten_get (css := s.waits.map lw) (s := 2) (by intro cs hc; obtain ⟨p, _, rfl⟩ := List.mem_map.1 hc; rfl) k j (lw s.waits[k]) (by simp [hk]) hj
  obtain ⟨ad, e, hn, hc⟩ := h.sl2 (k * 2 + 0) (.int .i64 ((s.waits[k]).1 : Int)) (by rw [lws, hg 0 (by omega)]; rfl)
  obtain ⟨ad', e', _, hc'⟩ := h.sl2 (k * 2 + 1) (.string (st (s.waits[k]).2)) (by rw [lws, hg 1 (by omega)]; rfl)
  rw [e] at e'
  cases e'
  exact ⟨ad, e, hn, fun w' hx => hx.cell hc, fun w' hx => by rw [← add_field ad (k * 2) 0]; exact hx.cell hc'⟩
theorem RSure_any (w : World) (h : IsRf M w q s A1 c1 A2 c2) (i : Int) :
    Calls Try.prog 34 #[pt q, .int .i64 i] w fun e w' => ∃ A c, e = .returned (.tuple #[.slice A (sureL s i).length c, .int .i64 (wrongE s i false)]) ∧ Bs w' A (sureL s i) ∧ Ext w w' ∧ (sureL s i).length ≤ c := by
  obtain ⟨x0, x1, x2, x3, x4, cf⟩ := h.cells
  replace x0 := x0 w (Ext.refl w)
  clear x1 x2 x3 x4 cf
  unfold pt sureL wrongE
  simp only [Bool.false_eq_true, false_and, if_false]
  by_cases hi0 : i < 0
  · rw [if_neg (show ¬ (0 ≤ i ∧ i < s.sure.length) by omega), if_pos (by simp)]
    clear h
    go_enter Try.func34, Try.ntmps34
    go_wp2
    go_ret2
    first | exact ⟨none, 0, rfl, Sl.nil _ _, Ext.refl _, by simp⟩ | exact ⟨0, rfl, Sl.nil _ _, Ext.refl _, by simp⟩ | exact ⟨none, ⟨0, rfl⟩, Sl.nil _ _, Ext.refl _⟩
  · by_cases hi1 : i < (s.sure.length : Int)
    · obtain ⟨k, rfl⟩ : ∃ k : Nat, i = k := ⟨i.toNat, by omega⟩
      have hk : k < s.sure.length := by omega
      rw [if_pos (show (0 : Int) ≤ k ∧ (k : Int) < s.sure.length by omega), if_neg (by simp)]
      obtain ⟨ad, rfl, _, hc⟩ := h.sure_at hk
      have hc := hc w (Ext.refl w)
      have e : s.sure.getD (k : Int).toNat [] = s.sure[k] := by rw [Int.toNat_natCast, List.getD_eq_getElem?_getD, List.getElem?_eq_getElem hk]; rfl
      rw [e]
      obtain ⟨cap, W, hcv, hx, hb, hl⟩ := conv_bytes w (st s.sure[k])
      have HB := Lib.hid hb
      have HL := Lib.hid hl
      have hz : (st s.sure[k]).size = (s.sure[k]).length := st_size _
      rw [hz] at hcv
      clear h e hb hl
      go_enter Try.func34, Try.ntmps34
      go_wp2
      go_ret2
      exact ⟨_, cap, rfl, by have := HB.out.bs; rwa [tl_st] at this, hx, by have := HL.out; rwa [st_size] at this⟩
    · rw [if_neg (show ¬ (0 ≤ i ∧ i < s.sure.length) by omega), if_pos (by simp)]
      clear h
      go_enter Try.func34, Try.ntmps34
      go_wp2
      go_ret2
      first | exact ⟨none, 0, rfl, Sl.nil _ _, Ext.refl _, by simp⟩ | exact ⟨0, rfl, Sl.nil _ _, Ext.refl _, by simp⟩ | exact ⟨none, ⟨0, rfl⟩, Sl.nil _ _, Ext.refl _⟩
set_option maxHeartbeats 1000000 in
theorem RRead_any (w : World) (h : IsRf M w q s A1 c1 A2 c2) (hm : s.waits.length ≤ 1000000) (i : Int) :
    Calls Try.prog 31 #[pt q, .int .i64 i] w fun e w' => ∃ A c, e = .returned (.tuple #[.slice A (readL s i).length c, .int .i64 (wrongE s i true)]) ∧ Bs w' A (readL s i) ∧ Ext w w' ∧ (readL s i).length ≤ c := by
  obtain ⟨x0, x1, x2, x3, x4, cf⟩ := h.cells
  replace x2 := x2 w (Ext.refl w)
  clear x3 x4 cf
  unfold pt readL wrongE
  by_cases hd : s.down = true
  · rw [hd] at x2
    simp only [hd, and_self, if_true]
    rw [if_pos (by simp)]
    clear h x0 x1 hd
    go_enter Try.func31, Try.ntmps31
    go_wp2
    go_ret2
    first | exact ⟨none, 0, rfl, Sl.nil _ _, Ext.refl _, by simp⟩ | exact ⟨0, rfl, Sl.nil _ _, Ext.refl _, by simp⟩ | exact ⟨none, ⟨0, rfl⟩, Sl.nil _ _, Ext.refl _⟩
  · have hd' : s.down = false := by simpa using hd
    rw [hd'] at x2
    simp only [hd', Bool.false_eq_true, and_false, if_false]
    clear hd hd'
    by_cases hi0 : i < 0
    · rw [if_neg (show ¬ (0 ≤ i ∧ i < s.sure.length) by omega), if_pos (by simp)]
      replace x0 := x0 w (Ext.refl w)
      clear h x1
      go_enter Try.func31, Try.ntmps31
      go_wp2
      go_ret2
      first | exact ⟨none, 0, rfl, Sl.nil _ _, Ext.refl _, by simp⟩ | exact ⟨0, rfl, Sl.nil _ _, Ext.refl _, by simp⟩ | exact ⟨none, ⟨0, rfl⟩, Sl.nil _ _, Ext.refl _⟩
    · by_cases hi1 : i < (s.sure.length : Int)
      · obtain ⟨k, rfl⟩ : ∃ k : Nat, i = k := ⟨i.toNat, by omega⟩
        have hk : k < s.sure.length := by omega
        rw [if_pos (show (0 : Int) ≤ k ∧ (k : Int) < s.sure.length by omega), if_neg (by simp), Int.toNat_natCast]
        obtain ⟨ad, rfl, _, hc⟩ := h.sure_at hk
        have hc := hc w (Ext.refl w)
        replace x0 := x0 w (Ext.refl w)
        have e : s.sure.getD k [] = s.sure[k] := by rw [List.getD_eq_getElem?_getD, List.getElem?_eq_getElem hk]; rfl
        have hread : readS s k = (s.waits.take s.waits.length).foldl (fun p x => if x.1 = k then x.2 else p) s.sure[k] := by
          unfold readS
          rw [List.take_length, e]
        have HRD := Lib.hid hread
        have HWT := Lib.hid (fun j (hj : j < s.waits.length) => h.wait_at hj)
        generalize s.sure[k] = pg at *
        generalize readS s k = res at *
        clear h e hread
        generalize s.waits = ws at *
        go_enter Try.func31, Try.ntmps31
        go_wp2
        go_loopw [6, 7] (fun o n wr => ∃ j : Nat, n = .int .i64 j ∧ j ≤ ws.length ∧ o = .string (st ((ws.take j).foldl (fun p x => if x.1 = k then x.2 else p) pg)) ∧ wr = w) (fun _ n _ => ws.length - (intOf n).toNat)
        case atStart => exact ⟨0, rfl, by omega, rfl, rfl⟩
        case round =>
          obtain ⟨j, rfl, hj, rfl, rfl⟩ := hrel
          replace x1 := x1 wr (Ext.refl wr)
          by_cases hlt : j < ws.length
          · have hjn : (j : Int) < (ws.length : Int) := by omega
            obtain ⟨ad2, rfl, _, y1, y2⟩ := HWT.out j hlt
            have y1 := y1 wr (Ext.refl wr)
            have y2 := y2 wr (Ext.refl wr)
            have hstep : (ws.take (j + 1)).foldl (fun p x => if x.1 = k then x.2 else p) pg = if (ws[j]).1 = k then (ws[j]).2 else (ws.take j).foldl (fun p x => if x.1 = k then x.2 else p) pg := by
              rw [List.take_add_one, List.getElem?_eq_getElem hlt, Option.toList_some, List.foldl_append]
              rfl
            have HST := Lib.hid hstep
            clear hstep
            generalize ws[j] = xx at *
            obtain ⟨xi, xp⟩ := xx
            simp only at HST y1 y2
            generalize (ws.take j).foldl (fun p x => if x.1 = k then x.2 else p) pg = cur at *
            by_cases hxi : xi = k
            · have ht : ((xi : Int) == (k : Int)) = true := by rw [hxi]; simp
              rw [if_pos hxi] at HST
              clear hxi
              go_wp2
              go_roundw
              case rel => exact ⟨j + 1, by go_num, by omega, by rw [HST.out], by first | rfl | trivial⟩
              case measure => simp [intOf]; omega
            · have ht : ((xi : Int) == (k : Int)) = false := by simpa using fun e => hxi (by omega)
              rw [if_neg hxi] at HST
              clear hxi
              go_wp2
              go_roundw
              case rel => exact ⟨j + 1, by go_num, by omega, by rw [HST.out], by first | rfl | trivial⟩
              case measure => simp [intOf]; omega
          · have hjn : ¬ (j : Int) < (ws.length : Int) := by omega
            have hjj : j = ws.length := by omega
            subst hjj
            rw [← HRD.out]
            obtain ⟨cap, W, hcv, hx, hb, hl⟩ := conv_bytes wr (st res)
            have HB := Lib.hid hb
            have HL := Lib.hid hl
            have hz : (st res).size = res.length := st_size _
            rw [hz] at hcv
            clear hb hl
            go_wp2
            go_ret2
            exact ⟨_, cap, rfl, by have := HB.out.bs; rwa [tl_st] at this, hx, by have := HL.out; rwa [st_size] at this⟩
      · rw [if_neg (show ¬ (0 ≤ i ∧ i < s.sure.length) by omega), if_pos (by simp)]
        replace x0 := x0 w (Ext.refl w)
        clear h x1
        go_enter Try.func31, Try.ntmps31
        go_wp2
        go_ret2
        first | exact ⟨none, 0, rfl, Sl.nil _ _, Ext.refl _, by simp⟩ | exact ⟨0, rfl, Sl.nil _ _, Ext.refl _, by simp⟩ | exact ⟨none, ⟨0, rfl⟩, Sl.nil _ _, Ext.refl _⟩
end
end Go.Proofs.Ytcnikfmcefnmoaa
