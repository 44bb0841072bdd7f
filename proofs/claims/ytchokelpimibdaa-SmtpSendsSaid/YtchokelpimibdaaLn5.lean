/- The walks of Stuff and Unstuff, the program's and the reference's. Conditions: the lengths named. -/
import Derived.Test.YtchokelpimibdaaLn4
namespace Go.Proofs.Ytchokelpimibdaa
open Go.RowKit
/-- the flag behind a letter -/
theorem beg_flag {l : List UInt8} {k : Nat} (hk : k < l.length) : beg l (k + 1) = (l[k] == 10 && decide (0 < k) && l[k - 1] == 13) := by
  have e : l[k]? = some l[k] := List.getElem?_eq_getElem hk
  rcases Nat.eq_zero_or_pos k with rfl | h0
  · simp [beg]
  · have e2 : l[k - 1]? = some l[k - 1] := List.getElem?_eq_getElem (by omega)
    rw [Bool.eq_iff_iff, beg_pos (by omega), ends_iff, show k + 1 - 2 = k - 1 by omega, show k - 1 + 1 = k by omega, e, e2]
    simp
    constructor
    · rintro ⟨_, h1, h2⟩; exact ⟨⟨h2, h0⟩, h1⟩
    · rintro ⟨⟨h1, _⟩, h2⟩; exact ⟨by omega, h2, h1⟩
theorem stuff_two {l : List UInt8} {k : Nat} (hk : k < l.length) (hc : l[k] = 46) (hb : beg l k = true) : stuffTo l (k + 1) = stuffTo l k ++ [46] ++ [46] := by
  rw [stuffTo_succ]; unfold stuff1; rw [List.getElem?_eq_getElem hk, hc, hb]; simp
theorem stuff_one {l : List UInt8} {k : Nat} (hk : k < l.length) (h : ¬ (l[k] = 46 ∧ beg l k = true)) : stuffTo l (k + 1) = stuffTo l k ++ [l[k]] := by
  rw [stuffTo_succ]; unfold stuff1; rw [List.getElem?_eq_getElem hk, if_neg (by simpa using h)]; simp
theorem Bs.one (w : World) (c : UInt8) : Bs (w.alloc (.cells #[.int .u8 (c.toNat : Int)] 5)) (some ⟨w.heap.size, 0, none⟩) [c] := Bs.new w [c] _ rfl 5 (0, 0)
set_option maxHeartbeats 4000000 in
set_option maxRecDepth 100000 in
theorem LStuff_any (A : Option Addr) (n c : Nat) (l : List UInt8) (w : World) (h : Bs w A l) (hn : n = l.length) (hl : l.length ≤ 4000000000) :
    Calls Try.prog 14 #[.slice A n c] w fun e w' => ∃ v, e = .returned v ∧ Own w' w.heap.size v (stuffed l) ∧ Ext w w' := by
  subst hn
  have HB := Lib.hid h
  clear h
  go_enter Try.func14, Try.ntmps14
  go_wp2
  go_loopw [3, 4, 9] (fun o b i wr => ∃ (k : Nat) (v : Value), o = v ∧ i = .int .i64 k ∧ b = .bool (beg l k) ∧ k ≤ l.length ∧ Own wr w.heap.size v (stuffTo l k) ∧ Ext w wr) (fun _ _ i _ => l.length - (intOf i).toNat)
  case atStart => exact ⟨0, _, rfl, rfl, rfl, by omega, Own.nil _ _, Ext.refl _⟩
  case round =>
    obtain ⟨k, v, rfl, rfl, rfl, hk, ho, hx⟩ := hrel
    by_cases hlt : k < l.length
    · have hlk : k < l.length := hlt
      have hlt1 : (k : Int) < (l.length : Int) := by omega
      obtain ⟨ad, rfl, h0⟩ := HB.out.at_ hlt
      have c0 := h0 wr hx
      have HLEN := Lib.hid (stuffTo_le l k)
      have hfl := beg_flag hlt
      clear h0
      cases hb : beg l k with
      | true =>
        by_cases h46 : l[k] = 46
        · have t46 : ((l[k].toNat : Int) == 46) = true := by rw [h46]; rfl
          have t10 : ((l[k].toNat : Int) == 10) = false := by rw [h46]; rfl
          have HST : Hid (stuffTo l (k + 1) = stuffTo l k ++ [46] ++ [46]) := Lib.hid (stuff_two hlk h46 hb)
          have HFL : Hid (beg l (k + 1) = false) := Lib.hid (by rw [hfl, h46]; rfl)
          have hx46 := h46
          clear hfl hb
          generalize l[k] = x at *
          subst hx46
          clear h46
          go_wp2_with (at_builtin; refine unstop ?_)
          refine go_on (wpList_appB bytesTc (ho.alloc _) (Bs.one _ 46) rfl rfl rfl rfl rfl (by have := HLEN.out; simp only [List.length_cons, List.length_nil]; omega) (by have := hx.size; simp; omega) ?_)
          intro v1 w1 ho1 hg1 hor1
          have hx1 : Ext w w1 := Ext.own (hx.alloc _) (ho.alloc _) (Nat.le_refl _) hg1
          clear hg1 hor1
          go_wp2_with (at_builtin; refine unstop ?_)
          refine go_on (wpList_appB bytesTc (ho1.alloc _) (Bs.one _ 46) rfl rfl rfl rfl rfl (by have := HLEN.out; simp only [List.length_append, List.length_cons, List.length_nil]; omega) (by have := hx1.size; simp; omega) ?_)
          intro v2 w2 ho2 hg2 hor2
          have hx2 : Ext w w2 := Ext.own (hx1.alloc _) (ho1.alloc _) (Nat.le_refl _) hg2
          clear hg2 hor2
          rw [← HST.out] at ho2
          go_wp2
          go_roundw
          case rel => exact ⟨k + 1, v2, rfl, by go_num, by rw [HFL.out], by omega, ho2, hx2⟩
          case measure => simp [intOf]; omega
        · have t46 : ((l[k].toNat : Int) == 46) = false := u8_ne 46 (by omega) h46
          by_cases h10 : l[k] = 10
          · by_cases hk0 : k = 0
            · have HFL : Hid (beg l (k + 1) = false) := Lib.hid (by rw [hfl]; simp [hk0])
              have t10 : ((l[k].toNat : Int) == 10) = true := by rw [h10]; rfl
              have tk : ¬ (0 : Int) < (k : Int) := by omega
              have HST : Hid (stuffTo l (k + 1) = stuffTo l k ++ [l[k]]) := Lib.hid (stuff_one hlk (fun h => h46 h.1))
              clear h46
              clear hfl hb h10 hk0
              generalize l[k] = x at *
              go_wp2_with (at_builtin; refine unstop ?_)
              refine go_on (wpList_appB bytesTc (ho.alloc _) (Bs.one _ x) rfl rfl rfl rfl rfl (by have := HLEN.out; simp only [List.length_cons, List.length_nil]; omega) (by have := hx.size; simp; omega) ?_)
              intro v1 w1 ho1 hg1 hor1
              have hx1 : Ext w w1 := Ext.own (hx.alloc _) (ho.alloc _) (Nat.le_refl _) hg1
              clear hg1 hor1
              rw [← HST.out] at ho1
              go_wp2
              go_roundw
              case rel => exact ⟨k + 1, v1, rfl, by go_num, by rw [HFL.out], by omega, ho1, hx1⟩
              case measure => simp [intOf]; omega
            · by_cases hpr : l[k - 1] = 13
              · have t10 : ((l[k].toNat : Int) == 10) = true := by rw [h10]; rfl
                have tk : (0 : Int) < (k : Int) := by omega
                have tk1 : (k : Int) - 1 < (l.length : Int) := by omega
                have tk2 : (0 : Int) ≤ (k : Int) - 1 := by omega
                obtain ⟨ad', e', h1⟩ := HB.out.at_ (k := k - 1) (by omega)
                cases e'
                have HFL : Hid (beg l (k + 1) = true) := Lib.hid (by rw [hfl]; simp [h10, hpr]; omega)
                have t13 : ((l[k - 1].toNat : Int) == 13) = true := by rw [hpr]; rfl
                generalize l[k - 1] = y at *
                have HST : Hid (stuffTo l (k + 1) = stuffTo l k ++ [l[k]]) := Lib.hid (stuff_one hlk (fun h => h46 h.1))
                clear h46
                clear hfl hb h10 hpr hk0
                generalize l[k] = x at *
                go_wp2_with (at_builtin; refine unstop ?_)
                refine go_on (wpList_appB bytesTc (ho.alloc _) (Bs.one _ x) rfl rfl rfl rfl rfl (by have := HLEN.out; simp only [List.length_cons, List.length_nil]; omega) (by have := hx.size; simp; omega) ?_)
                intro v1 w1 ho1 hg1 hor1
                have hx1 : Ext w w1 := Ext.own (hx.alloc _) (ho.alloc _) (Nat.le_refl _) hg1
                clear hg1 hor1
                have c1 := h1 w1 hx1
                clear h1
                rw [← HST.out] at ho1
                go_wp2
                go_roundw
                case rel => exact ⟨k + 1, v1, rfl, by go_num, by rw [HFL.out], by omega, ho1, hx1⟩
                case measure => simp [intOf]; omega
              · have t10 : ((l[k].toNat : Int) == 10) = true := by rw [h10]; rfl
                have tk : (0 : Int) < (k : Int) := by omega
                have tk1 : (k : Int) - 1 < (l.length : Int) := by omega
                have tk2 : (0 : Int) ≤ (k : Int) - 1 := by omega
                obtain ⟨ad', e', h1⟩ := HB.out.at_ (k := k - 1) (by omega)
                cases e'
                have hz : (l[k - 1] == 13) = false := by simpa using hpr
                have HFL : Hid (beg l (k + 1) = false) := Lib.hid (by rw [hfl, hz]; simp)
                clear hz
                have t13 : ((l[k - 1].toNat : Int) == 13) = false := u8_ne 13 (by omega) hpr
                generalize l[k - 1] = y at *
                have HST : Hid (stuffTo l (k + 1) = stuffTo l k ++ [l[k]]) := Lib.hid (stuff_one hlk (fun h => h46 h.1))
                clear h46
                clear hfl hb h10 hpr hk0
                generalize l[k] = x at *
                go_wp2_with (at_builtin; refine unstop ?_)
                refine go_on (wpList_appB bytesTc (ho.alloc _) (Bs.one _ x) rfl rfl rfl rfl rfl (by have := HLEN.out; simp only [List.length_cons, List.length_nil]; omega) (by have := hx.size; simp; omega) ?_)
                intro v1 w1 ho1 hg1 hor1
                have hx1 : Ext w w1 := Ext.own (hx.alloc _) (ho.alloc _) (Nat.le_refl _) hg1
                clear hg1 hor1
                have c1 := h1 w1 hx1
                clear h1
                rw [← HST.out] at ho1
                go_wp2
                go_roundw
                case rel => exact ⟨k + 1, v1, rfl, by go_num, by rw [HFL.out], by omega, ho1, hx1⟩
                case measure => simp [intOf]; omega
          · have hz : (l[k] == 10) = false := by simpa using h10
            have HFL : Hid (beg l (k + 1) = false) := Lib.hid (by rw [hfl, hz]; rfl)
            clear hz
            have t10 : ((l[k].toNat : Int) == 10) = false := u8_ne 10 (by omega) h10
            have HST : Hid (stuffTo l (k + 1) = stuffTo l k ++ [l[k]]) := Lib.hid (stuff_one hlk (fun h => h46 h.1))
            clear h46
            clear hfl hb h10
            generalize l[k] = x at *
            go_wp2_with (at_builtin; refine unstop ?_)
            refine go_on (wpList_appB bytesTc (ho.alloc _) (Bs.one _ x) rfl rfl rfl rfl rfl (by have := HLEN.out; simp only [List.length_cons, List.length_nil]; omega) (by have := hx.size; simp; omega) ?_)
            intro v1 w1 ho1 hg1 hor1
            have hx1 : Ext w w1 := Ext.own (hx.alloc _) (ho.alloc _) (Nat.le_refl _) hg1
            clear hg1 hor1
            rw [← HST.out] at ho1
            go_wp2
            go_roundw
            case rel => exact ⟨k + 1, v1, rfl, by go_num, by rw [HFL.out], by omega, ho1, hx1⟩
            case measure => simp [intOf]; omega
      | false =>
        by_cases h10 : l[k] = 10
        · by_cases hk0 : k = 0
          · rw [hk0] at hb; cases hb
          · by_cases hpr : l[k - 1] = 13
            · have t10 : ((l[k].toNat : Int) == 10) = true := by rw [h10]; rfl
              have tk : (0 : Int) < (k : Int) := by omega
              have tk1 : (k : Int) - 1 < (l.length : Int) := by omega
              have tk2 : (0 : Int) ≤ (k : Int) - 1 := by omega
              obtain ⟨ad', e', h1⟩ := HB.out.at_ (k := k - 1) (by omega)
              cases e'
              have HFL : Hid (beg l (k + 1) = true) := Lib.hid (by rw [hfl]; simp [h10, hpr]; omega)
              have t13 : ((l[k - 1].toNat : Int) == 13) = true := by rw [hpr]; rfl
              generalize l[k - 1] = y at *
              have HST : Hid (stuffTo l (k + 1) = stuffTo l k ++ [l[k]]) := Lib.hid (stuff_one hlk (fun h => by rw [hb] at h; cases h.2))
              clear hfl hb h10 hpr hk0
              generalize l[k] = x at *
              go_wp2_with (at_builtin; refine unstop ?_)
              refine go_on (wpList_appB bytesTc (ho.alloc _) (Bs.one _ x) rfl rfl rfl rfl rfl (by have := HLEN.out; simp only [List.length_cons, List.length_nil]; omega) (by have := hx.size; simp; omega) ?_)
              intro v1 w1 ho1 hg1 hor1
              have hx1 : Ext w w1 := Ext.own (hx.alloc _) (ho.alloc _) (Nat.le_refl _) hg1
              clear hg1 hor1
              have c1 := h1 w1 hx1
              clear h1
              rw [← HST.out] at ho1
              go_wp2
              go_roundw
              case rel => exact ⟨k + 1, v1, rfl, by go_num, by rw [HFL.out], by omega, ho1, hx1⟩
              case measure => simp [intOf]; omega
            · have t10 : ((l[k].toNat : Int) == 10) = true := by rw [h10]; rfl
              have tk : (0 : Int) < (k : Int) := by omega
              have tk1 : (k : Int) - 1 < (l.length : Int) := by omega
              have tk2 : (0 : Int) ≤ (k : Int) - 1 := by omega
              obtain ⟨ad', e', h1⟩ := HB.out.at_ (k := k - 1) (by omega)
              cases e'
              have hz : (l[k - 1] == 13) = false := by simpa using hpr
              have HFL : Hid (beg l (k + 1) = false) := Lib.hid (by rw [hfl, hz]; simp)
              clear hz
              have t13 : ((l[k - 1].toNat : Int) == 13) = false := u8_ne 13 (by omega) hpr
              generalize l[k - 1] = y at *
              have HST : Hid (stuffTo l (k + 1) = stuffTo l k ++ [l[k]]) := Lib.hid (stuff_one hlk (fun h => by rw [hb] at h; cases h.2))
              clear hfl hb h10 hpr hk0
              generalize l[k] = x at *
              go_wp2_with (at_builtin; refine unstop ?_)
              refine go_on (wpList_appB bytesTc (ho.alloc _) (Bs.one _ x) rfl rfl rfl rfl rfl (by have := HLEN.out; simp only [List.length_cons, List.length_nil]; omega) (by have := hx.size; simp; omega) ?_)
              intro v1 w1 ho1 hg1 hor1
              have hx1 : Ext w w1 := Ext.own (hx.alloc _) (ho.alloc _) (Nat.le_refl _) hg1
              clear hg1 hor1
              have c1 := h1 w1 hx1
              clear h1
              rw [← HST.out] at ho1
              go_wp2
              go_roundw
              case rel => exact ⟨k + 1, v1, rfl, by go_num, by rw [HFL.out], by omega, ho1, hx1⟩
              case measure => simp [intOf]; omega
        · have hz : (l[k] == 10) = false := by simpa using h10
          have HFL : Hid (beg l (k + 1) = false) := Lib.hid (by rw [hfl, hz]; rfl)
          clear hz
          have t10 : ((l[k].toNat : Int) == 10) = false := u8_ne 10 (by omega) h10
          have HST : Hid (stuffTo l (k + 1) = stuffTo l k ++ [l[k]]) := Lib.hid (stuff_one hlk (fun h => by rw [hb] at h; cases h.2))
          clear hfl hb h10
          generalize l[k] = x at *
          go_wp2_with (at_builtin; refine unstop ?_)
          refine go_on (wpList_appB bytesTc (ho.alloc _) (Bs.one _ x) rfl rfl rfl rfl rfl (by have := HLEN.out; simp only [List.length_cons, List.length_nil]; omega) (by have := hx.size; simp; omega) ?_)
          intro v1 w1 ho1 hg1 hor1
          have hx1 : Ext w w1 := Ext.own (hx.alloc _) (ho.alloc _) (Nat.le_refl _) hg1
          clear hg1 hor1
          rw [← HST.out] at ho1
          go_wp2
          go_roundw
          case rel => exact ⟨k + 1, v1, rfl, by go_num, by rw [HFL.out], by omega, ho1, hx1⟩
          case measure => simp [intOf]; omega
    · have hlt1 : ¬ (k : Int) < (l.length : Int) := by omega
      have hkl : k = l.length := by omega
      have HLEN := Lib.hid (stuffTo_le l k)
      cases hb : beg l k with
      | true =>
        have HFI : Hid (stuffed l = stuffTo l k ++ [46, 13, 10]) := Lib.hid (by unfold stuffed; rw [← hkl, hb]; simp)
        clear hkl hb
        go_wp2_with (at_builtin; refine unstop ?_)
        refine go_on (wpList_appB bytesTc (ho.alloc _) (Bs.new _ [46, 13, 10] _ rfl 5 (0, 0)) rfl rfl rfl rfl rfl (by have := HLEN.out; simp only [List.length_cons, List.length_nil]; omega) (by have := hx.size; simp; omega) ?_)
        intro v1 w1 ho1 hg1 hor1
        have hx1 : Ext w w1 := Ext.own (hx.alloc _) (ho.alloc _) (Nat.le_refl _) hg1
        clear hg1 hor1
        rw [← HFI.out] at ho1
        go_wp2
        go_ret
        exact ⟨v1, rfl, ho1, hx1⟩
      | false =>
        have HFI : Hid (stuffed l = stuffTo l k ++ [13, 10] ++ [46, 13, 10]) := Lib.hid (by unfold stuffed; rw [← hkl, hb]; simp)
        clear hkl hb
        go_wp2_with fail
        refine (end_any _).mono ?_
        rintro e w3 ⟨g, rfl, hx3, hb3⟩
        go_wp2_with (at_builtin; refine unstop ?_)
        refine go_on (wpList_appB bytesTc (ho.ext hx3) hb3 rfl rfl rfl rfl rfl (by have := HLEN.out; simp only [List.length_cons, List.length_nil]; omega) (by have := hx.size; have := hx3.size; omega) ?_)
        intro v1 w1 ho1 hg1 hor1
        have hx1 : Ext w w1 := Ext.own (hx.trans hx3) (ho.ext hx3) (Nat.le_refl _) hg1
        clear hg1 hor1
        go_wp2_with (at_builtin; refine unstop ?_)
        refine go_on (wpList_appB bytesTc (ho1.alloc _) (Bs.new _ [46, 13, 10] _ rfl 5 (0, 0)) rfl rfl rfl rfl rfl (by have := HLEN.out; simp only [List.length_append, List.length_cons, List.length_nil]; omega) (by have := hx1.size; simp; omega) ?_)
        intro v2 w2 ho2 hg2 hor2
        have hx2 : Ext w w2 := Ext.own (hx1.alloc _) (ho1.alloc _) (Nat.le_refl _) hg2
        clear hg2 hor2
        rw [← HFI.out] at ho2
        go_wp2
        go_ret
        exact ⟨v2, rfl, ho2, hx2⟩
end Go.Proofs.Ytchokelpimibdaa
