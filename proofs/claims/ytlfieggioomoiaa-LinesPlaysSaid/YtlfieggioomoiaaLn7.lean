/- The walks of the reference's Stuff and Unstuff, and of Body on both. Conditions: the lengths named; those of IsLn and IsBuf. -/
import Derived.Test.YtlfieggioomoiaaLn6
namespace Go.Proofs.Ytlfieggioomoiaa
open Go.RowKit
set_option maxHeartbeats 4000000 in
set_option maxRecDepth 100000 in
theorem RStuff_any (A : Option Addr) (n c : Nat) (l : List UInt8) (w : World) (h : Bs w A l) (hn : n = l.length) (hl : l.length ≤ 4000000000) :
    Calls Try.prog 17 #[.slice A n c] w fun e w' => ∃ v, e = .returned v ∧ Own w' w.heap.size v (stuffed l) ∧ Ext w w' := by
  subst hn
  have HB := Lib.hid h
  have HBE := fun W (hx : Ext w W) k hk => (RBegins_any A l.length c l k W (h.ext hx) rfl hk).mono (R' := fun e w' => e = .returned (.bool (beg l k)) ∧ W = w') (fun _ _ ⟨h1, h2⟩ => ⟨h1, h2.symm⟩)
  have hem := Own.empty w w.heap.size (Nat.le_refl _)
  have hxe := (Ext.refl w).alloc (.cells #[] 5)
  clear h
  go_enter Try.func17, Try.ntmps17
  go_wp2
  go_loopw [3, 4] (fun o i wr => ∃ (k : Nat) (v : Value), o = v ∧ i = .int .i64 k ∧ k ≤ l.length ∧ Own wr w.heap.size v (stuffTo l k) ∧ Ext w wr) (fun _ i _ => l.length - (intOf i).toNat)
  case atStart => exact ⟨0, _, rfl, rfl, by omega, hem, hxe⟩
  case round =>
    obtain ⟨k, v, rfl, rfl, hk, ho, hx⟩ := hrel
    clear hem hxe
    have HLEN := Lib.hid (stuffTo_le l k)
    by_cases hlt : k < l.length
    · have hlt1 : (k : Int) < (l.length : Int) := by omega
      obtain ⟨ad, rfl, h0⟩ := HB.out.at_ hlt
      have c0 := h0 wr hx
      have HBK := HBE wr hx k (by omega)
      by_cases h46 : l[k] = 46
      · cases hb : beg l k with
        | true =>
          have HST : Hid (stuffTo l (k + 1) = stuffTo l k ++ [46] ++ [46]) := Lib.hid (stuff_two hlt h46 hb)
          rw [hb] at HBK
          rw [h46] at h0 c0
          clear hb HBE h46
          go_wp2_with fail
          refine HBK.mono ?_
          rintro e w5 ⟨rfl, hw⟩
          obtain rfl := hw
          go_wp2_with (at_builtin; refine unstop ?_)
          refine go_on (wpList_appB bytesTc (ho.alloc _) (Bs.one _ 46) rfl rfl rfl rfl rfl (by have := HLEN.out; simp only [List.length_cons, List.length_nil]; omega) (by have := hx.size; simp; omega) ?_)
          intro v1 w1 ho1 hg1 hor1
          have hx1 : Ext w w1 := Ext.own (hx.alloc _) (ho.alloc _) (Nat.le_refl _) hg1
          clear hg1 hor1
          have c1 := h0 w1 hx1
          clear h0
          go_wp2_with (at_builtin; refine unstop ?_)
          refine go_on (wpList_appB bytesTc (ho1.alloc _) (Bs.one _ 46) rfl rfl rfl rfl rfl (by have := HLEN.out; simp only [List.length_append, List.length_cons, List.length_nil]; omega) (by have := hx1.size; simp; omega) ?_)
          intro v2 w2 ho2 hg2 hor2
          have hx2 : Ext w w2 := Ext.own (hx1.alloc _) (ho1.alloc _) (Nat.le_refl _) hg2
          clear hg2 hor2
          rw [← HST.out] at ho2
          go_wp2
          go_roundw
          case rel => exact ⟨k + 1, v2, rfl, by go_num, by omega, ho2, hx2⟩
          case measure => simp [intOf]; omega
        | false =>
          have HST : Hid (stuffTo l (k + 1) = stuffTo l k ++ [l[k]]) := Lib.hid (stuff_one hlt (fun h => by rw [hb] at h; cases h.2))
          rw [hb] at HBK
          rw [h46] at c0 HST
          clear hb HBE h46 h0
          go_wp2_with fail
          refine HBK.mono ?_
          rintro e w5 ⟨rfl, hw⟩
          obtain rfl := hw
          go_wp2_with (at_builtin; refine unstop ?_)
          refine go_on (wpList_appB bytesTc (ho.alloc _) (Bs.one _ 46) rfl rfl rfl rfl rfl (by have := HLEN.out; simp only [List.length_cons, List.length_nil]; omega) (by have := hx.size; simp; omega) ?_)
          intro v1 w1 ho1 hg1 hor1
          have hx1 : Ext w w1 := Ext.own (hx.alloc _) (ho.alloc _) (Nat.le_refl _) hg1
          clear hg1 hor1
          rw [← HST.out] at ho1
          go_wp2
          go_roundw
          case rel => exact ⟨k + 1, v1, rfl, by go_num, by omega, ho1, hx1⟩
          case measure => simp [intOf]; omega
      · have t46 : ((l[k].toNat : Int) == 46) = false := u8_ne 46 (by omega) h46
        have HST : Hid (stuffTo l (k + 1) = stuffTo l k ++ [l[k]]) := Lib.hid (stuff_one hlt (fun h => h46 h.1))
        clear HBE HBK h0 h46
        generalize l[k] = x at *
        go_wp2_with (at_builtin; refine unstop ?_)
        refine go_on (wpList_appB bytesTc (ho.alloc _) (Bs.one _ x) rfl rfl rfl rfl rfl (by have := HLEN.out; simp only [List.length_cons, List.length_nil]; omega) (by have := hx.size; simp; omega) ?_)
        intro v1 w1 ho1 hg1 hor1
        have hx1 : Ext w w1 := Ext.own (hx.alloc _) (ho.alloc _) (Nat.le_refl _) hg1
        clear hg1 hor1
        rw [← HST.out] at ho1
        go_wp2
        go_roundw
        case rel => exact ⟨k + 1, v1, rfl, by go_num, by omega, ho1, hx1⟩
        case measure => simp [intOf]; omega
    · have hlt1 : ¬ (k : Int) < (l.length : Int) := by omega
      have hkl : k = l.length := by omega
      subst hkl
      have HBK := HBE wr hx l.length (by omega)
      cases hb : beg l l.length with
      | true =>
        have HFI : Hid (stuffed l = stuffTo l l.length ++ [46, 13, 10]) := Lib.hid (by unfold stuffed; rw [hb]; simp)
        rw [hb] at HBK
        clear hb HBE
        go_wp2_with fail
        refine HBK.mono ?_
        rintro e w5 ⟨rfl, hw⟩
        obtain rfl := hw
        go_wp2_with (at_builtin; refine unstop ?_)
        refine go_on (wpList_appB bytesTc (ho.alloc _) (Bs.new _ [46, 13, 10] _ rfl 5 (0, 0)) rfl rfl rfl rfl rfl (by have := HLEN.out; simp only [List.length_cons, List.length_nil]; omega) (by have := hx.size; simp; omega) ?_)
        intro v1 w1 ho1 hg1 hor1
        have hx1 : Ext w w1 := Ext.own (hx.alloc _) (ho.alloc _) (Nat.le_refl _) hg1
        clear hg1 hor1
        rw [← HFI.out] at ho1
        go_wp2
        go_ret
        exact ⟨v1, rfl, ho1, hx1⟩
      | false =>
        have HFI : Hid (stuffed l = stuffTo l l.length ++ [13, 10] ++ [46, 13, 10]) := Lib.hid (by unfold stuffed; rw [hb]; simp)
        rw [hb] at HBK
        clear hb HBE
        go_wp2_with fail
        refine HBK.mono ?_
        rintro e w5 ⟨rfl, hw⟩
        obtain rfl := hw
        go_wp2_with (at_builtin; refine unstop ?_)
        refine go_on (wpList_appB bytesTc (ho.alloc _) (Bs.new _ [13, 10] _ rfl 5 (0, 0)) rfl rfl rfl rfl rfl (by have := HLEN.out; simp only [List.length_cons, List.length_nil]; omega) (by have := hx.size; simp; omega) ?_)
        intro v1 w1 ho1 hg1 hor1
        have hx1 : Ext w w1 := Ext.own (hx.alloc _) (ho.alloc _) (Nat.le_refl _) hg1
        clear hg1 hor1
        go_wp2_with (at_builtin; refine unstop ?_)
        refine go_on (wpList_appB bytesTc (ho1.alloc _) (Bs.new _ [46, 13, 10] _ rfl 5 (0, 0)) rfl rfl rfl rfl rfl (by have := HLEN.out; simp only [List.length_append, List.length_cons, List.length_nil]; omega) (by have := hx1.size; simp; omega) ?_)
        intro v2 w2 ho2 hg2 hor2
        have hx2 : Ext w w2 := Ext.own (hx1.alloc _) (ho1.alloc _) (Nat.le_refl _) hg2
        clear hg2 hor2
        rw [← HFI.out] at ho2
        go_wp2
        go_ret
        exact ⟨v2, rfl, ho2, hx2⟩
set_option maxHeartbeats 8000000 in
set_option maxRecDepth 100000 in
theorem RUnstuff_any (A : Option Addr) (n c : Nat) (l : List UInt8) (w : World) (h : Bs w A l) (hn : n = l.length) (hl : l.length ≤ 4000000000) :
    Calls Try.prog 15 #[.slice A n c] w (UnSays w l) := by
  subst hn
  have HB := Lib.hid h
  have HBE := fun W (hx : Ext w W) k hk => (RBegins_any A l.length c l k W (h.ext hx) rfl hk).mono (R' := fun e w' => e = .returned (.bool (beg l k)) ∧ W = w') (fun _ _ ⟨h1, h2⟩ => ⟨h1, h2.symm⟩)
  have HEN := fun W (hx : Ext w W) k hk => (REnds_any A l.length c l k W (h.ext hx) rfl hk).mono (R' := fun e w' => e = .returned (.bool (endsB l k)) ∧ W = w') (fun _ _ ⟨h1, h2⟩ => ⟨h1, h2.symm⟩)
  clear h
  go_enter Try.func15, Try.ntmps15
  go_wp2
  go_loopw [5] (fun i wr => ∃ k : Nat, i = .int .i64 k ∧ k ≤ l.length ∧ (∀ j, j < k → dot l j = false) ∧ Ext w wr) (fun i _ => l.length - (intOf i).toNat)
  case atStart => exact ⟨0, rfl, by omega, fun j hj => by omega, Ext.refl _⟩
  case round =>
    obtain ⟨k, rfl, hk, hno, hx⟩ := hrel
    have HNO := Lib.hid hno
    clear hno
    by_cases hlt : k < l.length
    · have hlt1 : (k : Int) < (l.length : Int) := by omega
      obtain ⟨ad, rfl, h0⟩ := HB.out.at_ hlt
      have c0 := h0 wr hx
      have HBK := HBE wr hx k (by omega)
      have HEK := HEN wr hx (k + 1) (by omega)
      rw [show ((k + 1 : Nat) : Int) = (k : Int) + 1 by omega] at HEK
      have e0 : l[k]? = some l[k] := List.getElem?_eq_getElem hlt
      have hno2 : dot l k = false → ∀ j, j < k + 1 → dot l j = false := fun he j hj => by
        rcases Nat.lt_or_ge j k with h1 | h1
        · exact HNO.out j h1
        · rw [show j = k by omega]; exact he
      clear h0
      cases hb : beg l k with
      | false =>
        have HNO2 := Lib.hid (hno2 (by unfold dot; rw [hb]; rfl))
        rw [hb] at HBK
        clear hb hno2 e0 HEN HBE HEK
        go_wp2_with fail
        refine HBK.mono ?_
        rintro e w5 ⟨rfl, hw⟩
        obtain rfl := hw
        go_wp2
        go_roundw
        case rel => exact ⟨k + 1, by go_num, by omega, HNO2.out, hx⟩
        case measure => simp [intOf]; omega
      | true =>
        rw [hb] at HBK
        by_cases h46 : l[k] = 46
        · have t46 : ((l[k].toNat : Int) == 46) = true := by rw [h46]; rfl
          cases hE : endsB l (k + 1) with
          | false =>
            have HNO2 := Lib.hid (hno2 (by unfold dot; rw [hE]; simp))
            rw [hE] at HEK
            clear hb hno2 e0 HEN HBE hE h46
            go_wp2_with fail
            refine HBK.mono ?_
            rintro e w5 ⟨rfl, hw⟩
            obtain rfl := hw
            go_wp2_with fail
            refine HEK.mono ?_
            rintro e w6 ⟨rfl, hw⟩
            obtain rfl := hw
            go_wp2
            go_roundw
            case rel => exact ⟨k + 1, by go_num, by omega, HNO2.out, hx⟩
            case measure => simp [intOf]; omega
          | true =>
            have hfin : fin l = some k := fin_some.2 ⟨dot_iff.2 ⟨hb, by rw [e0, h46], hE⟩, HNO.out⟩
            rw [hE] at HEK
            clear hb hno2 e0 HEN hE h46
            go_wp2_with fail
            refine HBK.mono ?_
            rintro e w5 ⟨rfl, hw⟩
            obtain rfl := hw
            go_wp2_with fail
            refine HEK.mono ?_
            rintro e w5 ⟨rfl, hw⟩
            obtain rfl := hw
            have HFK := Lib.hid hfin
            have hk3 := fin_lt hfin
            have hem := Own.empty wr w.heap.size hx.size
            have hxe := hx.alloc (.cells #[] 5)
            clear hfin
            go_wp2
            go_loopw [6, 7] (fun o i wi => ∃ (j : Nat) (v : Value), o = v ∧ i = .int .i64 j ∧ j ≤ k ∧ Own wi w.heap.size v (unTo l j) ∧ Ext w wi) (fun _ i _ => k - (intOf i).toNat)
            case atStart => exact ⟨0, _, rfl, rfl, by omega, hem, hxe⟩
            case round =>
              obtain ⟨i, v, rfl, rfl, hi, ho, hxi⟩ := hrel
              clear hem hxe
              have HLEN := Lib.hid (unTo_le l i)
              by_cases hlti : i < k
              · have hlti1 : (i : Int) < (k : Int) := by omega
                have hlti2 : (i : Int) < (l.length : Int) := by omega
                have hil : i < l.length := by omega
                obtain ⟨adi, ei, h0i⟩ := HB.out.at_ hil
                cases ei
                have ci := h0i wr hxi
                have HBI := HBE wr hxi i (by omega)
                have e0 : l[i]? = some l[i] := List.getElem?_eq_getElem hil
                by_cases h46 : l[i] = 46
                · have t46 : ((l[i].toNat : Int) != 46) = false := by rw [h46]; rfl
                  cases hb : beg l i with
                  | true =>
                    have HST : Hid (unTo l (i + 1) = unTo l i) := Lib.hid (by rw [unTo_succ]; unfold un1; rw [e0, h46, hb]; simp)
                    rw [hb] at HBI
                    have HO := Lib.hid ho
                    clear hb e0 h46 h0i ho
                    generalize l[i] = x at *
                    go_wp2_with fail
                    refine HBI.mono ?_
                    rintro e w6 ⟨rfl, hw⟩
                    obtain rfl := hw
                    go_wp2
                    go_roundw
                    case rel => exact ⟨i + 1, _, rfl, by go_num, by omega, by rw [HST.out]; exact HO.out, hxi⟩
                    case measure => simp [intOf]; omega
                  | false =>
                    have HST : Hid (unTo l (i + 1) = unTo l i ++ [l[i]]) := Lib.hid (by rw [unTo_succ]; unfold un1; rw [e0, hb]; simp)
                    rw [hb] at HBI
                    clear hb e0 h46 h0i
                    generalize l[i] = x at *
                    go_wp2_with fail
                    refine HBI.mono ?_
                    rintro e w6 ⟨rfl, hw⟩
                    obtain rfl := hw
                    go_wp2_with (at_builtin; refine unstop ?_)
                    refine go_on (wpList_appB bytesTc (ho.alloc _) (Bs.one _ x) rfl rfl rfl rfl rfl (by have := HLEN.out; simp only [List.length_cons, List.length_nil]; omega) (by have := hxi.size; simp; omega) ?_)
                    intro v1 w1 ho1 hg1 hor1
                    have hx1 : Ext w w1 := Ext.own (hxi.alloc _) (ho.alloc _) (Nat.le_refl _) hg1
                    clear hg1 hor1
                    rw [← HST.out] at ho1
                    go_wp2
                    go_roundw
                    case rel => exact ⟨i + 1, v1, rfl, by go_num, by omega, ho1, hx1⟩
                    case measure => simp [intOf]; omega
                · have t46 : ((l[i].toNat : Int) != 46) = true := by
                    have := u8_ne 46 (by omega) h46
                    simpa using this
                  have HST : Hid (unTo l (i + 1) = unTo l i ++ [l[i]]) := Lib.hid (by rw [unTo_succ]; unfold un1; rw [e0, if_neg (by simpa using fun h => absurd h h46)]; simp)
                  clear HBI e0 h46 h0i
                  generalize l[i] = x at *
                  go_wp2_with (at_builtin; refine unstop ?_)
                  refine go_on (wpList_appB bytesTc (ho.alloc _) (Bs.one _ x) rfl rfl rfl rfl rfl (by have := HLEN.out; simp only [List.length_cons, List.length_nil]; omega) (by have := hxi.size; simp; omega) ?_)
                  intro v1 w1 ho1 hg1 hor1
                  have hx1 : Ext w w1 := Ext.own (hxi.alloc _) (ho.alloc _) (Nat.le_refl _) hg1
                  clear hg1 hor1
                  rw [← HST.out] at ho1
                  go_wp2
                  go_roundw
                  case rel => exact ⟨i + 1, v1, rfl, by go_num, by omega, ho1, hx1⟩
                  case measure => simp [intOf]; omega
              · have hlti1 : ¬ (i : Int) < (k : Int) := by omega
                have hik : i = k := by omega
                subst hik
                obtain ⟨B, b, rfl⟩ := ho.form
                have HO := Lib.hid ho
                clear ho
                go_wp2
                go_ret3
                exact UnSays.yes HFK.out HO.out (by omega) hxi
        · have t46 : ((l[k].toNat : Int) == 46) = false := u8_ne 46 (by omega) h46
          have HNO2 := Lib.hid (hno2 (by unfold dot; rw [e0]; simp [h46]))
          clear hb hno2 e0 HEN HBE HEK h46
          go_wp2_with fail
          refine HBK.mono ?_
          rintro e w5 ⟨rfl, hw⟩
          obtain rfl := hw
          go_wp2
          go_roundw
          case rel => exact ⟨k + 1, by go_num, by omega, HNO2.out, hx⟩
          case measure => simp [intOf]; omega
    · have hlt1 : ¬ (k : Int) < (l.length : Int) := by omega
      have HF : Hid (fin l = none) := Lib.hid (fin_none.2 fun j => by
        rcases Nat.lt_or_ge j k with h1 | h1
        · exact HNO.out j h1
        · cases he : dot l j with
          | false => rfl
          | true => have := dot_lt he; omega)
      clear HBE HEN
      go_wp2
      go_ret3
      exact UnSays.no HF.out hx
end Go.Proofs.Ytlfieggioomoiaa
