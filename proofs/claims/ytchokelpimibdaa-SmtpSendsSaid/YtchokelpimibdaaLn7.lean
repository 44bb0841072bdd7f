/- The walks of the reference's Stuff and Unstuff, and of Body on both. Conditions: the lengths named; those of IsLn and IsBuf. -/
import Derived.Test.YtchokelpimibdaaLn6
namespace Go.Proofs.Ytchokelpimibdaa
open Go.RowKit
set_option maxHeartbeats 4000000 in
set_option maxRecDepth 100000 in
theorem RStuff_any (A : Option Addr) (n c : Nat) (l : List UInt8) (w : World) (h : Bs w A l) (hn : n = l.length) (hl : l.length ≤ 4000000000) :
    Calls Try.prog 12 #[.slice A n c] w fun e w' => ∃ v, e = .returned v ∧ Own w' w.heap.size v (stuffed l) ∧ Ext w w' := by
  subst hn
  have HB := Lib.hid h
  have HBE := fun W (hx : Ext w W) k hk => (RBegins_any A l.length c l k W (h.ext hx) rfl hk).mono (R' := fun e w' => e = .returned (.bool (beg l k)) ∧ W = w') (fun _ _ ⟨h1, h2⟩ => ⟨h1, h2.symm⟩)
  have hem := Own.empty w w.heap.size (Nat.le_refl _)
  have hxe := (Ext.refl w).alloc (.cells #[] 5)
  clear h
  go_enter Try.func12, Try.ntmps12
  go_wp2
  go_loopw [3, 4] (fun o i wr => ∃ (k : Nat) (v : Value), o = v ∧ i = .int .i64 k ∧ k ≤ l.length ∧ Own wr w.heap.size v (stuffTo l k) ∧ Ext w wr) (fun _ i _ => l.length - (intOf i).toNat)
  case atStart => exact ⟨0, _, rfl, rfl, by omega, hem, hxe⟩
  case round =>
    obtain ⟨k, v, rfl, rfl, hk, ho, hx⟩ := hrel
    clear hem hxe
    have HLEN := Lib.hid (stuffTo_le l k)
    by_cases hlt : k < l.length
    · have hlt1 : (k : Int) < (l.length : Int) := by omega
      obtain ⟨ad, rfl, h0⟩ := HB.out.at_ hlt
      have c0 := h0 wr hx
      have HBK := HBE wr hx k (by omega)
      by_cases h46 : l[k] = 46
      · cases hb : beg l k with
        | true =>
          have HST : Hid (stuffTo l (k + 1) = stuffTo l k ++ [46] ++ [46]) := Lib.hid (stuff_two hlt h46 hb)
          rw [hb] at HBK
          rw [h46] at h0 c0
          clear hb HBE h46
          go_wp2_with fail
          refine HBK.mono ?_
          rintro e w5 ⟨rfl, hw⟩
          obtain rfl := hw
          go_wp2_with (at_builtin; refine unstop ?_)
          refine go_on (wpList_appB bytesTc (ho.alloc _) (Bs.one _ 46) rfl rfl rfl rfl rfl (by have := HLEN.out; simp only [List.length_cons, List.length_nil]; omega) (by have := hx.size; simp; omega) ?_)
          intro v1 w1 ho1 hg1 hor1
          have hx1 : Ext w w1 := Ext.own (hx.alloc _) (ho.alloc _) (Nat.le_refl _) hg1
          clear hg1 hor1
          have c1 := h0 w1 hx1
          clear h0
          go_wp2_with (at_builtin; refine unstop ?_)
          refine go_on (wpList_appB bytesTc (ho1.alloc _) (Bs.one _ 46) rfl rfl rfl rfl rfl (by have := HLEN.out; simp only [List.length_append, List.length_cons, List.length_nil]; omega) (by have := hx1.size; simp; omega) ?_)
          intro v2 w2 ho2 hg2 hor2
          have hx2 : Ext w w2 := Ext.own (hx1.alloc _) (ho1.alloc _) (Nat.le_refl _) hg2
          clear hg2 hor2
          rw [← HST.out] at ho2
          go_wp2
          go_roundw
          case rel => exact ⟨k + 1, v2, rfl, by go_num, by omega, ho2, hx2⟩
          case measure => simp [intOf]; omega
        | false =>
          have HST : Hid (stuffTo l (k + 1) = stuffTo l k ++ [l[k]]) := Lib.hid (stuff_one hlt (fun h => by rw [hb] at h; cases h.2))
          rw [hb] at HBK
          rw [h46] at c0 HST
          clear hb HBE h46 h0
          go_wp2_with fail
          refine HBK.mono ?_
          rintro e w5 ⟨rfl, hw⟩
          obtain rfl := hw
          go_wp2_with (at_builtin; refine unstop ?_)
          refine go_on (wpList_appB bytesTc (ho.alloc _) (Bs.one _ 46) rfl rfl rfl rfl rfl (by have := HLEN.out; simp only [List.length_cons, List.length_nil]; omega) (by have := hx.size; simp; omega) ?_)
          intro v1 w1 ho1 hg1 hor1
          have hx1 : Ext w w1 := Ext.own (hx.alloc _) (ho.alloc _) (Nat.le_refl _) hg1
          clear hg1 hor1
          rw [← HST.out] at ho1
          go_wp2
          go_roundw
          case rel => exact ⟨k + 1, v1, rfl, by go_num, by omega, ho1, hx1⟩
          case measure => simp [intOf]; omega
      · have t46 : ((l[k].toNat : Int) == 46) = false := u8_ne 46 (by omega) h46
        have HST : Hid (stuffTo l (k + 1) = stuffTo l k ++ [l[k]]) := Lib.hid (stuff_one hlt (fun h => h46 h.1))
        clear HBE HBK h0 h46
        generalize l[k] = x at *
        go_wp2_with (at_builtin; refine unstop ?_)
        refine go_on (wpList_appB bytesTc (ho.alloc _) (Bs.one _ x) rfl rfl rfl rfl rfl (by have := HLEN.out; simp only [List.length_cons, List.length_nil]; omega) (by have := hx.size; simp; omega) ?_)
        intro v1 w1 ho1 hg1 hor1
        have hx1 : Ext w w1 := Ext.own (hx.alloc _) (ho.alloc _) (Nat.le_refl _) hg1
        clear hg1 hor1
        rw [← HST.out] at ho1
        go_wp2
        go_roundw
        case rel => exact ⟨k + 1, v1, rfl, by go_num, by omega, ho1, hx1⟩
        case measure => simp [intOf]; omega
    · have hlt1 : ¬ (k : Int) < (l.length : Int) := by omega
      have hkl : k = l.length := by omega
      subst hkl
      have HBK := HBE wr hx l.length (by omega)
      cases hb : beg l l.length with
      | true =>
        have HFI : Hid (stuffed l = stuffTo l l.length ++ [46, 13, 10]) := Lib.hid (by unfold stuffed; rw [hb]; simp)
        rw [hb] at HBK
        clear hb HBE
        go_wp2_with fail
        refine HBK.mono ?_
        rintro e w5 ⟨rfl, hw⟩
        obtain rfl := hw
        go_wp2_with (at_builtin; refine unstop ?_)
        refine go_on (wpList_appB bytesTc (ho.alloc _) (Bs.new _ [46, 13, 10] _ rfl 5 (0, 0)) rfl rfl rfl rfl rfl (by have := HLEN.out; simp only [List.length_cons, List.length_nil]; omega) (by have := hx.size; simp; omega) ?_)
        intro v1 w1 ho1 hg1 hor1
        have hx1 : Ext w w1 := Ext.own (hx.alloc _) (ho.alloc _) (Nat.le_refl _) hg1
        clear hg1 hor1
        rw [← HFI.out] at ho1
        go_wp2
        go_ret
        exact ⟨v1, rfl, ho1, hx1⟩
      | false =>
        have HFI : Hid (stuffed l = stuffTo l l.length ++ [13, 10] ++ [46, 13, 10]) := Lib.hid (by unfold stuffed; rw [hb]; simp)
        rw [hb] at HBK
        clear hb HBE
        go_wp2_with fail
        refine HBK.mono ?_
        rintro e w5 ⟨rfl, hw⟩
        obtain rfl := hw
        go_wp2_with (at_builtin; refine unstop ?_)
        refine go_on (wpList_appB bytesTc (ho.alloc _) (Bs.new _ [13, 10] _ rfl 5 (0, 0)) rfl rfl rfl rfl rfl (by have := HLEN.out; simp only [List.length_cons, List.length_nil]; omega) (by have := hx.size; simp; omega) ?_)
        intro v1 w1 ho1 hg1 hor1
        have hx1 : Ext w w1 := Ext.own (hx.alloc _) (ho.alloc _) (Nat.le_refl _) hg1
        clear hg1 hor1
        go_wp2_with (at_builtin; refine unstop ?_)
        refine go_on (wpList_appB bytesTc (ho1.alloc _) (Bs.new _ [46, 13, 10] _ rfl 5 (0, 0)) rfl rfl rfl rfl rfl (by have := HLEN.out; simp only [List.length_append, List.length_cons, List.length_nil]; omega) (by have := hx1.size; simp; omega) ?_)
        intro v2 w2 ho2 hg2 hor2
        have hx2 : Ext w w2 := Ext.own (hx1.alloc _) (ho1.alloc _) (Nat.le_refl _) hg2
        clear hg2 hor2
        rw [← HFI.out] at ho2
        go_wp2
        go_ret
        exact ⟨v2, rfl, ho2, hx2⟩
end Go.Proofs.Ytchokelpimibdaa
