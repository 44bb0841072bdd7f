/- The walks of the reference's one and domain. Conditions: the letters are a text's, and the library's two tables are laid. -/
import Derived.Test.YtigkmlhkfpdajaaDoorRAd0
import Derived.Test.YtigkmlhkfpdajaaDoorRQuote
import Derived.Test.YtigkmlhkfpdajaaDoorStep
import Derived.Deep.QuietTactic
import Derived.BigQuiet
namespace Go.Proofs.YtigkmlhkfpdajaaDoor
open Go.RowKit
theorem oneB_no {b sm : List UInt8} (h : b.length ≠ 1) : oneB b sm = false := by unfold oneB; rw [decide_eq_false h, Bool.false_and]
theorem oneB_yes {x : UInt8} {sm : List UInt8} : oneB [x] sm = (alnumB x.toNat || sm.contains x) := by simp [oneB]
set_option maxRecDepth 20000 in
set_option maxHeartbeats 1600000 in
theorem one_any (b sm : List UInt8) (w : World) (hsm : sm.length ≤ 1000) : Calls Tryd.prog 20 #[.string (st b), .string (st sm)] w fun e w' => e = .returned (.bool (oneB b sm)) ∧ w = w' := by
  by_cases hb : b.length = 1
  · obtain ⟨x, rfl⟩ := List.length_eq_one_iff.1 hb
    have HO : Hid (oneB [x] sm = (alnumB x.toNat || sm.contains x)) := Lib.hid oneB_yes
    have hx0 : (st [x])[0]'(by rw [st_size]; exact Nat.one_pos) = x := rfl
    have HL : Hid (∀ (k : Nat) (hk : k < (st sm).size), (st sm)[k] = sm[k]'(by rwa [st_size] at hk)) := Lib.hid (fun k hk => rfl)
    clear hb
    have hxl := x.toNat_lt
    cases hal : alnumB x.toNat with
    | true =>
      have HE : Hid (oneB [x] sm = true) := Lib.hid (by rw [HO.out, hal]; rfl)
      unfold alnumB at hal
      rw [decide_eq_true_eq] at hal
      have hal2 : ((97 : Int) ≤ x.toNat ∧ (x.toNat : Int) ≤ 122 ∧ ¬ (x.toNat : Int) ≤ 57 ∧ ¬ (x.toNat : Int) ≤ 90 ∧ (48 : Int) ≤ x.toNat ∧ (65 : Int) ≤ x.toNat) ∨ ((65 : Int) ≤ x.toNat ∧ (x.toNat : Int) ≤ 90 ∧ ¬ (x.toNat : Int) ≤ 57 ∧ (48 : Int) ≤ x.toNat) ∨ ((48 : Int) ≤ x.toNat ∧ (x.toNat : Int) ≤ 57) := by omega
      clear hal HO
      rcases hal2 with ⟨t1, t2, t3, t4, t5, t6⟩ | ⟨t1, t2, t3, t4⟩ | ⟨t1, t2⟩
      all_goals
        go_enter Tryd.func20, Tryd.ntmps20
        go_wp2
        go_ret
        exact ⟨by rw [HE.out]; rfl, rfl⟩
    | false =>
      have HE : Hid (oneB [x] sm = sm.contains x) := Lib.hid (by rw [HO.out, hal]; rfl)
      unfold alnumB at hal
      rw [decide_eq_false_iff_not] at hal
      have hal2 : ((122 : Int) < x.toNat) ∨ ((90 : Int) < x.toNat ∧ (x.toNat : Int) < 97) ∨ ((57 : Int) < x.toNat ∧ (x.toNat : Int) < 65) ∨ ((x.toNat : Int) < 48) := by omega
      clear hal HO
      rcases hal2 with t | ⟨t, t'⟩ | ⟨t, t'⟩ | t
      · have t1 : ¬ (x.toNat : Int) ≤ 57 := by omega
        have t2 : ¬ (x.toNat : Int) ≤ 90 := by omega
        have t3 : ¬ (x.toNat : Int) ≤ 122 := by omega
        have t4 : (48 : Int) ≤ x.toNat := by omega
        have t5 : (65 : Int) ≤ x.toNat := by omega
        have t6 : (97 : Int) ≤ x.toNat := by omega
        go_enter Tryd.func20, Tryd.ntmps20
        go_wp2
        go_loopw [6] (fun a wr => ∃ k : Nat, a = .int .i64 k ∧ k ≤ sm.length ∧ (∀ j (hj : j < sm.length), j < k → sm[j] ≠ x) ∧ wr = w) (fun a _ => sm.length - (intOf a).toNat)
        case atStart => exact ⟨0, rfl, by omega, fun j _ hj => by omega, rfl⟩
        case round =>
          obtain ⟨k, rfl, hk, hn, rfl⟩ := hrel
          have HN := Lib.hid hn
          clear hn
          by_cases hlt : k < sm.length
          · have hlt2 : k < (st sm).size := by rw [st_size]; exact hlt
            have hlt3 : (k : Int) < (sm.length : Int) := by omega
            have HG := Lib.hid (HL.out k hlt2)
            by_cases hx : sm[k] = x
            · have HE2 : Hid (oneB [x] sm = true) := Lib.hid (by rw [HE.out, List.contains_iff_mem]; exact hx ▸ List.getElem_mem hlt)
              have hq : (((st sm)[k].toNat : Int) == (x.toNat : Int)) = true := by rw [HG.out]; exact beq_iff_eq.2 (congrArg (fun z : UInt8 => (z.toNat : Int)) hx)
              clear hx
              go_wp2
              go_ret
              exact ⟨by rw [HE2.out]; rfl, rfl⟩
            · have hq : (((st sm)[k].toNat : Int) == (x.toNat : Int)) = false := by
                rw [HG.out]
                refine beq_eq_false_iff_ne.2 fun e => hx (UInt8.toNat_inj.1 (by omega))
              have HX := Lib.hid hx
              clear hx
              go_wp2
              go_roundw
              case rel => exact ⟨k + 1, by go_num, by omega, fun j hj hj2 => (by by_cases e : j = k; subst e; exact HX.out; exact HN.out j hj (by omega)), (by first | rfl | trivial)⟩
              case measure => simp [intOf]; omega
          · have hlt3 : ¬ (k : Int) < (sm.length : Int) := by omega
            have HE2 : Hid (oneB [x] sm = false) := Lib.hid (by
              rw [HE.out]
              cases hc : sm.contains x with
              | false => rfl
              | true =>
                rw [List.contains_iff_mem] at hc
                obtain ⟨j, hj, e⟩ := List.getElem_of_mem hc
                exact absurd e (HN.out j hj (by omega)))
            go_wp2
            go_ret
            exact ⟨by rw [HE2.out]; rfl, rfl⟩
      · have t1 : ¬ (x.toNat : Int) ≤ 57 := by omega
        have t2 : ¬ (x.toNat : Int) ≤ 90 := by omega
        have t4 : (48 : Int) ≤ x.toNat := by omega
        have t5 : (65 : Int) ≤ x.toNat := by omega
        have t6 : ¬ (97 : Int) ≤ x.toNat := by omega
        go_enter Tryd.func20, Tryd.ntmps20
        go_wp2
        go_loopw [6] (fun a wr => ∃ k : Nat, a = .int .i64 k ∧ k ≤ sm.length ∧ (∀ j (hj : j < sm.length), j < k → sm[j] ≠ x) ∧ wr = w) (fun a _ => sm.length - (intOf a).toNat)
        case atStart => exact ⟨0, rfl, by omega, fun j _ hj => by omega, rfl⟩
        case round =>
          obtain ⟨k, rfl, hk, hn, rfl⟩ := hrel
          have HN := Lib.hid hn
          clear hn
          by_cases hlt : k < sm.length
          · have hlt2 : k < (st sm).size := by rw [st_size]; exact hlt
            have hlt3 : (k : Int) < (sm.length : Int) := by omega
            have HG := Lib.hid (HL.out k hlt2)
            by_cases hx : sm[k] = x
            · have HE2 : Hid (oneB [x] sm = true) := Lib.hid (by rw [HE.out, List.contains_iff_mem]; exact hx ▸ List.getElem_mem hlt)
              have hq : (((st sm)[k].toNat : Int) == (x.toNat : Int)) = true := by rw [HG.out]; exact beq_iff_eq.2 (congrArg (fun z : UInt8 => (z.toNat : Int)) hx)
              clear hx
              go_wp2
              go_ret
              exact ⟨by rw [HE2.out]; rfl, rfl⟩
            · have hq : (((st sm)[k].toNat : Int) == (x.toNat : Int)) = false := by
                rw [HG.out]
                refine beq_eq_false_iff_ne.2 fun e => hx (UInt8.toNat_inj.1 (by omega))
              have HX := Lib.hid hx
              clear hx
              go_wp2
              go_roundw
              case rel => exact ⟨k + 1, by go_num, by omega, fun j hj hj2 => (by by_cases e : j = k; subst e; exact HX.out; exact HN.out j hj (by omega)), (by first | rfl | trivial)⟩
              case measure => simp [intOf]; omega
          · have hlt3 : ¬ (k : Int) < (sm.length : Int) := by omega
            have HE2 : Hid (oneB [x] sm = false) := Lib.hid (by
              rw [HE.out]
              cases hc : sm.contains x with
              | false => rfl
              | true =>
                rw [List.contains_iff_mem] at hc
                obtain ⟨j, hj, e⟩ := List.getElem_of_mem hc
                exact absurd e (HN.out j hj (by omega)))
            go_wp2
            go_ret
            exact ⟨by rw [HE2.out]; rfl, rfl⟩
      · have t1 : ¬ (x.toNat : Int) ≤ 57 := by omega
        have t4 : (48 : Int) ≤ x.toNat := by omega
        have t5 : ¬ (65 : Int) ≤ x.toNat := by omega
        have t6 : ¬ (97 : Int) ≤ x.toNat := by omega
        go_enter Tryd.func20, Tryd.ntmps20
        go_wp2
        go_loopw [6] (fun a wr => ∃ k : Nat, a = .int .i64 k ∧ k ≤ sm.length ∧ (∀ j (hj : j < sm.length), j < k → sm[j] ≠ x) ∧ wr = w) (fun a _ => sm.length - (intOf a).toNat)
        case atStart => exact ⟨0, rfl, by omega, fun j _ hj => by omega, rfl⟩
        case round =>
          obtain ⟨k, rfl, hk, hn, rfl⟩ := hrel
          have HN := Lib.hid hn
          clear hn
          by_cases hlt : k < sm.length
          · have hlt2 : k < (st sm).size := by rw [st_size]; exact hlt
            have hlt3 : (k : Int) < (sm.length : Int) := by omega
            have HG := Lib.hid (HL.out k hlt2)
            by_cases hx : sm[k] = x
            · have HE2 : Hid (oneB [x] sm = true) := Lib.hid (by rw [HE.out, List.contains_iff_mem]; exact hx ▸ List.getElem_mem hlt)
              have hq : (((st sm)[k].toNat : Int) == (x.toNat : Int)) = true := by rw [HG.out]; exact beq_iff_eq.2 (congrArg (fun z : UInt8 => (z.toNat : Int)) hx)
              clear hx
              go_wp2
              go_ret
              exact ⟨by rw [HE2.out]; rfl, rfl⟩
            · have hq : (((st sm)[k].toNat : Int) == (x.toNat : Int)) = false := by
                rw [HG.out]
                refine beq_eq_false_iff_ne.2 fun e => hx (UInt8.toNat_inj.1 (by omega))
              have HX := Lib.hid hx
              clear hx
              go_wp2
              go_roundw
              case rel => exact ⟨k + 1, by go_num, by omega, fun j hj hj2 => (by by_cases e : j = k; subst e; exact HX.out; exact HN.out j hj (by omega)), (by first | rfl | trivial)⟩
              case measure => simp [intOf]; omega
          · have hlt3 : ¬ (k : Int) < (sm.length : Int) := by omega
            have HE2 : Hid (oneB [x] sm = false) := Lib.hid (by
              rw [HE.out]
              cases hc : sm.contains x with
              | false => rfl
              | true =>
                rw [List.contains_iff_mem] at hc
                obtain ⟨j, hj, e⟩ := List.getElem_of_mem hc
                exact absurd e (HN.out j hj (by omega)))
            go_wp2
            go_ret
            exact ⟨by rw [HE2.out]; rfl, rfl⟩
      · have t4 : ¬ (48 : Int) ≤ x.toNat := by omega
        have t5 : ¬ (65 : Int) ≤ x.toNat := by omega
        have t6 : ¬ (97 : Int) ≤ x.toNat := by omega
        go_enter Tryd.func20, Tryd.ntmps20
        go_wp2
        go_loopw [6] (fun a wr => ∃ k : Nat, a = .int .i64 k ∧ k ≤ sm.length ∧ (∀ j (hj : j < sm.length), j < k → sm[j] ≠ x) ∧ wr = w) (fun a _ => sm.length - (intOf a).toNat)
        case atStart => exact ⟨0, rfl, by omega, fun j _ hj => by omega, rfl⟩
        case round =>
          obtain ⟨k, rfl, hk, hn, rfl⟩ := hrel
          have HN := Lib.hid hn
          clear hn
          by_cases hlt : k < sm.length
          · have hlt2 : k < (st sm).size := by rw [st_size]; exact hlt
            have hlt3 : (k : Int) < (sm.length : Int) := by omega
            have HG := Lib.hid (HL.out k hlt2)
            by_cases hx : sm[k] = x
            · have HE2 : Hid (oneB [x] sm = true) := Lib.hid (by rw [HE.out, List.contains_iff_mem]; exact hx ▸ List.getElem_mem hlt)
              have hq : (((st sm)[k].toNat : Int) == (x.toNat : Int)) = true := by rw [HG.out]; exact beq_iff_eq.2 (congrArg (fun z : UInt8 => (z.toNat : Int)) hx)
              clear hx
              go_wp2
              go_ret
              exact ⟨by rw [HE2.out]; rfl, rfl⟩
            · have hq : (((st sm)[k].toNat : Int) == (x.toNat : Int)) = false := by
                rw [HG.out]
                refine beq_eq_false_iff_ne.2 fun e => hx (UInt8.toNat_inj.1 (by omega))
              have HX := Lib.hid hx
              clear hx
              go_wp2
              go_roundw
              case rel => exact ⟨k + 1, by go_num, by omega, fun j hj hj2 => (by by_cases e : j = k; subst e; exact HX.out; exact HN.out j hj (by omega)), (by first | rfl | trivial)⟩
              case measure => simp [intOf]; omega
          · have hlt3 : ¬ (k : Int) < (sm.length : Int) := by omega
            have HE2 : Hid (oneB [x] sm = false) := Lib.hid (by
              rw [HE.out]
              cases hc : sm.contains x with
              | false => rfl
              | true =>
                rw [List.contains_iff_mem] at hc
                obtain ⟨j, hj, e⟩ := List.getElem_of_mem hc
                exact absurd e (HN.out j hj (by omega)))
            go_wp2
            go_ret
            exact ⟨by rw [HE2.out]; rfl, rfl⟩
  · have hq : ((b.length : Int) != 1) = true := by simp; omega
    have HE : Hid (oneB b sm = false) := Lib.hid (oneB_no hb)
    clear hb
    go_enter Tryd.func20, Tryd.ntmps20
    go_wp2
    go_ret
    exact ⟨by rw [HE.out]; rfl, rfl⟩
end Go.Proofs.YtigkmlhkfpdajaaDoor
