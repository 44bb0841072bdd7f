/- The walk of TextFolds: it answers true. Condition: the length named in the theorem. -/
import Derived.Test.YtkjklpalpodbgaaText11
namespace Go.Proofs.Ytkjklpalpodbgaa
open Go.RowKit
theorem fold_all : ∀ x : Fin 256, (lowB (UInt8.ofNat x.val) = lowB (UInt8.ofNat x.val ^^^ 32) ↔ (97 ≤ ((UInt8.ofNat x.val ^^^ 32) ||| 32).toNat ∧ ((UInt8.ofNat x.val ^^^ 32) ||| 32).toNat ≤ 122)) ∧ lowB (lowB (UInt8.ofNat x.val)) = lowB (UInt8.ofNat x.val) := by decide +kernel
theorem fold_one (x : UInt8) : (lowB x = lowB (x ^^^ 32) ↔ (97 ≤ ((x ^^^ 32) ||| 32).toNat ∧ ((x ^^^ 32) ||| 32).toNat ≤ 122)) ∧ lowB (lowB x) = lowB x := by
  have := fold_all ⟨x.toNat, x.toNat_lt⟩
  simpa using this
theorem lowL_low (l : List UInt8) : lowL (lowL l) = lowL l := by
  unfold lowL
  rw [List.map_map]
  apply List.map_congr_left
  intro x _
  exact (fold_one x).2
theorem fold_set (l : List UInt8) (k : Nat) (hk : k < l.length) : decide (lowL l = lowL (l.set k (l[k] ^^^ 32))) = decide (97 ≤ ((l[k] ^^^ 32) ||| 32).toNat ∧ ((l[k] ^^^ 32) ||| 32).toNat ≤ 122) := by
  have h := (fold_one l[k]).1
  rw [decide_eq_decide, ← h]
  unfold lowL
  rw [List.map_set]
  constructor
  · intro e
    have := congrArg (fun r => r[k]?) e
    simpa [hk] using this
  · intro e
    rw [← e]
    apply List.ext_getElem
    · simp
    · intro j h1 h2
      rw [List.getElem_set]
      split
      · next h3 => subst h3; simp
      · rfl
theorem fold_at (at_ : Int) (n : Nat) (h : 0 < n) (hn : n ≤ 140737488351232) : ∃ k : Nat, k < n ∧ wrap64 ((IntKind.u64.wrap at_).tmod (n : Int)) = (k : Int) := by
  have h0 : 0 ≤ IntKind.u64.wrap at_ := by
    simp only [IntKind.wrap, IntKind.bits, IntKind.signed]
    simp
    exact Int.emod_nonneg _ (by decide)
  rw [Int.tmod_eq_emod_of_nonneg h0]
  have h1 := Int.emod_nonneg (IntKind.u64.wrap at_) (show (n : Int) ≠ 0 by omega)
  have h2 := Int.emod_lt_of_pos (IntKind.u64.wrap at_) (show (0 : Int) < n by omega)
  generalize IntKind.u64.wrap at_ % (n : Int) = x at *
  refine ⟨x.toNat, by omega, ?_⟩
  rw [IntWalk.wrap64_in x ⟨by omega, by omega⟩]
  omega
theorem TextFolds_any (s : ByteArray) (at_ : Int) (w : World) (ha : s.size ≤ 140737488351232) : Calls Try.prog 4 #[.string s, .int .i64 at_] w fun e w' => e = .returned (.bool true) ∧ Ext w w' := by
  have hll := lowL_low (tl s)
  have hsz := tl_length s
  have hst : (st (lowL (tl s))).size ≤ 140737488355328 := by rw [st_size]; simp; omega
  have hL2 := fun wz => Lower_any (st (lowL (tl s))) wz hst
  have hS2 := fun wz => Same_any s (st (lowL (tl s))) wz (by omega) hst
  rw [tl_st] at hL2 hS2
  rw [hll] at hL2 hS2
  have hlen : (lowL (tl s)).length = s.size := by simp
  have HT := Lib.hid hsz
  clear hst hll hsz
  go_enter Try.func4, Try.ntmps4
  go_wp2_with fail
  refine (Lower_any s _ (by omega)).mono ?_
  rintro e w1 ⟨rfl, hx1⟩
  go_wp2_with fail
  refine (hL2 _).mono ?_
  rintro e w2 ⟨rfl, hx2⟩
  go_wp2_with fail
  refine (hS2 _).mono ?_
  rintro e w3 ⟨rfl, hx3⟩
  clear hL2 hS2
  have hxx := hx1.trans (hx2.trans hx3)
  by_cases h0 : s.size = 0
  · have e0 : ((s.size : Int) == 0) = true := by rw [h0]; rfl
    have HH := Lib.hid h0
    clear h0
    go_wp2_with fail
    refine (live_any _).mono ?_
    rintro e w4 ⟨rfl, hx4⟩
    go_wp2
    go_ret
    exact ⟨rfl, hxx.trans hx4⟩
  · have e0 : ((s.size : Int) == 0) = false := beq_eq_false_iff_ne.2 (by omega)
    have hne : ¬ s = ByteArray.empty := fun e => h0 (by rw [e]; rfl)
    obtain ⟨k, hk, hwk⟩ := fold_at at_ s.size (by omega) ha
    clear h0
    obtain ⟨cap, W, hcv, hxW, hm, hcap⟩ := conv_bytes w3 s
    have hkl : k < (tl s).length := by rw [tl_length]; exact hk
    have hc := hm.cell hkl
    have hf := hm.free hkl
    have hfold := fold_set (tl s) k hkl
    have hset := hm.set k ((tl s)[k] ^^^ 32)
    have hxv : bits .xor .u8 ((tl s)[k].toNat : Int) 32 = (((tl s)[k] ^^^ 32).toNat : Int) := by
      have := u8_xor_nat (tl s)[k].toNat 32 (tl s)[k].toNat_lt (by omega)
      rw [UInt8.toNat_xor]
      exact this
    have hov : bits .or .u8 (((tl s)[k] ^^^ 32).toNat : Int) 32 = ((((tl s)[k] ^^^ 32) ||| 32).toNat : Int) := by
      have := u8_or_nat ((tl s)[k] ^^^ 32).toNat 32 ((tl s)[k] ^^^ 32).toNat_lt (by omega)
      rw [UInt8.toNat_or]
      exact this
    have hxS : Ext w3 (W.setCell ⟨w3.heap.size, k, none⟩ (.int .u8 (((tl s)[k] ^^^ 32).toNat : Int))) := hxW.setCell (Nat.le_refl _) _
    have hlset : ((tl s).set k ((tl s)[k] ^^^ 32)).length = s.size := by simp
    have hc2 : (W.setCell ⟨w3.heap.size, k, none⟩ (.int .u8 (((tl s)[k] ^^^ 32).toNat : Int))).cell? ⟨w3.heap.size, k, none⟩ = some (.int .u8 (((tl s)[k] ^^^ 32).toNat : Int)) := by
      have := hset.cell (k := k) (by simpa using hk)
      simpa using this
    generalize hl2 : (tl s).set k ((tl s)[k] ^^^ 32) = l2 at *
    generalize (((tl s)[k] ^^^ 32) ||| 32).toNat = c at *
    generalize ((tl s)[k] ^^^ 32).toNat = y at *
    generalize (tl s)[k].toNat = x at *
    have hl2s : (st l2).size ≤ 140737488355328 := by rw [st_size]; omega
    have hS := fun wz => Same_any s (st l2) wz (by omega) hl2s
    rw [tl_st, hfold] at hS
    have HL := Lib.hid hlset
    clear hl2 hfold hlset hl2s hm
    have hcv2 := fun wz (h : Ext (W.setCell ⟨w3.heap.size, k, none⟩ (.int .u8 (y : Int))) wz) => conv_str (hset.ext h).bs s.size cap HL.out.symm
    go_wp2_with fail
    refine (live_any _).mono ?_
    rintro e w4 ⟨rfl, hx4⟩
    have hcv3 := hcv2 _ hx4
    go_wp2_with fail
    refine (hS _).mono ?_
    rintro e w5 ⟨rfl, hx5⟩
    have hxz := hxx.trans (hxS.trans (hx4.trans hx5))
    by_cases h1 : 97 ≤ c
    · have h1' : (97 : Int) ≤ (c : Int) := by omega
      by_cases h2 : c ≤ 122
      · have h2' : (c : Int) ≤ 122 := by omega
        have HD : decide (97 ≤ c ∧ c ≤ 122) = true := decide_eq_true ⟨h1, h2⟩
        rw [HD]
        clear h1 h2 HD hS hcv2
        go_wp2
        go_ret
        exact ⟨rfl, hxz⟩
      · have h2' : ¬ (c : Int) ≤ 122 := by omega
        have HD : decide (97 ≤ c ∧ c ≤ 122) = false := decide_eq_false (by omega)
        rw [HD]
        clear h1 h2 HD hS hcv2
        go_wp2
        go_ret
        exact ⟨ret_bool (by simpa using h2'), hxz⟩
    · have h1' : ¬ (97 : Int) ≤ (c : Int) := by omega
      have HD : decide (97 ≤ c ∧ c ≤ 122) = false := decide_eq_false (by omega)
      rw [HD]
      clear h1 HD hS hcv2
      go_wp2
      go_ret
      exact ⟨rfl, hxz⟩
end Go.Proofs.Ytkjklpalpodbgaa
