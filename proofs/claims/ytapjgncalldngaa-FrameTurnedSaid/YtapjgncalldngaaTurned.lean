/- The walk of the law FrameTurned: it answers true and turns nothing that was there. Condition: the payload is at most 2^47 bytes long. -/
import Derived.Test.YtapjgncalldngaaFrmLaw
import Derived.Test.YtapjgncalldngaaTurnM
namespace Go.Proofs.Ytapjgncalldngaa
open Go.RowKit
theorem from_at (at_ : Int) (n : Nat) (h : 0 < n) (hn : n ≤ 2000) : ∃ f : Nat, f < n ∧ wrap64 (6 + wrap64 ((IntKind.u64.wrap at_).tmod (6 + (n : Int) - 6))) = 6 + (f : Int) := by
  have h0 : 0 ≤ IntKind.u64.wrap at_ := by
    simp only [IntKind.wrap, IntKind.bits, IntKind.signed]
    simp
    exact Int.emod_nonneg _ (by decide)
  have e : (6 : Int) + (n : Int) - 6 = n := by omega
  rw [e, Int.tmod_eq_emod_of_nonneg h0]
  have h1 := Int.emod_nonneg (IntKind.u64.wrap at_) (show (n : Int) ≠ 0 by omega)
  have h2 := Int.emod_lt_of_pos (IntKind.u64.wrap at_) (show (0 : Int) < n by omega)
  generalize IntKind.u64.wrap at_ % (n : Int) = x at *
  refine ⟨x.toNat, by omega, ?_⟩
  rw [IntWalk.wrap64_in x ⟨by omega, by omega⟩, IntWalk.wrap64_in _ ⟨by omega, by omega⟩]
  omega
theorem y_ne (y : UInt8) : ((y.toNat : Int) != 0) = !(y == 0) := by
  by_cases h : y = 0
  · subst h; rfl
  · have h1 : (y == 0) = false := beq_eq_false_iff_ne.2 h
    rw [h1]
    simp only [Bool.not_false, bne_iff_ne]
    intro h2
    apply h
    apply UInt8.toNat_inj.1
    have : (0 : UInt8).toNat = 0 := rfl
    omega
set_option maxHeartbeats 1000000 in
theorem turned_any (A : Option Addr) (cap n : Nat) (p : List UInt8) (at_ : Int) (e0 e1 e2 e3 : UInt8) (w : World) (h : Bs w A p) (hl : n = p.length) :
    Calls Try.prog 6 #[.slice A n cap, .int .i64 at_, .agg #[.int .u8 (e0.toNat : Int), .int .u8 (e1.toNat : Int), .int .u8 (e2.toNat : Int), .int .u8 (e3.toNat : Int)]] w (Yes w) := by
  subst hl
  generalize hw0 : w.alloc (.cells #[.int .u8 (e0.toNat : Int), .int .u8 (e1.toNat : Int), .int .u8 (e2.toNat : Int), .int .u8 (e3.toNat : Int)] 33) = w0
  have hx0 : Ext w w0 := by rw [← hw0]; exact (Ext.refl w).alloc _
  have hby : ∀ i, i < 4 → w0.cell? ⟨w.heap.size, i, none⟩ = some (.int .u8 (([e0, e1, e2, e3].getD i 0).toNat : Int)) := by
    intro i hi
    rw [← hw0, cell_of_row _ _ i _ _ _ (heap_alloc_new w _)]
    match i, hi with
    | 0, _ => rfl
    | 1, _ => rfl
    | 2, _ => rfl
    | 3, _ => rfl
  have hby0 : w.heap.size < w0.heap.size := by rw [← hw0]; simp
  have HW0 := Lib.hid hw0
  clear hw0
  by_cases h1 : p.length = 0 ∨ 2000 < p.length
  · have he : (packE p != 0) = true := by
      unfold packE
      rcases h1 with h1 | h1
      · rw [if_pos h1]; rfl
      · rw [if_neg (by omega), if_pos h1]; rfl
    clear h1
    go_enter Try.func6, Try.ntmps6
    go_wp2_with fail
    rw [HW0.out]
    refine (Pack_any A cap _ p w0 (h.ext hx0) rfl).mono ?_
    rintro e w1 ⟨v1, rfl, ho1, hx1⟩
    go_wp2_with fail
    refine (live_any w1).mono ?_
    rintro e w2 ⟨rfl, hx2⟩
    go_wp2
    go_ret
    exact Yes.mk' rfl (hx0.trans (hx1.trans hx2))
  have he0 : packE p = 0 := by unfold packE; rw [if_neg (by omega), if_neg (by omega)]
  have ho0 : packO p = packL p := by unfold packO; rw [if_neg (by omega), if_neg (by omega)]
  have hp0 : 0 < p.length := by omega
  have hp1 : p.length ≤ 2000 := by omega
  have hpl : (packL p).length = 6 + p.length := by simp [packL, be_length]; omega
  clear h1
  have HE := Lib.hid he0
  have HO := Lib.hid ho0
  clear he0 ho0
  go_enter Try.func6, Try.ntmps6
  go_wp2_with fail
  rw [HW0.out]
  refine (Pack_any A cap _ p w0 (h.ext hx0) rfl).mono ?_
  rintro e w1 ⟨v1, rfl, ho1, hx1⟩
  rw [HE.out]
  rw [HO.out] at ho1
  obtain ⟨A1, c1, rfl⟩ := ho1.form
  rw [hpl] at ho1 ⊢
  obtain ⟨g, rfl, hg1, hg2⟩ := ho1.some_ (by omega)
  have HPL := Lib.hid hpl
  clear hpl
  obtain ⟨f, hf1, hf2⟩ := from_at at_ p.length hp0 hp1
  have HF := Lib.hid hf2
  clear hf2
  go_wp2
  rw [HF.out]
  go_loopw [10, 11] (fun t i wr => ∃ k : Nat, k ≤ 4 ∧ 6 + f + k ≤ 6 + p.length ∧ i = .int .i64 k ∧ t = .bool (!(([e0, e1, e2, e3] : List UInt8).take k).all (· == 0)) ∧
      Own wr w0.heap.size (.slice (some ⟨g, 0, none⟩) (6 + p.length) c1) (turnL (packL p) (6 + f) [e0, e1, e2, e3] k) ∧ Ext w0 wr) (fun _ i _ => 4 - (intOf i).toNat)
  case atStart => exact ⟨0, by omega, by omega, rfl, rfl, ho1, hx1⟩
  case round =>
    obtain ⟨k, hk, hk2, rfl, rfl, hor, hxr⟩ := hrel
    by_cases h4 : k < 4 ∧ f + k < p.length
    · obtain ⟨h5, h6⟩ := h4
      have h5' : (k : Int) < 4 := by omega
      have h6' : 6 + (f : Int) + (k : Int) < 6 + (p.length : Int) := by omega
      have hlen : 6 + f + k < (turnL (packL p) (6 + f) [e0, e1, e2, e3] k).length := by rw [turnL_length, HPL.out]; omega
      have hc := hor.cell hlen
      have hfz := hor.free (6 + f + k)
      have hcb := hxr.cell (hby k h5)
      have hnx := hor.set (6 + f + k) ((turnL (packL p) (6 + f) [e0, e1, e2, e3] k)[6 + f + k] ^^^ [e0, e1, e2, e3].getD k 0)
      have hst : turnL (packL p) (6 + f) [e0, e1, e2, e3] (k + 1) = (turnL (packL p) (6 + f) [e0, e1, e2, e3] k).set (6 + f + k) ((turnL (packL p) (6 + f) [e0, e1, e2, e3] k)[6 + f + k] ^^^ [e0, e1, e2, e3].getD k 0) := by
        simp only [turnL, List.getD_eq_getElem?_getD, List.getElem?_eq_getElem hlen, Option.getD_some]
      rw [← hst] at hnx
      have hxv : bits .xor .u8 (((turnL (packL p) (6 + f) [e0, e1, e2, e3] k)[6 + f + k].toNat : Nat) : Int) ((([e0, e1, e2, e3] : List UInt8).getD k 0).toNat : Int) = (((turnL (packL p) (6 + f) [e0, e1, e2, e3] k)[6 + f + k] ^^^ [e0, e1, e2, e3].getD k 0).toNat : Int) := by
        rw [u8_xor_nat _ _ (UInt8.toNat_lt _) (UInt8.toNat_lt _), UInt8.toNat_xor]
      have htk : ((([e0, e1, e2, e3] : List UInt8).take (k + 1)).all (· == 0)) = ((([e0, e1, e2, e3] : List UInt8).take k).all (· == 0) && ([e0, e1, e2, e3].getD k 0 == 0)) := by
        match k, h5 with
        | 0, _ => simp
        | 1, _ => simp
        | 2, _ => simp [Bool.and_assoc]
        | 3, _ => simp [Bool.and_assoc]
      generalize (turnL (packL p) (6 + f) [e0, e1, e2, e3] k)[6 + f + k] = x at *
      generalize hy : ([e0, e1, e2, e3] : List UInt8).getD k 0 = y at *
      generalize htt : (([e0, e1, e2, e3] : List UInt8).take k).all (· == 0) = tt at *
      have HST := Lib.hid hst
      have HXV := Lib.hid hxv
      have HTK := Lib.hid htk
      clear hst hxv htk htt hy hor hby ho1 hlen
      have hne : w.heap.size ≠ g := by omega
      have hcb2 := fun u => (World.cell?_setCell_other wr ⟨g, 6 + f + k, none⟩ ⟨w.heap.size, k, none⟩ u (by intro e; injection e with e; exact hne e.symm)).trans hcb
      cases tt with
      | false =>
        go_wp2_with fail
        go_region
        rw [HXV.out]
        go_wp2
        go_roundw
        case rel => exact ⟨k + 1, by omega, by omega, by go_num, by rw [HTK.out]; rfl, hnx, (hxr.setCell (p := ⟨g, 6 + f + k, none⟩) hg1 _).drew⟩
        case measure => simp [intOf]; omega
      | true =>
        go_wp2_with fail
        go_region
        rw [HXV.out]
        go_wp2
        go_roundw
        case rel => exact ⟨k + 1, by omega, by omega, by go_num, by rw [HTK.out, y_ne]; rfl, hnx, (hxr.setCell (p := ⟨g, 6 + f + k, none⟩) hg1 _).drew⟩
        case measure => simp [intOf]; omega
    · have hot := one_turned p hp0 hp1 f k [e0, e1, e2, e3] rfl hk (by omega)
      have hlt : (turnL (packL p) (6 + f) [e0, e1, e2, e3] k).length = 6 + p.length := by rw [turnL_length, HPL.out]
      have hcc := hor.cap
      generalize turnL (packL p) (6 + f) [e0, e1, e2, e3] k = q at *
      generalize (([e0, e1, e2, e3] : List UInt8).take k).all (· == 0) = tt at *
      obtain ⟨er, HOT, hcase⟩ : ∃ er : Int, Hid ((oneL q 0).2.2 = er) ∧ (tt = true ∧ er = 0 ∨ tt = false ∧ er = 5) := by
        cases tt
        · exact ⟨5, by rw [hot]; exact rfl, .inr ⟨rfl, rfl⟩⟩
        · exact ⟨0, by rw [hot]; exact rfl, .inl ⟨rfl, rfl⟩⟩
      have HCASE := Lib.hid hcase
      have HLT := Lib.hid hlt
      clear hcase
      clear hot hlt hby ho1 HF HO HE
      have hfin : ∀ W e W', Ext w0 W → OneSays q 0 W e W' → ∃ v n, e = .returned (.tuple #[v, .int .i64 n, .int .i64 er]) ∧ Ext w W' := by
        intro W e W' h1 ⟨v, he, _, h3⟩
        exact ⟨v, _, by rw [he, HOT.out], hx0.trans (h1.trans h3)⟩
      by_cases h5 : k < 4
      · have h5' : (k : Int) < 4 := by omega
        have h6 : 6 + (p.length : Int) ≤ 6 + (f : Int) + (k : Int) := by omega
        clear h4
        go_wp2_with fail
        refine (One_any _ c1 _ q 0 wr hor.bs HLT.out.symm hcc.1 hcc.2).mono ?_
        intro e w3 hs
        obtain ⟨v, nn, rfl, hx3⟩ := hfin wr e w3 hxr hs
        go_wp2_with fail
        refine (live_any w3).mono ?_
        rintro e w4 ⟨rfl, hx4⟩
        rcases HCASE.out with ⟨rfl, rfl⟩ | ⟨rfl, rfl⟩ <;> (go_wp2; go_ret; exact Yes.mk' rfl (hx3.trans hx4))
      · have h5' : ¬ (k : Int) < 4 := by omega
        clear h4
        go_wp2_with fail
        refine (One_any _ c1 _ q 0 wr hor.bs HLT.out.symm hcc.1 hcc.2).mono ?_
        intro e w3 hs
        obtain ⟨v, nn, rfl, hx3⟩ := hfin wr e w3 hxr hs
        go_wp2_with fail
        refine (live_any w3).mono ?_
        rintro e w4 ⟨rfl, hx4⟩
        rcases HCASE.out with ⟨rfl, rfl⟩ | ⟨rfl, rfl⟩ <;> (go_wp2; go_ret; exact Yes.mk' rfl (hx3.trans hx4))
end Go.Proofs.Ytapjgncalldngaa
