/- The walks of the log's number, head, begin. Conditions: the hypotheses of each theorem. -/
import Derived.Test.YtklodimokhndoaaWa4
import Derived.Laws.BitsAllLaws
namespace Go.Proofs.Ytklodimokhndoaa
open Go.RowKit
def eightL (v k : Nat) : By := (be 8 v).take k ++ List.replicate (8 - k) 0
theorem eightL_len (v k : Nat) (hk : k ≤ 8) : (eightL v k).length = 8 := by simp [eightL, be_length]; omega
theorem eightL_set (v k : Nat) (hk : k < 8) : (eightL v k).set k (UInt8.ofNat (v / 256 ^ (7 - k))) = eightL v (k + 1) := by
  have hl : ((be 8 v).take k).length = k := by simp [be_length]; omega
  unfold eightL
  rw [be_take 8 v k hk, List.set_append_right _ _ (by omega), hl, Nat.sub_self, show 8 - k = (8 - (k + 1)) + 1 by omega, List.replicate_succ, List.set_cons_zero]
  simp
set_option maxHeartbeats 1000000 in
theorem wnumber_any (v : Nat) (w : World) : Calls Try.prog 58 #[.int .u64 v] w fun e w' => ∃ g, e = .returned (.slice (some ⟨g, 0, none⟩) 8 8) ∧ w.heap.size ≤ g ∧ Bs w' (some ⟨g, 0, none⟩) (be 8 v) ∧ Ext w w' := by
  have hx0 := (Ext.refl w).alloc (.cells (bv (eightL v 0)).toArray 127)
  have hr0 := heap_alloc_new w (.cells (bv (eightL v 0)).toArray 127)
  have h0 : eightL v 0 = [0, 0, 0, 0, 0, 0, 0, 0] := rfl
  go_enter Try.func58, Try.ntmps58
  go_wp2
  go_loopw [5] (fun iv wr => ∃ k : Nat, iv = .int .i64 k ∧ k ≤ 8 ∧ Hid (Ext w wr) ∧ Hid (wr.heap[w.heap.size]? = some (.cells (bv (eightL v k)).toArray 127 (0, 0)))) (fun iv _ => 8 - (intOf iv).toNat)
  case atStart => exact ⟨0, rfl, by omega, Lib.hid hx0, Lib.hid hr0⟩
  case round =>
    clear hx0 hr0 h0
    obtain ⟨k, rfl, hk, HX, HR⟩ := hrel
    by_cases hlt : k < 8
    · have hlt2 : (k : Int) < 8 := by omega
      have hsz : (bv (eightL v k)).toArray.size = 8 := by simp [eightL_len v k hk]
      have hfz := fun j => frozen_of_row wr w.heap.size j _ _ HR.out
      have hcl : wr.cell? ⟨w.heap.size, k, none⟩ = some ((bv (eightL v k))[k]'(by simp [eightL_len v k hk]; omega)) := by
        rw [cell_of_row wr w.heap.size k _ _ _ HR.out]
        simp
      generalize (bv (eightL v k))[k]'(by simp [eightL_len v k hk]; omega) = old at *
      have w1 : IntKind.i64.wrap (7 - (k : Int)) = ((7 - k : Nat) : Int) := by rw [wrapI _ (by omega) (by omega)]; omega
      have w2 : IntKind.i64.wrap (8 * ((7 - k : Nat) : Int)) = ((8 * (7 - k) : Nat) : Int) := by rw [wrapI _ (by omega) (by omega)]; omega
      clear hsz
      go_wp2
      rw [be_val]
      go_roundw
      case rel =>
        refine ⟨k + 1, by go_num, by omega, Lib.hid (HX.out.setCell (p := ⟨w.heap.size, k, none⟩) (Nat.le_refl _) _), Lib.hid ?_⟩
        rw [heap_setCell_same wr w.heap.size k _ _ _ HR.out, ← eightL_set v k hlt]
        simp [bv, List.map_set]
      case measure => simp [intOf]; omega
    · obtain rfl : k = 8 := by omega
      have h8 : eightL v 8 = be 8 v := by simp [eightL, List.take_of_length_le, be_length]
      have H8 := Lib.hid h8
      clear h8
      go_wp2
      go_ret
      rw [H8.out] at HR
      exact ⟨w.heap.size, rfl, Nat.le_refl _, Sl.of_row HR.out, HX.out⟩
/-- a head's number; 0: it does not count -/
def genF (l : By) : Nat := if (oneL l 0).2.2 ≠ 0 ∨ (oneL l 0).1.length ≠ 8 then 0 else if 4611686018427387904 < numL (oneL l 0).1 then 0 else numL (oneL l 0).1
theorem genF_le (l : By) : genF l ≤ 4611686018427387904 := by unfold genF; split; omega; split <;> omega
theorem num_bits8 (v : Nat) (c : UInt8) (hv : v < 72057594037927936) : bits .or .u64 ((v : Int) * 256) (c.toNat : Int) = ((v * 256 + c.toNat : Nat) : Int) := by
  have h2 := c.toNat_lt
  have h : ((v : Int) * 256) = ((v * 256 : Nat) : Int) := rfl
  rw [h, u64_or_nat _ _ (by omega) (by omega), nat_join 8 _ _ (by omega) (by omega)]
set_option maxHeartbeats 1000000 in
theorem whead_any {B : List Nat} {w : World} {p : Nat} {s : Dk} {n : Nat} (hD : Disk B w p s) (hs : s.Ok) (hf : s.Few n) (hn : n ≤ 1000000) (i : Int) :
    Calls Try.prog 29 #[pt p, .int .i64 i] w fun e w' => e = .returned (.int .u64 (genF (readL s i))) ∧ Ext w w' := by
  have HRD := Read_any hD hs hf hn i
  clear hD hs hf hn
  generalize readL s i = pg at *
  have HG : Hid (genF pg = if (oneL pg 0).2.2 ≠ 0 ∨ (oneL pg 0).1.length ≠ 8 then 0 else if 4611686018427387904 < numL (oneL pg 0).1 then 0 else numL (oneL pg 0).1) := Lib.hid rfl
  unfold pt at *
  go_enter Try.func29, Try.ntmps29
  go_wp2_with fail
  refine HRD.mono ?_
  rintro e w1 ⟨A, c, rfl, hfr, hx1, hc1, hc2⟩
  clear HRD
  have HO := One_any A c pg.length pg 0 w1 (hfr.bsM (M := []) (by simp)).bs rfl hc1 (by omega)
  clear hfr
  go_wp2_with fail
  refine HO.mono ?_
  rintro e w2 ⟨v, rfl, ho, hx2'⟩
  have HX2 := Lib.hid (hx1.trans hx2')
  obtain ⟨A2, c2, rfl⟩ := ho.form
  have HB := Lib.hid ho.bs
  clear HO ho hx2' hx1
  generalize oneL pg 0 = r at *
  obtain ⟨l, k, er⟩ := r
  simp only at HG HB
  have HG0 := HG
  by_cases h1 : er ≠ 0
  · have d1 : (er != 0) = true := by simpa using h1
    have HV := Lib.hid (HG.out.trans (if_pos (.inl h1)))
    clear HG HG0 h1
    go_wp2
    go_ret
    exact ⟨by rw [HV.out]; rfl, HX2.out⟩
  · have d1 : (er != 0) = false := by simpa using h1
    by_cases h2 : l.length ≠ 8
    · have d2 : ((l.length : Int) != 8) = true := by simp; omega
      have HV := Lib.hid (HG.out.trans (if_pos (.inr h2)))
      clear HG HG0 h1 h2
      go_wp2
      go_ret
      exact ⟨by rw [HV.out]; rfl, HX2.out⟩
    · have d2 : ((l.length : Int) != 8) = false := by simp; omega
      rw [if_neg (by simp only [not_or]; exact ⟨h1, h2⟩)] at HG
      clear HG0 h1
      have hl8 : l.length = 8 := by omega
      clear h2
      have HL8 := Lib.hid hl8
      have hl9 : l.length ≤ 8 := by omega
      clear hl8
      go_wp2_with fail
      go_loopw [10, 34] (fun gv iv wr => ∃ k : Nat, iv = .int .i64 k ∧ k ≤ l.length ∧ gv = .int .u64 ((numL (l.take k) : Nat) : Int) ∧ Hid (Ext w wr) ∧ Hid (Ext w2 wr)) (fun _ iv _ => l.length - (intOf iv).toNat)
      case atStart => exact ⟨0, rfl, by omega, rfl, HX2, Lib.hid (Ext.refl _)⟩
      case round =>
        clear HX2
        obtain ⟨k, rfl, hk, rfl, HX, HXb⟩ := hrel
        by_cases hlt : k < l.length
        · have hlt2 : (k : Int) < (l.length : Int) := by omega
          obtain ⟨ad, rfl, hc⟩ := HB.out.at_ hlt
          have hc := hc wr HXb.out
          have hnt := Lib.hid (numL_take l k hlt)
          have hnl := numL_lt l k hk
          have hnl2 : 256 ^ k ≤ 256 ^ 7 := Nat.pow_le_pow_right (by omega) (by omega)
          have hnb := num_bits8 (numL (l.take k)) l[k] (Nat.lt_of_lt_of_le hnl hnl2)
          have hnb2 : IntKind.u64.wrap ((numL (l.take k) : Int) * 256) = (numL (l.take k) : Int) * 256 := by unfold IntKind.wrap; simp [IntKind.bits, IntKind.signed]; omega
          have hcu := l[k].toNat_lt
          clear hnl hnl2
          generalize l[k] = cc at *
          generalize numL (l.take k) = nn at *
          go_wp2
          go_roundw
          case rel => exact ⟨k + 1, by go_num, by omega, by rw [hnt.out, Int.natCast_add, Int.natCast_mul]; rfl, HX, HXb⟩
          case measure => simp [intOf]; omega
        · have hke : k = l.length := by omega
          have hlt2 : ¬ (k : Int) < (l.length : Int) := by omega
          have htk : l.take k = l := by rw [hke, List.take_length]
          rw [htk]
          clear htk hke
          generalize numL l = nn at *
          by_cases h3 : 4611686018427387904 < nn
          · have d3 : (4611686018427387904 : Int) < (nn : Int) := by omega
            have HV := Lib.hid (HG.out.trans (if_pos h3))
            clear HG h3
            go_wp2
            go_ret
            exact ⟨by rw [HV.out]; rfl, HX.out⟩
          · have d3 : ¬ (4611686018427387904 : Int) < (nn : Int) := by omega
            have HV := Lib.hid (HG.out.trans (if_neg h3))
            clear HG h3
            go_wp2
            go_ret
            exact ⟨by rw [HV.out]; rfl, HX.out⟩
def beginE (s : Dk) (g : Lg) : Int := if g.age ≠ s.age then 12 else if s.down = true then 7 else 0
theorem wbegin_nil (w : World) : Calls Try.prog 48 #[.pointer none] w fun e w' => e = .returned (.int .i64 1) ∧ Ext w w' := by
  go_enter Try.func48, Try.ntmps48
  go_wp2
  go_ret
  exact ⟨rfl, Ext.refl _⟩
set_option maxHeartbeats 1000000 in
theorem wbegin_any {B : List Nat} {w : World} {q p : Nat} {g : Lg} {A : Option Addr} {c : Nat} {v : Value} {s : Dk} (h : LgRow w q p g A c v) (hD : Disk B w p s) :
    Calls Try.prog 48 #[pt q] w fun e w' => e = .returned (.int .i64 (beginE s g)) ∧ Ext w w' := by
  obtain ⟨c0, c1, -⟩ := h.cell
  have HAG := fun W (hx : Ext w W) => Age_all (hD.ext hx)
  have HDN := fun W (hx : Ext w W) => Down_all (hD.ext hx)
  have HG : Hid (beginE s g = if g.age ≠ s.age then 12 else if s.down = true then 7 else 0) := Lib.hid rfl
  clear h hD
  generalize s.age = sa at *
  generalize g.age = ga at *
  have hxd : Ext w w.drew := (Ext.refl _).drew
  unfold pt at *
  go_enter Try.func48, Try.ntmps48
  by_cases h1 : ga ≠ sa
  · have d1 : ((ga : Int) != (sa : Int)) = true := by simp; omega
    have HV := Lib.hid (HG.out.trans (if_pos h1))
    clear HG h1 HDN
    go_wp2_with fail
    go_region_held3 (fun W => Ext w W) (first | exact hxd | assumption) ((first
      | (go_at_call 28; refine (HAG _ (by first | assumption | exact hxd)).mono ?_; rintro e w3 ⟨rfl, hx3'⟩; have hx3 : Ext w w3 := Ext.trans (by first | assumption | exact hxd) hx3'; clear hx3')))
    all_goals
      go_wp2
      go_ret
      exact ⟨by rw [HV.out]; rfl, by assumption⟩
  · have d1 : ((ga : Int) != (sa : Int)) = false := by simp; omega
    rw [if_neg h1] at HG
    clear h1
    go_wp2_with fail
    go_region_held3 (fun W => Ext w W) (first | exact hxd | assumption) ((first
      | (go_at_call 28; refine (HAG _ (by first | assumption | exact hxd)).mono ?_; rintro e w3 ⟨rfl, hx3'⟩; have hx3 : Ext w w3 := Ext.trans (by first | assumption | exact hxd) hx3'; clear hx3')))
    all_goals
      clear HAG
      go_wp2_with fail
      refine (HDN _ hx3).mono ?_
      rintro e w4 ⟨rfl, hx4⟩
      clear HDN
      cases hdn : s.down with
      | true =>
        have HV := Lib.hid (HG.out.trans (if_pos hdn))
        clear HG hdn
        go_wp2
        go_ret
        exact ⟨by rw [HV.out]; rfl, hx3.trans hx4⟩
      | false =>
        have HV := Lib.hid (HG.out.trans (if_neg (by rw [hdn]; decide)))
        clear HG hdn
        go_wp2
        go_ret
        exact ⟨by rw [HV.out]; rfl, hx3.trans hx4⟩
end Go.Proofs.Ytklodimokhndoaa
