/- A script's deeds, and a crash, as they lie in memory. Each holds for every program and world; the conditions are the hypotheses of each theorem. -/
import Derived.Test.YtklodimokhndoaaDk8
namespace Go.Proofs.Ytklodimokhndoaa
open Go.RowKit
def RCr : Reading Cr where
  says M w cs C := ∃ A cap, cs = [.slice A C.keep.length cap, .int .i64 C.torn, .int .i64 C.at_] ∧ SlM M w A (bo C.keep) ∧ C.keep.length ≤ 140737488351232
  kept := by
    rintro M w w' cs x ⟨A, cap, h1, h2, h3⟩ hx
    exact ⟨A, cap, h1, h2.kept hx, h3⟩
  old := by
    rintro M N w cs x ⟨A, cap, h1, h2, h3⟩ hx
    exact ⟨A, cap, h1, h2.old hx, h3⟩
/-- one deed of a script -/
structure De where
  do_ : Int
  i : Int
  by_ : List UInt8
  cr : Cr
def RDe : Reading De where
  says M w cs d := ∃ A cap A2 cap2, cs = [.int .i64 d.do_, .int .i64 d.i, .slice A d.by_.length cap, .slice A2 d.cr.keep.length cap2, .int .i64 d.cr.torn, .int .i64 d.cr.at_] ∧ BsM M w A d.by_ ∧ SlM M w A2 (bo d.cr.keep) ∧
    d.cr.keep.length ≤ 140737488351232 ∧ d.by_.length ≤ 140737488351232 ∧ d.i ≤ 9223372036854775807
  kept := by
    rintro M w w' cs x ⟨A, cap, A2, cap2, h1, h2, h3, h4⟩ hx
    exact ⟨A, cap, A2, cap2, h1, BsM.kept h2 hx, h3.kept hx, h4⟩
  old := by
    rintro M N w cs x ⟨A, cap, A2, cap2, h1, h2, h3, h4⟩ hx
    exact ⟨A, cap, A2, cap2, h1, SlM.old h2 hx, h3.old hx, h4⟩
theorem add_field (ad : Addr) (n k : Nat) : ad.add (n + (k + 1)) = ⟨(ad.add n).block, (ad.add n).off + (k + 1), none⟩ := by
  unfold Addr.add
  by_cases h : n = 0 <;> simp [h, Nat.add_assoc]
/-- a deed of the script: its cells -/
theorem RsM.deed {w : World} {A : Option Addr} {l : List De} (h : RsM RDe 6 [] w A l) {k : Nat} (hk : k < l.length) :
    ∃ ad A1 c1 A2 c2, A = some ad ∧ Bs w A1 l[k].by_ ∧ Sl w A2 (bo l[k].cr.keep) ∧ l[k].cr.keep.length ≤ 140737488351232 ∧ l[k].by_.length ≤ 140737488351232 ∧ l[k].i ≤ 9223372036854775807 ∧
      (∀ w', Ext w w' → w'.cell? (ad.add (k * 6)) = some (.int .i64 l[k].do_)) ∧
      (∀ w', Ext w w' → w'.cell? ⟨(ad.add (k * 6)).block, (ad.add (k * 6)).off + 1, none⟩ = some (.int .i64 l[k].i)) ∧
      (∀ w', Ext w w' → w'.cell? ⟨(ad.add (k * 6)).block, (ad.add (k * 6)).off + 2, none⟩ = some (.slice A1 l[k].by_.length c1)) ∧
      (∀ w', Ext w w' → w'.cell? ⟨(ad.add (k * 6)).block, (ad.add (k * 6)).off + 3, none⟩ = some (.slice A2 l[k].cr.keep.length c2)) ∧
      (∀ w', Ext w w' → w'.cell? ⟨(ad.add (k * 6)).block, (ad.add (k * 6)).off + 4, none⟩ = some (.int .i64 l[k].cr.torn)) ∧
      (∀ w', Ext w w' → w'.cell? ⟨(ad.add (k * 6)).block, (ad.add (k * 6)).off + 5, none⟩ = some (.int .i64 l[k].cr.at_)) := by
  obtain ⟨ad, cs, e, _, _, hcell, A1, c1, A2, c2, rfl, h1, h2, h3, h4, h5⟩ := h.at_ (by omega) hk
  refine ⟨ad, A1, c1, A2, c2, e, BsM.bs h1, h2.sl, h3, h4, h5, ?_, ?_, ?_, ?_, ?_, ?_⟩
  · exact fun w' hx => hx.cell (hcell 0 _ rfl)
  · exact fun w' hx => hx.cell (by rw [← add_field ad (k * 6) 0]; exact hcell 1 _ rfl)
  · exact fun w' hx => hx.cell (by rw [← add_field ad (k * 6) 1]; exact hcell 2 _ rfl)
  · exact fun w' hx => hx.cell (by rw [← add_field ad (k * 6) 2]; exact hcell 3 _ rfl)
  · exact fun w' hx => hx.cell (by rw [← add_field ad (k * 6) 3]; exact hcell 4 _ rfl)
  · exact fun w' hx => hx.cell (by rw [← add_field ad (k * 6) 4]; exact hcell 5 _ rfl)
end Go.Proofs.Ytklodimokhndoaa
