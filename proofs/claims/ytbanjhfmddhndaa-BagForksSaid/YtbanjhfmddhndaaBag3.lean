/- The walk of bag.Take. Conditions: those of IsBag; the bag's own block is older than the call. -/
import Derived.Test.YtbanjhfmddhndaaChecked
import Derived.Test.YtbanjhfmddhndaaBag2
namespace Go.Proofs.Ytbanjhfmddhndaa
open Go.RowKit
theorem add_field (ad : Addr) (n k : Nat) : ad.add (n + (k + 1)) = ⟨(ad.add n).block, (ad.add n).off + (k + 1), none⟩ := by
  unfold Addr.add
  by_cases h : n = 0 <;> simp [h, Nat.add_assoc]
theorem Kept.grows {k : Nat} {w w' : World} (h : Kept [k] w w') : w.grownBy w' (some k) := ⟨h.os, h.tape, h.output, h.size, fun i hi hne => h.block i hi (by simp; rintro rfl; exact hne rfl)⟩
theorem Take_no (p : Nat) (i : Int) (keep : Bool) (b : Bg) (M : List Nat) (w : World) (h : IsBag M w p b) (hi : ¬ (0 ≤ i ∧ i < b.l.length)) :
    Calls Try.prog 11 #[pt p, .int .i64 i, .bool keep] w fun e w' => e = .returned (.tuple #[.agg #[.int .i64 0, .int .i64 0, .slice none 0 0], .int .i64 2]) ∧ Ext w w' := by
  have HW := fun W (hx : Ext w W) => wrong_any p i b M W (h.ext hx)
  simp only [if_neg hi] at HW
  have HI := Lib.hid hi
  clear hi h
  unfold pt at HW ⊢
  go_enter Try.func11, Try.ntmps11
  go_wp2_with fail
  refine (HW _ ((Ext.refl w).alloc _)).mono ?_
  rintro e w1 ⟨rfl, hx1⟩
  have r1 := (hx1.block w.heap.size (by simp)).trans (heap_alloc_new w _)
  have d0 := cell_of_row w1 w.heap.size 0 _ _ _ r1
  have d1 := cell_of_row w1 w.heap.size 1 _ _ _ r1
  have d2 := cell_of_row w1 w.heap.size 2 _ _ _ r1
  have f0 := fun j => frozen_of_row w1 w.heap.size j _ _ r1
  simp only [List.getElem?_toArray, List.getElem?_cons_zero, List.getElem?_cons_succ] at d0 d1 d2
  have hx := ((Ext.refl w).alloc _).trans hx1
  go_wp2_with fail
  refine bodyPost_ret (v := .tuple #[.agg #[.int .i64 0, .int .i64 0, .slice none 0 0], .int .i64 2]) (by simp [results, Try.results11, go_sem, d0, d1, d2]) rfl ?_
  exact ⟨rfl, ((hx.setCell (Nat.le_refl _) _).setCell (Nat.le_refl _) _).setCell (Nat.le_refl _) _⟩
set_option maxHeartbeats 1000000 in
theorem Take_keep (p i : Nat) (b : Bg) (M : List Nat) (w : World) (h : IsBag M w p b) (hi : i < b.l.length) (hn : b.l[i].by_.length ≤ 1000000) :
    Calls Try.prog 11 #[pt p, .int .i64 i, .bool true] w fun e w' => ∃ g, e = .returned (.tuple #[.agg #[.int .i64 b.l[i].from_, .int .i64 b.l[i].to_, .slice (some ⟨g, 0, none⟩) b.l[i].by_.length b.l[i].by_.length], .int .i64 0]) ∧
      Own w' w.heap.size (.slice (some ⟨g, 0, none⟩) b.l[i].by_.length b.l[i].by_.length) b.l[i].by_ ∧ Ext w w' := by
  have HW := fun W (hx : Ext w W) => wrong_any p i b M W (h.ext hx)
  simp only [if_pos (show (0 : Int) ≤ i ∧ (i : Int) < b.l.length by omega)] at HW
  obtain ⟨A, cap, h1, h2⟩ := h
  obtain ⟨ad, cs, rfl, had, hcs, hcell, A2, cap2, rfl, hby⟩ := h2.at_ (by omega) hi
  have C2 : ∀ w', Ext w w' → w'.cell? ⟨p, 2, none⟩ = some (.slice (some ad) b.l.length cap) := fun w' hx => hx.cell (by rw [cell_of_row w p 2 _ _ _ h1]; rfl)
  have E0 : ∀ w', Ext w w' → w'.cell? (ad.add (i * 3)) = some (.int .i64 b.l[i].from_) := fun w' hx => hx.cell (hcell 0 _ rfl)
  have E1 : ∀ w', Ext w w' → w'.cell? ⟨(ad.add (i * 3)).block, (ad.add (i * 3)).off + 1, none⟩ = some (.int .i64 b.l[i].to_) := fun w' hx => hx.cell (by rw [← add_field ad (i * 3) 0]; exact hcell 1 _ rfl)
  have E2 : ∀ w', Ext w w' → w'.cell? ⟨(ad.add (i * 3)).block, (ad.add (i * 3)).off + 2, none⟩ = some (.slice A2 b.l[i].by_.length cap2) := fun w' hx => hx.cell (by rw [← add_field ad (i * 3) 1]; exact hcell 2 _ rfl)
  have HO : ∀ w', Ext w w' → Calls Try.prog 24 #[.agg #[.int .i64 b.l[i].from_, .int .i64 b.l[i].to_, .slice A2 b.l[i].by_.length cap2]] w' fun e w'' => ∃ g, e = .returned (.agg #[.int .i64 b.l[i].from_, .int .i64 b.l[i].to_, .slice (some ⟨g, 0, none⟩) b.l[i].by_.length b.l[i].by_.length]) ∧ Own w'' w'.heap.size (.slice (some ⟨g, 0, none⟩) b.l[i].by_.length b.l[i].by_.length) b.l[i].by_ ∧ Ext w' w'' := fun w' hx =>
    ownU_any _ _ A2 cap2 _ M w' (hby.kept (.of_ext hx)) hn
  generalize b.l[i] = u at *
  have H1 := Lib.hid h1
  have H2 := Lib.hid h2
  clear h1 h2 hcell hby
  unfold pt at HW ⊢
  go_enter Try.func11, Try.ntmps11
  go_wp2_with fail
  refine (HW _ ((Ext.refl w).alloc _)).mono ?_
  rintro e w1 ⟨rfl, hx1⟩
  have r1 := (hx1.block w.heap.size (by simp)).trans (heap_alloc_new w _)
  have hx : Ext w w1 := ((Ext.refl w).alloc _).trans hx1
  go_wp2_with fail
  refine (HO _ hx).mono ?_
  rintro e w2 ⟨g, rfl, ho, hx2⟩
  have hx' := hx.trans hx2
  have r2 := (hx2.block w.heap.size (by have := hx1.size; simp at this; omega)).trans r1
  have R2 : ∀ w', Ext w2 w' → w'.heap[w.heap.size]? = some (.cells #[.int .i64 0, .int .i64 0, .slice none 0 0] 30 (0, 0)) := fun w' hx => (hx.block _ (Array.getElem?_eq_some_iff.1 r2).1).trans r2
  have D0 : ∀ w', Ext w2 w' → w'.cell? ⟨w.heap.size, 0, none⟩ = some (.int .i64 0) := fun w' hx => cell_of_row w' _ 0 _ _ _ (R2 w' hx)
  have D1 : ∀ w', Ext w2 w' → w'.cell? ⟨w.heap.size, 1, none⟩ = some (.int .i64 0) := fun w' hx => cell_of_row w' _ 1 _ _ _ (R2 w' hx)
  have D2 : ∀ w', Ext w2 w' → w'.cell? ⟨w.heap.size, 2, none⟩ = some (.slice none 0 0) := fun w' hx => cell_of_row w' _ 2 _ _ _ (R2 w' hx)
  have F0 : ∀ w' j, Ext w2 w' → w'.frozen? ⟨w.heap.size, j, none⟩ = false := fun w' j hx => frozen_of_row w' _ j _ _ (R2 w' hx)
  clear R2
  go_wp2_with fail
  have hx3 : Ext w2 (w2.alloc (.cells #[.int .i64 u.from_, .int .i64 u.to_, .slice (some ⟨g, 0, none⟩) u.by_.length u.by_.length] 30)) := (Ext.refl w2).alloc _
  have d0 := D0 _ hx3
  have d1 := D1 _ hx3
  have d2 := D2 _ hx3
  generalize w2.alloc (.cells #[.int .i64 u.from_, .int .i64 u.to_, .slice (some ⟨g, 0, none⟩) u.by_.length u.by_.length] 30) = w3 at hx3 d0 d1 d2 ⊢
  refine bodyPost_ret (v := .tuple #[.agg #[.int .i64 u.from_, .int .i64 u.to_, .slice (some ⟨g, 0, none⟩) u.by_.length u.by_.length], .int .i64 0]) (by simp [results, Try.results11, go_sem, d0, d1, d2]) rfl ?_
  have hs := hx1.size
  simp at hs
  refine ⟨g, rfl, ((ho.ext hx3).kept (((((Kept.refl [w.heap.size] w3).setCell (.inl (by simp)) _).setCell (.inl (by simp)) _).setCell (.inl (by simp)) _).grows) (.inr ?_)).low (by omega), (((hx'.trans hx3).setCell (Nat.le_refl _) _).setCell (Nat.le_refl _) _).setCell (Nat.le_refl _) _⟩
  have := (ho.lt g rfl).1
  simp [Value.ownBlock]
  omega
end Go.Proofs.Ytbanjhfmddhndaa
