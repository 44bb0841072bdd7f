/- The walk of bag.Add where the message may be. Conditions: those of IsBag; the bag's own block is older than the call. -/
import Derived.Test.YtbanjhfmddhndaaChecked
import Derived.Test.YtbanjhfmddhndaaBag6
import Derived.Deep.RegionHeld3
import Derived.Deep.RegionLaw
import Derived.BigQuiet
import Derived.Deep.QuietTactic
namespace Go.Proofs.Ytbanjhfmddhndaa
open Go.RowKit
set_option maxHeartbeats 1000000 in
theorem Add_full (p : Nat) (u : U) (A : Option Addr) (cap : Nat) (b : Bg) (M : List Nat) (w : World) (h : IsBag M w p b) (hM : ∀ k ∈ M, k < w.heap.size) (hp : p ∈ M) (hu : addOk u) (hf : (b.l.length : Int) = b.most) (hl : 0 ≤ b.lost ∧ b.lost ≤ 1000000) :
    Calls Try.prog 10 #[pt p, uv u A cap] w fun e w' => e = .returned (.int .i64 8) ∧ Kept [p] w w' ∧ IsBag M w' p ⟨b.most, b.lost + 1, b.l⟩ := by
  obtain ⟨c1, c2, c3, c4⟩ := hu
  have H1 := fun w => node_any u.from_ w
  simp only [decide_eq_true c1] at H1
  have H2 := fun w => node_any u.to_ w
  simp only [decide_eq_true c2] at H2
  have d3 : ((u.by_.length : Int) == 0) = false := by simp; exact fun e => c3 (by rw [e]; rfl)
  have d4 : ¬ (2006 : Int) < (u.by_.length : Int) := by omega
  obtain ⟨A1, cap1, h1, h2⟩ := h
  have hplt : p < w.heap.size := hM p hp
  have hx1 := (Ext.refl w).alloc (.cells #[.int .i64 u.from_, .int .i64 u.to_, .slice A u.by_.length cap] 30)
  have B1 : ∀ w', Ext w w' → w'.heap[p]? = some (.cells #[.int .i64 b.most, .int .i64 b.lost, .slice A1 b.l.length cap1] 54 (0, 0)) := fun w' hx => (hx.block p hplt).trans h1
  have C0 : ∀ w', Ext w w' → w'.cell? ⟨p, 0, none⟩ = some (.int .i64 b.most) := fun w' hx => by rw [cell_of_row w' p 0 _ _ _ (B1 w' hx)]; rfl
  have C1 : ∀ w', Ext w w' → w'.cell? ⟨p, 1, none⟩ = some (.int .i64 b.lost) := fun w' hx => by rw [cell_of_row w' p 1 _ _ _ (B1 w' hx)]; rfl
  have C2 : ∀ w', Ext w w' → w'.cell? ⟨p, 2, none⟩ = some (.slice A1 b.l.length cap1) := fun w' hx => by rw [cell_of_row w' p 2 _ _ _ (B1 w' hx)]; rfl
  have F0 : ∀ w' j, Ext w w' → w'.frozen? ⟨p, j, none⟩ = false := fun w' j hx => frozen_of_row w' p j _ _ (B1 w' hx)
  have hw2 : IntKind.i64.wrap (b.lost + 1) = b.lost + 1 := IntWalk.i64_in _ (by omega)
  have d5 : ((b.l.length : Int) == b.most) = true := by rw [hf]; exact beq_self_eq_true _
  have HF := Lib.hid hf
  have HB := Lib.hid B1
  have H2' := Lib.hid h2
  have HM := Lib.hid hM
  clear hf B1 h1 h2 c1 c2 c3 hM
  unfold pt uv
  go_enter Try.func10, Try.ntmps10
  go_wp2_with fail
  refine (H1 _).mono ?_
  rintro e w1 ⟨rfl, rfl⟩
  go_wp2_with fail
  refine (H2 _).mono ?_
  rintro e w1 ⟨rfl, rfl⟩
  go_wp2_with fail
  go_quiet (fail)
  go_wp2_with fail
  go_ret
  refine ⟨rfl, (Kept.of_ext (hx1.drewN _)).setCell (.inl (by simp)) _, A1, cap1, ?_, ?_⟩
  · simpa using heap_setCell_same _ p 1 _ _ (.int .i64 (b.lost + 1)) (HB.out _ (hx1.drewN _))
  · exact (H2'.out.kept (.of_ext (hx1.drewN _))).kept ((Kept.refl M _).setCell (.inl hp) _)
end Go.Proofs.Ytbanjhfmddhndaa
