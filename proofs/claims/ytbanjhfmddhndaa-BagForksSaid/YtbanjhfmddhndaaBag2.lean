/- The walk of bag.Lose. Conditions: those of IsBag; the bag's own block is older than the call. -/
import Derived.Test.YtbanjhfmddhndaaChecked
import Derived.Test.YtbanjhfmddhndaaBag
import Derived.Deep.RegionHeld3
import Derived.IntWalk
namespace Go.Proofs.Ytbanjhfmddhndaa
open Go.RowKit
theorem Lose_no (p : Nat) (i : Int) (b : Bg) (M : List Nat) (w : World) (h : IsBag M w p b) (hi : ¬ (0 ≤ i ∧ i < b.l.length)) :
    Calls Try.prog 12 #[pt p, .int .i64 i] w fun e w' => e = .returned (.int .i64 2) ∧ Ext w w' := by
  have HW := wrong_any p i b M w h
  rw [if_neg hi] at HW
  have HI := Lib.hid hi
  clear hi h
  unfold pt at HW ⊢
  go_enter Try.func12, Try.ntmps12
  go_wp2_with fail
  refine HW.mono ?_
  rintro e w1 ⟨rfl, hx1⟩
  go_wp2
  go_ret
  exact ⟨rfl, hx1⟩
set_option maxHeartbeats 1000000 in
theorem Lose_ok (p i : Nat) (b : Bg) (M : List Nat) (w : World) (h : IsBag M w p b) (hM : ∀ k ∈ M, k < w.heap.size) (hp : p ∈ M) (hn : b.l.length ≤ 1000000) (hl : 0 ≤ b.lost ∧ b.lost ≤ 1000000) (hi : i < b.l.length) :
    Calls Try.prog 12 #[pt p, .int .i64 i] w fun e w' => e = .returned (.int .i64 0) ∧ Kept [p] w w' ∧ IsBag M w' p ⟨b.most, b.lost + 1, b.l.eraseIdx i⟩ := by
  have HW := wrong_any p i b M w h
  rw [if_pos (by omega)] at HW
  obtain ⟨A, cap, h1, h2⟩ := h
  have HC : ∀ w', Ext w w' → Calls Try.prog 23 #[.slice A b.l.length cap] w' fun e w'' => ∃ v, e = .returned v ∧ OwnR RU 3 30 M w w'' w.heap.size v b.l ∧ Ext w w'' := by
    intro w' hx
    refine (uclone_any A cap b.l M w w' h2 hx hn).mono ?_
    rintro e w'' ⟨v, rfl, ho, hx'⟩
    exact ⟨v, rfl, ho.low hx.size, hx.trans hx'⟩
  have HD : ∀ w' v, OwnR RU 3 30 M w w' w.heap.size v b.l → Ext w w' → Calls Try.prog 26 #[v, .int .i64 i, .int .i64 ((i : Int) + 1)] w' fun e w'' => ∃ v', e = .returned v' ∧ OwnR RU 3 30 M w w'' w.heap.size v' (b.l.eraseIdx i) ∧ Ext w w'' := by
    intro w' v ho hx
    refine (del_own b.l i w.heap.size M v w w' ho hi).mono ?_
    rintro e w'' ⟨v', rfl, ho', hx'⟩
    exact ⟨v', rfl, ho', hx' w hx (Nat.le_refl _)⟩
  have c2 := cell_of_row w p 2 _ _ _ h1
  simp only [List.getElem?_toArray, List.getElem?_cons_zero, List.getElem?_cons_succ] at c2
  have C2 : ∀ w', Ext w w' → w'.cell? ⟨p, 2, none⟩ = some (.slice A b.l.length cap) := fun w' hx => hx.cell c2
  have hw1 : IntKind.i64.wrap ((i : Int) + 1) = (i : Int) + 1 := IntWalk.i64_in _ (by omega)
  have hw2 : IntKind.i64.wrap (b.lost + 1) = b.lost + 1 := IntWalk.i64_in _ (by omega)
  have hplt : p < w.heap.size := hM p hp
  have H1 := Lib.hid h1
  have H2 := Lib.hid h2
  have HM := Lib.hid hM
  clear h1 h2 hM c2
  unfold pt at HW ⊢
  go_enter Try.func12, Try.ntmps12
  go_wp2_with fail
  refine HW.mono ?_
  rintro e w1 ⟨rfl, hx1⟩
  go_wp2_with fail
  refine (HC _ hx1).mono ?_
  rintro e w2 ⟨v, rfl, ho, hx2⟩
  go_wp2_with fail
  refine (HD _ _ ho hx2).mono ?_
  rintro e w3 ⟨v', rfl, ho', hx3⟩
  obtain ⟨A', cap', rfl⟩ := ho'.form
  have b1 := hx3.block p hplt
  rw [H1.out] at b1
  have d0 := cell_of_row w3 p 0 _ _ _ b1
  have d1 := cell_of_row w3 p 1 _ _ _ b1
  have d2 := cell_of_row w3 p 2 _ _ _ b1
  have f0 := fun j => frozen_of_row w3 p j _ _ b1
  simp only [List.getElem?_toArray, List.getElem?_cons_zero, List.getElem?_cons_succ] at d0 d1 d2
  go_wp2
  go_ret
  refine ⟨rfl, ((Kept.of_ext hx3).setCell (.inl (by simp)) _).setCell (.inl (by simp)) _, A', cap', ?_, ?_⟩
  · simpa using heap_setCell_same _ p 1 _ _ (.int .i64 (b.lost + 1)) (heap_setCell_same w3 p 2 _ _ (.slice A' (b.l.eraseIdx i).length cap') b1)
  · exact (ho'.rsm (.of_ext hx3) HM.out).kept (((Kept.refl M w3).setCell (.inl hp) _).setCell (.inl hp) _)
end Go.Proofs.Ytbanjhfmddhndaa
