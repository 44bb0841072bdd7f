/- The walk of bag.Take where the message is not kept. Conditions: those of IsBag; the bag's own block is older than the call. -/
import Derived.Test.YtbanjhfmddhndaaChecked
import Derived.Test.YtbanjhfmddhndaaBag3
namespace Go.Proofs.Ytbanjhfmddhndaa
open Go.RowKit
set_option maxHeartbeats 1000000 in
theorem Take_drop (p i : Nat) (b : Bg) (M : List Nat) (w : World) (h : IsBag M w p b) (hM : ∀ k ∈ M, k < w.heap.size) (hp : p ∈ M) (hl : b.l.length ≤ 1000000) (hi : i < b.l.length) (hn : b.l[i].by_.length ≤ 1000000) :
    Calls Try.prog 11 #[pt p, .int .i64 i, .bool false] w fun e w' => ∃ g, e = .returned (.tuple #[.agg #[.int .i64 b.l[i].from_, .int .i64 b.l[i].to_, .slice (some ⟨g, 0, none⟩) b.l[i].by_.length b.l[i].by_.length], .int .i64 0]) ∧
      Own w' w.heap.size (.slice (some ⟨g, 0, none⟩) b.l[i].by_.length b.l[i].by_.length) b.l[i].by_ ∧ w.heap.size ≤ g ∧ Kept [p] w w' ∧ IsBag (g :: M) w' p ⟨b.most, b.lost, b.l.eraseIdx i⟩ := by
  have HW := fun W (hx : Ext w W) => wrong_any p i b M W (h.ext hx)
  simp only [if_pos (show (0 : Int) ≤ i ∧ (i : Int) < b.l.length by omega)] at HW
  obtain ⟨A, cap, h1, h2⟩ := h
  obtain ⟨ad, cs, rfl, had, hcs, hcell, A2, cap2, rfl, hby⟩ := h2.at_ (by omega) hi
  have C2 : ∀ w', Ext w w' → w'.cell? ⟨p, 2, none⟩ = some (.slice (some ad) b.l.length cap) := fun w' hx => hx.cell (by rw [cell_of_row w p 2 _ _ _ h1]; rfl)
  have E0 : ∀ w', Ext w w' → w'.cell? (ad.add (i * 3)) = some (.int .i64 b.l[i].from_) := fun w' hx => hx.cell (hcell 0 _ rfl)
  have E1 : ∀ w', Ext w w' → w'.cell? ⟨(ad.add (i * 3)).block, (ad.add (i * 3)).off + 1, none⟩ = some (.int .i64 b.l[i].to_) := fun w' hx => hx.cell (by rw [← add_field ad (i * 3) 0]; exact hcell 1 _ rfl)
  have E2 : ∀ w', Ext w w' → w'.cell? ⟨(ad.add (i * 3)).block, (ad.add (i * 3)).off + 2, none⟩ = some (.slice A2 b.l[i].by_.length cap2) := fun w' hx => hx.cell (by rw [← add_field ad (i * 3) 1]; exact hcell 2 _ rfl)
  have HO : ∀ w', Ext w w' → Calls Try.prog 24 #[.agg #[.int .i64 b.l[i].from_, .int .i64 b.l[i].to_, .slice A2 b.l[i].by_.length cap2]] w' fun e w'' => ∃ g, e = .returned (.agg #[.int .i64 b.l[i].from_, .int .i64 b.l[i].to_, .slice (some ⟨g, 0, none⟩) b.l[i].by_.length b.l[i].by_.length]) ∧ Own w'' w'.heap.size (.slice (some ⟨g, 0, none⟩) b.l[i].by_.length b.l[i].by_.length) b.l[i].by_ ∧ Ext w' w'' := fun w' hx =>
    ownU_any _ _ A2 cap2 _ M w' (hby.kept (.of_ext hx)) hn
  have HC : ∀ N w3 w', (∀ k ∈ N, k ∈ M ∨ w.heap.size ≤ k) → Ext w w3 → Ext w3 w' → Calls Try.prog 23 #[.slice (some ad) b.l.length cap] w' fun e w'' => ∃ v, e = .returned v ∧ OwnR RU 3 30 N w w'' w3.heap.size v b.l ∧ Ext w3 w'' := by
    intro N w3 w' hg hx hx'
    refine (uclone_any (some ad) cap b.l N w w' (h2.old hg) (hx.trans hx') hl).mono ?_
    rintro e w'' ⟨v, rfl, ho, hx''⟩
    exact ⟨v, rfl, ho.low hx'.size, hx'.trans hx''⟩
  have HD : ∀ N w3 w' v, OwnR RU 3 30 N w w' w3.heap.size v b.l → Ext w3 w' → Calls Try.prog 26 #[v, .int .i64 i, .int .i64 ((i : Int) + 1)] w' fun e w'' => ∃ v', e = .returned v' ∧ OwnR RU 3 30 N w w'' w3.heap.size v' (b.l.eraseIdx i) ∧ Ext w3 w'' := by
    intro N w3 w' v ho hx
    refine (del_own b.l i w3.heap.size N v w w' ho hi).mono ?_
    rintro e w'' ⟨v', rfl, ho', hx'⟩
    exact ⟨v', rfl, ho', hx' w3 hx (Nat.le_refl _)⟩
  have hw1 : IntKind.i64.wrap ((i : Int) + 1) = (i : Int) + 1 := IntWalk.i64_in _ (by omega)
  have hplt : p < w.heap.size := hM p hp
  have HM := Lib.hid hM
  clear hM
  generalize b.l[i] = u at *
  have H1 := Lib.hid h1
  have H2 := Lib.hid h2
  clear h1 h2 hcell hby
  unfold pt at HW ⊢
  go_enter Try.func11, Try.ntmps11
  go_wp2_with fail
  refine (HW _ ((Ext.refl w).alloc _)).mono ?_
  rintro e w1 ⟨rfl, hx1⟩
  have r1 := (hx1.block w.heap.size (by simp)).trans (heap_alloc_new w _)
  have hx : Ext w w1 := ((Ext.refl w).alloc _).trans hx1
  go_wp2_with fail
  refine (HO _ hx).mono ?_
  rintro e w2 ⟨g, rfl, ho, hx2⟩
  have hx' := hx.trans hx2
  have r2 := (hx2.block w.heap.size (by have := hx1.size; simp at this; omega)).trans r1
  have hgs := ho.lt g rfl
  have hs := hx1.size
  simp at hs
  obtain ⟨w3, hw3⟩ : ∃ w3, w3 = w2.alloc (.cells #[.int .i64 u.from_, .int .i64 u.to_, .slice (some ⟨g, 0, none⟩) u.by_.length u.by_.length] 30) := ⟨_, rfl⟩
  have hx3 : Ext w2 w3 := hw3 ▸ (Ext.refl w2).alloc _
  have r3 : w3.heap[w2.heap.size]? = some (.cells #[.int .i64 u.from_, .int .i64 u.to_, .slice (some ⟨g, 0, none⟩) u.by_.length u.by_.length] 30 (0, 0)) := hw3 ▸ heap_alloc_new w2 _
  have hs3 : w2.heap.size < w3.heap.size := (Array.getElem?_eq_some_iff.1 r3).1
  go_wp2_with fail
  rw [← hw3]
  clear hw3
  refine (HC (w.heap.size :: g :: M) w3 w3 (by intro k hk; simp only [List.mem_cons] at hk; rcases hk with rfl | rfl | hk; exact .inr (Nat.le_refl _); exact .inr (by omega); exact .inl hk) (hx'.trans hx3) (Ext.refl _)).mono ?_
  rintro e w4 ⟨v, rfl, hown, hx4⟩
  go_wp2_with fail
  refine (HD _ w3 w4 _ hown hx4).mono ?_
  rintro e w5 ⟨v', rfl, hown', hx5⟩
  obtain ⟨A', cap', rfl⟩ := hown'.form
  have b1 := (hx'.trans (hx3.trans hx5)).block p hplt
  rw [H1.out] at b1
  have c2 := cell_of_row w5 p 2 _ _ _ b1
  have g0 := fun j => frozen_of_row w5 p j _ _ b1
  have r5 := ((hx3.trans hx5).block w.heap.size (by omega)).trans r2
  have d0 := cell_of_row w5 w.heap.size 0 _ _ _ r5
  have d1 := cell_of_row w5 w.heap.size 1 _ _ _ r5
  have d2 := cell_of_row w5 w.heap.size 2 _ _ _ r5
  have f0 := fun j => frozen_of_row w5 w.heap.size j _ _ r5
  have r6 := (hx5.block w2.heap.size hs3).trans r3
  have e0 := cell_of_row w5 w2.heap.size 0 _ _ _ r6
  have e1 := cell_of_row w5 w2.heap.size 1 _ _ _ r6
  have e2 := cell_of_row w5 w2.heap.size 2 _ _ _ r6
  simp only [List.getElem?_toArray, List.getElem?_cons_zero, List.getElem?_cons_succ] at c2 d0 d1 d2 e0 e1 e2
  have n1 : ¬ p = w.heap.size := by omega
  have n2 : ¬ p = w2.heap.size := by omega
  have n3 : ¬ w.heap.size = w2.heap.size := by omega
  have n4 : ¬ w.heap.size = p := by omega
  have n5 : ¬ w2.heap.size = p := by omega
  have n6 : ¬ w2.heap.size = w.heap.size := by omega
  go_wp2_with fail
  refine bodyPost_ret (v := .tuple #[.agg #[.int .i64 u.from_, .int .i64 u.to_, .slice (some ⟨g, 0, none⟩) u.by_.length u.by_.length], .int .i64 0]) (by simp [results, Try.results11, go_sem, d0, d1, d2]) rfl ?_
  have Kp := (Kept.refl [p] w5).setCell (p := ⟨p, 2, none⟩) (.inl (by simp)) (.slice A' (b.l.eraseIdx i).length cap')
  have hrow := heap_setCell_same w5 p 2 _ _ (.slice A' (b.l.eraseIdx i).length cap') b1
  have HR := (hown'.rsm (.of_ext (hx'.trans (hx3.trans hx5))) (by
    intro k hk
    simp only [List.mem_cons] at hk
    rcases hk with rfl | rfl | hk
    · omega
    · omega
    · have := HM.out k hk; omega))
  have Kw : Kept [p] w (w5.setCell ⟨p, 2, none⟩ (.slice A' (b.l.eraseIdx i).length cap')) := (Kept.of_ext (hx'.trans (hx3.trans hx5))).trans Kp
  generalize w5.setCell ⟨p, 2, none⟩ (.slice A' (b.l.eraseIdx i).length cap') = w6 at *
  have K0 := (((Kept.refl [w.heap.size] w6).setCell (p := ⟨w.heap.size, 0, none⟩) (.inl (by simp)) (.int .i64 u.from_)).setCell (p := ⟨w.heap.size, 1, none⟩) (.inl (by simp)) (.int .i64 u.to_)).setCell (p := ⟨w.heap.size, 2, none⟩) (.inl (by simp)) (.slice (some ⟨g, 0, none⟩) u.by_.length u.by_.length)
  generalize ((w6.setCell ⟨w.heap.size, 0, none⟩ (.int .i64 u.from_)).setCell ⟨w.heap.size, 1, none⟩ (.int .i64 u.to_)).setCell ⟨w.heap.size, 2, none⟩ (.slice (some ⟨g, 0, none⟩) u.by_.length u.by_.length) = w7 at *
  refine ⟨g, rfl, (((ho.ext (hx3.trans hx5)).kept Kp.grows (.inr ?_)).kept K0.grows (.inr ?_)).low (by omega), by omega, ?_, ?_⟩
  · simp [Value.ownBlock]
    omega
  · simp [Value.ownBlock]
    omega
  · exact ((Kw.mono (N := [p, w.heap.size]) (by simp)).trans (K0.mono (by simp))).less (by intro k hk hlt; simp at hk ⊢; omega)
  · refine ⟨A', cap', ?_, ?_⟩
    · rw [K0.block p (by have := Kp.size; have := hx5.size; omega) (by simp; omega), hrow]
      simp
    · exact ((HR.kept (Kp.mono (by simp; exact .inr (.inr hp)))).kept (K0.mono (by simp))).old (by intro k hk; left; simp at hk ⊢; exact .inr hk)
end Go.Proofs.Ytbanjhfmddhndaa
