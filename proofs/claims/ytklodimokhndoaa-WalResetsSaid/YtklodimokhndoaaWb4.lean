/- The log's Append: what it does, in plain words; a record laid behind the others in memory. Conditions: the hypotheses of each theorem. -/
import Derived.Test.YtklodimokhndoaaWb3
import Derived.Test.YtklodimokhndoaaWa3
namespace Go.Proofs.Ytklodimokhndoaa
open Go.RowKit
/-- k pages of a space, from page k0 on -/
def apW (b k0 : Nat) (sp : By) (k : Nat) : List (Nat × By) := (List.range' k0 k).map fun i => (b + 1 + i, pgO sp i)
theorem apW_succ (b k0 : Nat) (sp : By) (k : Nat) : apW b k0 sp (k + 1) = apW b k0 sp k ++ [(b + 1 + (k0 + k), pgO sp (k0 + k))] := by
  simp [apW, List.range'_concat]
def apP (L : Nat) (sp : By) : Nat := (sp.length + 63) / 64 - skipF L / 64
def appendR (s : Dk) (g : Lg) (r : By) : Int × Dk × Lg :=
  if beginE s g ≠ 0 then (beginE s g, s, g) else if wrongR r ≠ 0 then (wrongR r, s, g) else if 64 * (g.size - 1) < (layF g.space r).length then (8, s, g)
  else if (wrF s (apW (g.at_ g.half) (skipF g.space.length / 64) (layF g.space r) (apP g.space.length (layF g.space r)))).1 ≠ 0 then
    ((wrF s (apW (g.at_ g.half) (skipF g.space.length / 64) (layF g.space r) (apP g.space.length (layF g.space r)))).1, (wrF s (apW (g.at_ g.half) (skipF g.space.length / 64) (layF g.space r) (apP g.space.length (layF g.space r)))).2, g)
  else (0, (wrF s (apW (g.at_ g.half) (skipF g.space.length / 64) (layF g.space r) (apP g.space.length (layF g.space r)))).2, ⟨g.age, g.base, g.size, g.half, g.gen, layF g.space r, g.recs ++ [r]⟩)
section
variable {M N : List Nat} {w w' : World} {p q : Nat} {s s' : Dk} {g : Lg} {B : List Nat} {A : Option Addr} {c : Nat} {v : Value} {vs : List Value}
theorem SysI.vq (h : SysI M N w p q s g B A c v vs) : v.ownBlock = none ∨ v.ownBlock ≠ some q := owns_obj h.own h.row (by decide)
theorem SysI.keptq (h : SysI M N w p q s g B A c v vs) (hk : Kept [q] w w') {g' : Lg} {A' : Option Addr} {c' : Nat} (hr : LgRow w' q p g' A' c' v) (he : g'.recs = g.recs) (hs : BsM N w A' g'.space) (hc : g'.space.length ≤ c') : SysI M N w' p q s g' B A' c' v vs := by
  have hkN : ∀ k ∈ [q], k ∈ N := by simpa using h.MN q h.qM
  refine ⟨?_, hr, h.BM, h.qM, h.vM, h.qB, h.vB, h.MN, fun k hk2 => Nat.lt_of_lt_of_le (h.lt k hk2) hk.size, hs.kept (hk.mono hkN), hc, ?_, fun k l hk2 => ?_⟩
  · obtain ⟨g0, cap0, v0, hi⟩ := h.disk
    exact ⟨g0, cap0, v0, hi.kept hk fun k hkB hm => by simp at hm; subst hm; exact h.qB hkB⟩
  · rw [he]
    obtain ⟨h1, h2⟩ := h.own
    refine ⟨h1, ?_⟩
    rcases h2 with h2 | ⟨g', cap', cur, e, hb, hg, h3⟩
    · exact .inl h2
    · exact .inr ⟨g', cap', cur, e, hb, hk.heap hg (fun hm => by
        simp at hm
        subst hm
        rcases h.vq with e' | e'
        · rw [e] at e'; cases e'
        · exact e' (by rw [e]; rfl)), h3⟩
  · rw [he] at hk2
    obtain ⟨A', c', h1, h2, h3⟩ := h.els k l hk2
    exact ⟨A', c', h1, h2, h3.kept (hk.mono hkN)⟩
/-- the space anew -/
theorem SysI.set6 (h : SysI M N w p q s g B A c v vs) {A' : Option Addr} {c' : Nat} {l : By} (hs : BsM N w A' l) (hc : l.length ≤ c') :
    SysI M N (w.setCell ⟨q, 6, none⟩ (.slice A' l.length c')) p q s ⟨g.age, g.base, g.size, g.half, g.gen, l, g.recs⟩ B A' c' v vs :=
  h.keptq (g' := ⟨g.age, g.base, g.size, g.half, g.gen, l, g.recs⟩) ((Kept.refl _ _).setCell (.inl (by simp)) _) (LgC.set6 h.row _) rfl hs hc
/-- one record more -/
theorem SysI.push {w1 : World} (h : SysI M N w p q s g B A c v vs) {v1 : Value} {r : By} {Au : Option Addr} {cu base : Nat} (hk : Kept v.ownBlock.toList w w1) (ho : w1.ownsRow 0 46 1 v1 (g.recs.length + 1) (vs ++ [.slice Au r.length cu])) (hor : v1.ownBlock = v.ownBlock ∨ ∃ k, v1.ownBlock = some k ∧ w.heap.size ≤ k)
    (hu : Own w1 base (.slice Au r.length cu) r) (hb : w.heap.size ≤ base) :
    SysI (v1.ownBlock.toList ++ M) (v1.ownBlock.toList ++ N) (w1.setCell ⟨q, 7, none⟩ v1) p q s ⟨g.age, g.base, g.size, g.half, g.gen, g.space, g.recs ++ [r]⟩ B A c v1 (vs ++ [.slice Au r.length cu]) ∧ Turn M w (v1.ownBlock.toList ++ M) (w1.setCell ⟨q, 7, none⟩ v1) := by
  have hne : (5 : Nat) ≠ 46 := by decide
  have hvM : ∀ k ∈ v.ownBlock.toList, k ∈ M := fun k hk2 => h.vM k (by simpa using hk2)
  have hnew : ∀ k ∈ v1.ownBlock.toList, k ∈ M ∨ w.heap.size ≤ k := fun k hk2 => by
    have hk2 : v1.ownBlock = some k := by simpa using hk2
    rcases hor with e | ⟨j, e, hj⟩
    · exact .inl (h.vM k (by rw [← e]; exact hk2))
    · rw [e] at hk2; injection hk2 with hk2; exact .inr (hk2 ▸ hj)
  have hnN : ∀ k ∈ v1.ownBlock.toList ++ N, k ∈ N ∨ w.heap.size ≤ k := fun k hk2 => by
    rcases List.mem_append.1 hk2 with hk2 | hk2
    · rcases hnew k hk2 with h1 | h1
      · exact .inl (h.MN k h1)
      · exact .inr h1
    · exact .inl hk2
  have hqv : q ∉ v.ownBlock.toList := fun hm => by
    have hm : v.ownBlock = some q := by simpa using hm
    rcases h.vq with e | e
    · rw [e] at hm; cases hm
    · exact e hm
  have hrow1 := h.row.kept hk hqv
  have hv1q : v1.ownBlock = none ∨ v1.ownBlock ≠ some q := owns_obj ho hrow1 (by decide)
  have hk7 : Kept [q] w1 (w1.setCell ⟨q, 7, none⟩ v1) := (Kept.refl _ _).setCell (.inl (by simp)) _
  have hkk : Kept (v1.ownBlock.toList ++ N) w (w1.setCell ⟨q, 7, none⟩ v1) := (hk.mono fun k hk2 => List.mem_append.2 (.inr (h.MN k (hvM k hk2)))).trans (hk7.mono fun k hk2 => by simp at hk2; subst hk2; exact List.mem_append.2 (.inr (h.MN _ h.qM)))
  have hsc : (w1.setCell ⟨q, 7, none⟩ v1).heap.size = w1.heap.size := by simp
  refine ⟨⟨?_, ?_, fun k hk2 => List.mem_append.2 (.inr (h.BM k hk2)), List.mem_append.2 (.inr h.qM), fun k hk2 => List.mem_append.2 (.inl (by simp [hk2])), h.qB, fun k hk2 hB => ?_, ?_, ?_, (SlM.old h.sp hnN).kept hkk, h.cap, ?_, fun k l hk2 => ?_⟩, ?_⟩
  · obtain ⟨g0, cap0, v0, hi⟩ := h.disk
    refine ⟨g0, cap0, v0, (hi.kept hk fun k hkB hm => h.vB k (by simpa using hm) hkB).kept hk7 fun k hkB hm => ?_⟩
    simp at hm
    subst hm
    exact h.qB hkB
  · exact LgC.set7 hrow1 _
  · rcases hor with e | ⟨j, e, hj⟩
    · exact h.vB k (by rw [← e]; exact hk2) hB
    · rw [e] at hk2
      injection hk2 with hk2
      have := h.lt k (h.MN k (h.BM k hB))
      omega
  · intro k hk2
    rcases List.mem_append.1 hk2 with hk2 | hk2
    · exact List.mem_append.2 (.inl hk2)
    · exact List.mem_append.2 (.inr (h.MN k hk2))
  · intro k hk2
    rw [hsc]
    rcases List.mem_append.1 hk2 with hk2 | hk2
    · exact (ho.lt k (by simpa using hk2)).2
    · exact Nat.lt_of_lt_of_le (h.lt k hk2) hk.size
  · have e : (g.recs ++ [r]).length = g.recs.length + 1 := by simp
    simp only [e]
    exact ho.kept (row := some q) ⟨rfl, rfl, rfl, by simp, fun k _ hk2 => heap_setCell_other w1 ⟨q, 7, none⟩ k _ (fun e => hk2 (by simp [e]))⟩ hv1q
  · have hvl : vs.length = g.recs.length := by have := h.own.1; omega
    simp only at hk2
    by_cases hlt : k < g.recs.length
    · rw [List.getElem?_append_left hlt] at hk2
      obtain ⟨A', c', h1, h2, h3⟩ := h.els k l hk2
      exact ⟨A', c', by rw [List.getElem?_append_left (by omega)]; exact h1, h2, (SlM.old h3 hnN).kept hkk⟩
    · rw [List.getElem?_append_right (by omega)] at hk2
      have hk0 : k - g.recs.length = 0 := by
        rcases Nat.eq_zero_or_pos (k - g.recs.length) with h | h
        · exact h
        · rw [List.getElem?_eq_none (by simp; omega)] at hk2; cases hk2
      rw [hk0] at hk2
      simp at hk2
      subst hk2
      refine ⟨Au, cu, by rw [List.getElem?_append_right (by omega), show k - vs.length = 0 by omega]; rfl, hu.cap.1, ?_⟩
      have hu2 : Own (w1.setCell ⟨q, 7, none⟩ v1) base (.slice Au r.length cu) r := hu.setOther hrow1 (by decide)
      intro j x hj
      obtain ⟨ad, e, hc⟩ := hu2.bs j x hj
      refine ⟨ad, e, fun hm => ?_, hc⟩
      subst e
      have hbl := hu.lt ad.block rfl
      rcases List.mem_append.1 hm with hm | hm
      · have hm : v1.ownBlock = some ad.block := by simpa using hm
        rcases owns_apart hu ho hne with e | e
        · cases e
        · exact e (by rw [hm]; rfl)
      · have := h.lt _ hm
        omega
  · refine ⟨(hk.mono hvM).trans (hk7.mono fun k hk2 => by simp at hk2; subst hk2; exact h.qM), fun k hk2 => List.mem_append.2 (.inr hk2), fun k hk2 => ?_⟩
    rcases List.mem_append.1 hk2 with hk2 | hk2
    · exact hnew k hk2
    · exact .inl hk2
end
end Go.Proofs.Ytklodimokhndoaa
