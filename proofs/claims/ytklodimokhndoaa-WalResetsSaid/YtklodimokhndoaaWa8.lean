/- The walk of the log's lay. Conditions: the hypotheses of each theorem. -/
import Derived.Test.YtklodimokhndoaaWa7
namespace Go.Proofs.Ytklodimokhndoaa
open Go.RowKit
/-- what is no part of a disk is kept -/
def Kd (w w' : World) : Prop := ∀ (k : Nat) (o : Obj), w.heap[k]? = some o → (∀ cs t fr, o = Obj.cells cs t fr → t ≠ 68 ∧ t ≠ 104 ∧ t ≠ 106) → w'.heap[k]? = some o
theorem Kd.kept {M : List Nat} {w w' : World} (h : Kept M w w') (hM : ∀ k ∈ M, ∃ cs t, w.heap[k]? = some (Obj.cells cs t (0, 0)) ∧ (t = 68 ∨ t = 104 ∨ t = 106)) : Kd w w' := fun k o ho hk =>
  h.heap ho fun hm => by
    obtain ⟨cs, t, h1, h2⟩ := hM k hm
    rw [h1] at ho
    injection ho with ho
    obtain ⟨q1, q2, q3⟩ := hk cs t (0, 0) ho.symm
    rcases h2 with h2 | h2 | h2
    · exact q1 h2
    · exact q2 h2
    · exact q3 h2
theorem Kd.cells {w w' : World} (h : Kd w w') {k : Nat} {cs : Array Value} {t : TypeId} {fr : Nat × Nat} (hk : w.heap[k]? = some (Obj.cells cs t fr)) (ht : t ≠ 68 ∧ t ≠ 104 ∧ t ≠ 106) : w'.heap[k]? = some (Obj.cells cs t fr) :=
  h k _ hk fun cs' t' fr' e => by injection e with e1 e2 e3; subst e2; exact ht
theorem Kd.kt {w w' : World} (h : Kd w w') : Kt w w' := fun k cs t fr h1 h2 => h.cells h1 (by rcases h2 with rfl | rfl | rfl | rfl | rfl <;> decide)
section
variable {B : List Nat} {w : World} {p : Nat} {s : Dk}
theorem Disk.thin (h : Disk B w p s) : ∃ B0, Disk B0 w p s ∧ (∀ k ∈ B0, k ∈ B) ∧ ∀ k ∈ B0, ∃ cs t, w.heap[k]? = some (Obj.cells cs t (0, 0)) ∧ (t = 68 ∨ t = 104 ∨ t = 106) := by
  obtain ⟨g, cap, v, h⟩ := h
  have hin : ∀ k ∈ p :: g :: v.ownBlock.toList, k ∈ B := by
    intro k hk
    simp only [List.mem_cons, Option.mem_toList] at hk
    rcases hk with rfl | rfl | hk
    · exact h.pB
    · exact h.gB
    · exact h.vB _ hk
  refine ⟨p :: g :: v.ownBlock.toList, ⟨g, cap, v, h.row, h.own1, h.own2, by simp, by simp, fun k hk => by simp [hk], fun k hk => h.lt k (hin k hk)⟩, hin, ?_⟩
  intro k hk
  simp only [List.mem_cons, Option.mem_toList] at hk
  rcases hk with rfl | rfl | hk
  · exact ⟨_, _, h.row, .inl rfl⟩
  · rcases owns_type h.own1 with e | ⟨g', cur, e, hg⟩
    · cases e
    · injection e with e
      subst e
      exact ⟨_, _, hg, .inr (.inl rfl)⟩
  · rcases owns_type h.own2 with e | ⟨g', cur, e, hg⟩
    · rw [hk] at e; cases e
    · rw [hk] at e
      injection e with e
      subst e
      exact ⟨_, _, hg, .inr (.inr rfl)⟩
theorem Disk.mono {B' : List Nat} (h : Disk B w p s) (hs : ∀ k ∈ B, k ∈ B') (hl : ∀ k ∈ B', k < w.heap.size) : Disk B' w p s := by
  obtain ⟨g, cap, v, h⟩ := h
  exact ⟨g, cap, v, h.mono hs hl⟩
theorem Turn.thick {B0 B0' : List Nat} {w' : World} (t : Turn B0 w B0' w') (hs : ∀ k ∈ B0, k ∈ B) : Turn B w (B0' ++ B) w' :=
  ⟨t.kept.mono hs, fun k hk => List.mem_append.2 (.inr hk), fun k hk => by
    rcases List.mem_append.1 hk with hk | hk
    · rcases t.new k hk with h | h
      · exact .inl (hs k h)
      · exact .inr h
    · exact .inl hk⟩
theorem Write_kd {n : Nat} (h : Disk B w p s) (hs : s.Ok) (hf : s.Few n) (hn : n ≤ 1000000) (i : Int) (gb off c : Nat) (l : By) (hb : Bs w (some ⟨gb, off, none⟩) l) (hu : ∃ cs fr, w.heap[gb]? = some (Obj.cells cs 5 fr)) :
    Calls Try.prog 51 #[pt p, .int .i64 i, .slice (some ⟨gb, off, none⟩) l.length c] w fun e w' => ∃ B', e = .returned (.int .i64 (writeE s i l)) ∧ Disk B' w' p (writeS s i l) ∧ Turn B w B' w' ∧ Kd w w' := by
  obtain ⟨B0, h0, hs0, ht0⟩ := h.thin
  have hbm : BsM B0 w (some ⟨gb, off, none⟩) l := fun k v hk => by
    obtain ⟨ad, e, hc⟩ := hb k v hk
    refine ⟨ad, e, fun hm => ?_, hc⟩
    injection e with e
    subst e
    obtain ⟨cs, t, h1, h2⟩ := ht0 gb hm
    obtain ⟨cs', fr', h3⟩ := hu
    rw [h1] at h3
    injection h3 with h3
    injection h3 with _ h3 _
    subst h3
    revert h2
    decide
  refine (Write_any h0 hs hf hn i _ c l hbm).mono ?_
  rintro e w' ⟨B', rfl, hd, ht⟩
  refine ⟨B' ++ B, rfl, hd.mono (fun k hk => List.mem_append.2 (.inl hk)) ?_, ht.thick hs0, Kd.kept ht.kept ht0⟩
  intro k hk
  rcases List.mem_append.1 hk with hk | hk
  · exact hd.lt k hk
  · exact Nat.lt_of_lt_of_le (h.lt k hk) ht.kept.size
/-- a block that is no cells turns -/
theorem Disk.others {w' : World} {row : Option Nat} (h : Disk B w p s) (hg : w.grownBy w' row) (hr : ∀ r, row = some r → ∃ o : Obj, w.heap[r]? = some o ∧ o.isCells = false) : Disk B w' p s := by
  obtain ⟨B0, h0, hs0, ht0⟩ := h.thin
  have hk : Kept row.toList w w' := (Kept.refl _ _).grown hg fun k hk => .inl (by simp [hk])
  obtain ⟨g, cap, v, hi⟩ := h0
  refine Disk.mono (B := B0) ⟨g, cap, v, hi.kept hk fun k hkB hm => ?_⟩ hs0 fun k hk => Nat.lt_of_lt_of_le (h.lt k hk) hg.size
  have hm : row = some k := by simpa using hm
  obtain ⟨o, h1, h2⟩ := hr k hm
  obtain ⟨cs, t, h3, _⟩ := ht0 k hkB
  rw [h1] at h3
  injection h3 with h3
  subst h3
  cases h2
end
/-- writes, one behind the other, up to the first that fails -/
def wrF : Dk → List (Nat × By) → Int × Dk
  | s, [] => (0, s)
  | s, x :: r => if writeE s x.1 x.2 ≠ 0 then (writeE s x.1 x.2, writeS s x.1 x.2) else wrF (writeS s x.1 x.2) r
theorem wrF_app : ∀ (a : List (Nat × By)) (s s1 : Dk) (b : List (Nat × By)), wrF s a = (0, s1) → wrF s (a ++ b) = wrF s1 b
  | [], s, s1, b, h => by injection h with _ h; subst h; rfl
  | x :: r, s, s1, b, h => by
    unfold wrF at h
    rw [List.cons_append]
    conv => lhs; unfold wrF
    split at h
    · rename_i h1
      injection h with h _
      exact absurd h h1
    · rename_i h1
      rw [if_neg h1]
      exact wrF_app r _ _ b h
theorem wrF_bad : ∀ (a : List (Nat × By)) (s s1 : Dk) (e : Int) (b : List (Nat × By)), e ≠ 0 → wrF s a = (e, s1) → wrF s (a ++ b) = (e, s1)
  | [], s, s1, e, b, he, h => by injection h with h _; exact absurd h.symm he
  | x :: r, s, s1, e, b, he, h => by
    unfold wrF at h
    rw [List.cons_append]
    conv => lhs; unfold wrF
    split at h
    · rename_i h1
      rw [if_pos h1]
      exact h
    · rename_i h1
      rw [if_neg h1]
      exact wrF_bad r _ _ e b he h
theorem wrF_ok : ∀ (a : List (Nat × By)) (s : Dk), s.Ok → (wrF s a).2.Ok
  | [], _, h => h
  | x :: r, s, h => by
    unfold wrF
    split
    · exact writeS_ok h _ _
    · exact wrF_ok r _ (writeS_ok h _ _)
theorem wrF_few : ∀ (a : List (Nat × By)) (s : Dk) (n : Nat), s.Few n → (wrF s a).2.Few (n + a.length)
  | [], _, _, h => h
  | x :: r, s, n, h => by
    unfold wrF
    split
    · exact (writeS_few h _ _).mono (by simp)
    · have := wrF_few r _ _ (writeS_few h x.1 x.2)
      exact this.mono (by simp; omega)
/-- a space is written, and flushed, if it must -/
def layD (s : Dk) (b n : Nat) (is : By) (must : Bool) : Int × Dk :=
  if (wrF s (difs b (allG s b n) (is ++ List.replicate (64 * n - is.length) 0) n)).1 ≠ 0 then wrF s (difs b (allG s b n) (is ++ List.replicate (64 * n - is.length) 0) n)
  else if must = true ∨ difs b (allG s b n) (is ++ List.replicate (64 * n - is.length) 0) n ≠ [] then
    (flushE (wrF s (difs b (allG s b n) (is ++ List.replicate (64 * n - is.length) 0) n)).2, flushS (wrF s (difs b (allG s b n) (is ++ List.replicate (64 * n - is.length) 0) n)).2)
  else (0, (wrF s (difs b (allG s b n) (is ++ List.replicate (64 * n - is.length) 0) n)).2)
theorem layD_ok {s : Dk} (h : s.Ok) (b n : Nat) (is : By) (must : Bool) : (layD s b n is must).2.Ok := by
  unfold layD
  split
  · exact wrF_ok _ _ h
  · split
    · exact flushS_ok (wrF_ok _ _ h)
    · exact wrF_ok _ _ h
theorem difs_len (b : Nat) (was tob : By) (k : Nat) : (difs b was tob k).length ≤ k := by
  have := dif_len was tob k
  simpa [difs] using this
theorem layD_few {s : Dk} {m : Nat} (h : s.Few m) (b n : Nat) (is : By) (must : Bool) : (layD s b n is must).2.Few (m + n + 1) := by
  have h1 := difs_len b (allG s b n) (is ++ List.replicate (64 * n - is.length) 0) n
  have h2 := wrF_few (difs b (allG s b n) (is ++ List.replicate (64 * n - is.length) 0) n) s m h
  unfold layD
  split
  · exact h2.mono (by omega)
  · split
    · exact (flushS_few h2).mono (by omega)
    · exact h2.mono (by omega)
end Go.Proofs.Ytklodimokhndoaa
