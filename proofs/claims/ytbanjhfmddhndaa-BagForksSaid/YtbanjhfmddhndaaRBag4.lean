/- The walks of the reference's Take, Lose, First, Fork; what is there of its messages. Conditions: those of IsRB; the bag's own block is older than the call. -/
import Derived.Test.YtbanjhfmddhndaaRBag3
namespace Go.Proofs.Ytbanjhfmddhndaa
open Go.RowKit
attribute [local go_sem] pt uv
/-- the messages that are there -/
def lv : List U → List Bool → List U
  | u :: us, true :: ts => u :: lv us ts
  | _ :: us, false :: ts => lv us ts
  | _, _ => []
theorem lv_nil (l : List U) : lv l [] = [] := by cases l <;> rfl
theorem lv_append {a b : List U} : ∀ {s t : List Bool}, a.length = s.length → lv (a ++ b) (s ++ t) = lv a s ++ lv b t := by
  induction a with
  | nil => intro s t h; cases s; simp [lv]; simp at h
  | cons x a ih =>
    intro s t h
    cases s with
    | nil => simp at h
    | cons y s =>
      have := ih (s := s) (t := t) (by simpa using h)
      cases y <;> simp [lv, this]
theorem lv_len : ∀ {a : List U} {s : List Bool}, a.length = s.length → (lv a s).length = cntB s := by
  intro a
  induction a with
  | nil => intro s h; cases s; rfl; simp at h
  | cons x a ih =>
    intro s h
    cases s with
    | nil => simp at h
    | cons y s =>
      have := ih (s := s) (by simpa using h)
      cases y <;> simp [lv, cntB, this] <;> simp [cntB] at this <;> omega
theorem nth_lv : ∀ {a : List U} {s : List Bool} {i : Nat}, a.length = s.length → match nth s i with
    | some k => (lv a s)[i]? = a[k]? ∧ lv a (s.set k false) = (lv a s).eraseIdx i ∧ i < (lv a s).length
    | none => (lv a s).length ≤ i := by
  intro a
  induction a with
  | nil => intro s i h; cases s; simp [nth, lv]; simp at h
  | cons x a ih =>
    intro s i h
    cases s with
    | nil => simp at h
    | cons y s =>
      have hl : a.length = s.length := by simpa using h
      cases y with
      | true =>
        cases i with
        | zero => simp [nth, lv]
        | succ i =>
          have := ih (i := i) hl
          simp only [nth]
          cases hn : nth s i with
          | none => rw [hn] at this; simpa [lv] using this
          | some k =>
            rw [hn] at this
            simp only [Option.map_some, List.set_cons_succ, lv, List.getElem?_cons_succ, List.eraseIdx_cons_succ, List.length_cons]
            exact ⟨this.1, by rw [this.2.1], by omega⟩
      | false =>
        have := ih (i := i) hl
        simp only [nth]
        cases hn : nth s i with
        | none => rw [hn] at this; simpa [lv] using this
        | some k =>
          rw [hn] at this
          simp only [Option.map_some, List.set_cons_succ, lv, List.getElem?_cons_succ]
          exact this
theorem Rat_some (q i k : Nat) (r : Rg) (M : List Nat) (w : World) (h : IsRB M w q r) (hn : r.there.length ≤ 1000000) (hi : i ≤ 9223372036854775807) (hk : nth r.there i = some k) : Calls Try.prog 32 #[pt q, .int .i64 i] w fun e w' => e = .returned (.int .i64 (k : Int)) ∧ w = w' :=
  (Rat_nat q i r M w h hn hi).mono fun e w' ⟨he, hw⟩ => ⟨by unfold AtSays at he; rw [hk] at he; exact he, hw⟩
theorem Rat_none (q i : Nat) (r : Rg) (M : List Nat) (w : World) (h : IsRB M w q r) (hn : r.there.length ≤ 1000000) (hi : i ≤ 9223372036854775807) (hk : nth r.there i = none) : Calls Try.prog 32 #[pt q, .int .i64 i] w fun e w' => e = .returned (.int .i64 (-1)) ∧ w = w' :=
  (Rat_nat q i r M w h hn hi).mono fun e w' ⟨he, hw⟩ => ⟨by unfold AtSays at he; rw [hk] at he; exact he, hw⟩
/-- there is none at that place -/
def noAt (l : List Bool) (i : Int) : Prop := i < 0 ∨ (0 ≤ i ∧ i ≤ 9223372036854775807 ∧ nth l i.toNat = none)
theorem Rat_no (q : Nat) (i : Int) (r : Rg) (M : List Nat) (w : World) (h : IsRB M w q r) (hn : r.there.length ≤ 1000000) (hi : noAt r.there i) : Calls Try.prog 32 #[pt q, .int .i64 i] w fun e w' => e = .returned (.int .i64 (-1)) ∧ w = w' := by
  rcases hi with hi | ⟨h0, h1, h2⟩
  · exact Rat_neg q i w hi
  · obtain ⟨k, rfl⟩ : ∃ k : Nat, i = k := ⟨i.toNat, by omega⟩
    exact Rat_none q k r M w h hn (by omega) h2
theorem RTake_no (q : Nat) (i : Int) (keep : Bool) (r : Rg) (M : List Nat) (w : World) (h : IsRB M w q r) (hn : r.there.length ≤ 1000000) (hi : noAt r.there i) :
    Calls Try.prog 29 #[pt q, .int .i64 i, .bool keep] w fun e w' => e = .returned (.tuple #[.agg #[.int .i64 0, .int .i64 0, .slice none 0 0], .int .i64 2]) ∧ Ext w w' := by
  have hx := (Ext.refl w).alloc (.cells #[.int .i64 0, .int .i64 0, .slice none 0 0] 30)
  have HR := Rat_no q i r M _ (h.ext hx) hn hi
  obtain ⟨d0, d1, d2, f0⟩ := row3_at (heap_alloc_new w (.cells #[.int .i64 0, .int .i64 0, .slice none 0 0] 30))
  have HI := Lib.hid hi
  clear hi
  unfold pt at *
  go_enter Try.func29, Try.ntmps29
  go_wp2_with fail
  refine HR.mono ?_
  rintro e w1 ⟨rfl, rfl⟩
  go_wp2_with fail
  refine bodyPost_ret (v := .tuple #[.agg #[.int .i64 0, .int .i64 0, .slice none 0 0], .int .i64 2]) (by simp [results, Try.results29, go_sem, d0, d1, d2]) rfl ?_
  first | exact ⟨rfl, hx⟩ | exact ⟨rfl, ((hx.setCell (Nat.le_refl _) _).setCell (Nat.le_refl _) _).setCell (Nat.le_refl _) _⟩
theorem RLose_no (q : Nat) (i : Int) (r : Rg) (M : List Nat) (w : World) (h : IsRB M w q r) (hn : r.there.length ≤ 1000000) (hi : noAt r.there i) :
    Calls Try.prog 30 #[pt q, .int .i64 i] w fun e w' => e = .returned (.int .i64 2) ∧ w = w' := by
  have HR := Rat_no q i r M _ h hn hi
  have HI := Lib.hid hi
  clear hi
  unfold pt at *
  go_enter Try.func30, Try.ntmps30
  go_wp2_with fail
  refine HR.mono ?_
  rintro e w1 ⟨rfl, rfl⟩
  go_wp2
  go_ret
  exact ⟨rfl, rfl⟩
set_option maxHeartbeats 1000000 in
theorem RLose_ok (q i k : Nat) (r : Rg) (M : List Nat) (w : World) (h : IsRB M w q r) (hM : ∀ k ∈ M, k < w.heap.size) (hq : q ∈ M) (hn : r.there.length ≤ 1000000) (hi : i ≤ 9223372036854775807) (hk : nth r.there i = some k) (hg : 0 ≤ r.gone ∧ r.gone ≤ 1000000) :
    Calls Try.prog 30 #[pt q, .int .i64 i] w fun e w' => e = .returned (.int .i64 0) ∧ Kept [q] w w' ∧ IsRB M w' q ⟨r.most, r.all, r.there.set k false, r.gone + 1⟩ := by
  have HR := Rat_some q i k r M w h hn hi hk
  have hkl := (nth_lt hk).1
  have HO := Rout_ok q k r M w h hM hq hn hkl
  have hw2 : IntKind.i64.wrap (r.gone + 1) = r.gone + 1 := IntWalk.i64_in _ (by omega)
  have HK := Lib.hid hk
  clear hk
  unfold pt at *
  go_enter Try.func30, Try.ntmps30
  go_wp2_with fail
  refine HR.mono ?_
  rintro e w1 ⟨rfl, rfl⟩
  go_wp2_with fail
  refine HO.mono ?_
  rintro e w2 ⟨rfl, hk2, hb2⟩
  obtain ⟨A, c, T, ct, b1, b2, b3, b4⟩ := hb2
  simp only [] at b1 b2 b3 b4
  obtain ⟨d0, d1, d2, d3, df⟩ := row4_at b1
  have hrow := heap_setCell_same _ q 3 _ _ (.int .i64 (r.gone + 1)) b1
  have hkq := (Kept.refl [q] w2).setCell (p := ⟨q, 3, none⟩) (.inl (by simp)) (.int .i64 (r.gone + 1))
  have hkM := hkq.mono (N := M) (by simp; exact hq)
  have HROW := Lib.hid hrow
  have HB4 := Lib.hid b4
  clear hrow b1 b4
  go_wp2
  go_ret
  exact ⟨rfl, hk2.trans hkq, A, c, T, ct, by simpa using HROW.out, b2.kept hkM, b3.kept hkM, HB4.out⟩
theorem RFork_any (q : Nat) (r : Rg) (M : List Nat) (w : World) (h : IsRB M w q r) :
    Calls Try.prog 18 #[pt q] w fun e w' => e = .returned (pt w.heap.size) ∧ Ext w w' ∧ IsRB M w' q r ∧ IsRB M w' w.heap.size r := by
  have h0 := h
  obtain ⟨A, c, T, ct, h1, h2, h3, h4⟩ := h
  obtain ⟨c0, c1, c2, c3, f0⟩ := row4_at h1
  have H4 := Lib.hid h4
  clear h4
  unfold pt
  go_enter Try.func18, Try.ntmps18
  go_wp2
  go_ret
  have hx := (Ext.refl w).alloc (.cells #[.int .i64 r.most, .slice A r.all.length c, .slice T r.there.length ct, .int .i64 r.gone] 63)
  exact ⟨rfl, hx, h0.ext hx, A, c, T, ct, heap_alloc_new _ _, h2.kept (.of_ext hx), h3.kept (.of_ext hx), H4.out⟩
end Go.Proofs.Ytbanjhfmddhndaa
