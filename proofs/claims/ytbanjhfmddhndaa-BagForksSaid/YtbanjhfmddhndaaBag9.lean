/- What the bag's calls answer, whatever is asked: Add, Take, Lose; Fork; the nil bag. Conditions: those of IsBag; the bag's own block is older than the call; the messages and their number are small. -/
import Derived.Test.YtbanjhfmddhndaaChecked
import Derived.Test.YtbanjhfmddhndaaBag8
import Derived.Test.YtbanjhfmddhndaaMem
namespace Go.Proofs.Ytbanjhfmddhndaa
open Go.RowKit
instance (u : U) : Decidable (addOk u) := by unfold addOk; infer_instance
def addE (b : Bg) (u : U) : Int := if addOk u then (if (b.l.length : Int) = b.most then 8 else 0) else 2
def addB (b : Bg) (u : U) : Bg := if addOk u then (if (b.l.length : Int) = b.most then ⟨b.most, b.lost + 1, b.l⟩ else ⟨b.most, b.lost, b.l ++ [u]⟩) else b
def zeroUn : U := ⟨0, 0, []⟩
def takeE (b : Bg) (i : Int) : Int := if 0 ≤ i ∧ i < b.l.length then 0 else 2
def takeU (b : Bg) (i : Int) : U := if 0 ≤ i ∧ i < b.l.length then b.l.getD i.toNat zeroUn else zeroUn
def takeB (b : Bg) (i : Int) (keep : Bool) : Bg := if 0 ≤ i ∧ i < b.l.length then (if keep then b else ⟨b.most, b.lost, b.l.eraseIdx i.toNat⟩) else b
def loseB (b : Bg) (i : Int) : Bg := if 0 ≤ i ∧ i < b.l.length then ⟨b.most, b.lost + 1, b.l.eraseIdx i.toNat⟩ else b
structure Small (b : Bg) : Prop where
  len : b.l.length ≤ 1000000
  lost0 : 0 ≤ b.lost
  lost1 : b.lost ≤ 1000000
  by_ : ∀ u ∈ b.l, u.by_.length ≤ 2006
theorem Small.add {b : Bg} (h : Small b) (u : U) (hl : b.l.length < 1000000) (hl1 : b.lost < 1000000) : Small (addB b u) := by
  unfold addB
  split
  · rename_i hu
    split
    · exact ⟨h.len, by have := h.lost0; simp; omega, by simp; omega, h.by_⟩
    · exact ⟨by simp; omega, h.lost0, h.lost1, fun x hx => by
        rcases List.mem_append.1 hx with hx | hx
        · exact h.by_ x hx
        · simp at hx; subst hx; exact hu.2.2.2⟩
  · exact h
theorem Small.take {b : Bg} (h : Small b) (i : Int) (keep : Bool) : Small (takeB b i keep) := by
  unfold takeB
  split
  · split
    · exact h
    · exact ⟨by have := h.len; simp only [List.length_eraseIdx]; split <;> omega, h.lost0, h.lost1, fun x hx => h.by_ x (List.mem_of_mem_eraseIdx hx)⟩
  · exact h
theorem Small.lose {b : Bg} (h : Small b) (i : Int) (hl1 : b.lost < 1000000) : Small (loseB b i) := by
  unfold loseB
  split
  · exact ⟨by have := h.len; simp only [List.length_eraseIdx]; split <;> omega, by have := h.lost0; simp; omega, by simp; omega, fun x hx => h.by_ x (List.mem_of_mem_eraseIdx hx)⟩
  · exact h
theorem Add_any (p : Nat) (u : U) (A : Option Addr) (cap : Nat) (b : Bg) (M : List Nat) (w : World) (h : IsBag M w p b) (hM : ∀ k ∈ M, k < w.heap.size) (hp : p ∈ M) (hs : Small b) (hA : Bs w A u.by_) :
    Calls Try.prog 10 #[pt p, uv u A cap] w fun e w' => e = .returned (.int .i64 (addE b u)) ∧ Kept [p] w w' ∧ IsBag M w' p (addB b u) := by
  unfold addE addB
  by_cases hu : addOk u
  · rw [if_pos hu, if_pos hu]
    by_cases hf : (b.l.length : Int) = b.most
    · rw [if_pos hf, if_pos hf]
      exact Add_full p u A cap b M w h hM hp hu hf ⟨hs.lost0, hs.lost1⟩
    · rw [if_neg hf, if_neg hf]
      exact Add_ok p u A cap b M w h hM hp hu hf hs.len hA
  · rw [if_neg hu, if_neg hu]
    exact (Add_arg p u A cap w hu).mono fun e w' ⟨he, hx⟩ => ⟨he, .of_ext hx, h.ext hx⟩
theorem Lose_any (p : Nat) (i : Int) (b : Bg) (M : List Nat) (w : World) (h : IsBag M w p b) (hM : ∀ k ∈ M, k < w.heap.size) (hp : p ∈ M) (hs : Small b) :
    Calls Try.prog 12 #[pt p, .int .i64 i] w fun e w' => e = .returned (.int .i64 (takeE b i)) ∧ Kept [p] w w' ∧ IsBag M w' p (loseB b i) := by
  unfold takeE loseB
  by_cases hi : 0 ≤ i ∧ i < b.l.length
  · rw [if_pos hi, if_pos hi]
    obtain ⟨k, rfl⟩ : ∃ k : Nat, i = k := ⟨i.toNat, by omega⟩
    exact Lose_ok p k b M w h hM hp hs.len ⟨hs.lost0, hs.lost1⟩ (by omega)
  · rw [if_neg hi, if_neg hi]
    exact (Lose_no p i b M w h hi).mono fun e w' ⟨he, hx⟩ => ⟨he, .of_ext hx, h.ext hx⟩
theorem Take_any (p : Nat) (i : Int) (keep : Bool) (b : Bg) (M : List Nat) (w : World) (h : IsBag M w p b) (hM : ∀ k ∈ M, k < w.heap.size) (hp : p ∈ M) (hs : Small b) :
    Calls Try.prog 11 #[pt p, .int .i64 i, .bool keep] w fun e w' => ∃ A c, e = .returned (.tuple #[uv (takeU b i) A c, .int .i64 (takeE b i)]) ∧
      Own w' w.heap.size (.slice A (takeU b i).by_.length c) (takeU b i).by_ ∧ Kept [p] w w' ∧ IsBag ((Value.slice A (takeU b i).by_.length c).ownBlock.toList ++ M) w' p (takeB b i keep) := by
  unfold takeE takeU takeB
  by_cases hi : 0 ≤ i ∧ i < b.l.length
  · rw [if_pos hi, if_pos hi, if_pos hi]
    obtain ⟨k, rfl⟩ : ∃ k : Nat, i = k := ⟨i.toNat, by omega⟩
    have hk : k < b.l.length := by omega
    have e : b.l.getD (k : Int).toNat zeroUn = b.l[k] := by simp [List.getD, hk]
    have hb := hs.by_ _ (List.getElem_mem hk)
    rw [e]
    cases keep with
    | true =>
      exact (Take_keep p k b M w h hk (by omega)).mono fun e w' ⟨g, he, ho, hx⟩ => ⟨_, _, he, ho, .of_ext hx, by
        refine (h.old (N := (Value.slice (some ⟨g, 0, none⟩) b.l[k].by_.length b.l[k].by_.length).ownBlock.toList ++ M) ?_).ext hx
        intro j hj
        simp [Value.ownBlock] at hj
        rcases hj with rfl | hj
        · exact .inr (ho.lt _ rfl).1
        · exact .inl hj⟩
    | false =>
      exact (Take_drop p k b M w h hM hp hs.len hk (by omega)).mono fun e w' ⟨g, he, ho, hg, hkk, hb⟩ => ⟨_, _, he, ho, hkk, by simpa [Value.ownBlock] using hb⟩
  · rw [if_neg hi, if_neg hi, if_neg hi]
    exact (Take_no p i keep b M w h hi).mono fun e w' ⟨he, hx⟩ => ⟨none, 0, he, Own.nil _ _, .of_ext hx, h.ext hx⟩
theorem Len_same (p : Nat) (b : Bg) (M : List Nat) (w : World) (h : IsBag M w p b) : Calls Try.prog 15 #[pt p] w fun e w' => e = .returned (.int .i64 b.l.length) ∧ w' = w := by
  obtain ⟨A, cap, h1, _⟩ := h
  obtain ⟨c0, c1, c2, f0⟩ := row3_at h1
  unfold pt
  go_enter Try.func15, Try.ntmps15
  go_wp2
  go_ret
  exact ⟨rfl, rfl⟩
theorem Lost_same (p : Nat) (b : Bg) (M : List Nat) (w : World) (h : IsBag M w p b) : Calls Try.prog 16 #[pt p] w fun e w' => e = .returned (.int .i64 b.lost) ∧ w' = w := by
  obtain ⟨A, cap, h1, _⟩ := h
  obtain ⟨c0, c1, c2, f0⟩ := row3_at h1
  unfold pt
  go_enter Try.func16, Try.ntmps16
  go_wp2
  go_ret
  exact ⟨rfl, rfl⟩
theorem Fork_any (p : Nat) (b : Bg) (M : List Nat) (w : World) (h : IsBag M w p b) :
    Calls Try.prog 17 #[pt p] w fun e w' => e = .returned (pt w.heap.size) ∧ Ext w w' ∧ IsBag M w' p b ∧ IsBag M w' w.heap.size b := by
  have h0 := h
  obtain ⟨A, cap, h1, h2⟩ := h
  obtain ⟨c0, c1, c2, f0⟩ := row3_at h1
  unfold pt
  go_enter Try.func17, Try.ntmps17
  go_wp2
  go_ret
  have hx := (Ext.refl w).alloc (.cells #[.int .i64 b.most, .int .i64 b.lost, .slice A b.l.length cap] 54)
  exact ⟨rfl, hx, h0.ext hx, A, cap, heap_alloc_new _ _, h2.kept (.of_ext hx)⟩
theorem Add_nil (u : U) (A : Option Addr) (cap : Nat) (w : World) : Calls Try.prog 10 #[.pointer none, uv u A cap] w fun e w' => e = .returned (.int .i64 1) ∧ Ext w w' := by
  unfold uv
  go_enter Try.func10, Try.ntmps10
  go_wp2
  go_ret
  exact ⟨rfl, (Ext.refl w).alloc _⟩
theorem wrong_nil (i : Int) (w : World) : Calls Try.prog 25 #[.pointer none, .int .i64 i] w fun e w' => e = .returned (.int .i64 1) ∧ w = w' := by
  go_enter Try.func25, Try.ntmps25
  go_wp2
  go_ret
  exact ⟨rfl, rfl⟩
theorem Lose_nil (i : Int) (w : World) : Calls Try.prog 12 #[.pointer none, .int .i64 i] w fun e w' => e = .returned (.int .i64 1) ∧ w = w' := by
  go_enter Try.func12, Try.ntmps12
  go_wp2_with fail
  refine (wrong_nil i _).mono ?_
  rintro e w1 ⟨rfl, rfl⟩
  go_wp2
  go_ret
  exact ⟨rfl, rfl⟩
theorem Len_nil (w : World) : Calls Try.prog 15 #[.pointer none] w fun e w' => e = .returned (.int .i64 0) ∧ w = w' := by
  go_enter Try.func15, Try.ntmps15
  go_wp2
  go_ret
  exact ⟨rfl, rfl⟩
theorem Lost_nil (w : World) : Calls Try.prog 16 #[.pointer none] w fun e w' => e = .returned (.int .i64 0) ∧ w = w' := by
  go_enter Try.func16, Try.ntmps16
  go_wp2
  go_ret
  exact ⟨rfl, rfl⟩
theorem Fork_nil (w : World) : Calls Try.prog 17 #[.pointer none] w fun e w' => e = .returned (.pointer none) ∧ w = w' := by
  go_enter Try.func17, Try.ntmps17
  go_wp2
  go_ret
  exact ⟨rfl, rfl⟩
theorem Take_nil (i : Int) (keep : Bool) (w : World) :
    Calls Try.prog 11 #[.pointer none, .int .i64 i, .bool keep] w fun e w' => e = .returned (.tuple #[.agg #[.int .i64 0, .int .i64 0, .slice none 0 0], .int .i64 1]) ∧ Ext w w' := by
  go_enter Try.func11, Try.ntmps11
  go_wp2_with fail
  refine (wrong_nil i _).mono ?_
  rintro e w1 ⟨rfl, rfl⟩
  obtain ⟨d0, d1, d2, f0⟩ := row3_at (heap_alloc_new w (.cells #[.int .i64 0, .int .i64 0, .slice none 0 0] 30))
  have hx := (Ext.refl w).alloc (.cells #[.int .i64 0, .int .i64 0, .slice none 0 0] 30)
  go_wp2_with fail
  refine bodyPost_ret (v := .tuple #[.agg #[.int .i64 0, .int .i64 0, .slice none 0 0], .int .i64 1]) (by simp [results, Try.results11, go_sem, d0, d1, d2]) rfl ?_
  first | exact ⟨rfl, hx⟩ | exact ⟨rfl, ((hx.setCell (Nat.le_refl _) _).setCell (Nat.le_refl _) _).setCell (Nat.le_refl _) _⟩
theorem First_nil (to : Int) (w : World) : Calls Try.prog 21 #[.pointer none, .int .i64 to] w fun e w' => e = .returned (.tuple #[.int .i64 0, .bool false]) ∧ w = w' := by
  go_enter Try.func21, Try.ntmps21
  go_wp2_with fail
  refine (Len_nil _).mono ?_
  rintro e w1 ⟨rfl, rfl⟩
  go_wp2
  refine wp_loop_once ?_
  go_wp2
  go_ret2
  exact ⟨rfl, rfl⟩
end Go.Proofs.Ytbanjhfmddhndaa
