/- The bag and the reference's bag side by side: what holds of both, and that each call keeps it. Conditions: the hypotheses of each theorem. -/
import Derived.Test.YtbanjhfmddhndaaRBag5
namespace Go.Proofs.Ytbanjhfmddhndaa
open Go.RowKit
/-- after n calls -/
structure St (n : Nat) (b : Bg) (r : Rg) : Prop where
  l : b.l = lv r.all r.there
  len : r.all.length = r.there.length
  most : b.most = r.most
  lost : b.lost = r.gone
  le : (b.l.length : Int) ≤ b.most
  all : r.all.length ≤ n
  lost0 : 0 ≤ b.lost
  lost1 : b.lost ≤ n
  by_ : ∀ u ∈ b.l, u.by_.length ≤ 2006
theorem St.small {n : Nat} {b : Bg} {r : Rg} (h : St n b r) (hn : n ≤ 1000000) : Small b := by
  have h1 := lv_len h.len
  have h2 := cntB_le r.there
  have h3 := h.len
  have h4 := h.all
  have h5 := h.lost1
  exact ⟨by rw [h.l]; omega, h.lost0, by omega, h.by_⟩
theorem St.cnt {n : Nat} {b : Bg} {r : Rg} (h : St n b r) : b.l.length = cntB r.there := by rw [h.l]; exact lv_len h.len
theorem St.more {n m : Nat} {b : Bg} {r : Rg} (h : St n b r) (hm : n ≤ m) : St m b r := ⟨h.l, h.len, h.most, h.lost, h.le, by have := h.all; omega, h.lost0, by have := h.lost1; omega, h.by_⟩
def raddB (r : Rg) (u : U) : Rg := if addOk u then (if r.most ≤ cntB r.there then ⟨r.most, r.all, r.there, r.gone + 1⟩ else ⟨r.most, r.all ++ [u], r.there ++ [true], r.gone⟩) else r
theorem St.add {n : Nat} {b : Bg} {r : Rg} (h : St n b r) (u : U) : St (n + 1) (addB b u) (raddB r u) := by
  have hc := h.cnt
  have h1 := h.le
  have h2 := h.most
  have h3 := h.lost1
  have h4 := h.all
  have h5 := h.lost0
  have h6 := h.len
  unfold addB raddB
  by_cases hu : addOk u
  · rw [if_pos hu, if_pos hu]
    by_cases hf : (b.l.length : Int) = b.most
    · rw [if_pos hf, if_pos (by omega)]
      exact ⟨h.l, h.len, h.most, by simp [h.lost], h.le, by simp; omega, by simp; omega, by simp; omega, h.by_⟩
    · rw [if_neg hf, if_neg (by omega)]
      refine ⟨?_, by simp [h6], h.most, h.lost, by simp; omega, by simp; omega, h5, by simp; omega, fun x hx => ?_⟩
      · simp only []
        rw [lv_append h6, ← h.l]
        rfl
      · rcases List.mem_append.1 hx with hx | hx
        · exact h.by_ x hx
        · simp at hx; subst hx; exact hu.2.2.2
  · rw [if_neg hu, if_neg hu]
    exact h.more (by omega)
theorem RAdd_any (q : Nat) (u : U) (A : Option Addr) (cap : Nat) (r : Rg) (M : List Nat) (w : World) (h : IsRB M w q r) (hM : ∀ k ∈ M, k < w.heap.size) (hq : q ∈ M) (hn : r.there.length ≤ 1000000) (hg : 0 ≤ r.gone ∧ r.gone ≤ 1000000) (hA : BsM M w A u.by_) {n : Nat} {b : Bg} (hs : St n b r) :
    Calls Try.prog 28 #[pt q, uv u A cap] w fun e w' => e = .returned (.int .i64 (addE b u)) ∧ Kept [q] w w' ∧ IsRB M w' q (raddB r u) := by
  have hc := hs.cnt
  have h1 := hs.le
  have h2 := hs.most
  unfold addE raddB
  by_cases hu : addOk u
  · rw [if_pos hu, if_pos hu]
    by_cases hf : (b.l.length : Int) = b.most
    · rw [if_pos hf, if_pos (by omega)]
      exact RAdd_full q u A cap r M w h hM hq hu hn (by omega) hg
    · rw [if_neg hf, if_neg (by omega)]
      exact RAdd_ok q u A cap r M w h hM hq hu hn (by omega) hA
  · rw [if_neg hu, if_neg hu]
    exact (RAdd_arg q u A cap w hu).mono fun e w' ⟨he, hx⟩ => ⟨he, .of_ext hx, h.ext hx⟩
/-- where a place is none in one, it is none in the other -/
theorem St.at_ {n : Nat} {b : Bg} {r : Rg} (h : St n b r) (i : Int) (hi : i ≤ 9223372036854775807) : if 0 ≤ i ∧ i < b.l.length then ∃ k, nth r.there i.toNat = some k ∧ b.l[i.toNat]? = r.all[k]? ∧ lv r.all (r.there.set k false) = b.l.eraseIdx i.toNat ∧ k < r.all.length else noAt r.there i := by
  have hc := h.cnt
  split
  · rename_i h1
    have := nth_lv (i := i.toNat) h.len
    cases hk : nth r.there i.toNat with
    | none => rw [hk] at this; rw [← h.l] at this; simp at this; omega
    | some k =>
      rw [hk] at this
      rw [← h.l] at this
      exact ⟨k, rfl, this.1, this.2.1, by rw [h.len]; exact (nth_lt hk).1⟩
  · rename_i h1
    by_cases h0 : i < 0
    · exact .inl h0
    · refine .inr ⟨by omega, hi, ?_⟩
      have := nth_lv (i := i.toNat) h.len
      cases hk : nth r.there i.toNat with
      | none => rfl
      | some k =>
        rw [hk] at this
        rw [← h.l] at this
        have := this.2.2
        omega
theorem St.drop {n k : Nat} {b : Bg} {r : Rg} (h : St n b r) (i : Int) (hi : 0 ≤ i ∧ i < b.l.length) (hl : lv r.all (r.there.set k false) = b.l.eraseIdx i.toNat) : St (n + 1) ⟨b.most, b.lost, b.l.eraseIdx i.toNat⟩ ⟨r.most, r.all, r.there.set k false, r.gone⟩ := by
  have h1 := h.le
  have h3 := h.lost1
  have h4 := h.all
  have h6 := h.len
  exact ⟨hl.symm, by simpa using h6, h.most, h.lost, by simp only [List.length_eraseIdx]; split <;> omega, by simp; omega, h.lost0, by simp; omega, fun x hx => h.by_ x (List.mem_of_mem_eraseIdx hx)⟩
theorem St.lose {n k : Nat} {b : Bg} {r : Rg} (h : St n b r) (i : Int) (hi : 0 ≤ i ∧ i < b.l.length) (hl : lv r.all (r.there.set k false) = b.l.eraseIdx i.toNat) : St (n + 1) ⟨b.most, b.lost + 1, b.l.eraseIdx i.toNat⟩ ⟨r.most, r.all, r.there.set k false, r.gone + 1⟩ := by
  have h1 := h.le
  have h2 := h.lost0
  have h3 := h.lost1
  have h4 := h.all
  have h6 := h.len
  exact ⟨hl.symm, by simpa using h6, h.most, by simp [h.lost], by simp only [List.length_eraseIdx]; split <;> omega, by simp; omega, by simp; omega, by simp; omega, fun x hx => h.by_ x (List.mem_of_mem_eraseIdx hx)⟩
theorem RLose_any (q : Nat) (i : Int) (r : Rg) (M : List Nat) (w : World) (h : IsRB M w q r) (hM : ∀ k ∈ M, k < w.heap.size) (hq : q ∈ M) {n : Nat} {b : Bg} (hs : St n b r) (hn : n ≤ 100000) (hi : i ≤ 9223372036854775807) :
    Calls Try.prog 30 #[pt q, .int .i64 i] w fun e w' => e = .returned (.int .i64 (takeE b i)) ∧ Kept [q] w w' ∧ ∃ r', IsRB M w' q r' ∧ St (n + 1) (loseB b i) r' := by
  have hat := hs.at_ i hi
  have hth : r.there.length ≤ 1000000 := by have := hs.len; have := hs.all; omega
  have hg : 0 ≤ r.gone ∧ r.gone ≤ 1000000 := by have := hs.lost; have := hs.lost0; have := hs.lost1; omega
  unfold takeE loseB
  by_cases h1 : 0 ≤ i ∧ i < b.l.length
  · rw [if_pos h1] at hat ⊢
    rw [if_pos h1]
    obtain ⟨k, hk, _, hl, hkl⟩ := hat
    obtain ⟨j, rfl⟩ : ∃ j : Nat, i = j := ⟨i.toNat, by omega⟩
    exact (RLose_ok q j k r M w h hM hq hth (by omega) hk hg).mono fun e w' ⟨he, hkk, hb⟩ => ⟨he, hkk, _, hb, hs.lose _ h1 hl⟩
  · rw [if_neg h1] at hat ⊢
    rw [if_neg h1]
    exact (RLose_no q i r M w h hth hat).mono fun e w' ⟨he, hw⟩ => ⟨he, hw ▸ Kept.refl _ _, r, hw ▸ h, hs.more (by omega)⟩
theorem RTake_any (q : Nat) (i : Int) (keep : Bool) (r : Rg) (M : List Nat) (w : World) (h : IsRB M w q r) (hM : ∀ k ∈ M, k < w.heap.size) (hq : q ∈ M) {n : Nat} {b : Bg} (hs : St n b r) (hn : n ≤ 100000) (hi : i ≤ 9223372036854775807) :
    Calls Try.prog 29 #[pt q, .int .i64 i, .bool keep] w fun e w' => ∃ A c, e = .returned (.tuple #[uv (takeU b i) A c, .int .i64 (takeE b i)]) ∧ BsM M w' A (takeU b i).by_ ∧ Kept [q] w w' ∧ ∃ r', IsRB M w' q r' ∧ St (n + 1) (takeB b i keep) r' := by
  have hat := hs.at_ i hi
  have hth : r.there.length ≤ 1000000 := by have := hs.len; have := hs.all; omega
  unfold takeE takeU takeB
  by_cases h1 : 0 ≤ i ∧ i < b.l.length
  · rw [if_pos h1] at hat ⊢
    rw [if_pos h1, if_pos h1]
    obtain ⟨k, hk, hg, hl, hkl⟩ := hat
    obtain ⟨j, rfl⟩ : ∃ j : Nat, i = j := ⟨i.toNat, by omega⟩
    have hu : b.l.getD (j : Int).toNat zeroUn = r.all[k] := by rw [List.getD_eq_getElem?_getD, hg, List.getElem?_eq_getElem hkl]; rfl
    rw [hu]
    cases keep with
    | true => exact (RTake_keep q j k r M w h hth (by omega) hk hkl).mono fun e w' ⟨A, c, he, hb, hx⟩ => ⟨A, c, he, hb, .of_ext hx, r, h.ext hx, hs.more (by omega)⟩
    | false => exact (RTake_drop q j k r M w h hM hq hth (by omega) hk hkl).mono fun e w' ⟨A, c, he, hb, hkk, hr⟩ => ⟨A, c, he, hb, hkk, _, hr, hs.drop _ h1 hl⟩
  · rw [if_neg h1] at hat ⊢
    rw [if_neg h1, if_neg h1]
    exact (RTake_no q i keep r M w h hth hat).mono fun e w' ⟨he, hx⟩ => ⟨none, 0, he, SlM.nil _ _ _, .of_ext hx, r, h.ext hx, hs.more (by omega)⟩
end Go.Proofs.Ytbanjhfmddhndaa
