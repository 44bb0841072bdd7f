/- Calls of a script in memory; the walk of the law BagCounts: it answers true. Conditions: the script's bytes stand in memory, and it has at most 2^47 calls. -/
import Derived.Test.YtbanjhfmddhndaaBag10
namespace Go.Proofs.Ytbanjhfmddhndaa
open Go.RowKit
attribute [local go_sem] pt uv
structure C where
  do_ : Int
  u : U
  i : Int
  keep : Bool
def RC : Reading C where
  says M w cs c := ∃ A cap, cs = [.int .i64 c.do_, .int .i64 c.u.from_, .int .i64 c.u.to_, .slice A c.u.by_.length cap, .int .i64 c.i, .bool c.keep] ∧ BsM M w A c.u.by_ ∧ c.u.by_.length ≤ 140737488351232 ∧ c.i ≤ 9223372036854775807
  kept := by
    rintro M w w' cs x ⟨A, cap, h1, h2, h3⟩ hx
    exact ⟨A, cap, h1, h2.kept hx, h3⟩
  old := by
    rintro M N w cs x ⟨A, cap, h1, h2, h3⟩ hx
    exact ⟨A, cap, h1, SlM.old h2 hx, h3⟩
/-- a call of the script: its cells -/
theorem RsM.call {M : List Nat} {w : World} {A : Option Addr} {l : List C} (h : RsM RC 6 M w A l) {k : Nat} (hk : k < l.length) :
    ∃ ad A2 cap2, A = some ad ∧ BsM M w A2 l[k].u.by_ ∧ l[k].u.by_.length ≤ 140737488351232 ∧ (∀ w', Ext w w' → w'.cell? (ad.add (k * 6)) = some (.int .i64 l[k].do_)) ∧
      (∀ w', Ext w w' → w'.cell? ⟨(ad.add (k * 6)).block, (ad.add (k * 6)).off + 1, none⟩ = some (.int .i64 l[k].u.from_)) ∧
      (∀ w', Ext w w' → w'.cell? ⟨(ad.add (k * 6)).block, (ad.add (k * 6)).off + 2, none⟩ = some (.int .i64 l[k].u.to_)) ∧
      (∀ w', Ext w w' → w'.cell? ⟨(ad.add (k * 6)).block, (ad.add (k * 6)).off + 3, none⟩ = some (.slice A2 l[k].u.by_.length cap2)) ∧
      (∀ w', Ext w w' → w'.cell? ⟨(ad.add (k * 6)).block, (ad.add (k * 6)).off + 4, none⟩ = some (.int .i64 l[k].i)) ∧
      (∀ w', Ext w w' → w'.cell? ⟨(ad.add (k * 6)).block, (ad.add (k * 6)).off + 5, none⟩ = some (.bool l[k].keep)) := by
  obtain ⟨ad, cs, e, _, _, hcell, A2, cap2, rfl, hby, hl, hi⟩ := h.at_ (by omega) hk
  refine ⟨ad, A2, cap2, e, hby, hl, ?_, ?_, ?_, ?_, ?_, ?_⟩
  · exact fun w' hx => hx.cell (hcell 0 _ rfl)
  · exact fun w' hx => hx.cell (by rw [← add_field ad (k * 6) 0]; exact hcell 1 _ rfl)
  · exact fun w' hx => hx.cell (by rw [← add_field ad (k * 6) 1]; exact hcell 2 _ rfl)
  · exact fun w' hx => hx.cell (by rw [← add_field ad (k * 6) 2]; exact hcell 3 _ rfl)
  · exact fun w' hx => hx.cell (by rw [← add_field ad (k * 6) 3]; exact hcell 4 _ rfl)
  · exact fun w' hx => hx.cell (by rw [← add_field ad (k * 6) 4]; exact hcell 5 _ rfl)
theorem RsM.call_i {M : List Nat} {w : World} {A : Option Addr} {l : List C} (h : RsM RC 6 M w A l) {k : Nat} (hk : k < l.length) : l[k].i ≤ 9223372036854775807 := by
  obtain ⟨ad, cs, e, _, _, hcell, A2, cap2, rfl, hby, hl, hi⟩ := h.at_ (by omega) hk
  exact hi
/-- what holds of the counts -/
structure Cnt (n k : Nat) (came taken : Int) (b : Bg) : Prop where
  small : Small b
  most : b.most = n
  len : b.l.length ≤ n
  sum : came = b.l.length + taken + b.lost
  taken0 : 0 ≤ taken
  taken1 : taken ≤ k
  lost1 : b.lost ≤ k
theorem Cnt.add {n k : Nat} {came taken : Int} {b : Bg} (h : Cnt n k came taken b) (hk : k < 150) (hn : n ≤ 48) (u : U) : Cnt n (k + 1) (if addE b u = 2 then came else came + 1) taken (addB b u) := by
  have h1 := h.small.lost0
  have h2 := h.sum
  have h3 := h.len
  have h4 := h.taken0
  have h5 := h.taken1
  have h6 := h.lost1
  have h7 := h.most
  refine ⟨h.small.add u (by omega) (by omega), ?_, ?_, ?_, h4, by omega, ?_⟩
  · unfold addB; split <;> (try split) <;> exact h7
  · unfold addB; split <;> (try split) <;> (try simp) <;> omega
  · unfold addB addE; split <;> (try split) <;> (try simp) <;> omega
  · unfold addB; split <;> (try split) <;> (try simp) <;> omega
theorem Cnt.take {n k : Nat} {came taken : Int} {b : Bg} (h : Cnt n k came taken b) (i : Int) (keep : Bool) : Cnt n (k + 1) came (if takeE b i = 0 ∧ keep = false then taken + 1 else taken) (takeB b i keep) := by
  have h1 := h.small.lost0
  have h2 := h.sum
  have h3 := h.len
  have h4 := h.taken0
  have h5 := h.taken1
  have h6 := h.lost1
  have h7 := h.most
  refine ⟨h.small.take i keep, ?_, ?_, ?_, ?_, ?_, ?_⟩
  · unfold takeB; split <;> (try split) <;> exact h7
  · unfold takeB
    split
    · split
      · exact h3
      · simp only [List.length_eraseIdx]; split <;> omega
    · exact h3
  · unfold takeB takeE
    split
    · rename_i hi
      have hl : i.toNat < b.l.length := by omega
      cases keep
      · simp only [Bool.false_eq_true, if_false, List.length_eraseIdx, if_pos hl, and_self, if_true]
        omega
      · simpa using h2
    · simpa using h2
  · split <;> omega
  · split <;> omega
  · unfold takeB; split <;> (try split) <;> (try simp) <;> omega
theorem Cnt.lose {n k : Nat} {came taken : Int} {b : Bg} (h : Cnt n k came taken b) (hk : k < 150) (i : Int) : Cnt n (k + 1) came taken (loseB b i) := by
  have h1 := h.small.lost0
  have h2 := h.sum
  have h3 := h.len
  have h4 := h.taken0
  have h5 := h.taken1
  have h6 := h.lost1
  have h7 := h.most
  refine ⟨h.small.lose i (by omega), ?_, ?_, ?_, h4, by omega, ?_⟩
  · unfold loseB; split <;> exact h7
  · unfold loseB
    split
    · simp only [List.length_eraseIdx]; split <;> omega
    · exact h3
  · unfold loseB
    split
    · rename_i hi
      have hl : i.toNat < b.l.length := by omega
      simp only [List.length_eraseIdx, if_pos hl]
      omega
    · exact h2
  · unfold loseB; split <;> (try simp) <;> omega
theorem Cnt.on {n k : Nat} {came taken : Int} {b : Bg} (h : Cnt n k came taken b) : Cnt n (k + 1) came taken b :=
  ⟨h.small, h.most, h.len, h.sum, h.taken0, by have := h.taken1; omega, by have := h.lost1; omega⟩
end Go.Proofs.Ytbanjhfmddhndaa
