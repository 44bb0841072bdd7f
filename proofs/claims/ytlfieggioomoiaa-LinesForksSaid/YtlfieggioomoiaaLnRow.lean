/- From what can be read to pieces of bytes, and to a script's deeds. Conditions: the hypotheses of each theorem. -/
import Derived.Test.YtlfieggioomoiaaOpen
namespace Go.Proofs.Ytlfieggioomoiaa
open Go.ChangeShapes Go.WideShapes Go.ChangeAt Go.RowKit Go.Deep
/-- one deed of a script -/
structure De where
  do_ : Int
  by_ : List UInt8
  n : Int
def RDe : Reading De where
  says M w cs d := ∃ A cap, cs = [.int .i64 d.do_, .slice A d.by_.length cap, .int .i64 d.n] ∧ BsM M w A d.by_ ∧ d.by_.length ≤ 140737488351232
  kept := by
    rintro M w w' cs x ⟨A, cap, h1, h2, h3⟩ hx
    exact ⟨A, cap, h1, BsM.kept h2 hx, h3⟩
  old := by
    rintro M N w cs x ⟨A, cap, h1, h2, h3⟩ hx
    exact ⟨A, cap, h1, SlM.old h2 hx, h3⟩
theorem add_field (ad : Addr) (n k : Nat) : ad.add (n + (k + 1)) = ⟨(ad.add n).block, (ad.add n).off + (k + 1), none⟩ := by
  unfold Addr.add
  by_cases h : n = 0 <;> simp [h, Nat.add_assoc]
/-- a deed of the script: its cells -/
theorem RsM.deed {w : World} {A : Option Addr} {l : List De} (h : RsM RDe 3 [] w A l) {k : Nat} (hk : k < l.length) :
    ∃ ad A1 c1, A = some ad ∧ Bs w A1 l[k].by_ ∧ l[k].by_.length ≤ 140737488351232 ∧
      (∀ w', Ext w w' → w'.cell? (ad.add (k * 3)) = some (.int .i64 l[k].do_)) ∧
      (∀ w', Ext w w' → w'.cell? ⟨(ad.add (k * 3)).block, (ad.add (k * 3)).off + 1, none⟩ = some (.slice A1 l[k].by_.length c1)) ∧
      (∀ w', Ext w w' → w'.cell? ⟨(ad.add (k * 3)).block, (ad.add (k * 3)).off + 2, none⟩ = some (.int .i64 l[k].n)) := by
  obtain ⟨ad, cs, e, _, _, hcell, A1, c1, rfl, h1, h2⟩ := h.at_ (by omega) hk
  refine ⟨ad, A1, c1, e, BsM.bs h1, h2, ?_, ?_, ?_⟩
  · exact fun w' hx => hx.cell (hcell 0 _ rfl)
  · exact fun w' hx => hx.cell (by rw [← add_field ad (k * 3) 0]; exact hcell 1 _ rfl)
  · exact fun w' hx => hx.cell (by rw [← add_field ad (k * 3) 1]; exact hcell 2 _ rfl)
theorem Opens.deed : Opens 48 3 RDe := fun H enc W base spare held fuel cs x hx hw => by
  have hl := struct_len Try.underlying48 hx
  have hC : Try.prog.cellsOf 48 = 3 := by kernel_rfl
  rw [hC] at hl
  obtain ⟨f, hf⟩ := struct_field Try.underlying48 hx hw 0 rfl (Opens.int Try.underlying3) (by kernel_rfl)
  obtain ⟨b, A, cap, hb, hb2, _, _, hb3⟩ := struct_field Try.underlying48 hx hw 1 rfl Opens.bytes (by kernel_rfl)
  obtain ⟨i, hi⟩ := struct_field Try.underlying48 hx hw 2 rfl (Opens.int Try.underlying3) (by kernel_rfl)
  match cs, hl with
  | [c0, c1, c2], _ =>
    have e0 : c0 = .int .i64 f := by simpa [RInt] using hf.1
    have e1 : c1 = .slice A b.length cap := by simpa using hb
    have e2 : c2 = .int .i64 i := by simpa [RInt] using hi.1
    subst e0 e1 e2
    exact ⟨rfl, ⟨f, b, i⟩, A, cap, rfl, hb2.bytes, by simpa using hb3⟩
section
variable {H : Type} {enc : TypeId × Value → H} {W : World} {base b : Nat} {held : Bool} {v : Value} {d : DataW H} {p : List MemPlace}
theorem open_deeds {spare : Nat → Bool} (hv : Value.okWide Try.prog W .any b 38 v) (h : DataW.Trod enc Try.prog W base spare held 38 v d p) (hw : ∀ n ∈ d.weights Try.prog 38, n ≤ reachBytes) :
    ∃ (A : Option Addr) (cap : Nat) (l : List De), v = .slice A l.length cap ∧ l.length ≤ cap ∧ cap ≤ 9223372036854775807 ∧ RsM RDe 3 [] W A l ∧ l.length ≤ 140737488351232 := by
  obtain ⟨a0, len0, cap0, rfl⟩ := okWide_slice Try.underlying38 hv
  obtain ⟨l, A, cap, h1, h2, h3, h4, h5⟩ := (Opens.deed.slice (B := 40) Try.underlying38 (by kernel_rfl) (by kernel_rfl)).arg h hw
  simp [Value.cells] at h1
  obtain ⟨rfl, rfl, rfl⟩ := h1
  exact ⟨_, _, l, rfl, h3, h4, h2, by omega⟩
theorem open_bytess {spare : Nat → Bool} (hv : Value.okWide Try.prog W .any b 22 v) (h : DataW.Trod enc Try.prog W base spare held 22 v d p) (hw : ∀ n ∈ d.weights Try.prog 22, n ≤ reachBytes) :
    ∃ (A : Option Addr) (cap : Nat) (l : List (List UInt8)), v = .slice A l.length cap ∧ l.length ≤ cap ∧ cap ≤ 9223372036854775807 ∧ BsS W A l ∧ l.length ≤ 140737488351232 ∧ True := by
  obtain ⟨a0, len0, cap0, rfl⟩ := okWide_slice Try.underlying22 hv
  obtain ⟨l, A, cap, h1, h2, h3, h4, h5⟩ := (Opens.bytes.slice (B := 24) Try.underlying22 (by kernel_rfl) (by kernel_rfl)).arg h hw
  simp [Value.cells] at h1
  obtain ⟨rfl, rfl, rfl⟩ := h1
  refine ⟨_, _, l, rfl, h3, h4, fun k x hk => ?_, by omega, trivial⟩
  have hkl := (List.getElem?_eq_some_iff.1 hk).1
  obtain ⟨ad, cs, e, _, _, hcell, A', c', rfl, h6, _⟩ := h2.at_ (by omega) hkl
  have hx : l[k] = x := (List.getElem?_eq_some_iff.1 hk).2
  subst hx
  exact ⟨ad, A', c', e, by simpa using hcell 0 _ rfl, h6.bytes.bs⟩
end
end Go.Proofs.Ytlfieggioomoiaa
