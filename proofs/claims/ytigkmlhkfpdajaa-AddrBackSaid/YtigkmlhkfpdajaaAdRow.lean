/- From what can be read to an address. Conditions: the hypotheses of each theorem. -/
import Derived.Test.YtigkmlhkfpdajaaOpen
import Derived.Test.YtigkmlhkfpdajaaStrRow
import Derived.Test.YtigkmlhkfpdajaaStr
namespace Go.Proofs.Ytigkmlhkfpdajaa
open Go.ChangeShapes Go.WideShapes Go.ChangeAt Go.RowKit Go.Deep
def RAd : Reading (List UInt8 × List UInt8) where
  says _ _ cs z := cs = [.string (st z.1), .string (st z.2)] ∧ z.1.length ≤ 140737488351232 ∧ z.2.length ≤ 140737488351232
  kept := fun h _ => h
  old := fun h _ => h
theorem Opens.addr : Opens 23 2 RAd := fun H enc W base spare held fuel cs x hx hw => by
  have hl := struct_len Try.underlying23 hx
  have hC : Try.prog.cellsOf 23 = 2 := by kernel_rfl
  rw [hC] at hl
  obtain ⟨a, ha⟩ := struct_field Try.underlying23 hx hw 0 rfl (Opens.str Try.underlying9) (by kernel_rfl)
  obtain ⟨b, hb⟩ := struct_field Try.underlying23 hx hw 1 rfl (Opens.str Try.underlying9) (by kernel_rfl)
  match cs, hl with
  | [c0, c1], _ =>
    have e0 : c0 = .string (st a) := by simpa [RStr, st] using ha.1
    have e1 : c1 = .string (st b) := by simpa [RStr, st] using hb.1
    subst e0 e1
    exact ⟨rfl, (a, b), rfl, ha.2, hb.2⟩
section
variable {H : Type} {enc : TypeId × Value → H} {W : World} {base b : Nat} {held : Bool} {v : Value} {d : DataW H} {p : List MemPlace}
theorem open_addr {spare : Nat → Bool} (hv : Value.okWide Try.prog W .any b 23 v) (h : DataW.Trod enc Try.prog W base spare held 23 v d p) (hw : ∀ n ∈ d.weights Try.prog 23, n ≤ reachBytes) :
    ∃ x y : List UInt8, v = .agg #[.string (st x), .string (st y)] ∧ x.length ≤ 140737488351232 ∧ y.length ≤ 140737488351232 := by
  obtain ⟨cs, rfl, hsz⟩ := okWide_struct Try.underlying23 hv
  obtain ⟨u, h1, h2⟩ := Opens.addr.arg h hw
  refine ⟨u.1, u.2, ?_, h2⟩
  simp only [Value.cells] at h1
  congr 1
  exact Array.toList_inj.1 (by simpa using h1)
end
end Go.Proofs.Ytigkmlhkfpdajaa
