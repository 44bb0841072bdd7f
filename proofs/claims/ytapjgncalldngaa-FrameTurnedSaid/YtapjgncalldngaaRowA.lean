/- From an argument of type [4]uint8 to what the walks are told of it. Conditions: the hypotheses of the theorem. -/
import Derived.Test.YtapjgncalldngaaRow
namespace Go.Proofs.Ytapjgncalldngaa
open Go.ChangeShapes Go.WideShapes Go.ChangeAt Go.RowKit
section
variable {H : Type} {enc : TypeId × Value → H} {W : World} {base b : Nat} {held : Bool} {v : Value} {d : DataW H} {p : List MemPlace}
theorem open_arr {spare : Nat → Bool} (hv : Value.okWide Try.prog W .any b 33 v) (h : DataW.Trod enc Try.prog W base spare held 33 v d p) :
    ∃ e0 e1 e2 e3 : UInt8, v = .agg #[.int .u8 (e0.toNat : Int), .int .u8 (e1.toNat : Int), .int .u8 (e2.toNat : Int), .int .u8 (e3.toNat : Int)] := by
  have hv' : ∃ cs, v = .agg cs ∧ cs.size = Try.prog.cellsOf 33 := by
    simp only [Value.okWide, Try.underlying33] at hv
    obtain ⟨cs, h1, h2, _⟩ := hv
    exact ⟨cs, h1, h2⟩
  obtain ⟨cs, rfl, hsz⟩ := hv'
  have hC : Try.prog.cellsOf 33 = 4 := by kernel_rfl
  have hE : Try.prog.cellsOf 5 = 1 := by kernel_rfl
  obtain ⟨l⟩ := cs
  match l, hsz.trans hC with
  | [x0, x1, x2, x3], _ =>
    obtain ⟨fuel, hf⟩ := h
    obtain ⟨xs, m, _, _, _, hlen, hg⟩ := DataW.trod_array Try.underlying33 hf
    rw [hE] at hg
    have one : ∀ (i : Nat) (x : Value), i < 4 → ((#[x0, x1, x2, x3] : Array Value).toList.drop (i * 1)).take 1 = [x] → ∃ e : UInt8, x = .int .u8 (e.toNat : Int) := by
      intro i x hi hx
      have h1 := hg i hi
      have hxs : xs[i]? = some (xs[i]'(by omega)) := List.getElem?_eq_getElem _
      simp only [Value.cells] at h1
      rw [hx, hxs] at h1
      obtain ⟨z, hz, _, wz⟩ := DataW.trod_int Try.underlying5 h1
      refine ⟨toB z, ?_⟩
      rw [toB_val wz]
      simpa using hz
    obtain ⟨e0, h0⟩ := one 0 x0 (by omega) rfl
    obtain ⟨e1, h1⟩ := one 1 x1 (by omega) rfl
    obtain ⟨e2, h2⟩ := one 2 x2 (by omega) rfl
    obtain ⟨e3, h3⟩ := one 3 x3 (by omega) rfl
    exact ⟨e0, e1, e2, e3, by rw [h0, h1, h2, h3]⟩
end
end Go.Proofs.Ytapjgncalldngaa
