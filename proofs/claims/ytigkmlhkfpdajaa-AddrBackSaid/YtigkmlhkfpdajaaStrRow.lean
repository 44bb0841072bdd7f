/- From a string argument that can be read to what the walks are told of it. Conditions: the hypotheses of the theorem. -/
import Derived.Test.YtigkmlhkfpdajaaRow
namespace Go.Proofs.Ytigkmlhkfpdajaa
open Go.ChangeShapes Go.WideShapes Go.ChangeAt Go.RowKit
open Go.ChangeMaps (open_string shut_string)
theorem open_str {H : Type} {enc : TypeId × Value → H} {W : World} {base b : Nat} {held : Bool} {v : Value} {d : DataW H} {p : List MemPlace} {spare : Nat → Bool} (hv : Value.okWide Try.prog W .any b 9 v) (h : DataW.Trod enc Try.prog W base spare held 9 v d p) (hw : ∀ n ∈ d.weights Try.prog 9, n ≤ reachBytes) :
    ∃ s : ByteArray, s.size ≤ 140737488351232 ∧ v = .string s ∧ s.size ≤ Rows.uptoBulk d := by
  obtain ⟨s, rfl, rfl, rfl, hm⟩ := open_string Try.underlying9 hv h
  have hl : s.data.toList.length = s.size := by unfold ByteArray.size; simp
  have hwt := hw s.data.toList.length (by simp [DataW.weights])
  simp only [reachBytes] at hwt
  exact ⟨s, by omega, rfl, by simp only [Rows.uptoBulk]; omega⟩
end Go.Proofs.Ytigkmlhkfpdajaa
