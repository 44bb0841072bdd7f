/- From what can be read to an address, and its bulk. Conditions: the hypotheses of each theorem. -/
import Derived.Test.YtigkmlhkfpdajaaDoorCardKit
import Derived.Test.YtigkmlhkfpdajaaDoorStr
import Derived.ChangeSame
namespace Go.Proofs.YtigkmlhkfpdajaaDoor
open Go.ChangeShapes Go.WideShapes Go.ChangeAt Go.RowKit
theorem open_addrB {H : Type} {enc : TypeId × Value → H} {W : World} {base b : Nat} {held : Bool} {v : Value} {d : DataW H} {p : List MemPlace} {spare : Nat → Bool} (hv : Value.okWide Tryd.prog W .any b 23 v) (h : DataW.Trod enc Tryd.prog W base spare held 23 v d p) :
    ∃ x y : List UInt8, v = .agg #[.string (st x), .string (st y)] ∧ x.length ≤ Rows.uptoBulk d ∧ y.length ≤ Rows.uptoBulk d := by
  obtain ⟨cs, rfl, hsz⟩ := okWide_struct Tryd.underlying23 hv
  obtain ⟨fuel, hf⟩ := h
  obtain ⟨y0, y1, n, hx, hl, h0, h1⟩ := trod_struct2 Tryd.underlying23 hf
  have hC : Tryd.prog.cellsOf 23 = 2 := by kernel_rfl
  have hS : Tryd.prog.cellsOf 9 = 1 := by kernel_rfl
  rw [hC] at hl
  simp only [Value.cells] at hl h0 h1
  obtain ⟨s0, e0, f0, _⟩ := DataW.trod_string Tryd.underlying9 h0
  obtain ⟨s1, e1, f1, _⟩ := DataW.trod_string Tryd.underlying9 h1
  have hd : d = .agg [y0.1, y1.1] := congrArg Prod.fst hx
  rw [f0, f1] at hd
  refine ⟨tl s0, tl s1, ?_, ?_, ?_⟩
  · congr 1
    refine Array.toList_inj.1 ?_
    rw [st_tl, st_tl]
    match hcs : cs.toList, hl with
    | [a, b'], _ =>
      rw [hcs, hS] at e0 e1
      simp at e0 e1
      rw [e0, e1]
  · rw [hd]
    simp only [Rows.uptoBulk, Rows.uptoBulkAll, tl]
    omega
  · rw [hd]
    simp only [Rows.uptoBulk, Rows.uptoBulkAll, tl]
    omega
end Go.Proofs.YtigkmlhkfpdajaaDoor
