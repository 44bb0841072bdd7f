/- From a script that can be read to its calls. Conditions: the hypotheses of each theorem. -/
import Derived.Test.YtbanjhfmddhndaaOpen
import Derived.Test.YtbanjhfmddhndaaBag11
namespace Go.Proofs.Ytbanjhfmddhndaa
open Go.ChangeShapes Go.WideShapes Go.ChangeAt Go.RowKit Go.Deep
def RUb : Reading U where
  says M w cs u := RU.says M w cs u ∧ u.by_.length ≤ 140737488351232
  kept := fun h hx => ⟨RU.kept h.1 hx, h.2⟩
  old := fun h hx => ⟨RU.old h.1 hx, h.2⟩
theorem Opens.und : Opens 30 3 RUb := fun H enc W base spare held fuel cs x hx hw => by
  have hl := struct_len Try.underlying30 hx
  have hC : Try.prog.cellsOf 30 = 3 := by kernel_rfl
  rw [hC] at hl
  obtain ⟨f, hf⟩ := struct_field Try.underlying30 hx hw 0 rfl (Opens.int Try.underlying3) (by kernel_rfl)
  obtain ⟨t, ht⟩ := struct_field Try.underlying30 hx hw 1 rfl (Opens.int Try.underlying3) (by kernel_rfl)
  obtain ⟨b, A, cap, hb, hb2, _, _, hb3⟩ := struct_field Try.underlying30 hx hw 2 rfl Opens.bytes (by kernel_rfl)
  match cs, hl with
  | [c0, c1, c2], _ =>
    have e0 : c0 = .int .i64 f := by simpa [RInt] using hf.1
    have e1 : c1 = .int .i64 t := by simpa [RInt] using ht.1
    have e2 : c2 = .slice A b.length cap := by simpa using hb
    subst e0 e1 e2
    exact ⟨rfl, ⟨f, t, b⟩, ⟨A, cap, rfl, hb2.bytes⟩, by simpa using hb3⟩
theorem Opens.call : Opens 34 6 RC := fun H enc W base spare held fuel cs x hx hw => by
  have hl := struct_len Try.underlying34 hx
  have hC : Try.prog.cellsOf 34 = 6 := by kernel_rfl
  rw [hC] at hl
  obtain ⟨d, hd⟩ := struct_field Try.underlying34 hx hw 0 rfl (Opens.int Try.underlying3) (by kernel_rfl)
  obtain ⟨u, ⟨A, cap, hu, hb⟩, hub⟩ := struct_field Try.underlying34 hx hw 1 rfl Opens.und (by kernel_rfl)
  obtain ⟨i, hi⟩ := struct_field Try.underlying34 hx hw 2 rfl (Opens.int Try.underlying3) (by kernel_rfl)
  obtain ⟨k, hk⟩ := struct_field Try.underlying34 hx hw 3 rfl (Opens.bool Try.underlying4) (by kernel_rfl)
  match cs, hl with
  | [c0, c1, c2, c3, c4, c5], _ =>
    have e0 : c0 = .int .i64 d := by simpa [RInt] using hd.1
    have e4 : c4 = .int .i64 i := by simpa [RInt] using hi.1
    have e5 : c5 = .bool k := by simpa [RBool] using hk
    simp at hu
    obtain ⟨e1, e2, e3⟩ := hu
    subst e0 e1 e2 e3 e4 e5
    exact ⟨rfl, ⟨d, u, i, k⟩, A, cap, rfl, hb, hub, (bounds_i64 hi.2).2⟩
section
variable {H : Type} {enc : TypeId × Value → H} {W : World} {base b : Nat} {held : Bool} {v : Value} {d : DataW H} {p : List MemPlace}
theorem open_calls {spare : Nat → Bool} (hv : Value.okWide Try.prog W .any b 22 v) (h : DataW.Trod enc Try.prog W base spare held 22 v d p) (hw : ∀ n ∈ d.weights Try.prog 22, n ≤ reachBytes) :
    ∃ (A : Option Addr) (cap : Nat) (l : List C), v = .slice A l.length cap ∧ l.length ≤ cap ∧ cap ≤ 9223372036854775807 ∧ RsM RC 6 [] W A l ∧ l.length ≤ 140737488351232 := by
  obtain ⟨a0, len0, cap0, rfl⟩ := okWide_slice Try.underlying22 hv
  obtain ⟨l, A, cap, h1, h2, h3, h4, h5⟩ := (Opens.call.slice (B := 64) Try.underlying22 (by kernel_rfl) (by kernel_rfl)).arg h hw
  simp [Value.cells] at h1
  obtain ⟨rfl, rfl, rfl⟩ := h1
  exact ⟨_, _, l, rfl, h3, h4, h2, by omega⟩
theorem open_und {spare : Nat → Bool} (hv : Value.okWide Try.prog W .any b 30 v) (h : DataW.Trod enc Try.prog W base spare held 30 v d p) (hw : ∀ n ∈ d.weights Try.prog 30, n ≤ reachBytes) :
    ∃ (u : U) (A : Option Addr) (c : Nat), v = uv u A c := by
  obtain ⟨cs, rfl, hsz⟩ := okWide_struct Try.underlying30 hv
  obtain ⟨u, ⟨A, c, h1, h2⟩, h3⟩ := Opens.und.arg h hw
  refine ⟨u, A, c, ?_⟩
  simp only [Value.cells] at h1
  unfold uv
  congr 1
  exact Array.toList_inj.1 (by simpa using h1)
theorem open_u8 {spare : Nat → Bool} (hv : Value.okWide Try.prog W .any b 5 v) (h : DataW.Trod enc Try.prog W base spare held 5 v d p) : ∃ m : Nat, v = .int .u8 m ∧ m < 256 := by
  obtain ⟨z, hz⟩ := (Opens.u8 Try.underlying5).arg h (by
    obtain ⟨fuel, hf⟩ := h
    obtain ⟨n, _, hx, _⟩ := DataW.trod_int Try.underlying5 hf
    intro m hm
    have : d = .lit (.int .u8 n) := by simpa using congrArg Prod.fst hx
    rw [this] at hm
    simp [DataW.weights] at hm)
  obtain ⟨z0, rfl⟩ := okWide_int Try.underlying5 hv
  simp [RB, Value.cells] at hz
  subst hz
  exact ⟨z.toNat, rfl, by have := z.toNat_lt; omega⟩
end
end Go.Proofs.Ytbanjhfmddhndaa
