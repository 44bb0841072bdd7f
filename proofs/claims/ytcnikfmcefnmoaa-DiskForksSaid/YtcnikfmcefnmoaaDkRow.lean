/- From what can be read to a script's deeds, and to a crash. Conditions: the hypotheses of each theorem. -/
import Derived.Test.YtcnikfmcefnmoaaOpen
import Derived.Test.YtcnikfmcefnmoaaDe
namespace Go.Proofs.Ytcnikfmcefnmoaa
open Go.ChangeShapes Go.WideShapes Go.ChangeAt Go.RowKit Go.Deep
theorem RsM.bools {M : List Nat} {w : World} {A : Option Addr} {l : List Bool} (h : RsM RBool 1 M w A l) : SlM M w A (bo l) := by
  intro k v hk
  have hk' : k < l.length := by
    have := (List.getElem?_eq_some_iff.1 hk).1
    simpa [bo] using this
  obtain ⟨ad, cs, e, hn, _, hc, hs⟩ := h.at_ (by omega) hk'
  refine ⟨ad, e, hn, ?_⟩
  have hb : (bo l)[k]? = some (.bool l[k]) := by simp [bo, hk']
  rw [hb] at hk
  cases hk
  have := hc 0 (.bool l[k]) (by rw [show cs = _ from hs]; rfl)
  simpa using this
theorem Opens.crash : Opens 25 3 RCr := fun H enc W base spare held fuel cs x hx hw => by
  have hl := struct_len Try.underlying25 hx
  have hC : Try.prog.cellsOf 25 = 3 := by kernel_rfl
  rw [hC] at hl
  obtain ⟨b, A, cap, hb, hb2, _, _, hb3⟩ := struct_field Try.underlying25 hx hw 0 rfl ((Opens.bool Try.underlying4).slice (B := 1) Try.underlying23 (by kernel_rfl) (by kernel_rfl)) (by kernel_rfl)
  obtain ⟨f, hf⟩ := struct_field Try.underlying25 hx hw 1 rfl (Opens.int Try.underlying3) (by kernel_rfl)
  obtain ⟨t, ht⟩ := struct_field Try.underlying25 hx hw 2 rfl (Opens.int Try.underlying3) (by kernel_rfl)
  match cs, hl with
  | [c0, c1, c2], _ =>
    have e0 : c0 = .slice A b.length cap := by simpa using hb
    have e1 : c1 = .int .i64 f := by simpa [RInt] using hf.1
    have e2 : c2 = .int .i64 t := by simpa [RInt] using ht.1
    subst e0 e1 e2
    exact ⟨rfl, ⟨b, f, t⟩, A, cap, rfl, hb2.bools, by simpa using hb3⟩
theorem Opens.deed : Opens 39 6 RDe := fun H enc W base spare held fuel cs x hx hw => by
  have hl := struct_len Try.underlying39 hx
  have hC : Try.prog.cellsOf 39 = 6 := by kernel_rfl
  rw [hC] at hl
  obtain ⟨f, hf⟩ := struct_field Try.underlying39 hx hw 0 rfl (Opens.int Try.underlying3) (by kernel_rfl)
  obtain ⟨i, hi⟩ := struct_field Try.underlying39 hx hw 1 rfl (Opens.int Try.underlying3) (by kernel_rfl)
  obtain ⟨b, A, cap, hb, hb2, _, _, hb3⟩ := struct_field Try.underlying39 hx hw 2 rfl Opens.bytes (by kernel_rfl)
  obtain ⟨C, A2, cap2, hc, hc2, hc3⟩ := struct_field Try.underlying39 hx hw 3 rfl Opens.crash (by kernel_rfl)
  match cs, hl with
  | [c0, c1, c2, c3, c4, c5], _ =>
    have e0 : c0 = .int .i64 f := by simpa [RInt] using hf.1
    have e1 : c1 = .int .i64 i := by simpa [RInt] using hi.1
    have e2 : c2 = .slice A b.length cap := by simpa using hb
    simp at hc
    obtain ⟨e3, e4, e5⟩ := hc
    subst e0 e1 e2 e3 e4 e5
    exact ⟨rfl, ⟨f, i, b, C⟩, A, cap, A2, cap2, rfl, hb2.bytes, hc2, hc3, by simpa using hb3, (bounds_i64 hi.2).2⟩
section
variable {H : Type} {enc : TypeId × Value → H} {W : World} {base b : Nat} {held : Bool} {v : Value} {d : DataW H} {p : List MemPlace}
theorem open_deeds {spare : Nat → Bool} (hv : Value.okWide Try.prog W .any b 37 v) (h : DataW.Trod enc Try.prog W base spare held 37 v d p) (hw : ∀ n ∈ d.weights Try.prog 37, n ≤ reachBytes) :
    ∃ (A : Option Addr) (cap : Nat) (l : List De), v = .slice A l.length cap ∧ l.length ≤ cap ∧ cap ≤ 9223372036854775807 ∧ RsM RDe 6 [] W A l ∧ l.length ≤ 140737488351232 := by
  obtain ⟨a0, len0, cap0, rfl⟩ := okWide_slice Try.underlying37 hv
  obtain ⟨l, A, cap, h1, h2, h3, h4, h5⟩ := (Opens.deed.slice (B := 80) Try.underlying37 (by kernel_rfl) (by kernel_rfl)).arg h hw
  simp [Value.cells] at h1
  obtain ⟨rfl, rfl, rfl⟩ := h1
  exact ⟨_, _, l, rfl, h3, h4, h2, by omega⟩
theorem open_crash {spare : Nat → Bool} (hv : Value.okWide Try.prog W .any b 25 v) (h : DataW.Trod enc Try.prog W base spare held 25 v d p) (hw : ∀ n ∈ d.weights Try.prog 25, n ≤ reachBytes) :
    ∃ (C : Cr) (A : Option Addr) (c : Nat), v = .agg #[.slice A C.keep.length c, .int .i64 C.torn, .int .i64 C.at_] ∧ Sl W A (bo C.keep) ∧ C.keep.length ≤ 9223372036854775807 := by
  obtain ⟨cs, rfl, hsz⟩ := okWide_struct Try.underlying25 hv
  obtain ⟨C, A, c, h1, h2, h3⟩ := Opens.crash.arg h hw
  refine ⟨C, A, c, ?_, h2.sl, by omega⟩
  simp only [Value.cells] at h1
  congr 1
  exact Array.toList_inj.1 (by simpa using h1)
theorem open_u8 {spare : Nat → Bool} (hv : Value.okWide Try.prog W .any b 5 v) (h : DataW.Trod enc Try.prog W base spare held 5 v d p) : ∃ m : Nat, v = .int .u8 m ∧ m < 256 := by
  obtain ⟨z, hz⟩ := (Opens.u8 Try.underlying5).arg h (by
    obtain ⟨fuel, hf⟩ := h
    obtain ⟨n, _, hx, _⟩ := DataW.trod_int Try.underlying5 hf
    intro m hm
    have : d = .lit (.int .u8 n) := by simpa using congrArg Prod.fst hx
    rw [this] at hm
    simp [DataW.weights] at hm)
  obtain ⟨z0, rfl⟩ := okWide_int Try.underlying5 hv
  simp [RB, Value.cells] at hz
  subst hz
  exact ⟨z.toNat, rfl, by have := z.toNat_lt; omega⟩
end
end Go.Proofs.Ytcnikfmcefnmoaa
