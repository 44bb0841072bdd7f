/- From a script that can be read to its calls. Conditions: the hypotheses of each theorem. -/
import Derived.Test.YtijopcdjlpafdaaOpen
import Derived.Test.YtijopcdjlpafdaaCoT1
namespace Go.Proofs.Ytijopcdjlpafdaa
open Go.ChangeShapes Go.WideShapes Go.ChangeAt Go.RowKit Go.Deep
theorem RsM.ints {M : List Nat} {w : World} {A : Option Addr} {l : List Int} (h : RsM RInt 1 M w A l) : SlM M w A (ib l) := by
  intro k v hk
  have hk' : k < l.length := by
    have := (List.getElem?_eq_some_iff.1 hk).1
    simpa using this
  obtain ⟨ad, cs, e, hn, _, hc, hs⟩ := h.at_ (by omega) hk'
  refine ⟨ad, e, hn, ?_⟩
  rw [ib_get hk'] at hk
  cases hk
  have := hc 0 (.int .i64 l[k]) (by rw [show cs = _ from hs.1]; rfl)
  simpa using this
def RTxI : Reading TxI where
  says _ _ cs d := cs = [.int .i64 d.node, .int .i64 d.boot, .int .i64 d.n]
  kept := fun h _ => h
  old := fun h _ => h
theorem Opens.apitx : Opens 35 3 RTxI := fun H enc W base spare held fuel cs x hx hw => by
  have hl := struct_len Try.underlying35 hx
  have hC : Try.prog.cellsOf 35 = 3 := by kernel_rfl
  rw [hC] at hl
  obtain ⟨a0, h0⟩ := struct_field Try.underlying35 hx hw 0 rfl (Opens.int Try.underlying3) (by kernel_rfl)
  obtain ⟨a1, h1⟩ := struct_field Try.underlying35 hx hw 1 rfl (Opens.int Try.underlying3) (by kernel_rfl)
  obtain ⟨a2, h2⟩ := struct_field Try.underlying35 hx hw 2 rfl (Opens.int Try.underlying3) (by kernel_rfl)
  match cs, hl with
  | [c0, c1, c2], _ =>
    have e0 : c0 = .int .i64 a0 := by simpa [RInt] using h0.1
    have e1 : c1 = .int .i64 a1 := by simpa [RInt] using h1.1
    have e2 : c2 = .int .i64 a2 := by simpa [RInt] using h2.1
    subst e0 e1 e2
    exact ⟨rfl, ⟨a0, a1, a2⟩, rfl⟩
theorem Opens.call : Opens 37 9 RCl := fun H enc W base spare held fuel cs x hx hw => by
  have hl := struct_len Try.underlying37 hx
  have hC : Try.prog.cellsOf 37 = 9 := by kernel_rfl
  rw [hC] at hl
  obtain ⟨a0, h0⟩ := struct_field Try.underlying37 hx hw 0 rfl (Opens.int Try.underlying3) (by kernel_rfl)
  obtain ⟨b, A, cap, hb, hb2, hb4, hb5, hb3⟩ := struct_field Try.underlying37 hx hw 1 rfl ((Opens.int Try.underlying3).slice (B := 8) Try.underlying33 (by kernel_rfl) (by kernel_rfl)) (by kernel_rfl)
  obtain ⟨a2, h2⟩ := struct_field Try.underlying37 hx hw 2 rfl (Opens.int Try.underlying3) (by kernel_rfl)
  obtain ⟨a3, h3⟩ := struct_field Try.underlying37 hx hw 3 rfl (Opens.bool Try.underlying4) (by kernel_rfl)
  obtain ⟨a4, h4⟩ := struct_field Try.underlying37 hx hw 4 rfl (Opens.u8 Try.underlying5) (by kernel_rfl)
  obtain ⟨a5, h5⟩ := struct_field Try.underlying37 hx hw 5 rfl Opens.apitx (by kernel_rfl)
  obtain ⟨d, A2, cap2, hd, hd2, hd4, hd5, hd3⟩ := struct_field Try.underlying37 hx hw 6 rfl Opens.bytes (by kernel_rfl)
  match cs, hl with
  | [c0, c1, c2, c3, c4, c5, c6, c7, c8], _ =>
    have e0 : c0 = .int .i64 a0 := by simpa [RInt] using h0.1
    have e1 : c1 = .slice A b.length cap := by simpa using hb
    have e2 : c2 = .int .i64 a2 := by simpa [RInt] using h2.1
    have e3 : c3 = .bool a3 := by simpa [RBool] using h3
    have e4 : c4 = .int .u8 (a4.toNat : Int) := by simpa [RB] using h4
    simp [RTxI] at h5
    obtain ⟨e5, e6, e7⟩ := h5
    have e8 : c8 = .slice A2 d.length cap2 := by simpa using hd
    subst e0 e1 e2 e3 e4 e5 e6 e7 e8
    exact ⟨rfl, ⟨a0, b, a2, a3, a4.toNat, a5, d⟩, A, cap, A2, cap2, rfl, hb2.ints, hd2.bytes, by simp; omega, by simp; omega, hd4, by have := a4.toNat_lt; simp; omega⟩
section
variable {H : Type} {enc : TypeId × Value → H} {W : World} {base b : Nat} {held : Bool} {v : Value} {d : DataW H} {p : List MemPlace}
set_option maxRecDepth 20000 in
theorem open_ccalls {spare : Nat → Bool} (hv : Value.okWide Try.prog W .any b 22 v) (h : DataW.Trod enc Try.prog W base spare held 22 v d p) (hw : ∀ n ∈ d.weights Try.prog 22, n ≤ reachBytes) :
    ∃ (A : Option Addr) (cap : Nat) (l : List Cl), v = .slice A l.length cap ∧ l.length ≤ cap ∧ cap ≤ 9223372036854775807 ∧ RsM RCl 9 [] W A l ∧ l.length ≤ 140737488351232 := by
  obtain ⟨a0, len0, cap0, rfl⟩ := okWide_slice Try.underlying22 hv
  obtain ⟨l, A, cap, h1, h2, h3, h4, h5⟩ := (Opens.call.slice (B := 96) Try.underlying22 (by kernel_rfl) (by kernel_rfl)).arg h hw
  simp [Value.cells] at h1
  obtain ⟨rfl, rfl, rfl⟩ := h1
  exact ⟨_, _, l, rfl, h3, h4, h2, by omega⟩
end
end Go.Proofs.Ytijopcdjlpafdaa
