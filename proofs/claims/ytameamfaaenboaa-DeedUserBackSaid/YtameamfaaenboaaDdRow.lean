/- From what can be read to deeds and users. Conditions: the hypotheses of each theorem. -/
import Derived.Test.YtameamfaaenboaaOpen
import Derived.Test.YtameamfaaenboaaDd16
import Derived.Test.YtameamfaaenboaaDd17
namespace Go.Proofs.Ytameamfaaenboaa
open Go.ChangeShapes Go.WideShapes Go.ChangeAt Go.RowKit Go.Deep
theorem st_mk (z : By) : (⟨z.toArray⟩ : ByteArray) = st z := rfl
theorem Opens.deed : Opens 42 10 RDd := fun H enc W base spare held fuel cs x hx hw => by
  have hl := struct_len Try.underlying42 hx
  have hC : Try.prog.cellsOf 42 = 10 := by kernel_rfl
  rw [hC] at hl
  obtain ⟨a0, h0⟩ := struct_field Try.underlying42 hx hw 0 rfl (Opens.int Try.underlying40) (by kernel_rfl)
  obtain ⟨a1, h1⟩ := struct_field Try.underlying42 hx hw 1 rfl (Opens.str Try.underlying9) (by kernel_rfl)
  obtain ⟨a2, h2⟩ := struct_field Try.underlying42 hx hw 2 rfl (Opens.str Try.underlying9) (by kernel_rfl)
  obtain ⟨a3, h3⟩ := struct_field Try.underlying42 hx hw 3 rfl (Opens.str Try.underlying9) (by kernel_rfl)
  obtain ⟨a4, h4⟩ := struct_field Try.underlying42 hx hw 4 rfl (Opens.int Try.underlying3) (by kernel_rfl)
  obtain ⟨a5, h5⟩ := struct_field Try.underlying42 hx hw 5 rfl (Opens.int Try.underlying3) (by kernel_rfl)
  obtain ⟨a6, h6⟩ := struct_field Try.underlying42 hx hw 6 rfl (Opens.u8 Try.underlying5) (by kernel_rfl)
  obtain ⟨a7, h7⟩ := struct_field Try.underlying42 hx hw 7 rfl (Opens.int Try.underlying3) (by kernel_rfl)
  obtain ⟨a8, h8⟩ := struct_field Try.underlying42 hx hw 8 rfl (Opens.int Try.underlying3) (by kernel_rfl)
  obtain ⟨a9, A9, c9, h9, g1, g2, g3, g4⟩ := struct_field Try.underlying42 hx hw 9 rfl Opens.bytes (by kernel_rfl)
  match cs, hl with
  | [c0, c1, c2, c3, c4, c5, c6, c7, c8, c9'], _ =>
    have e0 : c0 = .int .i64 a0 := by simpa [RInt] using h0.1
    have e1 : c1 = .string (st a1) := by simpa [RStr, st] using h1.1
    have e2 : c2 = .string (st a2) := by simpa [RStr, st] using h2.1
    have e3 : c3 = .string (st a3) := by simpa [RStr, st] using h3.1
    have e4 : c4 = .int .i64 a4 := by simpa [RInt] using h4.1
    have e5 : c5 = .int .i64 a5 := by simpa [RInt] using h5.1
    have e6 : c6 = .int .u8 (a6.toNat : Int) := by simpa [RB] using h6
    have e7 : c7 = .int .i64 a7 := by simpa [RInt] using h7.1
    have e8 : c8 = .int .i64 a8 := by simpa [RInt] using h8.1
    have e9 : c9' = .slice A9 a9.length c9 := by simpa using h9
    subst e0 e1 e2 e3 e4 e5 e6 e7 e8 e9
    exact ⟨rfl, ⟨a0, a1, a2, a3, a4, a5, a6, a7, a8, a9⟩, A9, c9, rfl, g1.bytes, g2, by simpa using g4, h1.2, h2.2, h3.2⟩
/-- a letter, and its bounds -/
def RLt2 : Reading Lt where
  says M w cs l := ∃ A cap, cs = (ltC l (.slice A l.bytes.length cap)).toList ∧ BsM M w A l.bytes ∧ l.bytes.length ≤ 140737488351232
  kept := by
    rintro M w w' cs x ⟨A, cap, h1, h2, h3⟩ hx
    exact ⟨A, cap, h1, h2.kept hx, h3⟩
  old := by
    rintro M N w cs x ⟨A, cap, h1, h2, h3⟩ hx
    exact ⟨A, cap, h1, SlM.old h2 hx, h3⟩
theorem RLt2.weak {M : List Nat} {w : World} {A : Option Addr} {ls : List Lt} (h : RsM RLt2 3 M w A ls) : RsM RLt 3 M w A ls := by
  obtain ⟨css, h1, h2, h3, h4⟩ := h
  exact ⟨css, h1, h2, h3, fun k cs x a b => by obtain ⟨A, c, q1, q2, _⟩ := h4 k cs x a b; exact ⟨A, c, q1, q2⟩⟩
/-- a box, and its bounds -/
def RBx2 : Reading Bx where
  says M w cs b := ∃ A cap, cs = (bxC b (.slice A b.letters.length cap)).toList ∧ RsM RLt2 3 M w A b.letters ∧ b.letters.length ≤ cap ∧ b.letters.length ≤ 140737488351232 ∧ b.name.length ≤ 140737488351232
  kept := by
    rintro M w w' cs x ⟨A, cap, h1, h2, h3⟩ hx
    exact ⟨A, cap, h1, h2.kept hx, h3⟩
  old := by
    rintro M N w cs x ⟨A, cap, h1, h2, h3⟩ hx
    exact ⟨A, cap, h1, h2.old hx, h3⟩
theorem RBx2.weak {M : List Nat} {w : World} {A : Option Addr} {bs : List Bx} (h : RsM RBx2 4 M w A bs) : RsM RBx 4 M w A bs := by
  obtain ⟨css, h1, h2, h3, h4⟩ := h
  exact ⟨css, h1, h2, h3, fun k cs x a b => by obtain ⟨A, c, q1, q2, _⟩ := h4 k cs x a b; exact ⟨A, c, q1, RLt2.weak q2⟩⟩
theorem RBx2.names {M : List Nat} {w : World} {A : Option Addr} {bs : List Bx} (h : RsM RBx2 4 M w A bs) : ∀ b ∈ bs, b.name.length ≤ 140737488355328 := by
  intro b hb
  obtain ⟨k, hk, rfl⟩ := List.getElem_of_mem hb
  obtain ⟨_, _, _, _, _, _, _, _, _, _, _, _, h5⟩ := h.at_ (by omega) hk
  omega
theorem Opens.letter : Opens 61 3 RLt2 := fun H enc W base spare held fuel cs x hx hw => by
  have hl := struct_len Try.underlying61 hx
  have hC : Try.prog.cellsOf 61 = 3 := by kernel_rfl
  rw [hC] at hl
  obtain ⟨a0, h0⟩ := struct_field Try.underlying61 hx hw 0 rfl (Opens.int Try.underlying3) (by kernel_rfl)
  obtain ⟨a1, h1⟩ := struct_field Try.underlying61 hx hw 1 rfl (Opens.u8 Try.underlying5) (by kernel_rfl)
  obtain ⟨a2, A2, c2, h2, g1, g2, g3, g4⟩ := struct_field Try.underlying61 hx hw 2 rfl Opens.bytes (by kernel_rfl)
  match cs, hl with
  | [c0, c1, c2'], _ =>
    have e0 : c0 = .int .i64 a0 := by simpa [RInt] using h0.1
    have e1 : c1 = .int .u8 (a1.toNat : Int) := by simpa [RB] using h1
    have e2 : c2' = .slice A2 a2.length c2 := by simpa using h2
    subst e0 e1 e2
    exact ⟨rfl, ⟨a0, a1, a2⟩, A2, c2, rfl, g1.bytes, by simpa using g4⟩
theorem Opens.box : Opens 57 4 RBx2 := fun H enc W base spare held fuel cs x hx hw => by
  have hl := struct_len Try.underlying57 hx
  have hC : Try.prog.cellsOf 57 = 4 := by kernel_rfl
  rw [hC] at hl
  obtain ⟨a0, h0⟩ := struct_field Try.underlying57 hx hw 0 rfl (Opens.str Try.underlying9) (by kernel_rfl)
  obtain ⟨a1, h1⟩ := struct_field Try.underlying57 hx hw 1 rfl (Opens.int Try.underlying3) (by kernel_rfl)
  obtain ⟨a2, h2⟩ := struct_field Try.underlying57 hx hw 2 rfl (Opens.int Try.underlying3) (by kernel_rfl)
  obtain ⟨a3, A3, c3, h3, g1, g2, g3, g4⟩ := struct_field Try.underlying57 hx hw 3 rfl (Opens.letter.slice (B := 40) Try.underlying55 (by kernel_rfl) (by kernel_rfl)) (by kernel_rfl)
  match cs, hl with
  | [c0, c1, c2, c3'], _ =>
    have e0 : c0 = .string (st a0) := by simpa [RStr, st] using h0.1
    have e1 : c1 = .int .i64 a1 := by simpa [RInt] using h1.1
    have e2 : c2 = .int .i64 a2 := by simpa [RInt] using h2.1
    have e3 : c3' = .slice A3 a3.length c3 := by simpa using h3
    subst e0 e1 e2 e3
    exact ⟨rfl, ⟨a0, a1, a2, a3⟩, A3, c3, rfl, g1, g2, (show a3.length ≤ 140737488351232 by omega), h0.2⟩
/-- a user's cells -/
def RUs : Reading Us where
  says M w cs u := ∃ A cap, cs = (usC u (.slice A u.boxes.length cap)).toList ∧ RsM RBx2 4 M w A u.boxes ∧ u.boxes.length ≤ cap ∧ u.boxes.length ≤ 140737488351232 ∧ u.name.length ≤ 140737488351232
  kept := by
    rintro M w w' cs x ⟨A, cap, h1, h2, h3⟩ hx
    exact ⟨A, cap, h1, h2.kept hx, h3⟩
  old := by
    rintro M N w cs x ⟨A, cap, h1, h2, h3⟩ hx
    exact ⟨A, cap, h1, h2.old hx, h3⟩
theorem Opens.user : Opens 34 3 RUs := fun H enc W base spare held fuel cs x hx hw => by
  have hl := struct_len Try.underlying34 hx
  have hC : Try.prog.cellsOf 34 = 3 := by kernel_rfl
  rw [hC] at hl
  obtain ⟨a0, h0⟩ := struct_field Try.underlying34 hx hw 0 rfl (Opens.str Try.underlying9) (by kernel_rfl)
  obtain ⟨a1, h1⟩ := struct_field Try.underlying34 hx hw 1 rfl (Opens.int Try.underlying3) (by kernel_rfl)
  obtain ⟨a3, A3, c3, h3, g1, g2, g3, g4⟩ := struct_field Try.underlying34 hx hw 2 rfl (Opens.box.slice (B := 56) Try.underlying32 (by kernel_rfl) (by kernel_rfl)) (by kernel_rfl)
  match cs, hl with
  | [c0, c1, c3'], _ =>
    have e0 : c0 = .string (st a0) := by simpa [RStr, st] using h0.1
    have e1 : c1 = .int .i64 a1 := by simpa [RInt] using h1.1
    have e3 : c3' = .slice A3 a3.length c3 := by simpa using h3
    subst e0 e1 e3
    exact ⟨rfl, ⟨a0, a1, a3⟩, A3, c3, rfl, g1, g2, (show a3.length ≤ 140737488351232 by omega), h0.2⟩
section
variable {H : Type} {enc : TypeId × Value → H} {W : World} {base b : Nat} {held : Bool} {v : Value} {d : DataW H} {p : List MemPlace}
theorem open_ddeeds {spare : Nat → Bool} (hv : Value.okWide Try.prog W .any b 22 v) (h : DataW.Trod enc Try.prog W base spare held 22 v d p) (hw : ∀ n ∈ d.weights Try.prog 22, n ≤ reachBytes) :
    ∃ (A : Option Addr) (cap : Nat) (l : List Dd), v = .slice A l.length cap ∧ RsM RDd 10 [] W A l ∧ l.length ≤ 140737488351232 := by
  obtain ⟨a0, len0, cap0, rfl⟩ := okWide_slice Try.underlying22 hv
  obtain ⟨l, A, cap, h1, h2, h3, h4, h5⟩ := (Opens.deed.slice (B := 120) Try.underlying22 (by kernel_rfl) (by kernel_rfl)).arg h hw
  simp [Value.cells] at h1
  obtain ⟨rfl, rfl, rfl⟩ := h1
  exact ⟨_, _, l, rfl, h2, by omega⟩
theorem open_ddeed {spare : Nat → Bool} (hv : Value.okWide Try.prog W .any b 42 v) (h : DataW.Trod enc Try.prog W base spare held 42 v d p) (hw : ∀ n ∈ d.weights Try.prog 42, n ≤ reachBytes) :
    ∃ (A : Option Addr) (cap : Nat) (x : Dd), v = .agg (ddC x (.slice A x.bytes.length cap)) ∧ Bs W A x.bytes ∧ x.bytes.length ≤ cap ∧ x.bytes.length ≤ 140737488351232 ∧ x.user.length ≤ 140737488351232 ∧ x.box.length ≤ 140737488351232 ∧ x.to.length ≤ 140737488351232 := by
  obtain ⟨cs, rfl, hsz⟩ := okWide_struct Try.underlying42 hv
  obtain ⟨u, A, cap, h1, h2, h3, h4, h5, h6, h7⟩ := Opens.deed.arg h hw
  refine ⟨A, cap, u, ?_, h2.bs, h3, h4, h5, h6, h7⟩
  simp only [Value.cells] at h1
  congr 1
  exact Array.toList_inj.1 h1
theorem open_duser {spare : Nat → Bool} (hv : Value.okWide Try.prog W .any b 34 v) (h : DataW.Trod enc Try.prog W base spare held 34 v d p) (hw : ∀ n ∈ d.weights Try.prog 34, n ≤ reachBytes) :
    ∃ (A : Option Addr) (cap : Nat) (x : Us), v = .agg (usC x (.slice A x.boxes.length cap)) ∧ RsM RBx2 4 [] W A x.boxes ∧ x.boxes.length ≤ cap ∧ x.boxes.length ≤ 140737488351232 ∧ x.name.length ≤ 140737488351232 := by
  obtain ⟨cs, rfl, hsz⟩ := okWide_struct Try.underlying34 hv
  obtain ⟨u, A, cap, h1, h2, h3, h4, h5⟩ := Opens.user.arg h hw
  refine ⟨A, cap, u, ?_, h2, h3, h4, h5⟩
  simp only [Value.cells] at h1
  congr 1
  exact Array.toList_inj.1 h1
end
end Go.Proofs.Ytameamfaaenboaa
