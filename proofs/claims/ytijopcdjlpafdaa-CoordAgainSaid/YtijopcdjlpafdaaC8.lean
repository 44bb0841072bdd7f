/- From an argument that can be read to what the walks are told of it. Conditions: the hypotheses of each theorem. From what can be read of a type (ints, bools, slices, structs) to what the walks are told of its cells. Conditions: the hypotheses of each theorem. From a script that can be read to its calls. Conditions: the hypotheses of each theorem. -/
import Derived.Test.YtijopcdjlpafdaaRows
import Derived.Test.YtijopcdjlpafdaaC0
import Derived.ProofKit
import Derived.OpenShut
import Derived.ShutString
import Derived.ChangeOld
import Derived.SizedLaws
import Derived.JoinedCond
import Derived.Deep.CondSized
import Derived.Carry
import Derived.Test.YtijopcdjlpafdaaC1
import Derived.Deep.Slices
import Derived.Test.YtijopcdjlpafdaaC4
namespace Go.Proofs.Ytijopcdjlpafdaa
open Go.ChangeShapes Go.WideShapes Go.ChangeAt Go.RowKit
open Go.ChangeMaps (open_string shut_string)
/-! ## from an argument that can be read to what the walks are told of it -/
theorem row_own : ownKnob Try.prog.godebug = none := by kernel_rfl
theorem row_laid : laidOutB Try.prog = true := by kernel_rfl
def toB (z : Int) : UInt8 := UInt8.ofNat z.toNat
theorem toB_val {z : Int} (h : (Lit.int .u8 z).wf = true) : ((toB z).toNat : Int) = z := by
 have h1 := bounds_u8 h
 unfold toB
 rw [UInt8.toNat_ofNat']
 omega
theorem weights_at {H : Type} {ts : List TypeId} {ds : List (DataW H)} (h : (DataW.weightsEach Try.prog ts ds).all (· ≤ reachBytes) = true) (j : Nat) {t : TypeId} {d : DataW H} (ht : ts[j]? = some t) (hd : ds[j]? = some d) :
 ∀ n ∈ d.weights Try.prog t, n ≤ reachBytes := fun n hn => by
 have := List.all_eq_true.1 h n (DataW.weights_mem_each ht hd n hn)
 simpa using this
section
variable {H : Type} {enc : TypeId × Value → H} {W : World} {base b : Nat} {held : Bool} {v : Value} {d : DataW H} {p : List MemPlace}
end
end Go.Proofs.Ytijopcdjlpafdaa
namespace Go.Proofs.Ytijopcdjlpafdaa
open Go.ChangeShapes Go.WideShapes Go.ChangeAt Go.RowKit Go.Deep
/-- what reads as type t has s cells, and says some a -/
def Opens {α : Type} (t s : Nat) (R : Reading α) : Prop :=
 ∀ (H : Type) (enc : TypeId × Value → H) (W : World) (base : Nat) (spare : Nat → Bool) (held : Bool) (fuel : Nat) (cs : List Value) (x : DataW H × List MemPlace),
  DataW.trod enc Try.prog W base spare held fuel t cs = some x → (∀ n ∈ x.1.weights Try.prog t, n ≤ reachBytes) → cs.length = s ∧ ∃ a, R.says [] W cs a
section
variable {H : Type} {P : Program}
theorem weightsAll_mem' {e : TypeId} : ∀ {l : List (DataW H)} {d : DataW H}, d ∈ l → ∀ n ∈ d.weights P e, n ∈ DataW.weightsAll P e l
 | d' :: r, d, hd, n, hn => by
  simp only [DataW.weightsAll, List.mem_append]
  rcases List.mem_cons.1 hd with rfl | h
  ·exact Or.inl hn
  ·exact Or.inr (weightsAll_mem' h n hn)
theorem weights_struct_at {t : TypeId} {fs : Array Field} (ht : P.underlying t = some (.struct fs)) {parts : List (DataW H)} {r : Nat} (hw : ∀ n ∈ (DataW.agg parts).weights P t, n ≤ r) (j : Nat) {f : Field} {d : DataW H} (hf : fs[j]? = some f) (hd : parts[j]? = some d) :
 ∀ n ∈ d.weights P f.type, n ≤ r := fun n hn => by
 refine hw n ?_
 simp only [DataW.weights, ht]
 exact DataW.weights_mem_each (j := j) (t := f.type) (by simp [hf]) hd n hn
theorem weights_slice_at {t e : TypeId} (ht : P.underlying t = some (.slice e)) {elems spare : List (DataW H)} {r : Nat} (hw : ∀ n ∈ (DataW.slice elems spare).weights P t, n ≤ r) {d : DataW H} (hd : d ∈ elems) : ∀ n ∈ d.weights P e, n ≤ r := fun n hn => by
 refine hw n ?_
 simp only [DataW.weights, ht, List.mem_cons, List.mem_append]
 exact .inr (.inl (weightsAll_mem' hd n hn))
theorem weights_slice_len {t e : TypeId} (ht : P.underlying t = some (.slice e)) {elems spare : List (DataW H)} {r : Nat} (hw : ∀ n ∈ (DataW.slice elems spare).weights P t, n ≤ r) : elems.length * P.bytesOf e ≤ r := by
 have := hw ((elems.length + spare.length) * P.bytesOf e) (by simp [DataW.weights, ht])
 have h2 : elems.length * P.bytesOf e ≤ (elems.length + spare.length) * P.bytesOf e := Nat.mul_le_mul_right _ (by omega)
 omega
end
def RInt : Reading Int where
 says _ _ cs z := cs = [.int .i64 z] ∧ (Lit.int .i64 z).wf = true
 kept := fun h _ => h
 old := fun h _ => h
def RBool : Reading Bool where
 says _ _ cs z := cs = [.bool z]
 kept := fun h _ => h
 old := fun h _ => h
def RB : Reading UInt8 where
 says _ _ cs z := cs = [.int .u8 (z.toNat : Int)]
 kept := fun h _ => h
 old := fun h _ => h
/-- a slice of elements of s cells and B bytes -/
def RSl {α : Type} (R : Reading α) (s B : Nat) : Reading (List α) where
 says M w cs xs := ∃ A cap, cs = [.slice A xs.length cap] ∧ RsM R s M w A xs ∧ xs.length ≤ cap ∧ cap ≤ 9223372036854775807 ∧ xs.length * B ≤ 140737488351232
 kept := by
  rintro M w w' cs x ⟨A, cap, h1, h2, h3⟩ hx
  exact ⟨A, cap, h1, h2.kept hx, h3⟩
 old := by
  rintro M N w cs x ⟨A, cap, h1, h2, h3⟩ hx
  exact ⟨A, cap, h1, h2.old hx, h3⟩
theorem Opens.int {t : Nat} (h : Try.prog.underlying t = some (.int .i64)) : Opens t 1 RInt := fun H enc W base spare held fuel cs x hx _ => by
 obtain ⟨n, rfl, _, hw⟩ := DataW.trod_int h hx
 exact ⟨rfl, n, rfl, hw⟩
theorem Opens.u8 {t : Nat} (h : Try.prog.underlying t = some (.int .u8)) : Opens t 1 RB := fun H enc W base spare held fuel cs x hx _ => by
 obtain ⟨n, rfl, _, hw⟩ := DataW.trod_int h hx
 exact ⟨rfl, toB n, by simp only [RB]; rw [toB_val hw]⟩
theorem Opens.bool {t : Nat} (h : Try.prog.underlying t = some .bool) : Opens t 1 RBool := fun H enc W base spare held fuel cs x hx _ => by
 obtain ⟨b, rfl, _⟩ := DataW.trod_bool h hx
 exact ⟨rfl, b, rfl⟩
theorem Opens.slice {α : Type} {t e s B : Nat} {R : Reading α} (h : Opens e s R) (ht : Try.prog.underlying t = some (.slice e)) (hs : Try.prog.cellsOf e = s) (hB : Try.prog.bytesOf e = B) : Opens t 1 (RSl R s B) := fun H enc W base spare held fuel cs x hx hw => by
 subst hs hB
 rcases open_slice ht hx with ⟨rfl, rfl⟩ | ⟨a, len, cap, m, n, D, Pl, rfl, hb, hl, hm, hmm, rfl, hi⟩
 ·exact ⟨rfl, [], none, 0, rfl, RsM.nil _ _ _ _ _, by simp, by simp, by simp⟩
 ·refine ⟨rfl, ?_⟩
  have hlm : len ≤ m := by rw [hmm]; split <;> omega
  have key : ∀ i, i < len → ∃ (cs' : List Value) (z : α), cs'.length = Try.prog.cellsOf e ∧ (∀ (j : Nat) (v : Value), cs'[j]? = some v → W.cell? (a.add (i * Try.prog.cellsOf e + j)) = some v) ∧ R.says [] W cs' z := by
   intro i hil
   obtain ⟨cs', hc, ht'⟩ := hi i (by omega)
   obtain ⟨_, hcl, hat⟩ := World.cells?_some hc
   have hd : D i ∈ (List.range len).map D := List.mem_map.2 ⟨i, by simpa using hil, rfl⟩
   obtain ⟨h1, z, hz⟩ := h H enc W base spare held n cs' _ ht' (weights_slice_at ht hw hd)
   refine ⟨cs', z, h1, fun j v hv => ?_, hz⟩
   have hj : j < Try.prog.cellsOf e := by rw [← h1]; exact (List.getElem?_eq_some_iff.1 hv).1
   rw [← add_add, hat j hj]
   exact hv
  have hlist : ∀ k, k ≤ len → ∃ (css : List (List Value)) (xs : List α), css.length = k ∧ xs.length = k ∧ (∀ c ∈ css, c.length = Try.prog.cellsOf e) ∧
   (∀ (i : Nat) (c : List Value), css[i]? = some c → ∀ (j : Nat) (v : Value), c[j]? = some v → W.cell? (a.add (i * Try.prog.cellsOf e + j)) = some v) ∧
   ∀ (i : Nat) (c : List Value) (z : α), css[i]? = some c → xs[i]? = some z → R.says [] W c z := by
   intro k
   induction k with
   | zero => exact fun _ => ⟨[], [], rfl, rfl, by simp, by simp, by simp⟩
   | succ k ih =>
    intro hk
    obtain ⟨css, xs, g1, g2, g3, g4, g5⟩ := ih (by omega)
    obtain ⟨c, z, q1, q2, q3⟩ := key k (by omega)
    refine ⟨css ++ [c], xs ++ [z], by simp [g1], by simp [g2], ?_, ?_, ?_⟩
    ·intro c' hc'
     rcases List.mem_append.1 hc' with h | h
     ·exact g3 c' h
     ·simp at h; subst h; exact q1
    ·intro i c' hc'
     rw [List.getElem?_append] at hc'
     split at hc'
     ·exact g4 i c' hc'
     ·have hi0 : i = css.length := by
       rcases Nat.lt_or_ge css.length i with h | h
       ·rw [List.getElem?_eq_none (by simp; omega)] at hc'; cases hc'
       ·omega
      subst hi0
      simp at hc'
      subst hc'
      rw [g1]
      exact q2
    ·intro i c' z' hc' hz'
     rw [List.getElem?_append] at hc' hz'
     rw [g1] at hc'
     rw [g2] at hz'
     split at hc'
     ·rename_i hlt
      rw [if_pos hlt] at hz'
      exact g5 i c' z' hc' hz'
     ·rename_i hge
      rw [if_neg hge] at hz'
      have hi0 : i = k := by
       rcases Nat.lt_or_ge k i with h | h
       ·rw [List.getElem?_eq_none (by simp; omega)] at hc'; cases hc'
       ·omega
      subst hi0
      simp at hc' hz'
      subst hc' hz'
      exact q3
  obtain ⟨css, xs, g1, g2, g3, g4, g5⟩ := hlist len (Nat.le_refl _)
  refine ⟨xs, some a, cap, by rw [g2], ⟨css, by rw [g1, g2], g3, ?_, g5⟩, by rw [g2]; exact hl, hm, ?_⟩
  ·intro i v hv
   have hi' : i < css.flatten.length := (List.getElem?_eq_some_iff.1 hv).1
   rw [flatten_length g3] at hi'
   rcases Nat.eq_zero_or_pos (Try.prog.cellsOf e) with h0 | h0
   ·rw [h0] at hi'; omega
   ·have hk : i / Try.prog.cellsOf e < css.length := Nat.div_lt_of_lt_mul (by rwa [Nat.mul_comm])
    have hj := Nat.mod_lt i h0
    have hv2 := flatten_get g3 (i / Try.prog.cellsOf e) (i % Try.prog.cellsOf e) _ (List.getElem?_eq_getElem hk) hj
    rw [Nat.div_add_mod' i (Try.prog.cellsOf e), hv] at hv2
    refine ⟨a, rfl, by simp, ?_⟩
    have := g4 _ _ (List.getElem?_eq_getElem hk) (i % Try.prog.cellsOf e) v hv2.symm
    rwa [Nat.div_add_mod' i (Try.prog.cellsOf e)] at this
  ·have := weights_slice_len ht hw
   simp only [List.length_map, List.length_range, reachBytes] at this
   rw [g2]
   exact this
theorem RsM.bytes {M : List Nat} {w : World} {A : Option Addr} {l : List UInt8} (h : RsM RB 1 M w A l) : BsM M w A l := by
 intro k v hk
 have hk' : k < l.length := by
  have := (List.getElem?_eq_some_iff.1 hk).1
  simpa using this
 obtain ⟨ad, cs, e, hn, _, hc, hs⟩ := h.at_ (by omega) hk'
 refine ⟨ad, e, hn, ?_⟩
 rw [bv_get hk'] at hk
 cases hk
 have := hc 0 (.int .u8 (l[k].toNat : Int)) (by rw [show cs = _ from hs]; rfl)
 simpa using this
/-- a struct: one of its fields -/
theorem struct_field {H : Type} {enc : TypeId × Value → H} {W : World} {base : Nat} {spare : Nat → Bool} {held : Bool} {fuel : Nat} {cs : List Value} {x : DataW H × List MemPlace} {t : Nat} {fs : Array Field} (ht : Try.prog.underlying t = some (.struct fs))
 (hx : DataW.trod enc Try.prog W base spare held fuel t cs = some x) (hw : ∀ n ∈ x.1.weights Try.prog t, n ≤ reachBytes) (j : Nat) {f : Field} (hf : fs[j]? = some f) {α : Type} {s : Nat} {R : Reading α} (ho : Opens f.type s R) (hs : Try.prog.cellsOf f.type = s) :
 ∃ a, R.says [] W ((cs.drop f.offset).take s) a := by
 subst hs
 obtain ⟨xs, n, rfl, rfl, hl, hxl, hg⟩ := DataW.trod_struct ht hx
 have h1 := hg j f hf
 have hj : j < xs.length := by rw [hxl]; exact (Array.getElem?_eq_some_iff.1 hf).1
 rw [List.getElem?_eq_getElem hj] at h1
 exact (ho H enc W base spare held n _ _ h1 (weights_struct_at ht hw j hf (by simp [List.getElem?_eq_getElem hj]))).2
theorem struct_len {H : Type} {enc : TypeId × Value → H} {W : World} {base : Nat} {spare : Nat → Bool} {held : Bool} {fuel : Nat} {cs : List Value} {x : DataW H × List MemPlace} {t : Nat} {fs : Array Field} (ht : Try.prog.underlying t = some (.struct fs))
 (hx : DataW.trod enc Try.prog W base spare held fuel t cs = some x) : cs.length = Try.prog.cellsOf t := by
 obtain ⟨xs, n, _, _, hl, _⟩ := DataW.trod_struct ht hx
 exact hl
theorem Opens.bytes : Opens 23 1 (RSl RB 1 1) := (Opens.u8 Try.underlying5).slice Try.underlying23 (by kernel_rfl) (by kernel_rfl)
/-- from an argument to its cells -/
theorem Opens.arg {α : Type} {t s : Nat} {R : Reading α} (h : Opens t s R) {H : Type} {enc : TypeId × Value → H} {W : World} {base : Nat} {spare : Nat → Bool} {held : Bool} {v : Value} {d : DataW H} {p : List MemPlace}
 (hd : DataW.Trod enc Try.prog W base spare held t v d p) (hw : ∀ n ∈ d.weights Try.prog t, n ≤ reachBytes) : ∃ a, R.says [] W v.cells.toList a := by
 obtain ⟨fuel, hf⟩ := hd
 exact (h H enc W base spare held fuel _ _ hf hw).2
end Go.Proofs.Ytijopcdjlpafdaa
namespace Go.Proofs.Ytijopcdjlpafdaa
open Go.ChangeShapes Go.WideShapes Go.ChangeAt Go.RowKit Go.Deep
theorem RsM.ints {M : List Nat} {w : World} {A : Option Addr} {l : List Int} (h : RsM RInt 1 M w A l) : SlM M w A (ib l) := by
 intro k v hk
 have hk' : k < l.length := by
  have := (List.getElem?_eq_some_iff.1 hk).1
  simpa using this
 obtain ⟨ad, cs, e, hn, _, hc, hs⟩ := h.at_ (by omega) hk'
 refine ⟨ad, e, hn, ?_⟩
 rw [ib_get hk'] at hk
 cases hk
 have := hc 0 (.int .i64 l[k]) (by rw [show cs = _ from hs.1]; rfl)
 simpa using this
def RTxI : Reading TxI where
 says _ _ cs d := cs = [.int .i64 d.node, .int .i64 d.boot, .int .i64 d.n]
 kept := fun h _ => h
 old := fun h _ => h
theorem Opens.apitx : Opens 35 3 RTxI := fun H enc W base spare held fuel cs x hx hw => by
 have hl := struct_len Try.underlying35 hx
 have hC : Try.prog.cellsOf 35 = 3 := by kernel_rfl
 rw [hC] at hl
 obtain ⟨a0, h0⟩ := struct_field Try.underlying35 hx hw 0 rfl (Opens.int Try.underlying3) (by kernel_rfl)
 obtain ⟨a1, h1⟩ := struct_field Try.underlying35 hx hw 1 rfl (Opens.int Try.underlying3) (by kernel_rfl)
 obtain ⟨a2, h2⟩ := struct_field Try.underlying35 hx hw 2 rfl (Opens.int Try.underlying3) (by kernel_rfl)
 match cs, hl with
 | [c0, c1, c2], _ =>
  have e0 : c0 = .int .i64 a0 := by simpa [RInt] using h0.1
  have e1 : c1 = .int .i64 a1 := by simpa [RInt] using h1.1
  have e2 : c2 = .int .i64 a2 := by simpa [RInt] using h2.1
  subst e0 e1 e2
  exact ⟨rfl, ⟨a0, a1, a2⟩, rfl⟩
theorem Opens.call : Opens 37 9 RCl := fun H enc W base spare held fuel cs x hx hw => by
 have hl := struct_len Try.underlying37 hx
 have hC : Try.prog.cellsOf 37 = 9 := by kernel_rfl
 rw [hC] at hl
 obtain ⟨a0, h0⟩ := struct_field Try.underlying37 hx hw 0 rfl (Opens.int Try.underlying3) (by kernel_rfl)
 obtain ⟨b, A, cap, hb, hb2, hb4, hb5, hb3⟩ := struct_field Try.underlying37 hx hw 1 rfl ((Opens.int Try.underlying3).slice (B := 8) Try.underlying33 (by kernel_rfl) (by kernel_rfl)) (by kernel_rfl)
 obtain ⟨a2, h2⟩ := struct_field Try.underlying37 hx hw 2 rfl (Opens.int Try.underlying3) (by kernel_rfl)
 obtain ⟨a3, h3⟩ := struct_field Try.underlying37 hx hw 3 rfl (Opens.bool Try.underlying4) (by kernel_rfl)
 obtain ⟨a4, h4⟩ := struct_field Try.underlying37 hx hw 4 rfl (Opens.u8 Try.underlying5) (by kernel_rfl)
 obtain ⟨a5, h5⟩ := struct_field Try.underlying37 hx hw 5 rfl Opens.apitx (by kernel_rfl)
 obtain ⟨d, A2, cap2, hd, hd2, hd4, hd5, hd3⟩ := struct_field Try.underlying37 hx hw 6 rfl Opens.bytes (by kernel_rfl)
 match cs, hl with
 | [c0, c1, c2, c3, c4, c5, c6, c7, c8], _ =>
  have e0 : c0 = .int .i64 a0 := by simpa [RInt] using h0.1
  have e1 : c1 = .slice A b.length cap := by simpa using hb
  have e2 : c2 = .int .i64 a2 := by simpa [RInt] using h2.1
  have e3 : c3 = .bool a3 := by simpa [RBool] using h3
  have e4 : c4 = .int .u8 (a4.toNat : Int) := by simpa [RB] using h4
  simp [RTxI] at h5
  obtain ⟨e5, e6, e7⟩ := h5
  have e8 : c8 = .slice A2 d.length cap2 := by simpa using hd
  subst e0 e1 e2 e3 e4 e5 e6 e7 e8
  exact ⟨rfl, ⟨a0, b, a2, a3, a4.toNat, a5, d⟩, A, cap, A2, cap2, rfl, hb2.ints, hd2.bytes, by simp; omega, by simp; omega, hd4, by have := a4.toNat_lt; simp; omega⟩
section
variable {H : Type} {enc : TypeId × Value → H} {W : World} {base b : Nat} {held : Bool} {v : Value} {d : DataW H} {p : List MemPlace}
set_option maxRecDepth 20000 in
theorem open_ccalls {spare : Nat → Bool} (hv : Value.okWide Try.prog W .any b 22 v) (h : DataW.Trod enc Try.prog W base spare held 22 v d p) (hw : ∀ n ∈ d.weights Try.prog 22, n ≤ reachBytes) :
 ∃ (A : Option Addr) (cap : Nat) (l : List Cl), v = .slice A l.length cap ∧ l.length ≤ cap ∧ cap ≤ 9223372036854775807 ∧ RsM RCl 9 [] W A l ∧ l.length ≤ 140737488351232 := by
 obtain ⟨a0, len0, cap0, rfl⟩ := okWide_slice Try.underlying22 hv
 obtain ⟨l, A, cap, h1, h2, h3, h4, h5⟩ := (Opens.call.slice (B := 96) Try.underlying22 (by kernel_rfl) (by kernel_rfl)).arg h hw
 simp [Value.cells] at h1
 obtain ⟨rfl, rfl, rfl⟩ := h1
 exact ⟨_, _, l, rfl, h3, h4, h2, by omega⟩
set_option maxRecDepth 20000 in
theorem open_ccall {spare : Nat → Bool} (hv : Value.okWide Try.prog W .any b 37 v) (h : DataW.Trod enc Try.prog W base spare held 37 v d p) (hw : ∀ n ∈ d.weights Try.prog 37, n ≤ reachBytes) :
 ∃ (C : Cl) (A : Option Addr) (c : Nat) (A2 : Option Addr) (c2 : Nat), v = .agg #[.int .i64 C.do_, .slice A C.shards.length c, .int .i64 C.shard, .bool C.keep, .int .u8 (C.which : Int), .int .i64 C.tx.node, .int .i64 C.tx.boot, .int .i64 C.tx.n, .slice A2 C.bytes.length c2] := by
 obtain ⟨cs, rfl, hsz⟩ := okWide_struct Try.underlying37 hv
 obtain ⟨C, A, c, A2, c2, h1, _⟩ := Opens.call.arg h hw
 refine ⟨C, A, c, A2, c2, ?_⟩
 simp only [Value.cells] at h1
 congr 1
 exact Array.toList_inj.1 (by simpa using h1)
end
end Go.Proofs.Ytijopcdjlpafdaa
