/- From an argument that can be read to what the walks are told of it. Conditions: the hypotheses of each theorem. From what can be read of a type (ints, bools, slices, structs) to what the walks are told of its cells. Conditions: the hypotheses of each theorem. From what can be read of a type to what the walks are told of its cells, where what is read is of bulk at most 1048576. Conditions: the hypotheses of each theorem. From what can be read to deeds. Conditions: the hypotheses of each theorem. From what can be read to deeds and users. Conditions: the hypotheses of each theorem. From what can be read to deeds and users, where what is read is of bulk at most 1048576. Conditions: the hypotheses of each theorem. -/
import Derived.Test.YthlppbbejdeeoaaGreatDoorRows
import Derived.Test.YthlppbbejdeeoaaGreatDoorC0
import Derived.ProofKit
import Derived.OpenShut
import Derived.ShutString
import Derived.ChangeOld
import Derived.SizedLaws
import Derived.JoinedCond
import Derived.Deep.CondSized
import Derived.Carry
import Derived.Test.YthlppbbejdeeoaaGreatDoorC1
import Derived.Deep.Slices
import Derived.Test.YthlppbbejdeeoaaGreatDoorC6
import Derived.Test.YthlppbbejdeeoaaGreatDoorC12
import Derived.Test.YthlppbbejdeeoaaGreatDoorC8
namespace Go.Proofs.YthlppbbejdeeoaaGreatDoor
open Go.ChangeShapes Go.WideShapes Go.ChangeAt Go.RowKit
open Go.ChangeMaps (open_string shut_string)
/-! ## from an argument that can be read to what the walks are told of it -/
theorem row_own : ownKnob Tryz.prog.godebug = none := by kernel_rfl
theorem row_laid : laidOutB Tryz.prog = true := by kernel_rfl
theorem bulk_le {H : Type} {d : DataW H} {l : List (DataW H)} (h : d ∈ l) : Rows.uptoBulk d ≤ Rows.uptoBulkAll l := by
 induction l with
 | nil => cases h
 | cons x r ih =>
  simp only [Rows.uptoBulkAll]
  cases List.mem_cons.1 h with
  | inl e => subst e; omega
  | inr e => have := ih e; omega
theorem bulk_pos {H : Type} (d : DataW H) : 1 ≤ Rows.uptoBulk d := by
 cases d with
 | lit l => cases l <;> simp [Rows.uptoBulk]
 | nil => simp [Rows.uptoBulk]
 | ptr d => simp [Rows.uptoBulk]
 | slice elems spare => simp [Rows.uptoBulk]
 | agg parts => simp [Rows.uptoBulk]
 | iface t d => simp [Rows.uptoBulk]
 | map entries => simp [Rows.uptoBulk]
 | held h => simp [Rows.uptoBulk]
theorem bulk_len {H : Type} (l : List (DataW H)) : l.length ≤ Rows.uptoBulkAll l := by
 induction l with
 | nil => simp [Rows.uptoBulkAll]
 | cons x r ih => have := bulk_pos x; simp only [Rows.uptoBulkAll, List.length_cons]; omega
def toB (z : Int) : UInt8 := UInt8.ofNat z.toNat
theorem toB_val {z : Int} (h : (Lit.int .u8 z).wf = true) : ((toB z).toNat : Int) = z := by
 have h1 := bounds_u8 h
 unfold toB
 rw [UInt8.toNat_ofNat']
 omega
section
variable {H : Type} {enc : TypeId × Value → H} {W : World} {base b : Nat} {held : Bool} {v : Value} {d : DataW H} {p : List MemPlace}
end
end Go.Proofs.YthlppbbejdeeoaaGreatDoor
namespace Go.Proofs.YthlppbbejdeeoaaGreatDoor
open Go.ChangeShapes Go.WideShapes Go.ChangeAt Go.RowKit Go.Deep
/-- what reads as type t has s cells, and says some a -/
def Opens {α : Type} (t s : Nat) (R : Reading α) : Prop :=
 ∀ (H : Type) (enc : TypeId × Value → H) (W : World) (base : Nat) (spare : Nat → Bool) (held : Bool) (fuel : Nat) (cs : List Value) (x : DataW H × List MemPlace),
  DataW.trod enc Tryz.prog W base spare held fuel t cs = some x → (∀ n ∈ x.1.weights Tryz.prog t, n ≤ reachBytes) → cs.length = s ∧ ∃ a, R.says [] W cs a
section
variable {H : Type} {P : Program}
theorem weightsAll_mem' {e : TypeId} : ∀ {l : List (DataW H)} {d : DataW H}, d ∈ l → ∀ n ∈ d.weights P e, n ∈ DataW.weightsAll P e l
 | d' :: r, d, hd, n, hn => by
  simp only [DataW.weightsAll, List.mem_append]
  rcases List.mem_cons.1 hd with rfl | h
  ·exact Or.inl hn
  ·exact Or.inr (weightsAll_mem' h n hn)
theorem weights_struct_at {t : TypeId} {fs : Array Field} (ht : P.underlying t = some (.struct fs)) {parts : List (DataW H)} {r : Nat} (hw : ∀ n ∈ (DataW.agg parts).weights P t, n ≤ r) (j : Nat) {f : Field} {d : DataW H} (hf : fs[j]? = some f) (hd : parts[j]? = some d) :
 ∀ n ∈ d.weights P f.type, n ≤ r := fun n hn => by
 refine hw n ?_
 simp only [DataW.weights, ht]
 exact DataW.weights_mem_each (j := j) (t := f.type) (by simp [hf]) hd n hn
theorem weights_slice_at {t e : TypeId} (ht : P.underlying t = some (.slice e)) {elems spare : List (DataW H)} {r : Nat} (hw : ∀ n ∈ (DataW.slice elems spare).weights P t, n ≤ r) {d : DataW H} (hd : d ∈ elems) : ∀ n ∈ d.weights P e, n ≤ r := fun n hn => by
 refine hw n ?_
 simp only [DataW.weights, ht, List.mem_cons, List.mem_append]
 exact .inr (.inl (weightsAll_mem' hd n hn))
theorem weights_slice_len {t e : TypeId} (ht : P.underlying t = some (.slice e)) {elems spare : List (DataW H)} {r : Nat} (hw : ∀ n ∈ (DataW.slice elems spare).weights P t, n ≤ r) : elems.length * P.bytesOf e ≤ r := by
 have := hw ((elems.length + spare.length) * P.bytesOf e) (by simp [DataW.weights, ht])
 have h2 : elems.length * P.bytesOf e ≤ (elems.length + spare.length) * P.bytesOf e := Nat.mul_le_mul_right _ (by omega)
 omega
end
def RInt : Reading Int where
 says _ _ cs z := cs = [.int .i64 z] ∧ (Lit.int .i64 z).wf = true
 kept := fun h _ => h
 old := fun h _ => h
def RBool : Reading Bool where
 says _ _ cs z := cs = [.bool z]
 kept := fun h _ => h
 old := fun h _ => h
def RB : Reading UInt8 where
 says _ _ cs z := cs = [.int .u8 (z.toNat : Int)]
 kept := fun h _ => h
 old := fun h _ => h
/-- a slice of elements of s cells and B bytes -/
def RSl {α : Type} (R : Reading α) (s B : Nat) : Reading (List α) where
 says M w cs xs := ∃ A cap, cs = [.slice A xs.length cap] ∧ RsM R s M w A xs ∧ xs.length ≤ cap ∧ cap ≤ 9223372036854775807 ∧ xs.length * B ≤ 140737488351232
 kept := by
  rintro M w w' cs x ⟨A, cap, h1, h2, h3⟩ hx
  exact ⟨A, cap, h1, h2.kept hx, h3⟩
 old := by
  rintro M N w cs x ⟨A, cap, h1, h2, h3⟩ hx
  exact ⟨A, cap, h1, h2.old hx, h3⟩
def RStr : Reading (List UInt8) where
 says _ _ cs z := cs = [.string (⟨z.toArray⟩ : ByteArray)] ∧ z.length ≤ 140737488351232
 kept := fun h _ => h
 old := fun h _ => h
theorem Opens.int {t : Nat} (h : Tryz.prog.underlying t = some (.int .i64)) : Opens t 1 RInt := fun H enc W base spare held fuel cs x hx _ => by
 obtain ⟨n, rfl, _, hw⟩ := DataW.trod_int h hx
 exact ⟨rfl, n, rfl, hw⟩
theorem Opens.u8 {t : Nat} (h : Tryz.prog.underlying t = some (.int .u8)) : Opens t 1 RB := fun H enc W base spare held fuel cs x hx _ => by
 obtain ⟨n, rfl, _, hw⟩ := DataW.trod_int h hx
 exact ⟨rfl, toB n, by simp only [RB]; rw [toB_val hw]⟩
theorem Opens.bool {t : Nat} (h : Tryz.prog.underlying t = some .bool) : Opens t 1 RBool := fun H enc W base spare held fuel cs x hx _ => by
 obtain ⟨b, rfl, _⟩ := DataW.trod_bool h hx
 exact ⟨rfl, b, rfl⟩
theorem Opens.str {t : Nat} (h : Tryz.prog.underlying t = some .string) : Opens t 1 RStr := fun H enc W base spare held fuel cs x hx hw => by
 obtain ⟨s, rfl, rfl, _⟩ := DataW.trod_string h hx
 have hl : s.data.toList.length = s.size := by unfold ByteArray.size; simp
 have hwt := hw s.data.toList.length (by simp [DataW.weights])
 simp only [reachBytes] at hwt
 exact ⟨rfl, s.data.toList, by simp, by omega⟩
theorem Opens.slice {α : Type} {t e s B : Nat} {R : Reading α} (h : Opens e s R) (ht : Tryz.prog.underlying t = some (.slice e)) (hs : Tryz.prog.cellsOf e = s) (hB : Tryz.prog.bytesOf e = B) : Opens t 1 (RSl R s B) := fun H enc W base spare held fuel cs x hx hw => by
 subst hs hB
 rcases open_slice ht hx with ⟨rfl, rfl⟩ | ⟨a, len, cap, m, n, D, Pl, rfl, hb, hl, hm, hmm, rfl, hi⟩
 ·exact ⟨rfl, [], none, 0, rfl, RsM.nil _ _ _ _ _, by simp, by simp, by simp⟩
 ·refine ⟨rfl, ?_⟩
  have hlm : len ≤ m := by rw [hmm]; split <;> omega
  have key : ∀ i, i < len → ∃ (cs' : List Value) (z : α), cs'.length = Tryz.prog.cellsOf e ∧ (∀ (j : Nat) (v : Value), cs'[j]? = some v → W.cell? (a.add (i * Tryz.prog.cellsOf e + j)) = some v) ∧ R.says [] W cs' z := by
   intro i hil
   obtain ⟨cs', hc, ht'⟩ := hi i (by omega)
   obtain ⟨_, hcl, hat⟩ := World.cells?_some hc
   have hd : D i ∈ (List.range len).map D := List.mem_map.2 ⟨i, by simpa using hil, rfl⟩
   obtain ⟨h1, z, hz⟩ := h H enc W base spare held n cs' _ ht' (weights_slice_at ht hw hd)
   refine ⟨cs', z, h1, fun j v hv => ?_, hz⟩
   have hj : j < Tryz.prog.cellsOf e := by rw [← h1]; exact (List.getElem?_eq_some_iff.1 hv).1
   rw [← add_add, hat j hj]
   exact hv
  have hlist : ∀ k, k ≤ len → ∃ (css : List (List Value)) (xs : List α), css.length = k ∧ xs.length = k ∧ (∀ c ∈ css, c.length = Tryz.prog.cellsOf e) ∧
   (∀ (i : Nat) (c : List Value), css[i]? = some c → ∀ (j : Nat) (v : Value), c[j]? = some v → W.cell? (a.add (i * Tryz.prog.cellsOf e + j)) = some v) ∧
   ∀ (i : Nat) (c : List Value) (z : α), css[i]? = some c → xs[i]? = some z → R.says [] W c z := by
   intro k
   induction k with
   | zero => exact fun _ => ⟨[], [], rfl, rfl, by simp, by simp, by simp⟩
   | succ k ih =>
    intro hk
    obtain ⟨css, xs, g1, g2, g3, g4, g5⟩ := ih (by omega)
    obtain ⟨c, z, q1, q2, q3⟩ := key k (by omega)
    refine ⟨css ++ [c], xs ++ [z], by simp [g1], by simp [g2], ?_, ?_, ?_⟩
    ·intro c' hc'
     rcases List.mem_append.1 hc' with h | h
     ·exact g3 c' h
     ·simp at h; subst h; exact q1
    ·intro i c' hc'
     rw [List.getElem?_append] at hc'
     split at hc'
     ·exact g4 i c' hc'
     ·have hi0 : i = css.length := by
       rcases Nat.lt_or_ge css.length i with h | h
       ·rw [List.getElem?_eq_none (by simp; omega)] at hc'; cases hc'
       ·omega
      subst hi0
      simp at hc'
      subst hc'
      rw [g1]
      exact q2
    ·intro i c' z' hc' hz'
     rw [List.getElem?_append] at hc' hz'
     rw [g1] at hc'
     rw [g2] at hz'
     split at hc'
     ·rename_i hlt
      rw [if_pos hlt] at hz'
      exact g5 i c' z' hc' hz'
     ·rename_i hge
      rw [if_neg hge] at hz'
      have hi0 : i = k := by
       rcases Nat.lt_or_ge k i with h | h
       ·rw [List.getElem?_eq_none (by simp; omega)] at hc'; cases hc'
       ·omega
      subst hi0
      simp at hc' hz'
      subst hc' hz'
      exact q3
  obtain ⟨css, xs, g1, g2, g3, g4, g5⟩ := hlist len (Nat.le_refl _)
  refine ⟨xs, some a, cap, by rw [g2], ⟨css, by rw [g1, g2], g3, ?_, g5⟩, by rw [g2]; exact hl, hm, ?_⟩
  ·intro i v hv
   have hi' : i < css.flatten.length := (List.getElem?_eq_some_iff.1 hv).1
   rw [flatten_length g3] at hi'
   rcases Nat.eq_zero_or_pos (Tryz.prog.cellsOf e) with h0 | h0
   ·rw [h0] at hi'; omega
   ·have hk : i / Tryz.prog.cellsOf e < css.length := Nat.div_lt_of_lt_mul (by rwa [Nat.mul_comm])
    have hj := Nat.mod_lt i h0
    have hv2 := flatten_get g3 (i / Tryz.prog.cellsOf e) (i % Tryz.prog.cellsOf e) _ (List.getElem?_eq_getElem hk) hj
    rw [Nat.div_add_mod' i (Tryz.prog.cellsOf e), hv] at hv2
    refine ⟨a, rfl, by simp, ?_⟩
    have := g4 _ _ (List.getElem?_eq_getElem hk) (i % Tryz.prog.cellsOf e) v hv2.symm
    rwa [Nat.div_add_mod' i (Tryz.prog.cellsOf e)] at this
  ·have := weights_slice_len ht hw
   simp only [List.length_map, List.length_range, reachBytes] at this
   rw [g2]
   exact this
theorem RsM.bytes {M : List Nat} {w : World} {A : Option Addr} {l : List UInt8} (h : RsM RB 1 M w A l) : BsM M w A l := by
 intro k v hk
 have hk' : k < l.length := by
  have := (List.getElem?_eq_some_iff.1 hk).1
  simpa using this
 obtain ⟨ad, cs, e, hn, _, hc, hs⟩ := h.at_ (by omega) hk'
 refine ⟨ad, e, hn, ?_⟩
 rw [bv_get hk'] at hk
 cases hk
 have := hc 0 (.int .u8 (l[k].toNat : Int)) (by rw [show cs = _ from hs]; rfl)
 simpa using this
/-- a struct: one of its fields -/
theorem struct_field {H : Type} {enc : TypeId × Value → H} {W : World} {base : Nat} {spare : Nat → Bool} {held : Bool} {fuel : Nat} {cs : List Value} {x : DataW H × List MemPlace} {t : Nat} {fs : Array Field} (ht : Tryz.prog.underlying t = some (.struct fs))
 (hx : DataW.trod enc Tryz.prog W base spare held fuel t cs = some x) (hw : ∀ n ∈ x.1.weights Tryz.prog t, n ≤ reachBytes) (j : Nat) {f : Field} (hf : fs[j]? = some f) {α : Type} {s : Nat} {R : Reading α} (ho : Opens f.type s R) (hs : Tryz.prog.cellsOf f.type = s) :
 ∃ a, R.says [] W ((cs.drop f.offset).take s) a := by
 subst hs
 obtain ⟨xs, n, rfl, rfl, hl, hxl, hg⟩ := DataW.trod_struct ht hx
 have h1 := hg j f hf
 have hj : j < xs.length := by rw [hxl]; exact (Array.getElem?_eq_some_iff.1 hf).1
 rw [List.getElem?_eq_getElem hj] at h1
 exact (ho H enc W base spare held n _ _ h1 (weights_struct_at ht hw j hf (by simp [List.getElem?_eq_getElem hj]))).2
theorem struct_len {H : Type} {enc : TypeId × Value → H} {W : World} {base : Nat} {spare : Nat → Bool} {held : Bool} {fuel : Nat} {cs : List Value} {x : DataW H × List MemPlace} {t : Nat} {fs : Array Field} (ht : Tryz.prog.underlying t = some (.struct fs))
 (hx : DataW.trod enc Tryz.prog W base spare held fuel t cs = some x) : cs.length = Tryz.prog.cellsOf t := by
 obtain ⟨xs, n, _, _, hl, _⟩ := DataW.trod_struct ht hx
 exact hl
theorem Opens.bytes : Opens 22 1 (RSl RB 1 1) := (Opens.u8 Tryz.underlying5).slice Tryz.underlying22 (by kernel_rfl) (by kernel_rfl)
/-- from an argument to its cells -/
theorem Opens.arg {α : Type} {t s : Nat} {R : Reading α} (h : Opens t s R) {H : Type} {enc : TypeId × Value → H} {W : World} {base : Nat} {spare : Nat → Bool} {held : Bool} {v : Value} {d : DataW H} {p : List MemPlace}
 (hd : DataW.Trod enc Tryz.prog W base spare held t v d p) (hw : ∀ n ∈ d.weights Tryz.prog t, n ≤ reachBytes) : ∃ a, R.says [] W v.cells.toList a := by
 obtain ⟨fuel, hf⟩ := hd
 exact (h H enc W base spare held fuel _ _ hf hw).2
end Go.Proofs.YthlppbbejdeeoaaGreatDoor
namespace Go.Proofs.YthlppbbejdeeoaaGreatDoor
open Go.ChangeShapes Go.WideShapes Go.ChangeAt Go.RowKit Go.Deep
def OpensB {α : Type} (t s : Nat) (R : Reading α) : Prop :=
 ∀ (H : Type) (enc : TypeId × Value → H) (W : World) (base : Nat) (spare : Nat → Bool) (held : Bool) (fuel : Nat) (cs : List Value) (x : DataW H × List MemPlace),
  DataW.trod enc Tryz.prog W base spare held fuel t cs = some x → Rows.uptoBulk x.1 ≤ 1048576 → cs.length = s ∧ ∃ a, R.says [] W cs a
def RStrB : Reading (List UInt8) where
 says _ _ cs z := cs = [.string (⟨z.toArray⟩ : ByteArray)] ∧ z.length ≤ 1048576
 kept := fun h _ => h
 old := fun h _ => h
def RSlB {α : Type} (R : Reading α) (s : Nat) : Reading (List α) where
 says M w cs xs := ∃ A cap, cs = [.slice A xs.length cap] ∧ RsM R s M w A xs ∧ xs.length ≤ cap ∧ cap ≤ 9223372036854775807 ∧ xs.length ≤ 1048576
 kept := by
  rintro M w w' cs x ⟨A, cap, h1, h2, h3⟩ hx
  exact ⟨A, cap, h1, h2.kept hx, h3⟩
 old := by
  rintro M N w cs x ⟨A, cap, h1, h2, h3⟩ hx
  exact ⟨A, cap, h1, h2.old hx, h3⟩
theorem OpensB.int {t : Nat} (h : Tryz.prog.underlying t = some (.int .i64)) : OpensB t 1 RInt := fun H enc W base spare held fuel cs x hx _ => by
 obtain ⟨n, rfl, _, hw⟩ := DataW.trod_int h hx
 exact ⟨rfl, n, rfl, hw⟩
theorem OpensB.u8 {t : Nat} (h : Tryz.prog.underlying t = some (.int .u8)) : OpensB t 1 RB := fun H enc W base spare held fuel cs x hx _ => by
 obtain ⟨n, rfl, _, hw⟩ := DataW.trod_int h hx
 exact ⟨rfl, toB n, by simp only [RB]; rw [toB_val hw]⟩
theorem OpensB.str {t : Nat} (h : Tryz.prog.underlying t = some .string) : OpensB t 1 RStrB := fun H enc W base spare held fuel cs x hx hw => by
 obtain ⟨s, rfl, rfl, _⟩ := DataW.trod_string h hx
 simp only [Rows.uptoBulk] at hw
 exact ⟨rfl, s.data.toList, by simp, by omega⟩
theorem OpensB.slice {α : Type} {t e s : Nat} {R : Reading α} (h : OpensB e s R) (ht : Tryz.prog.underlying t = some (.slice e)) (hs : Tryz.prog.cellsOf e = s) : OpensB t 1 (RSlB R s) := fun H enc W base spare held fuel cs x hx hw => by
 subst hs
 rcases open_slice ht hx with ⟨rfl, rfl⟩ | ⟨a, len, cap, m, n, D, Pl, rfl, hb, hl, hm, hmm, rfl, hi⟩
 ·exact ⟨rfl, [], none, 0, rfl, RsM.nil _ _ _ _ _, by simp, by simp, by simp⟩
 ·refine ⟨rfl, ?_⟩
  have hlm : len ≤ m := by rw [hmm]; split <;> omega
  simp only [Rows.uptoBulk] at hw
  have hlen : len ≤ 1048576 := by
   have := bulk_len ((List.range len).map D)
   simp only [List.length_map, List.length_range] at this
   omega
  have key : ∀ i, i < len → ∃ (cs' : List Value) (z : α), cs'.length = Tryz.prog.cellsOf e ∧ (∀ (j : Nat) (v : Value), cs'[j]? = some v → W.cell? (a.add (i * Tryz.prog.cellsOf e + j)) = some v) ∧ R.says [] W cs' z := by
   intro i hil
   obtain ⟨cs', hc, ht'⟩ := hi i (by omega)
   obtain ⟨_, hcl, hat⟩ := World.cells?_some hc
   have hd : D i ∈ (List.range len).map D := List.mem_map.2 ⟨i, by simpa using hil, rfl⟩
   obtain ⟨h1, z, hz⟩ := h H enc W base spare held n cs' _ ht' (by have := bulk_le hd; simp only; omega)
   refine ⟨cs', z, h1, fun j v hv => ?_, hz⟩
   have hj : j < Tryz.prog.cellsOf e := by rw [← h1]; exact (List.getElem?_eq_some_iff.1 hv).1
   rw [← add_add, hat j hj]
   exact hv
  have hlist : ∀ k, k ≤ len → ∃ (css : List (List Value)) (xs : List α), css.length = k ∧ xs.length = k ∧ (∀ c ∈ css, c.length = Tryz.prog.cellsOf e) ∧
   (∀ (i : Nat) (c : List Value), css[i]? = some c → ∀ (j : Nat) (v : Value), c[j]? = some v → W.cell? (a.add (i * Tryz.prog.cellsOf e + j)) = some v) ∧
   ∀ (i : Nat) (c : List Value) (z : α), css[i]? = some c → xs[i]? = some z → R.says [] W c z := by
   intro k
   induction k with
   | zero => exact fun _ => ⟨[], [], rfl, rfl, by simp, by simp, by simp⟩
   | succ k ih =>
    intro hk
    obtain ⟨css, xs, g1, g2, g3, g4, g5⟩ := ih (by omega)
    obtain ⟨c, z, q1, q2, q3⟩ := key k (by omega)
    refine ⟨css ++ [c], xs ++ [z], by simp [g1], by simp [g2], ?_, ?_, ?_⟩
    ·intro c' hc'
     rcases List.mem_append.1 hc' with h | h
     ·exact g3 c' h
     ·simp at h; subst h; exact q1
    ·intro i c' hc'
     rw [List.getElem?_append] at hc'
     split at hc'
     ·exact g4 i c' hc'
     ·have hi0 : i = css.length := by
       rcases Nat.lt_or_ge css.length i with h | h
       ·rw [List.getElem?_eq_none (by simp; omega)] at hc'; cases hc'
       ·omega
      subst hi0
      simp at hc'
      subst hc'
      rw [g1]
      exact q2
    ·intro i c' z' hc' hz'
     rw [List.getElem?_append] at hc' hz'
     rw [g1] at hc'
     rw [g2] at hz'
     split at hc'
     ·rename_i hlt
      rw [if_pos hlt] at hz'
      exact g5 i c' z' hc' hz'
     ·rename_i hge
      rw [if_neg hge] at hz'
      have hi0 : i = k := by
       rcases Nat.lt_or_ge k i with h | h
       ·rw [List.getElem?_eq_none (by simp; omega)] at hc'; cases hc'
       ·omega
      subst hi0
      simp at hc' hz'
      subst hc' hz'
      exact q3
  obtain ⟨css, xs, g1, g2, g3, g4, g5⟩ := hlist len (Nat.le_refl _)
  refine ⟨xs, some a, cap, by rw [g2], ⟨css, by rw [g1, g2], g3, ?_, g5⟩, by rw [g2]; exact hl, hm, by rw [g2]; exact hlen⟩
  intro i v hv
  have hi' : i < css.flatten.length := (List.getElem?_eq_some_iff.1 hv).1
  rw [flatten_length g3] at hi'
  rcases Nat.eq_zero_or_pos (Tryz.prog.cellsOf e) with h0 | h0
  ·rw [h0] at hi'; omega
  ·have hk : i / Tryz.prog.cellsOf e < css.length := Nat.div_lt_of_lt_mul (by rwa [Nat.mul_comm])
   have hj := Nat.mod_lt i h0
   have hv2 := flatten_get g3 (i / Tryz.prog.cellsOf e) (i % Tryz.prog.cellsOf e) _ (List.getElem?_eq_getElem hk) hj
   rw [Nat.div_add_mod' i (Tryz.prog.cellsOf e), hv] at hv2
   refine ⟨a, rfl, by simp, ?_⟩
   have := g4 _ _ (List.getElem?_eq_getElem hk) (i % Tryz.prog.cellsOf e) v hv2.symm
   rwa [Nat.div_add_mod' i (Tryz.prog.cellsOf e)] at this
theorem struct_fieldB {H : Type} {enc : TypeId × Value → H} {W : World} {base : Nat} {spare : Nat → Bool} {held : Bool} {fuel : Nat} {cs : List Value} {x : DataW H × List MemPlace} {t : Nat} {fs : Array Field} (ht : Tryz.prog.underlying t = some (.struct fs))
 (hx : DataW.trod enc Tryz.prog W base spare held fuel t cs = some x) (hw : Rows.uptoBulk x.1 ≤ 1048576) (j : Nat) {f : Field} (hf : fs[j]? = some f) {α : Type} {s : Nat} {R : Reading α} (ho : OpensB f.type s R) (hs : Tryz.prog.cellsOf f.type = s) :
 ∃ a, R.says [] W ((cs.drop f.offset).take s) a := by
 subst hs
 obtain ⟨xs, n, rfl, rfl, hl, hxl, hg⟩ := DataW.trod_struct ht hx
 have h1 := hg j f hf
 have hj : j < xs.length := by rw [hxl]; exact (Array.getElem?_eq_some_iff.1 hf).1
 rw [List.getElem?_eq_getElem hj] at h1
 simp only [Rows.uptoBulk] at hw
 have hm : xs[j].1 ∈ xs.map (·.1) := List.mem_map.2 ⟨xs[j], List.getElem_mem hj, rfl⟩
 exact (ho H enc W base spare held n _ _ h1 (by have := bulk_le hm; omega)).2
set_option maxRecDepth 20000 in
theorem OpensB.bytes : OpensB 22 1 (RSlB RB 1) := (OpensB.u8 Tryz.underlying5).slice Tryz.underlying22 (by kernel_rfl)
theorem OpensB.arg {α : Type} {t s : Nat} {R : Reading α} (h : OpensB t s R) {H : Type} {enc : TypeId × Value → H} {W : World} {base : Nat} {spare : Nat → Bool} {held : Bool} {v : Value} {d : DataW H} {p : List MemPlace}
 (hd : DataW.Trod enc Tryz.prog W base spare held t v d p) (hw : Rows.uptoBulk d ≤ 1048576) : ∃ a, R.says [] W v.cells.toList a := by
 obtain ⟨fuel, hf⟩ := hd
 exact (h H enc W base spare held fuel _ _ hf hw).2
end Go.Proofs.YthlppbbejdeeoaaGreatDoor
namespace Go.Proofs.YthlppbbejdeeoaaGreatDoor
open Go.ChangeShapes Go.WideShapes Go.ChangeAt Go.RowKit Go.Deep
set_option maxRecDepth 20000 in
theorem Opens.deed : Opens 90 10 RDd := fun H enc W base spare held fuel cs x hx hw => by
 have hl := struct_len Tryz.underlying90 hx
 have hC : Tryz.prog.cellsOf 90 = 10 := by kernel_rfl
 rw [hC] at hl
 obtain ⟨a0, h0⟩ := struct_field Tryz.underlying90 hx hw 0 rfl (Opens.int Tryz.underlying88) (by kernel_rfl)
 obtain ⟨a1, h1⟩ := struct_field Tryz.underlying90 hx hw 1 rfl (Opens.str Tryz.underlying9) (by kernel_rfl)
 obtain ⟨a2, h2⟩ := struct_field Tryz.underlying90 hx hw 2 rfl (Opens.str Tryz.underlying9) (by kernel_rfl)
 obtain ⟨a3, h3⟩ := struct_field Tryz.underlying90 hx hw 3 rfl (Opens.str Tryz.underlying9) (by kernel_rfl)
 obtain ⟨a4, h4⟩ := struct_field Tryz.underlying90 hx hw 4 rfl (Opens.int Tryz.underlying3) (by kernel_rfl)
 obtain ⟨a5, h5⟩ := struct_field Tryz.underlying90 hx hw 5 rfl (Opens.int Tryz.underlying3) (by kernel_rfl)
 obtain ⟨a6, h6⟩ := struct_field Tryz.underlying90 hx hw 6 rfl (Opens.u8 Tryz.underlying5) (by kernel_rfl)
 obtain ⟨a7, h7⟩ := struct_field Tryz.underlying90 hx hw 7 rfl (Opens.int Tryz.underlying3) (by kernel_rfl)
 obtain ⟨a8, h8⟩ := struct_field Tryz.underlying90 hx hw 8 rfl (Opens.int Tryz.underlying3) (by kernel_rfl)
 obtain ⟨a9, A9, c9, h9, g1, g2, g3, g4⟩ := struct_field Tryz.underlying90 hx hw 9 rfl Opens.bytes (by kernel_rfl)
 match cs, hl with
 | [c0, c1, c2, c3, c4, c5, c6, c7, c8, c9'], _ =>
  have e0 : c0 = .int .i64 a0 := by simpa [RInt] using h0.1
  have e1 : c1 = .string (st a1) := by simpa [RStr, st] using h1.1
  have e2 : c2 = .string (st a2) := by simpa [RStr, st] using h2.1
  have e3 : c3 = .string (st a3) := by simpa [RStr, st] using h3.1
  have e4 : c4 = .int .i64 a4 := by simpa [RInt] using h4.1
  have e5 : c5 = .int .i64 a5 := by simpa [RInt] using h5.1
  have e6 : c6 = .int .u8 (a6.toNat : Int) := by simpa [RB] using h6
  have e7 : c7 = .int .i64 a7 := by simpa [RInt] using h7.1
  have e8 : c8 = .int .i64 a8 := by simpa [RInt] using h8.1
  have e9 : c9' = .slice A9 a9.length c9 := by simpa using h9
  subst e0 e1 e2 e3 e4 e5 e6 e7 e8 e9
  exact ⟨rfl, ⟨a0, a1, a2, a3, a4, a5, a6, a7, a8, a9⟩, A9, c9, rfl, g1.bytes, g2, by simpa using g4, h1.2, h2.2, h3.2⟩
section
variable {H : Type} {enc : TypeId × Value → H} {W : World} {base b : Nat} {held : Bool} {v : Value} {d : DataW H} {p : List MemPlace}
end
end Go.Proofs.YthlppbbejdeeoaaGreatDoor
namespace Go.Proofs.YthlppbbejdeeoaaGreatDoor
open Go.ChangeShapes Go.WideShapes Go.ChangeAt Go.RowKit Go.Deep
/-- a letter, and its bounds -/
def RLt2 : Reading Lt where
 says M w cs l := ∃ A cap, cs = (ltC l (.slice A l.bytes.length cap)).toList ∧ BsM M w A l.bytes ∧ l.bytes.length ≤ 140737488351232
 kept := by
  rintro M w w' cs x ⟨A, cap, h1, h2, h3⟩ hx
  exact ⟨A, cap, h1, h2.kept hx, h3⟩
 old := by
  rintro M N w cs x ⟨A, cap, h1, h2, h3⟩ hx
  exact ⟨A, cap, h1, SlM.old h2 hx, h3⟩
theorem RLt2.weak {M : List Nat} {w : World} {A : Option Addr} {ls : List Lt} (h : RsM RLt2 3 M w A ls) : RsM RLt 3 M w A ls := by
 obtain ⟨css, h1, h2, h3, h4⟩ := h
 exact ⟨css, h1, h2, h3, fun k cs x a b => by obtain ⟨A, c, q1, q2, _⟩ := h4 k cs x a b; exact ⟨A, c, q1, q2⟩⟩
/-- a box, and its bounds -/
def RBx2 : Reading Bx where
 says M w cs b := ∃ A cap, cs = (bxC b (.slice A b.letters.length cap)).toList ∧ RsM RLt2 3 M w A b.letters ∧ b.letters.length ≤ cap ∧ b.letters.length ≤ 140737488351232 ∧ b.name.length ≤ 140737488351232
 kept := by
  rintro M w w' cs x ⟨A, cap, h1, h2, h3⟩ hx
  exact ⟨A, cap, h1, h2.kept hx, h3⟩
 old := by
  rintro M N w cs x ⟨A, cap, h1, h2, h3⟩ hx
  exact ⟨A, cap, h1, h2.old hx, h3⟩
theorem RBx2.weak {M : List Nat} {w : World} {A : Option Addr} {bs : List Bx} (h : RsM RBx2 4 M w A bs) : RsM RBx 4 M w A bs := by
 obtain ⟨css, h1, h2, h3, h4⟩ := h
 exact ⟨css, h1, h2, h3, fun k cs x a b => by obtain ⟨A, c, q1, q2, _⟩ := h4 k cs x a b; exact ⟨A, c, q1, RLt2.weak q2⟩⟩
set_option maxRecDepth 20000 in
theorem Opens.letter : Opens 138 3 RLt2 := fun H enc W base spare held fuel cs x hx hw => by
 have hl := struct_len Tryz.underlying138 hx
 have hC : Tryz.prog.cellsOf 138 = 3 := by kernel_rfl
 rw [hC] at hl
 obtain ⟨a0, h0⟩ := struct_field Tryz.underlying138 hx hw 0 rfl (Opens.int Tryz.underlying3) (by kernel_rfl)
 obtain ⟨a1, h1⟩ := struct_field Tryz.underlying138 hx hw 1 rfl (Opens.u8 Tryz.underlying5) (by kernel_rfl)
 obtain ⟨a2, A2, c2, h2, g1, g2, g3, g4⟩ := struct_field Tryz.underlying138 hx hw 2 rfl Opens.bytes (by kernel_rfl)
 match cs, hl with
 | [c0, c1, c2'], _ =>
  have e0 : c0 = .int .i64 a0 := by simpa [RInt] using h0.1
  have e1 : c1 = .int .u8 (a1.toNat : Int) := by simpa [RB] using h1
  have e2 : c2' = .slice A2 a2.length c2 := by simpa using h2
  subst e0 e1 e2
  exact ⟨rfl, ⟨a0, a1, a2⟩, A2, c2, rfl, g1.bytes, by simpa using g4⟩
set_option maxRecDepth 20000 in
theorem Opens.box : Opens 136 4 RBx2 := fun H enc W base spare held fuel cs x hx hw => by
 have hl := struct_len Tryz.underlying136 hx
 have hC : Tryz.prog.cellsOf 136 = 4 := by kernel_rfl
 rw [hC] at hl
 obtain ⟨a0, h0⟩ := struct_field Tryz.underlying136 hx hw 0 rfl (Opens.str Tryz.underlying9) (by kernel_rfl)
 obtain ⟨a1, h1⟩ := struct_field Tryz.underlying136 hx hw 1 rfl (Opens.int Tryz.underlying3) (by kernel_rfl)
 obtain ⟨a2, h2⟩ := struct_field Tryz.underlying136 hx hw 2 rfl (Opens.int Tryz.underlying3) (by kernel_rfl)
 obtain ⟨a3, A3, c3, h3, g1, g2, g3, g4⟩ := struct_field Tryz.underlying136 hx hw 3 rfl (Opens.letter.slice (B := 40) Tryz.underlying134 (by kernel_rfl) (by kernel_rfl)) (by kernel_rfl)
 match cs, hl with
 | [c0, c1, c2, c3'], _ =>
  have e0 : c0 = .string (st a0) := by simpa [RStr, st] using h0.1
  have e1 : c1 = .int .i64 a1 := by simpa [RInt] using h1.1
  have e2 : c2 = .int .i64 a2 := by simpa [RInt] using h2.1
  have e3 : c3' = .slice A3 a3.length c3 := by simpa using h3
  subst e0 e1 e2 e3
  exact ⟨rfl, ⟨a0, a1, a2, a3⟩, A3, c3, rfl, g1, g2, (show a3.length ≤ 140737488351232 by omega), h0.2⟩
/-- a user's cells -/
def RUs : Reading Us where
 says M w cs u := ∃ A cap, cs = (usC u (.slice A u.boxes.length cap)).toList ∧ RsM RBx2 4 M w A u.boxes ∧ u.boxes.length ≤ cap ∧ u.boxes.length ≤ 140737488351232 ∧ u.name.length ≤ 140737488351232
 kept := by
  rintro M w w' cs x ⟨A, cap, h1, h2, h3⟩ hx
  exact ⟨A, cap, h1, h2.kept hx, h3⟩
 old := by
  rintro M N w cs x ⟨A, cap, h1, h2, h3⟩ hx
  exact ⟨A, cap, h1, h2.old hx, h3⟩
set_option maxRecDepth 20000 in
theorem Opens.user : Opens 116 3 RUs := fun H enc W base spare held fuel cs x hx hw => by
 have hl := struct_len Tryz.underlying116 hx
 have hC : Tryz.prog.cellsOf 116 = 3 := by kernel_rfl
 rw [hC] at hl
 obtain ⟨a0, h0⟩ := struct_field Tryz.underlying116 hx hw 0 rfl (Opens.str Tryz.underlying9) (by kernel_rfl)
 obtain ⟨a1, h1⟩ := struct_field Tryz.underlying116 hx hw 1 rfl (Opens.int Tryz.underlying3) (by kernel_rfl)
 obtain ⟨a3, A3, c3, h3, g1, g2, g3, g4⟩ := struct_field Tryz.underlying116 hx hw 2 rfl (Opens.box.slice (B := 56) Tryz.underlying114 (by kernel_rfl) (by kernel_rfl)) (by kernel_rfl)
 match cs, hl with
 | [c0, c1, c3'], _ =>
  have e0 : c0 = .string (st a0) := by simpa [RStr, st] using h0.1
  have e1 : c1 = .int .i64 a1 := by simpa [RInt] using h1.1
  have e3 : c3' = .slice A3 a3.length c3 := by simpa using h3
  subst e0 e1 e3
  exact ⟨rfl, ⟨a0, a1, a3⟩, A3, c3, rfl, g1, g2, (show a3.length ≤ 140737488351232 by omega), h0.2⟩
section
variable {H : Type} {enc : TypeId × Value → H} {W : World} {base b : Nat} {held : Bool} {v : Value} {d : DataW H} {p : List MemPlace}
end
end Go.Proofs.YthlppbbejdeeoaaGreatDoor
namespace Go.Proofs.YthlppbbejdeeoaaGreatDoor
open Go.ChangeShapes Go.WideShapes Go.ChangeAt Go.RowKit Go.Deep
structure SmD (d : Dd) : Prop where
 bytes : d.bytes.length ≤ 1048576
 user : d.user.length ≤ 1048576
 box : d.box.length ≤ 1048576
 dest : d.dest.length ≤ 1048576
def RDdB : Reading Dd where
 says M w cs d := ∃ A cap, cs = (ddC d (.slice A d.bytes.length cap)).toList ∧ BsM M w A d.bytes ∧ d.bytes.length ≤ cap ∧ SmD d
 kept := by
  rintro M w w' cs x ⟨A, cap, h1, h2, h3⟩ hx
  exact ⟨A, cap, h1, h2.kept hx, h3⟩
 old := by
  rintro M N w cs x ⟨A, cap, h1, h2, h3⟩ hx
  exact ⟨A, cap, h1, SlM.old h2 hx, h3⟩
theorem RDdB.weak {M : List Nat} {w : World} {A : Option Addr} {ds : List Dd} (h : RsM RDdB 10 M w A ds) : RsM RDd 10 M w A ds := by
 obtain ⟨css, h1, h2, h3, h4⟩ := h
 exact ⟨css, h1, h2, h3, fun k cs x a b => by
  obtain ⟨A, c, q1, q2, q3, q4⟩ := h4 k cs x a b
  exact ⟨A, c, q1, q2, q3, by have := q4.bytes; omega, by have := q4.user; omega, by have := q4.box; omega, by have := q4.dest; omega⟩⟩
theorem RDdB.small {M : List Nat} {w : World} {A : Option Addr} {ds : List Dd} (h : RsM RDdB 10 M w A ds) : ∀ d ∈ ds, SmD d := by
 intro d hd
 obtain ⟨k, hk, rfl⟩ := List.getElem_of_mem hd
 obtain ⟨_, _, _, _, _, _, _, _, _, _, _, h5⟩ := h.at_ (by omega) hk
 exact h5
set_option maxRecDepth 20000 in
theorem OpensB.deed : OpensB 90 10 RDdB := fun H enc W base spare held fuel cs x hx hw => by
 have hl := struct_len Tryz.underlying90 hx
 have hC : Tryz.prog.cellsOf 90 = 10 := by kernel_rfl
 rw [hC] at hl
 obtain ⟨a0, h0⟩ := struct_fieldB Tryz.underlying90 hx hw 0 rfl (OpensB.int Tryz.underlying88) (by kernel_rfl)
 obtain ⟨a1, h1⟩ := struct_fieldB Tryz.underlying90 hx hw 1 rfl (OpensB.str Tryz.underlying9) (by kernel_rfl)
 obtain ⟨a2, h2⟩ := struct_fieldB Tryz.underlying90 hx hw 2 rfl (OpensB.str Tryz.underlying9) (by kernel_rfl)
 obtain ⟨a3, h3⟩ := struct_fieldB Tryz.underlying90 hx hw 3 rfl (OpensB.str Tryz.underlying9) (by kernel_rfl)
 obtain ⟨a4, h4⟩ := struct_fieldB Tryz.underlying90 hx hw 4 rfl (OpensB.int Tryz.underlying3) (by kernel_rfl)
 obtain ⟨a5, h5⟩ := struct_fieldB Tryz.underlying90 hx hw 5 rfl (OpensB.int Tryz.underlying3) (by kernel_rfl)
 obtain ⟨a6, h6⟩ := struct_fieldB Tryz.underlying90 hx hw 6 rfl (OpensB.u8 Tryz.underlying5) (by kernel_rfl)
 obtain ⟨a7, h7⟩ := struct_fieldB Tryz.underlying90 hx hw 7 rfl (OpensB.int Tryz.underlying3) (by kernel_rfl)
 obtain ⟨a8, h8⟩ := struct_fieldB Tryz.underlying90 hx hw 8 rfl (OpensB.int Tryz.underlying3) (by kernel_rfl)
 obtain ⟨a9, A9, c9, h9, g1, g2, g3, g4⟩ := struct_fieldB Tryz.underlying90 hx hw 9 rfl OpensB.bytes (by kernel_rfl)
 match cs, hl with
 | [c0, c1, c2, c3, c4, c5, c6, c7, c8, c9'], _ =>
  have e0 : c0 = .int .i64 a0 := by simpa [RInt] using h0.1
  have e1 : c1 = .string (st a1) := by simpa [RStrB, st] using h1.1
  have e2 : c2 = .string (st a2) := by simpa [RStrB, st] using h2.1
  have e3 : c3 = .string (st a3) := by simpa [RStrB, st] using h3.1
  have e4 : c4 = .int .i64 a4 := by simpa [RInt] using h4.1
  have e5 : c5 = .int .i64 a5 := by simpa [RInt] using h5.1
  have e6 : c6 = .int .u8 (a6.toNat : Int) := by simpa [RB] using h6
  have e7 : c7 = .int .i64 a7 := by simpa [RInt] using h7.1
  have e8 : c8 = .int .i64 a8 := by simpa [RInt] using h8.1
  have e9 : c9' = .slice A9 a9.length c9 := by simpa using h9
  subst e0 e1 e2 e3 e4 e5 e6 e7 e8 e9
  exact ⟨rfl, ⟨a0, a1, a2, a3, a4, a5, a6, a7, a8, a9⟩, A9, c9, rfl, g1.bytes, g2, ⟨g4, h1.2, h2.2, h3.2⟩⟩
/-- a letter, and its bounds -/
def RLtB : Reading Lt where
 says M w cs l := ∃ A cap, cs = (ltC l (.slice A l.bytes.length cap)).toList ∧ BsM M w A l.bytes ∧ l.bytes.length ≤ 1048576
 kept := by
  rintro M w w' cs x ⟨A, cap, h1, h2, h3⟩ hx
  exact ⟨A, cap, h1, h2.kept hx, h3⟩
 old := by
  rintro M N w cs x ⟨A, cap, h1, h2, h3⟩ hx
  exact ⟨A, cap, h1, SlM.old h2 hx, h3⟩
theorem RLtB.weak {M : List Nat} {w : World} {A : Option Addr} {ls : List Lt} (h : RsM RLtB 3 M w A ls) : RsM RLt 3 M w A ls := by
 obtain ⟨css, h1, h2, h3, h4⟩ := h
 exact ⟨css, h1, h2, h3, fun k cs x a b => by obtain ⟨A, c, q1, q2, _⟩ := h4 k cs x a b; exact ⟨A, c, q1, q2⟩⟩
/-- a box, and its bounds -/
def RBxB : Reading Bx where
 says M w cs b := ∃ A cap, cs = (bxC b (.slice A b.letters.length cap)).toList ∧ RsM RLtB 3 M w A b.letters ∧ b.letters.length ≤ cap ∧ b.letters.length ≤ 1048576 ∧ b.name.length ≤ 1048576
 kept := by
  rintro M w w' cs x ⟨A, cap, h1, h2, h3⟩ hx
  exact ⟨A, cap, h1, h2.kept hx, h3⟩
 old := by
  rintro M N w cs x ⟨A, cap, h1, h2, h3⟩ hx
  exact ⟨A, cap, h1, h2.old hx, h3⟩
theorem RBxB.weak {M : List Nat} {w : World} {A : Option Addr} {bs : List Bx} (h : RsM RBxB 4 M w A bs) : RsM RBx 4 M w A bs := by
 obtain ⟨css, h1, h2, h3, h4⟩ := h
 exact ⟨css, h1, h2, h3, fun k cs x a b => by obtain ⟨A, c, q1, q2, _⟩ := h4 k cs x a b; exact ⟨A, c, q1, RLtB.weak q2⟩⟩
set_option maxRecDepth 20000 in
theorem OpensB.letter : OpensB 138 3 RLtB := fun H enc W base spare held fuel cs x hx hw => by
 have hl := struct_len Tryz.underlying138 hx
 have hC : Tryz.prog.cellsOf 138 = 3 := by kernel_rfl
 rw [hC] at hl
 obtain ⟨a0, h0⟩ := struct_fieldB Tryz.underlying138 hx hw 0 rfl (OpensB.int Tryz.underlying3) (by kernel_rfl)
 obtain ⟨a1, h1⟩ := struct_fieldB Tryz.underlying138 hx hw 1 rfl (OpensB.u8 Tryz.underlying5) (by kernel_rfl)
 obtain ⟨a2, A2, c2, h2, g1, g2, g3, g4⟩ := struct_fieldB Tryz.underlying138 hx hw 2 rfl OpensB.bytes (by kernel_rfl)
 match cs, hl with
 | [c0, c1, c2'], _ =>
  have e0 : c0 = .int .i64 a0 := by simpa [RInt] using h0.1
  have e1 : c1 = .int .u8 (a1.toNat : Int) := by simpa [RB] using h1
  have e2 : c2' = .slice A2 a2.length c2 := by simpa using h2
  subst e0 e1 e2
  exact ⟨rfl, ⟨a0, a1, a2⟩, A2, c2, rfl, g1.bytes, g4⟩
set_option maxRecDepth 20000 in
theorem OpensB.box : OpensB 136 4 RBxB := fun H enc W base spare held fuel cs x hx hw => by
 have hl := struct_len Tryz.underlying136 hx
 have hC : Tryz.prog.cellsOf 136 = 4 := by kernel_rfl
 rw [hC] at hl
 obtain ⟨a0, h0⟩ := struct_fieldB Tryz.underlying136 hx hw 0 rfl (OpensB.str Tryz.underlying9) (by kernel_rfl)
 obtain ⟨a1, h1⟩ := struct_fieldB Tryz.underlying136 hx hw 1 rfl (OpensB.int Tryz.underlying3) (by kernel_rfl)
 obtain ⟨a2, h2⟩ := struct_fieldB Tryz.underlying136 hx hw 2 rfl (OpensB.int Tryz.underlying3) (by kernel_rfl)
 obtain ⟨a3, A3, c3, h3, g1, g2, g3, g4⟩ := struct_fieldB Tryz.underlying136 hx hw 3 rfl (OpensB.letter.slice Tryz.underlying134 (by kernel_rfl)) (by kernel_rfl)
 match cs, hl with
 | [c0, c1, c2, c3'], _ =>
  have e0 : c0 = .string (st a0) := by simpa [RStrB, st] using h0.1
  have e1 : c1 = .int .i64 a1 := by simpa [RInt] using h1.1
  have e2 : c2 = .int .i64 a2 := by simpa [RInt] using h2.1
  have e3 : c3' = .slice A3 a3.length c3 := by simpa using h3
  subst e0 e1 e2 e3
  exact ⟨rfl, ⟨a0, a1, a2, a3⟩, A3, c3, rfl, g1, g2, g4, h0.2⟩
/-- a user's cells -/
def RUsB : Reading Us where
 says M w cs u := ∃ A cap, cs = (usC u (.slice A u.boxes.length cap)).toList ∧ RsM RBxB 4 M w A u.boxes ∧ u.boxes.length ≤ cap ∧ u.boxes.length ≤ 1048576 ∧ u.name.length ≤ 1048576
 kept := by
  rintro M w w' cs x ⟨A, cap, h1, h2, h3⟩ hx
  exact ⟨A, cap, h1, h2.kept hx, h3⟩
 old := by
  rintro M N w cs x ⟨A, cap, h1, h2, h3⟩ hx
  exact ⟨A, cap, h1, h2.old hx, h3⟩
set_option maxRecDepth 20000 in
theorem OpensB.user : OpensB 116 3 RUsB := fun H enc W base spare held fuel cs x hx hw => by
 have hl := struct_len Tryz.underlying116 hx
 have hC : Tryz.prog.cellsOf 116 = 3 := by kernel_rfl
 rw [hC] at hl
 obtain ⟨a0, h0⟩ := struct_fieldB Tryz.underlying116 hx hw 0 rfl (OpensB.str Tryz.underlying9) (by kernel_rfl)
 obtain ⟨a1, h1⟩ := struct_fieldB Tryz.underlying116 hx hw 1 rfl (OpensB.int Tryz.underlying3) (by kernel_rfl)
 obtain ⟨a3, A3, c3, h3, g1, g2, g3, g4⟩ := struct_fieldB Tryz.underlying116 hx hw 2 rfl (OpensB.box.slice Tryz.underlying114 (by kernel_rfl)) (by kernel_rfl)
 match cs, hl with
 | [c0, c1, c3'], _ =>
  have e0 : c0 = .string (st a0) := by simpa [RStrB, st] using h0.1
  have e1 : c1 = .int .i64 a1 := by simpa [RInt] using h1.1
  have e3 : c3' = .slice A3 a3.length c3 := by simpa using h3
  subst e0 e1 e3
  exact ⟨rfl, ⟨a0, a1, a3⟩, A3, c3, rfl, g1, g2, g4, h0.2⟩
section
variable {H : Type} {enc : TypeId × Value → H} {W : World} {base b : Nat} {held : Bool} {v : Value} {d : DataW H} {p : List MemPlace}
set_option maxRecDepth 20000 in
theorem open_bytesB {spare : Nat → Bool} (hv : Value.okWide Tryz.prog W .any b 22 v) (h : DataW.Trod enc Tryz.prog W base spare held 22 v d p) (hw : Rows.uptoBulk d ≤ 1048576) :
 ∃ (A : Option Addr) (cap : Nat) (l : By), v = .slice A l.length cap ∧ Bs W A l ∧ l.length ≤ cap ∧ l.length ≤ 1048576 := by
 obtain ⟨a0, len0, cap0, rfl⟩ := okWide_slice Tryz.underlying22 hv
 obtain ⟨l, A, cap, h1, h2, h3, h4, h5⟩ := OpensB.bytes.arg h hw
 simp [Value.cells] at h1
 obtain ⟨rfl, rfl, rfl⟩ := h1
 exact ⟨_, _, l, rfl, h2.bytes.bs, h3, h5⟩
end
end Go.Proofs.YthlppbbejdeeoaaGreatDoor
