/- From an argument that can be read to what the walks are told of it. Conditions: the hypotheses of each theorem. From what can be read of a type (ints, bools, slices, structs) to what the walks are told of its cells. Conditions: the hypotheses of each theorem. From what can be read of a type to what the walks are told of its cells, where what is read is of bulk at most 1048576. Conditions: the hypotheses of each theorem. From what can be read to deeds and users. Conditions: the hypotheses of each theorem. From what can be read to deeds and users, where what is read is of bulk at most 1048576. Conditions: the hypotheses of each theorem. For a card whose row lists unicode/utf8's two tables: a world that holds them, and what the list gives. Conditions: the hypotheses of each theorem. -/
import Derived.Test.YtameamfaaenboaaDoorRows
import Derived.Test.YtameamfaaenboaaDoorC0
import Derived.ProofKit
import Derived.OpenShut
import Derived.ShutString
import Derived.ChangeOld
import Derived.SizedLaws
import Derived.JoinedCond
import Derived.Deep.CondSized
import Derived.Carry
import Derived.Test.YtameamfaaenboaaDoorC1
import Derived.Deep.Slices
import Derived.Test.YtameamfaaenboaaDoorC6
import Derived.Test.YtameamfaaenboaaDoorC7
import Derived.Test.YtameamfaaenboaaDoorCards
import Derived.Test.YtameamfaaenboaaDoorTie
import Derived.Deep.DeepHandedRow
import Derived.Lib.LaidU8
namespace Go.Proofs.YtameamfaaenboaaDoor
open Go.ChangeShapes Go.WideShapes Go.ChangeAt Go.RowKit
open Go.ChangeMaps (open_string shut_string)
/-! ## from an argument that can be read to what the walks are told of it -/
theorem row_own : ownKnob Tryd.prog.godebug = none := by kernel_rfl
theorem row_laid : laidOutB Tryd.prog = true := by kernel_rfl
theorem bulk_le {H : Type} {d : DataW H} {l : List (DataW H)} (h : d ∈ l) : Rows.uptoBulk d ≤ Rows.uptoBulkAll l := by
  induction l with
  | nil => cases h
  | cons x r ih =>
    simp only [Rows.uptoBulkAll]
    cases List.mem_cons.1 h with
    | inl e => subst e; omega
    | inr e => have := ih e; omega
theorem bulk_pos {H : Type} (d : DataW H) : 1 ≤ Rows.uptoBulk d := by
  cases d with
  | lit l => cases l <;> simp [Rows.uptoBulk]
  | nil => simp [Rows.uptoBulk]
  | ptr d => simp [Rows.uptoBulk]
  | slice elems spare => simp [Rows.uptoBulk]
  | agg parts => simp [Rows.uptoBulk]
  | iface t d => simp [Rows.uptoBulk]
  | map entries => simp [Rows.uptoBulk]
  | held h => simp [Rows.uptoBulk]
theorem bulk_len {H : Type} (l : List (DataW H)) : l.length ≤ Rows.uptoBulkAll l := by
  induction l with
  | nil => simp [Rows.uptoBulkAll]
  | cons x r ih => have := bulk_pos x; simp only [Rows.uptoBulkAll, List.length_cons]; omega
theorem bulk_slice {H : Type} (elems spare : List (DataW H)) : elems.length + 1 ≤ Rows.uptoBulk (.slice elems spare) := by
  have h1 := bulk_len elems
  simp only [Rows.uptoBulk]
  omega
def toB (z : Int) : UInt8 := UInt8.ofNat z.toNat
theorem toB_val {z : Int} (h : (Lit.int .u8 z).wf = true) : ((toB z).toNat : Int) = z := by
  have h1 := bounds_u8 h
  unfold toB
  rw [UInt8.toNat_ofNat']
  omega
theorem weights_at {H : Type} {ts : List TypeId} {ds : List (DataW H)} (h : (DataW.weightsEach Tryd.prog ts ds).all (· ≤ reachBytes) = true) (j : Nat) {t : TypeId} {d : DataW H} (ht : ts[j]? = some t) (hd : ds[j]? = some d) :
    ∀ n ∈ d.weights Tryd.prog t, n ≤ reachBytes := fun n hn => by
  have := List.all_eq_true.1 h n (DataW.weights_mem_each ht hd n hn)
  simpa using this
section
variable {H : Type} {enc : TypeId × Value → H} {W : World} {base b : Nat} {held : Bool} {v : Value} {d : DataW H} {p : List MemPlace}
set_option maxRecDepth 20000 in
theorem open_bytes {spare : Nat → Bool} (hv : Value.okWide Tryd.prog W .any b 26 v) (h : DataW.Trod enc Tryd.prog W base spare held 26 v d p) (hw : ∀ n ∈ d.weights Tryd.prog 26, n ≤ reachBytes) :
    ∃ (A : Option Addr) (cap : Nat) (l : List UInt8), v = .slice A l.length cap ∧ l.length ≤ cap ∧ cap ≤ 9223372036854775807 ∧ Bs W A l ∧ l.length ≤ 140737488351232 ∧ l.length ≤ Rows.uptoBulk d := by
  obtain ⟨a0, len0, cap0, rfl⟩ := okWide_slice Tryd.underlying26 hv
  obtain ⟨fuel, hf⟩ := h
  rcases open_ints Tryd.underlying26 Tryd.underlying5 (by kernel_rfl) hf with ⟨hcs, _⟩ | ⟨x, l, c, zs, hcs, _, hl, hm, hz, hx, hcell, hwz⟩
  · simp [Value.cells] at hcs
    obtain ⟨rfl, rfl, rfl⟩ := hcs
    exact ⟨none, 0, [], rfl, by simp, by omega, Sl.nil _ _, by simp, by simp⟩
  · simp [Value.cells] at hcs
    obtain ⟨rfl, rfl, rfl⟩ := hcs
    have hlz : len0 ≤ zs.length := by rw [hz]; split <;> omega
    have hlen : ((zs.take len0).map toB).length = len0 := by simp; omega
    simp only [Prod.mk.injEq] at hx
    obtain ⟨rfl, _⟩ := hx
    have hwt := hw ((lits .u8 (zs.take len0) : List (DataW H)).length + (lits .u8 (zs.drop len0) : List (DataW H)).length |> (· * Tryd.prog.bytesOf 5)) (by simp [DataW.weights, Tryd.underlying26])
    have hb1 : Tryd.prog.bytesOf 5 = 1 := by kernel_rfl
    rw [hb1] at hwt
    simp only [lits, List.length_map, List.length_take, List.length_drop, reachBytes] at hwt
    refine ⟨some x, cap0, (zs.take len0).map toB, by rw [hlen], by omega, hm, ?_, by rw [hlen]; omega, ?_⟩
    · intro k u hk
      refine ⟨x, rfl, ?_⟩
      simp only [bv, List.map_map, List.getElem?_map, Option.map_eq_some_iff] at hk
      obtain ⟨z, hz1, rfl⟩ := hk
      have hk1 : k < len0 := by
        rcases Nat.lt_or_ge k len0 with h | h
        · exact h
        · rw [List.getElem?_eq_none (by simp; omega)] at hz1; cases hz1
      rw [List.getElem?_take_of_lt hk1] at hz1
      have hk2 : k < zs.length := by omega
      rw [List.getElem?_eq_getElem hk2, Option.some_inj] at hz1
      rw [hcell k hk2]
      simp only [Function.comp]
      rw [toB_val (hwz z (by rw [← hz1]; exact List.getElem_mem hk2)), ← hz1]
      simp [List.getD, List.getElem?_eq_getElem hk2]
    · have := bulk_slice (H := H) (lits .u8 (zs.take len0)) (lits .u8 (zs.drop len0))
      simp only [lits, List.length_map, List.length_take] at this
      rw [hlen]
      simp only [lits]
      omega
end
end Go.Proofs.YtameamfaaenboaaDoor
namespace Go.Proofs.YtameamfaaenboaaDoor
open Go.ChangeShapes Go.WideShapes Go.ChangeAt Go.RowKit Go.Deep
/-- what reads as type t has s cells, and says some a -/
def Opens {α : Type} (t s : Nat) (R : Reading α) : Prop :=
  ∀ (H : Type) (enc : TypeId × Value → H) (W : World) (base : Nat) (spare : Nat → Bool) (held : Bool) (fuel : Nat) (cs : List Value) (x : DataW H × List MemPlace),
    DataW.trod enc Tryd.prog W base spare held fuel t cs = some x → (∀ n ∈ x.1.weights Tryd.prog t, n ≤ reachBytes) → cs.length = s ∧ ∃ a, R.says [] W cs a
section
variable {H : Type} {P : Program}
theorem weightsAll_mem' {e : TypeId} : ∀ {l : List (DataW H)} {d : DataW H}, d ∈ l → ∀ n ∈ d.weights P e, n ∈ DataW.weightsAll P e l
  | d' :: r, d, hd, n, hn => by
    simp only [DataW.weightsAll, List.mem_append]
    rcases List.mem_cons.1 hd with rfl | h
    · exact Or.inl hn
    · exact Or.inr (weightsAll_mem' h n hn)
theorem weights_struct_at {t : TypeId} {fs : Array Field} (ht : P.underlying t = some (.struct fs)) {parts : List (DataW H)} {r : Nat} (hw : ∀ n ∈ (DataW.agg parts).weights P t, n ≤ r) (j : Nat) {f : Field} {d : DataW H} (hf : fs[j]? = some f) (hd : parts[j]? = some d) :
    ∀ n ∈ d.weights P f.type, n ≤ r := fun n hn => by
  refine hw n ?_
  simp only [DataW.weights, ht]
  exact DataW.weights_mem_each (j := j) (t := f.type) (by simp [hf]) hd n hn
theorem weights_slice_at {t e : TypeId} (ht : P.underlying t = some (.slice e)) {elems spare : List (DataW H)} {r : Nat} (hw : ∀ n ∈ (DataW.slice elems spare).weights P t, n ≤ r) {d : DataW H} (hd : d ∈ elems) : ∀ n ∈ d.weights P e, n ≤ r := fun n hn => by
  refine hw n ?_
  simp only [DataW.weights, ht, List.mem_cons, List.mem_append]
  exact .inr (.inl (weightsAll_mem' hd n hn))
theorem weights_slice_len {t e : TypeId} (ht : P.underlying t = some (.slice e)) {elems spare : List (DataW H)} {r : Nat} (hw : ∀ n ∈ (DataW.slice elems spare).weights P t, n ≤ r) : elems.length * P.bytesOf e ≤ r := by
  have := hw ((elems.length + spare.length) * P.bytesOf e) (by simp [DataW.weights, ht])
  have h2 : elems.length * P.bytesOf e ≤ (elems.length + spare.length) * P.bytesOf e := Nat.mul_le_mul_right _ (by omega)
  omega
end
def RInt : Reading Int where
  says _ _ cs z := cs = [.int .i64 z] ∧ (Lit.int .i64 z).wf = true
  kept := fun h _ => h
  old := fun h _ => h
def RBool : Reading Bool where
  says _ _ cs z := cs = [.bool z]
  kept := fun h _ => h
  old := fun h _ => h
def RB : Reading UInt8 where
  says _ _ cs z := cs = [.int .u8 (z.toNat : Int)]
  kept := fun h _ => h
  old := fun h _ => h
/-- a slice of elements of s cells and B bytes -/
def RSl {α : Type} (R : Reading α) (s B : Nat) : Reading (List α) where
  says M w cs xs := ∃ A cap, cs = [.slice A xs.length cap] ∧ RsM R s M w A xs ∧ xs.length ≤ cap ∧ cap ≤ 9223372036854775807 ∧ xs.length * B ≤ 140737488351232
  kept := by
    rintro M w w' cs x ⟨A, cap, h1, h2, h3⟩ hx
    exact ⟨A, cap, h1, h2.kept hx, h3⟩
  old := by
    rintro M N w cs x ⟨A, cap, h1, h2, h3⟩ hx
    exact ⟨A, cap, h1, h2.old hx, h3⟩
def RStr : Reading (List UInt8) where
  says _ _ cs z := cs = [.string (⟨z.toArray⟩ : ByteArray)] ∧ z.length ≤ 140737488351232
  kept := fun h _ => h
  old := fun h _ => h
theorem Opens.int {t : Nat} (h : Tryd.prog.underlying t = some (.int .i64)) : Opens t 1 RInt := fun H enc W base spare held fuel cs x hx _ => by
  obtain ⟨n, rfl, _, hw⟩ := DataW.trod_int h hx
  exact ⟨rfl, n, rfl, hw⟩
theorem Opens.u8 {t : Nat} (h : Tryd.prog.underlying t = some (.int .u8)) : Opens t 1 RB := fun H enc W base spare held fuel cs x hx _ => by
  obtain ⟨n, rfl, _, hw⟩ := DataW.trod_int h hx
  exact ⟨rfl, toB n, by simp only [RB]; rw [toB_val hw]⟩
theorem Opens.bool {t : Nat} (h : Tryd.prog.underlying t = some .bool) : Opens t 1 RBool := fun H enc W base spare held fuel cs x hx _ => by
  obtain ⟨b, rfl, _⟩ := DataW.trod_bool h hx
  exact ⟨rfl, b, rfl⟩
theorem Opens.str {t : Nat} (h : Tryd.prog.underlying t = some .string) : Opens t 1 RStr := fun H enc W base spare held fuel cs x hx hw => by
  obtain ⟨s, rfl, rfl, _⟩ := DataW.trod_string h hx
  have hl : s.data.toList.length = s.size := by unfold ByteArray.size; simp
  have hwt := hw s.data.toList.length (by simp [DataW.weights])
  simp only [reachBytes] at hwt
  exact ⟨rfl, s.data.toList, by simp, by omega⟩
theorem Opens.slice {α : Type} {t e s B : Nat} {R : Reading α} (h : Opens e s R) (ht : Tryd.prog.underlying t = some (.slice e)) (hs : Tryd.prog.cellsOf e = s) (hB : Tryd.prog.bytesOf e = B) : Opens t 1 (RSl R s B) := fun H enc W base spare held fuel cs x hx hw => by
  subst hs hB
  rcases open_slice ht hx with ⟨rfl, rfl⟩ | ⟨a, len, cap, m, n, D, Pl, rfl, hb, hl, hm, hmm, rfl, hi⟩
  · exact ⟨rfl, [], none, 0, rfl, RsM.nil _ _ _ _ _, by simp, by simp, by simp⟩
  · refine ⟨rfl, ?_⟩
    have hlm : len ≤ m := by rw [hmm]; split <;> omega
    have key : ∀ i, i < len → ∃ (cs' : List Value) (z : α), cs'.length = Tryd.prog.cellsOf e ∧ (∀ (j : Nat) (v : Value), cs'[j]? = some v → W.cell? (a.add (i * Tryd.prog.cellsOf e + j)) = some v) ∧ R.says [] W cs' z := by
      intro i hil
      obtain ⟨cs', hc, ht'⟩ := hi i (by omega)
      obtain ⟨_, hcl, hat⟩ := World.cells?_some hc
      have hd : D i ∈ (List.range len).map D := List.mem_map.2 ⟨i, by simpa using hil, rfl⟩
      obtain ⟨h1, z, hz⟩ := h H enc W base spare held n cs' _ ht' (weights_slice_at ht hw hd)
      refine ⟨cs', z, h1, fun j v hv => ?_, hz⟩
      have hj : j < Tryd.prog.cellsOf e := by rw [← h1]; exact (List.getElem?_eq_some_iff.1 hv).1
      rw [← add_add, hat j hj]
      exact hv
    have hlist : ∀ k, k ≤ len → ∃ (css : List (List Value)) (xs : List α), css.length = k ∧ xs.length = k ∧ (∀ c ∈ css, c.length = Tryd.prog.cellsOf e) ∧
        (∀ (i : Nat) (c : List Value), css[i]? = some c → ∀ (j : Nat) (v : Value), c[j]? = some v → W.cell? (a.add (i * Tryd.prog.cellsOf e + j)) = some v) ∧
        ∀ (i : Nat) (c : List Value) (z : α), css[i]? = some c → xs[i]? = some z → R.says [] W c z := by
      intro k
      induction k with
      | zero => exact fun _ => ⟨[], [], rfl, rfl, by simp, by simp, by simp⟩
      | succ k ih =>
        intro hk
        obtain ⟨css, xs, g1, g2, g3, g4, g5⟩ := ih (by omega)
        obtain ⟨c, z, q1, q2, q3⟩ := key k (by omega)
        refine ⟨css ++ [c], xs ++ [z], by simp [g1], by simp [g2], ?_, ?_, ?_⟩
        · intro c' hc'
          rcases List.mem_append.1 hc' with h | h
          · exact g3 c' h
          · simp at h; subst h; exact q1
        · intro i c' hc'
          rw [List.getElem?_append] at hc'
          split at hc'
          · exact g4 i c' hc'
          · have hi0 : i = css.length := by
              rcases Nat.lt_or_ge css.length i with h | h
              · rw [List.getElem?_eq_none (by simp; omega)] at hc'; cases hc'
              · omega
            subst hi0
            simp at hc'
            subst hc'
            rw [g1]
            exact q2
        · intro i c' z' hc' hz'
          rw [List.getElem?_append] at hc' hz'
          rw [g1] at hc'
          rw [g2] at hz'
          split at hc'
          · rename_i hlt
            rw [if_pos hlt] at hz'
            exact g5 i c' z' hc' hz'
          · rename_i hge
            rw [if_neg hge] at hz'
            have hi0 : i = k := by
              rcases Nat.lt_or_ge k i with h | h
              · rw [List.getElem?_eq_none (by simp; omega)] at hc'; cases hc'
              · omega
            subst hi0
            simp at hc' hz'
            subst hc' hz'
            exact q3
    obtain ⟨css, xs, g1, g2, g3, g4, g5⟩ := hlist len (Nat.le_refl _)
    refine ⟨xs, some a, cap, by rw [g2], ⟨css, by rw [g1, g2], g3, ?_, g5⟩, by rw [g2]; exact hl, hm, ?_⟩
    · intro i v hv
      have hi' : i < css.flatten.length := (List.getElem?_eq_some_iff.1 hv).1
      rw [flatten_length g3] at hi'
      rcases Nat.eq_zero_or_pos (Tryd.prog.cellsOf e) with h0 | h0
      · rw [h0] at hi'; omega
      · have hk : i / Tryd.prog.cellsOf e < css.length := Nat.div_lt_of_lt_mul (by rwa [Nat.mul_comm])
        have hj := Nat.mod_lt i h0
        have hv2 := flatten_get g3 (i / Tryd.prog.cellsOf e) (i % Tryd.prog.cellsOf e) _ (List.getElem?_eq_getElem hk) hj
        rw [Nat.div_add_mod' i (Tryd.prog.cellsOf e), hv] at hv2
        refine ⟨a, rfl, by simp, ?_⟩
        have := g4 _ _ (List.getElem?_eq_getElem hk) (i % Tryd.prog.cellsOf e) v hv2.symm
        rwa [Nat.div_add_mod' i (Tryd.prog.cellsOf e)] at this
    · have := weights_slice_len ht hw
      simp only [List.length_map, List.length_range, reachBytes] at this
      rw [g2]
      exact this
theorem RsM.bytes {M : List Nat} {w : World} {A : Option Addr} {l : List UInt8} (h : RsM RB 1 M w A l) : BsM M w A l := by
  intro k v hk
  have hk' : k < l.length := by
    have := (List.getElem?_eq_some_iff.1 hk).1
    simpa using this
  obtain ⟨ad, cs, e, hn, _, hc, hs⟩ := h.at_ (by omega) hk'
  refine ⟨ad, e, hn, ?_⟩
  rw [bv_get hk'] at hk
  cases hk
  have := hc 0 (.int .u8 (l[k].toNat : Int)) (by rw [show cs = _ from hs]; rfl)
  simpa using this
/-- a struct: one of its fields -/
theorem struct_field {H : Type} {enc : TypeId × Value → H} {W : World} {base : Nat} {spare : Nat → Bool} {held : Bool} {fuel : Nat} {cs : List Value} {x : DataW H × List MemPlace} {t : Nat} {fs : Array Field} (ht : Tryd.prog.underlying t = some (.struct fs))
    (hx : DataW.trod enc Tryd.prog W base spare held fuel t cs = some x) (hw : ∀ n ∈ x.1.weights Tryd.prog t, n ≤ reachBytes) (j : Nat) {f : Field} (hf : fs[j]? = some f) {α : Type} {s : Nat} {R : Reading α} (ho : Opens f.type s R) (hs : Tryd.prog.cellsOf f.type = s) :
    ∃ a, R.says [] W ((cs.drop f.offset).take s) a := by
  subst hs
  obtain ⟨xs, n, rfl, rfl, hl, hxl, hg⟩ := DataW.trod_struct ht hx
  have h1 := hg j f hf
  have hj : j < xs.length := by rw [hxl]; exact (Array.getElem?_eq_some_iff.1 hf).1
  rw [List.getElem?_eq_getElem hj] at h1
  exact (ho H enc W base spare held n _ _ h1 (weights_struct_at ht hw j hf (by simp [List.getElem?_eq_getElem hj]))).2
theorem struct_len {H : Type} {enc : TypeId × Value → H} {W : World} {base : Nat} {spare : Nat → Bool} {held : Bool} {fuel : Nat} {cs : List Value} {x : DataW H × List MemPlace} {t : Nat} {fs : Array Field} (ht : Tryd.prog.underlying t = some (.struct fs))
    (hx : DataW.trod enc Tryd.prog W base spare held fuel t cs = some x) : cs.length = Tryd.prog.cellsOf t := by
  obtain ⟨xs, n, _, _, hl, _⟩ := DataW.trod_struct ht hx
  exact hl
theorem Opens.bytes : Opens 26 1 (RSl RB 1 1) := (Opens.u8 Tryd.underlying5).slice Tryd.underlying26 (by kernel_rfl) (by kernel_rfl)
/-- from an argument to its cells -/
theorem Opens.arg {α : Type} {t s : Nat} {R : Reading α} (h : Opens t s R) {H : Type} {enc : TypeId × Value → H} {W : World} {base : Nat} {spare : Nat → Bool} {held : Bool} {v : Value} {d : DataW H} {p : List MemPlace}
    (hd : DataW.Trod enc Tryd.prog W base spare held t v d p) (hw : ∀ n ∈ d.weights Tryd.prog t, n ≤ reachBytes) : ∃ a, R.says [] W v.cells.toList a := by
  obtain ⟨fuel, hf⟩ := hd
  exact (h H enc W base spare held fuel _ _ hf hw).2
end Go.Proofs.YtameamfaaenboaaDoor
namespace Go.Proofs.YtameamfaaenboaaDoor
open Go.ChangeShapes Go.WideShapes Go.ChangeAt Go.RowKit Go.Deep
def OpensB {α : Type} (t s : Nat) (R : Reading α) : Prop :=
  ∀ (H : Type) (enc : TypeId × Value → H) (W : World) (base : Nat) (spare : Nat → Bool) (held : Bool) (fuel : Nat) (cs : List Value) (x : DataW H × List MemPlace),
    DataW.trod enc Tryd.prog W base spare held fuel t cs = some x → Rows.uptoBulk x.1 ≤ 1048576 → cs.length = s ∧ ∃ a, R.says [] W cs a
def RStrB : Reading (List UInt8) where
  says _ _ cs z := cs = [.string (⟨z.toArray⟩ : ByteArray)] ∧ z.length ≤ 1048576
  kept := fun h _ => h
  old := fun h _ => h
def RSlB {α : Type} (R : Reading α) (s : Nat) : Reading (List α) where
  says M w cs xs := ∃ A cap, cs = [.slice A xs.length cap] ∧ RsM R s M w A xs ∧ xs.length ≤ cap ∧ cap ≤ 9223372036854775807 ∧ xs.length ≤ 1048576
  kept := by
    rintro M w w' cs x ⟨A, cap, h1, h2, h3⟩ hx
    exact ⟨A, cap, h1, h2.kept hx, h3⟩
  old := by
    rintro M N w cs x ⟨A, cap, h1, h2, h3⟩ hx
    exact ⟨A, cap, h1, h2.old hx, h3⟩
theorem OpensB.int {t : Nat} (h : Tryd.prog.underlying t = some (.int .i64)) : OpensB t 1 RInt := fun H enc W base spare held fuel cs x hx _ => by
  obtain ⟨n, rfl, _, hw⟩ := DataW.trod_int h hx
  exact ⟨rfl, n, rfl, hw⟩
theorem OpensB.u8 {t : Nat} (h : Tryd.prog.underlying t = some (.int .u8)) : OpensB t 1 RB := fun H enc W base spare held fuel cs x hx _ => by
  obtain ⟨n, rfl, _, hw⟩ := DataW.trod_int h hx
  exact ⟨rfl, toB n, by simp only [RB]; rw [toB_val hw]⟩
theorem OpensB.str {t : Nat} (h : Tryd.prog.underlying t = some .string) : OpensB t 1 RStrB := fun H enc W base spare held fuel cs x hx hw => by
  obtain ⟨s, rfl, rfl, _⟩ := DataW.trod_string h hx
  simp only [Rows.uptoBulk] at hw
  exact ⟨rfl, s.data.toList, by simp, by omega⟩
theorem OpensB.slice {α : Type} {t e s : Nat} {R : Reading α} (h : OpensB e s R) (ht : Tryd.prog.underlying t = some (.slice e)) (hs : Tryd.prog.cellsOf e = s) : OpensB t 1 (RSlB R s) := fun H enc W base spare held fuel cs x hx hw => by
  subst hs
  rcases open_slice ht hx with ⟨rfl, rfl⟩ | ⟨a, len, cap, m, n, D, Pl, rfl, hb, hl, hm, hmm, rfl, hi⟩
  · exact ⟨rfl, [], none, 0, rfl, RsM.nil _ _ _ _ _, by simp, by simp, by simp⟩
  · refine ⟨rfl, ?_⟩
    have hlm : len ≤ m := by rw [hmm]; split <;> omega
    simp only [Rows.uptoBulk] at hw
    have hlen : len ≤ 1048576 := by
      have := bulk_len ((List.range len).map D)
      simp only [List.length_map, List.length_range] at this
      omega
    have key : ∀ i, i < len → ∃ (cs' : List Value) (z : α), cs'.length = Tryd.prog.cellsOf e ∧ (∀ (j : Nat) (v : Value), cs'[j]? = some v → W.cell? (a.add (i * Tryd.prog.cellsOf e + j)) = some v) ∧ R.says [] W cs' z := by
      intro i hil
      obtain ⟨cs', hc, ht'⟩ := hi i (by omega)
      obtain ⟨_, hcl, hat⟩ := World.cells?_some hc
      have hd : D i ∈ (List.range len).map D := List.mem_map.2 ⟨i, by simpa using hil, rfl⟩
      obtain ⟨h1, z, hz⟩ := h H enc W base spare held n cs' _ ht' (by have := bulk_le hd; simp only; omega)
      refine ⟨cs', z, h1, fun j v hv => ?_, hz⟩
      have hj : j < Tryd.prog.cellsOf e := by rw [← h1]; exact (List.getElem?_eq_some_iff.1 hv).1
      rw [← add_add, hat j hj]
      exact hv
    have hlist : ∀ k, k ≤ len → ∃ (css : List (List Value)) (xs : List α), css.length = k ∧ xs.length = k ∧ (∀ c ∈ css, c.length = Tryd.prog.cellsOf e) ∧
        (∀ (i : Nat) (c : List Value), css[i]? = some c → ∀ (j : Nat) (v : Value), c[j]? = some v → W.cell? (a.add (i * Tryd.prog.cellsOf e + j)) = some v) ∧
        ∀ (i : Nat) (c : List Value) (z : α), css[i]? = some c → xs[i]? = some z → R.says [] W c z := by
      intro k
      induction k with
      | zero => exact fun _ => ⟨[], [], rfl, rfl, by simp, by simp, by simp⟩
      | succ k ih =>
        intro hk
        obtain ⟨css, xs, g1, g2, g3, g4, g5⟩ := ih (by omega)
        obtain ⟨c, z, q1, q2, q3⟩ := key k (by omega)
        refine ⟨css ++ [c], xs ++ [z], by simp [g1], by simp [g2], ?_, ?_, ?_⟩
        · intro c' hc'
          rcases List.mem_append.1 hc' with h | h
          · exact g3 c' h
          · simp at h; subst h; exact q1
        · intro i c' hc'
          rw [List.getElem?_append] at hc'
          split at hc'
          · exact g4 i c' hc'
          · have hi0 : i = css.length := by
              rcases Nat.lt_or_ge css.length i with h | h
              · rw [List.getElem?_eq_none (by simp; omega)] at hc'; cases hc'
              · omega
            subst hi0
            simp at hc'
            subst hc'
            rw [g1]
            exact q2
        · intro i c' z' hc' hz'
          rw [List.getElem?_append] at hc' hz'
          rw [g1] at hc'
          rw [g2] at hz'
          split at hc'
          · rename_i hlt
            rw [if_pos hlt] at hz'
            exact g5 i c' z' hc' hz'
          · rename_i hge
            rw [if_neg hge] at hz'
            have hi0 : i = k := by
              rcases Nat.lt_or_ge k i with h | h
              · rw [List.getElem?_eq_none (by simp; omega)] at hc'; cases hc'
              · omega
            subst hi0
            simp at hc' hz'
            subst hc' hz'
            exact q3
    obtain ⟨css, xs, g1, g2, g3, g4, g5⟩ := hlist len (Nat.le_refl _)
    refine ⟨xs, some a, cap, by rw [g2], ⟨css, by rw [g1, g2], g3, ?_, g5⟩, by rw [g2]; exact hl, hm, by rw [g2]; exact hlen⟩
    intro i v hv
    have hi' : i < css.flatten.length := (List.getElem?_eq_some_iff.1 hv).1
    rw [flatten_length g3] at hi'
    rcases Nat.eq_zero_or_pos (Tryd.prog.cellsOf e) with h0 | h0
    · rw [h0] at hi'; omega
    · have hk : i / Tryd.prog.cellsOf e < css.length := Nat.div_lt_of_lt_mul (by rwa [Nat.mul_comm])
      have hj := Nat.mod_lt i h0
      have hv2 := flatten_get g3 (i / Tryd.prog.cellsOf e) (i % Tryd.prog.cellsOf e) _ (List.getElem?_eq_getElem hk) hj
      rw [Nat.div_add_mod' i (Tryd.prog.cellsOf e), hv] at hv2
      refine ⟨a, rfl, by simp, ?_⟩
      have := g4 _ _ (List.getElem?_eq_getElem hk) (i % Tryd.prog.cellsOf e) v hv2.symm
      rwa [Nat.div_add_mod' i (Tryd.prog.cellsOf e)] at this
theorem struct_fieldB {H : Type} {enc : TypeId × Value → H} {W : World} {base : Nat} {spare : Nat → Bool} {held : Bool} {fuel : Nat} {cs : List Value} {x : DataW H × List MemPlace} {t : Nat} {fs : Array Field} (ht : Tryd.prog.underlying t = some (.struct fs))
    (hx : DataW.trod enc Tryd.prog W base spare held fuel t cs = some x) (hw : Rows.uptoBulk x.1 ≤ 1048576) (j : Nat) {f : Field} (hf : fs[j]? = some f) {α : Type} {s : Nat} {R : Reading α} (ho : OpensB f.type s R) (hs : Tryd.prog.cellsOf f.type = s) :
    ∃ a, R.says [] W ((cs.drop f.offset).take s) a := by
  subst hs
  obtain ⟨xs, n, rfl, rfl, hl, hxl, hg⟩ := DataW.trod_struct ht hx
  have h1 := hg j f hf
  have hj : j < xs.length := by rw [hxl]; exact (Array.getElem?_eq_some_iff.1 hf).1
  rw [List.getElem?_eq_getElem hj] at h1
  simp only [Rows.uptoBulk] at hw
  have hm : xs[j].1 ∈ xs.map (·.1) := List.mem_map.2 ⟨xs[j], List.getElem_mem hj, rfl⟩
  exact (ho H enc W base spare held n _ _ h1 (by have := bulk_le hm; omega)).2
set_option maxRecDepth 20000 in
theorem OpensB.bytes : OpensB 26 1 (RSlB RB 1) := (OpensB.u8 Tryd.underlying5).slice Tryd.underlying26 (by kernel_rfl)
theorem OpensB.arg {α : Type} {t s : Nat} {R : Reading α} (h : OpensB t s R) {H : Type} {enc : TypeId × Value → H} {W : World} {base : Nat} {spare : Nat → Bool} {held : Bool} {v : Value} {d : DataW H} {p : List MemPlace}
    (hd : DataW.Trod enc Tryd.prog W base spare held t v d p) (hw : Rows.uptoBulk d ≤ 1048576) : ∃ a, R.says [] W v.cells.toList a := by
  obtain ⟨fuel, hf⟩ := hd
  exact (h H enc W base spare held fuel _ _ hf hw).2
end Go.Proofs.YtameamfaaenboaaDoor
namespace Go.Proofs.YtameamfaaenboaaDoor
open Go.ChangeShapes Go.WideShapes Go.ChangeAt Go.RowKit Go.Deep
theorem st_mk (z : By) : (⟨z.toArray⟩ : ByteArray) = st z := rfl
set_option maxRecDepth 20000 in
theorem Opens.deed : Opens 28 10 RDd := fun H enc W base spare held fuel cs x hx hw => by
  have hl := struct_len Tryd.underlying28 hx
  have hC : Tryd.prog.cellsOf 28 = 10 := by kernel_rfl
  rw [hC] at hl
  obtain ⟨a0, h0⟩ := struct_field Tryd.underlying28 hx hw 0 rfl (Opens.int Tryd.underlying25) (by kernel_rfl)
  obtain ⟨a1, h1⟩ := struct_field Tryd.underlying28 hx hw 1 rfl (Opens.str Tryd.underlying9) (by kernel_rfl)
  obtain ⟨a2, h2⟩ := struct_field Tryd.underlying28 hx hw 2 rfl (Opens.str Tryd.underlying9) (by kernel_rfl)
  obtain ⟨a3, h3⟩ := struct_field Tryd.underlying28 hx hw 3 rfl (Opens.str Tryd.underlying9) (by kernel_rfl)
  obtain ⟨a4, h4⟩ := struct_field Tryd.underlying28 hx hw 4 rfl (Opens.int Tryd.underlying3) (by kernel_rfl)
  obtain ⟨a5, h5⟩ := struct_field Tryd.underlying28 hx hw 5 rfl (Opens.int Tryd.underlying3) (by kernel_rfl)
  obtain ⟨a6, h6⟩ := struct_field Tryd.underlying28 hx hw 6 rfl (Opens.u8 Tryd.underlying5) (by kernel_rfl)
  obtain ⟨a7, h7⟩ := struct_field Tryd.underlying28 hx hw 7 rfl (Opens.int Tryd.underlying3) (by kernel_rfl)
  obtain ⟨a8, h8⟩ := struct_field Tryd.underlying28 hx hw 8 rfl (Opens.int Tryd.underlying3) (by kernel_rfl)
  obtain ⟨a9, A9, c9, h9, g1, g2, g3, g4⟩ := struct_field Tryd.underlying28 hx hw 9 rfl Opens.bytes (by kernel_rfl)
  match cs, hl with
  | [c0, c1, c2, c3, c4, c5, c6, c7, c8, c9'], _ =>
    have e0 : c0 = .int .i64 a0 := by simpa [RInt] using h0.1
    have e1 : c1 = .string (st a1) := by simpa [RStr, st] using h1.1
    have e2 : c2 = .string (st a2) := by simpa [RStr, st] using h2.1
    have e3 : c3 = .string (st a3) := by simpa [RStr, st] using h3.1
    have e4 : c4 = .int .i64 a4 := by simpa [RInt] using h4.1
    have e5 : c5 = .int .i64 a5 := by simpa [RInt] using h5.1
    have e6 : c6 = .int .u8 (a6.toNat : Int) := by simpa [RB] using h6
    have e7 : c7 = .int .i64 a7 := by simpa [RInt] using h7.1
    have e8 : c8 = .int .i64 a8 := by simpa [RInt] using h8.1
    have e9 : c9' = .slice A9 a9.length c9 := by simpa using h9
    subst e0 e1 e2 e3 e4 e5 e6 e7 e8 e9
    exact ⟨rfl, ⟨a0, a1, a2, a3, a4, a5, a6, a7, a8, a9⟩, A9, c9, rfl, g1.bytes, g2, by simpa using g4, h1.2, h2.2, h3.2⟩
/-- a letter, and its bounds -/
def RLt2 : Reading Lt where
  says M w cs l := ∃ A cap, cs = (ltC l (.slice A l.bytes.length cap)).toList ∧ BsM M w A l.bytes ∧ l.bytes.length ≤ 140737488351232
  kept := by
    rintro M w w' cs x ⟨A, cap, h1, h2, h3⟩ hx
    exact ⟨A, cap, h1, h2.kept hx, h3⟩
  old := by
    rintro M N w cs x ⟨A, cap, h1, h2, h3⟩ hx
    exact ⟨A, cap, h1, SlM.old h2 hx, h3⟩
theorem RLt2.weak {M : List Nat} {w : World} {A : Option Addr} {ls : List Lt} (h : RsM RLt2 3 M w A ls) : RsM RLt 3 M w A ls := by
  obtain ⟨css, h1, h2, h3, h4⟩ := h
  exact ⟨css, h1, h2, h3, fun k cs x a b => by obtain ⟨A, c, q1, q2, _⟩ := h4 k cs x a b; exact ⟨A, c, q1, q2⟩⟩
/-- a box, and its bounds -/
def RBx2 : Reading Bx where
  says M w cs b := ∃ A cap, cs = (bxC b (.slice A b.letters.length cap)).toList ∧ RsM RLt2 3 M w A b.letters ∧ b.letters.length ≤ cap ∧ b.letters.length ≤ 140737488351232 ∧ b.name.length ≤ 140737488351232
  kept := by
    rintro M w w' cs x ⟨A, cap, h1, h2, h3⟩ hx
    exact ⟨A, cap, h1, h2.kept hx, h3⟩
  old := by
    rintro M N w cs x ⟨A, cap, h1, h2, h3⟩ hx
    exact ⟨A, cap, h1, h2.old hx, h3⟩
theorem RBx2.weak {M : List Nat} {w : World} {A : Option Addr} {bs : List Bx} (h : RsM RBx2 4 M w A bs) : RsM RBx 4 M w A bs := by
  obtain ⟨css, h1, h2, h3, h4⟩ := h
  exact ⟨css, h1, h2, h3, fun k cs x a b => by obtain ⟨A, c, q1, q2, _⟩ := h4 k cs x a b; exact ⟨A, c, q1, RLt2.weak q2⟩⟩
theorem RBx2.names {M : List Nat} {w : World} {A : Option Addr} {bs : List Bx} (h : RsM RBx2 4 M w A bs) : ∀ b ∈ bs, b.name.length ≤ 140737488355328 := by
  intro b hb
  obtain ⟨k, hk, rfl⟩ := List.getElem_of_mem hb
  obtain ⟨_, _, _, _, _, _, _, _, _, _, _, _, h5⟩ := h.at_ (by omega) hk
  omega
set_option maxRecDepth 20000 in
theorem Opens.letter : Opens 75 3 RLt2 := fun H enc W base spare held fuel cs x hx hw => by
  have hl := struct_len Tryd.underlying75 hx
  have hC : Tryd.prog.cellsOf 75 = 3 := by kernel_rfl
  rw [hC] at hl
  obtain ⟨a0, h0⟩ := struct_field Tryd.underlying75 hx hw 0 rfl (Opens.int Tryd.underlying3) (by kernel_rfl)
  obtain ⟨a1, h1⟩ := struct_field Tryd.underlying75 hx hw 1 rfl (Opens.u8 Tryd.underlying5) (by kernel_rfl)
  obtain ⟨a2, A2, c2, h2, g1, g2, g3, g4⟩ := struct_field Tryd.underlying75 hx hw 2 rfl Opens.bytes (by kernel_rfl)
  match cs, hl with
  | [c0, c1, c2'], _ =>
    have e0 : c0 = .int .i64 a0 := by simpa [RInt] using h0.1
    have e1 : c1 = .int .u8 (a1.toNat : Int) := by simpa [RB] using h1
    have e2 : c2' = .slice A2 a2.length c2 := by simpa using h2
    subst e0 e1 e2
    exact ⟨rfl, ⟨a0, a1, a2⟩, A2, c2, rfl, g1.bytes, by simpa using g4⟩
set_option maxRecDepth 20000 in
theorem Opens.box : Opens 51 4 RBx2 := fun H enc W base spare held fuel cs x hx hw => by
  have hl := struct_len Tryd.underlying51 hx
  have hC : Tryd.prog.cellsOf 51 = 4 := by kernel_rfl
  rw [hC] at hl
  obtain ⟨a0, h0⟩ := struct_field Tryd.underlying51 hx hw 0 rfl (Opens.str Tryd.underlying9) (by kernel_rfl)
  obtain ⟨a1, h1⟩ := struct_field Tryd.underlying51 hx hw 1 rfl (Opens.int Tryd.underlying3) (by kernel_rfl)
  obtain ⟨a2, h2⟩ := struct_field Tryd.underlying51 hx hw 2 rfl (Opens.int Tryd.underlying3) (by kernel_rfl)
  obtain ⟨a3, A3, c3, h3, g1, g2, g3, g4⟩ := struct_field Tryd.underlying51 hx hw 3 rfl (Opens.letter.slice (B := 40) Tryd.underlying49 (by kernel_rfl) (by kernel_rfl)) (by kernel_rfl)
  match cs, hl with
  | [c0, c1, c2, c3'], _ =>
    have e0 : c0 = .string (st a0) := by simpa [RStr, st] using h0.1
    have e1 : c1 = .int .i64 a1 := by simpa [RInt] using h1.1
    have e2 : c2 = .int .i64 a2 := by simpa [RInt] using h2.1
    have e3 : c3' = .slice A3 a3.length c3 := by simpa using h3
    subst e0 e1 e2 e3
    exact ⟨rfl, ⟨a0, a1, a2, a3⟩, A3, c3, rfl, g1, g2, (show a3.length ≤ 140737488351232 by omega), h0.2⟩
/-- a user's cells -/
def RUs : Reading Us where
  says M w cs u := ∃ A cap, cs = (usC u (.slice A u.boxes.length cap)).toList ∧ RsM RBx2 4 M w A u.boxes ∧ u.boxes.length ≤ cap ∧ u.boxes.length ≤ 140737488351232 ∧ u.name.length ≤ 140737488351232
  kept := by
    rintro M w w' cs x ⟨A, cap, h1, h2, h3⟩ hx
    exact ⟨A, cap, h1, h2.kept hx, h3⟩
  old := by
    rintro M N w cs x ⟨A, cap, h1, h2, h3⟩ hx
    exact ⟨A, cap, h1, h2.old hx, h3⟩
set_option maxRecDepth 20000 in
theorem Opens.user : Opens 42 3 RUs := fun H enc W base spare held fuel cs x hx hw => by
  have hl := struct_len Tryd.underlying42 hx
  have hC : Tryd.prog.cellsOf 42 = 3 := by kernel_rfl
  rw [hC] at hl
  obtain ⟨a0, h0⟩ := struct_field Tryd.underlying42 hx hw 0 rfl (Opens.str Tryd.underlying9) (by kernel_rfl)
  obtain ⟨a1, h1⟩ := struct_field Tryd.underlying42 hx hw 1 rfl (Opens.int Tryd.underlying3) (by kernel_rfl)
  obtain ⟨a3, A3, c3, h3, g1, g2, g3, g4⟩ := struct_field Tryd.underlying42 hx hw 2 rfl (Opens.box.slice (B := 56) Tryd.underlying40 (by kernel_rfl) (by kernel_rfl)) (by kernel_rfl)
  match cs, hl with
  | [c0, c1, c3'], _ =>
    have e0 : c0 = .string (st a0) := by simpa [RStr, st] using h0.1
    have e1 : c1 = .int .i64 a1 := by simpa [RInt] using h1.1
    have e3 : c3' = .slice A3 a3.length c3 := by simpa using h3
    subst e0 e1 e3
    exact ⟨rfl, ⟨a0, a1, a3⟩, A3, c3, rfl, g1, g2, (show a3.length ≤ 140737488351232 by omega), h0.2⟩
section
variable {H : Type} {enc : TypeId × Value → H} {W : World} {base b : Nat} {held : Bool} {v : Value} {d : DataW H} {p : List MemPlace}
set_option maxRecDepth 20000 in
theorem open_ddeeds {spare : Nat → Bool} (hv : Value.okWide Tryd.prog W .any b 32 v) (h : DataW.Trod enc Tryd.prog W base spare held 32 v d p) (hw : ∀ n ∈ d.weights Tryd.prog 32, n ≤ reachBytes) :
    ∃ (A : Option Addr) (cap : Nat) (l : List Dd), v = .slice A l.length cap ∧ RsM RDd 10 [] W A l ∧ l.length ≤ 140737488351232 := by
  obtain ⟨a0, len0, cap0, rfl⟩ := okWide_slice Tryd.underlying32 hv
  obtain ⟨l, A, cap, h1, h2, h3, h4, h5⟩ := (Opens.deed.slice (B := 120) Tryd.underlying32 (by kernel_rfl) (by kernel_rfl)).arg h hw
  simp [Value.cells] at h1
  obtain ⟨rfl, rfl, rfl⟩ := h1
  exact ⟨_, _, l, rfl, h2, by omega⟩
set_option maxRecDepth 20000 in
theorem open_ddeed {spare : Nat → Bool} (hv : Value.okWide Tryd.prog W .any b 28 v) (h : DataW.Trod enc Tryd.prog W base spare held 28 v d p) (hw : ∀ n ∈ d.weights Tryd.prog 28, n ≤ reachBytes) :
    ∃ (A : Option Addr) (cap : Nat) (x : Dd), v = .agg (ddC x (.slice A x.bytes.length cap)) ∧ Bs W A x.bytes ∧ x.bytes.length ≤ cap ∧ x.bytes.length ≤ 140737488351232 ∧ x.user.length ≤ 140737488351232 ∧ x.box.length ≤ 140737488351232 ∧ x.dest.length ≤ 140737488351232 := by
  obtain ⟨cs, rfl, hsz⟩ := okWide_struct Tryd.underlying28 hv
  obtain ⟨u, A, cap, h1, h2, h3, h4, h5, h6, h7⟩ := Opens.deed.arg h hw
  refine ⟨A, cap, u, ?_, h2.bs, h3, h4, h5, h6, h7⟩
  simp only [Value.cells] at h1
  congr 1
  exact Array.toList_inj.1 h1
set_option maxRecDepth 20000 in
theorem open_duser {spare : Nat → Bool} (hv : Value.okWide Tryd.prog W .any b 42 v) (h : DataW.Trod enc Tryd.prog W base spare held 42 v d p) (hw : ∀ n ∈ d.weights Tryd.prog 42, n ≤ reachBytes) :
    ∃ (A : Option Addr) (cap : Nat) (x : Us), v = .agg (usC x (.slice A x.boxes.length cap)) ∧ RsM RBx2 4 [] W A x.boxes ∧ x.boxes.length ≤ cap ∧ x.boxes.length ≤ 140737488351232 ∧ x.name.length ≤ 140737488351232 := by
  obtain ⟨cs, rfl, hsz⟩ := okWide_struct Tryd.underlying42 hv
  obtain ⟨u, A, cap, h1, h2, h3, h4, h5⟩ := Opens.user.arg h hw
  refine ⟨A, cap, u, ?_, h2, h3, h4, h5⟩
  simp only [Value.cells] at h1
  congr 1
  exact Array.toList_inj.1 h1
end
end Go.Proofs.YtameamfaaenboaaDoor
namespace Go.Proofs.YtameamfaaenboaaDoor
open Go.ChangeShapes Go.WideShapes Go.ChangeAt Go.RowKit Go.Deep
structure SmD (d : Dd) : Prop where
  bytes : d.bytes.length ≤ 1048576
  user : d.user.length ≤ 1048576
  box : d.box.length ≤ 1048576
  dest : d.dest.length ≤ 1048576
def RDdB : Reading Dd where
  says M w cs d := ∃ A cap, cs = (ddC d (.slice A d.bytes.length cap)).toList ∧ BsM M w A d.bytes ∧ d.bytes.length ≤ cap ∧ SmD d
  kept := by
    rintro M w w' cs x ⟨A, cap, h1, h2, h3⟩ hx
    exact ⟨A, cap, h1, h2.kept hx, h3⟩
  old := by
    rintro M N w cs x ⟨A, cap, h1, h2, h3⟩ hx
    exact ⟨A, cap, h1, SlM.old h2 hx, h3⟩
theorem RDdB.weak {M : List Nat} {w : World} {A : Option Addr} {ds : List Dd} (h : RsM RDdB 10 M w A ds) : RsM RDd 10 M w A ds := by
  obtain ⟨css, h1, h2, h3, h4⟩ := h
  exact ⟨css, h1, h2, h3, fun k cs x a b => by
    obtain ⟨A, c, q1, q2, q3, q4⟩ := h4 k cs x a b
    exact ⟨A, c, q1, q2, q3, by have := q4.bytes; omega, by have := q4.user; omega, by have := q4.box; omega, by have := q4.dest; omega⟩⟩
theorem RDdB.small {M : List Nat} {w : World} {A : Option Addr} {ds : List Dd} (h : RsM RDdB 10 M w A ds) : ∀ d ∈ ds, SmD d := by
  intro d hd
  obtain ⟨k, hk, rfl⟩ := List.getElem_of_mem hd
  obtain ⟨_, _, _, _, _, _, _, _, _, _, _, h5⟩ := h.at_ (by omega) hk
  exact h5
set_option maxRecDepth 20000 in
theorem OpensB.deed : OpensB 28 10 RDdB := fun H enc W base spare held fuel cs x hx hw => by
  have hl := struct_len Tryd.underlying28 hx
  have hC : Tryd.prog.cellsOf 28 = 10 := by kernel_rfl
  rw [hC] at hl
  obtain ⟨a0, h0⟩ := struct_fieldB Tryd.underlying28 hx hw 0 rfl (OpensB.int Tryd.underlying25) (by kernel_rfl)
  obtain ⟨a1, h1⟩ := struct_fieldB Tryd.underlying28 hx hw 1 rfl (OpensB.str Tryd.underlying9) (by kernel_rfl)
  obtain ⟨a2, h2⟩ := struct_fieldB Tryd.underlying28 hx hw 2 rfl (OpensB.str Tryd.underlying9) (by kernel_rfl)
  obtain ⟨a3, h3⟩ := struct_fieldB Tryd.underlying28 hx hw 3 rfl (OpensB.str Tryd.underlying9) (by kernel_rfl)
  obtain ⟨a4, h4⟩ := struct_fieldB Tryd.underlying28 hx hw 4 rfl (OpensB.int Tryd.underlying3) (by kernel_rfl)
  obtain ⟨a5, h5⟩ := struct_fieldB Tryd.underlying28 hx hw 5 rfl (OpensB.int Tryd.underlying3) (by kernel_rfl)
  obtain ⟨a6, h6⟩ := struct_fieldB Tryd.underlying28 hx hw 6 rfl (OpensB.u8 Tryd.underlying5) (by kernel_rfl)
  obtain ⟨a7, h7⟩ := struct_fieldB Tryd.underlying28 hx hw 7 rfl (OpensB.int Tryd.underlying3) (by kernel_rfl)
  obtain ⟨a8, h8⟩ := struct_fieldB Tryd.underlying28 hx hw 8 rfl (OpensB.int Tryd.underlying3) (by kernel_rfl)
  obtain ⟨a9, A9, c9, h9, g1, g2, g3, g4⟩ := struct_fieldB Tryd.underlying28 hx hw 9 rfl OpensB.bytes (by kernel_rfl)
  match cs, hl with
  | [c0, c1, c2, c3, c4, c5, c6, c7, c8, c9'], _ =>
    have e0 : c0 = .int .i64 a0 := by simpa [RInt] using h0.1
    have e1 : c1 = .string (st a1) := by simpa [RStrB, st] using h1.1
    have e2 : c2 = .string (st a2) := by simpa [RStrB, st] using h2.1
    have e3 : c3 = .string (st a3) := by simpa [RStrB, st] using h3.1
    have e4 : c4 = .int .i64 a4 := by simpa [RInt] using h4.1
    have e5 : c5 = .int .i64 a5 := by simpa [RInt] using h5.1
    have e6 : c6 = .int .u8 (a6.toNat : Int) := by simpa [RB] using h6
    have e7 : c7 = .int .i64 a7 := by simpa [RInt] using h7.1
    have e8 : c8 = .int .i64 a8 := by simpa [RInt] using h8.1
    have e9 : c9' = .slice A9 a9.length c9 := by simpa using h9
    subst e0 e1 e2 e3 e4 e5 e6 e7 e8 e9
    exact ⟨rfl, ⟨a0, a1, a2, a3, a4, a5, a6, a7, a8, a9⟩, A9, c9, rfl, g1.bytes, g2, ⟨g4, h1.2, h2.2, h3.2⟩⟩
/-- a letter, and its bounds -/
def RLtB : Reading Lt where
  says M w cs l := ∃ A cap, cs = (ltC l (.slice A l.bytes.length cap)).toList ∧ BsM M w A l.bytes ∧ l.bytes.length ≤ 1048576
  kept := by
    rintro M w w' cs x ⟨A, cap, h1, h2, h3⟩ hx
    exact ⟨A, cap, h1, h2.kept hx, h3⟩
  old := by
    rintro M N w cs x ⟨A, cap, h1, h2, h3⟩ hx
    exact ⟨A, cap, h1, SlM.old h2 hx, h3⟩
theorem RLtB.weak {M : List Nat} {w : World} {A : Option Addr} {ls : List Lt} (h : RsM RLtB 3 M w A ls) : RsM RLt 3 M w A ls := by
  obtain ⟨css, h1, h2, h3, h4⟩ := h
  exact ⟨css, h1, h2, h3, fun k cs x a b => by obtain ⟨A, c, q1, q2, _⟩ := h4 k cs x a b; exact ⟨A, c, q1, q2⟩⟩
/-- a box, and its bounds -/
def RBxB : Reading Bx where
  says M w cs b := ∃ A cap, cs = (bxC b (.slice A b.letters.length cap)).toList ∧ RsM RLtB 3 M w A b.letters ∧ b.letters.length ≤ cap ∧ b.letters.length ≤ 1048576 ∧ b.name.length ≤ 1048576
  kept := by
    rintro M w w' cs x ⟨A, cap, h1, h2, h3⟩ hx
    exact ⟨A, cap, h1, h2.kept hx, h3⟩
  old := by
    rintro M N w cs x ⟨A, cap, h1, h2, h3⟩ hx
    exact ⟨A, cap, h1, h2.old hx, h3⟩
theorem RBxB.weak {M : List Nat} {w : World} {A : Option Addr} {bs : List Bx} (h : RsM RBxB 4 M w A bs) : RsM RBx 4 M w A bs := by
  obtain ⟨css, h1, h2, h3, h4⟩ := h
  exact ⟨css, h1, h2, h3, fun k cs x a b => by obtain ⟨A, c, q1, q2, _⟩ := h4 k cs x a b; exact ⟨A, c, q1, RLtB.weak q2⟩⟩
theorem RBxB.names {M : List Nat} {w : World} {A : Option Addr} {bs : List Bx} (h : RsM RBxB 4 M w A bs) : ∀ b ∈ bs, b.name.length ≤ 1048576 := by
  intro b hb
  obtain ⟨k, hk, rfl⟩ := List.getElem_of_mem hb
  obtain ⟨_, _, _, _, _, _, _, _, _, _, _, _, h5⟩ := h.at_ (by omega) hk
  exact h5
set_option maxRecDepth 20000 in
theorem OpensB.letter : OpensB 75 3 RLtB := fun H enc W base spare held fuel cs x hx hw => by
  have hl := struct_len Tryd.underlying75 hx
  have hC : Tryd.prog.cellsOf 75 = 3 := by kernel_rfl
  rw [hC] at hl
  obtain ⟨a0, h0⟩ := struct_fieldB Tryd.underlying75 hx hw 0 rfl (OpensB.int Tryd.underlying3) (by kernel_rfl)
  obtain ⟨a1, h1⟩ := struct_fieldB Tryd.underlying75 hx hw 1 rfl (OpensB.u8 Tryd.underlying5) (by kernel_rfl)
  obtain ⟨a2, A2, c2, h2, g1, g2, g3, g4⟩ := struct_fieldB Tryd.underlying75 hx hw 2 rfl OpensB.bytes (by kernel_rfl)
  match cs, hl with
  | [c0, c1, c2'], _ =>
    have e0 : c0 = .int .i64 a0 := by simpa [RInt] using h0.1
    have e1 : c1 = .int .u8 (a1.toNat : Int) := by simpa [RB] using h1
    have e2 : c2' = .slice A2 a2.length c2 := by simpa using h2
    subst e0 e1 e2
    exact ⟨rfl, ⟨a0, a1, a2⟩, A2, c2, rfl, g1.bytes, g4⟩
set_option maxRecDepth 20000 in
theorem OpensB.box : OpensB 51 4 RBxB := fun H enc W base spare held fuel cs x hx hw => by
  have hl := struct_len Tryd.underlying51 hx
  have hC : Tryd.prog.cellsOf 51 = 4 := by kernel_rfl
  rw [hC] at hl
  obtain ⟨a0, h0⟩ := struct_fieldB Tryd.underlying51 hx hw 0 rfl (OpensB.str Tryd.underlying9) (by kernel_rfl)
  obtain ⟨a1, h1⟩ := struct_fieldB Tryd.underlying51 hx hw 1 rfl (OpensB.int Tryd.underlying3) (by kernel_rfl)
  obtain ⟨a2, h2⟩ := struct_fieldB Tryd.underlying51 hx hw 2 rfl (OpensB.int Tryd.underlying3) (by kernel_rfl)
  obtain ⟨a3, A3, c3, h3, g1, g2, g3, g4⟩ := struct_fieldB Tryd.underlying51 hx hw 3 rfl (OpensB.letter.slice Tryd.underlying49 (by kernel_rfl)) (by kernel_rfl)
  match cs, hl with
  | [c0, c1, c2, c3'], _ =>
    have e0 : c0 = .string (st a0) := by simpa [RStrB, st] using h0.1
    have e1 : c1 = .int .i64 a1 := by simpa [RInt] using h1.1
    have e2 : c2 = .int .i64 a2 := by simpa [RInt] using h2.1
    have e3 : c3' = .slice A3 a3.length c3 := by simpa using h3
    subst e0 e1 e2 e3
    exact ⟨rfl, ⟨a0, a1, a2, a3⟩, A3, c3, rfl, g1, g2, g4, h0.2⟩
/-- a user's cells -/
def RUsB : Reading Us where
  says M w cs u := ∃ A cap, cs = (usC u (.slice A u.boxes.length cap)).toList ∧ RsM RBxB 4 M w A u.boxes ∧ u.boxes.length ≤ cap ∧ u.boxes.length ≤ 1048576 ∧ u.name.length ≤ 1048576
  kept := by
    rintro M w w' cs x ⟨A, cap, h1, h2, h3⟩ hx
    exact ⟨A, cap, h1, h2.kept hx, h3⟩
  old := by
    rintro M N w cs x ⟨A, cap, h1, h2, h3⟩ hx
    exact ⟨A, cap, h1, h2.old hx, h3⟩
set_option maxRecDepth 20000 in
theorem OpensB.user : OpensB 42 3 RUsB := fun H enc W base spare held fuel cs x hx hw => by
  have hl := struct_len Tryd.underlying42 hx
  have hC : Tryd.prog.cellsOf 42 = 3 := by kernel_rfl
  rw [hC] at hl
  obtain ⟨a0, h0⟩ := struct_fieldB Tryd.underlying42 hx hw 0 rfl (OpensB.str Tryd.underlying9) (by kernel_rfl)
  obtain ⟨a1, h1⟩ := struct_fieldB Tryd.underlying42 hx hw 1 rfl (OpensB.int Tryd.underlying3) (by kernel_rfl)
  obtain ⟨a3, A3, c3, h3, g1, g2, g3, g4⟩ := struct_fieldB Tryd.underlying42 hx hw 2 rfl (OpensB.box.slice Tryd.underlying40 (by kernel_rfl)) (by kernel_rfl)
  match cs, hl with
  | [c0, c1, c3'], _ =>
    have e0 : c0 = .string (st a0) := by simpa [RStrB, st] using h0.1
    have e1 : c1 = .int .i64 a1 := by simpa [RInt] using h1.1
    have e3 : c3' = .slice A3 a3.length c3 := by simpa using h3
    subst e0 e1 e3
    exact ⟨rfl, ⟨a0, a1, a3⟩, A3, c3, rfl, g1, g2, g4, h0.2⟩
section
variable {H : Type} {enc : TypeId × Value → H} {W : World} {base b : Nat} {held : Bool} {v : Value} {d : DataW H} {p : List MemPlace}
set_option maxRecDepth 20000 in
theorem open_ddeedsB {spare : Nat → Bool} (hv : Value.okWide Tryd.prog W .any b 32 v) (h : DataW.Trod enc Tryd.prog W base spare held 32 v d p) (hw : Rows.uptoBulk d ≤ 1048576) :
    ∃ (A : Option Addr) (cap : Nat) (l : List Dd), v = .slice A l.length cap ∧ RsM RDdB 10 [] W A l ∧ l.length ≤ 1048576 := by
  obtain ⟨a0, len0, cap0, rfl⟩ := okWide_slice Tryd.underlying32 hv
  obtain ⟨l, A, cap, h1, h2, h3, h4, h5⟩ := (OpensB.deed.slice Tryd.underlying32 (by kernel_rfl)).arg h hw
  simp [Value.cells] at h1
  obtain ⟨rfl, rfl, rfl⟩ := h1
  exact ⟨_, _, l, rfl, h2, h5⟩
set_option maxRecDepth 20000 in
theorem open_bytesB {spare : Nat → Bool} (hv : Value.okWide Tryd.prog W .any b 26 v) (h : DataW.Trod enc Tryd.prog W base spare held 26 v d p) (hw : Rows.uptoBulk d ≤ 1048576) :
    ∃ (A : Option Addr) (cap : Nat) (l : By), v = .slice A l.length cap ∧ Bs W A l ∧ l.length ≤ cap ∧ l.length ≤ 1048576 := by
  obtain ⟨a0, len0, cap0, rfl⟩ := okWide_slice Tryd.underlying26 hv
  obtain ⟨l, A, cap, h1, h2, h3, h4, h5⟩ := OpensB.bytes.arg h hw
  simp [Value.cells] at h1
  obtain ⟨rfl, rfl, rfl⟩ := h1
  exact ⟨_, _, l, rfl, h2.bytes.bs, h3, h5⟩
set_option maxRecDepth 20000 in
theorem open_ddeedB {spare : Nat → Bool} (hv : Value.okWide Tryd.prog W .any b 28 v) (h : DataW.Trod enc Tryd.prog W base spare held 28 v d p) (hw : Rows.uptoBulk d ≤ 1048576) :
    ∃ (A : Option Addr) (cap : Nat) (x : Dd), v = .agg (ddC x (.slice A x.bytes.length cap)) ∧ Bs W A x.bytes ∧ x.bytes.length ≤ cap ∧ SmD x := by
  obtain ⟨cs, rfl, hsz⟩ := okWide_struct Tryd.underlying28 hv
  obtain ⟨u, A, cap, h1, h2, h3, h4⟩ := OpensB.deed.arg h hw
  refine ⟨A, cap, u, ?_, h2.bs, h3, h4⟩
  simp only [Value.cells] at h1
  congr 1
  exact Array.toList_inj.1 h1
set_option maxRecDepth 20000 in
theorem open_duserB {spare : Nat → Bool} (hv : Value.okWide Tryd.prog W .any b 42 v) (h : DataW.Trod enc Tryd.prog W base spare held 42 v d p) (hw : Rows.uptoBulk d ≤ 1048576) :
    ∃ (A : Option Addr) (cap : Nat) (x : Us), v = .agg (usC x (.slice A x.boxes.length cap)) ∧ RsM RBxB 4 [] W A x.boxes ∧ x.boxes.length ≤ cap ∧ x.boxes.length ≤ 1048576 ∧ x.name.length ≤ 1048576 := by
  obtain ⟨cs, rfl, hsz⟩ := okWide_struct Tryd.underlying42 hv
  obtain ⟨u, A, cap, h1, h2, h3, h4, h5⟩ := OpensB.user.arg h hw
  refine ⟨A, cap, u, ?_, h2, h3, h4, h5⟩
  simp only [Value.cells] at h1
  congr 1
  exact Array.toList_inj.1 h1
end
end Go.Proofs.YtameamfaaenboaaDoor
namespace Go.Proofs.YtameamfaaenboaaDoor
open Go.ChangeShapes Go.WideShapes Go.ChangeAt Go.RowKit
open Go.ChangeMaps (open_string shut_string)
set_option maxRecDepth 20000 in
theorem open_strB {H : Type} {enc : TypeId × Value → H} {W : World} {base b : Nat} {held : Bool} {v : Value} {d : DataW H} {p : List MemPlace} {spare : Nat → Bool} (hv : Value.okWide Tryd.prog W .any b 9 v) (h : DataW.Trod enc Tryd.prog W base spare held 9 v d p) :
    ∃ s : ByteArray, v = .string s ∧ s.size ≤ Rows.uptoBulk d := by
  obtain ⟨s, rfl, rfl, rfl, hm⟩ := open_string Tryd.underlying9 hv h
  have hl : s.data.toList.length = s.size := by unfold ByteArray.size; simp
  exact ⟨s, rfl, by simp only [Rows.uptoBulk]; omega⟩
set_option maxRecDepth 20000 in
theorem first_eq : Rows.laid_unicode_utf8_first = Lib.firstData := by kernel_rfl
set_option maxRecDepth 20000 in
theorem accept_eq : (Rows.laid_unicode_utf8_acceptRanges : DataW Unit) = Lib.acceptData := by kernel_rfl
set_option maxRecDepth 20000 in
/-- the two tables, as each row of this seat lists them -/
theorem tabs_laid {W : World} (l : List (String × DataW Unit)) (hl : l = Rows.deedNamesUptoRow.laid) (h : laidMetH Tryd.prog l W) : Tabs W := by
  subst hl
  have hL : laidMet Tryd.prog Rows.deedNamesUptoRow.laid W := h
  exact utf8Tabs_of_reads (ρ := Tryd.lays197_ren) { Tryd.lays197 with } ⟨by kernel_rfl, by kernel_rfl, by kernel_rfl, by kernel_rfl, by kernel_rfl, by kernel_rfl, by kernel_rfl⟩ (Lib.laidMet.reads hL (by rw [← first_eq]; exact .tail _ (.head _))) (Lib.laidMet.reads hL (by rw [← accept_eq]; exact .head _))
/-- the settled world, the two tables holding what their initialisers lay -/
noncomputable def laidWorld (os : Os) : World :=
  let w0 := World.holding Tryd.prog os ⟨#[], #[], []⟩
  let put (h : Array Obj) (g : Nat) (cs : Array Value) : Array Obj := h.modify g fun
    | .cells _ t frozen => .cells cs t frozen
    | o => o
  let h1 := put w0.heap 0 (Lib.firstTab.map fun z => Value.int .u8 z).toArray
  let h2 := put h1 1 ((List.range 16).flatMap fun i => [Value.int .u8 (Lib.accLo i), Value.int .u8 (Lib.accHi i)]).toArray
  { w0 with heap := h2 }
set_option maxRecDepth 20000 in
theorem tabs_met (os : Os) (args : Array Value) : laidMet Tryd.prog Rows.deedNamesUptoRow.laid ((laidWorld os).forCall (fun _ _ => 0) ⟨#[], args, []⟩).memory :=
  laidMet_of_run' 8 (by kernel_rfl) (by kernel_rfl)
end Go.Proofs.YtameamfaaenboaaDoor
