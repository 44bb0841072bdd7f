/- From an argument that can be read to what the walks are told of it. Conditions: the hypotheses of each theorem. From what can be read of a type (ints, bools, slices, structs) to what the walks are told of its cells. Conditions: the hypotheses of each theorem. From what can be read to an order: two lists of strings, a body. Conditions: the hypotheses of each theorem. From the shape of a row's first world to the library's own variable; the wrap of a row with a condition that hands on the world's shape. Conditions: the hypotheses of each theorem. -/
import Derived.Test.YtchokelpimibdaaRows
import Derived.Test.YtchokelpimibdaaLib
import Derived.ProofKit
import Derived.OpenShut
import Derived.ShutString
import Derived.ChangeOld
import Derived.SizedLaws
import Derived.JoinedCond
import Derived.Deep.CondSized
import Derived.Carry
import Derived.Test.YtchokelpimibdaaMut
import Derived.Deep.Slices
import Derived.Test.YtchokelpimibdaaSm2
import Derived.Test.YtchokelpimibdaaLn2
import Derived.HandedShaped
import Derived.Shelf.Vars
namespace Go.Proofs.Ytchokelpimibdaa
open Go.ChangeShapes Go.WideShapes Go.ChangeAt Go.RowKit
open Go.ChangeMaps (open_string shut_string)
/-! ## from an argument that can be read to what the walks are told of it -/
theorem row_own : ownKnob Try.prog.godebug = none := by kernel_rfl
theorem row_laid : laidOutB Try.prog = true := by kernel_rfl
theorem bulk_le {H : Type} {d : DataW H} {l : List (DataW H)} (h : d ∈ l) : Rows.uptoBulk d ≤ Rows.uptoBulkAll l := by
  induction l with
  | nil => cases h
  | cons x r ih =>
    simp only [Rows.uptoBulkAll]
    cases List.mem_cons.1 h with
    | inl e => subst e; omega
    | inr e => have := ih e; omega
theorem bulk_pos {H : Type} (d : DataW H) : 1 ≤ Rows.uptoBulk d := by
  cases d with
  | lit l => cases l <;> simp [Rows.uptoBulk]
  | nil => simp [Rows.uptoBulk]
  | ptr d => simp [Rows.uptoBulk]
  | slice elems spare => simp [Rows.uptoBulk]
  | agg parts => simp [Rows.uptoBulk]
  | iface t d => simp [Rows.uptoBulk]
  | map entries => simp [Rows.uptoBulk]
  | held h => simp [Rows.uptoBulk]
theorem bulk_len {H : Type} (l : List (DataW H)) : l.length ≤ Rows.uptoBulkAll l := by
  induction l with
  | nil => simp [Rows.uptoBulkAll]
  | cons x r ih => have := bulk_pos x; simp only [Rows.uptoBulkAll, List.length_cons]; omega
theorem bulk_slice {H : Type} (elems spare : List (DataW H)) : elems.length + 1 ≤ Rows.uptoBulk (.slice elems spare) := by
  have h1 := bulk_len elems
  simp only [Rows.uptoBulk]
  omega
def toB (z : Int) : UInt8 := UInt8.ofNat z.toNat
theorem toB_val {z : Int} (h : (Lit.int .u8 z).wf = true) : ((toB z).toNat : Int) = z := by
  have h1 := bounds_u8 h
  unfold toB
  rw [UInt8.toNat_ofNat']
  omega
theorem weights_at {H : Type} {ts : List TypeId} {ds : List (DataW H)} (h : (DataW.weightsEach Try.prog ts ds).all (· ≤ reachBytes) = true) (j : Nat) {t : TypeId} {d : DataW H} (ht : ts[j]? = some t) (hd : ds[j]? = some d) :
    ∀ n ∈ d.weights Try.prog t, n ≤ reachBytes := fun n hn => by
  have := List.all_eq_true.1 h n (DataW.weights_mem_each ht hd n hn)
  simpa using this
section
variable {H : Type} {enc : TypeId × Value → H} {W : World} {base b : Nat} {held : Bool} {v : Value} {d : DataW H} {p : List MemPlace}
set_option maxRecDepth 20000 in
theorem open_bytes {spare : Nat → Bool} (hv : Value.okWide Try.prog W .any b 22 v) (h : DataW.Trod enc Try.prog W base spare held 22 v d p) (hw : ∀ n ∈ d.weights Try.prog 22, n ≤ reachBytes) :
    ∃ (A : Option Addr) (cap : Nat) (l : List UInt8), v = .slice A l.length cap ∧ l.length ≤ cap ∧ cap ≤ 9223372036854775807 ∧ Bs W A l ∧ l.length ≤ 140737488351232 ∧ l.length ≤ Rows.uptoBulk d := by
  obtain ⟨a0, len0, cap0, rfl⟩ := okWide_slice Try.underlying22 hv
  obtain ⟨fuel, hf⟩ := h
  rcases open_ints Try.underlying22 Try.underlying5 (by kernel_rfl) hf with ⟨hcs, _⟩ | ⟨x, l, c, zs, hcs, _, hl, hm, hz, hx, hcell, hwz⟩
  · simp [Value.cells] at hcs
    obtain ⟨rfl, rfl, rfl⟩ := hcs
    exact ⟨none, 0, [], rfl, by simp, by omega, Sl.nil _ _, by simp, by simp⟩
  · simp [Value.cells] at hcs
    obtain ⟨rfl, rfl, rfl⟩ := hcs
    have hlz : len0 ≤ zs.length := by rw [hz]; split <;> omega
    have hlen : ((zs.take len0).map toB).length = len0 := by simp; omega
    simp only [Prod.mk.injEq] at hx
    obtain ⟨rfl, _⟩ := hx
    have hwt := hw ((lits .u8 (zs.take len0) : List (DataW H)).length + (lits .u8 (zs.drop len0) : List (DataW H)).length |> (· * Try.prog.bytesOf 5)) (by simp [DataW.weights, Try.underlying22])
    have hb1 : Try.prog.bytesOf 5 = 1 := by kernel_rfl
    rw [hb1] at hwt
    simp only [lits, List.length_map, List.length_take, List.length_drop, reachBytes] at hwt
    refine ⟨some x, cap0, (zs.take len0).map toB, by rw [hlen], by omega, hm, ?_, by rw [hlen]; omega, ?_⟩
    · intro k u hk
      refine ⟨x, rfl, ?_⟩
      simp only [bv, List.map_map, List.getElem?_map, Option.map_eq_some_iff] at hk
      obtain ⟨z, hz1, rfl⟩ := hk
      have hk1 : k < len0 := by
        rcases Nat.lt_or_ge k len0 with h | h
        · exact h
        · rw [List.getElem?_eq_none (by simp; omega)] at hz1; cases hz1
      rw [List.getElem?_take_of_lt hk1] at hz1
      have hk2 : k < zs.length := by omega
      rw [List.getElem?_eq_getElem hk2, Option.some_inj] at hz1
      rw [hcell k hk2]
      simp only [Function.comp]
      rw [toB_val (hwz z (by rw [← hz1]; exact List.getElem_mem hk2)), ← hz1]
      simp [List.getD, List.getElem?_eq_getElem hk2]
    · have := bulk_slice (H := H) (lits .u8 (zs.take len0)) (lits .u8 (zs.drop len0))
      simp only [lits, List.length_map, List.length_take] at this
      rw [hlen]
      simp only [lits]
      omega
end
end Go.Proofs.Ytchokelpimibdaa
namespace Go.Proofs.Ytchokelpimibdaa
open Go.ChangeShapes Go.WideShapes Go.ChangeAt Go.RowKit Go.Deep
/-- what reads as type t has s cells, and says some a -/
def Opens {α : Type} (t s : Nat) (R : Reading α) : Prop :=
  ∀ (H : Type) (enc : TypeId × Value → H) (W : World) (base : Nat) (spare : Nat → Bool) (held : Bool) (fuel : Nat) (cs : List Value) (x : DataW H × List MemPlace),
    DataW.trod enc Try.prog W base spare held fuel t cs = some x → (∀ n ∈ x.1.weights Try.prog t, n ≤ reachBytes) → cs.length = s ∧ ∃ a, R.says [] W cs a
section
variable {H : Type} {P : Program}
theorem weightsAll_mem' {e : TypeId} : ∀ {l : List (DataW H)} {d : DataW H}, d ∈ l → ∀ n ∈ d.weights P e, n ∈ DataW.weightsAll P e l
  | d' :: r, d, hd, n, hn => by
    simp only [DataW.weightsAll, List.mem_append]
    rcases List.mem_cons.1 hd with rfl | h
    · exact Or.inl hn
    · exact Or.inr (weightsAll_mem' h n hn)
theorem weights_struct_at {t : TypeId} {fs : Array Field} (ht : P.underlying t = some (.struct fs)) {parts : List (DataW H)} {r : Nat} (hw : ∀ n ∈ (DataW.agg parts).weights P t, n ≤ r) (j : Nat) {f : Field} {d : DataW H} (hf : fs[j]? = some f) (hd : parts[j]? = some d) :
    ∀ n ∈ d.weights P f.type, n ≤ r := fun n hn => by
  refine hw n ?_
  simp only [DataW.weights, ht]
  exact DataW.weights_mem_each (j := j) (t := f.type) (by simp [hf]) hd n hn
theorem weights_slice_at {t e : TypeId} (ht : P.underlying t = some (.slice e)) {elems spare : List (DataW H)} {r : Nat} (hw : ∀ n ∈ (DataW.slice elems spare).weights P t, n ≤ r) {d : DataW H} (hd : d ∈ elems) : ∀ n ∈ d.weights P e, n ≤ r := fun n hn => by
  refine hw n ?_
  simp only [DataW.weights, ht, List.mem_cons, List.mem_append]
  exact .inr (.inl (weightsAll_mem' hd n hn))
theorem weights_slice_len {t e : TypeId} (ht : P.underlying t = some (.slice e)) {elems spare : List (DataW H)} {r : Nat} (hw : ∀ n ∈ (DataW.slice elems spare).weights P t, n ≤ r) : elems.length * P.bytesOf e ≤ r := by
  have := hw ((elems.length + spare.length) * P.bytesOf e) (by simp [DataW.weights, ht])
  have h2 : elems.length * P.bytesOf e ≤ (elems.length + spare.length) * P.bytesOf e := Nat.mul_le_mul_right _ (by omega)
  omega
end
def RInt : Reading Int where
  says _ _ cs z := cs = [.int .i64 z] ∧ (Lit.int .i64 z).wf = true
  kept := fun h _ => h
  old := fun h _ => h
def RBool : Reading Bool where
  says _ _ cs z := cs = [.bool z]
  kept := fun h _ => h
  old := fun h _ => h
def RB : Reading UInt8 where
  says _ _ cs z := cs = [.int .u8 (z.toNat : Int)]
  kept := fun h _ => h
  old := fun h _ => h
/-- a slice of elements of s cells and B bytes -/
def RSl {α : Type} (R : Reading α) (s B : Nat) : Reading (List α) where
  says M w cs xs := ∃ A cap, cs = [.slice A xs.length cap] ∧ RsM R s M w A xs ∧ xs.length ≤ cap ∧ cap ≤ 9223372036854775807 ∧ xs.length * B ≤ 140737488351232
  kept := by
    rintro M w w' cs x ⟨A, cap, h1, h2, h3⟩ hx
    exact ⟨A, cap, h1, h2.kept hx, h3⟩
  old := by
    rintro M N w cs x ⟨A, cap, h1, h2, h3⟩ hx
    exact ⟨A, cap, h1, h2.old hx, h3⟩
def RStr : Reading (List UInt8) where
  says _ _ cs z := cs = [.string (⟨z.toArray⟩ : ByteArray)] ∧ z.length ≤ 140737488351232
  kept := fun h _ => h
  old := fun h _ => h
theorem Opens.int {t : Nat} (h : Try.prog.underlying t = some (.int .i64)) : Opens t 1 RInt := fun H enc W base spare held fuel cs x hx _ => by
  obtain ⟨n, rfl, _, hw⟩ := DataW.trod_int h hx
  exact ⟨rfl, n, rfl, hw⟩
theorem Opens.u8 {t : Nat} (h : Try.prog.underlying t = some (.int .u8)) : Opens t 1 RB := fun H enc W base spare held fuel cs x hx _ => by
  obtain ⟨n, rfl, _, hw⟩ := DataW.trod_int h hx
  exact ⟨rfl, toB n, by simp only [RB]; rw [toB_val hw]⟩
theorem Opens.bool {t : Nat} (h : Try.prog.underlying t = some .bool) : Opens t 1 RBool := fun H enc W base spare held fuel cs x hx _ => by
  obtain ⟨b, rfl, _⟩ := DataW.trod_bool h hx
  exact ⟨rfl, b, rfl⟩
theorem Opens.str {t : Nat} (h : Try.prog.underlying t = some .string) : Opens t 1 RStr := fun H enc W base spare held fuel cs x hx hw => by
  obtain ⟨s, rfl, rfl, _⟩ := DataW.trod_string h hx
  have hl : s.data.toList.length = s.size := by unfold ByteArray.size; simp
  have hwt := hw s.data.toList.length (by simp [DataW.weights])
  simp only [reachBytes] at hwt
  exact ⟨rfl, s.data.toList, by simp, by omega⟩
theorem Opens.slice {α : Type} {t e s B : Nat} {R : Reading α} (h : Opens e s R) (ht : Try.prog.underlying t = some (.slice e)) (hs : Try.prog.cellsOf e = s) (hB : Try.prog.bytesOf e = B) : Opens t 1 (RSl R s B) := fun H enc W base spare held fuel cs x hx hw => by
  subst hs hB
  rcases open_slice ht hx with ⟨rfl, rfl⟩ | ⟨a, len, cap, m, n, D, Pl, rfl, hb, hl, hm, hmm, rfl, hi⟩
  · exact ⟨rfl, [], none, 0, rfl, RsM.nil _ _ _ _ _, by simp, by simp, by simp⟩
  · refine ⟨rfl, ?_⟩
    have hlm : len ≤ m := by rw [hmm]; split <;> omega
    have key : ∀ i, i < len → ∃ (cs' : List Value) (z : α), cs'.length = Try.prog.cellsOf e ∧ (∀ (j : Nat) (v : Value), cs'[j]? = some v → W.cell? (a.add (i * Try.prog.cellsOf e + j)) = some v) ∧ R.says [] W cs' z := by
      intro i hil
      obtain ⟨cs', hc, ht'⟩ := hi i (by omega)
      obtain ⟨_, hcl, hat⟩ := World.cells?_some hc
      have hd : D i ∈ (List.range len).map D := List.mem_map.2 ⟨i, by simpa using hil, rfl⟩
      obtain ⟨h1, z, hz⟩ := h H enc W base spare held n cs' _ ht' (weights_slice_at ht hw hd)
      refine ⟨cs', z, h1, fun j v hv => ?_, hz⟩
      have hj : j < Try.prog.cellsOf e := by rw [← h1]; exact (List.getElem?_eq_some_iff.1 hv).1
      rw [← add_add, hat j hj]
      exact hv
    have hlist : ∀ k, k ≤ len → ∃ (css : List (List Value)) (xs : List α), css.length = k ∧ xs.length = k ∧ (∀ c ∈ css, c.length = Try.prog.cellsOf e) ∧
        (∀ (i : Nat) (c : List Value), css[i]? = some c → ∀ (j : Nat) (v : Value), c[j]? = some v → W.cell? (a.add (i * Try.prog.cellsOf e + j)) = some v) ∧
        ∀ (i : Nat) (c : List Value) (z : α), css[i]? = some c → xs[i]? = some z → R.says [] W c z := by
      intro k
      induction k with
      | zero => exact fun _ => ⟨[], [], rfl, rfl, by simp, by simp, by simp⟩
      | succ k ih =>
        intro hk
        obtain ⟨css, xs, g1, g2, g3, g4, g5⟩ := ih (by omega)
        obtain ⟨c, z, q1, q2, q3⟩ := key k (by omega)
        refine ⟨css ++ [c], xs ++ [z], by simp [g1], by simp [g2], ?_, ?_, ?_⟩
        · intro c' hc'
          rcases List.mem_append.1 hc' with h | h
          · exact g3 c' h
          · simp at h; subst h; exact q1
        · intro i c' hc'
          rw [List.getElem?_append] at hc'
          split at hc'
          · exact g4 i c' hc'
          · have hi0 : i = css.length := by
              rcases Nat.lt_or_ge css.length i with h | h
              · rw [List.getElem?_eq_none (by simp; omega)] at hc'; cases hc'
              · omega
            subst hi0
            simp at hc'
            subst hc'
            rw [g1]
            exact q2
        · intro i c' z' hc' hz'
          rw [List.getElem?_append] at hc' hz'
          rw [g1] at hc'
          rw [g2] at hz'
          split at hc'
          · rename_i hlt
            rw [if_pos hlt] at hz'
            exact g5 i c' z' hc' hz'
          · rename_i hge
            rw [if_neg hge] at hz'
            have hi0 : i = k := by
              rcases Nat.lt_or_ge k i with h | h
              · rw [List.getElem?_eq_none (by simp; omega)] at hc'; cases hc'
              · omega
            subst hi0
            simp at hc' hz'
            subst hc' hz'
            exact q3
    obtain ⟨css, xs, g1, g2, g3, g4, g5⟩ := hlist len (Nat.le_refl _)
    refine ⟨xs, some a, cap, by rw [g2], ⟨css, by rw [g1, g2], g3, ?_, g5⟩, by rw [g2]; exact hl, hm, ?_⟩
    · intro i v hv
      have hi' : i < css.flatten.length := (List.getElem?_eq_some_iff.1 hv).1
      rw [flatten_length g3] at hi'
      rcases Nat.eq_zero_or_pos (Try.prog.cellsOf e) with h0 | h0
      · rw [h0] at hi'; omega
      · have hk : i / Try.prog.cellsOf e < css.length := Nat.div_lt_of_lt_mul (by rwa [Nat.mul_comm])
        have hj := Nat.mod_lt i h0
        have hv2 := flatten_get g3 (i / Try.prog.cellsOf e) (i % Try.prog.cellsOf e) _ (List.getElem?_eq_getElem hk) hj
        rw [Nat.div_add_mod' i (Try.prog.cellsOf e), hv] at hv2
        refine ⟨a, rfl, by simp, ?_⟩
        have := g4 _ _ (List.getElem?_eq_getElem hk) (i % Try.prog.cellsOf e) v hv2.symm
        rwa [Nat.div_add_mod' i (Try.prog.cellsOf e)] at this
    · have := weights_slice_len ht hw
      simp only [List.length_map, List.length_range, reachBytes] at this
      rw [g2]
      exact this
theorem RsM.bytes {M : List Nat} {w : World} {A : Option Addr} {l : List UInt8} (h : RsM RB 1 M w A l) : BsM M w A l := by
  intro k v hk
  have hk' : k < l.length := by
    have := (List.getElem?_eq_some_iff.1 hk).1
    simpa using this
  obtain ⟨ad, cs, e, hn, _, hc, hs⟩ := h.at_ (by omega) hk'
  refine ⟨ad, e, hn, ?_⟩
  rw [bv_get hk'] at hk
  cases hk
  have := hc 0 (.int .u8 (l[k].toNat : Int)) (by rw [show cs = _ from hs]; rfl)
  simpa using this
/-- a struct: one of its fields -/
theorem struct_field {H : Type} {enc : TypeId × Value → H} {W : World} {base : Nat} {spare : Nat → Bool} {held : Bool} {fuel : Nat} {cs : List Value} {x : DataW H × List MemPlace} {t : Nat} {fs : Array Field} (ht : Try.prog.underlying t = some (.struct fs))
    (hx : DataW.trod enc Try.prog W base spare held fuel t cs = some x) (hw : ∀ n ∈ x.1.weights Try.prog t, n ≤ reachBytes) (j : Nat) {f : Field} (hf : fs[j]? = some f) {α : Type} {s : Nat} {R : Reading α} (ho : Opens f.type s R) (hs : Try.prog.cellsOf f.type = s) :
    ∃ a, R.says [] W ((cs.drop f.offset).take s) a := by
  subst hs
  obtain ⟨xs, n, rfl, rfl, hl, hxl, hg⟩ := DataW.trod_struct ht hx
  have h1 := hg j f hf
  have hj : j < xs.length := by rw [hxl]; exact (Array.getElem?_eq_some_iff.1 hf).1
  rw [List.getElem?_eq_getElem hj] at h1
  exact (ho H enc W base spare held n _ _ h1 (weights_struct_at ht hw j hf (by simp [List.getElem?_eq_getElem hj]))).2
theorem struct_len {H : Type} {enc : TypeId × Value → H} {W : World} {base : Nat} {spare : Nat → Bool} {held : Bool} {fuel : Nat} {cs : List Value} {x : DataW H × List MemPlace} {t : Nat} {fs : Array Field} (ht : Try.prog.underlying t = some (.struct fs))
    (hx : DataW.trod enc Try.prog W base spare held fuel t cs = some x) : cs.length = Try.prog.cellsOf t := by
  obtain ⟨xs, n, _, _, hl, _⟩ := DataW.trod_struct ht hx
  exact hl
theorem Opens.bytes : Opens 22 1 (RSl RB 1 1) := (Opens.u8 Try.underlying5).slice Try.underlying22 (by kernel_rfl) (by kernel_rfl)
/-- from an argument to its cells -/
theorem Opens.arg {α : Type} {t s : Nat} {R : Reading α} (h : Opens t s R) {H : Type} {enc : TypeId × Value → H} {W : World} {base : Nat} {spare : Nat → Bool} {held : Bool} {v : Value} {d : DataW H} {p : List MemPlace}
    (hd : DataW.Trod enc Try.prog W base spare held t v d p) (hw : ∀ n ∈ d.weights Try.prog t, n ≤ reachBytes) : ∃ a, R.says [] W v.cells.toList a := by
  obtain ⟨fuel, hf⟩ := hd
  exact (h H enc W base spare held fuel _ _ hf hw).2
end Go.Proofs.Ytchokelpimibdaa
namespace Go.Proofs.Ytchokelpimibdaa
open Go.ChangeShapes Go.WideShapes Go.ChangeAt Go.RowKit Go.Deep
abbrev Odr := List By × List By × By
def ROrd : Reading Odr where
  says M w cs x := ∃ A1 c1 A2 c2 A3 c3, cs = [.slice A1 x.1.length c1, .slice A2 x.2.1.length c2, .slice A3 x.2.2.length c3] ∧ RsM RSt 1 M w A1 x.1 ∧ RsM RSt 1 M w A2 x.2.1 ∧ BsM M w A3 x.2.2 ∧ x.1.length ≤ 140737488355328 ∧ x.2.1.length ≤ 140737488355328
  kept := by
    rintro M w w' cs x ⟨A1, c1, A2, c2, A3, c3, h0, h1, h2, h3, h4⟩ hx
    exact ⟨A1, c1, A2, c2, A3, c3, h0, h1.kept hx, h2.kept hx, h3.kept hx, h4⟩
  old := by
    rintro M N w cs x ⟨A1, c1, A2, c2, A3, c3, h0, h1, h2, h3, h4⟩ hx
    exact ⟨A1, c1, A2, c2, A3, c3, h0, h1.old hx, h2.old hx, SlM.old h3 hx, h4⟩
theorem Opens.st : Opens 9 1 RSt := fun H enc W base spare held fuel cs x hx hw => by
  obtain ⟨h1, a, h2, _⟩ := Opens.str Try.underlying9 H enc W base spare held fuel cs x hx hw
  exact ⟨h1, a, h2⟩
theorem Opens.strs : Opens 29 1 (RSl RSt 1 16) := Opens.st.slice Try.underlying29 (by kernel_rfl) (by kernel_rfl)
theorem Opens.order : Opens 42 3 ROrd := fun H enc W base spare held fuel cs x hx hw => by
  have hl := struct_len Try.underlying42 hx
  have hC : Try.prog.cellsOf 42 = 3 := by kernel_rfl
  rw [hC] at hl
  obtain ⟨f, A1, c1, hf, f1, _, _, f2⟩ := struct_field Try.underlying42 hx hw 0 rfl Opens.strs (by kernel_rfl)
  obtain ⟨t, A2, c2, ht, t1, _, _, t2⟩ := struct_field Try.underlying42 hx hw 1 rfl Opens.strs (by kernel_rfl)
  obtain ⟨b, A3, c3, hb, b1, _, _, _⟩ := struct_field Try.underlying42 hx hw 2 rfl ((Opens.u8 Try.underlying5).slice (B := 1) Try.underlying22 (by kernel_rfl) (by kernel_rfl)) (by kernel_rfl)
  match cs, hl with
  | [x0, x1, x2], _ =>
    have e0 : x0 = .slice A1 f.length c1 := by simpa using hf
    have e1 : x1 = .slice A2 t.length c2 := by simpa using ht
    have e2 : x2 = .slice A3 b.length c3 := by simpa using hb
    subst e0 e1 e2
    exact ⟨rfl, ⟨f, t, b⟩, A1, c1, A2, c2, A3, c3, rfl, f1, t1, b1.bytes, by simp only; omega, by simp only; omega⟩
section
variable {H : Type} {enc : TypeId × Value → H} {W : World} {base b : Nat} {held : Bool} {v : Value} {d : DataW H} {p : List MemPlace}
set_option maxRecDepth 100000 in
theorem open_order {spare : Nat → Bool} (hv : Value.okWide Try.prog W .any b 42 v) (h : DataW.Trod enc Try.prog W base spare held 42 v d p) (hw : ∀ n ∈ d.weights Try.prog 42, n ≤ reachBytes) :
    ∃ (A1 : Option Addr) (c1 : Nat) (f : List By) (A2 : Option Addr) (c2 : Nat) (t : List By) (A3 : Option Addr) (c3 : Nat) (l : By), v = .agg #[.slice A1 f.length c1, .slice A2 t.length c2, .slice A3 l.length c3] ∧ RsM RSt 1 [] W A1 f ∧ RsM RSt 1 [] W A2 t ∧ Bs W A3 l ∧ f.length ≤ 140737488355328 ∧ t.length ≤ 140737488355328 := by
  obtain ⟨cs, rfl, hsz⟩ := okWide_struct Try.underlying42 hv
  obtain ⟨⟨f, t, l⟩, A1, c1, A2, c2, A3, c3, h1, h2, h3, h4, h5⟩ := Opens.order.arg h hw
  refine ⟨A1, c1, f, A2, c2, t, A3, c3, l, ?_, h2, h3, h4.bs, h5⟩
  simp only [Value.cells] at h1
  congr 1
  exact Array.toList_inj.1 (by simpa using h1)
end
end Go.Proofs.Ytchokelpimibdaa
namespace Go.Proofs.Ytchokelpimibdaa
open Go.ChangeShapes Go.WideShapes Go.ChangeAt Go.RowKit
theorem ml_of {W : World} (h : W.ShapedOpen Try.prog) : ML W :=
  cell_of_shapedOpen_int (P := Try.prog) (w := W) (g := 0) (t := 3) (zero := #[.int .i64 0]) h (of_decide_eq_true (by kernel_rfl)) (by kernel_rfl) rfl (by kernel_rfl) (by kernel_rfl) Try.underlying3
/-- as the kit's wrap for a row with a condition, and the world's shape is handed on -/
theorem ret_cond_shaped {H : Type} {enc : TypeId × Value → H} {a : Assume} {C : Checked} {os : Os} {f : FuncId} {fn : Func} {s : OpenSpec} {k : (H : Type) → List (DataW H) → Bool} (hk : s.cond = some k) {F : Stop.Interp} {conds : List PathCond} {apart fresh handsOn again : Bool}
    (own : ownKnob C.prog.godebug = none) (started : os.Started) (noInit : C.prog.inits.idxOf? f = none) (hfn : C.prog.funcs[f]? = some fn)
    (witness : ∃ (w : World) (tape : Tape) (i : Input), w.os = os ∧ (w.forCall tape i).Shaped C.prog ∧ i.vars = [] ∧ Input.okWide C.prog (w.forCall tape i) .any w.heap.size f i ∧
      s.pre6 enc C.prog fn conds apart (w.forCall tape i).memory i.args ∧ a.holds C.prog (lone (Frame.enter C.prog f i.args .normal) [] (w.forCall tape i)))
    (contract : ∀ (W : World) (base : Nat) (args : Array Value) (ds gs : List (DataW H)) (before : List MemPlace),
      (∀ (j : Nat) t v, fn.params[j]? = some t → args[j]? = some v → Value.okWide C.prog W .any base t v) →
      DataW.Whole enc C.prog fn.params.toList s.vars apart W args.toList ds gs before →
      conds.all (PathCond.test C.prog ⟨fn.params.toList, ds, s.bare.plain.varTypes C.prog, gs⟩) = true → k H (ds ++ gs) = true →
      (DataW.weightsEach C.prog (fn.params.toList ++ s.bare.plain.varTypes C.prog) (ds ++ gs)).all (· ≤ reachBytes) = true →
      W.ShapedOpen C.prog →
      a.holds C.prog (lone (Frame.enter C.prog f args .normal) [] W) →
      Calls C.prog f args W fun e W' => ∃ v, e = .returned v ∧ (s.at F).post enc C.prog fn apart fresh handsOn again W args v W') :
    ReturnsInHanded a C os f .any (s.pre6 enc C.prog fn conds apart) ((s.at F).post enc C.prog fn apart fresh handsOn again) := by
  refine returnsInHanded_of_calls own started noInit witness ?_
  intro w tape i _ hsh _ hok hpre hholds
  obtain ⟨_, _, _, fn', hfn', _, _, _, _, hval⟩ := hok
  have e : fn' = fn := Option.some.inj (hfn'.symm.trans hfn)
  subst e
  obtain ⟨ds, gs, before, hw, hc, hkk⟩ := (OpenSpec.pre_some hk conds apart _ _).1 hpre.1
  have hw' := DataW.Whole.of_heap (w' := w.forCall tape i) (by rfl) hw
  refine (contract (w.forCall tape i) w.heap.size i.args ds gs before hval hw' hc hkk (hpre.2.weights hw) hsh hholds).mono fun e W' ⟨v, he, hp⟩ => ?_
  subst he
  exact ChangeSpec.post_blind hp
/-- bytes that came in: a slice that has no row has no capacity -/
theorem open_bytes0 {H : Type} {enc : TypeId × Value → H} {W : World} {base b : Nat} {held : Bool} {v : Value} {d : DataW H} {p : List MemPlace} {spare : Nat → Bool} (hv : Value.okWide Try.prog W .any b 22 v) (h : DataW.Trod enc Try.prog W base spare held 22 v d p) (hw : ∀ n ∈ d.weights Try.prog 22, n ≤ reachBytes) :
    ∃ (A : Option Addr) (cap : Nat) (l : List UInt8), v = .slice A l.length cap ∧ l.length ≤ cap ∧ cap ≤ 9223372036854775807 ∧ Bs W A l ∧ l.length ≤ 140737488351232 ∧ l.length ≤ Rows.uptoBulk d ∧ (A = none → cap = 0) := by
  obtain ⟨A, c, l, rfl, h1, h2, h3, h4, h5⟩ := open_bytes hv h hw
  refine ⟨A, c, l, rfl, h1, h2, h3, h4, h5, ?_⟩
  rintro rfl
  obtain ⟨fuel, hf⟩ := h
  rcases open_ints Try.underlying22 Try.underlying5 (by kernel_rfl) hf with ⟨hcs, _⟩ | ⟨x, l', c', zs, hcs, _⟩
  · simp [Value.cells] at hcs
    exact hcs.2
  · simp [Value.cells] at hcs
end Go.Proofs.Ytchokelpimibdaa
