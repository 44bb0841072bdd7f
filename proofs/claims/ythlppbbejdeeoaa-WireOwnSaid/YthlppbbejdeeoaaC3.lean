/- From an argument that can be read to what the walks are told of it. Conditions: the hypotheses of each theorem. From what can be read of a type (ints, bools, slices, structs) to what the walks are told of its cells. Conditions: the hypotheses of each theorem. From what can be read to deeds. Conditions: the hypotheses of each theorem. From what can be read to messages. Conditions: the hypotheses of each theorem. -/
import Derived.Test.YthlppbbejdeeoaaRows
import Derived.Test.YthlppbbejdeeoaaLib
import Derived.ProofKit
import Derived.OpenShut
import Derived.ShutString
import Derived.ChangeOld
import Derived.SizedLaws
import Derived.JoinedCond
import Derived.Deep.CondSized
import Derived.Carry
import Derived.Test.YthlppbbejdeeoaaMut
import Derived.Deep.Slices
import Derived.Test.YthlppbbejdeeoaaDd13
import Derived.Test.YthlppbbejdeeoaaWrAM
namespace Go.Proofs.Ythlppbbejdeeoaa
open Go.ChangeShapes Go.WideShapes Go.ChangeAt Go.RowKit
open Go.ChangeMaps (open_string shut_string)
/-! ## from an argument that can be read to what the walks are told of it -/
theorem row_own : ownKnob Try.prog.godebug = none := by kernel_rfl
theorem row_laid : laidOutB Try.prog = true := by kernel_rfl
theorem bulk_le {H : Type} {d : DataW H} {l : List (DataW H)} (h : d ∈ l) : Rows.uptoBulk d ≤ Rows.uptoBulkAll l := by
  induction l with
  | nil => cases h
  | cons x r ih =>
    simp only [Rows.uptoBulkAll]
    cases List.mem_cons.1 h with
    | inl e => subst e; omega
    | inr e => have := ih e; omega
theorem bulk_pos {H : Type} (d : DataW H) : 1 ≤ Rows.uptoBulk d := by
  cases d with
  | lit l => cases l <;> simp [Rows.uptoBulk]
  | nil => simp [Rows.uptoBulk]
  | ptr d => simp [Rows.uptoBulk]
  | slice elems spare => simp [Rows.uptoBulk]
  | agg parts => simp [Rows.uptoBulk]
  | iface t d => simp [Rows.uptoBulk]
  | map entries => simp [Rows.uptoBulk]
  | held h => simp [Rows.uptoBulk]
theorem bulk_len {H : Type} (l : List (DataW H)) : l.length ≤ Rows.uptoBulkAll l := by
  induction l with
  | nil => simp [Rows.uptoBulkAll]
  | cons x r ih => have := bulk_pos x; simp only [Rows.uptoBulkAll, List.length_cons]; omega
theorem bulk_slice {H : Type} (elems spare : List (DataW H)) : elems.length + 1 ≤ Rows.uptoBulk (.slice elems spare) := by
  have h1 := bulk_len elems
  simp only [Rows.uptoBulk]
  omega
def toB (z : Int) : UInt8 := UInt8.ofNat z.toNat
theorem toB_val {z : Int} (h : (Lit.int .u8 z).wf = true) : ((toB z).toNat : Int) = z := by
  have h1 := bounds_u8 h
  unfold toB
  rw [UInt8.toNat_ofNat']
  omega
theorem weights_at {H : Type} {ts : List TypeId} {ds : List (DataW H)} (h : (DataW.weightsEach Try.prog ts ds).all (· ≤ reachBytes) = true) (j : Nat) {t : TypeId} {d : DataW H} (ht : ts[j]? = some t) (hd : ds[j]? = some d) :
    ∀ n ∈ d.weights Try.prog t, n ≤ reachBytes := fun n hn => by
  have := List.all_eq_true.1 h n (DataW.weights_mem_each ht hd n hn)
  simpa using this
section
variable {H : Type} {enc : TypeId × Value → H} {W : World} {base b : Nat} {held : Bool} {v : Value} {d : DataW H} {p : List MemPlace}
set_option maxRecDepth 20000 in
theorem open_bytes {spare : Nat → Bool} (hv : Value.okWide Try.prog W .any b 32 v) (h : DataW.Trod enc Try.prog W base spare held 32 v d p) (hw : ∀ n ∈ d.weights Try.prog 32, n ≤ reachBytes) :
    ∃ (A : Option Addr) (cap : Nat) (l : List UInt8), v = .slice A l.length cap ∧ l.length ≤ cap ∧ cap ≤ 9223372036854775807 ∧ Bs W A l ∧ l.length ≤ 140737488351232 ∧ l.length ≤ Rows.uptoBulk d := by
  obtain ⟨a0, len0, cap0, rfl⟩ := okWide_slice Try.underlying32 hv
  obtain ⟨fuel, hf⟩ := h
  rcases open_ints Try.underlying32 Try.underlying5 (by kernel_rfl) hf with ⟨hcs, _⟩ | ⟨x, l, c, zs, hcs, _, hl, hm, hz, hx, hcell, hwz⟩
  · simp [Value.cells] at hcs
    obtain ⟨rfl, rfl, rfl⟩ := hcs
    exact ⟨none, 0, [], rfl, by simp, by omega, Sl.nil _ _, by simp, by simp⟩
  · simp [Value.cells] at hcs
    obtain ⟨rfl, rfl, rfl⟩ := hcs
    have hlz : len0 ≤ zs.length := by rw [hz]; split <;> omega
    have hlen : ((zs.take len0).map toB).length = len0 := by simp; omega
    simp only [Prod.mk.injEq] at hx
    obtain ⟨rfl, _⟩ := hx
    have hwt := hw ((lits .u8 (zs.take len0) : List (DataW H)).length + (lits .u8 (zs.drop len0) : List (DataW H)).length |> (· * Try.prog.bytesOf 5)) (by simp [DataW.weights, Try.underlying32])
    have hb1 : Try.prog.bytesOf 5 = 1 := by kernel_rfl
    rw [hb1] at hwt
    simp only [lits, List.length_map, List.length_take, List.length_drop, reachBytes] at hwt
    refine ⟨some x, cap0, (zs.take len0).map toB, by rw [hlen], by omega, hm, ?_, by rw [hlen]; omega, ?_⟩
    · intro k u hk
      refine ⟨x, rfl, ?_⟩
      simp only [bv, List.map_map, List.getElem?_map, Option.map_eq_some_iff] at hk
      obtain ⟨z, hz1, rfl⟩ := hk
      have hk1 : k < len0 := by
        rcases Nat.lt_or_ge k len0 with h | h
        · exact h
        · rw [List.getElem?_eq_none (by simp; omega)] at hz1; cases hz1
      rw [List.getElem?_take_of_lt hk1] at hz1
      have hk2 : k < zs.length := by omega
      rw [List.getElem?_eq_getElem hk2, Option.some_inj] at hz1
      rw [hcell k hk2]
      simp only [Function.comp]
      rw [toB_val (hwz z (by rw [← hz1]; exact List.getElem_mem hk2)), ← hz1]
      simp [List.getD, List.getElem?_eq_getElem hk2]
    · have := bulk_slice (H := H) (lits .u8 (zs.take len0)) (lits .u8 (zs.drop len0))
      simp only [lits, List.length_map, List.length_take] at this
      rw [hlen]
      simp only [lits]
      omega
end
end Go.Proofs.Ythlppbbejdeeoaa
namespace Go.Proofs.Ythlppbbejdeeoaa
open Go.ChangeShapes Go.WideShapes Go.ChangeAt Go.RowKit Go.Deep
/-- what reads as type t has s cells, and says some a -/
def Opens {α : Type} (t s : Nat) (R : Reading α) : Prop :=
  ∀ (H : Type) (enc : TypeId × Value → H) (W : World) (base : Nat) (spare : Nat → Bool) (held : Bool) (fuel : Nat) (cs : List Value) (x : DataW H × List MemPlace),
    DataW.trod enc Try.prog W base spare held fuel t cs = some x → (∀ n ∈ x.1.weights Try.prog t, n ≤ reachBytes) → cs.length = s ∧ ∃ a, R.says [] W cs a
section
variable {H : Type} {P : Program}
theorem weightsAll_mem' {e : TypeId} : ∀ {l : List (DataW H)} {d : DataW H}, d ∈ l → ∀ n ∈ d.weights P e, n ∈ DataW.weightsAll P e l
  | d' :: r, d, hd, n, hn => by
    simp only [DataW.weightsAll, List.mem_append]
    rcases List.mem_cons.1 hd with rfl | h
    · exact Or.inl hn
    · exact Or.inr (weightsAll_mem' h n hn)
theorem weights_struct_at {t : TypeId} {fs : Array Field} (ht : P.underlying t = some (.struct fs)) {parts : List (DataW H)} {r : Nat} (hw : ∀ n ∈ (DataW.agg parts).weights P t, n ≤ r) (j : Nat) {f : Field} {d : DataW H} (hf : fs[j]? = some f) (hd : parts[j]? = some d) :
    ∀ n ∈ d.weights P f.type, n ≤ r := fun n hn => by
  refine hw n ?_
  simp only [DataW.weights, ht]
  exact DataW.weights_mem_each (j := j) (t := f.type) (by simp [hf]) hd n hn
theorem weights_slice_at {t e : TypeId} (ht : P.underlying t = some (.slice e)) {elems spare : List (DataW H)} {r : Nat} (hw : ∀ n ∈ (DataW.slice elems spare).weights P t, n ≤ r) {d : DataW H} (hd : d ∈ elems) : ∀ n ∈ d.weights P e, n ≤ r := fun n hn => by
  refine hw n ?_
  simp only [DataW.weights, ht, List.mem_cons, List.mem_append]
  exact .inr (.inl (weightsAll_mem' hd n hn))
theorem weights_slice_len {t e : TypeId} (ht : P.underlying t = some (.slice e)) {elems spare : List (DataW H)} {r : Nat} (hw : ∀ n ∈ (DataW.slice elems spare).weights P t, n ≤ r) : elems.length * P.bytesOf e ≤ r := by
  have := hw ((elems.length + spare.length) * P.bytesOf e) (by simp [DataW.weights, ht])
  have h2 : elems.length * P.bytesOf e ≤ (elems.length + spare.length) * P.bytesOf e := Nat.mul_le_mul_right _ (by omega)
  omega
end
def RInt : Reading Int where
  says _ _ cs z := cs = [.int .i64 z] ∧ (Lit.int .i64 z).wf = true
  kept := fun h _ => h
  old := fun h _ => h
def RBool : Reading Bool where
  says _ _ cs z := cs = [.bool z]
  kept := fun h _ => h
  old := fun h _ => h
def RB : Reading UInt8 where
  says _ _ cs z := cs = [.int .u8 (z.toNat : Int)]
  kept := fun h _ => h
  old := fun h _ => h
/-- a slice of elements of s cells and B bytes -/
def RSl {α : Type} (R : Reading α) (s B : Nat) : Reading (List α) where
  says M w cs xs := ∃ A cap, cs = [.slice A xs.length cap] ∧ RsM R s M w A xs ∧ xs.length ≤ cap ∧ cap ≤ 9223372036854775807 ∧ xs.length * B ≤ 140737488351232
  kept := by
    rintro M w w' cs x ⟨A, cap, h1, h2, h3⟩ hx
    exact ⟨A, cap, h1, h2.kept hx, h3⟩
  old := by
    rintro M N w cs x ⟨A, cap, h1, h2, h3⟩ hx
    exact ⟨A, cap, h1, h2.old hx, h3⟩
def RStr : Reading (List UInt8) where
  says _ _ cs z := cs = [.string (⟨z.toArray⟩ : ByteArray)] ∧ z.length ≤ 140737488351232
  kept := fun h _ => h
  old := fun h _ => h
theorem Opens.int {t : Nat} (h : Try.prog.underlying t = some (.int .i64)) : Opens t 1 RInt := fun H enc W base spare held fuel cs x hx _ => by
  obtain ⟨n, rfl, _, hw⟩ := DataW.trod_int h hx
  exact ⟨rfl, n, rfl, hw⟩
theorem Opens.u8 {t : Nat} (h : Try.prog.underlying t = some (.int .u8)) : Opens t 1 RB := fun H enc W base spare held fuel cs x hx _ => by
  obtain ⟨n, rfl, _, hw⟩ := DataW.trod_int h hx
  exact ⟨rfl, toB n, by simp only [RB]; rw [toB_val hw]⟩
theorem Opens.bool {t : Nat} (h : Try.prog.underlying t = some .bool) : Opens t 1 RBool := fun H enc W base spare held fuel cs x hx _ => by
  obtain ⟨b, rfl, _⟩ := DataW.trod_bool h hx
  exact ⟨rfl, b, rfl⟩
theorem Opens.str {t : Nat} (h : Try.prog.underlying t = some .string) : Opens t 1 RStr := fun H enc W base spare held fuel cs x hx hw => by
  obtain ⟨s, rfl, rfl, _⟩ := DataW.trod_string h hx
  have hl : s.data.toList.length = s.size := by unfold ByteArray.size; simp
  have hwt := hw s.data.toList.length (by simp [DataW.weights])
  simp only [reachBytes] at hwt
  exact ⟨rfl, s.data.toList, by simp, by omega⟩
theorem Opens.slice {α : Type} {t e s B : Nat} {R : Reading α} (h : Opens e s R) (ht : Try.prog.underlying t = some (.slice e)) (hs : Try.prog.cellsOf e = s) (hB : Try.prog.bytesOf e = B) : Opens t 1 (RSl R s B) := fun H enc W base spare held fuel cs x hx hw => by
  subst hs hB
  rcases open_slice ht hx with ⟨rfl, rfl⟩ | ⟨a, len, cap, m, n, D, Pl, rfl, hb, hl, hm, hmm, rfl, hi⟩
  · exact ⟨rfl, [], none, 0, rfl, RsM.nil _ _ _ _ _, by simp, by simp, by simp⟩
  · refine ⟨rfl, ?_⟩
    have hlm : len ≤ m := by rw [hmm]; split <;> omega
    have key : ∀ i, i < len → ∃ (cs' : List Value) (z : α), cs'.length = Try.prog.cellsOf e ∧ (∀ (j : Nat) (v : Value), cs'[j]? = some v → W.cell? (a.add (i * Try.prog.cellsOf e + j)) = some v) ∧ R.says [] W cs' z := by
      intro i hil
      obtain ⟨cs', hc, ht'⟩ := hi i (by omega)
      obtain ⟨_, hcl, hat⟩ := World.cells?_some hc
      have hd : D i ∈ (List.range len).map D := List.mem_map.2 ⟨i, by simpa using hil, rfl⟩
      obtain ⟨h1, z, hz⟩ := h H enc W base spare held n cs' _ ht' (weights_slice_at ht hw hd)
      refine ⟨cs', z, h1, fun j v hv => ?_, hz⟩
      have hj : j < Try.prog.cellsOf e := by rw [← h1]; exact (List.getElem?_eq_some_iff.1 hv).1
      rw [← add_add, hat j hj]
      exact hv
    have hlist : ∀ k, k ≤ len → ∃ (css : List (List Value)) (xs : List α), css.length = k ∧ xs.length = k ∧ (∀ c ∈ css, c.length = Try.prog.cellsOf e) ∧
        (∀ (i : Nat) (c : List Value), css[i]? = some c → ∀ (j : Nat) (v : Value), c[j]? = some v → W.cell? (a.add (i * Try.prog.cellsOf e + j)) = some v) ∧
        ∀ (i : Nat) (c : List Value) (z : α), css[i]? = some c → xs[i]? = some z → R.says [] W c z := by
      intro k
      induction k with
      | zero => exact fun _ => ⟨[], [], rfl, rfl, by simp, by simp, by simp⟩
      | succ k ih =>
        intro hk
        obtain ⟨css, xs, g1, g2, g3, g4, g5⟩ := ih (by omega)
        obtain ⟨c, z, q1, q2, q3⟩ := key k (by omega)
        refine ⟨css ++ [c], xs ++ [z], by simp [g1], by simp [g2], ?_, ?_, ?_⟩
        · intro c' hc'
          rcases List.mem_append.1 hc' with h | h
          · exact g3 c' h
          · simp at h; subst h; exact q1
        · intro i c' hc'
          rw [List.getElem?_append] at hc'
          split at hc'
          · exact g4 i c' hc'
          · have hi0 : i = css.length := by
              rcases Nat.lt_or_ge css.length i with h | h
              · rw [List.getElem?_eq_none (by simp; omega)] at hc'; cases hc'
              · omega
            subst hi0
            simp at hc'
            subst hc'
            rw [g1]
            exact q2
        · intro i c' z' hc' hz'
          rw [List.getElem?_append] at hc' hz'
          rw [g1] at hc'
          rw [g2] at hz'
          split at hc'
          · rename_i hlt
            rw [if_pos hlt] at hz'
            exact g5 i c' z' hc' hz'
          · rename_i hge
            rw [if_neg hge] at hz'
            have hi0 : i = k := by
              rcases Nat.lt_or_ge k i with h | h
              · rw [List.getElem?_eq_none (by simp; omega)] at hc'; cases hc'
              · omega
            subst hi0
            simp at hc' hz'
            subst hc' hz'
            exact q3
    obtain ⟨css, xs, g1, g2, g3, g4, g5⟩ := hlist len (Nat.le_refl _)
    refine ⟨xs, some a, cap, by rw [g2], ⟨css, by rw [g1, g2], g3, ?_, g5⟩, by rw [g2]; exact hl, hm, ?_⟩
    · intro i v hv
      have hi' : i < css.flatten.length := (List.getElem?_eq_some_iff.1 hv).1
      rw [flatten_length g3] at hi'
      rcases Nat.eq_zero_or_pos (Try.prog.cellsOf e) with h0 | h0
      · rw [h0] at hi'; omega
      · have hk : i / Try.prog.cellsOf e < css.length := Nat.div_lt_of_lt_mul (by rwa [Nat.mul_comm])
        have hj := Nat.mod_lt i h0
        have hv2 := flatten_get g3 (i / Try.prog.cellsOf e) (i % Try.prog.cellsOf e) _ (List.getElem?_eq_getElem hk) hj
        rw [Nat.div_add_mod' i (Try.prog.cellsOf e), hv] at hv2
        refine ⟨a, rfl, by simp, ?_⟩
        have := g4 _ _ (List.getElem?_eq_getElem hk) (i % Try.prog.cellsOf e) v hv2.symm
        rwa [Nat.div_add_mod' i (Try.prog.cellsOf e)] at this
    · have := weights_slice_len ht hw
      simp only [List.length_map, List.length_range, reachBytes] at this
      rw [g2]
      exact this
theorem RsM.bytes {M : List Nat} {w : World} {A : Option Addr} {l : List UInt8} (h : RsM RB 1 M w A l) : BsM M w A l := by
  intro k v hk
  have hk' : k < l.length := by
    have := (List.getElem?_eq_some_iff.1 hk).1
    simpa using this
  obtain ⟨ad, cs, e, hn, _, hc, hs⟩ := h.at_ (by omega) hk'
  refine ⟨ad, e, hn, ?_⟩
  rw [bv_get hk'] at hk
  cases hk
  have := hc 0 (.int .u8 (l[k].toNat : Int)) (by rw [show cs = _ from hs]; rfl)
  simpa using this
/-- a struct: one of its fields -/
theorem struct_field {H : Type} {enc : TypeId × Value → H} {W : World} {base : Nat} {spare : Nat → Bool} {held : Bool} {fuel : Nat} {cs : List Value} {x : DataW H × List MemPlace} {t : Nat} {fs : Array Field} (ht : Try.prog.underlying t = some (.struct fs))
    (hx : DataW.trod enc Try.prog W base spare held fuel t cs = some x) (hw : ∀ n ∈ x.1.weights Try.prog t, n ≤ reachBytes) (j : Nat) {f : Field} (hf : fs[j]? = some f) {α : Type} {s : Nat} {R : Reading α} (ho : Opens f.type s R) (hs : Try.prog.cellsOf f.type = s) :
    ∃ a, R.says [] W ((cs.drop f.offset).take s) a := by
  subst hs
  obtain ⟨xs, n, rfl, rfl, hl, hxl, hg⟩ := DataW.trod_struct ht hx
  have h1 := hg j f hf
  have hj : j < xs.length := by rw [hxl]; exact (Array.getElem?_eq_some_iff.1 hf).1
  rw [List.getElem?_eq_getElem hj] at h1
  exact (ho H enc W base spare held n _ _ h1 (weights_struct_at ht hw j hf (by simp [List.getElem?_eq_getElem hj]))).2
theorem struct_len {H : Type} {enc : TypeId × Value → H} {W : World} {base : Nat} {spare : Nat → Bool} {held : Bool} {fuel : Nat} {cs : List Value} {x : DataW H × List MemPlace} {t : Nat} {fs : Array Field} (ht : Try.prog.underlying t = some (.struct fs))
    (hx : DataW.trod enc Try.prog W base spare held fuel t cs = some x) : cs.length = Try.prog.cellsOf t := by
  obtain ⟨xs, n, _, _, hl, _⟩ := DataW.trod_struct ht hx
  exact hl
theorem Opens.bytes : Opens 32 1 (RSl RB 1 1) := (Opens.u8 Try.underlying5).slice Try.underlying32 (by kernel_rfl) (by kernel_rfl)
/-- from an argument to its cells -/
theorem Opens.arg {α : Type} {t s : Nat} {R : Reading α} (h : Opens t s R) {H : Type} {enc : TypeId × Value → H} {W : World} {base : Nat} {spare : Nat → Bool} {held : Bool} {v : Value} {d : DataW H} {p : List MemPlace}
    (hd : DataW.Trod enc Try.prog W base spare held t v d p) (hw : ∀ n ∈ d.weights Try.prog t, n ≤ reachBytes) : ∃ a, R.says [] W v.cells.toList a := by
  obtain ⟨fuel, hf⟩ := hd
  exact (h H enc W base spare held fuel _ _ hf hw).2
end Go.Proofs.Ythlppbbejdeeoaa
namespace Go.Proofs.Ythlppbbejdeeoaa
open Go.ChangeShapes Go.WideShapes Go.ChangeAt Go.RowKit Go.Deep
theorem st_mk (z : By) : (⟨z.toArray⟩ : ByteArray) = st z := rfl
set_option maxRecDepth 20000 in
theorem Opens.deed : Opens 48 10 RDd := fun H enc W base spare held fuel cs x hx hw => by
  have hl := struct_len Try.underlying48 hx
  have hC : Try.prog.cellsOf 48 = 10 := by kernel_rfl
  rw [hC] at hl
  obtain ⟨a0, h0⟩ := struct_field Try.underlying48 hx hw 0 rfl (Opens.int Try.underlying46) (by kernel_rfl)
  obtain ⟨a1, h1⟩ := struct_field Try.underlying48 hx hw 1 rfl (Opens.str Try.underlying9) (by kernel_rfl)
  obtain ⟨a2, h2⟩ := struct_field Try.underlying48 hx hw 2 rfl (Opens.str Try.underlying9) (by kernel_rfl)
  obtain ⟨a3, h3⟩ := struct_field Try.underlying48 hx hw 3 rfl (Opens.str Try.underlying9) (by kernel_rfl)
  obtain ⟨a4, h4⟩ := struct_field Try.underlying48 hx hw 4 rfl (Opens.int Try.underlying3) (by kernel_rfl)
  obtain ⟨a5, h5⟩ := struct_field Try.underlying48 hx hw 5 rfl (Opens.int Try.underlying3) (by kernel_rfl)
  obtain ⟨a6, h6⟩ := struct_field Try.underlying48 hx hw 6 rfl (Opens.u8 Try.underlying5) (by kernel_rfl)
  obtain ⟨a7, h7⟩ := struct_field Try.underlying48 hx hw 7 rfl (Opens.int Try.underlying3) (by kernel_rfl)
  obtain ⟨a8, h8⟩ := struct_field Try.underlying48 hx hw 8 rfl (Opens.int Try.underlying3) (by kernel_rfl)
  obtain ⟨a9, A9, c9, h9, g1, g2, g3, g4⟩ := struct_field Try.underlying48 hx hw 9 rfl Opens.bytes (by kernel_rfl)
  match cs, hl with
  | [c0, c1, c2, c3, c4, c5, c6, c7, c8, c9'], _ =>
    have e0 : c0 = .int .i64 a0 := by simpa [RInt] using h0.1
    have e1 : c1 = .string (st a1) := by simpa [RStr, st] using h1.1
    have e2 : c2 = .string (st a2) := by simpa [RStr, st] using h2.1
    have e3 : c3 = .string (st a3) := by simpa [RStr, st] using h3.1
    have e4 : c4 = .int .i64 a4 := by simpa [RInt] using h4.1
    have e5 : c5 = .int .i64 a5 := by simpa [RInt] using h5.1
    have e6 : c6 = .int .u8 (a6.toNat : Int) := by simpa [RB] using h6
    have e7 : c7 = .int .i64 a7 := by simpa [RInt] using h7.1
    have e8 : c8 = .int .i64 a8 := by simpa [RInt] using h8.1
    have e9 : c9' = .slice A9 a9.length c9 := by simpa using h9
    subst e0 e1 e2 e3 e4 e5 e6 e7 e8 e9
    exact ⟨rfl, ⟨a0, a1, a2, a3, a4, a5, a6, a7, a8, a9⟩, A9, c9, rfl, g1.bytes, g2, by simpa using g4, h1.2, h2.2, h3.2⟩
section
variable {H : Type} {enc : TypeId × Value → H} {W : World} {base b : Nat} {held : Bool} {v : Value} {d : DataW H} {p : List MemPlace}
set_option maxRecDepth 20000 in
theorem open_ddeeds {spare : Nat → Bool} (hv : Value.okWide Try.prog W .any b 26 v) (h : DataW.Trod enc Try.prog W base spare held 26 v d p) (hw : ∀ n ∈ d.weights Try.prog 26, n ≤ reachBytes) :
    ∃ (A : Option Addr) (cap : Nat) (l : List Dd), v = .slice A l.length cap ∧ RsM RDd 10 [] W A l ∧ l.length ≤ 140737488351232 := by
  obtain ⟨a0, len0, cap0, rfl⟩ := okWide_slice Try.underlying26 hv
  obtain ⟨l, A, cap, h1, h2, h3, h4, h5⟩ := (Opens.deed.slice (B := 120) Try.underlying26 (by kernel_rfl) (by kernel_rfl)).arg h hw
  simp [Value.cells] at h1
  obtain ⟨rfl, rfl, rfl⟩ := h1
  exact ⟨_, _, l, rfl, h2, by omega⟩
set_option maxRecDepth 20000 in
theorem open_ddeed {spare : Nat → Bool} (hv : Value.okWide Try.prog W .any b 48 v) (h : DataW.Trod enc Try.prog W base spare held 48 v d p) (hw : ∀ n ∈ d.weights Try.prog 48, n ≤ reachBytes) :
    ∃ (A : Option Addr) (cap : Nat) (x : Dd), v = .agg (ddC x (.slice A x.bytes.length cap)) ∧ Bs W A x.bytes ∧ x.bytes.length ≤ cap ∧ x.bytes.length ≤ 140737488351232 ∧ x.user.length ≤ 140737488351232 ∧ x.box.length ≤ 140737488351232 ∧ x.dest.length ≤ 140737488351232 := by
  obtain ⟨cs, rfl, hsz⟩ := okWide_struct Try.underlying48 hv
  obtain ⟨u, A, cap, h1, h2, h3, h4, h5, h6, h7⟩ := Opens.deed.arg h hw
  refine ⟨A, cap, u, ?_, h2.bs, h3, h4, h5, h6, h7⟩
  simp only [Value.cells] at h1
  congr 1
  exact Array.toList_inj.1 h1
end
end Go.Proofs.Ythlppbbejdeeoaa
namespace Go.Proofs.Ythlppbbejdeeoaa
open Go.ChangeShapes Go.WideShapes Go.ChangeAt Go.RowKit Go.Deep
theorem RsM.ints {M : List Nat} {w : World} {A : Option Addr} {l : List Int} (h : RsM RInt 1 M w A l) : SlM M w A (doV l) := by
  intro k v hk
  have hk' : k < l.length := by
    have := (List.getElem?_eq_some_iff.1 hk).1
    simpa [doV] using this
  obtain ⟨ad, cs, e, hn, _, hc, hs⟩ := h.at_ (by omega) hk'
  refine ⟨ad, e, hn, ?_⟩
  rw [doV_get hk'] at hk
  cases hk
  have := hc 0 (.int .i64 l[k]) (by rw [show cs = _ from hs.1]; rfl)
  simpa using this
theorem Opens.ints : Opens 25 1 (RSl RInt 1 8) := (Opens.int Try.underlying3).slice Try.underlying25 (by kernel_rfl) (by kernel_rfl)
theorem Opens.deeds : Opens 26 1 (RSl RDd 10 120) := Opens.deed.slice Try.underlying26 (by kernel_rfl) (by kernel_rfl)
def RTx : Reading Tx3 where
  says _ _ cs t := cs = [.int .i64 t.node, .int .i64 t.boot, .int .i64 t.n]
  kept := fun h _ => h
  old := fun h _ => h
def RSeat : Reading (By × Int × Int) where
  says _ _ cs t := cs = [.string (st t.1), .int .i64 t.2.1, .int .i64 t.2.2]
  kept := fun h _ => h
  old := fun h _ => h
def RPart : Reading (Tx3 × List Int × List Dd × List Int) where
  says M w cs t := ∃ Ap Ad Ae cp cd ce, cs = [.int .i64 t.1.node, .int .i64 t.1.boot, .int .i64 t.1.n, .slice Ap t.2.1.length cp, .slice Ad t.2.2.1.length cd, .slice Ae t.2.2.2.length ce] ∧
    SlM M w Ap (doV t.2.1) ∧ RsM RDd 10 M w Ad t.2.2.1 ∧ SlM M w Ae (doV t.2.2.2) ∧ t.2.1.length ≤ 140737488351232 ∧ t.2.2.1.length ≤ 140737488351232 ∧ t.2.2.2.length ≤ 140737488351232
  kept := by
    rintro M w w' cs x ⟨Ap, Ad, Ae, cp, cd, ce, h1, h2, h3, h4, h5⟩ hx
    exact ⟨Ap, Ad, Ae, cp, cd, ce, h1, h2.kept hx, h3.kept hx, h4.kept hx, h5⟩
  old := by
    rintro M N w cs x ⟨Ap, Ad, Ae, cp, cd, ce, h1, h2, h3, h4, h5⟩ hx
    exact ⟨Ap, Ad, Ae, cp, cd, ce, h1, h2.old hx, h3.old hx, h4.old hx, h5⟩
def RVote : Reading (Int × List Int × (By × Int × Int) × By) where
  says M w cs t := ∃ An Av cn cv, cs = [.int .i64 t.1, .slice An t.2.1.length cn, .string (st t.2.2.1.1), .int .i64 t.2.2.1.2.1, .int .i64 t.2.2.1.2.2, .slice Av t.2.2.2.length cv] ∧
    SlM M w An (doV t.2.1) ∧ BsM M w Av t.2.2.2 ∧ t.2.1.length ≤ 140737488351232 ∧ t.2.2.2.length ≤ 140737488351232
  kept := by
    rintro M w w' cs x ⟨An, Av, cn, cv, h1, h2, h3, h5⟩ hx
    exact ⟨An, Av, cn, cv, h1, h2.kept hx, h3.kept hx, h5⟩
  old := by
    rintro M N w cs x ⟨An, Av, cn, cv, h1, h2, h3, h5⟩ hx
    exact ⟨An, Av, cn, cv, h1, h2.old hx, SlM.old h3 hx, h5⟩
def RMl : Reading Ml where
  says M w cs m := ∃ Ap Ad Ae An Av cp cd ce cn cv, cs = (mlC m (.slice Ap m.peers.length cp) (.slice Ad m.deeds.length cd) (.slice Ae m.epochs.length ce) (.slice An m.nums.length cn) (.slice Av m.vbytes.length cv)).toList ∧
    SlM M w Ap (doV m.peers) ∧ RsM RDd 10 M w Ad m.deeds ∧ SlM M w Ae (doV m.epochs) ∧ SlM M w An (doV m.nums) ∧ BsM M w Av m.vbytes ∧
    m.peers.length ≤ 140737488351232 ∧ m.deeds.length ≤ 140737488351232 ∧ m.epochs.length ≤ 140737488351232 ∧ m.nums.length ≤ 140737488351232 ∧ m.vbytes.length ≤ 140737488351232
  kept := by
    rintro M w w' cs x ⟨Ap, Ad, Ae, An, Av, cp, cd, ce, cn, cv, h1, h2, h3, h4, h5, h6, h7⟩ hx
    exact ⟨Ap, Ad, Ae, An, Av, cp, cd, ce, cn, cv, h1, h2.kept hx, h3.kept hx, h4.kept hx, h5.kept hx, h6.kept hx, h7⟩
  old := by
    rintro M N w cs x ⟨Ap, Ad, Ae, An, Av, cp, cd, ce, cn, cv, h1, h2, h3, h4, h5, h6, h7⟩ hx
    exact ⟨Ap, Ad, Ae, An, Av, cp, cd, ce, cn, cv, h1, h2.old hx, h3.old hx, h4.old hx, h5.old hx, SlM.old h6 hx, h7⟩
set_option maxRecDepth 20000 in
theorem Opens.tx : Opens 24 3 RTx := fun H enc W base spare held fuel cs x hx hw => by
  have hl := struct_len Try.underlying24 hx
  have hC : Try.prog.cellsOf 24 = 3 := by kernel_rfl
  rw [hC] at hl
  obtain ⟨a0, h0⟩ := struct_field Try.underlying24 hx hw 0 rfl (Opens.int Try.underlying3) (by kernel_rfl)
  obtain ⟨a1, h1⟩ := struct_field Try.underlying24 hx hw 1 rfl (Opens.int Try.underlying3) (by kernel_rfl)
  obtain ⟨a2, h2⟩ := struct_field Try.underlying24 hx hw 2 rfl (Opens.int Try.underlying3) (by kernel_rfl)
  match cs, hl with
  | [c0, c1, c2], _ =>
    have e0 : c0 = .int .i64 a0 := by simpa [RInt] using h0.1
    have e1 : c1 = .int .i64 a1 := by simpa [RInt] using h1.1
    have e2 : c2 = .int .i64 a2 := by simpa [RInt] using h2.1
    subst e0 e1 e2
    exact ⟨rfl, ⟨a0, a1, a2⟩, rfl⟩
set_option maxRecDepth 20000 in
theorem Opens.seat : Opens 31 3 RSeat := fun H enc W base spare held fuel cs x hx hw => by
  have hl := struct_len Try.underlying31 hx
  have hC : Try.prog.cellsOf 31 = 3 := by kernel_rfl
  rw [hC] at hl
  obtain ⟨a0, h0⟩ := struct_field Try.underlying31 hx hw 0 rfl (Opens.str Try.underlying9) (by kernel_rfl)
  obtain ⟨a1, h1⟩ := struct_field Try.underlying31 hx hw 1 rfl (Opens.int Try.underlying3) (by kernel_rfl)
  obtain ⟨a2, h2⟩ := struct_field Try.underlying31 hx hw 2 rfl (Opens.int Try.underlying3) (by kernel_rfl)
  match cs, hl with
  | [c0, c1, c2], _ =>
    have e0 : c0 = .string (st a0) := by simpa [RStr, st] using h0.1
    have e1 : c1 = .int .i64 a1 := by simpa [RInt] using h1.1
    have e2 : c2 = .int .i64 a2 := by simpa [RInt] using h2.1
    subst e0 e1 e2
    exact ⟨rfl, ⟨a0, a1, a2⟩, rfl⟩
set_option maxRecDepth 20000 in
theorem Opens.part : Opens 28 6 RPart := fun H enc W base spare held fuel cs x hx hw => by
  have hl := struct_len Try.underlying28 hx
  have hC : Try.prog.cellsOf 28 = 6 := by kernel_rfl
  rw [hC] at hl
  obtain ⟨a0, h0⟩ := struct_field Try.underlying28 hx hw 0 rfl Opens.tx (by kernel_rfl)
  obtain ⟨a1, A1, c1, h1, g11, g12, g13, g14⟩ := struct_field Try.underlying28 hx hw 1 rfl Opens.ints (by kernel_rfl)
  obtain ⟨a2, A2, c2, h2, g21, g22, g23, g24⟩ := struct_field Try.underlying28 hx hw 2 rfl Opens.deeds (by kernel_rfl)
  obtain ⟨a3, A3, c3, h3, g31, g32, g33, g34⟩ := struct_field Try.underlying28 hx hw 3 rfl Opens.ints (by kernel_rfl)
  match cs, hl with
  | [d0, d1, d2, d3, d4, d5], _ =>
    have e0 : d0 = .int .i64 a0.node ∧ d1 = .int .i64 a0.boot ∧ d2 = .int .i64 a0.n := by simpa [RTx] using h0
    have e3 : d3 = .slice A1 a1.length c1 := by simpa using h1
    have e4 : d4 = .slice A2 a2.length c2 := by simpa using h2
    have e5 : d5 = .slice A3 a3.length c3 := by simpa using h3
    obtain ⟨e0, e1, e2⟩ := e0
    subst e0 e1 e2 e3 e4 e5
    exact ⟨rfl, ⟨a0, a1, a2, a3⟩, A1, A2, A3, c1, c2, c3, rfl, g11.ints, g21, g31.ints, (show a1.length ≤ 140737488351232 by omega), (show a2.length ≤ 140737488351232 by omega), (show a3.length ≤ 140737488351232 by omega)⟩
set_option maxRecDepth 20000 in
theorem Opens.vote : Opens 34 6 RVote := fun H enc W base spare held fuel cs x hx hw => by
  have hl := struct_len Try.underlying34 hx
  have hC : Try.prog.cellsOf 34 = 6 := by kernel_rfl
  rw [hC] at hl
  obtain ⟨a0, h0⟩ := struct_field Try.underlying34 hx hw 0 rfl (Opens.int Try.underlying29) (by kernel_rfl)
  obtain ⟨a1, A1, c1, h1, g11, g12, g13, g14⟩ := struct_field Try.underlying34 hx hw 1 rfl Opens.ints (by kernel_rfl)
  obtain ⟨a2, h2⟩ := struct_field Try.underlying34 hx hw 2 rfl Opens.seat (by kernel_rfl)
  obtain ⟨a3, A3, c3, h3, g31, g32, g33, g34⟩ := struct_field Try.underlying34 hx hw 3 rfl Opens.bytes (by kernel_rfl)
  match cs, hl with
  | [d0, d1, d2, d3, d4, d5], _ =>
    have e0 : d0 = .int .i64 a0 := by simpa [RInt] using h0.1
    have e1 : d1 = .slice A1 a1.length c1 := by simpa using h1
    have e2 : d2 = .string (st a2.1) ∧ d3 = .int .i64 a2.2.1 ∧ d4 = .int .i64 a2.2.2 := by simpa [RSeat] using h2
    have e5 : d5 = .slice A3 a3.length c3 := by simpa using h3
    obtain ⟨e2, e3, e4⟩ := e2
    subst e0 e1 e2 e3 e4 e5
    exact ⟨rfl, ⟨a0, a1, a2, a3⟩, A1, A3, c1, c3, rfl, g11.ints, g31.bytes, (show a1.length ≤ 140737488351232 by omega), (show a3.length ≤ 140737488351232 by omega)⟩
set_option maxRecDepth 20000 in
set_option maxHeartbeats 1000000 in
theorem Opens.mail : Opens 37 22 RMl := fun H enc W base spare held fuel cs x hx hw => by
  have hl := struct_len Try.underlying37 hx
  have hC : Try.prog.cellsOf 37 = 22 := by kernel_rfl
  rw [hC] at hl
  obtain ⟨a0, h0⟩ := struct_field Try.underlying37 hx hw 0 rfl (Opens.int Try.underlying22) (by kernel_rfl)
  obtain ⟨a1, h1⟩ := struct_field Try.underlying37 hx hw 1 rfl (Opens.int Try.underlying3) (by kernel_rfl)
  obtain ⟨a2, h2⟩ := struct_field Try.underlying37 hx hw 2 rfl (Opens.int Try.underlying3) (by kernel_rfl)
  obtain ⟨a3, h3⟩ := struct_field Try.underlying37 hx hw 3 rfl Opens.tx (by kernel_rfl)
  obtain ⟨a4, Ap, Ad, Ae, cp, cd, ce, h4, p1, p2, p3, p4, p5, p6⟩ := struct_field Try.underlying37 hx hw 4 rfl Opens.part (by kernel_rfl)
  obtain ⟨a5, An, Av, cn, cv, h5, v1, v2, v3, v4⟩ := struct_field Try.underlying37 hx hw 5 rfl Opens.vote (by kernel_rfl)
  obtain ⟨a6, h6⟩ := struct_field Try.underlying37 hx hw 6 rfl (Opens.int Try.underlying35) (by kernel_rfl)
  obtain ⟨a7, h7⟩ := struct_field Try.underlying37 hx hw 7 rfl (Opens.str Try.underlying9) (by kernel_rfl)
  obtain ⟨a8, h8⟩ := struct_field Try.underlying37 hx hw 8 rfl (Opens.int Try.underlying3) (by kernel_rfl)
  obtain ⟨a9, h9⟩ := struct_field Try.underlying37 hx hw 9 rfl (Opens.int Try.underlying3) (by kernel_rfl)
  obtain ⟨pt, pp, pd, pe⟩ := a4
  obtain ⟨ve, vn, ⟨vu, vs, vp⟩, vb⟩ := a5
  match cs, hl with
  | [d0, d1, d2, d3, d4, d5, d6, d7, d8, d9, d10, d11, d12, d13, d14, d15, d16, d17, d18, d19, d20, d21], _ =>
    have e0 : d0 = .int .i64 a0 := by simpa [RInt] using h0.1
    have e1 : d1 = .int .i64 a1 := by simpa [RInt] using h1.1
    have e2 : d2 = .int .i64 a2 := by simpa [RInt] using h2.1
    have e3 : d3 = .int .i64 a3.node ∧ d4 = .int .i64 a3.boot ∧ d5 = .int .i64 a3.n := by simpa [RTx] using h3
    have e6 : d6 = .int .i64 pt.node ∧ d7 = .int .i64 pt.boot ∧ d8 = .int .i64 pt.n ∧ d9 = .slice Ap pp.length cp ∧ d10 = .slice Ad pd.length cd ∧ d11 = .slice Ae pe.length ce := by simpa using h4
    have e12 : d12 = .int .i64 ve ∧ d13 = .slice An vn.length cn ∧ d14 = .string (st vu) ∧ d15 = .int .i64 vs ∧ d16 = .int .i64 vp ∧ d17 = .slice Av vb.length cv := by simpa using h5
    have e18 : d18 = .int .i64 a6 := by simpa [RInt] using h6.1
    have e19 : d19 = .string (st a7) := by simpa [RStr, st] using h7.1
    have e20 : d20 = .int .i64 a8 := by simpa [RInt] using h8.1
    have e21 : d21 = .int .i64 a9 := by simpa [RInt] using h9.1
    obtain ⟨e3, e4, e5⟩ := e3
    obtain ⟨e6, e7, e8, e9, e10, e11⟩ := e6
    obtain ⟨e12, e13, e14, e15, e16, e17⟩ := e12
    subst e0 e1 e2 e3 e4 e5 e6 e7 e8 e9 e10 e11 e12 e13 e14 e15 e16 e17 e18 e19 e20 e21
    exact ⟨rfl, ⟨a0, a1, a2, a3, pt, pp, pd, pe, ve, vn, vu, vs, vp, vb, a6, a7, a8, a9⟩, Ap, Ad, Ae, An, Av, cp, cd, ce, cn, cv, rfl, p1, p2, p3, v1, v2, p4, p5, p6, v3, v4⟩
section
variable {H : Type} {enc : TypeId × Value → H} {W : World} {base b : Nat} {held : Bool} {v : Value} {d : DataW H} {p : List MemPlace}
set_option maxRecDepth 20000 in
theorem open_mail {spare : Nat → Bool} (hv : Value.okWide Try.prog W .any b 37 v) (h : DataW.Trod enc Try.prog W base spare held 37 v d p) (hw : ∀ n ∈ d.weights Try.prog 37, n ≤ reachBytes) :
    ∃ (m : Ml) (Ap Ad Ae An Av : Option Addr) (cp cd ce cn cv : Nat), v = .agg (mlC m (.slice Ap m.peers.length cp) (.slice Ad m.deeds.length cd) (.slice Ae m.epochs.length ce) (.slice An m.nums.length cn) (.slice Av m.vbytes.length cv)) ∧
      Sl W Ap (doV m.peers) ∧ RsM RDd 10 [] W Ad m.deeds ∧ Sl W Ae (doV m.epochs) ∧ Sl W An (doV m.nums) ∧ Bs W Av m.vbytes ∧
      m.peers.length ≤ 140737488351232 ∧ m.deeds.length ≤ 140737488351232 ∧ m.epochs.length ≤ 140737488351232 ∧ m.nums.length ≤ 140737488351232 ∧ m.vbytes.length ≤ 140737488351232 := by
  obtain ⟨cs, rfl, hsz⟩ := okWide_struct Try.underlying37 hv
  obtain ⟨m, Ap, Ad, Ae, An, Av, cp, cd, ce, cn, cv, h1, h2, h3, h4, h5, h6, h7⟩ := Opens.mail.arg h hw
  refine ⟨m, Ap, Ad, Ae, An, Av, cp, cd, ce, cn, cv, ?_, h2.sl, h3, h4.sl, h5.sl, h6.bs, h7⟩
  simp only [Value.cells] at h1
  congr 1
  exact Array.toList_inj.1 h1
end
end Go.Proofs.Ythlppbbejdeeoaa
