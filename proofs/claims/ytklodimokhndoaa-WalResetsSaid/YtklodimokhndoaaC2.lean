/- From an argument that can be read to what the walks are told of it. Conditions: the hypotheses of each theorem. From what can be read of a type (ints, bools, slices, structs) to what the walks are told of its cells. Conditions: the hypotheses of each theorem. A script's deeds, records, and a crash, as they lie in memory. Each holds for every program and world; the conditions are the hypotheses of each theorem. From what can be read to a script's deeds, records, and a crash. Conditions: the hypotheses of each theorem. -/
import Derived.Test.YtklodimokhndoaaRows
import Derived.Test.YtklodimokhndoaaLib
import Derived.ProofKit
import Derived.OpenShut
import Derived.ShutString
import Derived.ChangeOld
import Derived.SizedLaws
import Derived.JoinedCond
import Derived.Deep.CondSized
import Derived.Carry
import Derived.Test.YtklodimokhndoaaMut
import Derived.Deep.Slices
import Derived.Test.YtklodimokhndoaaDe
namespace Go.Proofs.Ytklodimokhndoaa
open Go.ChangeShapes Go.WideShapes Go.ChangeAt Go.RowKit
open Go.ChangeMaps (open_string shut_string)
/-! ## from an argument that can be read to what the walks are told of it -/
theorem row_own : ownKnob Try.prog.godebug = none := by kernel_rfl
theorem row_laid : laidOutB Try.prog = true := by kernel_rfl
theorem bulk_le {H : Type} {d : DataW H} {l : List (DataW H)} (h : d ∈ l) : Rows.uptoBulk d ≤ Rows.uptoBulkAll l := by
  induction l with
  | nil => cases h
  | cons x r ih =>
    simp only [Rows.uptoBulkAll]
    cases List.mem_cons.1 h with
    | inl e => subst e; omega
    | inr e => have := ih e; omega
theorem bulk_pos {H : Type} (d : DataW H) : 1 ≤ Rows.uptoBulk d := by
  cases d with
  | lit l => cases l <;> simp [Rows.uptoBulk]
  | nil => simp [Rows.uptoBulk]
  | ptr d => simp [Rows.uptoBulk]
  | slice elems spare => simp [Rows.uptoBulk]
  | agg parts => simp [Rows.uptoBulk]
  | iface t d => simp [Rows.uptoBulk]
  | map entries => simp [Rows.uptoBulk]
  | held h => simp [Rows.uptoBulk]
theorem bulk_len {H : Type} (l : List (DataW H)) : l.length ≤ Rows.uptoBulkAll l := by
  induction l with
  | nil => simp [Rows.uptoBulkAll]
  | cons x r ih => have := bulk_pos x; simp only [Rows.uptoBulkAll, List.length_cons]; omega
theorem bulk_slice {H : Type} (elems spare : List (DataW H)) : elems.length + 1 ≤ Rows.uptoBulk (.slice elems spare) := by
  have h1 := bulk_len elems
  simp only [Rows.uptoBulk]
  omega
def toB (z : Int) : UInt8 := UInt8.ofNat z.toNat
theorem toB_val {z : Int} (h : (Lit.int .u8 z).wf = true) : ((toB z).toNat : Int) = z := by
  have h1 := bounds_u8 h
  unfold toB
  rw [UInt8.toNat_ofNat']
  omega
theorem weights_at {H : Type} {ts : List TypeId} {ds : List (DataW H)} (h : (DataW.weightsEach Try.prog ts ds).all (· ≤ reachBytes) = true) (j : Nat) {t : TypeId} {d : DataW H} (ht : ts[j]? = some t) (hd : ds[j]? = some d) :
    ∀ n ∈ d.weights Try.prog t, n ≤ reachBytes := fun n hn => by
  have := List.all_eq_true.1 h n (DataW.weights_mem_each ht hd n hn)
  simpa using this
section
variable {H : Type} {enc : TypeId × Value → H} {W : World} {base b : Nat} {held : Bool} {v : Value} {d : DataW H} {p : List MemPlace}
set_option maxRecDepth 20000 in
theorem open_bytes {spare : Nat → Bool} (hv : Value.okWide Try.prog W .any b 46 v) (h : DataW.Trod enc Try.prog W base spare held 46 v d p) (hw : ∀ n ∈ d.weights Try.prog 46, n ≤ reachBytes) :
    ∃ (A : Option Addr) (cap : Nat) (l : List UInt8), v = .slice A l.length cap ∧ l.length ≤ cap ∧ cap ≤ 9223372036854775807 ∧ Bs W A l ∧ l.length ≤ 140737488351232 ∧ l.length ≤ Rows.uptoBulk d := by
  obtain ⟨a0, len0, cap0, rfl⟩ := okWide_slice Try.underlying46 hv
  obtain ⟨fuel, hf⟩ := h
  rcases open_ints Try.underlying46 Try.underlying5 (by kernel_rfl) hf with ⟨hcs, _⟩ | ⟨x, l, c, zs, hcs, _, hl, hm, hz, hx, hcell, hwz⟩
  · simp [Value.cells] at hcs
    obtain ⟨rfl, rfl, rfl⟩ := hcs
    exact ⟨none, 0, [], rfl, by simp, by omega, Sl.nil _ _, by simp, by simp⟩
  · simp [Value.cells] at hcs
    obtain ⟨rfl, rfl, rfl⟩ := hcs
    have hlz : len0 ≤ zs.length := by rw [hz]; split <;> omega
    have hlen : ((zs.take len0).map toB).length = len0 := by simp; omega
    simp only [Prod.mk.injEq] at hx
    obtain ⟨rfl, _⟩ := hx
    have hwt := hw ((lits .u8 (zs.take len0) : List (DataW H)).length + (lits .u8 (zs.drop len0) : List (DataW H)).length |> (· * Try.prog.bytesOf 5)) (by simp [DataW.weights, Try.underlying46])
    have hb1 : Try.prog.bytesOf 5 = 1 := by kernel_rfl
    rw [hb1] at hwt
    simp only [lits, List.length_map, List.length_take, List.length_drop, reachBytes] at hwt
    refine ⟨some x, cap0, (zs.take len0).map toB, by rw [hlen], by omega, hm, ?_, by rw [hlen]; omega, ?_⟩
    · intro k u hk
      refine ⟨x, rfl, ?_⟩
      simp only [bv, List.map_map, List.getElem?_map, Option.map_eq_some_iff] at hk
      obtain ⟨z, hz1, rfl⟩ := hk
      have hk1 : k < len0 := by
        rcases Nat.lt_or_ge k len0 with h | h
        · exact h
        · rw [List.getElem?_eq_none (by simp; omega)] at hz1; cases hz1
      rw [List.getElem?_take_of_lt hk1] at hz1
      have hk2 : k < zs.length := by omega
      rw [List.getElem?_eq_getElem hk2, Option.some_inj] at hz1
      rw [hcell k hk2]
      simp only [Function.comp]
      rw [toB_val (hwz z (by rw [← hz1]; exact List.getElem_mem hk2)), ← hz1]
      simp [List.getD, List.getElem?_eq_getElem hk2]
    · have := bulk_slice (H := H) (lits .u8 (zs.take len0)) (lits .u8 (zs.drop len0))
      simp only [lits, List.length_map, List.length_take] at this
      rw [hlen]
      simp only [lits]
      omega
end
end Go.Proofs.Ytklodimokhndoaa
namespace Go.Proofs.Ytklodimokhndoaa
open Go.ChangeShapes Go.WideShapes Go.ChangeAt Go.RowKit Go.Deep
/-- what reads as type t has s cells, and says some a -/
def Opens {α : Type} (t s : Nat) (R : Reading α) : Prop :=
  ∀ (H : Type) (enc : TypeId × Value → H) (W : World) (base : Nat) (spare : Nat → Bool) (held : Bool) (fuel : Nat) (cs : List Value) (x : DataW H × List MemPlace),
    DataW.trod enc Try.prog W base spare held fuel t cs = some x → (∀ n ∈ x.1.weights Try.prog t, n ≤ reachBytes) → cs.length = s ∧ ∃ a, R.says [] W cs a
section
variable {H : Type} {P : Program}
theorem weightsAll_mem' {e : TypeId} : ∀ {l : List (DataW H)} {d : DataW H}, d ∈ l → ∀ n ∈ d.weights P e, n ∈ DataW.weightsAll P e l
  | d' :: r, d, hd, n, hn => by
    simp only [DataW.weightsAll, List.mem_append]
    rcases List.mem_cons.1 hd with rfl | h
    · exact Or.inl hn
    · exact Or.inr (weightsAll_mem' h n hn)
theorem weights_struct_at {t : TypeId} {fs : Array Field} (ht : P.underlying t = some (.struct fs)) {parts : List (DataW H)} {r : Nat} (hw : ∀ n ∈ (DataW.agg parts).weights P t, n ≤ r) (j : Nat) {f : Field} {d : DataW H} (hf : fs[j]? = some f) (hd : parts[j]? = some d) :
    ∀ n ∈ d.weights P f.type, n ≤ r := fun n hn => by
  refine hw n ?_
  simp only [DataW.weights, ht]
  exact DataW.weights_mem_each (j := j) (t := f.type) (by simp [hf]) hd n hn
theorem weights_slice_at {t e : TypeId} (ht : P.underlying t = some (.slice e)) {elems spare : List (DataW H)} {r : Nat} (hw : ∀ n ∈ (DataW.slice elems spare).weights P t, n ≤ r) {d : DataW H} (hd : d ∈ elems) : ∀ n ∈ d.weights P e, n ≤ r := fun n hn => by
  refine hw n ?_
  simp only [DataW.weights, ht, List.mem_cons, List.mem_append]
  exact .inr (.inl (weightsAll_mem' hd n hn))
theorem weights_slice_len {t e : TypeId} (ht : P.underlying t = some (.slice e)) {elems spare : List (DataW H)} {r : Nat} (hw : ∀ n ∈ (DataW.slice elems spare).weights P t, n ≤ r) : elems.length * P.bytesOf e ≤ r := by
  have := hw ((elems.length + spare.length) * P.bytesOf e) (by simp [DataW.weights, ht])
  have h2 : elems.length * P.bytesOf e ≤ (elems.length + spare.length) * P.bytesOf e := Nat.mul_le_mul_right _ (by omega)
  omega
end
def RInt : Reading Int where
  says _ _ cs z := cs = [.int .i64 z] ∧ (Lit.int .i64 z).wf = true
  kept := fun h _ => h
  old := fun h _ => h
def RBool : Reading Bool where
  says _ _ cs z := cs = [.bool z]
  kept := fun h _ => h
  old := fun h _ => h
def RB : Reading UInt8 where
  says _ _ cs z := cs = [.int .u8 (z.toNat : Int)]
  kept := fun h _ => h
  old := fun h _ => h
/-- a slice of elements of s cells and B bytes -/
def RSl {α : Type} (R : Reading α) (s B : Nat) : Reading (List α) where
  says M w cs xs := ∃ A cap, cs = [.slice A xs.length cap] ∧ RsM R s M w A xs ∧ xs.length ≤ cap ∧ cap ≤ 9223372036854775807 ∧ xs.length * B ≤ 140737488351232
  kept := by
    rintro M w w' cs x ⟨A, cap, h1, h2, h3⟩ hx
    exact ⟨A, cap, h1, h2.kept hx, h3⟩
  old := by
    rintro M N w cs x ⟨A, cap, h1, h2, h3⟩ hx
    exact ⟨A, cap, h1, h2.old hx, h3⟩
def RStr : Reading (List UInt8) where
  says _ _ cs z := cs = [.string (⟨z.toArray⟩ : ByteArray)] ∧ z.length ≤ 140737488351232
  kept := fun h _ => h
  old := fun h _ => h
theorem Opens.int {t : Nat} (h : Try.prog.underlying t = some (.int .i64)) : Opens t 1 RInt := fun H enc W base spare held fuel cs x hx _ => by
  obtain ⟨n, rfl, _, hw⟩ := DataW.trod_int h hx
  exact ⟨rfl, n, rfl, hw⟩
theorem Opens.u8 {t : Nat} (h : Try.prog.underlying t = some (.int .u8)) : Opens t 1 RB := fun H enc W base spare held fuel cs x hx _ => by
  obtain ⟨n, rfl, _, hw⟩ := DataW.trod_int h hx
  exact ⟨rfl, toB n, by simp only [RB]; rw [toB_val hw]⟩
theorem Opens.bool {t : Nat} (h : Try.prog.underlying t = some .bool) : Opens t 1 RBool := fun H enc W base spare held fuel cs x hx _ => by
  obtain ⟨b, rfl, _⟩ := DataW.trod_bool h hx
  exact ⟨rfl, b, rfl⟩
theorem Opens.str {t : Nat} (h : Try.prog.underlying t = some .string) : Opens t 1 RStr := fun H enc W base spare held fuel cs x hx hw => by
  obtain ⟨s, rfl, rfl, _⟩ := DataW.trod_string h hx
  have hl : s.data.toList.length = s.size := by unfold ByteArray.size; simp
  have hwt := hw s.data.toList.length (by simp [DataW.weights])
  simp only [reachBytes] at hwt
  exact ⟨rfl, s.data.toList, by simp, by omega⟩
theorem Opens.slice {α : Type} {t e s B : Nat} {R : Reading α} (h : Opens e s R) (ht : Try.prog.underlying t = some (.slice e)) (hs : Try.prog.cellsOf e = s) (hB : Try.prog.bytesOf e = B) : Opens t 1 (RSl R s B) := fun H enc W base spare held fuel cs x hx hw => by
  subst hs hB
  rcases open_slice ht hx with ⟨rfl, rfl⟩ | ⟨a, len, cap, m, n, D, Pl, rfl, hb, hl, hm, hmm, rfl, hi⟩
  · exact ⟨rfl, [], none, 0, rfl, RsM.nil _ _ _ _ _, by simp, by simp, by simp⟩
  · refine ⟨rfl, ?_⟩
    have hlm : len ≤ m := by rw [hmm]; split <;> omega
    have key : ∀ i, i < len → ∃ (cs' : List Value) (z : α), cs'.length = Try.prog.cellsOf e ∧ (∀ (j : Nat) (v : Value), cs'[j]? = some v → W.cell? (a.add (i * Try.prog.cellsOf e + j)) = some v) ∧ R.says [] W cs' z := by
      intro i hil
      obtain ⟨cs', hc, ht'⟩ := hi i (by omega)
      obtain ⟨_, hcl, hat⟩ := World.cells?_some hc
      have hd : D i ∈ (List.range len).map D := List.mem_map.2 ⟨i, by simpa using hil, rfl⟩
      obtain ⟨h1, z, hz⟩ := h H enc W base spare held n cs' _ ht' (weights_slice_at ht hw hd)
      refine ⟨cs', z, h1, fun j v hv => ?_, hz⟩
      have hj : j < Try.prog.cellsOf e := by rw [← h1]; exact (List.getElem?_eq_some_iff.1 hv).1
      rw [← add_add, hat j hj]
      exact hv
    have hlist : ∀ k, k ≤ len → ∃ (css : List (List Value)) (xs : List α), css.length = k ∧ xs.length = k ∧ (∀ c ∈ css, c.length = Try.prog.cellsOf e) ∧
        (∀ (i : Nat) (c : List Value), css[i]? = some c → ∀ (j : Nat) (v : Value), c[j]? = some v → W.cell? (a.add (i * Try.prog.cellsOf e + j)) = some v) ∧
        ∀ (i : Nat) (c : List Value) (z : α), css[i]? = some c → xs[i]? = some z → R.says [] W c z := by
      intro k
      induction k with
      | zero => exact fun _ => ⟨[], [], rfl, rfl, by simp, by simp, by simp⟩
      | succ k ih =>
        intro hk
        obtain ⟨css, xs, g1, g2, g3, g4, g5⟩ := ih (by omega)
        obtain ⟨c, z, q1, q2, q3⟩ := key k (by omega)
        refine ⟨css ++ [c], xs ++ [z], by simp [g1], by simp [g2], ?_, ?_, ?_⟩
        · intro c' hc'
          rcases List.mem_append.1 hc' with h | h
          · exact g3 c' h
          · simp at h; subst h; exact q1
        · intro i c' hc'
          rw [List.getElem?_append] at hc'
          split at hc'
          · exact g4 i c' hc'
          · have hi0 : i = css.length := by
              rcases Nat.lt_or_ge css.length i with h | h
              · rw [List.getElem?_eq_none (by simp; omega)] at hc'; cases hc'
              · omega
            subst hi0
            simp at hc'
            subst hc'
            rw [g1]
            exact q2
        · intro i c' z' hc' hz'
          rw [List.getElem?_append] at hc' hz'
          rw [g1] at hc'
          rw [g2] at hz'
          split at hc'
          · rename_i hlt
            rw [if_pos hlt] at hz'
            exact g5 i c' z' hc' hz'
          · rename_i hge
            rw [if_neg hge] at hz'
            have hi0 : i = k := by
              rcases Nat.lt_or_ge k i with h | h
              · rw [List.getElem?_eq_none (by simp; omega)] at hc'; cases hc'
              · omega
            subst hi0
            simp at hc' hz'
            subst hc' hz'
            exact q3
    obtain ⟨css, xs, g1, g2, g3, g4, g5⟩ := hlist len (Nat.le_refl _)
    refine ⟨xs, some a, cap, by rw [g2], ⟨css, by rw [g1, g2], g3, ?_, g5⟩, by rw [g2]; exact hl, hm, ?_⟩
    · intro i v hv
      have hi' : i < css.flatten.length := (List.getElem?_eq_some_iff.1 hv).1
      rw [flatten_length g3] at hi'
      rcases Nat.eq_zero_or_pos (Try.prog.cellsOf e) with h0 | h0
      · rw [h0] at hi'; omega
      · have hk : i / Try.prog.cellsOf e < css.length := Nat.div_lt_of_lt_mul (by rwa [Nat.mul_comm])
        have hj := Nat.mod_lt i h0
        have hv2 := flatten_get g3 (i / Try.prog.cellsOf e) (i % Try.prog.cellsOf e) _ (List.getElem?_eq_getElem hk) hj
        rw [Nat.div_add_mod' i (Try.prog.cellsOf e), hv] at hv2
        refine ⟨a, rfl, by simp, ?_⟩
        have := g4 _ _ (List.getElem?_eq_getElem hk) (i % Try.prog.cellsOf e) v hv2.symm
        rwa [Nat.div_add_mod' i (Try.prog.cellsOf e)] at this
    · have := weights_slice_len ht hw
      simp only [List.length_map, List.length_range, reachBytes] at this
      rw [g2]
      exact this
theorem RsM.bytes {M : List Nat} {w : World} {A : Option Addr} {l : List UInt8} (h : RsM RB 1 M w A l) : BsM M w A l := by
  intro k v hk
  have hk' : k < l.length := by
    have := (List.getElem?_eq_some_iff.1 hk).1
    simpa using this
  obtain ⟨ad, cs, e, hn, _, hc, hs⟩ := h.at_ (by omega) hk'
  refine ⟨ad, e, hn, ?_⟩
  rw [bv_get hk'] at hk
  cases hk
  have := hc 0 (.int .u8 (l[k].toNat : Int)) (by rw [show cs = _ from hs]; rfl)
  simpa using this
/-- a struct: one of its fields -/
theorem struct_field {H : Type} {enc : TypeId × Value → H} {W : World} {base : Nat} {spare : Nat → Bool} {held : Bool} {fuel : Nat} {cs : List Value} {x : DataW H × List MemPlace} {t : Nat} {fs : Array Field} (ht : Try.prog.underlying t = some (.struct fs))
    (hx : DataW.trod enc Try.prog W base spare held fuel t cs = some x) (hw : ∀ n ∈ x.1.weights Try.prog t, n ≤ reachBytes) (j : Nat) {f : Field} (hf : fs[j]? = some f) {α : Type} {s : Nat} {R : Reading α} (ho : Opens f.type s R) (hs : Try.prog.cellsOf f.type = s) :
    ∃ a, R.says [] W ((cs.drop f.offset).take s) a := by
  subst hs
  obtain ⟨xs, n, rfl, rfl, hl, hxl, hg⟩ := DataW.trod_struct ht hx
  have h1 := hg j f hf
  have hj : j < xs.length := by rw [hxl]; exact (Array.getElem?_eq_some_iff.1 hf).1
  rw [List.getElem?_eq_getElem hj] at h1
  exact (ho H enc W base spare held n _ _ h1 (weights_struct_at ht hw j hf (by simp [List.getElem?_eq_getElem hj]))).2
theorem struct_len {H : Type} {enc : TypeId × Value → H} {W : World} {base : Nat} {spare : Nat → Bool} {held : Bool} {fuel : Nat} {cs : List Value} {x : DataW H × List MemPlace} {t : Nat} {fs : Array Field} (ht : Try.prog.underlying t = some (.struct fs))
    (hx : DataW.trod enc Try.prog W base spare held fuel t cs = some x) : cs.length = Try.prog.cellsOf t := by
  obtain ⟨xs, n, _, _, hl, _⟩ := DataW.trod_struct ht hx
  exact hl
theorem Opens.bytes : Opens 46 1 (RSl RB 1 1) := (Opens.u8 Try.underlying5).slice Try.underlying46 (by kernel_rfl) (by kernel_rfl)
/-- from an argument to its cells -/
theorem Opens.arg {α : Type} {t s : Nat} {R : Reading α} (h : Opens t s R) {H : Type} {enc : TypeId × Value → H} {W : World} {base : Nat} {spare : Nat → Bool} {held : Bool} {v : Value} {d : DataW H} {p : List MemPlace}
    (hd : DataW.Trod enc Try.prog W base spare held t v d p) (hw : ∀ n ∈ d.weights Try.prog t, n ≤ reachBytes) : ∃ a, R.says [] W v.cells.toList a := by
  obtain ⟨fuel, hf⟩ := hd
  exact (h H enc W base spare held fuel _ _ hf hw).2
end Go.Proofs.Ytklodimokhndoaa
namespace Go.Proofs.Ytklodimokhndoaa
open Go.RowKit
/-- one deed of a script -/
structure WDe where
  do_ : Int
  n : Int
  by_ : List UInt8
  recs : List (List UInt8)
  cr : Cr
def RRec : Reading (List UInt8) := RSl RB 1 1
/-- the cells of a deed -/
def dec (d : WDe) (A1 : Option Addr) (c1 : Nat) (A2 : Option Addr) (c2 : Nat) (A3 : Option Addr) (c3 : Nat) : List Value :=
  [.int .i64 d.do_, .int .i64 d.n, .slice A1 d.by_.length c1, .slice A2 d.recs.length c2, .slice A3 d.cr.keep.length c3, .int .i64 d.cr.torn, .int .i64 d.cr.at_]
structure WDeR (M : List Nat) (w : World) (d : WDe) (A1 : Option Addr) (c1 : Nat) (A2 : Option Addr) (c2 : Nat) (A3 : Option Addr) : Prop where
  by_ : BsM M w A1 d.by_
  bc : d.by_.length ≤ c1
  bm : c1 ≤ 9223372036854775807
  bl : d.by_.length ≤ 140737488351232
  recs : RsM RRec 1 M w A2 d.recs
  rc : d.recs.length ≤ c2
  rl : d.recs.length * 24 ≤ 140737488355328
  keep : SlM M w A3 (bo d.cr.keep)
  kl : d.cr.keep.length ≤ 140737488351232
theorem WDeR.kept {M : List Nat} {w w' : World} {d : WDe} {A1 : Option Addr} {c1 : Nat} {A2 : Option Addr} {c2 : Nat} {A3 : Option Addr} (h : WDeR M w d A1 c1 A2 c2 A3) (hx : Kept M w w') : WDeR M w' d A1 c1 A2 c2 A3 :=
  ⟨h.by_.kept hx, h.bc, h.bm, h.bl, h.recs.kept hx, h.rc, h.rl, h.keep.kept hx, h.kl⟩
theorem WDeR.old {M N : List Nat} {w : World} {d : WDe} {A1 : Option Addr} {c1 : Nat} {A2 : Option Addr} {c2 : Nat} {A3 : Option Addr} (h : WDeR M w d A1 c1 A2 c2 A3) (hs : ∀ k ∈ N, k ∈ M ∨ w.heap.size ≤ k) : WDeR N w d A1 c1 A2 c2 A3 :=
  ⟨SlM.old h.by_ hs, h.bc, h.bm, h.bl, h.recs.old hs, h.rc, h.rl, h.keep.old hs, h.kl⟩
def RWDe : Reading WDe where
  says M w cs d := ∃ A1 c1 A2 c2 A3 c3, cs = dec d A1 c1 A2 c2 A3 c3 ∧ WDeR M w d A1 c1 A2 c2 A3
  kept := by
    rintro M w w' cs x ⟨A1, c1, A2, c2, A3, c3, h1, h2⟩ hx
    exact ⟨A1, c1, A2, c2, A3, c3, h1, h2.kept hx⟩
  old := by
    rintro M N w cs x ⟨A1, c1, A2, c2, A3, c3, h1, h2⟩ hx
    exact ⟨A1, c1, A2, c2, A3, c3, h1, h2.old hx⟩
/-- a deed of the script: its cells -/
theorem RsM.wdeed {w : World} {A : Option Addr} {l : List WDe} (h : RsM RWDe 7 [] w A l) {k : Nat} (hk : k < l.length) :
    ∃ ad A1 c1 A2 c2 A3 c3, A = some ad ∧ WDeR [] w l[k] A1 c1 A2 c2 A3 ∧ ∀ j v, (dec l[k] A1 c1 A2 c2 A3 c3)[j]? = some v → ∀ w', Ext w w' → w'.cell? (ad.add (k * 7 + j)) = some v := by
  obtain ⟨ad, cs, e, _, _, hcell, A1, c1, A2, c2, A3, c3, rfl, h1⟩ := h.at_ (by omega) hk
  exact ⟨ad, A1, c1, A2, c2, A3, c3, e, h1, fun j v hj w' hx => hx.cell (hcell j v hj)⟩
end Go.Proofs.Ytklodimokhndoaa
namespace Go.Proofs.Ytklodimokhndoaa
open Go.ChangeShapes Go.WideShapes Go.ChangeAt Go.RowKit Go.Deep
theorem RsM.bools {M : List Nat} {w : World} {A : Option Addr} {l : List Bool} (h : RsM RBool 1 M w A l) : SlM M w A (bo l) := by
  intro k v hk
  have hk' : k < l.length := by
    have := (List.getElem?_eq_some_iff.1 hk).1
    simpa [bo] using this
  obtain ⟨ad, cs, e, hn, _, hc, hs⟩ := h.at_ (by omega) hk'
  refine ⟨ad, e, hn, ?_⟩
  have hb : (bo l)[k]? = some (.bool l[k]) := by simp [bo, hk']
  rw [hb] at hk
  cases hk
  have := hc 0 (.bool l[k]) (by rw [show cs = _ from hs]; rfl)
  simpa using this
theorem Opens.crash : Opens 41 3 RCr := fun H enc W base spare held fuel cs x hx hw => by
  have hl := struct_len Try.underlying41 hx
  have hC : Try.prog.cellsOf 41 = 3 := by kernel_rfl
  rw [hC] at hl
  obtain ⟨b, A, cap, hb, hb2, _, _, hb3⟩ := struct_field Try.underlying41 hx hw 0 rfl ((Opens.bool Try.underlying4).slice (B := 1) Try.underlying39 (by kernel_rfl) (by kernel_rfl)) (by kernel_rfl)
  obtain ⟨f, hf⟩ := struct_field Try.underlying41 hx hw 1 rfl (Opens.int Try.underlying3) (by kernel_rfl)
  obtain ⟨t, ht⟩ := struct_field Try.underlying41 hx hw 2 rfl (Opens.int Try.underlying3) (by kernel_rfl)
  match cs, hl with
  | [c0, c1, c2], _ =>
    have e0 : c0 = .slice A b.length cap := by simpa using hb
    have e1 : c1 = .int .i64 f := by simpa [RInt] using hf.1
    have e2 : c2 = .int .i64 t := by simpa [RInt] using ht.1
    subst e0 e1 e2
    exact ⟨rfl, ⟨b, f, t⟩, A, cap, rfl, hb2.bools, by simpa using hb3⟩
theorem Opens.rec_ : Opens 46 1 RRec := Opens.bytes
theorem Opens.recs : Opens 47 1 (RSl RRec 1 24) := Opens.rec_.slice Try.underlying47 (by kernel_rfl) (by kernel_rfl)
theorem Opens.deed : Opens 49 7 RWDe := fun H enc W base spare held fuel cs x hx hw => by
  have hl := struct_len Try.underlying49 hx
  have hC : Try.prog.cellsOf 49 = 7 := by kernel_rfl
  rw [hC] at hl
  obtain ⟨f, hf⟩ := struct_field Try.underlying49 hx hw 0 rfl (Opens.int Try.underlying3) (by kernel_rfl)
  obtain ⟨i, hi⟩ := struct_field Try.underlying49 hx hw 1 rfl (Opens.int Try.underlying3) (by kernel_rfl)
  obtain ⟨b, A, cap, hb, hb2, hb4, hb5, hb3⟩ := struct_field Try.underlying49 hx hw 2 rfl Opens.bytes (by kernel_rfl)
  obtain ⟨r, Ar, capr, hr, hr2, hr4, hr5, hr3⟩ := struct_field Try.underlying49 hx hw 3 rfl Opens.recs (by kernel_rfl)
  obtain ⟨C, A2, cap2, hc, hc2, hc3⟩ := struct_field Try.underlying49 hx hw 4 rfl Opens.crash (by kernel_rfl)
  match cs, hl with
  | [c0, c1, c2, c3, c4, c5, c6], _ =>
    have e0 : c0 = .int .i64 f := by simpa [RInt] using hf.1
    have e1 : c1 = .int .i64 i := by simpa [RInt] using hi.1
    have e2 : c2 = .slice A b.length cap := by simpa using hb
    have e3 : c3 = .slice Ar r.length capr := by simpa using hr
    simp at hc
    obtain ⟨e4, e5, e6⟩ := hc
    subst e0 e1 e2 e3 e4 e5 e6
    exact ⟨rfl, ⟨f, i, b, r, C⟩, A, cap, Ar, capr, A2, cap2, rfl, ⟨hb2.bytes, hb4, hb5, by simp only; omega, hr2, hr4, by simp only; omega, hc2, hc3⟩⟩
section
variable {H : Type} {enc : TypeId × Value → H} {W : World} {base b : Nat} {held : Bool} {v : Value} {d : DataW H} {p : List MemPlace}
set_option maxRecDepth 100000 in
theorem open_deeds {spare : Nat → Bool} (hv : Value.okWide Try.prog W .any b 38 v) (h : DataW.Trod enc Try.prog W base spare held 38 v d p) (hw : ∀ n ∈ d.weights Try.prog 38, n ≤ reachBytes) :
    ∃ (A : Option Addr) (cap : Nat) (l : List WDe), v = .slice A l.length cap ∧ RsM RWDe 7 [] W A l ∧ l.length ≤ cap ∧ l.length ≤ 1000000000000000 := by
  obtain ⟨a0, len0, cap0, rfl⟩ := okWide_slice Try.underlying38 hv
  obtain ⟨l, A, cap, h1, h2, h3, h4, h5⟩ := (Opens.deed.slice (B := 104) Try.underlying38 (by kernel_rfl) (by kernel_rfl)).arg h hw
  simp [Value.cells] at h1
  obtain ⟨rfl, rfl, rfl⟩ := h1
  exact ⟨_, _, l, rfl, h2, h3, by omega⟩
set_option maxRecDepth 100000 in
theorem open_deed {spare : Nat → Bool} (hv : Value.okWide Try.prog W .any b 49 v) (h : DataW.Trod enc Try.prog W base spare held 49 v d p) (hw : ∀ n ∈ d.weights Try.prog 49, n ≤ reachBytes) :
    ∃ (D : WDe) (A1 : Option Addr) (c1 : Nat) (A2 : Option Addr) (c2 : Nat) (A3 : Option Addr) (c3 : Nat), v = .agg (dec D A1 c1 A2 c2 A3 c3).toArray ∧ WDeR [] W D A1 c1 A2 c2 A3 := by
  obtain ⟨cs, rfl, hsz⟩ := okWide_struct Try.underlying49 hv
  obtain ⟨D, A1, c1, A2, c2, A3, c3, h1, h2⟩ := Opens.deed.arg h hw
  refine ⟨D, A1, c1, A2, c2, A3, c3, ?_, h2⟩
  simp only [Value.cells] at h1
  congr 1
  exact Array.toList_inj.1 (by simpa using h1)
set_option maxRecDepth 100000 in
theorem open_crash {spare : Nat → Bool} (hv : Value.okWide Try.prog W .any b 41 v) (h : DataW.Trod enc Try.prog W base spare held 41 v d p) (hw : ∀ n ∈ d.weights Try.prog 41, n ≤ reachBytes) :
    ∃ (C : Cr) (A : Option Addr) (c : Nat), v = .agg #[.slice A C.keep.length c, .int .i64 C.torn, .int .i64 C.at_] ∧ Sl W A (bo C.keep) ∧ C.keep.length ≤ 9223372036854775807 := by
  obtain ⟨cs, rfl, hsz⟩ := okWide_struct Try.underlying41 hv
  obtain ⟨C, A, c, h1, h2, h3⟩ := Opens.crash.arg h hw
  refine ⟨C, A, c, ?_, h2.sl, by omega⟩
  simp only [Value.cells] at h1
  congr 1
  exact Array.toList_inj.1 (by simpa using h1)
set_option maxRecDepth 100000 in
theorem open_recs {spare : Nat → Bool} (hv : Value.okWide Try.prog W .any b 47 v) (h : DataW.Trod enc Try.prog W base spare held 47 v d p) (hw : ∀ n ∈ d.weights Try.prog 47, n ≤ reachBytes) :
    ∃ (A : Option Addr) (cap : Nat) (l : List (List UInt8)), v = .slice A l.length cap ∧ RsM RRec 1 [] W A l ∧ l.length ≤ cap ∧ l.length ≤ 1000000000000000 := by
  obtain ⟨a0, len0, cap0, rfl⟩ := okWide_slice Try.underlying47 hv
  obtain ⟨l, A, cap, h1, h2, h3, h4, h5⟩ := Opens.recs.arg h hw
  simp [Value.cells] at h1
  obtain ⟨rfl, rfl, rfl⟩ := h1
  exact ⟨_, _, l, rfl, h2, h3, by omega⟩
set_option maxRecDepth 100000 in
theorem open_u8 {spare : Nat → Bool} (hv : Value.okWide Try.prog W .any b 5 v) (h : DataW.Trod enc Try.prog W base spare held 5 v d p) : ∃ m : Nat, v = .int .u8 m ∧ m < 256 := by
  obtain ⟨z, rfl, rfl, rfl, wf⟩ := open_int Try.underlying5 hv h
  have h1 := bounds_u8 wf
  exact ⟨z.toNat, by congr 1; omega, by omega⟩
set_option maxRecDepth 100000 in
theorem open_u16 {spare : Nat → Bool} (hv : Value.okWide Try.prog W .any b 56 v) (h : DataW.Trod enc Try.prog W base spare held 56 v d p) : ∃ m : Nat, v = .int .u16 m ∧ m < 65536 := by
  obtain ⟨z, rfl, rfl, rfl, wf⟩ := open_int Try.underlying56 hv h
  have h1 := bounds_u16 wf
  exact ⟨z.toNat, by congr 1; omega, by omega⟩
end
end Go.Proofs.Ytklodimokhndoaa
