/- From an argument that can be read to what the walks are told of it. Conditions: the hypotheses of each theorem. -/
import Derived.Test.YtchokelpimibdaaRows
import Derived.Test.YtchokelpimibdaaLib
import Derived.ProofKit
import Derived.OpenShut
import Derived.ShutString
import Derived.ChangeOld
import Derived.SizedLaws
import Derived.JoinedCond
import Derived.Deep.CondSized
import Derived.Carry
namespace Go.Proofs.Ytchokelpimibdaa
open Go.ChangeShapes Go.WideShapes Go.ChangeAt Go.RowKit
open Go.ChangeMaps (open_string shut_string)
/-! ## from an argument that can be read to what the walks are told of it -/
theorem row_own : ownKnob Try.prog.godebug = none := by kernel_rfl
theorem row_laid : laidOutB Try.prog = true := by kernel_rfl
theorem bulk_le {H : Type} {d : DataW H} {l : List (DataW H)} (h : d ∈ l) : Rows.uptoBulk d ≤ Rows.uptoBulkAll l := by
  induction l with
  | nil => cases h
  | cons x r ih =>
    simp only [Rows.uptoBulkAll]
    cases List.mem_cons.1 h with
    | inl e => subst e; omega
    | inr e => have := ih e; omega
theorem bulk_pos {H : Type} (d : DataW H) : 1 ≤ Rows.uptoBulk d := by
  cases d with
  | lit l => cases l <;> simp [Rows.uptoBulk]
  | nil => simp [Rows.uptoBulk]
  | ptr d => simp [Rows.uptoBulk]
  | slice elems spare => simp [Rows.uptoBulk]
  | agg parts => simp [Rows.uptoBulk]
  | iface t d => simp [Rows.uptoBulk]
  | map entries => simp [Rows.uptoBulk]
  | held h => simp [Rows.uptoBulk]
theorem bulk_len {H : Type} (l : List (DataW H)) : l.length ≤ Rows.uptoBulkAll l := by
  induction l with
  | nil => simp [Rows.uptoBulkAll]
  | cons x r ih => have := bulk_pos x; simp only [Rows.uptoBulkAll, List.length_cons]; omega
theorem bulk_slice {H : Type} (elems spare : List (DataW H)) : elems.length + 1 ≤ Rows.uptoBulk (.slice elems spare) := by
  have h1 := bulk_len elems
  simp only [Rows.uptoBulk]
  omega
def toB (z : Int) : UInt8 := UInt8.ofNat z.toNat
theorem toB_val {z : Int} (h : (Lit.int .u8 z).wf = true) : ((toB z).toNat : Int) = z := by
  have h1 := bounds_u8 h
  unfold toB
  rw [UInt8.toNat_ofNat']
  omega
theorem weights_at {H : Type} {ts : List TypeId} {ds : List (DataW H)} (h : (DataW.weightsEach Try.prog ts ds).all (· ≤ reachBytes) = true) (j : Nat) {t : TypeId} {d : DataW H} (ht : ts[j]? = some t) (hd : ds[j]? = some d) :
    ∀ n ∈ d.weights Try.prog t, n ≤ reachBytes := fun n hn => by
  have := List.all_eq_true.1 h n (DataW.weights_mem_each ht hd n hn)
  simpa using this
section
variable {H : Type} {enc : TypeId × Value → H} {W : World} {base b : Nat} {held : Bool} {v : Value} {d : DataW H} {p : List MemPlace}
set_option maxRecDepth 20000 in
theorem open_bytes {spare : Nat → Bool} (hv : Value.okWide Try.prog W .any b 22 v) (h : DataW.Trod enc Try.prog W base spare held 22 v d p) (hw : ∀ n ∈ d.weights Try.prog 22, n ≤ reachBytes) :
    ∃ (A : Option Addr) (cap : Nat) (l : List UInt8), v = .slice A l.length cap ∧ l.length ≤ cap ∧ cap ≤ 9223372036854775807 ∧ Bs W A l ∧ l.length ≤ 140737488351232 ∧ l.length ≤ Rows.uptoBulk d := by
  obtain ⟨a0, len0, cap0, rfl⟩ := okWide_slice Try.underlying22 hv
  obtain ⟨fuel, hf⟩ := h
  rcases open_ints Try.underlying22 Try.underlying5 (by kernel_rfl) hf with ⟨hcs, _⟩ | ⟨x, l, c, zs, hcs, _, hl, hm, hz, hx, hcell, hwz⟩
  · simp [Value.cells] at hcs
    obtain ⟨rfl, rfl, rfl⟩ := hcs
    exact ⟨none, 0, [], rfl, by simp, by omega, Sl.nil _ _, by simp, by simp⟩
  · simp [Value.cells] at hcs
    obtain ⟨rfl, rfl, rfl⟩ := hcs
    have hlz : len0 ≤ zs.length := by rw [hz]; split <;> omega
    have hlen : ((zs.take len0).map toB).length = len0 := by simp; omega
    simp only [Prod.mk.injEq] at hx
    obtain ⟨rfl, _⟩ := hx
    have hwt := hw ((lits .u8 (zs.take len0) : List (DataW H)).length + (lits .u8 (zs.drop len0) : List (DataW H)).length |> (· * Try.prog.bytesOf 5)) (by simp [DataW.weights, Try.underlying22])
    have hb1 : Try.prog.bytesOf 5 = 1 := by kernel_rfl
    rw [hb1] at hwt
    simp only [lits, List.length_map, List.length_take, List.length_drop, reachBytes] at hwt
    refine ⟨some x, cap0, (zs.take len0).map toB, by rw [hlen], by omega, hm, ?_, by rw [hlen]; omega, ?_⟩
    · intro k u hk
      refine ⟨x, rfl, ?_⟩
      simp only [bv, List.map_map, List.getElem?_map, Option.map_eq_some_iff] at hk
      obtain ⟨z, hz1, rfl⟩ := hk
      have hk1 : k < len0 := by
        rcases Nat.lt_or_ge k len0 with h | h
        · exact h
        · rw [List.getElem?_eq_none (by simp; omega)] at hz1; cases hz1
      rw [List.getElem?_take_of_lt hk1] at hz1
      have hk2 : k < zs.length := by omega
      rw [List.getElem?_eq_getElem hk2, Option.some_inj] at hz1
      rw [hcell k hk2]
      simp only [Function.comp]
      rw [toB_val (hwz z (by rw [← hz1]; exact List.getElem_mem hk2)), ← hz1]
      simp [List.getD, List.getElem?_eq_getElem hk2]
    · have := bulk_slice (H := H) (lits .u8 (zs.take len0)) (lits .u8 (zs.drop len0))
      simp only [lits, List.length_map, List.length_take] at this
      rw [hlen]
      simp only [lits]
      omega
end
end Go.Proofs.Ytchokelpimibdaa
