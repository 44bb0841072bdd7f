/- Words for strings: their bytes as a list, a row of bytes that []byte(s) makes, string(b), a string's iterator. Each holds for every program and world; the conditions are the hypotheses of each theorem. -/
import Derived.Test.YtchokelpimibdaaChecked
import Derived.Test.YtchokelpimibdaaMem
import Derived.Lib.OthersKept
import Derived.Laws.BitsAllLaws
import Derived.IntWalk
namespace Go.Proofs.Ytchokelpimibdaa
open Go.RowKit
def tl (s : ByteArray) : List UInt8 := s.data.toList
@[simp] theorem tl_length (s : ByteArray) : (tl s).length = s.size := by unfold tl ByteArray.size; simp
@[simp] theorem tl_st (l : List UInt8) : tl (st l) = l := by simp [tl, st]
@[simp] theorem st_tl (s : ByteArray) : st (tl s) = s := by simp [tl, st]
theorem tl_get (s : ByteArray) (k : Nat) (h : k < s.size) : (tl s)[k]'(by simpa using h) = s[k] := by simp [tl]; rfl
@[go_sem] theorem st_append (a b : List UInt8) : st a ++ st b = st (a ++ b) := by
  apply ByteArray.ext
  simp [st]
@[go_sem] theorem st_size (l : List UInt8) : (st l).size = l.length := by unfold st ByteArray.size; simp
theorem tl_get? (s : ByteArray) (k : Nat) (h : k < s.size) : (tl s)[k]? = some s[k] := by rw [List.getElem?_eq_getElem (by simpa using h), tl_get s k h]
theorem st_ext {a b : ByteArray} : a = b ↔ tl a = tl b := ⟨fun h => by rw [h], fun h => by rw [← st_tl a, h, st_tl]⟩
/-- a row of bytes that may be written -/
def Mut8 (w : World) (g : Nat) (l : List UInt8) : Prop :=
  ∃ cs fr, w.heap[g]? = some (.cells cs 5 fr) ∧ (fr = (0, 0) ∨ l.length ≤ fr.1) ∧ ∀ (k : Nat) (v : Value), (bv l)[k]? = some v → cs[k]? = some v
section
variable {w w' : World} {g : Nat} {l : List UInt8}
theorem Mut8.bs (h : Mut8 w g l) : Bs w (some ⟨g, 0, none⟩) l := by
  obtain ⟨cs, fr, h1, _, h3⟩ := h
  intro k v hk
  refine ⟨_, rfl, ?_⟩
  have : (⟨g, 0, none⟩ : Addr).add k = ⟨g, k, none⟩ := by unfold Addr.add; split <;> simp_all
  rw [this, cell_of_row _ _ k cs 5 fr h1]
  exact h3 k v hk
theorem Mut8.cell (h : Mut8 w g l) {k : Nat} (hk : k < l.length) : w.cell? ⟨g, k, none⟩ = some (.int .u8 (l[k].toNat : Int)) := by
  obtain ⟨cs, fr, h1, _, h3⟩ := h
  rw [cell_of_row _ _ k cs 5 fr h1]
  exact h3 k _ (bv_get hk)
theorem Mut8.free (h : Mut8 w g l) {k : Nat} (hk : k < l.length) : w.frozen? ⟨g, k, none⟩ = false := by
  obtain ⟨cs, fr, h1, h2, h3⟩ := h
  unfold World.frozen?
  simp only [h1]
  rcases h2 with rfl | h2
  · simp
  · simp; omega
theorem Mut8.ext (h : Mut8 w g l) (hx : Ext w w') : Mut8 w' g l := by
  obtain ⟨cs, fr, h1, h2, h3⟩ := h
  exact ⟨cs, fr, hx.obj h1, h2, h3⟩
theorem Mut8.set (h : Mut8 w g l) (k : Nat) (x : UInt8) : Mut8 (w.setCell ⟨g, k, none⟩ (.int .u8 (x.toNat : Int))) g (l.set k x) := by
  obtain ⟨cs, fr, h1, h2, h3⟩ := h
  refine ⟨cs.setIfInBounds k (.int .u8 (x.toNat : Int)), fr, ?_, by simpa using h2, fun j v hj => ?_⟩
  · have hlt := (Array.getElem?_eq_some_iff.1 h1).1
    unfold World.setCell
    simp [Array.getElem?_modify, h1]
  · have hb : bv (l.set k x) = (bv l).set k (.int .u8 (x.toNat : Int)) := by simp [bv, List.map_set]
    rw [hb, List.getElem?_set] at hj
    by_cases hkj : k = j
    · subst hkj
      rw [if_pos rfl] at hj
      split at hj
      · rename_i hlt
        cases hj
        have h4 := h3 k _ (List.getElem?_eq_getElem hlt)
        have := (Array.getElem?_eq_some_iff.1 h4).1
        simp [this]
      · cases hj
    · rw [if_neg hkj] at hj
      rw [Array.getElem?_setIfInBounds_ne hkj]
      exact h3 j v hj
theorem Mut8.lt (h : Mut8 w g l) : g < w.heap.size := by
  obtain ⟨cs, fr, h1, _⟩ := h
  exact obj_lt h1
end
/-- []byte(s) -/
theorem conv_bytes (w : World) (s : ByteArray) : ∃ cap W, (convert 9 22 (.string s)).run Try.prog w = .ok (.slice (some ⟨w.heap.size, 0, none⟩) s.size cap) W ∧ Ext w W ∧ Mut8 W w.heap.size (tl s) ∧ s.size ≤ cap := by
  have h := run_bytes_of_string (P := Try.prog) w 9 22 5 s Try.underlying9 Try.underlying22 Try.underlying5
  have hcap : s.size ≤ grownCap w s.size 0 5 := by have := grownCap_ge w s.size 0 5; omega
  refine ⟨_, _, h, ((Ext.refl w).drew).alloc _, ⟨bytesRow s (grownCap w s.size 0 5), _, heap_alloc_new w.drew _, ?_, ?_⟩, hcap⟩
  · right
    simp only [bytesRow, Array.size_append, Array.size_map, Array.size_replicate, tl_length]
    simp only [ByteArray.size]
    omega
  · intro k v hk
    have hk' : k < (tl s).length := by have := (List.getElem?_eq_some_iff.1 hk).1; simpa using this
    rw [bv_get hk'] at hk
    cases hk
    have hks : k < s.data.size := by simpa [tl] using hk'
    unfold bytesRow
    rw [Array.getElem?_append_left (by simpa using hks)]
    simp only [Array.getElem?_map, Option.map_eq_some_iff]
    exact ⟨s.data[k], Array.getElem?_eq_getElem hks, by simp [tl]⟩
/-- string([]byte{c}), and string(b) of a row that lies there -/
theorem conv_str {w : World} {A : Option Addr} {l : List UInt8} (h : Bs w A l) (n c : Nat) (hn : n = l.length) : (convert 22 9 (.slice A n c)).run Try.prog w = .ok (.string (st l)) w :=
  run_str (P := Try.prog) Try.underlying22 Try.underlying5 Try.underlying9 h n c hn w (Ext.refl w)
/-- the iterator of a string that the call ranges over, at a place -/
def It (w : World) (g : Nat) (s : ByteArray) (pos : Nat) : Prop := w.heap[g]? = some (.stringIter s pos)
theorem It.next {w : World} {g pos : Nat} {s : ByteArray} (h : It w g s pos) (hp : pos < s.size) (ty : TypeId) : (Instr.next (.pointer (some ⟨g, 0, none⟩)) true ty).run Try.prog w = .ok (.tuple #[.bool true, .int .i64 pos, .int .i32 (Utf8.decode s pos).1]) (w.iterAt g s (pos + (Utf8.decode s pos).2)) :=
  Lib.run_next_any_at (P := Try.prog) w g s pos ty h hp
theorem It.stop {w : World} {g pos : Nat} {s : ByteArray} (h : It w g s pos) (hp : ¬ pos < s.size) (ty : TypeId) : (Instr.next (.pointer (some ⟨g, 0, none⟩)) true ty).run Try.prog w = .ok (.tuple #[.bool false]) w :=
  Lib.run_next_end_at (P := Try.prog) w g s pos ty h hp
theorem It.at_ {w : World} {g pos : Nat} {s : ByteArray} (h : It w g s pos) (pos' : Nat) : It (w.iterAt g s pos') g s pos' := Lib.iterAt_heap w g s pos pos' h
theorem It.ext {w w' : World} {g pos : Nat} {s : ByteArray} (h : It w g s pos) (hx : Ext w w') : It w' g s pos := hx.obj h
theorem Ext.iterAt {w w' : World} {g pos : Nat} {s : ByteArray} (h : Ext w w') (hg : w.heap.size ≤ g) : Ext w (w'.iterAt g s pos) :=
  ⟨h.os, h.tape, h.output, by simpa [World.iterAt] using h.size, fun k hk => by
    have : (w'.iterAt g s pos).heap[k]? = w'.heap[k]? := by
      simp only [World.iterAt]
      rw [Array.getElem?_setIfInBounds_ne (by omega)]
    exact this.trans (h.block k hk)⟩
end Go.Proofs.Ytchokelpimibdaa
