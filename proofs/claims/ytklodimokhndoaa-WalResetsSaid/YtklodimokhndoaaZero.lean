/- append(b, make([]byte, k)...) onto a row of the call's own. Conditions: the hypotheses of each theorem. -/
import Derived.Test.YtklodimokhndoaaFrm2
import Derived.Lib.AppendZeros
import Derived.Lib.AppendZerosOnto
namespace Go.Proofs.Ytklodimokhndoaa
open Go.RowKit
theorem zero_cells (k : Nat) : Builtin.zeroCells #[Value.int .u8 0] k = (bv (List.replicate k 0)).toArray := by
  apply Array.ext
  · simp [Builtin.zeroCells, bv]
  · intro j h1 h2
    simp [Builtin.zeroCells, bv, Nat.mod_one]
theorem u8_info : (Try.prog.info? 5).map (fun i => (i.zero, i.size, i.bytes)) = some (some (Value.int .u8 0), 1, 1) := by kernel_rfl
theorem int_und : ∃ q, Try.prog.underlying 3 = some (.int q) := ⟨_, Try.underlying3⟩
theorem run_zeros (w : World) (base ty : Nat) (v : Value) (l : List UInt8) (k : Nat) (hown : Own w base v l) (hb : l.length + k ≤ 140737488355328) (hbase : base ≤ w.heap.size) :
    ∃ v' w', (Builtin.append_ #[46, 3] ty #[v, .int .i64 k]).run Try.prog w = .ok v' w' ∧ Own w' base v' (l ++ List.replicate k 0) ∧ w.grownBy w' v.ownBlock ∧ (v'.ownBlock = v.ownBlock ∨ v'.ownBlock = some w.heap.size) := by
  obtain ⟨i, hi, hz, hs, hby⟩ := info_parts u8_info
  have ht := Try.underlying46
  have htn := Try.underlying3
  rcases Nat.eq_zero_or_pos k with rfl | hk
  · refine ⟨v, w, ?_, by simpa using hown, World.grownBy.refl w _, .inl rfl⟩
    have hw0 : IntKind.i64.wrap 0 = 0 := by rw [IntKind.wrap_i64]; omega
    rcases hown.2 with ⟨rfl, h0⟩ | ⟨g, cap, cur, rfl, _, _, hnc, _⟩
    · simp [Builtin.append_, run_underlying ht, run_underlying htn, sizeOf, typeInfo, hi, asInt, asIntOf, hw0]
    · simp [Builtin.append_, run_underlying ht, run_underlying htn, sizeOf, typeInfo, hi, asInt, asIntOf, hw0, hnc, storeCells]
  have hzl : (Builtin.zeroCells #[Value.int .u8 0] k).toList = bv (List.replicate k 0) := by rw [zero_cells]
  have hlen : (bv (l ++ List.replicate k 0)).length = (l.length + k) * 1 := by simp
  have hzc : (Value.int .u8 0).cells = #[Value.int .u8 0] := rfl
  have grown : ∀ old : Nat, old < l.length + k →
      (w.drew.alloc (.cells ((bv l).toArray ++ Builtin.zeroCells #[Value.int .u8 0] k ++ Builtin.zeroCells #[Value.int .u8 0] (grownCap w (l.length + k) old 5 - (l.length + k))) 5)).ownsRow base 5 1
        (.slice (some ⟨w.heap.size, 0, none⟩) (l.length + k) (grownCap w (l.length + k) old 5)) (l.length + k) (bv (l ++ List.replicate k 0)) ∧
      ∀ row, w.grownBy (w.drew.alloc (.cells ((bv l).toArray ++ Builtin.zeroCells #[Value.int .u8 0] k ++ Builtin.zeroCells #[Value.int .u8 0] (grownCap w (l.length + k) old 5 - (l.length + k))) 5)) row := by
    intro old ho
    have hge := grownCap_ge w (l.length + k) old 5
    have hcm := grownCap_le_maxLen w (l.length + k) old 5 (by simp only [maxLen]; omega)
    refine ⟨⟨hlen, .inr ⟨w.heap.size, _, _, rfl, hbase, heap_alloc_new w.drew _, hge, hcm, ?_, ?_⟩⟩, fun row => ⟨rfl, rfl, rfl, by simp, fun q hq _ => heap_alloc_old w.drew _ hq⟩⟩
    · simp only [Array.size_append, List.size_toArray, size_zeroCells, bv_length]
      simp
      omega
    · simp only [Array.toList_append, hzl, bv_append]
      rw [← bv_append, show (l.length + k) * 1 = (bv (l ++ List.replicate k 0)).length by simp]
      exact List.take_left
  rcases hown.2 with ⟨rfl, h0⟩ | ⟨g, cap, cur, rfl, hbg, hg, hnc, hcm, hcs, htake⟩
  · have hl0 : l = [] := List.eq_nil_of_length_eq_zero h0
    subst hl0
    have hr := Lib.run_append_nil_zeros (P := Try.prog) w 46 3 ty 5 i _ .i64 _ ht htn hi hz k hk (by omega) (by omega) (by rw [hby]; omega)
    have hg := grown 0 (by simpa using hk)
    have hb0 : (bv []).toArray = #[] := rfl
    simp only [List.length_nil, Nat.zero_add, List.nil_append, hb0, Array.empty_append] at hg ⊢
    rw [hzc] at hr
    refine ⟨_, _, hr, ?_, hg.2 _, .inr rfl⟩
    unfold Own
    rw [List.length_replicate]
    exact hg.1
  · by_cases hroom : l.length + k ≤ cap
    · have hst := run_storeCells_at Try.prog g l.length 5 (bv (List.replicate k 0)) 0 cur w hg (by simp at hcs ⊢; omega) (bv_one _)
      simp only [Nat.add_zero] at hst
      have hw : IntKind.i64.wrap (k : Int) = (k : Int) := by rw [IntKind.wrap_i64]; omega
      have hneg : ¬ ((k : Int) < 0) := by omega
      have hk0 : ¬ k = 0 := by omega
      have h48 : ¬ (281474976710656 < (k : Int)) := by omega
      refine ⟨.slice (some ⟨g, 0, none⟩) (l.length + k) cap, w.setRow g (cur.toList.take l.length ++ bv (List.replicate k 0) ++ cur.toList.drop (l.length + (bv (List.replicate k 0)).length)).toArray, ?_, ?_, ⟨rfl, rfl, rfl, by simp, fun q _ hq => setRow_other w g q _ (fun e => hq (by simp [Value.ownBlock, e]))⟩, .inl rfl⟩
      · simp [Builtin.append_, run_underlying ht, run_underlying htn, sizeOf, typeInfo, zeroValue, hi, hz, hs, hby, asInt, asIntOf, hw, hneg, hk0, h48, hroom, hzc, hzl, Addr.add_lit, hst]
      · unfold Own
        rw [List.length_append, List.length_replicate]
        refine ⟨hlen, .inr ⟨g, cap, _, rfl, hbg, setRow_heap w g cur _ 5 _ hg, hroom, hcm, ?_, ?_⟩⟩
        · simp at hcs ⊢
          omega
        · have h1 : cur.toList.take l.length = bv l := by simpa using htake
          rw [h1, ← bv_append, show (l.length + k) * 1 = (bv (l ++ List.replicate k 0)).length by simp]
          exact List.take_left
    · have hold : ∀ j u, (bv l)[j]? = some u → w.drew.cell? ((⟨g, 0, none⟩ : Addr).add j) = some u := fun j u h => (show w.drew.cell? _ = w.cell? _ from rfl).trans (World.ownsRow.cells hown (g := g) rfl j u h)
      have hf := run_firstCells_some (P := Try.prog) w.drew i.size l.length ⟨g, 0, none⟩ l.length cap (bv l) (by rw [hs]; simp) hold
      have hr := Lib.run_append_grow_zeros (P := Try.prog) w 46 3 ty 5 i _ .i64 _ ht htn hi hz (some ⟨g, 0, none⟩) l.length cap (bv l) hf k hk (by omega) (by omega) (by omega) (by rw [hby]; omega) (by rw [hby]; exact growslice_fits (by omega) (by omega))
      have hgr := grown cap (by omega)
      rw [hzc] at hr
      refine ⟨_, _, hr, ?_, hgr.2 _, .inr rfl⟩
      unfold Own
      rw [List.length_append, List.length_replicate]
      exact hgr.1
/-- at the operation: the zeros are laid behind -/
theorem wpList_zeros {w : World} {ops : Array Oper} {rest : List Oper} {o : Oper} {a : Act} {Q : Exit → Act → World → Prop} {s x : Operand} {base k : Nat} {v : Value} {l : List UInt8} (hown : Own w base v l)
    (hgd : o.guard = none) (ho : o.op = .call { callee := .builtin .append, args := #[s, x], argTypes := #[46, 3] }) (hs : a.eval s = v) (hx : a.eval x = .int .i64 k) (hb : l.length + k ≤ 140737488355328) (hbase : base ≤ w.heap.size)
    (h : ∀ v' w', Own w' base v' (l ++ List.replicate k 0) → w.grownBy w' v.ownBlock → (v'.ownBlock = v.ownBlock ∨ v'.ownBlock = some w.heap.size) → wpList Try.prog ops Q rest (a.put o.dst v') w') : wpList Try.prog ops Q (o :: rest) a w := by
  obtain ⟨v', w', hrun, h2, h3, h4⟩ := run_zeros w base o.type v l k hown hb hbase
  refine wpList_plain hgd fun K hK => ?_
  unfold Oper.wp execOp
  simp only [ho, resolve, invoke, builtin, Sem.run_bind, Sem.run_pure, Result.andThen_ok, List.map_toArray, List.map_cons, List.map_nil, hs, hx, hrun]
  exact hK _ _ (h v' w' h2 h3 h4)
end Go.Proofs.Ytklodimokhndoaa
