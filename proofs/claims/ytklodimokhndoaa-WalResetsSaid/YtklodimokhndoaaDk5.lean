/- The walk of disk.Write. Conditions: those of IsDk. -/
import Derived.Test.YtklodimokhndoaaChecked
import Derived.Test.YtklodimokhndoaaPhase
import Derived.Great.BuildSlice
import Derived.Test.YtklodimokhndoaaDk4
namespace Go.Proofs.Ytklodimokhndoaa
open Go.RowKit
section
variable {P : Program} {ops : Array Oper} {Q : Exit → Act → World → Prop} {rest : List Oper} {a : Act} {w : World} {x y : Operand} {ty : Nat}
theorem wpList_build_ {o : Oper} {parts : Array (Nat × Operand)} {cells : Array Value} (hgd : o.guard = none) (ho : o.op = .build ty parts) (hb : P.built ty (parts.toList.map fun (i, x) => (i, a.eval x)) = some cells)
    (h : wpList P ops Q rest (a.put o.dst (.agg cells)) w) : wpList P ops Q (o :: rest) a w :=
  wpList_build hgd ty parts ho (by rw [Array.toList_map, hb]; rfl) (by rw [Array.toList_map, hb]; exact h)
end
theorem write_built (i : Int) : Try.prog.built 106 [(0, .int .i64 i)] = some (.int .i64 i :: bv zpage).toArray := by kernel_rfl
theorem writesT : ElemOf Try.prog 66 106 65 72 := ElemOf.mk' (z := .agg (wc (0, zpage)).toArray) Try.underlying66 (by kernel_rfl) (by simp [Value.cells, wc, zpage]) (by omega)
theorem fold_set : ∀ (l : List Value) (k : Nat) (c : Array Value), k + l.length ≤ c.size → ((l.zipIdx k).foldl (fun cs (x : Value × Nat) => cs.setIfInBounds x.2 x.1) c).toList = splice c.toList k l
  | [], k, c, _ => by simp [splice]
  | v :: r, k, c, h => by
    simp only [List.length_cons] at h
    rw [List.zipIdx_cons, List.foldl_cons, fold_set r (k + 1) _ (by simp; omega), splice_cons _ _ _ _ (by simp; omega), Array.toList_setIfInBounds]
theorem fill_one (place : Nat → Option (Nat × Nat)) (n : Nat) (cells : Array Value) (vs : List Value) (hp : place 0 = some (0, n)) (hv : vs.length = n) (hc : cells.size = n) : Instr.fill place cells [(0, .agg vs.toArray)] = some vs.toArray := by
  have h := fold_set vs 0 cells (by omega)
  have h2 : splice cells.toList 0 vs = vs := by simp [splice, List.drop_of_length_le, hv, hc]
  rw [h2] at h
  unfold Instr.fill
  simp only [hp, Value.cells]
  simp only [Instr.fill]
  simp [hv, hc]
  apply Array.toList_inj.1
  rw [h]
section
variable {P : Program} {ops : Array Oper} {Q : Exit → Act → World → Prop} {a : Act} {w : World} {K : Act → World → Prop} {E : Prop}
/-- a slice of one whole value, as one step of a region that draws -/
theorem step_build1 {o : Oper} {t e n : Nat} {x : Operand} {z : Array Value} {cs : List Value} (hgd : o.guard = none) (ho : o.op = .buildSlice t 1 #[(0, x)]) (hx : a.eval x = .agg cs.toArray) (hu : P.underlying t = some (.slice e))
    (hi : (P.info? e).map (fun i => (i.zero, i.size)) = some (some (.agg z), n)) (hn : 0 < n) (hs : n ≤ 1000) (hl : cs.length = n)
    (h : ∀ W, W = w.alloc (.cells cs.toArray e) → K (a.put o.dst (.slice (some ⟨w.heap.size, 0, none⟩) 1 1)) W) :
    if Region.wanted o (yielded ops a.tmps) = true then Oper.wp P o a w K Q else E := by
  have hw : Region.wanted o (yielded ops a.tmps) = true := by simp [Region.wanted, hgd]
  rw [if_pos hw]
  cases hq : P.info? e with
  | none => simp [hq] at hi
  | some ie =>
    simp [hq] at hi
    obtain ⟨h1, h2⟩ := hi
    refine wp_buildSlice t e 1 _ ho cs.toArray ie (.agg z) hu hq h1 (by omega) (by omega) ?_ (h _ rfl)
    rw [Array.toList_map]
    show Instr.fill _ _ [(0, a.eval x)] = _
    rw [hx]
    exact fill_one _ n _ cs (by simp [h2]) hl (by simp [h2])
end
theorem run_copyB (w : World) (ty g o dLen dCap : Nat) (cur : List Value) (t : Nat) (hg : w.heap[g]? = some (.cells cur.toArray t (0, 0))) (A : Option Addr) (c : Nat) (l : List UInt8) (hb : Bs w A l) (hd : l.length ≤ dLen) (hfit : o + l.length ≤ cur.length) :
    ∃ w', (Builtin.copy_ #[46, 46] ty #[.slice (some ⟨g, o, none⟩) dLen dCap, .slice A l.length c]).run Try.prog w = .ok (goInt l.length) w' ∧ w'.heap[g]? = some (.cells (splice cur o (bv l)).toArray t (0, 0)) ∧ Kept [g] w w' ∧ w'.heap.size = w.heap.size := by
  have hbs : (Try.prog.info? 5).map (·.size) = some 1 := by kernel_rfl
  by_cases h0 : l.length = 0
  · obtain rfl : l = [] := List.eq_nil_of_length_eq_zero h0
    refine ⟨w, ?_, by simpa [splice, bv] using hg, Kept.refl _ _, rfl⟩
    exact run_copy_none (P := Try.prog) w 46 46 ty 5 _ _ _ _ _ _ Try.underlying46 hbs (by simp [h0])
  · obtain ⟨ad, rfl, _⟩ := hb 0 _ (bv_get (l := l) (k := 0) (by omega))
    have h := run_copy_row (P := Try.prog) w 46 46 ty 5 g o dLen dCap ad l.length c cur.toArray t (bv l) Try.underlying46 hbs hg (by simp [Nat.min_eq_left hd])
      (fun j v hv => by obtain ⟨ad', e, hc⟩ := hb j v hv; cases e; exact hc) (by simpa using hfit) (bv_one l)
    rw [bv_length] at h
    refine ⟨_, h, ?_, ⟨rfl, rfl, rfl, by simp [World.setRow], fun k _ hk => setRow_other w g k _ (by simpa using hk)⟩, by simp [World.setRow]⟩
    rw [setRow_heap w g _ _ t _ hg]
    simp [splice]
theorem kept_grown {w w' : World} {v : Value} (h : Kept v.ownBlock.toList w w') : w.grownBy w' v.ownBlock := ⟨h.os, h.tape, h.output, h.size, fun k hk hn => h.block k hk (by
  intro hm
  cases hv : v.ownBlock with
  | none => rw [hv] at hm; simp at hm
  | some j => rw [hv] at hm hn; simp at hm; exact hn (by rw [hm]))⟩
theorem IsDk.pushed {B : List Nat} {p g cap : Nat} {s : Dk} {v v7 : Value} {w4 w7 : World} (h : IsDk B w4 p s g cap v) (hk : Kept v.ownBlock.toList w4 w7) (x : Nat × List UInt8) (ho : w7.ownsRow 0 106 65 v7 (s.waits.length + 1) (wcs s.waits ++ wc x))
    (hv7 : v7.ownBlock = v.ownBlock ∨ ∃ k, v7.ownBlock = some k ∧ w4.heap.size ≤ k) :
    ∃ B', Disk B' (w7.setCell ⟨p, 1, none⟩ v7) p ⟨s.sure, s.waits ++ [x], s.down, s.cut, s.age⟩ ∧ Turn B w4 B' (w7.setCell ⟨p, 1, none⟩ v7) := by
  have hpn : p ∉ v.ownBlock.toList := by
    intro hm
    cases hv : v.ownBlock with
    | none => rw [hv] at hm; simp at hm
    | some j => rw [hv] at hm; simp at hm; exact (h.apart2 j hv).1 hm.symm
  have hrow := hk.heap h.row hpn
  have hp7 : v7.ownBlock = none ∨ v7.ownBlock ≠ some p := by
    rcases hv7 with e | ⟨k, e, hk⟩
    · rw [e]
      cases hv : v.ownBlock with
      | none => exact .inl rfl
      | some j => exact .inr (by have := (h.apart2 j hv).1; simpa using this)
    · exact .inr (by rw [e]; have := h.lt p h.pB; simp; omega)
  have hs1 : w7.grownBy (w7.setCell ⟨p, 1, none⟩ v7) (some p) := ⟨rfl, rfl, rfl, by simp, fun k _ hk => heap_setCell_other w7 ⟨p, 1, none⟩ k v7 (fun e => hk (by simp [e]))⟩
  have ho1 : w7.ownsRow 0 104 64 (.slice (some ⟨g, 0, none⟩) s.sure.length cap) s.sure.length (pcs s.sure) := by
    refine h.own1.kept (kept_grown hk) (.inr ?_)
    cases hv : v.ownBlock with
    | none => simp [Value.ownBlock]
    | some j => exact fun e => (h.apart2 j hv).2 (by injection e with e; exact e.symm)
  have hin : ∀ k ∈ v.ownBlock.toList, k ∈ B := by
    intro k hm
    cases hv : v.ownBlock with
    | none => rw [hv] at hm; simp at hm
    | some j => rw [hv] at hm; simp at hm; subst hm; exact h.vB _ hv
  have hsz := hk.size
  refine ⟨v7.ownBlock.toList ++ B, ⟨g, cap, v7, ⟨by simpa using heap_setCell_same w7 p 1 _ _ v7 hrow, ho1.kept hs1 (.inr (by simpa [Value.ownBlock] using h.apart1)), ?_, by simp [h.pB], by simp [h.gB], fun k e => by simp [e], ?_⟩⟩, ⟨?_, fun k hk => by simp [hk], ?_⟩⟩
  · have e1 : (s.waits ++ [x]).length = s.waits.length + 1 := by simp
    have e2 : wcs (s.waits ++ [x]) = wcs s.waits ++ wc x := by simp [wcs]
    rw [e1, e2]
    exact ho.kept hs1 hp7
  · intro k hm
    have hsc : (w7.setCell ⟨p, 1, none⟩ v7).heap.size = w7.heap.size := by simp
    rw [hsc]
    rcases List.mem_append.1 hm with hm | hm
    · cases hv : v7.ownBlock with
      | none => rw [hv] at hm; simp at hm
      | some j => rw [hv] at hm; simp at hm; subst hm; exact (ho.lt _ hv).2
    · have := h.lt k hm; omega
  · exact (hk.mono hin).setCell (.inl h.pB) v7
  · intro k hm
    rcases List.mem_append.1 hm with hm | hm
    · rcases hv7 with e | ⟨j, e, hj⟩
      · rw [e] at hm; exact .inl (hin k hm)
      · rw [e] at hm; simp at hm; subst hm; exact .inr hj
    · exact .inl hm
def padL (l : List UInt8) : List UInt8 := l ++ zpage.drop l.length
theorem padL_len {l : List UInt8} (h : l.length ≤ 64) : (padL l).length = 64 := by simp [padL, zpage]; omega
def wrote (s : Dk) (i : Nat) (l : List UInt8) : Dk := ⟨(spent s).sure, (spent s).waits ++ [(i, padL l)], (spent s).down, (spent s).cut, (spent s).age⟩
section
variable {B : List Nat} {p g cap : Nat} {s : Dk} {v : Value}
set_option maxRecDepth 20000 in
set_option maxHeartbeats 1000000 in
theorem Write_ok (w : World) (h : IsDk B w p s g cap v) (hs : s.Ok) (hd : s.down = false) (i : Nat) (hi : i < s.sure.length) (hm : s.waits.length ≤ 1000000) (hc : s.cut ≤ 9223372036854775807)
    (A : Option Addr) (c : Nat) (l : List UInt8) (hl : l.length ≤ 64) (hb : BsM B w A l) (hsp : (spent s).down = false) :
    Calls Try.prog 51 #[pt p, .int .i64 i, .slice A l.length c] w fun e w' => ∃ B', e = .returned (.int .i64 0) ∧ Disk B' w' p (wrote s i l) ∧ Turn B w B' w' := by
  have HW := wrong_any w h i true
  rw [show wrongE s i true = 0 by unfold wrongE; rw [if_neg (by simp [hd]), if_pos (by omega)]] at HW
  have HS := fun W (hx : Ext w W) => spend_any W (h.ext hx) hd hc
  rw [hsp] at HS
  have hll : ¬ (64 : Int) < (l.length : Int) := by omega
  have HB := Lib.hid hb
  have HSP := Lib.hid hsp
  have HM := Lib.hid hm
  have hpB := h.pB
  have HOK := Lib.hid hs
  have hs1 := spent_waits s
  have HS1 := Lib.hid hs1
  have hplt := h.lt p hpB
  clear h hd hc hb hsp hm hs hs1
  unfold pt at *
  go_enter Try.func51, Try.ntmps51
  go_wp2_with fail
  refine HW.mono ?_
  rintro e w1 ⟨rfl, hx⟩
  clear HW
  go_wp2_with fail
  refine (HS w1 hx).mono ?_
  rintro e w2 ⟨rfl, hk2, h2⟩
  clear HS
  have HKB := Lib.hid (Kept.of_ext (M := B) hx |>.trans (hk2.mono (N := B) (by intro k hk; simp at hk; subst hk; exact hpB)))
  have HB2 := Lib.hid (BsM.kept HB.out HKB.out)
  have H2 := Lib.hid h2
  have hsz : w.heap.size ≤ w2.heap.size := HKB.out.size
  clear hk2 h2 hx HB
  go_wp2_with (first | (with_reducible refine stop_build61 ?_) | (with_reducible refine stop_alloc61 ?_) | (with_reducible refine stop_store61 ?_))
  refine go_on (wpList_build_ (parts := #[(0, .tmp 21)]) rfl rfl (write_built i) ?_)
  go_wp2_with (first | (with_reducible refine stop_build61 ?_) | (with_reducible refine stop_alloc61 ?_) | (with_reducible refine stop_store61 ?_))
  refine go_on (wpList_alloc_ rfl rfl write_info ?_)
  go_wp2_with (first | (with_reducible refine stop_build61 ?_) | (with_reducible refine stop_alloc61 ?_) | (with_reducible refine stop_store61 ?_))
  refine go_on (wpList_store_last (c' := (wc (i, zpage)).toArray) rfl rfl rfl rfl (write_size rfl) (by simp [wc]) (wc_all _) ?_)
  intro w3 hr3 hx3 hz3
  obtain ⟨w4, hcp, hr4, hk4, hz4⟩ := run_copyB w3 3 w2.heap.size 1 64 64 (wc (i, zpage)) 106 hr3 A c l (BsM.bs (BsM.kept HB2.out (.of_ext hx3))) hl (by simp [wc, zpage]; omega)
  have e4 : splice (wc (i, zpage)) 1 (bv l) = wc (i, padL l) := by
    unfold splice wc padL
    rw [bv_append, bv_drop]
    simp [Nat.add_comm 1 l.length]
  rw [e4] at hr4
  have hx4 : Ext w2 w4 := hx3.kept hk4 (by simp)
  have HR4 := Lib.hid hr4
  have HX4 := Lib.hid hx4
  have hgl : w2.heap.size < w4.heap.size := by omega
  have h4 := H2.out.ext hx4
  have hvp : p ∉ v.ownBlock.toList := by
    intro hm
    cases hv : v.ownBlock with
    | none => rw [hv] at hm; simp at hm
    | some j => rw [hv] at hm; simp at hm; exact (h4.apart2 j hv).1 hm.symm
  have hvg : w2.heap.size ∉ v.ownBlock.toList := by
    intro hm
    cases hv : v.ownBlock with
    | none => rw [hv] at hm; simp at hm
    | some j => rw [hv] at hm; simp at hm; have := H2.out.lt j (H2.out.vB j hv); omega
  have C1 : ∀ w', Kept v.ownBlock.toList w4 w' → w'.cell? ⟨p, 1, none⟩ = some v := fun w' hk => hk.cell (h4.cells.2.1 w4 (Ext.refl _)) hvp
  have CF : ∀ w' j, Kept v.ownBlock.toList w4 w' → w'.frozen? ⟨p, j, none⟩ = false := fun w' j hk => frozen_of_row w' p j _ _ (hk.heap h4.row hvp)
  have HRG : Hid (∀ w', Kept v.ownBlock.toList w4 w' → w'.rangeAt w2.heap.size 0 (wc (i, padL l))) := Lib.hid fun w' hk j u hu => by
    rw [Nat.zero_add, cell_of_row w' _ j _ _ _ (hk.heap hr4 hvg)]
    simpa using hu
  have HO4 := Lib.hid h4.own2
  have H4 := Lib.hid h4
  have hpl := padL_len hl
  have HPL := Lib.hid hpl
  have hws := write_size (i := i) hpl
  have hwl : (wc (i, padL l)).length = 65 := by simp [wc, hpl]
  have HWL := Lib.hid hwl
  have HWS := Lib.hid hws
  have hml : ((spent s).waits.length + 1) * 72 ≤ 140737488355328 := by rw [HS1.out]; have := HM.out; omega
  have hml2 : (spent s).waits.length + 1 ≤ 140737488355328 := by omega
  have hplt4 : p < w4.heap.size := by omega
  clear hr3 hx3 hz3 hr4 hx4 hk4 hz4 e4 h4 hpl hws hwl
  go_wp2_with fail
  have hk0 : Kept v.ownBlock.toList w4 w4.drew := (Kept.refl _ w4).drew
  refine wp_region_phase (S := fun w' => Kept v.ownBlock.toList w4 w') 8 (by kernel_rfl) (by kernel_rfl) ?_ (fun hHeld => ?_)
  · exact hk0
  simp only [List.drop_succ_cons, List.drop_zero]
  refine name_head ?_
  intro wr0 hw0
  rw [hw0] at hHeld
  refine wpHead_take (i := 0) (v := ?_) (by rfl) (by kernel_rfl) (by kernel_rfl) (by exact fun _ _ _ h => h) (Or.inl ⟨by rfl, ?_⟩) (by assumption) ?_
  rotate_left
  · intro w hSw
    first | (go_simp; done) | (go_simp; with_reducible rfl)
  simp only [List.getElem_toArray, List.getElem_cons_zero, Act.put, List.setIfInBounds_toArray, List.set_cons_zero, List.set_cons_succ]
  refine wpHead_take (i := 1) (v := ?_) (by rfl) (by kernel_rfl) (by kernel_rfl) (by exact fun _ _ _ h => h) (Or.inl ⟨by rfl, ?_⟩) (by assumption) ?_
  rotate_left
  · intro w hSw
    first | (go_simp; done) | (go_simp; with_reducible rfl)
  simp only [List.getElem_toArray, List.getElem_cons_succ, List.getElem_cons_zero, Act.put, List.setIfInBounds_toArray, List.set_cons_zero, List.set_cons_succ]
  refine wpHead_take (i := 2) (v := ?_) (by rfl) (by kernel_rfl) (by kernel_rfl) (by exact fun _ _ _ h => h) (Or.inl ⟨by rfl, ?_⟩) (by assumption) ?_
  rotate_left
  · intro w hSw
    first | (go_simp; done) | (go_simp; with_reducible rfl)
  simp only [List.getElem_toArray, List.getElem_cons_succ, List.getElem_cons_zero, Act.put, List.setIfInBounds_toArray, List.set_cons_zero, List.set_cons_succ]
  refine wpHead_take (i := 3) (v := ?_) (by rfl) (by kernel_rfl) (by kernel_rfl) (by exact fun _ _ _ h => h) (Or.inl ⟨by rfl, ?_⟩) (by assumption) ?_
  rotate_left
  · intro w hSw
    first | (go_simp; done) | (go_simp; with_reducible rfl)
  simp only [List.getElem_toArray, List.getElem_cons_succ, List.getElem_cons_zero, Act.put, List.setIfInBounds_toArray, List.set_cons_zero, List.set_cons_succ]
  refine wpHead_take (i := 4) (v := ?_) (by rfl) (by kernel_rfl) (by kernel_rfl) (by exact fun _ _ _ h => h) (Or.inl ⟨by rfl, ?_⟩) (by assumption) ?_
  rotate_left
  · intro w hSw
    first | (go_simp; done) | (go_simp; with_reducible rfl)
  simp only [List.getElem_toArray, List.getElem_cons_succ, List.getElem_cons_zero, Act.put, List.setIfInBounds_toArray, List.set_cons_zero, List.set_cons_succ]
  refine wpHead_take (i := 5) (v := (.agg (wc (i, padL l)).toArray)) (by rfl) (by kernel_rfl) (by kernel_rfl) (by exact fun _ _ _ h => h) (yieldsIf_load_mid (by rfl) 106 _ (by rfl) w2.heap.size 0 (by rfl) (wc (i, padL l)) _ (fun w' hS => HRG.out w' hS) Try.underlying106 rfl (by simpa using HWS.out)) (by assumption) ?_
  simp only [List.getElem_toArray, List.getElem_cons_succ, List.getElem_cons_zero, Act.put, List.setIfInBounds_toArray, List.set_cons_zero, List.set_cons_succ]
  refine wpHead_ready (rs := [6]) (by kernel_rfl) (by simp) (by kernel_rfl) ?_
  refine AllHead.cons (by rfl) (fun K hK => ?_) ?_
  · refine step_build1 (by rfl) (by rfl) (by rfl) Try.underlying66 write_info (by omega) (by omega) HWL.out ?_
    intro wr6 hw6
    have hx6 : Ext wr0 wr6 := hw6 ▸ (Ext.refl _).alloc _
    have hr6 : wr6.heap[wr0.heap.size]? = some (.cells (wc (i, padL l)).toArray 106 (0, 0)) := hw6 ▸ heap_alloc_new wr0 _
    have hz6 : wr0.heap.size < wr6.heap.size := by rw [hw6]; simp
    have ho6 : wr6.ownsRow 0 106 65 v (spent s).waits.length (wcs (spent s).waits) := owns_ext (by rw [← hw0]; exact HO4.out) hx6
    refine hK.out _ _ ?_ (fun hHeld => ?_)
    · exact Kept.ext hHeld hx6
    clear hK K
    try simp only [List.getElem_toArray, List.getElem_cons_succ, List.getElem_cons_zero, Act.put, List.setIfInBounds_toArray, List.set_cons_zero, List.set_cons_succ]
    refine wpHead_ready (rs := [7]) (by kernel_rfl) (by simp) (by kernel_rfl) ?_
    refine AllHead.cons (by rfl) (fun K hK => ?_) ?_
    · refine step_ap writesT ho6 (Sl.of_row hr6) (by rfl) (by rfl) (by rfl) (by rfl) (by rw [HWL.out]) (wc_one _) hml hml2 (Nat.zero_le _) ?_
      rintro v7 wr7 ho7 hg7 hor7
      have hk7 : Kept v.ownBlock.toList w4 wr7 := hHeld.grown hg7 (fun k hk => .inl (by simp [hk]))
      have hs7 : w4.heap.size ≤ wr6.heap.size := hHeld.size
      refine hK.out _ _ ?_ (fun hHeld => ?_)
      · exact hk7
      clear hK K
      try simp only [List.getElem_toArray, List.getElem_cons_succ, List.getElem_cons_zero, Act.put, List.setIfInBounds_toArray, List.set_cons_zero, List.set_cons_succ]
      refine wpHead_done (by kernel_rfl) ?_
      obtain ⟨A7, n7, rfl⟩ := own_form ho7
      have c7 := C1 wr7 hk7
      have cf7 := fun j => CF wr7 j hk7
      obtain ⟨B', hd', ht'⟩ := H4.out.pushed hk7 (i, padL l) ho7 (hor7.imp id fun e => ⟨_, e, hs7⟩)
      have HD := Lib.hid hd'
      have HT := Lib.hid ht'
      clear ho7 hd' ht' hg7 hor7 ho6 C1 CF
      go_wp2
      go_ret
      exact ⟨B', rfl, HD.out, ((Turn.of_kept HKB.out).ext HX4.out).trans HT.out⟩
    exact AllHead.nil
  exact AllHead.nil
end
end Go.Proofs.Ytklodimokhndoaa
