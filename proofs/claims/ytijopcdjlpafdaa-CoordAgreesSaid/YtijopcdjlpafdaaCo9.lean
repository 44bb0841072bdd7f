/- The walks of coord.Drop and Ask. Conditions: the hypotheses of each theorem. -/
import Derived.Test.YtijopcdjlpafdaaCo8
namespace Go.Proofs.Ytijopcdjlpafdaa
open Go.RowKit
theorem yieldsIf_load_elem {P : Program} {ops : Array Oper} {S : World → Prop} {op : Oper} {a : Act} (hw : Region.wanted op (yielded ops a.tmps) = true) (ty : TypeId) (x : Operand) (ho : op.op = .load ty x)
    (p : Addr) (hx : a.eval x = .pointer (some p)) (cs : List Value) (d : TypeDesc) (hS : ∀ w, S w → ∀ j v, cs[j]? = some v → w.cell? (p.add j) = some v)
    (hu : P.underlying ty = some d) (hd : d.isRow = true) (hi : (P.info? ty).map (·.size) = some cs.length) : YieldsIf P ops S op (.agg cs.toArray) a :=
  .inl ⟨hw, fun w hw' => by
    unfold execOp
    simp only [ho, hx, Instr.loadAt, Instr.sureAddr, Sem.run_bind, Sem.run_pure, Result.andThen_ok, run_loadVar_elem w p ty cs d (hS w hw') hu hd hi]⟩
theorem said_size (m : List Int) : (Try.prog.info? 83).map (·.size) = some (saidC m).length := by
  show (Try.prog.info? 83).map (·.size) = some 4
  kernel_rfl
theorem trC_said (t : Tr) (v : Value) {j : Nat} {u : Value} (h : (saidC t.yes)[j]? = some u) : (trC t v)[5 + j]? = some u := by
  match j, h with
  | 0, h => exact h
  | 1, h => exact h
  | 2, h => exact h
  | 3, h => exact h
  | j + 4, h => simp [saidC] at h
theorem trC_ack (t : Tr) (v : Value) {j : Nat} {u : Value} (h : (saidC t.ack)[j]? = some u) : (trC t v)[9 + j]? = some u := by
  match j, h with
  | 0, h => exact h
  | 1, h => exact h
  | 2, h => exact h
  | 3, h => exact h
  | j + 4, h => simp [saidC] at h
theorem said_range {W : World} {ad : Addr} {t : Tr} {v : Value} (h : ∀ j u, (trC t v)[j]? = some u → W.cell? (ad.add j) = some u) : W.rangeAt ad.block (ad.off + 5) (saidC t.yes) ∧ W.rangeAt ad.block (ad.off + 9) (saidC t.ack) := by
  constructor
  · intro j u hj
    have := h _ _ (trC_said t v hj)
    rw [show 5 + j = (4 + j) + 1 by omega, add_pos'] at this
    rw [show ad.off + 5 + j = ad.off + (4 + j + 1) by omega]
    exact this
  · intro j u hj
    have := h _ _ (trC_ack t v hj)
    rw [show 9 + j = (8 + j) + 1 by omega, add_pos'] at this
    rw [show ad.off + 9 + j = ad.off + (8 + j + 1) by omega]
    exact this
theorem row_eq {s : Cs} {i : Nat} (hi : i < s.under.length) : s.row i = s.under[i] := by
  unfold Cs.row
  rw [List.getD_eq_getElem?_getD, List.getElem?_eq_getElem hi]
  rfl
set_option maxRecDepth 20000 in
set_option maxHeartbeats 2000000 in
theorem CDrop_any {M : List Nat} {w : World} {p : Nat} {s : Cs} (h : Co M w p s) (hs : s.Ok) (hp : p ∈ M) (hM : ∀ k ∈ M, k < w.heap.size) (id : TxI) :
    Calls Try.prog 14 #[pt p, .agg #[.int .i64 id.node, .int .i64 id.boot, .int .i64 id.n]] w fun e w' => e = .returned (.int .i64 (dropO s id).1) ∧ Co M w' p (dropO s id).2 ∧ Kept [p] w w' := by
  have hfew : s.under.length ≤ 1000 := by have := hs.few; omega
  have HA := fun W (hx : Ext w W) => cat_any (h.ext hx) id false hfew
  have HCO := Lib.hid h
  have HM := Lib.hid hM
  obtain ⟨A, cap, h⟩ := h
  obtain ⟨c0, c1, c2, c3, cf⟩ := rows4 h.row
  have HH := Lib.hid h
  clear h hM c0 c1 c2
  have hx0 := Ext.refl w
  cases hat : s.at_ id false with
  | none =>
    have HV : Hid (dropO s id = (9, s)) := Lib.hid (by unfold dropO; rw [hat])
    have ha : atV s id false = .tuple #[.int .i64 0, .int .i64 9] := by unfold atV; rw [hat]
    rw [ha] at HA
    clear ha hat
    unfold pt at *
    go_enter Try.func14, Try.ntmps14
    go_wp2_with fail
    generalize hw1 : w.alloc _ = wb
    have hxb : Ext w wb := hw1 ▸ (Ext.refl w).alloc _
    clear hw1
    refine (HA _ hxb).mono ?_
    rintro e w2 ⟨rfl, hx2⟩
    have HX := Lib.hid (hxb.trans hx2)
    clear HA hxb hx2
    go_wp2
    go_ret
    rw [HV.out]
    exact ⟨rfl, HCO.out.ext HX.out, .of_ext HX.out⟩
  | some i =>
    obtain ⟨hi, hid, hd, _⟩ := at_some hat
    have ha : atV s id false = .tuple #[.int .i64 i, .int .i64 0] := by unfold atV; rw [hat]
    rw [ha] at HA
    rw [row_eq hi] at hid hd
    have HV : Hid (dropO s id = if allIn s.under[i].shards s.under[i].yes then (13, s) else (0, { s with under := s.under.eraseIdx i })) := Lib.hid (by unfold dropO; rw [hat]; simp only [row_eq hi])
    obtain ⟨ad, A1, c1, rfl, hsl, hcell, _⟩ := HH.out.rs.tr hi
    have hok := hs.rows _ (List.getElem_mem hi)
    have HALL := fun W (hx : Ext w W) => txall_any s.under[i] s.under[i].yes A1 c1 W (hsl.ext hx) (rightF_mem hok.right) (by have := rightF_len hok.right; omega)
    generalize s.under[i] = t at *
    have hilt : (i : Int) < (s.under.length : Int) := by omega
    clear ha hat hok hid hd hsl
    have HC := Lib.hid hcell
    have HRG := Lib.hid fun W (hx : Ext w W) => said_range (hcell W hx)
    clear hcell
    unfold pt at *
    go_enter Try.func14, Try.ntmps14
    go_wp2_with fail
    generalize hw1 : w.alloc _ = wb
    have hxb : Ext w wb := hw1 ▸ (Ext.refl w).alloc _
    clear hw1
    refine (HA _ hxb).mono ?_
    rintro e w2 ⟨rfl, hx2⟩
    have hxw2 := hxb.trans hx2
    clear HA hxb hx2
    go_wp2_with fail
    have hxd : Ext w w2.drew := hxw2.drew
    refine wp_region_phase (S := fun w' => Ext w w') 16 (by kernel_rfl) (by kernel_rfl) ?_ (fun hHeld => ?_)
    · exact hxd
    simp only [List.drop_succ_cons, List.drop_zero]
    refine name_head ?_
    intro wr0 hw0
    rw [hw0] at hHeld
    refine wpHead_take (i := 0) (v := ?_) (by rfl) (by kernel_rfl) (by kernel_rfl) (by exact fun _ _ _ h => h) (Or.inl ⟨by rfl, ?_⟩) (by assumption) ?_
    rotate_left
    · intro w hSw
      first | (go_simp; done) | (go_simp; with_reducible rfl)
    simp only [List.getElem_toArray, List.getElem_cons_zero, Act.put, List.setIfInBounds_toArray, List.set_cons_zero, List.set_cons_succ]
    refine wpHead_take (i := 1) (v := ?_) (by rfl) (by kernel_rfl) (by kernel_rfl) (by exact fun _ _ _ h => h) (Or.inl ⟨by rfl, ?_⟩) (by assumption) ?_
    rotate_left
    · intro w hSw
      first | (go_simp; done) | (go_simp; with_reducible rfl)
    simp only [List.getElem_toArray, List.getElem_cons_succ, List.getElem_cons_zero, Act.put, List.setIfInBounds_toArray, List.set_cons_zero, List.set_cons_succ]
    refine wpHead_take (i := 2) (v := ?_) (by rfl) (by kernel_rfl) (by kernel_rfl) (by exact fun _ _ _ h => h) (Or.inl ⟨by rfl, ?_⟩) (by assumption) ?_
    rotate_left
    · intro w hSw
      first | (go_simp; done) | (go_simp; with_reducible rfl)
    simp only [List.getElem_toArray, List.getElem_cons_succ, List.getElem_cons_zero, Act.put, List.setIfInBounds_toArray, List.set_cons_zero, List.set_cons_succ]
    refine wpHead_take (i := 3) (v := ?_) (by rfl) (by kernel_rfl) (by kernel_rfl) (by exact fun _ _ _ h => h) (Or.inl ⟨by rfl, ?_⟩) (by assumption) ?_
    rotate_left
    · intro w hSw
      first | (go_simp; done) | (go_simp; with_reducible rfl)
    simp only [List.getElem_toArray, List.getElem_cons_succ, List.getElem_cons_zero, Act.put, List.setIfInBounds_toArray, List.set_cons_zero, List.set_cons_succ]
    refine wpHead_take (i := 4) (v := ?_) (by rfl) (by kernel_rfl) (by kernel_rfl) (by exact fun _ _ _ h => h) (Or.inl ⟨by rfl, ?_⟩) (by assumption) ?_
    rotate_left
    · intro w hSw
      first | (go_simp; done) | (go_simp; with_reducible rfl)
    simp only [List.getElem_toArray, List.getElem_cons_succ, List.getElem_cons_zero, Act.put, List.setIfInBounds_toArray, List.set_cons_zero, List.set_cons_succ]
    refine wpHead_take (i := 5) (v := ?_) (by rfl) (by kernel_rfl) (by kernel_rfl) (by exact fun _ _ _ h => h) (Or.inl ⟨by rfl, ?_⟩) (by assumption) ?_
    rotate_left
    · intro w hSw
      first | (go_simp; done) | (go_simp; with_reducible rfl)
    simp only [List.getElem_toArray, List.getElem_cons_succ, List.getElem_cons_zero, Act.put, List.setIfInBounds_toArray, List.set_cons_zero, List.set_cons_succ]
    refine wpHead_take (i := 6) (v := (.agg (trC t (.slice A1 t.shards.length c1)).toArray)) (by rfl) (by kernel_rfl) (by kernel_rfl) (by exact fun _ _ _ h => h) (yieldsIf_load_elem (by rfl) 85 _ rfl (ad.add (i * 13)) rfl (trC t (.slice A1 t.shards.length c1)) _ (fun w' hx => HC.out w' hx) Try.underlying85 rfl (tx_size rfl)) (by assumption) ?_
    simp only [List.getElem_toArray, List.getElem_cons_succ, List.getElem_cons_zero, Act.put, List.setIfInBounds_toArray, List.set_cons_zero, List.set_cons_succ]
    refine wpHead_take (i := 7) (v := ?_) (by rfl) (by kernel_rfl) (by kernel_rfl) (by exact fun _ _ _ h => h) (Or.inl ⟨by rfl, ?_⟩) (by assumption) ?_
    rotate_left
    · intro w hSw
      first | (go_simp; done) | (go_simp; with_reducible rfl)
    simp only [List.getElem_toArray, List.getElem_cons_succ, List.getElem_cons_zero, Act.put, List.setIfInBounds_toArray, List.set_cons_zero, List.set_cons_succ]
    refine wpHead_take (i := 8) (v := ?_) (by rfl) (by kernel_rfl) (by kernel_rfl) (by exact fun _ _ _ h => h) (Or.inl ⟨by rfl, ?_⟩) (by assumption) ?_
    rotate_left
    · intro w hSw
      first | (go_simp; done) | (go_simp; with_reducible rfl)
    simp only [List.getElem_toArray, List.getElem_cons_succ, List.getElem_cons_zero, Act.put, List.setIfInBounds_toArray, List.set_cons_zero, List.set_cons_succ]
    refine wpHead_take (i := 9) (v := ?_) (by rfl) (by kernel_rfl) (by kernel_rfl) (by exact fun _ _ _ h => h) (Or.inl ⟨by rfl, ?_⟩) (by assumption) ?_
    rotate_left
    · intro w hSw
      first | (go_simp; done) | (go_simp; with_reducible rfl)
    simp only [List.getElem_toArray, List.getElem_cons_succ, List.getElem_cons_zero, Act.put, List.setIfInBounds_toArray, List.set_cons_zero, List.set_cons_succ]
    refine wpHead_take (i := 10) (v := ?_) (by rfl) (by kernel_rfl) (by kernel_rfl) (by exact fun _ _ _ h => h) (Or.inl ⟨by rfl, ?_⟩) (by assumption) ?_
    rotate_left
    · intro w hSw
      first | (go_simp; done) | (go_simp; with_reducible rfl)
    simp only [List.getElem_toArray, List.getElem_cons_succ, List.getElem_cons_zero, Act.put, List.setIfInBounds_toArray, List.set_cons_zero, List.set_cons_succ]
    refine wpHead_take (i := 11) (v := ?_) (by rfl) (by kernel_rfl) (by kernel_rfl) (by exact fun _ _ _ h => h) (Or.inl ⟨by rfl, ?_⟩) (by assumption) ?_
    rotate_left
    · intro w hSw
      first | (go_simp; done) | (go_simp; with_reducible rfl)
    simp only [List.getElem_toArray, List.getElem_cons_succ, List.getElem_cons_zero, Act.put, List.setIfInBounds_toArray, List.set_cons_zero, List.set_cons_succ]
    refine wpHead_take (i := 12) (v := ?_) (by rfl) (by kernel_rfl) (by kernel_rfl) (by exact fun _ _ _ h => h) (Or.inl ⟨by rfl, ?_⟩) (by assumption) ?_
    rotate_left
    · intro w hSw
      first | (go_simp; done) | (go_simp; with_reducible rfl)
    simp only [List.getElem_toArray, List.getElem_cons_succ, List.getElem_cons_zero, Act.put, List.setIfInBounds_toArray, List.set_cons_zero, List.set_cons_succ]
    refine wpHead_take (i := 13) (v := ?_) (by rfl) (by kernel_rfl) (by kernel_rfl) (by exact fun _ _ _ h => h) (Or.inl ⟨by rfl, ?_⟩) (by assumption) ?_
    rotate_left
    · intro w hSw
      first | (go_simp; done) | (go_simp; with_reducible rfl)
    simp only [List.getElem_toArray, List.getElem_cons_succ, List.getElem_cons_zero, Act.put, List.setIfInBounds_toArray, List.set_cons_zero, List.set_cons_succ]
    refine wpHead_take (i := 14) (v := (.agg (saidC t.yes).toArray)) (by rfl) (by kernel_rfl) (by kernel_rfl) (by exact fun _ _ _ h => h) (yieldsIf_load_mid (by rfl) 83 _ rfl (ad.add (i * 13)).block ((ad.add (i * 13)).off + 5) rfl (saidC t.yes) _ (fun w' hx => (HRG.out w' hx).1) Try.underlying83 rfl (said_size _)) (by assumption) ?_
    simp only [List.getElem_toArray, List.getElem_cons_succ, List.getElem_cons_zero, Act.put, List.setIfInBounds_toArray, List.set_cons_zero, List.set_cons_succ]
    refine wpHead_ready (rs := [15]) (by kernel_rfl) (by simp) (by kernel_rfl) ?_
    refine AllHead.cons (by rfl) (fun K hK => ?_) ?_
    · refine step_callG (by rfl) (by kernel_rfl) (HALL _ hHeld) ?_
      rintro e wr15 ⟨rfl, hx15⟩
      refine ⟨_, rfl, ?_⟩
      refine hK.out _ _ ?_ (fun hHeld => ?_)
      · exact hHeld.trans hx15
      clear hK K
      try simp only [List.getElem_toArray, List.getElem_cons_succ, List.getElem_cons_zero, Act.put, List.setIfInBounds_toArray, List.set_cons_zero, List.set_cons_succ]
      refine wpHead_done (by kernel_rfl) ?_
      have HX := Lib.hid hHeld
      by_cases hall : allIn t.shards t.yes = true
      · rw [hall]
        have HV2 : Hid (dropO s id = (13, s)) := Lib.hid (by rw [HV.out, if_pos hall])
        clear hall
        go_wp2
        go_ret
        rw [HV2.out]
        exact ⟨rfl, HCO.out.ext HX.out, .of_ext HX.out⟩
      · have HV2 : Hid (dropO s id = (0, { s with under := s.under.eraseIdx i })) := Lib.hid (by rw [HV.out, if_neg hall])
        have hall : allIn t.shards t.yes = false := by simpa using hall
        rw [hall]
        have HRM := cremove_any (HCO.out.ext HX.out) hp (fun k hk => Nat.lt_of_lt_of_le (HM.out k hk) HX.out.size) i hi hfew
        unfold pt at HRM
        clear hall
        go_wp2_with fail
        refine HRM.mono ?_
        rintro e w3 ⟨rfl, hco3, hk3⟩
        have HC3 := Lib.hid hco3
        have HK3 := Lib.hid ((Kept.of_ext HX.out).trans hk3)
        clear hco3 hk3
        go_wp2
        go_ret
        rw [HV2.out]
        exact ⟨rfl, HC3.out, HK3.out⟩
    exact AllHead.nil
end Go.Proofs.Ytijopcdjlpafdaa
