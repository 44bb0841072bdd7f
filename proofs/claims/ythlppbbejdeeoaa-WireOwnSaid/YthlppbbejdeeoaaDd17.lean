/- What is put is taken, and the other way round; the reference's Same and SameAll at deeds that are the same. Conditions: the hypotheses of each theorem. -/
import Derived.Test.YthlppbbejdeeoaaDd15
namespace Go.Proofs.Ythlppbbejdeeoaa
open Go.RowKit
theorem yieldsIf_load_elem {P : Program} {ops : Array Oper} {S : World → Prop} {op : Oper} {a : Act} (hw : Region.wanted op (yielded ops a.tmps) = true) (ty : TypeId) (x : Operand) (ho : op.op = .load ty x)
    (p : Addr) (hx : a.eval x = .pointer (some p)) (cs : List Value) (d : TypeDesc) (hS : ∀ w, S w → ∀ j v, cs[j]? = some v → w.cell? (p.add j) = some v)
    (hu : P.underlying ty = some d) (hd : d.isRow = true) (hi : (P.info? ty).map (·.size) = some cs.length) : YieldsIf P ops S op (.agg cs.toArray) a :=
  .inl ⟨hw, fun w hw' => by
    unfold execOp
    simp only [ho, hx, Instr.loadAt, Instr.sureAddr, Sem.run_bind, Sem.run_pure, Result.andThen_ok, run_loadVar_elem w p ty cs d (hS w hw') hu hd hi]⟩
/-! ## the plain laws -/
theorem putAllT_ok {ds : List Dd} (h : (putAllT ds).2 = 0) : (putAllT ds).1 = putAllB ds ∧ ds.length ≠ 0 ∧ ds.length ≤ 12 ∧ firstC ds = 0 ∧ (putAllB ds).length ≤ 1800 := by
  unfold putAllT at *
  split at h
  · cases h
  · rename_i h1
    split at h
    · cases h
    · rename_i h2
      split at h
      · rename_i h3; exact absurd h h3
      · rename_i h3
        split at h
        · cases h
        · rename_i h4
          rw [if_neg h1, if_neg h2, if_neg h3, if_neg h4]
          exact ⟨rfl, h1, by omega, by simpa using h3, by omega⟩
theorem read_all {ds : List Dd} (h1 : 1 ≤ ds.length) (h2 : ds.length ≤ 12) (hok : ∀ d ∈ ds, okD d) : readP allP (putAllB ds) = .inr ds := by
  have e1 : numP 1 (putAllB ds) = .inr (ds.length, ds.flatMap putD ++ []) := (Rt.num 1).put ds.length (ds.flatMap putD ++ []) (by omega)
  have e2 := (Rt.rep Rt.deed ds.length).put ds [] ⟨hok, rfl⟩
  unfold readP allP
  rw [andP_put e1]
  unfold mustP andP
  simp only [h1, h2, decide_true, Bool.and_self, if_true]
  rw [e2]
  rfl
theorem takeAll_put {ds : List Dd} (h : (putAllT ds).2 = 0) : takeAllT (putAllT ds).1 = .inr ds := by
  obtain ⟨e, h1, h2, h3, h4⟩ := putAllT_ok h
  rw [e]
  unfold takeAllT
  rw [if_neg (by omega), read_all (by omega) h2 (fun d hd => (checkD_ok (firstC_of h3 d hd)).2.2.2.2.2.1)]
  simp [h3]
theorem takeAllT_ok {l : By} {ds : List Dd} (h : takeAllT l = .inr ds) : l = putAllB ds ∧ (∀ d ∈ ds, okD d) ∧ 1 ≤ ds.length ∧ ds.length ≤ 12 ∧ firstC ds = 0 ∧ l.length ≤ 1800 := by
  unfold takeAllT at h
  split at h
  · cases h
  · rename_i h1
    cases hp : readP allP l with
    | inl e => rw [hp] at h; cases h
    | inr ds' =>
      rw [hp] at h
      simp only at h
      split at h
      · cases h
      · rename_i h2
        cases h
        obtain ⟨q1, q2, q3, q4⟩ := okD_all hp
        exact ⟨q1, q2, q3, q4, by simpa using h2, by omega⟩
theorem putAll_take {l : By} {ds : List Dd} (h : takeAllT l = .inr ds) : putAllT ds = (l, 0) := by
  obtain ⟨q1, q2, q3, q4, q5, q6⟩ := takeAllT_ok h
  unfold putAllT
  rw [if_neg (by omega), if_neg (by omega), if_neg (by simp [q5]), ← q1, if_neg (by omega)]
theorem takeUs_putT {u : Us} (h : (putUsT u).2 = 0) : takeUs (putUsT u).1 = .inr u ∧ (putUsT u).1.length ≤ 1700 ∧ checkU u = 0 := by
  unfold putUsT at *
  split at h
  · rename_i h1; exact absurd h h1
  · rename_i h1
    have h1 : checkU u = 0 := by simpa using h1
    rw [if_neg (by simp [h1])]
    exact ⟨takeUs_put h1, putUs_len h1, h1⟩
theorem putUs_take {l : By} {u : Us} (h : takeUs l = .inr u) : putUsT u = (l, 0) := by
  obtain ⟨h1, h2⟩ := takeUs_ok h
  unfold putUsT
  rw [if_neg (by simp [h2]), ← h1]
/-! ## the same deeds -/
set_option maxRecDepth 20000 in
set_option maxHeartbeats 4000000 in
theorem DSame_any (d : Dd) (A A' : Option Addr) (c c' : Nat) (w : World) (h : Bs w A d.bytes) (h' : Bs w A' d.bytes) :
    Calls Try.prog 36 #[.agg (ddC d (.slice A d.bytes.length c)), .agg (ddC d (.slice A' d.bytes.length c'))] w fun e w' => e = .returned (.bool true) ∧ Ext w w' := by
  obtain ⟨dw, du, db, dt, di, dh, df, dsh, de, dby⟩ := d
  simp only at h h'
  unfold ddC
  have hx1 := ((Ext.refl w).alloc (.cells #[.int .i64 dw, .string (st du), .string (st db), .string (st dt), .int .i64 di, .int .i64 dh, .int .u8 (df.toNat : Int), .int .i64 dsh, .int .i64 de, .slice A dby.length c] 48)).alloc (.cells #[.int .i64 dw, .string (st du), .string (st db), .string (st dt), .int .i64 di, .int .i64 dh, .int .u8 (df.toNat : Int), .int .i64 dsh, .int .i64 de, .slice A' dby.length c'] 48)
  have s1 := run_str (P := Try.prog) Try.underlying32 Try.underlying5 Try.underlying9 h dby.length c rfl _ hx1
  have s2 := run_str (P := Try.prog) Try.underlying32 Try.underlying5 Try.underlying9 h' dby.length c' rfl _ hx1
  go_enter Try.func36, Try.ntmps36
  go_wp2
  go_ret
  exact ⟨rfl, hx1⟩
set_option maxRecDepth 20000 in
set_option maxHeartbeats 4000000 in
theorem DSameAll_any (ds : List Dd) (A A' : Option Addr) (c c' : Nat) (w : World) (h : RsM RDd 10 [] w A ds) (h' : RsM RDd 10 [] w A' ds) (hl : ds.length ≤ 140737488351232) :
    Calls Try.prog 18 #[.slice A ds.length c, .slice A' ds.length c'] w fun e w' => e = .returned (.bool true) ∧ Ext w w' := by
  go_enter Try.func18, Try.ntmps18
  go_wp2
  go_loopw [5] (fun iv wr => ∃ k : Nat, iv = .int .i64 k ∧ k ≤ ds.length ∧ Ext w wr) (fun iv _ => ds.length - (intOf iv).toNat)
  case atStart => exact ⟨0, rfl, by omega, Ext.refl w⟩
  case round =>
    obtain ⟨k, rfl, hk, hx⟩ := hrel
    by_cases hlt : k < ds.length
    · obtain ⟨ad, cs, hA, had, hcs, hcell, A2, cap2, hcs2, hby, _⟩ := h.at_ (by omega) hlt
      obtain ⟨ad', cs', hA', had', hcs', hcell', A3, cap3, hcs3, hby', _⟩ := h'.at_ (by omega) hlt
      subst hA hcs2 hA' hcs3
      have hlt2 : (k : Int) < ds.length := by omega
      have hC : ∀ w', Ext w w' → ∀ j v, (ddC ds[k] (.slice A2 ds[k].bytes.length cap2)).toList[j]? = some v → w'.cell? ((ad.add (k * 10)).add j) = some v := fun w' hx' j v hj => hx'.cell (show w.cell? ((ad.add (k * 10)).add j) = some v by rw [add_addB]; exact hcell j v hj)
      have hC' : ∀ w', Ext w w' → ∀ j v, (ddC ds[k] (.slice A3 ds[k].bytes.length cap3)).toList[j]? = some v → w'.cell? ((ad'.add (k * 10)).add j) = some v := fun w' hx' j v hj => hx'.cell (show w.cell? ((ad'.add (k * 10)).add j) = some v by rw [add_addB]; exact hcell' j v hj)
      have HSM := fun w' (hx' : Ext w w') => DSame_any ds[k] A2 A3 cap2 cap3 w' (hby.bs.ext hx') (hby'.bs.ext hx')
      clear hcs hcell hby had hcs' hcell' hby' had'
      generalize ds[k] = dd at *
      obtain ⟨dw, du, db, dt, di, dh, df, dsh, de, dby⟩ := dd
      unfold ddC at hC hC' HSM
      simp only at hC hC' HSM
      have hxn := hx.drew
      go_wp2_with fail
      refine wp_region_phase (S := fun w' => Ext w w') 9 (by kernel_rfl) (by kernel_rfl) ?_ (fun hHeld => ?_)
      · exact hxn
      simp only [List.drop_succ_cons, List.drop_zero]
      refine name_head ?_
      intro wr0 hw0
      rw [hw0] at hHeld
      refine wpHead_take (i := 0) (v := ?_) (by rfl) (by kernel_rfl) (by kernel_rfl) (by exact fun _ _ _ h => h) (Or.inl ⟨by rfl, ?_⟩) (by assumption) ?_
      rotate_left
      · intro w hSw
        first | (go_simp; done) | (go_simp; with_reducible rfl)
      simp only [List.getElem_toArray, List.getElem_cons_zero, Act.put, List.setIfInBounds_toArray, List.set_cons_zero, List.set_cons_succ]
      refine wpHead_take (i := 1) (v := ?_) (by rfl) (by kernel_rfl) (by kernel_rfl) (by exact fun _ _ _ h => h) (Or.inl ⟨by rfl, ?_⟩) (by assumption) ?_
      rotate_left
      · intro w hSw
        first | (go_simp; done) | (go_simp; with_reducible rfl)
      simp only [List.getElem_toArray, List.getElem_cons_succ, List.getElem_cons_zero, Act.put, List.setIfInBounds_toArray, List.set_cons_zero, List.set_cons_succ]
      refine wpHead_take (i := 2) (v := ?_) (by rfl) (by kernel_rfl) (by kernel_rfl) (by exact fun _ _ _ h => h) (Or.inl ⟨by rfl, ?_⟩) (by assumption) ?_
      rotate_left
      · intro w hSw
        first | (go_simp; done) | (go_simp; with_reducible rfl)
      simp only [List.getElem_toArray, List.getElem_cons_succ, List.getElem_cons_zero, Act.put, List.setIfInBounds_toArray, List.set_cons_zero, List.set_cons_succ]
      refine wpHead_take (i := 3) (v := (.agg #[.int .i64 dw, .string (st du), .string (st db), .string (st dt), .int .i64 di, .int .i64 dh, .int .u8 (df.toNat : Int), .int .i64 dsh, .int .i64 de, .slice A2 dby.length cap2])) (by rfl) (by kernel_rfl) (by kernel_rfl) (by exact fun _ _ _ h => h) (by exact yieldsIf_load_elem (by rfl) 48 _ rfl (ad.add (k * 10)) rfl [.int .i64 dw, .string (st du), .string (st db), .string (st dt), .int .i64 di, .int .i64 dh, .int .u8 (df.toNat : Int), .int .i64 dsh, .int .i64 de, .slice A2 dby.length cap2] _ hC Try.underlying48 rfl (by kernel_rfl)) (by assumption) ?_
      simp only [List.getElem_toArray, List.getElem_cons_succ, List.getElem_cons_zero, Act.put, List.setIfInBounds_toArray, List.set_cons_zero, List.set_cons_succ]
      refine wpHead_take (i := 4) (v := ?_) (by rfl) (by kernel_rfl) (by kernel_rfl) (by exact fun _ _ _ h => h) (Or.inl ⟨by rfl, ?_⟩) (by assumption) ?_
      rotate_left
      · intro w hSw
        first | (go_simp; done) | (go_simp; with_reducible rfl)
      simp only [List.getElem_toArray, List.getElem_cons_succ, List.getElem_cons_zero, Act.put, List.setIfInBounds_toArray, List.set_cons_zero, List.set_cons_succ]
      refine wpHead_take (i := 5) (v := ?_) (by rfl) (by kernel_rfl) (by kernel_rfl) (by exact fun _ _ _ h => h) (Or.inl ⟨by rfl, ?_⟩) (by assumption) ?_
      rotate_left
      · intro w hSw
        first | (go_simp; done) | (go_simp; with_reducible rfl)
      simp only [List.getElem_toArray, List.getElem_cons_succ, List.getElem_cons_zero, Act.put, List.setIfInBounds_toArray, List.set_cons_zero, List.set_cons_succ]
      refine wpHead_take (i := 6) (v := ?_) (by rfl) (by kernel_rfl) (by kernel_rfl) (by exact fun _ _ _ h => h) (Or.inl ⟨by rfl, ?_⟩) (by assumption) ?_
      rotate_left
      · intro w hSw
        first | (go_simp; done) | (go_simp; with_reducible rfl)
      simp only [List.getElem_toArray, List.getElem_cons_succ, List.getElem_cons_zero, Act.put, List.setIfInBounds_toArray, List.set_cons_zero, List.set_cons_succ]
      refine wpHead_take (i := 7) (v := (.agg #[.int .i64 dw, .string (st du), .string (st db), .string (st dt), .int .i64 di, .int .i64 dh, .int .u8 (df.toNat : Int), .int .i64 dsh, .int .i64 de, .slice A3 dby.length cap3])) (by rfl) (by kernel_rfl) (by kernel_rfl) (by exact fun _ _ _ h => h) (by exact yieldsIf_load_elem (by rfl) 48 _ rfl (ad'.add (k * 10)) rfl [.int .i64 dw, .string (st du), .string (st db), .string (st dt), .int .i64 di, .int .i64 dh, .int .u8 (df.toNat : Int), .int .i64 dsh, .int .i64 de, .slice A3 dby.length cap3] _ hC' Try.underlying48 rfl (by kernel_rfl)) (by assumption) ?_
      simp only [List.getElem_toArray, List.getElem_cons_succ, List.getElem_cons_zero, Act.put, List.setIfInBounds_toArray, List.set_cons_zero, List.set_cons_succ]
      refine wpHead_ready (rs := [8]) (by kernel_rfl) (by simp) (by kernel_rfl) ?_
      refine AllHead.cons (by rfl) (fun K hK => ?_) ?_
      · refine step_callG (by rfl) (by kernel_rfl) (HSM _ hHeld) ?_
        rintro e wr8 ⟨rfl, hx8⟩
        refine ⟨_, rfl, ?_⟩
        refine hK.out _ _ ?_ (fun hHeld => ?_)
        · exact hHeld.trans hx8
        clear hK K
        try simp only [List.getElem_toArray, List.getElem_cons_succ, List.getElem_cons_zero, Act.put, List.setIfInBounds_toArray, List.set_cons_zero, List.set_cons_succ]
        refine wpHead_done (by kernel_rfl) ?_
        go_wp2
        go_roundw
        case rel => exact ⟨k + 1, by go_num, by omega, hHeld⟩
        case measure => simp [intOf]; omega
      exact AllHead.nil
    · have hlt2 : ¬ (k : Int) < ds.length := by omega
      clear h h'
      go_wp2
      go_ret
      exact ⟨rfl, hx⟩
end Go.Proofs.Ythlppbbejdeeoaa
