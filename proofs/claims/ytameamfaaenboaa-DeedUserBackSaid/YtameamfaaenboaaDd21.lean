/- The reference's Same of boxes and SameUser at what is the same. Conditions: what is read stands in memory; the bounds named. -/
import Derived.Test.YtameamfaaenboaaDd17
import Derived.Test.YtameamfaaenboaaDd16
import Derived.BigQuiet
import Derived.Deep.QuietTactic
namespace Go.Proofs.Ytameamfaaenboaa
open Go.RowKit
theorem add_fieldD (ad : Addr) (n k : Nat) : ad.add (n + (k + 1)) = ⟨(ad.add n).block, (ad.add n).off + (k + 1), none⟩ := by
  unfold Addr.add
  by_cases h : n = 0 <;> simp [h, Nat.add_assoc]
/-- the cells of a letter in memory -/
theorem RsM.lt_at {w : World} {A : Option Addr} {ls : List Lt} (h : RsM RLt 3 [] w A ls) {k : Nat} (hk : k < ls.length) :
    ∃ (ad : Addr) (A2 : Option Addr) (c2 : Nat), A = some ad ∧ Bs w A2 ls[k].bytes ∧ ∀ w', Ext w w' → w'.cell? (ad.add (k * 3)) = some (.int .i64 ls[k].uid) ∧ w'.cell? ⟨(ad.add (k * 3)).block, (ad.add (k * 3)).off + 1, none⟩ = some (.int .u8 (ls[k].flags.toNat : Int)) ∧ w'.cell? ⟨(ad.add (k * 3)).block, (ad.add (k * 3)).off + 2, none⟩ = some (.slice A2 ls[k].bytes.length c2) := by
  obtain ⟨ad, cs, hA, _, _, hcell, A2, c2, hcs, hby⟩ := h.at_ (by omega) hk
  subst hcs
  refine ⟨ad, A2, c2, hA, hby.bs, fun w' hx => ⟨hx.cell (hcell 0 _ rfl), ?_, ?_⟩⟩
  · rw [← add_fieldD]; exact hx.cell (hcell 1 _ rfl)
  · rw [← add_fieldD]; exact hx.cell (hcell 2 _ rfl)
set_option maxRecDepth 20000 in
set_option maxHeartbeats 4000000 in
theorem BSame_any (b : Bx) (A A' : Option Addr) (c c' : Nat) (w : World) (h : RsM RLt 3 [] w A b.letters) (h' : RsM RLt 3 [] w A' b.letters) (hl : b.letters.length ≤ 140737488351232) :
    Calls Try.prog 28 #[.agg (bxC b (.slice A b.letters.length c)), .agg (bxC b (.slice A' b.letters.length c'))] w fun e w' => e = .returned (.bool true) ∧ Ext w w' := by
  obtain ⟨bn, bv, bx, ls⟩ := b
  simp only at h h' hl
  unfold bxC
  simp only
  obtain ⟨wa, hwa⟩ : ∃ wa, wa = (w.alloc (.cells #[.string (st bn), .int .i64 bv, .int .i64 bx, .slice A ls.length c] 57)).alloc (.cells #[.string (st bn), .int .i64 bv, .int .i64 bx, .slice A' ls.length c'] 57) := ⟨_, rfl⟩
  have hxa : Ext w wa := by rw [hwa]; exact ((Ext.refl w).alloc _).alloc _
  have hr1 : wa.heap[w.heap.size]? = some (.cells #[.string (st bn), .int .i64 bv, .int .i64 bx, .slice A ls.length c] 57 (0, 0)) := by rw [hwa]; exact ((Ext.refl _).alloc _).obj (heap_alloc_new w _)
  have hr2 : wa.heap[w.heap.size + 1]? = some (.cells #[.string (st bn), .int .i64 bv, .int .i64 bx, .slice A' ls.length c'] 57 (0, 0)) := by
    have := heap_alloc_new (w.alloc (.cells #[.string (st bn), .int .i64 bv, .int .i64 bx, .slice A ls.length c] 57)) (.cells #[.string (st bn), .int .i64 bv, .int .i64 bx, .slice A' ls.length c'] 57)
    rw [hwa]; simpa using this
  have HWA := Lib.hid hwa
  obtain ⟨C0, C1, C2, C3, _⟩ := rows4 hr1
  obtain ⟨D0, D1, D2, D3, _⟩ := rows4 hr2
  try simp only at C0 C1 C2 C3 D0 D1 D2 D3
  clear hwa hr1 hr2
  go_enter Try.func28, Try.ntmps28
  go_wp2_with fail
  rw [← HWA.out]
  go_wp2
  go_loopw [5] (fun iv wr => ∃ k : Nat, iv = .int .i64 k ∧ k ≤ ls.length ∧ Ext wa wr) (fun iv _ => ls.length - (intOf iv).toNat)
  case atStart => exact ⟨0, rfl, by omega, Ext.refl _⟩
  case round =>
    obtain ⟨k, rfl, hk, hx⟩ := hrel
    by_cases hlt : k < ls.length
    · obtain ⟨ad, A2, c2, hA, hby, hc⟩ := h.lt_at hlt
      obtain ⟨ad', A3, c3, hA', hby', hc'⟩ := h'.lt_at hlt
      subst hA hA'
      have hlt2 : (k : Int) < ls.length := by omega
      have E0 := fun w' (hx' : Ext wa w') => (hc w' (hxa.trans hx')).1
      have E1 := fun w' (hx' : Ext wa w') => (hc w' (hxa.trans hx')).2.1
      have E2 := fun w' (hx' : Ext wa w') => (hc w' (hxa.trans hx')).2.2
      have G0 := fun w' (hx' : Ext wa w') => (hc' w' (hxa.trans hx')).1
      have G1 := fun w' (hx' : Ext wa w') => (hc' w' (hxa.trans hx')).2.1
      have G2 := fun w' (hx' : Ext wa w') => (hc' w' (hxa.trans hx')).2.2
      generalize ls[k] = ll at *
      obtain ⟨lu, lf, lb⟩ := ll
      simp only at E0 E1 E2 G0 G1 G2 hby hby'
      have s1 := run_str (P := Try.prog) Try.underlying23 Try.underlying5 Try.underlying9 (hby.ext hxa) lb.length c2 rfl
      have s2 := run_str (P := Try.prog) Try.underlying23 Try.underlying5 Try.underlying9 (hby'.ext hxa) lb.length c3 rfl
      have HX := Lib.hid hx
      clear hc hc' hby hby' h h'
      go_wp2_with fail
      go_quiet (fail)
      go_wp2
      go_roundw
      case rel => exact ⟨k + 1, by go_num, by omega, HX.out.drewN _⟩
      case measure => simp [intOf]; omega
    · have hlt2 : ¬ (k : Int) < ls.length := by omega
      clear h h'
      go_wp2
      go_ret
      exact ⟨rfl, hxa.trans hx⟩
set_option maxRecDepth 20000 in
set_option maxHeartbeats 4000000 in
theorem SameUser_any (u : Us) (A A' : Option Addr) (c c' : Nat) (w : World) (h : RsM RBx 4 [] w A u.boxes) (h' : RsM RBx 4 [] w A' u.boxes) (hl : u.boxes.length ≤ 140737488351232) (hb : ∀ b ∈ u.boxes, b.letters.length ≤ 140737488351232) :
    Calls Try.prog 12 #[.agg (usC u (.slice A u.boxes.length c)), .agg (usC u (.slice A' u.boxes.length c'))] w fun e w' => e = .returned (.bool true) ∧ Ext w w' := by
  obtain ⟨un, uv, bs⟩ := u
  simp only at h h' hl hb
  unfold usC
  simp only
  obtain ⟨wa, hwa⟩ : ∃ wa, wa = (w.alloc (.cells #[.string (st un), .int .i64 uv, .slice A bs.length c] 34)).alloc (.cells #[.string (st un), .int .i64 uv, .slice A' bs.length c'] 34) := ⟨_, rfl⟩
  have hxa : Ext w wa := by rw [hwa]; exact ((Ext.refl w).alloc _).alloc _
  have hr1 : wa.heap[w.heap.size]? = some (.cells #[.string (st un), .int .i64 uv, .slice A bs.length c] 34 (0, 0)) := by rw [hwa]; exact ((Ext.refl _).alloc _).obj (heap_alloc_new w _)
  have hr2 : wa.heap[w.heap.size + 1]? = some (.cells #[.string (st un), .int .i64 uv, .slice A' bs.length c'] 34 (0, 0)) := by
    have := heap_alloc_new (w.alloc (.cells #[.string (st un), .int .i64 uv, .slice A bs.length c] 34)) (.cells #[.string (st un), .int .i64 uv, .slice A' bs.length c'] 34)
    rw [hwa]; simpa using this
  have HWA := Lib.hid hwa
  obtain ⟨C0, C1, C2, _⟩ := rows3 hr1
  obtain ⟨D0, D1, D2, _⟩ := rows3 hr2
  try simp only at C0 C1 C2 D0 D1 D2
  clear hwa hr1 hr2
  go_enter Try.func12, Try.ntmps12
  go_wp2_with fail
  rw [← HWA.out]
  go_wp2
  go_loopw [5] (fun iv wr => ∃ k : Nat, iv = .int .i64 k ∧ k ≤ bs.length ∧ Ext wa wr) (fun iv _ => bs.length - (intOf iv).toNat)
  case atStart => exact ⟨0, rfl, by omega, Ext.refl _⟩
  case round =>
    obtain ⟨k, rfl, hk, hx⟩ := hrel
    by_cases hlt : k < bs.length
    · obtain ⟨ad, cs, hA, had, hcs, hcell, A2, cap2, hcs2, hby⟩ := h.at_ (by omega) hlt
      obtain ⟨ad', cs', hA', had', hcs', hcell', A3, cap3, hcs3, hby'⟩ := h'.at_ (by omega) hlt
      subst hA hcs2 hA' hcs3
      have hlt2 : (k : Int) < bs.length := by omega
      have hC : ∀ w', Ext wa w' → ∀ j v, (bxC bs[k] (.slice A2 bs[k].letters.length cap2)).toList[j]? = some v → w'.cell? ((ad.add (k * 4)).add j) = some v := fun w' hx' j v hj => (hxa.trans hx').cell (show w.cell? ((ad.add (k * 4)).add j) = some v by rw [add_addB]; exact hcell j v hj)
      have hC' : ∀ w', Ext wa w' → ∀ j v, (bxC bs[k] (.slice A3 bs[k].letters.length cap3)).toList[j]? = some v → w'.cell? ((ad'.add (k * 4)).add j) = some v := fun w' hx' j v hj => (hxa.trans hx').cell (show w.cell? ((ad'.add (k * 4)).add j) = some v by rw [add_addB]; exact hcell' j v hj)
      have hbl := hb _ (List.getElem_mem hlt)
      have HSM := fun w' (hx' : Ext wa w') => BSame_any bs[k] A2 A3 cap2 cap3 w' (hby.kept (.of_ext (hxa.trans hx'))) (hby'.kept (.of_ext (hxa.trans hx'))) hbl
      clear hcs hcell hby had hcs' hcell' hby' had' hb hbl
      generalize bs[k] = bb at *
      obtain ⟨bn, bv, bx, bls⟩ := bb
      unfold bxC at hC hC' HSM
      simp only at hC hC' HSM
      have hxn := hx.drew
      go_wp2_with fail
      refine wp_region_phase (S := fun w' => Ext wa w') 11 (by kernel_rfl) (by kernel_rfl) ?_ (fun hHeld => ?_)
      · exact hxn
      simp only [List.drop_succ_cons, List.drop_zero]
      refine name_head ?_
      intro wr0 hw0
      rw [hw0] at hHeld
      refine wpHead_take (i := 0) (v := ?_) (by rfl) (by kernel_rfl) (by kernel_rfl) (by exact fun _ _ _ h => h) (Or.inl ⟨by rfl, ?_⟩) (by assumption) ?_
      rotate_left
      · intro w hSw
        first | (go_simp; done) | (go_simp; with_reducible rfl)
      simp only [List.getElem_toArray, List.getElem_cons_zero, Act.put, List.setIfInBounds_toArray, List.set_cons_zero, List.set_cons_succ]
      refine wpHead_take (i := 1) (v := ?_) (by rfl) (by kernel_rfl) (by kernel_rfl) (by exact fun _ _ _ h => h) (Or.inl ⟨by rfl, ?_⟩) (by assumption) ?_
      rotate_left
      · intro w hSw
        first | (go_simp; done) | (go_simp; with_reducible rfl)
      simp only [List.getElem_toArray, List.getElem_cons_succ, List.getElem_cons_zero, Act.put, List.setIfInBounds_toArray, List.set_cons_zero, List.set_cons_succ]
      refine wpHead_take (i := 2) (v := ?_) (by rfl) (by kernel_rfl) (by kernel_rfl) (by exact fun _ _ _ h => h) (Or.inl ⟨by rfl, ?_⟩) (by assumption) ?_
      rotate_left
      · intro w hSw
        first | (go_simp; done) | (go_simp; with_reducible rfl)
      simp only [List.getElem_toArray, List.getElem_cons_succ, List.getElem_cons_zero, Act.put, List.setIfInBounds_toArray, List.set_cons_zero, List.set_cons_succ]
      refine wpHead_take (i := 3) (v := ?_) (by rfl) (by kernel_rfl) (by kernel_rfl) (by exact fun _ _ _ h => h) (Or.inl ⟨by rfl, ?_⟩) (by assumption) ?_
      rotate_left
      · intro w hSw
        first | (go_simp; done) | (go_simp; with_reducible rfl)
      simp only [List.getElem_toArray, List.getElem_cons_succ, List.getElem_cons_zero, Act.put, List.setIfInBounds_toArray, List.set_cons_zero, List.set_cons_succ]
      refine wpHead_take (i := 4) (v := (.agg #[.string (st bn), .int .i64 bv, .int .i64 bx, .slice A2 bls.length cap2])) (by rfl) (by kernel_rfl) (by kernel_rfl) (by exact fun _ _ _ h => h) (by exact yieldsIf_load_elem (by rfl) 57 _ rfl (ad.add (k * 4)) rfl [.string (st bn), .int .i64 bv, .int .i64 bx, .slice A2 bls.length cap2] _ hC Try.underlying57 rfl (by kernel_rfl)) (by assumption) ?_
      simp only [List.getElem_toArray, List.getElem_cons_succ, List.getElem_cons_zero, Act.put, List.setIfInBounds_toArray, List.set_cons_zero, List.set_cons_succ]
      refine wpHead_take (i := 5) (v := ?_) (by rfl) (by kernel_rfl) (by kernel_rfl) (by exact fun _ _ _ h => h) (Or.inl ⟨by rfl, ?_⟩) (by assumption) ?_
      rotate_left
      · intro w hSw
        first | (go_simp; done) | (go_simp; with_reducible rfl)
      simp only [List.getElem_toArray, List.getElem_cons_succ, List.getElem_cons_zero, Act.put, List.setIfInBounds_toArray, List.set_cons_zero, List.set_cons_succ]
      refine wpHead_take (i := 6) (v := ?_) (by rfl) (by kernel_rfl) (by kernel_rfl) (by exact fun _ _ _ h => h) (Or.inl ⟨by rfl, ?_⟩) (by assumption) ?_
      rotate_left
      · intro w hSw
        first | (go_simp; done) | (go_simp; with_reducible rfl)
      simp only [List.getElem_toArray, List.getElem_cons_succ, List.getElem_cons_zero, Act.put, List.setIfInBounds_toArray, List.set_cons_zero, List.set_cons_succ]
      refine wpHead_take (i := 7) (v := ?_) (by rfl) (by kernel_rfl) (by kernel_rfl) (by exact fun _ _ _ h => h) (Or.inl ⟨by rfl, ?_⟩) (by assumption) ?_
      rotate_left
      · intro w hSw
        first | (go_simp; done) | (go_simp; with_reducible rfl)
      simp only [List.getElem_toArray, List.getElem_cons_succ, List.getElem_cons_zero, Act.put, List.setIfInBounds_toArray, List.set_cons_zero, List.set_cons_succ]
      refine wpHead_take (i := 8) (v := ?_) (by rfl) (by kernel_rfl) (by kernel_rfl) (by exact fun _ _ _ h => h) (Or.inl ⟨by rfl, ?_⟩) (by assumption) ?_
      rotate_left
      · intro w hSw
        first | (go_simp; done) | (go_simp; with_reducible rfl)
      simp only [List.getElem_toArray, List.getElem_cons_succ, List.getElem_cons_zero, Act.put, List.setIfInBounds_toArray, List.set_cons_zero, List.set_cons_succ]
      refine wpHead_take (i := 9) (v := (.agg #[.string (st bn), .int .i64 bv, .int .i64 bx, .slice A3 bls.length cap3])) (by rfl) (by kernel_rfl) (by kernel_rfl) (by exact fun _ _ _ h => h) (by exact yieldsIf_load_elem (by rfl) 57 _ rfl (ad'.add (k * 4)) rfl [.string (st bn), .int .i64 bv, .int .i64 bx, .slice A3 bls.length cap3] _ hC' Try.underlying57 rfl (by kernel_rfl)) (by assumption) ?_
      simp only [List.getElem_toArray, List.getElem_cons_succ, List.getElem_cons_zero, Act.put, List.setIfInBounds_toArray, List.set_cons_zero, List.set_cons_succ]
      refine wpHead_ready (rs := [10]) (by kernel_rfl) (by simp) (by kernel_rfl) ?_
      refine AllHead.cons (by rfl) (fun K hK => ?_) ?_
      · refine step_callG (by rfl) (by kernel_rfl) (HSM _ hHeld) ?_
        rintro e wr10 ⟨rfl, hx8⟩
        refine ⟨_, rfl, ?_⟩
        refine hK.out _ _ ?_ (fun hHeld => ?_)
        · exact hHeld.trans hx8
        clear hK K
        try simp only [List.getElem_toArray, List.getElem_cons_succ, List.getElem_cons_zero, Act.put, List.setIfInBounds_toArray, List.set_cons_zero, List.set_cons_succ]
        refine wpHead_done (by kernel_rfl) ?_
        go_wp2
        go_roundw
        case rel => exact ⟨k + 1, by go_num, by omega, hHeld⟩
        case measure => simp [intOf]; omega
      exact AllHead.nil
    · have hlt2 : ¬ (k : Int) < bs.length := by omega
      clear h h'
      go_wp2
      go_ret
      exact ⟨rfl, hxa.trans hx⟩
end Go.Proofs.Ytameamfaaenboaa
