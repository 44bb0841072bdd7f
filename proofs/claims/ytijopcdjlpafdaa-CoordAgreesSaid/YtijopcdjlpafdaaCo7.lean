/- The walks of tx.put and of coord.Begin. Conditions: the hypotheses of each theorem. -/
import Derived.Test.YtijopcdjlpafdaaCo6
namespace Go.Proofs.Ytijopcdjlpafdaa
open Go.RowKit
def putK (t : Tr) (k : Nat) : By := 2 :: be4 t.id.boot ++ be4 t.id.n ++ beN 1 t.shards.length ++ (t.shards.take k).map fun x => UInt8.ofNat x.toNat
theorem be1 (n : Nat) : beN 1 n = [UInt8.ofNat n] := by simp [beN]
theorem putK_step (t : Tr) (k : Nat) (hk : k < t.shards.length) : putK t (k + 1) = putK t k ++ beN 1 t.shards[k].toNat := by
  unfold putK
  rw [List.take_succ_eq_append_getElem hk, List.map_append, be1, be1]
  simp only [List.map_cons, List.map_nil, List.append_assoc]
theorem putK_all (t : Tr) : putK t t.shards.length = putD t := by
  unfold putK putD
  rw [List.take_length]
theorem putK_len (t : Tr) (k : Nat) : (putK t k).length ≤ 10 + t.shards.length := by
  unfold putK be4
  simp
  omega
set_option maxRecDepth 20000 in
set_option maxHeartbeats 2000000 in
theorem cput_any (t : Tr) (A : Option Addr) (cap : Nat) (w : World) (h : Sl w A (ib t.shards)) (hl : ∀ x ∈ t.shards, 0 ≤ x ∧ x ≤ 3) (hn : t.shards.length ≤ 1000) (hb : 0 ≤ t.id.boot) (hi : 0 ≤ t.id.n) :
    Calls Try.prog 40 #[.agg (trC t (.slice A t.shards.length cap)).toArray] w fun e w' => ∃ v, e = .returned v ∧ Own w' w.heap.size v (putD t) ∧ Ext w w' := by
  have HH := Lib.hid h
  have HL := Lib.hid hl
  have hN := fun w0 W (b : Value) (l : By) (v : Int) (n : Nat) (hv : 0 ≤ v) (hx : Ext w0 W) (ho : Own W w0.heap.size b l) (hl : l.length ≤ 2000) (hn : n ≤ 4) => num_i w0 W b l v n hv hx ho (by omega) hn
  obtain ⟨cs, hcs⟩ : ∃ cs, cs = trC t (.slice A t.shards.length cap) := ⟨_, rfl⟩
  have h1c : cs[1]? = some (.int .i64 t.id.boot) := by rw [hcs]; rfl
  have h2c : cs[2]? = some (.int .i64 t.id.n) := by rw [hcs]; rfl
  have h3c : cs[3]? = some (.slice A t.shards.length cap) := by rw [hcs]; rfl
  rw [← hcs]
  obtain ⟨wa, hwa⟩ : ∃ wa, wa = w.alloc (.cells cs.toArray 85) := ⟨_, rfl⟩
  have hxa : Ext w wa := by rw [hwa]; exact (Ext.refl w).alloc _
  have hrow : wa.heap[w.heap.size]? = some (.cells cs.toArray 85 (0, 0)) := by rw [hwa]; exact heap_alloc_new w _
  have cell : ∀ j v, cs[j]? = some v → ∀ W, Ext wa W → W.cell? ⟨w.heap.size, j, none⟩ = some v := fun j v hj W hx => by
    rw [cell_of_row _ _ _ _ _ _ (hx.obj hrow)]
    simpa using hj
  have C1 := cell 1 _ h1c
  have C2 := cell 2 _ h2c
  have C3 := cell 3 _ h3c
  have hx0 : Ext wa wa := Ext.refl _
  have hwaA := hwa.symm
  have HP : Hid (putK t 0 = [2] ++ beN 4 t.id.boot.toNat ++ beN 4 t.id.n.toNat ++ beN 1 t.shards.length) := Lib.hid (by unfold putK be4; simp)
  have HPA := Lib.hid (putK_all t)
  clear h hl hcs h1c h2c h3c hwa hrow cell
  go_enter Try.func40, Try.ntmps40
  go_wp2_with fail
  clear hwaA
  refine wp_region_phase (S := fun w' => Ext wa w') 13 (by kernel_rfl) (by kernel_rfl) ?_ (fun hHeld => ?_)
  · exact hx0.drew
  simp only [List.drop_succ_cons, List.drop_zero]
  refine name_head ?_
  intro wr0 hw0
  rw [hw0] at hHeld
  refine wpHead_take (i := 1) (v := ?_) (by rfl) (by kernel_rfl) (by kernel_rfl) (by exact fun _ _ _ h => h) (Or.inl ⟨by rfl, ?_⟩) (by assumption) ?_
  rotate_left
  · intro w hSw
    first | (go_simp; done) | (go_simp; with_reducible rfl)
  simp only [List.getElem_toArray, List.getElem_cons_succ, List.getElem_cons_zero, Act.put, List.setIfInBounds_toArray, List.set_cons_zero, List.set_cons_succ]
  refine wpHead_take (i := 2) (v := ?_) (by rfl) (by kernel_rfl) (by kernel_rfl) (by exact fun _ _ _ h => h) (Or.inl ⟨by rfl, ?_⟩) (by assumption) ?_
  rotate_left
  · intro w hSw
    first | (go_simp; done) | (go_simp; with_reducible rfl)
  simp only [List.getElem_toArray, List.getElem_cons_succ, List.getElem_cons_zero, Act.put, List.setIfInBounds_toArray, List.set_cons_zero, List.set_cons_succ]
  refine wpHead_take (i := 3) (v := ?_) (by rfl) (by kernel_rfl) (by kernel_rfl) (by exact fun _ _ _ h => h) (Or.inl ⟨by rfl, ?_⟩) (by assumption) ?_
  rotate_left
  · intro w hSw
    first | (go_simp; done) | (go_simp; with_reducible rfl)
  simp only [List.getElem_toArray, List.getElem_cons_succ, List.getElem_cons_zero, Act.put, List.setIfInBounds_toArray, List.set_cons_zero, List.set_cons_succ]
  refine wpHead_take (i := 5) (v := ?_) (by rfl) (by kernel_rfl) (by kernel_rfl) (by exact fun _ _ _ h => h) (Or.inl ⟨by rfl, ?_⟩) (by assumption) ?_
  rotate_left
  · intro w hSw
    first | (go_simp; done) | (go_simp; with_reducible rfl)
  simp only [List.getElem_toArray, List.getElem_cons_succ, List.getElem_cons_zero, Act.put, List.setIfInBounds_toArray, List.set_cons_zero, List.set_cons_succ]
  refine wpHead_take (i := 6) (v := ?_) (by rfl) (by kernel_rfl) (by kernel_rfl) (by exact fun _ _ _ h => h) (Or.inl ⟨by rfl, ?_⟩) (by assumption) ?_
  rotate_left
  · intro w hSw
    first | (go_simp; done) | (go_simp; with_reducible rfl)
  simp only [List.getElem_toArray, List.getElem_cons_succ, List.getElem_cons_zero, Act.put, List.setIfInBounds_toArray, List.set_cons_zero, List.set_cons_succ]
  refine wpHead_take (i := 7) (v := ?_) (by rfl) (by kernel_rfl) (by kernel_rfl) (by exact fun _ _ _ h => h) (Or.inl ⟨by rfl, ?_⟩) (by assumption) ?_
  rotate_left
  · intro w hSw
    first | (go_simp; done) | (go_simp; with_reducible rfl)
  simp only [List.getElem_toArray, List.getElem_cons_succ, List.getElem_cons_zero, Act.put, List.setIfInBounds_toArray, List.set_cons_zero, List.set_cons_succ]
  refine wpHead_take (i := 9) (v := ?_) (by rfl) (by kernel_rfl) (by kernel_rfl) (by exact fun _ _ _ h => h) (Or.inl ⟨by rfl, ?_⟩) (by assumption) ?_
  rotate_left
  · intro w hSw
    first | (go_simp; done) | (go_simp; with_reducible rfl)
  simp only [List.getElem_toArray, List.getElem_cons_succ, List.getElem_cons_zero, Act.put, List.setIfInBounds_toArray, List.set_cons_zero, List.set_cons_succ]
  refine wpHead_take (i := 10) (v := ?_) (by rfl) (by kernel_rfl) (by kernel_rfl) (by exact fun _ _ _ h => h) (Or.inl ⟨by rfl, ?_⟩) (by assumption) ?_
  rotate_left
  · intro w hSw
    first | (go_simp; done) | (go_simp; with_reducible rfl)
  simp only [List.getElem_toArray, List.getElem_cons_succ, List.getElem_cons_zero, Act.put, List.setIfInBounds_toArray, List.set_cons_zero, List.set_cons_succ]
  refine wpHead_take (i := 11) (v := ?_) (by rfl) (by kernel_rfl) (by kernel_rfl) (by exact fun _ _ _ h => h) (Or.inl ⟨by rfl, ?_⟩) (by assumption) ?_
  rotate_left
  · intro w hSw
    first | (go_simp; done) | (go_simp; with_reducible rfl)
  simp only [List.getElem_toArray, List.getElem_cons_succ, List.getElem_cons_zero, Act.put, List.setIfInBounds_toArray, List.set_cons_zero, List.set_cons_succ]
  refine wpHead_ready (rs := [0]) (by kernel_rfl) (by simp) (by kernel_rfl) ?_
  refine AllHead.cons (by rfl) (fun K hK => ?_) ?_
  · go_simp
    refine name_world ?_
    rintro wrz hw0
    have hxn0 : Ext wr0 wrz := hw0 ▸ (Ext.refl _).alloc _
    have hrow0 : wrz.heap[wr0.heap.size]? = some (.cells #[.int .u8 2] 5) := hw0 ▸ heap_alloc_new wr0 _
    have ho0 : Own wrz wa.heap.size (.slice (some ⟨wr0.heap.size, 0, none⟩) 1 1) [2] := hw0 ▸ Own.new wr0 wa.heap.size _ [2] 1 rfl rfl hHeld.size (by simp [maxLen])
    refine hK.out _ _ ?_ (fun hHeld => ?_)
    · first | assumption | exact Ext.trans (by assumption) (by assumption) | exact Ext.trans hHeld (by assumption)
    clear hK K
    try simp only [List.getElem_toArray, List.getElem_cons_zero, Act.put, List.setIfInBounds_toArray, List.set_cons_zero, List.set_cons_succ]
    refine wpHead_ready (rs := [4]) (by kernel_rfl) (by simp) (by kernel_rfl) ?_
    refine AllHead.cons (by rfl) (fun K hK => ?_) ?_
    · refine step_callG (by rfl) (by kernel_rfl) (hN wa _ _ _ t.id.boot 4 hb hHeld ho0 (by simp) (by omega)) ?_
      rintro e wr4 ⟨c4, rfl, ho4, hx4⟩
      refine ⟨_, rfl, ?_⟩
      refine hK.out _ _ ?_ (fun hHeld => ?_)
      · first | assumption | exact Ext.trans (by assumption) (by assumption) | exact Ext.trans hHeld (by assumption)
      clear hK K
      try simp only [List.getElem_toArray, List.getElem_cons_succ, List.getElem_cons_zero, Act.put, List.setIfInBounds_toArray, List.set_cons_zero, List.set_cons_succ]
      refine wpHead_ready (rs := [8]) (by kernel_rfl) (by simp) (by kernel_rfl) ?_
      refine AllHead.cons (by rfl) (fun K hK => ?_) ?_
      · refine step_callG (by rfl) (by kernel_rfl) (hN wa _ _ _ t.id.n 4 hi hHeld ho4 (by simp) (by omega)) ?_
        rintro e wr8 ⟨c8, rfl, ho8, hx8⟩
        refine ⟨_, rfl, ?_⟩
        refine hK.out _ _ ?_ (fun hHeld => ?_)
        · first | assumption | exact Ext.trans (by assumption) (by assumption) | exact Ext.trans hHeld (by assumption)
        clear hK K
        try simp only [List.getElem_toArray, List.getElem_cons_succ, List.getElem_cons_zero, Act.put, List.setIfInBounds_toArray, List.set_cons_zero, List.set_cons_succ]
        refine wpHead_ready (rs := [12]) (by kernel_rfl) (by simp) (by kernel_rfl) ?_
        refine AllHead.cons (by rfl) (fun K hK => ?_) ?_
        · refine step_callG (by rfl) (by kernel_rfl) (hN wa _ _ _ t.shards.length 1 (by omega) hHeld ho8 (by simp) (by omega)) ?_
          rintro e wr12 ⟨c12, rfl, ho12, hx12⟩
          refine ⟨_, rfl, ?_⟩
          refine hK.out _ _ ?_ (fun hHeld => ?_)
          · first | assumption | exact Ext.trans (by assumption) (by assumption) | exact Ext.trans hHeld (by assumption)
          clear hK K
          try simp only [List.getElem_toArray, List.getElem_cons_succ, List.getElem_cons_zero, Act.put, List.setIfInBounds_toArray, List.set_cons_zero, List.set_cons_succ]
          refine wpHead_done (by kernel_rfl) ?_
          have ho12 : Own wr12 wa.heap.size c12 (putK t 0) := by rw [HP.out]; exact ho12
          have HX := Lib.hid hHeld
          clear ho0 ho4 ho8
          go_wp2
          go_loopw [3, 5, 22] (fun b _ i wr => ∃ k : Nat, i = .int .i64 k ∧ k ≤ t.shards.length ∧ Own wr wa.heap.size b (putK t k) ∧ Ext wa wr) (fun _ _ i _ => t.shards.length - (intOf i).toNat)
          case atStart => exact ⟨0, rfl, by omega, ho12, HX.out⟩
          case round =>
            obtain ⟨k, rfl, hk, hok, hxk⟩ := hrel
            clear ho12 hHeld HX
            by_cases hlt : k < t.shards.length
            · have hlt2 : (k : Int) < (t.shards.length : Int) := by omega
              obtain ⟨ad, rfl, hc⟩ := HH.out.int hlt
              have hc0 := hc _ (hxa.trans hxk)
              have HS := Lib.hid (putK_step t k hlt)
              have hpl := putK_len t k
              have hx3 := HL.out _ (List.getElem_mem hlt)
              have HNK := hN wa wr _ (putK t k) t.shards[k] 1 hx3.1 hxk hok (by omega) (by omega)
              clear hc hpl hx3 hN
              go_wp2_with fail
              refine HNK.mono ?_
              rintro e w3 ⟨b3, rfl, ho3, hx3⟩
              have HO3 : Hid (Own w3 wa.heap.size b3 (putK t (k + 1))) := Lib.hid (by rw [HS.out]; exact ho3)
              clear ho3 HNK
              go_wp2
              go_roundw
              case rel => exact ⟨k + 1, by go_num, by omega, HO3.out, hx3⟩
              case measure => simp [intOf]; omega
            · have hlt2 : ¬ (k : Int) < (t.shards.length : Int) := by omega
              obtain rfl : k = t.shards.length := by omega
              rw [HPA.out] at hok
              have HO := Lib.hid hok
              have HXK := Lib.hid hxk
              clear hok hxk hN
              go_wp2
              go_ret
              exact ⟨_, rfl, HO.out.low hxa.size, hxa.trans HXK.out⟩
        exact AllHead.nil
      exact AllHead.nil
    exact AllHead.nil
  exact AllHead.nil
end Go.Proofs.Ytijopcdjlpafdaa
