/- The walk of the law DeedChecks. Conditions: that of Check (CheckLaw), the bounds named, and the library's two tables. -/
import Derived.Test.YtameamfaaenboaaDoorC6
import Derived.Test.YtameamfaaenboaaDoorRDd7M
import Derived.Test.YtameamfaaenboaaDoorC2
import Derived.Deep.MidRow
namespace Go.Proofs.YtameamfaaenboaaDoor
open Go.RowKit
set_option maxRecDepth 20000 in
set_option maxHeartbeats 4000000 in
theorem DeedChecks_any (HCK : CheckLaw) (d : Dd) (A : Option Addr) (cap : Nat) (w : World) (hb : Bs w A d.bytes) (hcap : d.bytes.length ≤ cap) (h0 : d.bytes.length ≤ 140737488351232) (h1 : d.user.length ≤ 8796093022000) (h2 : d.box.length ≤ 8796093022000) (h3 : d.dest.length ≤ 8796093022000) (hT : Tabs w) :
    Calls Tryd.prog 4 #[.agg (ddC d (.slice A d.bytes.length cap))] w (Yes w) := by
  have hx0 : Ext w (w.alloc (.cells (ddC d (.slice A d.bytes.length cap)) 28)) := (Ext.refl w).alloc _
  have hrow := heap_alloc_new w (.cells (ddC d (.slice A d.bytes.length cap)) 28)
  obtain ⟨wa, hwa⟩ : ∃ wa, wa = w.alloc (.cells (ddC d (.slice A d.bytes.length cap)) 28) := ⟨_, rfl⟩
  rw [← hwa] at hx0 hrow
  have HWA := Lib.hid hwa
  have H1 := fun W (hx : Ext w W) => HCK d A cap W (hb.ext hx) hcap h0 (by omega) (by omega) (by omega)
  have H2 := fun W (hx : Ext w W) => RCheck_any d A cap W (hb.ext hx) hcap h1 h2 h3 (hT.ext hx)
  generalize checkD d = x at *
  clear hwa
  go_enter Tryd.func4, Tryd.ntmps4
  go_wp2_with fail
  rw [← HWA.out]
  have HR : ∀ w', Ext wa w' → w'.rangeAt w.heap.size 0 (ddC d (.slice A d.bytes.length cap)).toList := fun w' hx' j v hj => by
    rw [Nat.zero_add, cell_of_row w' _ j _ _ _ (hx'.obj hrow)]
    simpa using hj
  have hxn : Ext wa wa.drew := (Ext.refl wa).drew
  refine wp_region_phase (S := fun w' => Ext wa w') 8 (by kernel_rfl) (by kernel_rfl) ?_ (fun hHeld => ?_)
  · exact hxn
  simp only [List.drop_succ_cons, List.drop_zero]
  refine name_head ?_
  intro wr0 hw0
  rw [hw0] at hHeld
  refine wpHead_ready (rs := [0]) (by kernel_rfl) (by simp) (by kernel_rfl) ?_
  refine AllHead.cons (by rfl) (fun K hK => ?_) ?_
  · refine step_callG (by rfl) (by kernel_rfl) (dlive_any HCK _) ?_
    rintro e wr0 ⟨rfl, hy0⟩
    refine ⟨_, rfl, ?_⟩
    refine hK.out _ _ ?_ (fun hHeld => ?_)
    · exact hHeld.trans hy0
    clear hK K
    try simp only [List.getElem_toArray, List.getElem_cons_zero, Act.put, List.setIfInBounds_toArray, List.set_cons_zero, List.set_cons_succ]
    refine wpHead_take (i := 1) (v := ?_) (by rfl) (by kernel_rfl) (by kernel_rfl) (by exact fun _ _ _ h => h) (Or.inl ⟨by rfl, ?_⟩) (by assumption) ?_
    rotate_left
    · intro w hSw
      first | (go_simp; done) | (go_simp; with_reducible rfl)
    simp only [List.getElem_toArray, List.getElem_cons_succ, List.getElem_cons_zero, Act.put, List.setIfInBounds_toArray, List.set_cons_zero, List.set_cons_succ]
    refine wpHead_take (i := 2) (v := (.agg (ddC d (.slice A d.bytes.length cap)))) (by rfl) (by kernel_rfl) (by kernel_rfl) (by exact fun _ _ _ h => h) (by exact yieldsIf_load_mid (by rfl) 28 _ rfl w.heap.size 0 rfl (ddC d (.slice A d.bytes.length cap)).toList _ HR Tryd.underlying28 rfl (by kernel_rfl)) (by assumption) ?_
    simp only [List.getElem_toArray, List.getElem_cons_succ, List.getElem_cons_zero, Act.put, List.setIfInBounds_toArray, List.set_cons_zero, List.set_cons_succ]
    refine wpHead_take (i := 4) (v := (.agg (ddC d (.slice A d.bytes.length cap)))) (by rfl) (by kernel_rfl) (by kernel_rfl) (by exact fun _ _ _ h => h) (by exact yieldsIf_load_mid (by rfl) 28 _ rfl w.heap.size 0 rfl (ddC d (.slice A d.bytes.length cap)).toList _ HR Tryd.underlying28 rfl (by kernel_rfl)) (by assumption) ?_
    simp only [List.getElem_toArray, List.getElem_cons_succ, List.getElem_cons_zero, Act.put, List.setIfInBounds_toArray, List.set_cons_zero, List.set_cons_succ]
    refine wpHead_ready (rs := [3]) (by kernel_rfl) (by simp) (by kernel_rfl) ?_
    refine AllHead.cons (by rfl) (fun K hK => ?_) ?_
    · refine step_callG (by rfl) (by kernel_rfl) (H1 _ (hx0.trans hHeld)) ?_
      rintro e wr3 ⟨rfl, hy3⟩
      refine ⟨_, rfl, ?_⟩
      refine hK.out _ _ ?_ (fun hHeld => ?_)
      · exact hHeld.trans hy3
      clear hK K
      try simp only [List.getElem_toArray, List.getElem_cons_succ, List.getElem_cons_zero, Act.put, List.setIfInBounds_toArray, List.set_cons_zero, List.set_cons_succ]
      refine wpHead_ready (rs := [5]) (by kernel_rfl) (by simp) (by kernel_rfl) ?_
      refine AllHead.cons (by rfl) (fun K hK => ?_) ?_
      · refine step_callG (by rfl) (by kernel_rfl) (H2 _ (hx0.trans hHeld)) ?_
        rintro e wr5 ⟨rfl, hy5⟩
        refine ⟨_, rfl, ?_⟩
        refine hK.out _ _ ?_ (fun hHeld => ?_)
        · exact hHeld.trans hy5
        clear hK K
        try simp only [List.getElem_toArray, List.getElem_cons_succ, List.getElem_cons_zero, Act.put, List.setIfInBounds_toArray, List.set_cons_zero, List.set_cons_succ]
        refine wpHead_take (i := 6) (v := ?_) (by rfl) (by kernel_rfl) (by kernel_rfl) (by exact fun _ _ _ h => h) (Or.inl ⟨by rfl, ?_⟩) (by assumption) ?_
        rotate_left
        · intro w hSw
          first | (go_simp; done) | (go_simp; with_reducible rfl)
        simp only [List.getElem_toArray, List.getElem_cons_succ, List.getElem_cons_zero, Act.put, List.setIfInBounds_toArray, List.set_cons_zero, List.set_cons_succ]
        refine wpHead_take (i := 7) (v := ?_) (by rfl) (by kernel_rfl) (by kernel_rfl) (by exact fun _ _ _ h => h) (Or.inl ⟨by rfl, ?_⟩) (by assumption) ?_
        rotate_left
        · intro w hSw
          first | (go_simp; done) | (go_simp; with_reducible rfl)
        simp only [List.getElem_toArray, List.getElem_cons_succ, List.getElem_cons_zero, Act.put, List.setIfInBounds_toArray, List.set_cons_zero, List.set_cons_succ]
        refine wpHead_done (by kernel_rfl) ?_
        go_wp2
        go_ret
        exact ⟨rfl, hx0.trans hHeld⟩
      exact AllHead.nil
    exact AllHead.nil
  exact AllHead.nil
end Go.Proofs.YtameamfaaenboaaDoor
