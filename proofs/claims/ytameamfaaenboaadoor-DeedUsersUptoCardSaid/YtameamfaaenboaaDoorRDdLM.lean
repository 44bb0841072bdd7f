/- The walk of the law DeedUsers. Conditions: that of Check (CheckLaw), the bounds named, and the library's two tables. -/
import Derived.Test.YtameamfaaenboaaDoorC9
import Derived.Test.YtameamfaaenboaaDoorC5
import Derived.Test.YtameamfaaenboaaDoorC6
import Derived.Test.YtameamfaaenboaaDoorRDdVM
import Derived.Test.YtameamfaaenboaaDoorC10
import Derived.Deep.MidRow
namespace Go.Proofs.YtameamfaaenboaaDoor
open Go.RowKit
/-- what is told of a user's bytes -/
def tuU (l : By) : Us × Nat := match takeUs l with | .inl k => (⟨[], 0, []⟩, k) | .inr u => (u, 0)
theorem TUSays.uni {l : By} {w w' : World} {e : Ending} (h : TUSays l w e w') : Ext w w' ∧ ∃ A c, e = .returned (.tuple #[.agg (usC (tuU l).1 (.slice A (tuU l).1.boxes.length c)), .int .i64 ((tuU l).2 : Nat)]) ∧ RsM RBx 4 [] w' A (tuU l).1.boxes := by
  obtain ⟨hx, h⟩ := h
  refine ⟨hx, ?_⟩
  unfold tuU
  cases htk : takeUs l with
  | inl k => rw [htk] at h; exact ⟨none, 0, h, RsM.nil _ _ _ _ _⟩
  | inr u =>
    rw [htk] at h
    obtain ⟨v, rfl, ho⟩ := h
    obtain ⟨A, c, rfl⟩ := ho.form
    exact ⟨A, c, rfl, ho.rsm⟩
theorem tuU_len (l : By) : (tuU l).1.boxes.length ≤ 6 ∧ ∀ b ∈ (tuU l).1.boxes, b.letters.length ≤ 32 := by
  unfold tuU
  cases htk : takeUs l with
  | inl k => exact ⟨by simp, by simp⟩
  | inr u =>
    obtain ⟨_, _, _, h4, h5, h6⟩ := checkU_ok (takeUs_ok htk).2
    exact ⟨h5, fun b hb => (boxC_ok ((boxesC_ok _ _ _ _ h6) b hb).2).2.2.1⟩
set_option maxRecDepth 20000 in
set_option maxHeartbeats 4000000 in
theorem DeedUsers_any (HCK : CheckLaw) (u : Us) (A : Option Addr) (c : Nat) (l : By) (B : Option Addr) (cb : Nat) (w : World) (h : RsM RBx 4 [] w A u.boxes) (hn : u.name.length ≤ 1048576) (hbn : ∀ b ∈ u.boxes, b.name.length ≤ 1048576) (hb : Bs w B l) (hlc : l.length ≤ cb) (hl2 : l.length ≤ 1048576) (hT : Tabs w) :
    Calls Tryd.prog 7 #[.agg (usC u (.slice A u.boxes.length c)), .slice B l.length cb] w (Yes w) := by
  obtain ⟨wa, hwa⟩ : ∃ wa, wa = w.alloc (.cells (usC u (.slice A u.boxes.length c)) 42) := ⟨_, rfl⟩
  have hxa : Ext w wa := by rw [hwa]; exact (Ext.refl w).alloc _
  have hrow : wa.heap[w.heap.size]? = some (.cells (usC u (.slice A u.boxes.length c)) 42 (0, 0)) := by rw [hwa]; exact heap_alloc_new w _
  have hbn1 : ∀ b ∈ u.boxes, b.name.length ≤ 140737488355328 := fun b hb => by have := hbn b hb; omega
  have hbn2 : ∀ b ∈ u.boxes, b.name.length ≤ 8796093022000 := fun b hb => by have := hbn b hb; omega
  have HP := PutUser_any u A c wa (h.kept (.of_ext hxa)) (by omega) hbn1
  have HR := fun W (hx : Ext w W) => RPutUser_any u A c W (h.kept (.of_ext hx)) (by omega) hbn2 (hT.ext hx)
  have HC1 := fun W (hx : Ext w W) => CheckUser_any u A c W (h.kept (.of_ext hx)) (by omega) hbn1
  have HC2 := fun W (hx : Ext w W) => RCheckUser_any u A c W (h.kept (.of_ext hx)) (by omega) hbn2 (hT.ext hx)
  have HT1 := fun W (hx : Ext w W) => TakeUser_any B cb l W (hb.ext hx) hlc (by omega)
  have HT2 := fun W (hx : Ext w W) => RTakeUser_any B cb l W (hb.ext hx) hlc (hT.ext hx)
  have hlen := tuU_len l
  have HWA := Lib.hid hwa
  clear hwa h hbn hbn1 hbn2 hn
  generalize putUsT u = r at *
  obtain ⟨lp, kp⟩ := r
  generalize checkU u = z at *
  go_enter Tryd.func7, Tryd.ntmps7
  go_wp2_with (first | (with_reducible refine stop_alloc 42 ?_) | (with_reducible refine stop_store 42 ?_) | (with_reducible refine stop_load 42 ?_))
  rw [← HWA.out]
  refine go_on (wpList_load_row rfl 42 _ rfl w.heap.size rfl 42 _ (0, 0) _ hrow Tryd.underlying42 rfl (by kernel_rfl) ?_)
  go_wp2_with (first | (with_reducible refine stop_alloc 42 ?_) | (with_reducible refine stop_store 42 ?_) | (with_reducible refine stop_load 42 ?_))
  refine HP.mono ?_
  rintro e w1 ⟨hx1, v1, rfl, hown1⟩
  have hrow1 := hx1.obj hrow
  have hx01 := hxa.trans hx1
  obtain ⟨A1, c1, rfl⟩ := hown1.form
  have HR1 := HR w1 hx01
  clear HP HR hrow hx1
  go_wp2_with (first | (with_reducible refine stop_alloc 42 ?_) | (with_reducible refine stop_store 42 ?_) | (with_reducible refine stop_load 42 ?_))
  refine go_on (wpList_load_row rfl 42 _ rfl w.heap.size rfl 42 _ (0, 0) _ hrow1 Tryd.underlying42 rfl (by kernel_rfl) ?_)
  go_wp2_with (first | (with_reducible refine stop_alloc 42 ?_) | (with_reducible refine stop_store 42 ?_) | (with_reducible refine stop_load 42 ?_))
  refine HR1.mono ?_
  rintro e w2 ⟨hx2, v2, rfl, hown2⟩
  have hrow2 := hx2.obj hrow1
  have hx02 := hx01.trans hx2
  obtain ⟨A2, c2, rfl⟩ := hown2.form
  have HT1' := HT1 w2 hx02
  clear HR1 HT1
  go_wp2_with (first | (with_reducible refine stop_alloc 42 ?_) | (with_reducible refine stop_store 42 ?_) | (with_reducible refine stop_load 42 ?_))
  refine HT1'.mono ?_
  rintro e w3 hs3
  obtain ⟨hx3, A3, c3, rfl, hr3⟩ := hs3.uni
  have hx03 := hx02.trans hx3
  clear HT1' hs3
  go_wp2_with (first | (with_reducible refine stop_alloc 42 ?_) | (with_reducible refine stop_store 42 ?_) | (with_reducible refine stop_load 42 ?_))
  refine go_on (wpList_alloc_ rfl rfl user_info ?_)
  go_wp2_with (first | (with_reducible refine stop_alloc 42 ?_) | (with_reducible refine stop_store 42 ?_) | (with_reducible refine stop_load 42 ?_))
  refine go_on (wpList_store_last (c' := usC (tuU l).1 (.slice A3 (tuU l).1.boxes.length c3)) rfl rfl rfl rfl (by kernel_rfl) rfl (by simp [usC, Value.oneCell']) ?_)
  intro wc hrowC hxc _
  have hx0c := hx03.trans hxc
  have HT2' := HT2 wc hx0c
  clear HT2
  go_wp2_with (first | (with_reducible refine stop_alloc 42 ?_) | (with_reducible refine stop_store 42 ?_) | (with_reducible refine stop_load 42 ?_))
  refine HT2'.mono ?_
  rintro e w4 hs4
  obtain ⟨hx4, A4, c4, rfl, hr4⟩ := hs4.uni
  have hx04 := hx0c.trans hx4
  clear HT2' hs4
  go_wp2_with (first | (with_reducible refine stop_alloc 42 ?_) | (with_reducible refine stop_store 42 ?_) | (with_reducible refine stop_load 42 ?_))
  refine go_on (wpList_alloc_ rfl rfl user_info ?_)
  go_wp2_with (first | (with_reducible refine stop_alloc 42 ?_) | (with_reducible refine stop_store 42 ?_) | (with_reducible refine stop_load 42 ?_))
  refine go_on (wpList_store_last (c' := usC (tuU l).1 (.slice A4 (tuU l).1.boxes.length c4)) rfl rfl rfl rfl (by kernel_rfl) rfl (by simp [usC, Value.oneCell']) ?_)
  intro wd hrowD hxd _
  have hx0d := hx04.trans hxd
  have hxcd := hx4.trans hxd
  have hx3d := hxc.trans hxcd
  have hx2d := hx3.trans hx3d
  have HS := fun W (hx : Ext wd W) => SameUser_any (tuU l).1 A3 A4 c3 c4 W (hr3.kept (.of_ext (hx3d.trans hx))) (hr4.kept (.of_ext (hxd.trans hx))) (by omega) (fun b hb => by have := hlen.2 b hb; omega)
  have s1 := fun W (hx : Ext wd W) => run_str (P := Tryd.prog) Tryd.underlying26 Tryd.underlying5 Tryd.underlying9 hown1.bs lp.length c1 rfl W (hx2.trans (hx2d.trans hx))
  have s2 := fun W (hx : Ext wd W) => run_str (P := Tryd.prog) Tryd.underlying26 Tryd.underlying5 Tryd.underlying9 hown2.bs lp.length c2 rfl W (hx2d.trans hx)
  have rU : wd.heap[w.heap.size]? = _ := hxcd.obj (hxc.obj (hx3.obj hrow2))
  have rX : wd.heap[w3.heap.size]? = _ := hxcd.obj hrowC
  generalize (tuU l).2 = kt at *
  generalize (tuU l).1 = ut at *
  have HRU : ∀ w', Ext wd w' → w'.rangeAt w.heap.size 0 (usC u (.slice A u.boxes.length c)).toList := fun w' hx' j v hj => by
    rw [Nat.zero_add, cell_of_row w' _ j _ _ _ (hx'.obj rU)]
    simpa using hj
  have HRX : ∀ w', Ext wd w' → w'.rangeAt w3.heap.size 0 (usC ut (.slice A3 ut.boxes.length c3)).toList := fun w' hx' j v hj => by
    rw [Nat.zero_add, cell_of_row w' _ j _ _ _ (hx'.obj rX)]
    simpa using hj
  have HRY : ∀ w', Ext wd w' → w'.rangeAt w4.heap.size 0 (usC ut (.slice A4 ut.boxes.length c4)).toList := fun w' hx' j v hj => by
    rw [Nat.zero_add, cell_of_row w' _ j _ _ _ (hx'.obj hrowD)]
    simpa using hj
  clear hrow1 hrow2 hrowC hrowD rU rX hown1 hown2 hr3 hr4 hx01 hx02 hx03 hx0c hx04 hx2 hx3 hx4 hxc hxd hxcd hx3d hx2d hlen hb hT
  have hxn : Ext wd wd.drew := (Ext.refl wd).drew
  go_wp2_with fail
  refine wp_region_phase (S := fun w' => Ext wd w') 30 (by kernel_rfl) (by kernel_rfl) ?_ (fun hHeld => ?_)
  · exact hxn
  simp only [List.drop_succ_cons, List.drop_zero]
  refine name_head ?_
  intro wr0 hw0
  rw [hw0] at hHeld
  refine wpHead_ready (rs := [0]) (by kernel_rfl) (by simp) (by kernel_rfl) ?_
  refine AllHead.cons (by rfl) (fun K hK => ?_) ?_
  · refine step_callG (by rfl) (by kernel_rfl) (dlive_any HCK _) ?_
    rintro e wr0 ⟨rfl, hy0⟩
    refine ⟨_, rfl, ?_⟩
    refine hK.out _ _ ?_ (fun hHeld => ?_)
    · exact hHeld.trans hy0
    clear hK K
    try simp only [List.getElem_toArray, List.getElem_cons_zero, Act.put, List.setIfInBounds_toArray, List.set_cons_zero, List.set_cons_succ]
    refine wpHead_take (i := 1) (v := ?_) (by rfl) (by kernel_rfl) (by kernel_rfl) (by exact fun _ _ _ h => h) (Or.inl ⟨by rfl, ?_⟩) (by assumption) ?_
    rotate_left
    · intro w hSw
      first | (go_simp; done) | (go_simp; with_reducible rfl)
    simp only [List.getElem_toArray, List.getElem_cons_succ, List.getElem_cons_zero, Act.put, List.setIfInBounds_toArray, List.set_cons_zero, List.set_cons_succ]
    refine wpHead_take (i := 2) (v := (.agg (usC u (.slice A u.boxes.length c)))) (by rfl) (by kernel_rfl) (by kernel_rfl) (by exact fun _ _ _ h => h) (by exact yieldsIf_load_mid (by rfl) 42 _ rfl w.heap.size 0 rfl (usC u (.slice A u.boxes.length c)).toList _ HRU Tryd.underlying42 rfl (by kernel_rfl)) (by assumption) ?_
    simp only [List.getElem_toArray, List.getElem_cons_succ, List.getElem_cons_zero, Act.put, List.setIfInBounds_toArray, List.set_cons_zero, List.set_cons_succ]
    refine wpHead_take (i := 4) (v := (.agg (usC u (.slice A u.boxes.length c)))) (by rfl) (by kernel_rfl) (by kernel_rfl) (by exact fun _ _ _ h => h) (by exact yieldsIf_load_mid (by rfl) 42 _ rfl w.heap.size 0 rfl (usC u (.slice A u.boxes.length c)).toList _ HRU Tryd.underlying42 rfl (by kernel_rfl)) (by assumption) ?_
    simp only [List.getElem_toArray, List.getElem_cons_succ, List.getElem_cons_zero, Act.put, List.setIfInBounds_toArray, List.set_cons_zero, List.set_cons_succ]
    refine wpHead_ready (rs := [3]) (by kernel_rfl) (by simp) (by kernel_rfl) ?_
    refine AllHead.cons (by rfl) (fun K hK => ?_) ?_
    · refine step_callG (by rfl) (by kernel_rfl) (HC1 _ (hx0d.trans hHeld)) ?_
      rintro e wr3 ⟨rfl, hy3⟩
      refine ⟨_, rfl, ?_⟩
      refine hK.out _ _ ?_ (fun hHeld => ?_)
      · exact hHeld.trans hy3
      clear hK K
      try simp only [List.getElem_toArray, List.getElem_cons_succ, List.getElem_cons_zero, Act.put, List.setIfInBounds_toArray, List.set_cons_zero, List.set_cons_succ]
      refine wpHead_ready (rs := [5]) (by kernel_rfl) (by simp) (by kernel_rfl) ?_
      refine AllHead.cons (by rfl) (fun K hK => ?_) ?_
      · refine step_callG (by rfl) (by kernel_rfl) (HC2 _ (hx0d.trans hHeld)) ?_
        rintro e wr5 ⟨rfl, hy5⟩
        refine ⟨_, rfl, ?_⟩
        refine hK.out _ _ ?_ (fun hHeld => ?_)
        · exact hHeld.trans hy5
        clear hK K
        try simp only [List.getElem_toArray, List.getElem_cons_succ, List.getElem_cons_zero, Act.put, List.setIfInBounds_toArray, List.set_cons_zero, List.set_cons_succ]
        refine wpHead_take (i := 6) (v := ?_) (by rfl) (by kernel_rfl) (by kernel_rfl) (by exact fun _ _ _ h => h) (Or.inl ⟨by rfl, ?_⟩) (by assumption) ?_
        rotate_left
        · intro w hSw
          first | (go_simp; done) | (go_simp; with_reducible rfl)
        simp only [List.getElem_toArray, List.getElem_cons_succ, List.getElem_cons_zero, Act.put, List.setIfInBounds_toArray, List.set_cons_zero, List.set_cons_succ]
        refine wpHead_take (i := 7) (v := ?_) (by rfl) (by kernel_rfl) (by kernel_rfl) (by exact fun _ _ _ h => h) (Or.inl ⟨by rfl, ?_⟩) (by assumption) ?_
        rotate_left
        · intro w hSw
          first | (go_simp; done) | (go_simp; with_reducible rfl)
        simp only [List.getElem_toArray, List.getElem_cons_succ, List.getElem_cons_zero, Act.put, List.setIfInBounds_toArray, List.set_cons_zero, List.set_cons_succ]
        refine wpHead_take (i := 8) (v := ?_) (by rfl) (by kernel_rfl) (by kernel_rfl) (by exact fun _ _ _ h => h) (Or.inl ⟨by rfl, ?_⟩) (by assumption) ?_
        rotate_left
        · intro w hSw
          first | (go_simp; done) | (go_simp; with_reducible rfl)
        simp only [List.getElem_toArray, List.getElem_cons_succ, List.getElem_cons_zero, Act.put, List.setIfInBounds_toArray, List.set_cons_zero, List.set_cons_succ]
        refine wpHead_take (i := 9) (v := ?_) (by rfl) (by kernel_rfl) (by kernel_rfl) (by exact fun _ _ _ h => h) (Or.inl ⟨by rfl, ?_⟩) (by assumption) ?_
        rotate_left
        · intro w hSw
          first | (go_simp; done) | (go_simp; with_reducible rfl)
        simp only [List.getElem_toArray, List.getElem_cons_succ, List.getElem_cons_zero, Act.put, List.setIfInBounds_toArray, List.set_cons_zero, List.set_cons_succ]
        refine wpHead_take (i := 10) (v := ?_) (by rfl) (by kernel_rfl) (by kernel_rfl) (by exact fun _ _ _ h => h) (Or.inl ⟨by rfl, ?_⟩) (by assumption) ?_
        rotate_left
        · intro w hSw
          first | (go_simp; done) | (go_simp; with_reducible rfl)
        simp only [List.getElem_toArray, List.getElem_cons_succ, List.getElem_cons_zero, Act.put, List.setIfInBounds_toArray, List.set_cons_zero, List.set_cons_succ]
        refine wpHead_take (i := 11) (v := ?_) (by rfl) (by kernel_rfl) (by kernel_rfl) (by exact fun _ _ _ h => h) (Or.inl ⟨by rfl, ?_⟩) (by assumption) ?_
        rotate_left
        · intro w hSw
          first | (go_simp; done) | (go_simp; with_reducible rfl)
        simp only [List.getElem_toArray, List.getElem_cons_succ, List.getElem_cons_zero, Act.put, List.setIfInBounds_toArray, List.set_cons_zero, List.set_cons_succ]
        refine wpHead_take (i := 12) (v := ?_) (by rfl) (by kernel_rfl) (by kernel_rfl) (by exact fun _ _ _ h => h) (Or.inl ⟨by rfl, ?_⟩) (by assumption) ?_
        rotate_left
        · intro w hSw
          first | (go_simp; done) | (go_simp; with_reducible rfl)
        simp only [List.getElem_toArray, List.getElem_cons_succ, List.getElem_cons_zero, Act.put, List.setIfInBounds_toArray, List.set_cons_zero, List.set_cons_succ]
        refine wpHead_take (i := 13) (v := ?_) (by rfl) (by kernel_rfl) (by kernel_rfl) (by exact fun _ _ _ h => h) (Or.inl ⟨by rfl, ?_⟩) (by assumption) ?_
        rotate_left
        · intro w hSw
          first | (go_simp; done) | (go_simp; with_reducible rfl)
        simp only [List.getElem_toArray, List.getElem_cons_succ, List.getElem_cons_zero, Act.put, List.setIfInBounds_toArray, List.set_cons_zero, List.set_cons_succ]
        refine wpHead_take (i := 14) (v := ?_) (by rfl) (by kernel_rfl) (by kernel_rfl) (by exact fun _ _ _ h => h) (Or.inl ⟨by rfl, ?_⟩) (by assumption) ?_
        rotate_left
        · intro w hSw
          first | (go_simp; done) | (go_simp; with_reducible rfl)
        simp only [List.getElem_toArray, List.getElem_cons_succ, List.getElem_cons_zero, Act.put, List.setIfInBounds_toArray, List.set_cons_zero, List.set_cons_succ]
        refine wpHead_take (i := 15) (v := ?_) (by rfl) (by kernel_rfl) (by kernel_rfl) (by exact fun _ _ _ h => h) (Or.inl ⟨by rfl, ?_⟩) (by assumption) ?_
        rotate_left
        · intro w hSw
          first | (go_simp; done) | (go_simp; with_reducible rfl)
        simp only [List.getElem_toArray, List.getElem_cons_succ, List.getElem_cons_zero, Act.put, List.setIfInBounds_toArray, List.set_cons_zero, List.set_cons_succ]
        refine wpHead_take (i := 16) (v := ?_) (by rfl) (by kernel_rfl) (by kernel_rfl) (by exact fun _ _ _ h => h) (Or.inl ⟨by rfl, ?_⟩) (by assumption) ?_
        rotate_left
        · intro w hSw
          first | (go_simp; done) | (go_simp; with_reducible rfl)
        simp only [List.getElem_toArray, List.getElem_cons_succ, List.getElem_cons_zero, Act.put, List.setIfInBounds_toArray, List.set_cons_zero, List.set_cons_succ]
        refine wpHead_take (i := 17) (v := ?_) (by rfl) (by kernel_rfl) (by kernel_rfl) (by exact fun _ _ _ h => h) (Or.inl ⟨by rfl, ?_⟩) (by assumption) ?_
        rotate_left
        · intro w hSw
          first | (go_simp; done) | (go_simp; with_reducible rfl)
        simp only [List.getElem_toArray, List.getElem_cons_succ, List.getElem_cons_zero, Act.put, List.setIfInBounds_toArray, List.set_cons_zero, List.set_cons_succ]
        refine wpHead_take (i := 18) (v := ?_) (by rfl) (by kernel_rfl) (by kernel_rfl) (by exact fun _ _ _ h => h) (Or.inl ⟨by rfl, ?_⟩) (by assumption) ?_
        rotate_left
        · intro w hSw
          first | (go_simp; done) | (go_simp; with_reducible rfl)
        simp only [List.getElem_toArray, List.getElem_cons_succ, List.getElem_cons_zero, Act.put, List.setIfInBounds_toArray, List.set_cons_zero, List.set_cons_succ]
        refine wpHead_take (i := 19) (v := ?_) (by rfl) (by kernel_rfl) (by kernel_rfl) (by exact fun _ _ _ h => h) (Or.inl ⟨by rfl, ?_⟩) (by assumption) ?_
        rotate_left
        · intro w hSw
          first | (go_simp; done) | (go_simp; with_reducible rfl)
        simp only [List.getElem_toArray, List.getElem_cons_succ, List.getElem_cons_zero, Act.put, List.setIfInBounds_toArray, List.set_cons_zero, List.set_cons_succ]
        refine wpHead_take (i := 20) (v := ?_) (by rfl) (by kernel_rfl) (by kernel_rfl) (by exact fun _ _ _ h => h) (Or.inl ⟨by rfl, ?_⟩) (by assumption) ?_
        rotate_left
        · intro w hSw
          first | (go_simp; done) | (go_simp; with_reducible rfl)
        simp only [List.getElem_toArray, List.getElem_cons_succ, List.getElem_cons_zero, Act.put, List.setIfInBounds_toArray, List.set_cons_zero, List.set_cons_succ]
        refine wpHead_take (i := 21) (v := (.agg (usC ut (.slice A3 ut.boxes.length c3)))) (by rfl) (by kernel_rfl) (by kernel_rfl) (by exact fun _ _ _ h => h) (by exact yieldsIf_load_mid (by rfl) 42 _ rfl w3.heap.size 0 rfl (usC ut (.slice A3 ut.boxes.length c3)).toList _ HRX Tryd.underlying42 rfl (by kernel_rfl)) (by assumption) ?_
        simp only [List.getElem_toArray, List.getElem_cons_succ, List.getElem_cons_zero, Act.put, List.setIfInBounds_toArray, List.set_cons_zero, List.set_cons_succ]
        refine wpHead_take (i := 22) (v := (.agg (usC ut (.slice A4 ut.boxes.length c4)))) (by rfl) (by kernel_rfl) (by kernel_rfl) (by exact fun _ _ _ h => h) (by exact yieldsIf_load_mid (by rfl) 42 _ rfl w4.heap.size 0 rfl (usC ut (.slice A4 ut.boxes.length c4)).toList _ HRY Tryd.underlying42 rfl (by kernel_rfl)) (by assumption) ?_
        simp only [List.getElem_toArray, List.getElem_cons_succ, List.getElem_cons_zero, Act.put, List.setIfInBounds_toArray, List.set_cons_zero, List.set_cons_succ]
        refine wpHead_ready (rs := [23]) (by kernel_rfl) (by simp) (by kernel_rfl) ?_
        refine AllHead.cons (by rfl) (fun K hK => ?_) ?_
        · refine step_callG (by rfl) (by kernel_rfl) (HS _ hHeld) ?_
          rintro e wr23 ⟨rfl, hy23⟩
          refine ⟨_, rfl, ?_⟩
          refine hK.out _ _ ?_ (fun hHeld => ?_)
          · exact hHeld.trans hy23
          clear hK K
          try simp only [List.getElem_toArray, List.getElem_cons_succ, List.getElem_cons_zero, Act.put, List.setIfInBounds_toArray, List.set_cons_zero, List.set_cons_succ]
          refine wpHead_take (i := 24) (v := ?_) (by rfl) (by kernel_rfl) (by kernel_rfl) (by exact fun _ _ _ h => h) (Or.inl ⟨by rfl, ?_⟩) (by assumption) ?_
          rotate_left
          · intro w hSw
            first | (go_simp; done) | (go_simp; with_reducible rfl)
          simp only [List.getElem_toArray, List.getElem_cons_succ, List.getElem_cons_zero, Act.put, List.setIfInBounds_toArray, List.set_cons_zero, List.set_cons_succ]
          refine wpHead_take (i := 25) (v := ?_) (by rfl) (by kernel_rfl) (by kernel_rfl) (by exact fun _ _ _ h => h) (Or.inl ⟨by rfl, ?_⟩) (by assumption) ?_
          rotate_left
          · intro w hSw
            first | (go_simp; done) | (go_simp; with_reducible rfl)
          simp only [List.getElem_toArray, List.getElem_cons_succ, List.getElem_cons_zero, Act.put, List.setIfInBounds_toArray, List.set_cons_zero, List.set_cons_succ]
          refine wpHead_take (i := 26) (v := ?_) (by rfl) (by kernel_rfl) (by kernel_rfl) (by exact fun _ _ _ h => h) (Or.inl ⟨by rfl, ?_⟩) (by assumption) ?_
          rotate_left
          · intro w hSw
            first | (go_simp; done) | (go_simp; with_reducible rfl)
          simp only [List.getElem_toArray, List.getElem_cons_succ, List.getElem_cons_zero, Act.put, List.setIfInBounds_toArray, List.set_cons_zero, List.set_cons_succ]
          refine wpHead_take (i := 27) (v := ?_) (by rfl) (by kernel_rfl) (by kernel_rfl) (by exact fun _ _ _ h => h) (Or.inl ⟨by rfl, ?_⟩) (by assumption) ?_
          rotate_left
          · intro w hSw
            first | (go_simp; done) | (go_simp; with_reducible rfl)
          simp only [List.getElem_toArray, List.getElem_cons_succ, List.getElem_cons_zero, Act.put, List.setIfInBounds_toArray, List.set_cons_zero, List.set_cons_succ]
          refine wpHead_take (i := 28) (v := ?_) (by rfl) (by kernel_rfl) (by kernel_rfl) (by exact fun _ _ _ h => h) (Or.inl ⟨by rfl, ?_⟩) (by assumption) ?_
          rotate_left
          · intro w hSw
            first | (go_simp; done) | (go_simp; with_reducible rfl)
          simp only [List.getElem_toArray, List.getElem_cons_succ, List.getElem_cons_zero, Act.put, List.setIfInBounds_toArray, List.set_cons_zero, List.set_cons_succ]
          refine wpHead_take (i := 29) (v := ?_) (by rfl) (by kernel_rfl) (by kernel_rfl) (by exact fun _ _ _ h => h) (Or.inl ⟨by rfl, ?_⟩) (by assumption) ?_
          rotate_left
          · intro w hSw
            first | (go_simp; done) | (go_simp; with_reducible rfl)
          simp only [List.getElem_toArray, List.getElem_cons_succ, List.getElem_cons_zero, Act.put, List.setIfInBounds_toArray, List.set_cons_zero, List.set_cons_succ]
          refine wpHead_done (by kernel_rfl) ?_
          go_wp2
          go_ret
          exact ⟨rfl, hx0d.trans hHeld⟩
        exact AllHead.nil
      exact AllHead.nil
    exact AllHead.nil
  exact AllHead.nil
end Go.Proofs.YtameamfaaenboaaDoor
