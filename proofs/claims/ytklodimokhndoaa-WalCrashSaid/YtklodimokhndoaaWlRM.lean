/- The walk of the law WalRoom. Conditions: the hypotheses of each theorem. -/
import Derived.Test.YtklodimokhndoaaC3
import Derived.Test.YtklodimokhndoaaC5
import Derived.Deep.OwnRows
namespace Go.Proofs.Ytklodimokhndoaa
open Go.RowKit
/-- a deed of a script, cell by cell -/
theorem RsM.wdeed7 {w : World} {A : Option Addr} {l : List WDe} (h : RsM RWDe 7 [] w A l) {k : Nat} (hk : k < l.length) :
    ∃ ad A1 c1 A2 c2 A3 c3, A = some ad ∧ WDeR [] w l[k] A1 c1 A2 c2 A3 ∧
      (∀ w', Ext w w' → w'.cell? (ad.add (k * 7)) = some (.int .i64 l[k].do_)) ∧
      (∀ w', Ext w w' → w'.cell? ⟨(ad.add (k * 7)).block, (ad.add (k * 7)).off + 1, none⟩ = some (.int .i64 l[k].n)) ∧
      (∀ w', Ext w w' → w'.cell? ⟨(ad.add (k * 7)).block, (ad.add (k * 7)).off + 2, none⟩ = some (.slice A1 l[k].by_.length c1)) ∧
      (∀ w', Ext w w' → w'.cell? ⟨(ad.add (k * 7)).block, (ad.add (k * 7)).off + 3, none⟩ = some (.slice A2 l[k].recs.length c2)) ∧
      (∀ w', Ext w w' → w'.cell? ⟨(ad.add (k * 7)).block, (ad.add (k * 7)).off + 4, none⟩ = some (.slice A3 l[k].cr.keep.length c3)) ∧
      (∀ w', Ext w w' → w'.cell? ⟨(ad.add (k * 7)).block, (ad.add (k * 7)).off + 5, none⟩ = some (.int .i64 l[k].cr.torn)) ∧
      (∀ w', Ext w w' → w'.cell? ⟨(ad.add (k * 7)).block, (ad.add (k * 7)).off + 6, none⟩ = some (.int .i64 l[k].cr.at_)) := by
  obtain ⟨ad, A1, c1, A2, c2, A3, c3, e, h1, h2⟩ := h.wdeed hk
  refine ⟨ad, A1, c1, A2, c2, A3, c3, e, h1, fun w' hx => h2 0 _ rfl w' hx, fun w' hx => ?_, fun w' hx => ?_, fun w' hx => ?_, fun w' hx => ?_, fun w' hx => ?_, fun w' hx => ?_⟩
  · rw [← add_field ad (k * 7) 0]; exact h2 1 _ rfl w' hx
  · rw [← add_field ad (k * 7) 1]; exact h2 2 _ rfl w' hx
  · rw [← add_field ad (k * 7) 2]; exact h2 3 _ rfl w' hx
  · rw [← add_field ad (k * 7) 3]; exact h2 4 _ rfl w' hx
  · rw [← add_field ad (k * 7) 4]; exact h2 5 _ rfl w' hx
  · rw [← add_field ad (k * 7) 5]; exact h2 6 _ rfl w' hx
theorem room_cap (L N : Nat) : roomF L N = min (capF L N) 2000 := rfl
/-- a record by its room fits, one more byte does not -/
theorem room_fits {n : Nat} {s : Dk} {g : Lg} (h : Gd n s g) (ha : g.age = s.age) (hu : s.Up) :
    (((appendR s g (List.replicate (roomF g.space.length ((g.size - 1) * 64) + 1) 0)).1 = 8 ∨ ((appendR s g (List.replicate (roomF g.space.length ((g.size - 1) * 64) + 1) 0)).1 = 6 ∧ roomF g.space.length ((g.size - 1) * 64) = 2000)) ∧
      (appendR s g (List.replicate (roomF g.space.length ((g.size - 1) * 64) + 1) 0)).2 = (s, g)) ∧
    ∀ k, k ≤ roomF g.space.length ((g.size - 1) * 64) → (appendR s g (List.replicate k 0)).1 = 0 ∨ (k = 0 ∧ (appendR s g (List.replicate k 0)).1 = 2) := by
  rw [Nat.mul_comm]
  rw [room_cap]
  constructor
  · obtain ⟨h1, h2⟩ := appendR_fits h ha hu (List.replicate (min (capF g.space.length (64 * (g.size - 1))) 2000 + 1) 0)
    rw [List.length_replicate, if_neg (by omega)] at h1
    by_cases h3 : 2000 < min (capF g.space.length (64 * (g.size - 1))) 2000 + 1
    · rw [if_pos h3] at h1
      exact ⟨.inr ⟨h1, by omega⟩, h2 (by rw [h1]; decide)⟩
    · rw [if_neg h3, if_neg (by omega)] at h1
      exact ⟨.inl h1, h2 (by rw [h1]; decide)⟩
  · intro k hk
    obtain ⟨h1, -⟩ := appendR_fits h ha hu (List.replicate k 0)
    rw [List.length_replicate] at h1
    by_cases h0 : k = 0
    · rw [if_pos h0] at h1
      exact .inr ⟨h0, h1⟩
    · rw [if_neg h0, if_neg (by omega), if_pos (by omega)] at h1
      exact .inl h1
theorem skipF_up {L m : Nat} (h : L ≤ 64 * m) : skipF L ≤ m * 64 := by unfold skipF; split <;> omega
theorem madeR (n : Nat) : (madeCells #[Value.int .u8 0] n).toList = bv (List.replicate n 0) := by
  rw [toList_madeCells_one]
  simp [bv]
theorem bsM_made (N : List Nat) (w : World) (m : Nat) (hN : ∀ k ∈ N, k < w.heap.size) : BsM N (w.alloc (.cells (madeCells #[.int .u8 0] m) 5)) (some ⟨w.heap.size, 0, none⟩) (List.replicate m 0) :=
  BsM.new w _ _ (by rw [← madeR]) 5 (0, 0) N hN
set_option maxRecDepth 20000 in
set_option maxHeartbeats 4000000 in
theorem WalRoom_any (A : Option Addr) (c : Nat) (l : List WDe) (less : Nat) (hls : less < 65536) (w0 : World) (h : RsM RWDe 7 [] w0 A l) (hll : l.length ≤ 1000000000000000) :
    Calls Try.prog 5 #[.slice A l.length c, .int .u16 less] w0 fun e w' => e = .returned (.bool true) ∧ Ext w0 w' := by
  have HB := begun_any w0
  go_enter Try.func5, Try.ntmps5
  go_wp2_with fail
  refine HB.mono ?_
  rintro e w1 ⟨P, rfl, hrun⟩
  clear HB
  have HR1 := Lib.hid hrun
  clear hrun
  unfold pt
  go_wp2
  go_loopw [7] (fun i wr => ∃ (k : Nat) (x : Rs), k ≤ l.length ∧ k ≤ 60 ∧ i = .int .i64 k ∧ Hid (RunM w0 wr P x) ∧ Hid (x.Good (5000 + 300 * k)) ∧ Hid x.s.Up) (fun i _ => 60 - (intOf i).toNat)
  case atStart => exact ⟨0, rs0, by omega, by omega, rfl, HR1, Lib.hid rs0_good, Lib.hid rs0_up⟩
  case round =>
    obtain ⟨k, x, hk1, hk2, rfl, HR, HG, HU⟩ := hrel
    clear HR1
    have hxr : Ext w0 wr := by obtain ⟨M, N, p, q, v, vs, hI⟩ := HR.out; exact hI.ex
    by_cases hlt : k < l.length ∧ k < 60
    · obtain ⟨hlt, hlt2⟩ := hlt
      obtain ⟨ad, A1, c1, A2, c2, A3, c3, rfl, hd, E0, E1, E2, E3, E4, E5, E6⟩ := h.wdeed7 hlt
      have hlt3 : (k : Int) < 60 := by omega
      have hlt4 : (k : Int) < l.length := by omega
      have e0 := E0 _ hxr
      have e1 := E1 _ hxr
      have e2 := E2 _ hxr
      have e3 := E3 _ hxr
      have e4 := E4 _ hxr
      have e5 := E5 _ hxr
      have e6 := E6 _ hxr
      have HD := wstep_any HR.out HG.out (by omega) l[k] A1 c1 A2 c2 A3 c3 hd
      have HGN := stepR_good HG.out l[k]
      unfold pt dec at HD
      have HUN := fun (he : l[k].do_ ≠ 3) => stepR_up HG.out HU.out he
      generalize l[k] = cc at *
      clear E0 E1 E2 E3 E4 E5 E6 hd
      by_cases h3 : cc.do_ = 3
      · have z3 : (cc.do_ != 3) = false := by simp [h3]
        clear HD HUN HGN
        go_wp2
        go_roundw
        case rel => exact ⟨k + 1, x, by omega, by omega, by go_num, HR, Lib.hid ⟨HG.out.gd.mono (by omega), HG.out.age, HG.out.all, HG.out.sure⟩, HU⟩
        case measure => simp [intOf]; omega
      · have z3 : (cc.do_ != 3) = true := by simpa using h3
        go_wp2_with fail
        refine HD.mono ?_
        rintro e w3 ⟨rfl, hr3⟩
        go_wp2
        go_roundw
        case rel => exact ⟨k + 1, _, by omega, by omega, by go_num, Lib.hid hr3, Lib.hid ⟨HGN.gd.mono (by omega), HGN.age, HGN.all, HGN.sure⟩, Lib.hid (HUN h3)⟩
        case measure => simp [intOf]; omega
    · have hpre : ¬ (k : Int) < l.length ∨ ((k : Int) < l.length ∧ ¬ (k : Int) < 60) := by omega
      obtain ⟨M, N, p, q, v, vs, hI⟩ := HR.out
      obtain ⟨s, g, all, sure⟩ := x
      obtain ⟨B, Ag, cg, vg, vsg, hS⟩ := hI.sys
      have hgd : Gd (5000 + 300 * k) s g := HG.out.gd
      have hage : g.age = s.age := HG.out.age
      have hup : s.Up := HU.out
      have hI : RunI M N w0 wr P p q s g all sure v vs := hI
      have hS : SysI M N wr p q s g B Ag cg vg vsg := hS
      have HRO := wRoom_any hS.row (by have := hgd.fit.s1; omega) (by have := hgd.fit.s2; omega) (skipF_up hgd.sp)
      obtain ⟨⟨hra, hrb⟩, hrc⟩ := room_fits hgd hage hup
      have hrl : roomF g.space.length ((g.size - 1) * 64) ≤ 2000 := Nat.min_le_right _ _
      generalize roomF g.space.length ((g.size - 1) * 64) = nr at *
      obtain ⟨r0, r1, -, -, -⟩ := row4_at hI.row
      have HI := Lib.hid hI
      have HGD := Lib.hid hgd
      have w1 : IntKind.i64.wrap ((nr : Int) + 1) = ((nr + 1 : Nat) : Int) := wrapI _ (by omega) (by omega)
      generalize hm : nr + 1 = m at *
      have hmk := fun W => run_make_row' (P := Try.prog) 46 5 (.int .u8 0) 1 Try.underlying46 (by kernel_rfl) rfl .i64 .i64 m (by omega) (by omega) W
      have Hra := Lib.hid hra
      have Hrb := Lib.hid hrb
      have Hrc := Lib.hid hrc
      have Hm := Lib.hid hm
      clear hra hrb hrc hI hS hgd hage hup HR HG HU hlt hm h
      unfold pt at *
      rcases hpre with h5 | ⟨h5, h6⟩
      all_goals
        go_wp2_with fail
        refine HRO.mono ?_
        rintro e w2 ⟨rfl, hx2⟩
        clear HRO
        have C1 : ∀ V, Ext w2 V → V.cell? ⟨P, 1, none⟩ = some (.pointer (some ⟨q, 0, none⟩)) := fun V hx => (hx2.trans hx).cell r1
        go_wp2_with fail
        refine wp_region_phase (S := fun V => Ext w2 V) 7 (by kernel_rfl) (by kernel_rfl) ?_ (fun hHeld => ?_)
        · exact (Ext.refl w2).drew
        simp only [List.drop_succ_cons, List.drop_zero]
        refine name_head ?_
        intro wr0 hw0
        rw [hw0] at hHeld
        refine wpHead_take (i := 0) (v := ?_) (by rfl) (by kernel_rfl) (by kernel_rfl) (by exact fun _ _ _ h => h) (Or.inl ⟨by rfl, ?_⟩) (by assumption) ?_
        rotate_left
        · intro w hSw
          first | (go_simp; done) | (go_simp; with_reducible rfl)
        simp only [List.getElem_toArray, List.getElem_cons_zero, Act.put, List.setIfInBounds_toArray, List.set_cons_zero, List.set_cons_succ]
        refine wpHead_take (i := 1) (v := ?_) (by rfl) (by kernel_rfl) (by kernel_rfl) (by exact fun _ _ _ h => h) (Or.inl ⟨by rfl, ?_⟩) (by assumption) ?_
        rotate_left
        · intro w hSw
          first | (go_simp; done) | (go_simp; with_reducible rfl)
        simp only [List.getElem_toArray, List.getElem_cons_succ, List.getElem_cons_zero, Act.put, List.setIfInBounds_toArray, List.set_cons_zero, List.set_cons_succ]
        refine wpHead_take (i := 2) (v := ?_) (by rfl) (by kernel_rfl) (by kernel_rfl) (by exact fun _ _ _ h => h) (Or.inl ⟨by rfl, ?_⟩) (by assumption) ?_
        rotate_left
        · intro w hSw
          first | (go_simp; done) | (go_simp; with_reducible rfl)
        simp only [List.getElem_toArray, List.getElem_cons_succ, List.getElem_cons_zero, Act.put, List.setIfInBounds_toArray, List.set_cons_zero, List.set_cons_succ]
        refine wpHead_take (i := 3) (v := ?_) (by rfl) (by kernel_rfl) (by kernel_rfl) (by exact fun _ _ _ h => h) (Or.inl ⟨by rfl, ?_⟩) (by assumption) ?_
        rotate_left
        · intro w hSw
          first | (go_simp; done) | (go_simp; with_reducible rfl)
        simp only [List.getElem_toArray, List.getElem_cons_succ, List.getElem_cons_zero, Act.put, List.setIfInBounds_toArray, List.set_cons_zero, List.set_cons_succ]
        refine wpHead_take (i := 4) (v := ?_) (by rfl) (by kernel_rfl) (by kernel_rfl) (by exact fun _ _ _ h => h) (Or.inl ⟨by rfl, ?_⟩) (by assumption) ?_
        rotate_left
        · intro w hSw
          first | (go_simp; done) | (go_simp; with_reducible rfl)
        simp only [List.getElem_toArray, List.getElem_cons_succ, List.getElem_cons_zero, Act.put, List.setIfInBounds_toArray, List.set_cons_zero, List.set_cons_succ]
        refine wpHead_take (i := 5) (v := ?_) (by rfl) (by kernel_rfl) (by kernel_rfl) (by exact fun _ _ _ h => h) (Or.inl ⟨by rfl, ?_⟩) (by assumption) ?_
        rotate_left
        · intro w hSw
          first | (go_simp; done) | (go_simp; with_reducible rfl)
        simp only [List.getElem_toArray, List.getElem_cons_succ, List.getElem_cons_zero, Act.put, List.setIfInBounds_toArray, List.set_cons_zero, List.set_cons_succ]
        refine wpHead_ready (rs := [6]) (by kernel_rfl) (by simp) (by kernel_rfl) ?_
        refine AllHead.cons (by rfl) (fun K hK => ?_) ?_
        · go_simp
          refine name_world ?_
          rintro wr6 hw6
          have hxn6 : Ext wr0 wr6 := hw6 ▸ (Ext.refl _).alloc _
          have hrow6 : wr6.heap[wr0.heap.size]? = some (.cells (madeCells #[.int .u8 0] m) 5) := hw6 ▸ heap_alloc_new wr0 _
          have hb6 : BsM N wr6 (some ⟨wr0.heap.size, 0, none⟩) (List.replicate m 0) := hw6 ▸ bsM_made N wr0 m (fun k hk => Nat.lt_of_lt_of_le (HI.out.lt k hk) (hx2.trans hHeld).size)
          refine hK.out _ _ ?_ (fun hHeld => ?_)
          · exact hHeld.trans hxn6
          clear hK K
          try simp only [List.getElem_toArray, List.getElem_cons_succ, List.getElem_cons_zero, Act.put, List.setIfInBounds_toArray, List.set_cons_zero, List.set_cons_succ]
          refine wpHead_done (by kernel_rfl) ?_
          have hR6 := HI.out.ext (hx2.trans hHeld)
          have HA := wappend_sys hR6.sys HGD.out (by omega) _ m _ hb6 (by simp)
          rw [List.length_replicate] at HA
          rw [show (appendR s g (List.replicate m 0)).2.1 = s from by rw [Hrb.out], show (appendR s g (List.replicate m 0)).2.2 = g from by rw [Hrb.out]] at HA
          have HR6 := Lib.hid hR6
          clear hR6 hb6 hHeld C1 r0 r1 Hrb
          generalize (appendR s g (List.replicate m 0)).1 = ea at *
          unfold pt at *
          go_wp2_with fail
          refine HA.mono ?_
          rintro e w3 ⟨rfl, ha3⟩
          clear HA
          obtain ⟨M3, N3, hR3⟩ := HR6.out.aft ha3
          have HR3 := Lib.hid hR3
          obtain ⟨r0, r1, -, -, -⟩ := row4_at hR3.row
          clear ha3 hR3 HR6 hmk
          have hmz : ¬ m = 0 := by have := Hm.out; omega
          have hmod := Nat.mod_lt less (Nat.pos_of_ne_zero hmz)
          have hkk : nr - less % m ≤ nr := Nat.sub_le _ _
          have wk : wrap64 ((nr : Int) - (less : Int) % (m : Int)) = ((nr - less % m : Nat) : Int) := by
            have := Hm.out
            rw [IntWalk.wrap64_in _ ⟨by omega, by omega⟩]
            omega
          generalize nr - less % m = kk at *
          have hmk := fun W => run_make_row' (P := Try.prog) 46 5 (.int .u8 0) 1 Try.underlying46 (by kernel_rfl) rfl .i64 .i64 kk (by omega) (by omega) W
          have Hrk := Lib.hid (Hrc.out kk hkk)
          have C1 : ∀ V, Ext w3 V → V.cell? ⟨P, 1, none⟩ = some (.pointer (some ⟨q, 0, none⟩)) := fun V hx => hx.cell r1
          clear hmod Hrc
          unfold pt at *
          go_wp2_with fail
          refine wp_region_phase (S := fun V => Ext w3 V) 6 (by kernel_rfl) (by kernel_rfl) ?_ (fun hHeld => ?_)
          · exact (Ext.refl w3).drew
          simp only [List.drop_succ_cons, List.drop_zero]
          refine name_head ?_
          intro wr0 hw0
          rw [hw0] at hHeld
          refine wpHead_take (i := 0) (v := ?_) (by rfl) (by kernel_rfl) (by kernel_rfl) (by exact fun _ _ _ h => h) (Or.inl ⟨by rfl, ?_⟩) (by assumption) ?_
          rotate_left
          · intro w hSw
            first | (go_simp; done) | (go_simp; with_reducible rfl)
          simp only [List.getElem_toArray, List.getElem_cons_zero, Act.put, List.setIfInBounds_toArray, List.set_cons_zero, List.set_cons_succ]
          refine wpHead_take (i := 1) (v := ?_) (by rfl) (by kernel_rfl) (by kernel_rfl) (by exact fun _ _ _ h => h) (Or.inl ⟨by rfl, ?_⟩) (by assumption) ?_
          rotate_left
          · intro w hSw
            first | (go_simp; done) | (go_simp; with_reducible rfl)
          simp only [List.getElem_toArray, List.getElem_cons_succ, List.getElem_cons_zero, Act.put, List.setIfInBounds_toArray, List.set_cons_zero, List.set_cons_succ]
          refine wpHead_take (i := 2) (v := ?_) (by rfl) (by kernel_rfl) (by kernel_rfl) (by exact fun _ _ _ h => h) (Or.inl ⟨by rfl, ?_⟩) (by assumption) ?_
          rotate_left
          · intro w hSw
            first | (go_simp; done) | (go_simp; with_reducible rfl)
          simp only [List.getElem_toArray, List.getElem_cons_succ, List.getElem_cons_zero, Act.put, List.setIfInBounds_toArray, List.set_cons_zero, List.set_cons_succ]
          refine wpHead_take (i := 3) (v := ?_) (by rfl) (by kernel_rfl) (by kernel_rfl) (by exact fun _ _ _ h => h) (Or.inl ⟨by rfl, ?_⟩) (by assumption) ?_
          rotate_left
          · intro w hSw
            first | (go_simp; done) | (go_simp; with_reducible rfl)
          simp only [List.getElem_toArray, List.getElem_cons_succ, List.getElem_cons_zero, Act.put, List.setIfInBounds_toArray, List.set_cons_zero, List.set_cons_succ]
          refine wpHead_take (i := 4) (v := ?_) (by rfl) (by kernel_rfl) (by kernel_rfl) (by exact fun _ _ _ h => h) (Or.inl ⟨by rfl, ?_⟩) (by assumption) ?_
          rotate_left
          · intro w hSw
            first | (go_simp; done) | (go_simp; with_reducible rfl)
          simp only [List.getElem_toArray, List.getElem_cons_succ, List.getElem_cons_zero, Act.put, List.setIfInBounds_toArray, List.set_cons_zero, List.set_cons_succ]
          refine wpHead_ready (rs := [5]) (by kernel_rfl) (by simp) (by kernel_rfl) ?_
          refine AllHead.cons (by rfl) (fun K hK => ?_) ?_
          · go_simp
            refine name_world ?_
            rintro wr5 hw5
            have hxn5 : Ext wr0 wr5 := hw5 ▸ (Ext.refl _).alloc _
            have hrow5 : wr5.heap[wr0.heap.size]? = some (.cells (madeCells #[.int .u8 0] kk) 5) := hw5 ▸ heap_alloc_new wr0 _
            have hb5 : BsM N3 wr5 (some ⟨wr0.heap.size, 0, none⟩) (List.replicate kk 0) := hw5 ▸ bsM_made N3 wr0 kk (fun k hk => Nat.lt_of_lt_of_le (HR3.out.lt k hk) hHeld.size)
            refine hK.out _ _ ?_ (fun hHeld => ?_)
            · exact hHeld.trans hxn5
            clear hK K
            try simp only [List.getElem_toArray, List.getElem_cons_succ, List.getElem_cons_zero, Act.put, List.setIfInBounds_toArray, List.set_cons_zero, List.set_cons_succ]
            refine wpHead_done (by kernel_rfl) ?_
            have hR5 := HR3.out.ext hHeld
            have HA := wappend_sys hR5.sys HGD.out (by omega) _ kk _ hb5 (by simp)
            rw [List.length_replicate] at HA
            have HR5 := Lib.hid hR5
            clear hR5 hb5 hHeld C1 r0 r1 wk hmk w1
            generalize (appendR s g (List.replicate kk 0)).1 = eb at *
            unfold pt at *
            go_wp2_with fail
            refine HA.mono ?_
            rintro e w4 ⟨rfl, ha4⟩
            clear HA
            obtain ⟨M4, N4, hR4⟩ := HR5.out.aft ha4
            have HX4 := Lib.hid hR4.ex
            clear ha4 hR4 HR5 HR3
            have HLV := live_any w4
            go_wp2_with fail
            refine HLV.mono ?_
            rintro e w5 ⟨rfl, hx5⟩
            have HXX := Lib.hid (HX4.out.trans hx5)
            have hra := Hra.out
            have hrk := Hrk.out
            clear HLV hx5 HX4 Hra Hrk HGD HI Hm
            rcases hra with rfl | ⟨rfl, e9⟩
            · rcases hrk with rfl | ⟨e8, rfl⟩
              · go_wp2
                go_ret
                exact ⟨rfl, HXX.out⟩
              · have e7 : ((kk : Int) == 0) = true := by simp [e8]
                go_wp2
                go_ret
                exact ⟨rfl, HXX.out⟩
            · have e6 : ((nr : Int) == 2000) = true := by simp [e9]
              rcases hrk with rfl | ⟨e8, rfl⟩
              · go_wp2
                go_ret
                exact ⟨rfl, HXX.out⟩
              · have e7 : ((kk : Int) == 0) = true := by simp [e8]
                go_wp2
                go_ret
                exact ⟨rfl, HXX.out⟩
          exact AllHead.nil
        exact AllHead.nil
end Go.Proofs.Ytklodimokhndoaa
