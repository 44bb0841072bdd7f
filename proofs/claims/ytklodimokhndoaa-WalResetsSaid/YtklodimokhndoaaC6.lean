/- The walk of the law WalRoom. Conditions: the hypotheses of each theorem. The walk of the law's opened. Conditions: the hypotheses of each theorem. The walk of the law WalCrash. Conditions: the hypotheses of each theorem. -/
import Derived.Test.YtklodimokhndoaaC3
import Derived.Test.YtklodimokhndoaaC5
import Derived.Deep.OwnRows
import Derived.Test.YtklodimokhndoaaC7
namespace Go.Proofs.Ytklodimokhndoaa
open Go.RowKit
/-- a deed of a script, cell by cell -/
theorem RsM.wdeed7 {w : World} {A : Option Addr} {l : List WDe} (h : RsM RWDe 7 [] w A l) {k : Nat} (hk : k < l.length) :
    ∃ ad A1 c1 A2 c2 A3 c3, A = some ad ∧ WDeR [] w l[k] A1 c1 A2 c2 A3 ∧
      (∀ w', Ext w w' → w'.cell? (ad.add (k * 7)) = some (.int .i64 l[k].do_)) ∧
      (∀ w', Ext w w' → w'.cell? ⟨(ad.add (k * 7)).block, (ad.add (k * 7)).off + 1, none⟩ = some (.int .i64 l[k].n)) ∧
      (∀ w', Ext w w' → w'.cell? ⟨(ad.add (k * 7)).block, (ad.add (k * 7)).off + 2, none⟩ = some (.slice A1 l[k].by_.length c1)) ∧
      (∀ w', Ext w w' → w'.cell? ⟨(ad.add (k * 7)).block, (ad.add (k * 7)).off + 3, none⟩ = some (.slice A2 l[k].recs.length c2)) ∧
      (∀ w', Ext w w' → w'.cell? ⟨(ad.add (k * 7)).block, (ad.add (k * 7)).off + 4, none⟩ = some (.slice A3 l[k].cr.keep.length c3)) ∧
      (∀ w', Ext w w' → w'.cell? ⟨(ad.add (k * 7)).block, (ad.add (k * 7)).off + 5, none⟩ = some (.int .i64 l[k].cr.torn)) ∧
      (∀ w', Ext w w' → w'.cell? ⟨(ad.add (k * 7)).block, (ad.add (k * 7)).off + 6, none⟩ = some (.int .i64 l[k].cr.at_)) := by
  obtain ⟨ad, A1, c1, A2, c2, A3, c3, e, h1, h2⟩ := h.wdeed hk
  refine ⟨ad, A1, c1, A2, c2, A3, c3, e, h1, fun w' hx => h2 0 _ rfl w' hx, fun w' hx => ?_, fun w' hx => ?_, fun w' hx => ?_, fun w' hx => ?_, fun w' hx => ?_, fun w' hx => ?_⟩
  · rw [← add_field ad (k * 7) 0]; exact h2 1 _ rfl w' hx
  · rw [← add_field ad (k * 7) 1]; exact h2 2 _ rfl w' hx
  · rw [← add_field ad (k * 7) 2]; exact h2 3 _ rfl w' hx
  · rw [← add_field ad (k * 7) 3]; exact h2 4 _ rfl w' hx
  · rw [← add_field ad (k * 7) 4]; exact h2 5 _ rfl w' hx
  · rw [← add_field ad (k * 7) 5]; exact h2 6 _ rfl w' hx
theorem room_cap (L N : Nat) : roomF L N = min (capF L N) 2000 := rfl
/-- a record by its room fits, one more byte does not -/
theorem room_fits {n : Nat} {s : Dk} {g : Lg} (h : Gd n s g) (ha : g.age = s.age) (hu : s.Up) :
    (((appendR s g (List.replicate (roomF g.space.length ((g.size - 1) * 64) + 1) 0)).1 = 8 ∨ ((appendR s g (List.replicate (roomF g.space.length ((g.size - 1) * 64) + 1) 0)).1 = 6 ∧ roomF g.space.length ((g.size - 1) * 64) = 2000)) ∧
      (appendR s g (List.replicate (roomF g.space.length ((g.size - 1) * 64) + 1) 0)).2 = (s, g)) ∧
    ∀ k, k ≤ roomF g.space.length ((g.size - 1) * 64) → (appendR s g (List.replicate k 0)).1 = 0 ∨ (k = 0 ∧ (appendR s g (List.replicate k 0)).1 = 2) := by
  rw [Nat.mul_comm]
  rw [room_cap]
  constructor
  · obtain ⟨h1, h2⟩ := appendR_fits h ha hu (List.replicate (min (capF g.space.length (64 * (g.size - 1))) 2000 + 1) 0)
    rw [List.length_replicate, if_neg (by omega)] at h1
    by_cases h3 : 2000 < min (capF g.space.length (64 * (g.size - 1))) 2000 + 1
    · rw [if_pos h3] at h1
      exact ⟨.inr ⟨h1, by omega⟩, h2 (by rw [h1]; decide)⟩
    · rw [if_neg h3, if_neg (by omega)] at h1
      exact ⟨.inl h1, h2 (by rw [h1]; decide)⟩
  · intro k hk
    obtain ⟨h1, -⟩ := appendR_fits h ha hu (List.replicate k 0)
    rw [List.length_replicate] at h1
    by_cases h0 : k = 0
    · rw [if_pos h0] at h1
      exact .inr ⟨h0, h1⟩
    · rw [if_neg h0, if_neg (by omega), if_pos (by omega)] at h1
      exact .inl h1
theorem skipF_up {L m : Nat} (h : L ≤ 64 * m) : skipF L ≤ m * 64 := by unfold skipF; split <;> omega
theorem madeR (n : Nat) : (madeCells #[Value.int .u8 0] n).toList = bv (List.replicate n 0) := by
  rw [toList_madeCells_one]
  simp [bv]
theorem bsM_made (N : List Nat) (w : World) (m : Nat) (hN : ∀ k ∈ N, k < w.heap.size) : BsM N (w.alloc (.cells (madeCells #[.int .u8 0] m) 5)) (some ⟨w.heap.size, 0, none⟩) (List.replicate m 0) :=
  BsM.new w _ _ (by rw [← madeR]) 5 (0, 0) N hN
set_option maxRecDepth 20000 in
set_option maxHeartbeats 4000000 in
theorem WalRoom_any (A : Option Addr) (c : Nat) (l : List WDe) (less : Nat) (hls : less < 65536) (w0 : World) (h : RsM RWDe 7 [] w0 A l) (hll : l.length ≤ 1000000000000000) :
    Calls Try.prog 5 #[.slice A l.length c, .int .u16 less] w0 fun e w' => e = .returned (.bool true) ∧ Ext w0 w' := by
  have HB := begun_any w0
  go_enter Try.func5, Try.ntmps5
  go_wp2_with fail
  refine HB.mono ?_
  rintro e w1 ⟨P, rfl, hrun⟩
  clear HB
  have HR1 := Lib.hid hrun
  clear hrun
  unfold pt
  go_wp2
  go_loopw [7] (fun i wr => ∃ (k : Nat) (x : Rs), k ≤ l.length ∧ k ≤ 60 ∧ i = .int .i64 k ∧ Hid (RunM w0 wr P x) ∧ Hid (x.Good (5000 + 300 * k)) ∧ Hid x.s.Up) (fun i _ => 60 - (intOf i).toNat)
  case atStart => exact ⟨0, rs0, by omega, by omega, rfl, HR1, Lib.hid rs0_good, Lib.hid rs0_up⟩
  case round =>
    obtain ⟨k, x, hk1, hk2, rfl, HR, HG, HU⟩ := hrel
    clear HR1
    have hxr : Ext w0 wr := by obtain ⟨M, N, p, q, v, vs, hI⟩ := HR.out; exact hI.ex
    by_cases hlt : k < l.length ∧ k < 60
    · obtain ⟨hlt, hlt2⟩ := hlt
      obtain ⟨ad, A1, c1, A2, c2, A3, c3, rfl, hd, E0, E1, E2, E3, E4, E5, E6⟩ := h.wdeed7 hlt
      have hlt3 : (k : Int) < 60 := by omega
      have hlt4 : (k : Int) < l.length := by omega
      have e0 := E0 _ hxr
      have e1 := E1 _ hxr
      have e2 := E2 _ hxr
      have e3 := E3 _ hxr
      have e4 := E4 _ hxr
      have e5 := E5 _ hxr
      have e6 := E6 _ hxr
      have HD := wstep_any HR.out HG.out (by omega) l[k] A1 c1 A2 c2 A3 c3 hd
      have HGN := stepR_good HG.out l[k]
      unfold pt dec at HD
      have HUN := fun (he : l[k].do_ ≠ 3) => stepR_up HG.out HU.out he
      generalize l[k] = cc at *
      clear E0 E1 E2 E3 E4 E5 E6 hd
      by_cases h3 : cc.do_ = 3
      · have z3 : (cc.do_ != 3) = false := by simp [h3]
        clear HD HUN HGN
        go_wp2
        go_roundw
        case rel => exact ⟨k + 1, x, by omega, by omega, by go_num, HR, Lib.hid ⟨HG.out.gd.mono (by omega), HG.out.age, HG.out.all, HG.out.sure⟩, HU⟩
        case measure => simp [intOf]; omega
      · have z3 : (cc.do_ != 3) = true := by simpa using h3
        go_wp2_with fail
        refine HD.mono ?_
        rintro e w3 ⟨rfl, hr3⟩
        go_wp2
        go_roundw
        case rel => exact ⟨k + 1, _, by omega, by omega, by go_num, Lib.hid hr3, Lib.hid ⟨HGN.gd.mono (by omega), HGN.age, HGN.all, HGN.sure⟩, Lib.hid (HUN h3)⟩
        case measure => simp [intOf]; omega
    · have hpre : ¬ (k : Int) < l.length ∨ ((k : Int) < l.length ∧ ¬ (k : Int) < 60) := by omega
      obtain ⟨M, N, p, q, v, vs, hI⟩ := HR.out
      obtain ⟨s, g, all, sure⟩ := x
      obtain ⟨B, Ag, cg, vg, vsg, hS⟩ := hI.sys
      have hgd : Gd (5000 + 300 * k) s g := HG.out.gd
      have hage : g.age = s.age := HG.out.age
      have hup : s.Up := HU.out
      have hI : RunI M N w0 wr P p q s g all sure v vs := hI
      have hS : SysI M N wr p q s g B Ag cg vg vsg := hS
      have HRO := wRoom_any hS.row (by have := hgd.fit.s1; omega) (by have := hgd.fit.s2; omega) (skipF_up hgd.sp)
      obtain ⟨⟨hra, hrb⟩, hrc⟩ := room_fits hgd hage hup
      have hrl : roomF g.space.length ((g.size - 1) * 64) ≤ 2000 := Nat.min_le_right _ _
      generalize roomF g.space.length ((g.size - 1) * 64) = nr at *
      obtain ⟨r0, r1, -, -, -⟩ := row4_at hI.row
      have HI := Lib.hid hI
      have HGD := Lib.hid hgd
      have w1 : IntKind.i64.wrap ((nr : Int) + 1) = ((nr + 1 : Nat) : Int) := wrapI _ (by omega) (by omega)
      generalize hm : nr + 1 = m at *
      have hmk := fun W => run_make_row' (P := Try.prog) 46 5 (.int .u8 0) 1 Try.underlying46 (by kernel_rfl) rfl .i64 .i64 m (by omega) (by omega) W
      have Hra := Lib.hid hra
      have Hrb := Lib.hid hrb
      have Hrc := Lib.hid hrc
      have Hm := Lib.hid hm
      clear hra hrb hrc hI hS hgd hage hup HR HG HU hlt hm h
      unfold pt at *
      rcases hpre with h5 | ⟨h5, h6⟩
      all_goals
        go_wp2_with fail
        refine HRO.mono ?_
        rintro e w2 ⟨rfl, hx2⟩
        clear HRO
        have C1 : ∀ V, Ext w2 V → V.cell? ⟨P, 1, none⟩ = some (.pointer (some ⟨q, 0, none⟩)) := fun V hx => (hx2.trans hx).cell r1
        go_wp2_with fail
        refine wp_region_phase (S := fun V => Ext w2 V) 7 (by kernel_rfl) (by kernel_rfl) ?_ (fun hHeld => ?_)
        · exact (Ext.refl w2).drew
        simp only [List.drop_succ_cons, List.drop_zero]
        refine name_head ?_
        intro wr0 hw0
        rw [hw0] at hHeld
        refine wpHead_take (i := 0) (v := ?_) (by rfl) (by kernel_rfl) (by kernel_rfl) (by exact fun _ _ _ h => h) (Or.inl ⟨by rfl, ?_⟩) (by assumption) ?_
        rotate_left
        · intro w hSw
          first | (go_simp; done) | (go_simp; with_reducible rfl)
        simp only [List.getElem_toArray, List.getElem_cons_zero, Act.put, List.setIfInBounds_toArray, List.set_cons_zero, List.set_cons_succ]
        refine wpHead_take (i := 1) (v := ?_) (by rfl) (by kernel_rfl) (by kernel_rfl) (by exact fun _ _ _ h => h) (Or.inl ⟨by rfl, ?_⟩) (by assumption) ?_
        rotate_left
        · intro w hSw
          first | (go_simp; done) | (go_simp; with_reducible rfl)
        simp only [List.getElem_toArray, List.getElem_cons_succ, List.getElem_cons_zero, Act.put, List.setIfInBounds_toArray, List.set_cons_zero, List.set_cons_succ]
        refine wpHead_take (i := 2) (v := ?_) (by rfl) (by kernel_rfl) (by kernel_rfl) (by exact fun _ _ _ h => h) (Or.inl ⟨by rfl, ?_⟩) (by assumption) ?_
        rotate_left
        · intro w hSw
          first | (go_simp; done) | (go_simp; with_reducible rfl)
        simp only [List.getElem_toArray, List.getElem_cons_succ, List.getElem_cons_zero, Act.put, List.setIfInBounds_toArray, List.set_cons_zero, List.set_cons_succ]
        refine wpHead_take (i := 3) (v := ?_) (by rfl) (by kernel_rfl) (by kernel_rfl) (by exact fun _ _ _ h => h) (Or.inl ⟨by rfl, ?_⟩) (by assumption) ?_
        rotate_left
        · intro w hSw
          first | (go_simp; done) | (go_simp; with_reducible rfl)
        simp only [List.getElem_toArray, List.getElem_cons_succ, List.getElem_cons_zero, Act.put, List.setIfInBounds_toArray, List.set_cons_zero, List.set_cons_succ]
        refine wpHead_take (i := 4) (v := ?_) (by rfl) (by kernel_rfl) (by kernel_rfl) (by exact fun _ _ _ h => h) (Or.inl ⟨by rfl, ?_⟩) (by assumption) ?_
        rotate_left
        · intro w hSw
          first | (go_simp; done) | (go_simp; with_reducible rfl)
        simp only [List.getElem_toArray, List.getElem_cons_succ, List.getElem_cons_zero, Act.put, List.setIfInBounds_toArray, List.set_cons_zero, List.set_cons_succ]
        refine wpHead_take (i := 5) (v := ?_) (by rfl) (by kernel_rfl) (by kernel_rfl) (by exact fun _ _ _ h => h) (Or.inl ⟨by rfl, ?_⟩) (by assumption) ?_
        rotate_left
        · intro w hSw
          first | (go_simp; done) | (go_simp; with_reducible rfl)
        simp only [List.getElem_toArray, List.getElem_cons_succ, List.getElem_cons_zero, Act.put, List.setIfInBounds_toArray, List.set_cons_zero, List.set_cons_succ]
        refine wpHead_ready (rs := [6]) (by kernel_rfl) (by simp) (by kernel_rfl) ?_
        refine AllHead.cons (by rfl) (fun K hK => ?_) ?_
        · go_simp
          refine name_world ?_
          rintro wr6 hw6
          have hxn6 : Ext wr0 wr6 := hw6 ▸ (Ext.refl _).alloc _
          have hrow6 : wr6.heap[wr0.heap.size]? = some (.cells (madeCells #[.int .u8 0] m) 5) := hw6 ▸ heap_alloc_new wr0 _
          have hb6 : BsM N wr6 (some ⟨wr0.heap.size, 0, none⟩) (List.replicate m 0) := hw6 ▸ bsM_made N wr0 m (fun k hk => Nat.lt_of_lt_of_le (HI.out.lt k hk) (hx2.trans hHeld).size)
          refine hK.out _ _ ?_ (fun hHeld => ?_)
          · exact hHeld.trans hxn6
          clear hK K
          try simp only [List.getElem_toArray, List.getElem_cons_succ, List.getElem_cons_zero, Act.put, List.setIfInBounds_toArray, List.set_cons_zero, List.set_cons_succ]
          refine wpHead_done (by kernel_rfl) ?_
          have hR6 := HI.out.ext (hx2.trans hHeld)
          have HA := wappend_sys hR6.sys HGD.out (by omega) _ m _ hb6 (by simp)
          rw [List.length_replicate] at HA
          rw [show (appendR s g (List.replicate m 0)).2.1 = s from by rw [Hrb.out], show (appendR s g (List.replicate m 0)).2.2 = g from by rw [Hrb.out]] at HA
          have HR6 := Lib.hid hR6
          clear hR6 hb6 hHeld C1 r0 r1 Hrb
          generalize (appendR s g (List.replicate m 0)).1 = ea at *
          unfold pt at *
          go_wp2_with fail
          refine HA.mono ?_
          rintro e w3 ⟨rfl, ha3⟩
          clear HA
          obtain ⟨M3, N3, hR3⟩ := HR6.out.aft ha3
          have HR3 := Lib.hid hR3
          obtain ⟨r0, r1, -, -, -⟩ := row4_at hR3.row
          clear ha3 hR3 HR6 hmk
          have hmz : ¬ m = 0 := by have := Hm.out; omega
          have hmod := Nat.mod_lt less (Nat.pos_of_ne_zero hmz)
          have hkk : nr - less % m ≤ nr := Nat.sub_le _ _
          have wk : wrap64 ((nr : Int) - (less : Int) % (m : Int)) = ((nr - less % m : Nat) : Int) := by
            have := Hm.out
            rw [IntWalk.wrap64_in _ ⟨by omega, by omega⟩]
            omega
          generalize nr - less % m = kk at *
          have hmk := fun W => run_make_row' (P := Try.prog) 46 5 (.int .u8 0) 1 Try.underlying46 (by kernel_rfl) rfl .i64 .i64 kk (by omega) (by omega) W
          have Hrk := Lib.hid (Hrc.out kk hkk)
          have C1 : ∀ V, Ext w3 V → V.cell? ⟨P, 1, none⟩ = some (.pointer (some ⟨q, 0, none⟩)) := fun V hx => hx.cell r1
          clear hmod Hrc
          unfold pt at *
          go_wp2_with fail
          refine wp_region_phase (S := fun V => Ext w3 V) 6 (by kernel_rfl) (by kernel_rfl) ?_ (fun hHeld => ?_)
          · exact (Ext.refl w3).drew
          simp only [List.drop_succ_cons, List.drop_zero]
          refine name_head ?_
          intro wr0 hw0
          rw [hw0] at hHeld
          refine wpHead_take (i := 0) (v := ?_) (by rfl) (by kernel_rfl) (by kernel_rfl) (by exact fun _ _ _ h => h) (Or.inl ⟨by rfl, ?_⟩) (by assumption) ?_
          rotate_left
          · intro w hSw
            first | (go_simp; done) | (go_simp; with_reducible rfl)
          simp only [List.getElem_toArray, List.getElem_cons_zero, Act.put, List.setIfInBounds_toArray, List.set_cons_zero, List.set_cons_succ]
          refine wpHead_take (i := 1) (v := ?_) (by rfl) (by kernel_rfl) (by kernel_rfl) (by exact fun _ _ _ h => h) (Or.inl ⟨by rfl, ?_⟩) (by assumption) ?_
          rotate_left
          · intro w hSw
            first | (go_simp; done) | (go_simp; with_reducible rfl)
          simp only [List.getElem_toArray, List.getElem_cons_succ, List.getElem_cons_zero, Act.put, List.setIfInBounds_toArray, List.set_cons_zero, List.set_cons_succ]
          refine wpHead_take (i := 2) (v := ?_) (by rfl) (by kernel_rfl) (by kernel_rfl) (by exact fun _ _ _ h => h) (Or.inl ⟨by rfl, ?_⟩) (by assumption) ?_
          rotate_left
          · intro w hSw
            first | (go_simp; done) | (go_simp; with_reducible rfl)
          simp only [List.getElem_toArray, List.getElem_cons_succ, List.getElem_cons_zero, Act.put, List.setIfInBounds_toArray, List.set_cons_zero, List.set_cons_succ]
          refine wpHead_take (i := 3) (v := ?_) (by rfl) (by kernel_rfl) (by kernel_rfl) (by exact fun _ _ _ h => h) (Or.inl ⟨by rfl, ?_⟩) (by assumption) ?_
          rotate_left
          · intro w hSw
            first | (go_simp; done) | (go_simp; with_reducible rfl)
          simp only [List.getElem_toArray, List.getElem_cons_succ, List.getElem_cons_zero, Act.put, List.setIfInBounds_toArray, List.set_cons_zero, List.set_cons_succ]
          refine wpHead_take (i := 4) (v := ?_) (by rfl) (by kernel_rfl) (by kernel_rfl) (by exact fun _ _ _ h => h) (Or.inl ⟨by rfl, ?_⟩) (by assumption) ?_
          rotate_left
          · intro w hSw
            first | (go_simp; done) | (go_simp; with_reducible rfl)
          simp only [List.getElem_toArray, List.getElem_cons_succ, List.getElem_cons_zero, Act.put, List.setIfInBounds_toArray, List.set_cons_zero, List.set_cons_succ]
          refine wpHead_ready (rs := [5]) (by kernel_rfl) (by simp) (by kernel_rfl) ?_
          refine AllHead.cons (by rfl) (fun K hK => ?_) ?_
          · go_simp
            refine name_world ?_
            rintro wr5 hw5
            have hxn5 : Ext wr0 wr5 := hw5 ▸ (Ext.refl _).alloc _
            have hrow5 : wr5.heap[wr0.heap.size]? = some (.cells (madeCells #[.int .u8 0] kk) 5) := hw5 ▸ heap_alloc_new wr0 _
            have hb5 : BsM N3 wr5 (some ⟨wr0.heap.size, 0, none⟩) (List.replicate kk 0) := hw5 ▸ bsM_made N3 wr0 kk (fun k hk => Nat.lt_of_lt_of_le (HR3.out.lt k hk) hHeld.size)
            refine hK.out _ _ ?_ (fun hHeld => ?_)
            · exact hHeld.trans hxn5
            clear hK K
            try simp only [List.getElem_toArray, List.getElem_cons_succ, List.getElem_cons_zero, Act.put, List.setIfInBounds_toArray, List.set_cons_zero, List.set_cons_succ]
            refine wpHead_done (by kernel_rfl) ?_
            have hR5 := HR3.out.ext hHeld
            have HA := wappend_sys hR5.sys HGD.out (by omega) _ kk _ hb5 (by simp)
            rw [List.length_replicate] at HA
            have HR5 := Lib.hid hR5
            clear hR5 hb5 hHeld C1 r0 r1 wk hmk w1
            generalize (appendR s g (List.replicate kk 0)).1 = eb at *
            unfold pt at *
            go_wp2_with fail
            refine HA.mono ?_
            rintro e w4 ⟨rfl, ha4⟩
            clear HA
            obtain ⟨M4, N4, hR4⟩ := HR5.out.aft ha4
            have HX4 := Lib.hid hR4.ex
            clear ha4 hR4 HR5 HR3
            have HLV := live_any w4
            go_wp2_with fail
            refine HLV.mono ?_
            rintro e w5 ⟨rfl, hx5⟩
            have HXX := Lib.hid (HX4.out.trans hx5)
            have hra := Hra.out
            have hrk := Hrk.out
            clear HLV hx5 HX4 Hra Hrk HGD HI Hm
            rcases hra with rfl | ⟨rfl, e9⟩
            · rcases hrk with rfl | ⟨e8, rfl⟩
              · go_wp2
                go_ret
                exact ⟨rfl, HXX.out⟩
              · have e7 : ((kk : Int) == 0) = true := by simp [e8]
                go_wp2
                go_ret
                exact ⟨rfl, HXX.out⟩
            · have e6 : ((nr : Int) == 2000) = true := by simp [e9]
              rcases hrk with rfl | ⟨e8, rfl⟩
              · go_wp2
                go_ret
                exact ⟨rfl, HXX.out⟩
              · have e7 : ((kk : Int) == 0) = true := by simp [e8]
                go_wp2
                go_ret
                exact ⟨rfl, HXX.out⟩
          exact AllHead.nil
        exact AllHead.nil
end Go.Proofs.Ytklodimokhndoaa
namespace Go.Proofs.Ytklodimokhndoaa
open Go.RowKit
theorem OpenSays.disk {B N0 : List Nat} {w w' : World} {p : Nat} {r : Int × Dk × Lg} {e : Ending} (h : OpenSays B N0 w p r e w') : ∃ v B', e = .returned v ∧ Disk B' w' p r.2.1 ∧ Turn B w B' w' := by
  rcases h with ⟨-, rfl, B', hd, ht⟩ | ⟨-, q, M', rfl, hs, ht⟩
  · exact ⟨_, B', rfl, hd, ht⟩
  · obtain ⟨Bx, A, c, v, vs, hI⟩ := hs
    exact ⟨_, M', rfl, hI.disk.mono hI.BM (fun k hk => hI.lt k (hI.MN k hk)), ht⟩
theorem deed_keep {B : List Nat} {w0 w : World} {d : WDe} {A1 : Option Addr} {c1 : Nat} {A2 : Option Addr} {c2 : Nat} {A3 : Option Addr} (h : WDeR [] w0 d A1 c1 A2 c2 A3) (hx : Ext w0 w) (hB : ∀ k ∈ B, w0.heap.size ≤ k) : SlM B w A3 (bo d.cr.keep) :=
  SlM.kept (SlM.old h.keep fun k hk => .inr (hB k hk)) (.of_ext hx)
/-- what opened answers -/
def OpenedSays (B N0 : List Nat) (w : World) (p : Nat) (R : List By) (e : Ending) (w' : World) : Prop :=
  ∃ q M' s' g', e = .returned (pt q) ∧ Sys M' (M' ++ N0) w' p q s' g' ∧ g'.recs = R ∧ Turn B w M' w' ∧ Gd 100000 s' g'
set_option maxRecDepth 20000 in
set_option maxHeartbeats 4000000 in
theorem opened_any {B : List Nat} (N0 : List Nat) {W w : World} {p h n : Nat} {s : Dk} {D : By} (hD : Disk B w p s) (hs : s.Ok) (hf : s.Few n) (hn : n ≤ 50000) (C : Cr) (KA : Option Addr) (kc : Nat) (hK : SlM B w KA (bo C.keep)) (hkl : C.keep.length ≤ 9223372036854775807) (hcl : Cl h (crashed s C) D)
    (hx : Ext W w) (hB : ∀ k ∈ B, W.heap.size ≤ k) (A : Option Addr) (c : Nat) (l : List WDe) (hl : RsM RWDe 7 [] W A l) (hll : l.length ≤ 1000000000000000) (hN0 : ∀ k ∈ N0, k < w.heap.size) :
    Calls Try.prog 17 #[pt p, .agg #[.slice KA C.keep.length kc, .int .i64 C.torn, .int .i64 C.at_], .slice A l.length c] w (OpenedSays B N0 w p (readF D).1) := by
  have hxa := (Ext.refl w).alloc (.cells #[.slice KA C.keep.length kc, .int .i64 C.torn, .int .i64 C.at_] 41)
  obtain ⟨wa, hwa⟩ : ∃ wa, w.alloc (.cells #[.slice KA C.keep.length kc, .int .i64 C.torn, .int .i64 C.at_] 41) = wa := ⟨_, rfl⟩
  rw [hwa] at hxa
  have HC := Crash_all (hD.ext hxa) hs hf (by omega) C KA kc (hK.kept (.of_ext hxa)) hkl
  rw [← hwa] at HC
  have HF := Lib.hid (crashed_few hf C)
  have HXW := Lib.hid (hx.trans hxa)
  have HB := Lib.hid hB
  have HXA := Lib.hid hxa
  have HCL := Lib.hid hcl
  have HWA := Lib.hid hwa
  have HLT := Lib.hid hN0
  clear hD hs hf hK hwa hxa hx hB hcl hN0
  unfold pt at *
  go_enter Try.func17, Try.ntmps17
  go_wp2_with fail
  refine HC.mono ?_
  rintro e w1 ⟨rfl, hd1, ht1⟩
  clear HC
  rw [HWA.out] at ht1
  have HT1 := Lib.hid ((Turn.of_ext HXA.out).trans ht1)
  have HD1 := Lib.hid hd1
  have HX1 := Lib.hid (Turn.to_ext HXW.out ht1 HB.out)
  clear hd1 ht1 HXA HWA HXW HB
  generalize crashed s C = s1 at *
  go_wp2
  go_loopw [7] (fun i wr => ∃ (k : Nat) (B' : List Nat) (s' : Dk) (D' : By), k ≤ l.length ∧ k ≤ 5 ∧ i = .int .i64 k ∧ Hid (Disk B' wr p s') ∧ Hid (Turn B w B' wr) ∧ Hid (Cl h s' D' ∧ readF D' = readF D) ∧ Hid (s'.Few (50001 + k * 6000)) ∧ Hid (Ext W wr ∧ ∀ k ∈ B', W.heap.size ≤ k)) (fun i _ => 5 - (intOf i).toNat)
  case atStart => exact ⟨0, B, s1, D, by omega, by omega, rfl, HD1, HT1, Lib.hid ⟨HCL.out, rfl⟩, Lib.hid (HF.out.mono (by omega)), HX1⟩
  case round =>
    clear HD1 HT1 HCL HF HX1
    obtain ⟨k, B', s', D', hk1, hk2, rfl, HD, HT, HCL, HF, HX⟩ := hrel
    by_cases hlt : k < l.length ∧ k < 5
    · obtain ⟨hlt, hlt2⟩ := hlt
      obtain ⟨ad, A1, c1, A2, c2, A3, c3, rfl, hd, E0, E1, E2, E3, E4, E5, E6⟩ := hl.wdeed7 hlt
      have hlt3 : (k : Int) < 5 := by omega
      have hlt4 : (k : Int) < l.length := by omega
      have w1 : IntKind.i64.wrap (1 + (k : Int)) = 1 + (k : Int) := wrapI _ (by omega) (by omega)
      have HCU := Cut_all HD.out HCL.out.1.ok (1 + (k : Int))
      unfold pt at HCU
      go_wp2_with fail
      refine HCU.mono ?_
      rintro e w2 ⟨rfl, hd2, ht2⟩
      clear HCU
      obtain ⟨o1, o2, o3, o4, o5, o6⟩ := HCL.out.1.opens (1 + (k : Int))
      have hcl0 := HCL.out.1
      have HO := wopen_any (B := B') [] hd2 o2 (cutS_few HF.out (n := 1 + (k : Int)) (by omega)) (by omega) 1 21 o3 (by omega) (by omega) (by omega) (by rw [o5, hcl0.len]; omega) (by simp)
      rw [show 21 / 2 = 10 from rfl] at HO
      have hgd := openR_gd o2 (cutS_few HF.out (n := 1 + (k : Int)) (by omega)) 1 10 (by omega) (by omega) (by omega) (by rw [o5, hcl0.len]; omega)
      have HGD := Lib.hid hgd
      obtain ⟨D2, hcl2, hr2⟩ := hcl0.again (1 + (k : Int)) l[k].cr
      have HCL2 := Lib.hid hcl2
      have HR2 := Lib.hid (hr2.trans HCL.out.2)
      have HT2 := Lib.hid (HT.out.trans ht2)
      have HX2 := Lib.hid (Turn.to_ext HX.out.1 ht2 HX.out.2)
      have hkl2 := hd.kl
      have HKP := fun V B2 (hx : Ext W V) (hB2 : ∀ k ∈ B2, W.heap.size ≤ k) => deed_keep (B := B2) hd hx hB2
      clear hd2 ht2 o1 o2 o3 o4 o5 o6 hcl0 HD HT HCL HX hgd hcl2 hr2 HF hd E0 E1 E2 E3
      generalize hcr : l[k].cr = C2 at *
      clear hcr
      unfold pt at *
      go_wp2_with fail
      refine HO.mono ?_
      intro e w3 hs3
      obtain ⟨v3, B3, rfl, hd3, ht3⟩ := hs3.disk
      clear HO hs3
      generalize openR (cutS s' (1 + (k : Int))) 1 10 = ro at *
      have HT3 := Lib.hid (HT2.out.trans ht3)
      have HX3 := Lib.hid (Turn.to_ext HX2.out.1 ht3 HX2.out.2)
      have e4 := E4 _ HX3.out.1
      have e5 := E5 _ HX3.out.1
      have e6 := E6 _ HX3.out.1
      have HC2 := Crash_all hd3 HGD.out.ok HGD.out.few (by omega) C2 A3 c3 (HKP w3 B3 HX3.out.1 HX3.out.2) (by omega)
      have HF2 := Lib.hid (crashed_few HGD.out.few C2)
      clear HKP hd3 ht3 HT2 HX2 E4 E5 E6
      unfold pt at *
      go_wp2_with fail
      refine HC2.mono ?_
      rintro e w4 ⟨rfl, hd4, ht4⟩
      clear HC2 e4 e5 e6
      have HD4 := Lib.hid hd4
      have HT4 := Lib.hid (HT3.out.trans ht4)
      have HX4 := Lib.hid (Turn.to_ext HX3.out.1 ht4 HX3.out.2)
      clear hd4 ht4 HT3 HX3
      go_wp2
      go_roundw
      case rel => exact ⟨k + 1, B3, _, D2, by omega, by omega, by go_num, HD4, HT4, Lib.hid ⟨HCL2.out, HR2.out⟩, Lib.hid (HF2.out.mono (by omega)), HX4⟩
      case measure => simp [intOf]; omega
    · have hpre : ¬ (k : Int) < l.length ∨ ((k : Int) < l.length ∧ ¬ (k : Int) < 5) := by omega
      have hcl0 := HCL.out.1
      have HO := wopen_any (B := B') N0 HD.out hcl0.ok HF.out (by omega) 1 21 hcl0.down (by omega) (by omega) (by omega) (by rw [hcl0.len]; omega) (fun k hk => Nat.lt_of_lt_of_le (HLT.out k hk) HT.out.kept.size)
      rw [show 21 / 2 = 10 from rfl] at HO
      have hgd := openR_gd hcl0.ok HF.out 1 10 (by omega) (by omega) (by omega) (by rw [hcl0.len]; omega)
      have HGD := Lib.hid (hgd.mono (show _ ≤ 100000 by omega))
      have HL := Lib.hid hcl0.last
      have HRD := Lib.hid HCL.out.2
      clear hcl0 hgd HD HCL HF HX hlt
      unfold pt at *
      rcases hpre with h5 | ⟨h5, h6⟩
      all_goals
        go_wp2_with fail
        refine HO.mono ?_
        intro e w3 hs3
        clear HO
        rcases hs3 with ⟨hne, -⟩ | ⟨-, q, M', rfl, hsys, ht⟩
        · exact absurd HL.out.1 hne
        · have HS := Lib.hid hsys
          have HTT := Lib.hid (HT.out.trans ht)
          clear hsys ht HT
          unfold pt
          go_wp2
          go_ret
          exact ⟨_, M', _, _, rfl, HS.out, by rw [HL.out.2, HRD.out], HTT.out, HGD.out⟩
end Go.Proofs.Ytklodimokhndoaa
namespace Go.Proofs.Ytklodimokhndoaa
open Go.RowKit
theorem RunI.cap {M N : List Nat} {w0 w : World} {P p q : Nat} {s : Dk} {g : Lg} {all : List By} {sure n c : Nat} {A : Option Addr} {vs : List Value} (h : RunI M N w0 w P p q s g all sure (.slice A n c) vs) : all.length ≤ c ∧ c ≤ 9223372036854775807 := by
  rcases h.own.2 with ⟨e, hn⟩ | ⟨g', cap', cur, e, _, _, h1, h2, _⟩
  · injection e with _ _ e
    subst e
    omega
  · injection e with _ _ e
    subst e
    simp only [maxLen] at h2
    omega
/-- a run whose disk has turned: what it was told stands -/
theorem RunI.behind {M N : List Nat} {w0 w w' : World} {P p q : Nat} {s : Dk} {g : Lg} {all : List By} {sure n c : Nat} {A : Option Addr} {vs : List Value} (h : RunI M N w0 w P p q s g all sure (.slice A n c) vs) (hk : Kept M w w') :
    w'.heap[P]? = some (.cells #[pt p, pt q, .slice A n c, .int .i64 sure] 52 (0, 0)) ∧ Sl w' A vs ∧ ∀ (k : Nat) (l : By), all[k]? = some l → ∃ A' c', vs[k]? = some (.slice A' l.length c') ∧ l.length ≤ c' ∧ BsM N w' A' l := by
  refine ⟨hk.heap h.row h.PM, ?_, fun k l hl => ?_⟩
  · have ho : w'.ownsRow 0 46 1 (.slice A n c) all.length vs := by
      obtain ⟨o1, o2⟩ := h.own
      refine ⟨o1, ?_⟩
      rcases o2 with o2 | ⟨g', cap', cur, e, hb, hg, o3⟩
      · exact .inl o2
      · exact .inr ⟨g', cap', cur, e, hb, hk.heap hg (h.vM g' (by rw [e]; rfl)), o3⟩
    exact Sl.own ho rfl
  · obtain ⟨A', c', h1, h2, h3⟩ := h.els k l hl
    exact ⟨A', c', h1, h2, h3.kept (hk.mono h.sys.MN)⟩
/-- a beginning of it -/
theorem RunI.cut {M N : List Nat} {w0 w : World} {P p q : Nat} {s : Dk} {g : Lg} {all : List By} {sure n c : Nat} {A : Option Addr} {vs : List Value} (h : RunI M N w0 w P p q s g all sure (.slice A n c) vs) {k : Nat} (hk : k ≤ all.length) :
    ∃ A', (∀ W, (Instr.slice 47 (.slice A all.length c) none (some (.int .i64 (k : Int))) none).run Try.prog W = .ok (.slice A' k c) W) ∧ ∀ w', Kept M w w' → BsS w' A' (all.take k) := by
  obtain ⟨A', h1, h2⟩ := cut_h Try.underlying47 (fun _ => by kernel_rfl) A all.length c k h.cap.1 hk
  refine ⟨A', h1, fun w' hx => ?_⟩
  obtain ⟨-, hs, he⟩ := h.behind hx
  have hs2 := h2 w' vs (by have := h.own.1; omega) hs
  intro j l hj
  have hjl := (List.getElem?_eq_some_iff.1 hj).1
  rw [List.length_take] at hjl
  rw [List.getElem?_take_of_lt (by omega)] at hj
  obtain ⟨A2, c2, e1, e2, e3⟩ := he j l hj
  obtain ⟨ad, e, hc⟩ := hs2 j _ (by rw [List.getElem?_take_of_lt (by omega)]; exact e1)
  exact ⟨ad, A2, c2, e, hc, e3.bs⟩
set_option maxRecDepth 20000 in
set_option maxHeartbeats 4000000 in
theorem WalCrash_any (A : Option Addr) (c : Nat) (l : List WDe) (C : Cr) (KA : Option Addr) (kc : Nat) (A2 : Option Addr) (c2 : Nat) (l2 : List WDe) (w0 : World) (h : RsM RWDe 7 [] w0 A l) (hll : l.length ≤ 1000000000000000) (hK : Sl w0 KA (bo C.keep)) (hkl : C.keep.length ≤ 9223372036854775807) (h2 : RsM RWDe 7 [] w0 A2 l2) (hll2 : l2.length ≤ 1000000000000000) :
    Calls Try.prog 4 #[.slice A l.length c, .agg #[.slice KA C.keep.length kc, .int .i64 C.torn, .int .i64 C.at_], .slice A2 l2.length c2] w0 fun e w' => e = .returned (.bool true) ∧ Ext w0 w' := by
  have hbox0 := heap_alloc_new w0 (.cells #[.slice KA C.keep.length kc, .int .i64 C.torn, .int .i64 C.at_] 41)
  have hxa := (Ext.refl w0).alloc (.cells #[.slice KA C.keep.length kc, .int .i64 C.torn, .int .i64 C.at_] 41)
  obtain ⟨wa, hwa⟩ : ∃ wa, w0.alloc (.cells #[.slice KA C.keep.length kc, .int .i64 C.torn, .int .i64 C.at_] 41) = wa := ⟨_, rfl⟩
  rw [hwa] at hxa hbox0
  have HWA := Lib.hid hwa
  have h := RsM.kept h (.of_ext hxa)
  have h2 := RsM.kept h2 (.of_ext hxa)
  have hK := hK.ext hxa
  have HB := begun_any wa
  generalize hbe : w0.heap.size = bx at *
  have HBE := Lib.hid hbe
  have HXA := Lib.hid hxa
  have HBX := Lib.hid hbox0
  clear hwa hbe hxa hbox0
  go_enter Try.func4, Try.ntmps4
  go_upto_region 1 with fail
  rw [HWA.out, HBE.out]
  go_wp2_with fail
  refine HB.mono ?_
  rintro e w1 ⟨P, rfl, hrun⟩
  clear HB HWA HBE
  have HR1 := Lib.hid hrun
  clear hrun
  unfold pt
  go_wp2
  go_loopw [9] (fun i wr => ∃ (k : Nat) (x : Rs), k ≤ l.length ∧ k ≤ 60 ∧ i = .int .i64 k ∧ Hid (RunM wa wr P x) ∧ Hid (RunP 1 9 lvA.2.1.sure (5000 + 300 * k) x) ∧ Hid (x.s.sure.length = 23)) (fun i _ => 60 - (intOf i).toNat)
  case atStart => exact ⟨0, rs0, by omega, by omega, rfl, HR1, Lib.hid rs0_run, Lib.hid lvA_slen⟩
  case round =>
    obtain ⟨k, x, hk1, hk2, rfl, HR, HG, HL⟩ := hrel
    clear HR1
    have hxr : Ext wa wr := by obtain ⟨M, N, p, q, v, vs, hI⟩ := HR.out; exact hI.ex
    by_cases hlt : k < l.length ∧ k < 60
    · obtain ⟨hlt, hlt2⟩ := hlt
      obtain ⟨ad, A1, c1, A2, c2, A3, c3, rfl, hd, E0, E1, E2, E3, E4, E5, E6⟩ := h.wdeed7 hlt
      have hlt3 : (k : Int) < 60 := by omega
      have hlt4 : (k : Int) < l.length := by omega
      have e0 := E0 _ hxr
      have e1 := E1 _ hxr
      have e2 := E2 _ hxr
      have e3 := E3 _ hxr
      have e4 := E4 _ hxr
      have e5 := E5 _ hxr
      have e6 := E6 _ hxr
      have HD := wstep_any HR.out HG.out.good (by omega) l[k] A1 c1 A2 c2 A3 c3 hd
      have HGN := Lib.hid (HG.out.step l[k])
      have HLN : Hid ((stepR x l[k]).s.sure.length = 23) := Lib.hid (by rw [stepR_len]; exact HL.out)
      unfold pt dec at HD
      generalize l[k] = cc at *
      clear E0 E1 E2 E3 E4 E5 E6 hd
      go_wp2_with fail
      refine HD.mono ?_
      rintro e w3 ⟨rfl, hr3⟩
      go_wp2
      go_roundw
      case rel => exact ⟨k + 1, _, by omega, by omega, by go_num, Lib.hid hr3, Lib.hid (by rw [show 5000 + 300 * (k + 1) = 5000 + 300 * k + 300 by omega]; exact HGN.out), HLN⟩
      case measure => simp [intOf]; omega
    · have hpre : ¬ (k : Int) < l.length ∨ ((k : Int) < l.length ∧ ¬ (k : Int) < 60) := by omega
      obtain ⟨M, N, p, q, v, vs, hI⟩ := HR.out
      obtain ⟨D, hcl, hpf, hsu⟩ := crash_reads HG.out HL.out lvA_heads.1 lvA_heads.2 C
      obtain ⟨s, g, all, sure⟩ := x
      have hI : RunI M N wa wr P p q s g all sure v vs := hI
      have hgd : Gd (5000 + 300 * k) s g := HG.out.good.gd
      have hpf : (readF D).1 <+: all := hpf
      have hsu : sure ≤ (readF D).1.length := hsu
      have hcl : Cl 0 (crashed s C) D := hcl
      obtain ⟨B, Ag, cg, vg, vsg, hS⟩ := hI.sys
      have hBn : ∀ k ∈ B, wa.heap.size ≤ k := fun k hk => hI.new k (hS.MN k (hS.BM k hk))
      have HOP := fun V (hx : Ext wr V) => opened_any N (hS.disk.ext hx) hgd.ok hgd.few (by omega) C KA kc (SlM.kept (SlM.old (SlM.of_sl hK) fun k hk => .inr (hBn k hk)) (.of_ext (hxr.trans hx))) hkl hcl (hxr.trans hx) hBn A2 c2 l2 h2 hll2 (fun k hk => Nat.lt_of_lt_of_le (hI.lt k hk) hx.size)
      have hrl : all.length ≤ 23000 := by have h7 : g.recs = all := HG.out.good.all; have := hgd.rl; rw [h7] at this; omega
      have HI := Lib.hid hI
      have HBM := Lib.hid hS.BM
      have HPF := Lib.hid hpf
      have HSU := Lib.hid hsu
      generalize (readF D).1 = got at *
      obtain ⟨Av, cv, rfl⟩ := own_form hI.own
      have C0 : ∀ V, Ext wr V → V.cell? ⟨P, 0, none⟩ = some (pt p) := fun V hx => (row4_at (HI.out.ext hx).row).1
      have K0 : ∀ V, Ext wr V → V.cell? ⟨bx, 0, none⟩ = some (.slice KA C.keep.length kc) := fun V hx => (row3_at ((hxr.trans hx).obj HBX.out)).1
      have K1 : ∀ V, Ext wr V → V.cell? ⟨bx, 1, none⟩ = some (.int .i64 C.torn) := fun V hx => (row3_at ((hxr.trans hx).obj HBX.out)).2.1
      have K2 : ∀ V, Ext wr V → V.cell? ⟨bx, 2, none⟩ = some (.int .i64 C.at_) := fun V hx => (row3_at ((hxr.trans hx).obj HBX.out)).2.2.1
      have HXR := Lib.hid hxr
      clear hI hS hcl hBn HR HG HL hlt hk1 hk2 h h2 hK hxr hpf hsu hgd
      unfold pt at *
      rcases hpre with h5 | ⟨h5, h6⟩
      all_goals
        go_wp2_with fail
        refine wp_region_phase (S := fun V => Ext wr V) 6 (by kernel_rfl) (by kernel_rfl) ?_ (fun hHeld => ?_)
        · exact (Ext.refl wr).drew
        simp only [List.drop_succ_cons, List.drop_zero]
        refine name_head ?_
        intro wr0 hw0
        rw [hw0] at hHeld
        refine wpHead_take (i := 0) (v := ?_) (by rfl) (by kernel_rfl) (by kernel_rfl) (by exact fun _ _ _ h => h) (Or.inl ⟨by rfl, ?_⟩) (by assumption) ?_
        rotate_left
        · intro w hSw
          first | (go_simp; done) | (go_simp; with_reducible rfl)
        simp only [List.getElem_toArray, List.getElem_cons_zero, Act.put, List.setIfInBounds_toArray, List.set_cons_zero, List.set_cons_succ]
        refine wpHead_take (i := 1) (v := ?_) (by rfl) (by kernel_rfl) (by kernel_rfl) (by exact fun _ _ _ h => h) (Or.inl ⟨by rfl, ?_⟩) (by assumption) ?_
        rotate_left
        · intro w hSw
          first | (go_simp; done) | (go_simp; with_reducible rfl)
        simp only [List.getElem_toArray, List.getElem_cons_succ, List.getElem_cons_zero, Act.put, List.setIfInBounds_toArray, List.set_cons_zero, List.set_cons_succ]
        refine wpHead_take (i := 2) (v := ?_) (by rfl) (by kernel_rfl) (by kernel_rfl) (by exact fun _ _ _ h => h) (Or.inl ⟨by rfl, ?_⟩) (by assumption) ?_
        rotate_left
        · intro w hSw
          first | (go_simp; done) | (go_simp; with_reducible rfl)
        simp only [List.getElem_toArray, List.getElem_cons_succ, List.getElem_cons_zero, Act.put, List.setIfInBounds_toArray, List.set_cons_zero, List.set_cons_succ]
        refine wpHead_take (i := 3) (v := ?_) (by rfl) (by kernel_rfl) (by kernel_rfl) (by exact fun _ _ _ h => h) (Or.inl ⟨by rfl, ?_⟩) (by assumption) ?_
        rotate_left
        · intro w hSw
          first | (go_simp; done) | (go_simp; with_reducible rfl)
        simp only [List.getElem_toArray, List.getElem_cons_succ, List.getElem_cons_zero, Act.put, List.setIfInBounds_toArray, List.set_cons_zero, List.set_cons_succ]
        refine wpHead_take (i := 4) (v := ?_) (by rfl) (by kernel_rfl) (by kernel_rfl) (by exact fun _ _ _ h => h) (Or.inl ⟨by rfl, ?_⟩) (by assumption) ?_
        rotate_left
        · intro w hSw
          first | (go_simp; done) | (go_simp; with_reducible rfl)
        simp only [List.getElem_toArray, List.getElem_cons_succ, List.getElem_cons_zero, Act.put, List.setIfInBounds_toArray, List.set_cons_zero, List.set_cons_succ]
        refine wpHead_take (i := 5) (v := ?_) (by rfl) (by kernel_rfl) (by kernel_rfl) (by exact fun _ _ _ h => h) (Or.inl ⟨by rfl, ?_⟩) (by assumption) ?_
        rotate_left
        · intro w hSw
          first | (go_simp; done) | (go_simp; with_reducible rfl)
        simp only [List.getElem_toArray, List.getElem_cons_succ, List.getElem_cons_zero, Act.put, List.setIfInBounds_toArray, List.set_cons_zero, List.set_cons_succ]
        refine wpHead_done (by kernel_rfl) ?_
        have HO := HOP _ hHeld
        have hxv := hHeld
        clear HOP C0 K0 K1 K2 hHeld
        go_wp2_with fail
        refine HO.mono ?_
        rintro e w2 ⟨q2, M2, s2, g2, rfl, hs2, hr2, ht2, hg2⟩
        clear HO
        obtain ⟨B2, A3, c3, v3, vs3, hI2⟩ := hs2
        have hkM : Kept M wr w2 := (Kept.of_ext hxv).trans (ht2.kept.mono HBM.out)
        obtain ⟨hrow2, -, -⟩ := HI.out.behind hkM
        have hgl := HPF.out.length_le
        have hge := HSU.out
        have HRC := wrecords_any hI2 (by have := hg2.rl; omega) (fun r hr => by have := hg2.rs r hr; omega)
        rw [hr2] at HRC
        obtain ⟨A5, hsl, hbs⟩ := HI.out.cut hgl
        have HGT : Hid (got = all.take got.length) := Lib.hid (List.prefix_iff_eq_take.1 HPF.out)
        have HROW2 := Lib.hid hrow2
        have HBS := Lib.hid hbs
        have HKM := Lib.hid hkM
        have HX2 : Hid (Ext w0 w2) := Lib.hid (HXA.out.trans (HXR.out.kept hkM fun k hk => HI.out.new k (HI.out.sys.MN k hk)))
        clear hI2 hkM hrow2 hr2 ht2 hg2 hbs hxv HSU HPF
        unfold pt at *
        go_wp2_with fail
        refine HRC.mono ?_
        rintro e w3 ⟨v4, rfl, ho4, hx4⟩
        obtain ⟨A4, c4, rfl⟩ := ho4.form
        clear HRC
        have HO4 := Lib.hid ho4
        have HX4 := Lib.hid hx4
        clear ho4 hx4
        have HLV := live_any w3
        go_wp2_with fail
        refine HLV.mono ?_
        rintro e w5 ⟨rfl, hx5⟩
        clear HLV
        obtain ⟨-, -, r2, r3, -⟩ := row4_at ((HX4.out.trans hx5).obj HROW2.out)
        have hgeI : (sure : Int) ≤ (got.length : Int) := by omega
        have hglI : (got.length : Int) ≤ (all.length : Int) := by omega
        have HSM := RSame_any A4 A5 c4 cv got.length got.length got (all.take got.length) w5 (HO4.out.ext hx5).bss (HBS.out w5 (HKM.out.ext (HX4.out.trans hx5))) rfl (by simp; omega) (by omega)
        rw [← HGT.out] at HSM
        have HX5 := Lib.hid (HX2.out.trans (HX4.out.trans hx5))
        have hdd : decide (got = got) = true := decide_eq_true rfl
        clear hx5 HX4 HX2 HO4 HBS HGT HROW2 HKM
        unfold pt at *
        go_wp2_with fail
        refine HSM.mono ?_
        rintro e w6 ⟨rfl, hx6⟩
        rw [hdd]
        have HX6 := Lib.hid (HX5.out.trans hx6)
        clear HSM hx6
        go_wp2
        go_ret
        exact ⟨rfl, HX6.out⟩
end Go.Proofs.Ytklodimokhndoaa
