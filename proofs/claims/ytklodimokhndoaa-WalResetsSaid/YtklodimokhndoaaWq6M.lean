/- The walk of the law WalResets. Conditions: the hypotheses of each theorem. -/
import Derived.Test.YtklodimokhndoaaC8
namespace Go.Proofs.Ytklodimokhndoaa
open Go.RowKit
theorem box7_at {w : World} {b t : Nat} {c0 c1 c2 c3 c4 c5 c6 : Value} (h : w.heap[b]? = some (.cells #[c0, c1, c2, c3, c4, c5, c6] t (0, 0))) : w.cell? ⟨b, 1, none⟩ = some c1 ∧ w.cell? ⟨b, 3, none⟩ = some c3 ∧ w.cell? ⟨b, 4, none⟩ = some c4 ∧ w.cell? ⟨b, 5, none⟩ = some c5 ∧ w.cell? ⟨b, 6, none⟩ = some c6 := by
  refine ⟨?_, ?_, ?_, ?_, ?_⟩ <;> simp [World.cell?, h]
def cut30 (n : Int) : Int := wrap64 ((IntKind.u64.wrap n).tmod 30)
theorem cut30_le (n : Int) : cut30 n ≤ 9223372036854775807 := by
  have e : IntKind.u64.wrap n = n % 18446744073709551616 := by
    simp only [IntKind.wrap, IntKind.bits, IntKind.signed]
    simp
  unfold cut30
  rw [e, Int.tmod_eq_emod_of_nonneg (by omega), IntWalk.wrap64_in _ ⟨by omega, by omega⟩]
  omega
set_option maxRecDepth 20000 in
set_option maxHeartbeats 20000000 in
theorem WalResets_any (A : Option Addr) (c : Nat) (l : List WDe) (d : WDe) (KA1 : Option Addr) (kc1 : Nat) (KA2 : Option Addr) (kc2 : Nat) (KA3 : Option Addr) (kc3 : Nat) (A2 : Option Addr) (c2 : Nat) (l2 : List WDe) (w0 : World) (h : RsM RWDe 7 [] w0 A l) (hll : l.length ≤ 1000000000000000)
    (hd : WDeR [] w0 d KA1 kc1 KA2 kc2 KA3) (h2 : RsM RWDe 7 [] w0 A2 l2) (hll2 : l2.length ≤ 1000000000000000) :
    Calls Try.prog 6 #[.slice A l.length c, .agg (dec d KA1 kc1 KA2 kc2 KA3 kc3).toArray, .slice A2 l2.length c2] w0 fun e w' => e = .returned (.bool true) ∧ Ext w0 w' := by
  obtain ⟨do_, dn, by_, recs, C⟩ := d
  simp only [dec] at *
  have hbox0 := heap_alloc_new w0 (.cells #[.int .i64 do_, .int .i64 dn, .slice KA1 by_.length kc1, .slice KA2 recs.length kc2, .slice KA3 C.keep.length kc3, .int .i64 C.torn, .int .i64 C.at_] 49)
  have hxa := (Ext.refl w0).alloc (.cells #[.int .i64 do_, .int .i64 dn, .slice KA1 by_.length kc1, .slice KA2 recs.length kc2, .slice KA3 C.keep.length kc3, .int .i64 C.torn, .int .i64 C.at_] 49)
  obtain ⟨wa, hwa⟩ : ∃ wa, w0.alloc (.cells #[.int .i64 do_, .int .i64 dn, .slice KA1 by_.length kc1, .slice KA2 recs.length kc2, .slice KA3 C.keep.length kc3, .int .i64 C.torn, .int .i64 C.at_] 49) = wa := ⟨_, rfl⟩
  rw [hwa] at hxa hbox0
  have HWA := Lib.hid hwa
  have h := RsM.kept h (.of_ext hxa)
  have h2 := RsM.kept h2 (.of_ext hxa)
  have hd := hd.kept (.of_ext hxa)
  have HRC : Hid (RsM RRec 1 [] wa KA2 recs) := Lib.hid hd.recs
  have hrl : recs.length * 24 ≤ 140737488355328 := hd.rl
  have hkl : C.keep.length ≤ 140737488351232 := hd.kl
  have HKP : Hid (SlM [] wa KA3 (bo C.keep)) := Lib.hid hd.keep
  have HB := begun_any wa
  generalize hbe : w0.heap.size = bx at *
  have HBE := Lib.hid hbe
  have HXA := Lib.hid hxa
  have HBX := Lib.hid hbox0
  clear hwa hbe hxa hbox0 hd
  go_enter Try.func6, Try.ntmps6
  go_upto_region 1 with fail
  rw [HWA.out, HBE.out]
  go_wp2_with fail
  refine HB.mono ?_
  rintro e w1 ⟨P, rfl, hrun⟩
  clear HB HWA HBE
  have HR1 := Lib.hid hrun
  clear hrun
  unfold pt
  go_wp2
  go_loopw [9] (fun i wr => ∃ (k : Nat) (x : Rs), k ≤ l.length ∧ k ≤ 40 ∧ i = .int .i64 k ∧ Hid (RunM wa wr P x) ∧ Hid (RunP 1 9 lvA.2.1.sure (5000 + 300 * k) x) ∧ Hid (x.s.sure.length = 23 ∧ x.s.Up ∧ x.g.gen = 1)) (fun i _ => 40 - (intOf i).toNat)
  case atStart => exact ⟨0, rs0, by omega, by omega, rfl, HR1, Lib.hid rs0_run, Lib.hid ⟨lvA_slen, rs0_up, rs0_gen⟩⟩
  case round =>
    obtain ⟨k, x, hk1, hk2, rfl, HR, HG, HL⟩ := hrel
    clear HR1
    have hxr : Ext wa wr := by obtain ⟨M, N, p, q, v, vs, hI⟩ := HR.out; exact hI.ex
    by_cases hlt : k < l.length ∧ k < 40
    · obtain ⟨hlt, hlt2⟩ := hlt
      obtain ⟨ad, A1, c1, A2, c2, A3, c3, rfl, hd, E0, E1, E2, E3, E4, E5, E6⟩ := h.wdeed7 hlt
      have hlt3 : (k : Int) < 40 := by omega
      have hlt4 : (k : Int) < l.length := by omega
      have e0 := E0 _ hxr
      have e1 := E1 _ hxr
      have e2 := E2 _ hxr
      have e3 := E3 _ hxr
      have e4 := E4 _ hxr
      have e5 := E5 _ hxr
      have e6 := E6 _ hxr
      have HD := wstep_any HR.out HG.out.good (by omega) l[k] A1 c1 A2 c2 A3 c3 hd
      have HGN := Lib.hid (HG.out.step l[k])
      have HLN : Hid (l[k].do_ ≠ 3 → (stepR x l[k]).s.sure.length = 23 ∧ (stepR x l[k]).s.Up ∧ (stepR x l[k]).g.gen = 1) := Lib.hid fun he => ⟨by rw [stepR_len]; exact HL.out.1, stepR_up HG.out.good HL.out.2.1 he, by rw [stepR_gen]; exact HL.out.2.2⟩
      unfold pt dec at HD
      generalize l[k] = cc at *
      clear E0 E1 E2 E3 E4 E5 E6 hd
      by_cases h3 : cc.do_ = 3
      · have z3 : (cc.do_ != 3) = false := by simp [h3]
        have HG3 : Hid (RunP 1 9 lvA.2.1.sure (5000 + 300 * (k + 1)) x) := Lib.hid ⟨⟨HG.out.good.gd.mono (by omega), HG.out.good.age, HG.out.good.all, HG.out.good.sure⟩, HG.out.at_, HG.out.size, HG.out.st⟩
        clear HD HGN HLN
        go_wp2
        go_roundw
        case rel => exact ⟨k + 1, x, by omega, by omega, by go_num, HR, HG3, HL⟩
        case measure => simp [intOf]; omega
      · have z3 : (cc.do_ != 3) = true := by simpa using h3
        go_wp2_with fail
        refine HD.mono ?_
        rintro e w3 ⟨rfl, hr3⟩
        go_wp2
        go_roundw
        case rel => exact ⟨k + 1, _, by omega, by omega, by go_num, Lib.hid hr3, Lib.hid (by rw [show 5000 + 300 * (k + 1) = 5000 + 300 * k + 300 by omega]; exact HGN.out), Lib.hid (HLN.out h3)⟩
        case measure => simp [intOf]; omega
    · have hpre : ¬ (k : Int) < l.length ∨ ((k : Int) < l.length ∧ ¬ (k : Int) < 40) := by omega
      obtain ⟨M, N, p, q, v, vs, hI⟩ := HR.out
      obtain ⟨ff1, ff2, ff3, ff4⟩ := force_fl HG.out HL.out.2.1 HL.out.1 lvA_heads.1 lvA_p11 (cut30 dn)
      obtain ⟨s, g, all, sure⟩ := x
      have hI : RunI M N wa wr P p q s g all sure v vs := hI
      have hgd : Gd (5000 + 300 * k) s g := HG.out.good.gd
      have HFE : Hid (forceE s g = 0) := Lib.hid ff1
      have HFL : Hid (Fl (cutS (forceS s g) (cut30 dn)) g.space) := Lib.hid ff2
      have HSP : Hid (g.space = layA [] all) := Lib.hid ff3
      have HOK : Hid (∀ r ∈ all, RecOk r) := Lib.hid ff4
      have hage : g.age = s.age := HG.out.good.age
      have HAT : Hid (g.at_ (1 - g.half) = 11) := Lib.hid (at_other HG.out.at_ HG.out.size HG.out.good.gd.fit.half)
      have HSZ : Hid (g.size - 1 = 9) := Lib.hid HG.out.size
      have HGN : Hid (g.gen = 1) := Lib.hid HL.out.2.2
      have hra : g.recs = all := HG.out.good.all
      have HRA := Lib.hid hra
      have HF := wforce_sys hI.sys hgd.ok hgd.few (by omega)
      rw [ff1] at HF
      have HGD1 := Lib.hid (forceS_gd hgd)
      have HAG1 : Hid (g.age = (forceS s g).age) := Lib.hid (by rw [forceS_age]; exact hage)
      have hal : all.length ≤ 17000 := by have := hgd.rl; rw [hra] at this; omega
      have HI := Lib.hid hI
      have HXR := Lib.hid hxr
      obtain ⟨-, r1, -, -, -⟩ := row4_at hI.row
      clear hI hgd ff1 ff2 ff3 ff4 hra hage HR HG HL hlt hk1 h
      unfold pt at *
      go_upto_region 5 with fail
      go_cut [27] from 20 to 27 (fun s wx => s = .bool false ∧ wr = wx)
      case first =>
        rcases hpre with h5 | ⟨h5, h6⟩
        · go_wp2_with fail
          go_meet
          exact ⟨rfl, rfl⟩
        · go_wp2_with fail
          go_meet
          exact ⟨rfl, rfl⟩
      case rest =>
        obtain ⟨rfl, rfl⟩ := hcut
        clear hpre
        go_wp2_with fail
        refine HF.mono ?_
        rintro e w2 ⟨rfl, ha2⟩
        clear HF r1
        obtain ⟨M2, N2, hR2⟩ := HI.out.aft ha2
        have HR2 := Lib.hid hR2
        obtain ⟨-, r1, -, -, -⟩ := row4_at hR2.row
        obtain ⟨B2, Ag2, cg2, vg2, vsg2, hS2⟩ := hR2.sys
        have HRC2 := wrecords_any hS2 (by rw [HRA.out]; omega) (fun r hr => by rw [HRA.out] at hr; exact Nat.le_trans (HOK.out r hr).2 (by omega))
        rw [HRA.out] at HRC2
        clear ha2 hR2 hS2 HI
        unfold pt at *
        go_wp2_with fail
        refine HRC2.mono ?_
        rintro e w3 ⟨v3, rfl, ho3, hx3⟩
        clear HRC2 r1
        obtain ⟨A9, c9, rfl⟩ := ho3.form
        have HK3 := Lib.hid (ho3.bsk (N := N2) HR2.out.lt)
        have hR3 := HR2.out.ext hx3
        have HR3 := Lib.hid hR3
        clear ho3 hx3 HR2
        have C0 : ∀ V, Ext w3 V → V.cell? ⟨P, 0, none⟩ = some (pt p) := fun V hx => (row4_at (HR3.out.ext hx).row).1
        have D1 : ∀ V, Ext w3 V → V.cell? ⟨bx, 1, none⟩ = some (.int .i64 dn) := fun V hx => (box7_at ((hR3.ex.trans hx).obj HBX.out)).1
        have HCU := fun V (hx : Ext w3 V) => wcut_sys (HR3.out.ext hx).sys HGD1.out.ok (cut30 dn)
        clear hR3
        unfold cut30 at HCU
        unfold pt at *
        go_wp2_with fail
        refine wp_region_phase (S := fun V => Ext w3 V) 9 (by kernel_rfl) (by kernel_rfl) ?_ (fun hHeld => ?_)
        · exact (Ext.refl w3).drew
        simp only [List.drop_succ_cons, List.drop_zero]
        refine name_head ?_
        intro wr0 hw0
        rw [hw0] at hHeld
        refine wpHead_take (i := 0) (v := ?_) (by rfl) (by kernel_rfl) (by kernel_rfl) (by exact fun _ _ _ h => h) (Or.inl ⟨by rfl, ?_⟩) (by assumption) ?_
        rotate_left
        · intro w hSw
          first | (go_simp; done) | (go_simp; with_reducible rfl)
        simp only [List.getElem_toArray, List.getElem_cons_zero, Act.put, List.setIfInBounds_toArray, List.set_cons_zero, List.set_cons_succ]
        refine wpHead_take (i := 1) (v := ?_) (by rfl) (by kernel_rfl) (by kernel_rfl) (by exact fun _ _ _ h => h) (Or.inl ⟨by rfl, ?_⟩) (by assumption) ?_
        rotate_left
        · intro w hSw
          first | (go_simp; done) | (go_simp; with_reducible rfl)
        simp only [List.getElem_toArray, List.getElem_cons_succ, List.getElem_cons_zero, Act.put, List.setIfInBounds_toArray, List.set_cons_zero, List.set_cons_succ]
        refine wpHead_take (i := 2) (v := ?_) (by rfl) (by kernel_rfl) (by kernel_rfl) (by exact fun _ _ _ h => h) (Or.inl ⟨by rfl, ?_⟩) (by assumption) ?_
        rotate_left
        · intro w hSw
          first | (go_simp; done) | (go_simp; with_reducible rfl)
        simp only [List.getElem_toArray, List.getElem_cons_succ, List.getElem_cons_zero, Act.put, List.setIfInBounds_toArray, List.set_cons_zero, List.set_cons_succ]
        refine wpHead_take (i := 3) (v := ?_) (by rfl) (by kernel_rfl) (by kernel_rfl) (by exact fun _ _ _ h => h) (Or.inl ⟨by rfl, ?_⟩) (by assumption) ?_
        rotate_left
        · intro w hSw
          first | (go_simp; done) | (go_simp; with_reducible rfl)
        simp only [List.getElem_toArray, List.getElem_cons_succ, List.getElem_cons_zero, Act.put, List.setIfInBounds_toArray, List.set_cons_zero, List.set_cons_succ]
        refine wpHead_take (i := 4) (v := ?_) (by rfl) (by kernel_rfl) (by kernel_rfl) (by exact fun _ _ _ h => h) (Or.inl ⟨by rfl, ?_⟩) (by assumption) ?_
        rotate_left
        · intro w hSw
          first | (go_simp; done) | (go_simp; with_reducible rfl)
        simp only [List.getElem_toArray, List.getElem_cons_succ, List.getElem_cons_zero, Act.put, List.setIfInBounds_toArray, List.set_cons_zero, List.set_cons_succ]
        refine wpHead_take (i := 5) (v := ?_) (by rfl) (by kernel_rfl) (by kernel_rfl) (by exact fun _ _ _ h => h) (Or.inl ⟨by rfl, ?_⟩) (by assumption) ?_
        rotate_left
        · intro w hSw
          first | (go_simp; done) | (go_simp; with_reducible rfl)
        simp only [List.getElem_toArray, List.getElem_cons_succ, List.getElem_cons_zero, Act.put, List.setIfInBounds_toArray, List.set_cons_zero, List.set_cons_succ]
        refine wpHead_take (i := 6) (v := ?_) (by rfl) (by kernel_rfl) (by kernel_rfl) (by exact fun _ _ _ h => h) (Or.inl ⟨by rfl, ?_⟩) (by assumption) ?_
        rotate_left
        · intro w hSw
          first | (go_simp; done) | (go_simp; with_reducible rfl)
        simp only [List.getElem_toArray, List.getElem_cons_succ, List.getElem_cons_zero, Act.put, List.setIfInBounds_toArray, List.set_cons_zero, List.set_cons_succ]
        refine wpHead_take (i := 7) (v := ?_) (by rfl) (by kernel_rfl) (by kernel_rfl) (by exact fun _ _ _ h => h) (Or.inl ⟨by rfl, ?_⟩) (by assumption) ?_
        rotate_left
        · intro w hSw
          first | (go_simp; done) | (go_simp; with_reducible rfl)
        simp only [List.getElem_toArray, List.getElem_cons_succ, List.getElem_cons_zero, Act.put, List.setIfInBounds_toArray, List.set_cons_zero, List.set_cons_succ]
        refine wpHead_take (i := 8) (v := ?_) (by rfl) (by kernel_rfl) (by kernel_rfl) (by exact fun _ _ _ h => h) (Or.inl ⟨by rfl, ?_⟩) (by assumption) ?_
        rotate_left
        · intro w hSw
          first | (go_simp; done) | (go_simp; with_reducible rfl)
        simp only [List.getElem_toArray, List.getElem_cons_succ, List.getElem_cons_zero, Act.put, List.setIfInBounds_toArray, List.set_cons_zero, List.set_cons_succ]
        refine wpHead_done (by kernel_rfl) ?_
        have HCU := HCU _ hHeld
        have hR3 := HR3.out.ext hHeld
        have hK3 := HK3.out.kept (.of_ext hHeld)
        clear C0 D1 hHeld
        go_wp2_with fail
        refine HCU.mono ?_
        rintro e w4 ⟨rfl, ha4⟩
        clear HCU
        obtain ⟨M4, N4, hR4, hK4⟩ := hR3.aftK hK3 ha4
        rw [show wrap64 ((IntKind.u64.wrap dn).tmod 30) = cut30 dn from rfl] at hR4
        have HR4 := Lib.hid hR4
        have HK4 := Lib.hid hK4
        have HGD4 := Lib.hid (cutS_gd HGD1.out (cut30_le dn))
        have HAG4 : Hid (g.age = (cutS (forceS s g) (cut30 dn)).age) := Lib.hid (by rw [cutS_age]; exact HAG1.out)
        clear ha4 hR4 hK4 hR3 hK3 HR3 HK3
        generalize hs4 : cutS (forceS s g) (cut30 dn) = s4 at *
        clear hs4
        have hrc := reset_crash HFL.out HSP.out HOK.out HAG4.out HAT.out HSZ.out HGN.out recs C
        have HRO := Lib.hid (resetR_ok HGD4.out recs)
        have HRE := Lib.hid (resetR_recs HGD4.out recs)
        have HRS := fun V (hx : Ext w4 V) => wreset_any (HR4.out.ext hx).sys HGD4.out (by omega) (by rw [HGN.out]; omega) (by rw [HAT.out, readS_sure HFL.out.waits]; exact HFL.out.h11) (HR4.out.ext hx).ex (fun k hk => HR4.out.new k hk) KA2 kc2 recs HRC.out hrl
        have HRC4 := Lib.hid hrc
        have C1 : ∀ V, Ext w4 V → V.cell? ⟨P, 1, none⟩ = some (pt q) := fun V hx => (row4_at (HR4.out.ext hx).row).2.1
        have D3 : ∀ V, Ext w4 V → V.cell? ⟨bx, 3, none⟩ = some (.slice KA2 recs.length kc2) := fun V hx => (box7_at ((HR4.out.ex.trans hx).obj HBX.out)).2.1
        clear hrc HFL HSP HAT HSZ HGN HAG4 HAG1 HGD1 HFE
        unfold pt at *
        go_wp2_with fail
        refine wp_region_phase (S := fun V => Ext w4 V) 6 (by kernel_rfl) (by kernel_rfl) ?_ (fun hHeld => ?_)
        · exact (Ext.refl w4).drew
        simp only [List.drop_succ_cons, List.drop_zero]
        refine name_head ?_
        intro wr0 hw0
        rw [hw0] at hHeld
        refine wpHead_take (i := 0) (v := ?_) (by rfl) (by kernel_rfl) (by kernel_rfl) (by exact fun _ _ _ h => h) (Or.inl ⟨by rfl, ?_⟩) (by assumption) ?_
        rotate_left
        · intro w hSw
          first | (go_simp; done) | (go_simp; with_reducible rfl)
        simp only [List.getElem_toArray, List.getElem_cons_zero, Act.put, List.setIfInBounds_toArray, List.set_cons_zero, List.set_cons_succ]
        refine wpHead_take (i := 1) (v := ?_) (by rfl) (by kernel_rfl) (by kernel_rfl) (by exact fun _ _ _ h => h) (Or.inl ⟨by rfl, ?_⟩) (by assumption) ?_
        rotate_left
        · intro w hSw
          first | (go_simp; done) | (go_simp; with_reducible rfl)
        simp only [List.getElem_toArray, List.getElem_cons_succ, List.getElem_cons_zero, Act.put, List.setIfInBounds_toArray, List.set_cons_zero, List.set_cons_succ]
        refine wpHead_take (i := 2) (v := ?_) (by rfl) (by kernel_rfl) (by kernel_rfl) (by exact fun _ _ _ h => h) (Or.inl ⟨by rfl, ?_⟩) (by assumption) ?_
        rotate_left
        · intro w hSw
          first | (go_simp; done) | (go_simp; with_reducible rfl)
        simp only [List.getElem_toArray, List.getElem_cons_succ, List.getElem_cons_zero, Act.put, List.setIfInBounds_toArray, List.set_cons_zero, List.set_cons_succ]
        refine wpHead_take (i := 3) (v := ?_) (by rfl) (by kernel_rfl) (by kernel_rfl) (by exact fun _ _ _ h => h) (Or.inl ⟨by rfl, ?_⟩) (by assumption) ?_
        rotate_left
        · intro w hSw
          first | (go_simp; done) | (go_simp; with_reducible rfl)
        simp only [List.getElem_toArray, List.getElem_cons_succ, List.getElem_cons_zero, Act.put, List.setIfInBounds_toArray, List.set_cons_zero, List.set_cons_succ]
        refine wpHead_take (i := 4) (v := ?_) (by rfl) (by kernel_rfl) (by kernel_rfl) (by exact fun _ _ _ h => h) (Or.inl ⟨by rfl, ?_⟩) (by assumption) ?_
        rotate_left
        · intro w hSw
          first | (go_simp; done) | (go_simp; with_reducible rfl)
        simp only [List.getElem_toArray, List.getElem_cons_succ, List.getElem_cons_zero, Act.put, List.setIfInBounds_toArray, List.set_cons_zero, List.set_cons_succ]
        refine wpHead_take (i := 5) (v := ?_) (by rfl) (by kernel_rfl) (by kernel_rfl) (by exact fun _ _ _ h => h) (Or.inl ⟨by rfl, ?_⟩) (by assumption) ?_
        rotate_left
        · intro w hSw
          first | (go_simp; done) | (go_simp; with_reducible rfl)
        simp only [List.getElem_toArray, List.getElem_cons_succ, List.getElem_cons_zero, Act.put, List.setIfInBounds_toArray, List.set_cons_zero, List.set_cons_succ]
        refine wpHead_done (by kernel_rfl) ?_
        have HRS := HRS _ hHeld
        have hR4 := HR4.out.ext hHeld
        have hK4 := HK4.out.kept (.of_ext hHeld)
        clear C1 D3 hHeld
        generalize resetR s4 g recs = rr at *
        obtain ⟨e5, s5, g5⟩ := rr
        simp only at HRS HRO HRE HRC4
        go_wp2_with fail
        refine HRS.mono ?_
        rintro e w5 ⟨rfl, ha5⟩
        clear HRS
        obtain ⟨M5, N5, hR5, hK5⟩ := hR4.aftK hK4 ha5
        have HR5 := Lib.hid hR5
        have HK5 := Lib.hid hK5
        clear ha5 hR5 hK5 hR4 hK4 HR4 HK4
        obtain ⟨kk, D, hcl, hcases⟩ := HRC4.out
        have HCL := Lib.hid hcl
        clear hcl HRC4
        obtain ⟨B5, Ag5, cg5, vg5, vsg5, hS5⟩ := HR5.out.sys
        have hBn : ∀ k ∈ B5, wa.heap.size ≤ k := fun k hk => HR5.out.new k (hS5.MN k (hS5.BM k hk))
        have HBM := Lib.hid hS5.BM
        have HOP := fun V (hx : Ext w5 V) => opened_any N5 (hS5.disk.ext hx) HRO.out.1 HRO.out.2 (by omega) C KA3 kc3 (SlM.kept (SlM.old HKP.out fun k hk => .inr (hBn k hk)) (.of_ext (HR5.out.ex.trans hx))) (by omega) HCL.out (HR5.out.ex.trans hx) hBn A2 c2 l2 h2 hll2 (fun k hk => Nat.lt_of_lt_of_le (HR5.out.lt k hk) hx.size)
        have HRC5 := fun V (hx : Ext w5 V) => wrecords_any (hS5.ext hx) (by have := HRE.out.1; omega) (fun r hr => by have := HRE.out.2 r hr; omega)
        have C0 : ∀ V, Ext w5 V → V.cell? ⟨P, 0, none⟩ = some (pt p) := fun V hx => (row4_at (HR5.out.ext hx).row).1
        have C1 : ∀ V, Ext w5 V → V.cell? ⟨P, 1, none⟩ = some (pt q) := fun V hx => (row4_at (HR5.out.ext hx).row).2.1
        have D3 : ∀ V, Ext w5 V → V.cell? ⟨bx, 3, none⟩ = some (.slice KA2 recs.length kc2) := fun V hx => (box7_at ((HR5.out.ex.trans hx).obj HBX.out)).2.1
        have K4 : ∀ V, Ext w5 V → V.cell? ⟨bx, 4, none⟩ = some (.slice KA3 C.keep.length kc3) := fun V hx => (box7_at ((HR5.out.ex.trans hx).obj HBX.out)).2.2.1
        have K5 : ∀ V, Ext w5 V → V.cell? ⟨bx, 5, none⟩ = some (.int .i64 C.torn) := fun V hx => (box7_at ((HR5.out.ex.trans hx).obj HBX.out)).2.2.2.1
        have K6 : ∀ V, Ext w5 V → V.cell? ⟨bx, 6, none⟩ = some (.int .i64 C.at_) := fun V hx => (box7_at ((HR5.out.ex.trans hx).obj HBX.out)).2.2.2.2
        clear hS5 hBn
        have hx5 := Ext.refl w5
        unfold pt at *
        rcases hcases with ⟨rfl, hc2, hc3⟩ | ⟨hne, hc2, hc3⟩
        · rw [hc2] at HRC5
          rw [hc3] at HOP
          go_wp2_with fail
          refine wp_region_phase (S := fun V => Ext w5 V) 26 (by kernel_rfl) (by kernel_rfl) ?_ (fun hHeld => ?_)
          · exact hx5.drew
          simp only [List.drop_succ_cons, List.drop_zero]
          refine name_head ?_
          intro wr0 hw0
          rw [hw0] at hHeld
          refine wpHead_take (i := 0) (v := ?_) (by rfl) (by kernel_rfl) (by kernel_rfl) (by exact fun _ _ _ h => h) (Or.inl ⟨by rfl, ?_⟩) (by assumption) ?_
          rotate_left
          · intro w hSw
            first | (go_simp; done) | (go_simp; with_reducible rfl)
          simp only [List.getElem_toArray, List.getElem_cons_zero, Act.put, List.setIfInBounds_toArray, List.set_cons_zero, List.set_cons_succ]
          refine wpHead_take (i := 1) (v := ?_) (by rfl) (by kernel_rfl) (by kernel_rfl) (by exact fun _ _ _ h => h) (Or.inl ⟨by rfl, ?_⟩) (by assumption) ?_
          rotate_left
          · intro w hSw
            first | (go_simp; done) | (go_simp; with_reducible rfl)
          simp only [List.getElem_toArray, List.getElem_cons_succ, List.getElem_cons_zero, Act.put, List.setIfInBounds_toArray, List.set_cons_zero, List.set_cons_succ]
          refine wpHead_take (i := 2) (v := ?_) (by rfl) (by kernel_rfl) (by kernel_rfl) (by exact fun _ _ _ h => h) (Or.inl ⟨by rfl, ?_⟩) (by assumption) ?_
          rotate_left
          · intro w hSw
            first | (go_simp; done) | (go_simp; with_reducible rfl)
          simp only [List.getElem_toArray, List.getElem_cons_succ, List.getElem_cons_zero, Act.put, List.setIfInBounds_toArray, List.set_cons_zero, List.set_cons_succ]
          refine wpHead_take (i := 3) (v := ?_) (by rfl) (by kernel_rfl) (by kernel_rfl) (by exact fun _ _ _ h => h) (Or.inl ⟨by rfl, ?_⟩) (by assumption) ?_
          rotate_left
          · intro w hSw
            first | (go_simp; done) | (go_simp; with_reducible rfl)
          simp only [List.getElem_toArray, List.getElem_cons_succ, List.getElem_cons_zero, Act.put, List.setIfInBounds_toArray, List.set_cons_zero, List.set_cons_succ]
          refine wpHead_take (i := 4) (v := ?_) (by rfl) (by kernel_rfl) (by kernel_rfl) (by exact fun _ _ _ h => h) (Or.inl ⟨by rfl, ?_⟩) (by assumption) ?_
          rotate_left
          · intro w hSw
            first | (go_simp; done) | (go_simp; with_reducible rfl)
          simp only [List.getElem_toArray, List.getElem_cons_succ, List.getElem_cons_zero, Act.put, List.setIfInBounds_toArray, List.set_cons_zero, List.set_cons_succ]
          refine wpHead_take (i := 5) (v := ?_) (by rfl) (by kernel_rfl) (by kernel_rfl) (by exact fun _ _ _ h => h) (Or.inl ⟨by rfl, ?_⟩) (by assumption) ?_
          rotate_left
          · intro w hSw
            first | (go_simp; done) | (go_simp; with_reducible rfl)
          simp only [List.getElem_toArray, List.getElem_cons_succ, List.getElem_cons_zero, Act.put, List.setIfInBounds_toArray, List.set_cons_zero, List.set_cons_succ]
          refine wpHead_take (i := 6) (v := ?_) (by rfl) (by kernel_rfl) (by kernel_rfl) (by exact fun _ _ _ h => h) (Or.inl ⟨by rfl, ?_⟩) (by assumption) ?_
          rotate_left
          · intro w hSw
            first | (go_simp; done) | (go_simp; with_reducible rfl)
          simp only [List.getElem_toArray, List.getElem_cons_succ, List.getElem_cons_zero, Act.put, List.setIfInBounds_toArray, List.set_cons_zero, List.set_cons_succ]
          refine wpHead_take (i := 8) (v := ?_) (by rfl) (by kernel_rfl) (by kernel_rfl) (by exact fun _ _ _ h => h) (Or.inl ⟨by rfl, ?_⟩) (by assumption) ?_
          rotate_left
          · intro w hSw
            first | (go_simp; done) | (go_simp; with_reducible rfl)
          simp only [List.getElem_toArray, List.getElem_cons_succ, List.getElem_cons_zero, Act.put, List.setIfInBounds_toArray, List.set_cons_zero, List.set_cons_succ]
          refine wpHead_take (i := 9) (v := ?_) (by rfl) (by kernel_rfl) (by kernel_rfl) (by exact fun _ _ _ h => h) (Or.inl ⟨by rfl, ?_⟩) (by assumption) ?_
          rotate_left
          · intro w hSw
            first | (go_simp; done) | (go_simp; with_reducible rfl)
          simp only [List.getElem_toArray, List.getElem_cons_succ, List.getElem_cons_zero, Act.put, List.setIfInBounds_toArray, List.set_cons_zero, List.set_cons_succ]
          refine wpHead_ready (rs := [7]) (by kernel_rfl) (by simp) (by kernel_rfl) ?_
          refine AllHead.cons (by rfl) (fun K hK => ?_) ?_
          · refine step_callG (by rfl) (by kernel_rfl) (HRC5 wr0 hHeld) ?_
            rintro e wr7 ⟨v8, rfl, ho8, hx8⟩
            obtain ⟨A8, c8, rfl⟩ := ho8.form
            have hk8 := hHeld.trans hx8
            refine ⟨_, rfl, ?_⟩
            refine hK.out _ _ ?_ (fun hHeld => ?_)
            · exact hk8
            clear hK K
            try simp only [List.getElem_toArray, List.getElem_cons_succ, List.getElem_cons_zero, Act.put, List.setIfInBounds_toArray, List.set_cons_zero, List.set_cons_succ]
            refine wpHead_ready (rs := [10]) (by kernel_rfl) (by simp) (by kernel_rfl) ?_
            refine AllHead.cons (by rfl) (fun K hK => ?_) ?_
            · have HSM := RSame_any A8 KA2 c8 kc2 recs.length recs.length recs recs wr7 ho8.bss (recs_bss HRC.out (HR5.out.ex.trans hHeld)) rfl rfl (by omega)
              rw [decide_eq_true rfl] at HSM
              refine step_callG (by rfl) (by kernel_rfl) HSM ?_
              rintro e wr10 ⟨rfl, hx10⟩
              have hk10 := hHeld.trans hx10
              refine ⟨_, rfl, ?_⟩
              refine hK.out _ _ ?_ (fun hHeld => ?_)
              · exact hk10
              clear hK K
              try simp only [List.getElem_toArray, List.getElem_cons_succ, List.getElem_cons_zero, Act.put, List.setIfInBounds_toArray, List.set_cons_zero, List.set_cons_succ]
              refine wpHead_take (i := 11) (v := ?_) (by rfl) (by kernel_rfl) (by kernel_rfl) (by exact fun _ _ _ h => h) (Or.inl ⟨by rfl, ?_⟩) (by assumption) ?_
              rotate_left
              · intro w hSw
                first | (go_simp; done) | (go_simp; with_reducible rfl)
              simp only [List.getElem_toArray, List.getElem_cons_succ, List.getElem_cons_zero, Act.put, List.setIfInBounds_toArray, List.set_cons_zero, List.set_cons_succ]
              refine wpHead_take (i := 12) (v := ?_) (by rfl) (by kernel_rfl) (by kernel_rfl) (by exact fun _ _ _ h => h) (Or.inl ⟨by rfl, ?_⟩) (by assumption) ?_
              rotate_left
              · intro w hSw
                first | (go_simp; done) | (go_simp; with_reducible rfl)
              simp only [List.getElem_toArray, List.getElem_cons_succ, List.getElem_cons_zero, Act.put, List.setIfInBounds_toArray, List.set_cons_zero, List.set_cons_succ]
              refine wpHead_take (i := 13) (v := ?_) (by rfl) (by kernel_rfl) (by kernel_rfl) (by exact fun _ _ _ h => h) (Or.inl ⟨by rfl, ?_⟩) (by assumption) ?_
              rotate_left
              · intro w hSw
                first | (go_simp; done) | (go_simp; with_reducible rfl)
              simp only [List.getElem_toArray, List.getElem_cons_succ, List.getElem_cons_zero, Act.put, List.setIfInBounds_toArray, List.set_cons_zero, List.set_cons_succ]
              refine wpHead_take (i := 14) (v := ?_) (by rfl) (by kernel_rfl) (by kernel_rfl) (by exact fun _ _ _ h => h) (Or.inl ⟨by rfl, ?_⟩) (by assumption) ?_
              rotate_left
              · intro w hSw
                first | (go_simp; done) | (go_simp; with_reducible rfl)
              simp only [List.getElem_toArray, List.getElem_cons_succ, List.getElem_cons_zero, Act.put, List.setIfInBounds_toArray, List.set_cons_zero, List.set_cons_succ]
              refine wpHead_take (i := 15) (v := ?_) (by rfl) (by kernel_rfl) (by kernel_rfl) (by exact fun _ _ _ h => h) (Or.inl ⟨by rfl, ?_⟩) (by assumption) ?_
              rotate_left
              · intro w hSw
                first | (go_simp; done) | (go_simp; with_reducible rfl)
              simp only [List.getElem_toArray, List.getElem_cons_succ, List.getElem_cons_zero, Act.put, List.setIfInBounds_toArray, List.set_cons_zero, List.set_cons_succ]
              refine wpHead_take (i := 16) (v := ?_) (by rfl) (by kernel_rfl) (by kernel_rfl) (by exact fun _ _ _ h => h) (Or.inl ⟨by rfl, ?_⟩) (by assumption) ?_
              rotate_left
              · intro w hSw
                first | (go_simp; done) | (go_simp; with_reducible rfl)
              simp only [List.getElem_toArray, List.getElem_cons_succ, List.getElem_cons_zero, Act.put, List.setIfInBounds_toArray, List.set_cons_zero, List.set_cons_succ]
              refine wpHead_take (i := 17) (v := undef) (by rfl) (by kernel_rfl) (by kernel_rfl) (by exact fun _ _ _ h => h) (Or.inr ⟨by rfl, rfl⟩) (by assumption) ?_
              simp only [List.getElem_toArray, List.getElem_cons_succ, List.getElem_cons_zero, Act.put, List.setIfInBounds_toArray, List.set_cons_zero, List.set_cons_succ]
              refine wpHead_take (i := 18) (v := undef) (by rfl) (by kernel_rfl) (by kernel_rfl) (by exact fun _ _ _ h => h) (Or.inr ⟨by rfl, rfl⟩) (by assumption) ?_
              simp only [List.getElem_toArray, List.getElem_cons_succ, List.getElem_cons_zero, Act.put, List.setIfInBounds_toArray, List.set_cons_zero, List.set_cons_succ]
              refine wpHead_take (i := 19) (v := undef) (by rfl) (by kernel_rfl) (by kernel_rfl) (by exact fun _ _ _ h => h) (Or.inr ⟨by rfl, rfl⟩) (by assumption) ?_
              simp only [List.getElem_toArray, List.getElem_cons_succ, List.getElem_cons_zero, Act.put, List.setIfInBounds_toArray, List.set_cons_zero, List.set_cons_succ]
              refine wpHead_take (i := 20) (v := undef) (by rfl) (by kernel_rfl) (by kernel_rfl) (by exact fun _ _ _ h => h) (Or.inr ⟨by rfl, rfl⟩) (by assumption) ?_
              simp only [List.getElem_toArray, List.getElem_cons_succ, List.getElem_cons_zero, Act.put, List.setIfInBounds_toArray, List.set_cons_zero, List.set_cons_succ]
              refine wpHead_take (i := 21) (v := undef) (by rfl) (by kernel_rfl) (by kernel_rfl) (by exact fun _ _ _ h => h) (Or.inr ⟨by rfl, rfl⟩) (by assumption) ?_
              simp only [List.getElem_toArray, List.getElem_cons_succ, List.getElem_cons_zero, Act.put, List.setIfInBounds_toArray, List.set_cons_zero, List.set_cons_succ]
              refine wpHead_take (i := 22) (v := undef) (by rfl) (by kernel_rfl) (by kernel_rfl) (by exact fun _ _ _ h => h) (Or.inr ⟨by rfl, rfl⟩) (by assumption) ?_
              simp only [List.getElem_toArray, List.getElem_cons_succ, List.getElem_cons_zero, Act.put, List.setIfInBounds_toArray, List.set_cons_zero, List.set_cons_succ]
              refine wpHead_take (i := 23) (v := undef) (by rfl) (by kernel_rfl) (by kernel_rfl) (by exact fun _ _ _ h => h) (Or.inr ⟨by rfl, rfl⟩) (by assumption) ?_
              simp only [List.getElem_toArray, List.getElem_cons_succ, List.getElem_cons_zero, Act.put, List.setIfInBounds_toArray, List.set_cons_zero, List.set_cons_succ]
              refine wpHead_take (i := 24) (v := undef) (by rfl) (by kernel_rfl) (by kernel_rfl) (by exact fun _ _ _ h => h) (Or.inr ⟨by rfl, rfl⟩) (by assumption) ?_
              simp only [List.getElem_toArray, List.getElem_cons_succ, List.getElem_cons_zero, Act.put, List.setIfInBounds_toArray, List.set_cons_zero, List.set_cons_succ]
              refine wpHead_take (i := 25) (v := ?_) (by rfl) (by kernel_rfl) (by kernel_rfl) (by exact fun _ _ _ h => h) (Or.inl ⟨by rfl, ?_⟩) (by assumption) ?_
              rotate_left
              · intro w hSw
                first | (go_simp; done) | (go_simp; with_reducible rfl)
              simp only [List.getElem_toArray, List.getElem_cons_succ, List.getElem_cons_zero, Act.put, List.setIfInBounds_toArray, List.set_cons_zero, List.set_cons_succ]
              refine wpHead_done (by kernel_rfl) ?_
              clear HRC5 HSM ho8 hx8 hx10 hk8 hk10 C1 D3
              have HX14 := hHeld
              clear hHeld
              go_wp2_with fail
              refine wp_region_phase (S := fun V => Ext w5 V) 7 (by kernel_rfl) (by kernel_rfl) ?_ (fun hHeld => ?_)
              · exact HX14.drew
              simp only [List.drop_succ_cons, List.drop_zero]
              refine name_head ?_
              intro wr0 hw0
              rw [hw0] at hHeld
              refine wpHead_take (i := 0) (v := ?_) (by rfl) (by kernel_rfl) (by kernel_rfl) (by exact fun _ _ _ h => h) (Or.inl ⟨by rfl, ?_⟩) (by assumption) ?_
              rotate_left
              · intro w hSw
                first | (go_simp; done) | (go_simp; with_reducible rfl)
              simp only [List.getElem_toArray, List.getElem_cons_zero, Act.put, List.setIfInBounds_toArray, List.set_cons_zero, List.set_cons_succ]
              refine wpHead_take (i := 1) (v := ?_) (by rfl) (by kernel_rfl) (by kernel_rfl) (by exact fun _ _ _ h => h) (Or.inl ⟨by rfl, ?_⟩) (by assumption) ?_
              rotate_left
              · intro w hSw
                first | (go_simp; done) | (go_simp; with_reducible rfl)
              simp only [List.getElem_toArray, List.getElem_cons_succ, List.getElem_cons_zero, Act.put, List.setIfInBounds_toArray, List.set_cons_zero, List.set_cons_succ]
              refine wpHead_take (i := 2) (v := ?_) (by rfl) (by kernel_rfl) (by kernel_rfl) (by exact fun _ _ _ h => h) (Or.inl ⟨by rfl, ?_⟩) (by assumption) ?_
              rotate_left
              · intro w hSw
                first | (go_simp; done) | (go_simp; with_reducible rfl)
              simp only [List.getElem_toArray, List.getElem_cons_succ, List.getElem_cons_zero, Act.put, List.setIfInBounds_toArray, List.set_cons_zero, List.set_cons_succ]
              refine wpHead_take (i := 3) (v := ?_) (by rfl) (by kernel_rfl) (by kernel_rfl) (by exact fun _ _ _ h => h) (Or.inl ⟨by rfl, ?_⟩) (by assumption) ?_
              rotate_left
              · intro w hSw
                first | (go_simp; done) | (go_simp; with_reducible rfl)
              simp only [List.getElem_toArray, List.getElem_cons_succ, List.getElem_cons_zero, Act.put, List.setIfInBounds_toArray, List.set_cons_zero, List.set_cons_succ]
              refine wpHead_take (i := 4) (v := ?_) (by rfl) (by kernel_rfl) (by kernel_rfl) (by exact fun _ _ _ h => h) (Or.inl ⟨by rfl, ?_⟩) (by assumption) ?_
              rotate_left
              · intro w hSw
                first | (go_simp; done) | (go_simp; with_reducible rfl)
              simp only [List.getElem_toArray, List.getElem_cons_succ, List.getElem_cons_zero, Act.put, List.setIfInBounds_toArray, List.set_cons_zero, List.set_cons_succ]
              refine wpHead_take (i := 5) (v := ?_) (by rfl) (by kernel_rfl) (by kernel_rfl) (by exact fun _ _ _ h => h) (Or.inl ⟨by rfl, ?_⟩) (by assumption) ?_
              rotate_left
              · intro w hSw
                first | (go_simp; done) | (go_simp; with_reducible rfl)
              simp only [List.getElem_toArray, List.getElem_cons_succ, List.getElem_cons_zero, Act.put, List.setIfInBounds_toArray, List.set_cons_zero, List.set_cons_succ]
              refine wpHead_take (i := 6) (v := ?_) (by rfl) (by kernel_rfl) (by kernel_rfl) (by exact fun _ _ _ h => h) (Or.inl ⟨by rfl, ?_⟩) (by assumption) ?_
              rotate_left
              · intro w hSw
                first | (go_simp; done) | (go_simp; with_reducible rfl)
              simp only [List.getElem_toArray, List.getElem_cons_succ, List.getElem_cons_zero, Act.put, List.setIfInBounds_toArray, List.set_cons_zero, List.set_cons_succ]
              refine wpHead_done (by kernel_rfl) ?_
              have HO := HOP _ hHeld
              have hxv := hHeld
              clear HOP C0 K4 K5 K6 hHeld HX14
              go_wp2_with fail
              refine HO.mono ?_
              rintro e w6 ⟨q6, M6, s6, g6, rfl, hs6, hr6, ht6, hg6⟩
              clear HO
              obtain ⟨B6, A6, c6, v6, vs6, hI6⟩ := hs6
              have hkM : Kept N5 w5 w6 := (Kept.of_ext hxv).trans (ht6.kept.mono fun k hk => HR5.out.sys.MN k (HBM.out k hk))
              have HK6 := Lib.hid (HK5.out.kept hkM)
              have HX6 : Hid (Ext wa w6) := Lib.hid (HR5.out.ex.kept hkM HR5.out.new)
              have HRC6 := wrecords_any hI6 (by have := hg6.rl; omega) (fun r hr => by have := hg6.rs r hr; omega)
              rw [hr6] at HRC6
              clear hI6 hkM hr6 ht6 hg6 hxv
              unfold pt at *
              go_wp2_with fail
              refine HRC6.mono ?_
              rintro e w7 ⟨v7, rfl, ho7, hx7⟩
              obtain ⟨A7, c7, rfl⟩ := ho7.form
              clear HRC6
              have HO7 := Lib.hid ho7
              have HX7 := Lib.hid (HX6.out.trans hx7)
              have HK7 := Lib.hid (HK6.out.kept (.of_ext hx7))
              clear ho7 hx7 HX6 HK6
              have HLV := live_any w7
              go_wp2_with fail
              refine HLV.mono ?_
              rintro e w8 ⟨rfl, hx8⟩
              clear HLV
              have d3 := (box7_at ((HX7.out.trans hx8).obj HBX.out)).2.1
              have HSM := RSame_any A7 KA2 c7 kc2 recs.length recs.length recs recs w8 (HO7.out.ext hx8).bss (recs_bss HRC.out (HX7.out.trans hx8)) rfl rfl (by omega)
              rw [decide_eq_true rfl] at HSM
              have HX8 := Lib.hid (HXA.out.trans (HX7.out.trans hx8))
              clear hx8 HO7 HK7 HX7
              go_wp2_with fail
              refine HSM.mono ?_
              rintro e w9 ⟨rfl, hx9⟩
              have HX9 := Lib.hid (HX8.out.trans hx9)
              clear HSM hx9 HX8
              go_wp2
              go_ret
              exact ⟨rfl, HX9.out⟩
            exact AllHead.nil
          exact AllHead.nil
        · have d5 : (e5 == 0) = false := by simpa using hne
          have d6 : (e5 != 0) = true := by simpa using hne
          rw [hc2, HRA.out] at HRC5
          have hgl : (readF D).1.length ≤ 9223372036854775807 := by
            rcases hc3 with h | h
            · rw [h]; omega
            · rw [h.2]; omega
          generalize (readF D).1 = got at *
          go_wp2_with fail
          refine wp_region_phase (S := fun V => Ext w5 V) 26 (by kernel_rfl) (by kernel_rfl) ?_ (fun hHeld => ?_)
          · exact hx5.drew
          simp only [List.drop_succ_cons, List.drop_zero]
          refine name_head ?_
          intro wr0 hw0
          rw [hw0] at hHeld
          refine wpHead_take (i := 0) (v := ?_) (by rfl) (by kernel_rfl) (by kernel_rfl) (by exact fun _ _ _ h => h) (Or.inl ⟨by rfl, ?_⟩) (by assumption) ?_
          rotate_left
          · intro w hSw
            first | (go_simp; done) | (go_simp; with_reducible rfl)
          simp only [List.getElem_toArray, List.getElem_cons_zero, Act.put, List.setIfInBounds_toArray, List.set_cons_zero, List.set_cons_succ]
          refine wpHead_take (i := 1) (v := ?_) (by rfl) (by kernel_rfl) (by kernel_rfl) (by exact fun _ _ _ h => h) (Or.inl ⟨by rfl, ?_⟩) (by assumption) ?_
          rotate_left
          · intro w hSw
            first | (go_simp; done) | (go_simp; with_reducible rfl)
          simp only [List.getElem_toArray, List.getElem_cons_succ, List.getElem_cons_zero, Act.put, List.setIfInBounds_toArray, List.set_cons_zero, List.set_cons_succ]
          refine wpHead_take (i := 2) (v := ?_) (by rfl) (by kernel_rfl) (by kernel_rfl) (by exact fun _ _ _ h => h) (Or.inl ⟨by rfl, ?_⟩) (by assumption) ?_
          rotate_left
          · intro w hSw
            first | (go_simp; done) | (go_simp; with_reducible rfl)
          simp only [List.getElem_toArray, List.getElem_cons_succ, List.getElem_cons_zero, Act.put, List.setIfInBounds_toArray, List.set_cons_zero, List.set_cons_succ]
          refine wpHead_take (i := 3) (v := undef) (by rfl) (by kernel_rfl) (by kernel_rfl) (by exact fun _ _ _ h => h) (Or.inr ⟨by rfl, rfl⟩) (by assumption) ?_
          simp only [List.getElem_toArray, List.getElem_cons_succ, List.getElem_cons_zero, Act.put, List.setIfInBounds_toArray, List.set_cons_zero, List.set_cons_succ]
          refine wpHead_take (i := 4) (v := undef) (by rfl) (by kernel_rfl) (by kernel_rfl) (by exact fun _ _ _ h => h) (Or.inr ⟨by rfl, rfl⟩) (by assumption) ?_
          simp only [List.getElem_toArray, List.getElem_cons_succ, List.getElem_cons_zero, Act.put, List.setIfInBounds_toArray, List.set_cons_zero, List.set_cons_succ]
          refine wpHead_take (i := 5) (v := undef) (by rfl) (by kernel_rfl) (by kernel_rfl) (by exact fun _ _ _ h => h) (Or.inr ⟨by rfl, rfl⟩) (by assumption) ?_
          simp only [List.getElem_toArray, List.getElem_cons_succ, List.getElem_cons_zero, Act.put, List.setIfInBounds_toArray, List.set_cons_zero, List.set_cons_succ]
          refine wpHead_take (i := 6) (v := undef) (by rfl) (by kernel_rfl) (by kernel_rfl) (by exact fun _ _ _ h => h) (Or.inr ⟨by rfl, rfl⟩) (by assumption) ?_
          simp only [List.getElem_toArray, List.getElem_cons_succ, List.getElem_cons_zero, Act.put, List.setIfInBounds_toArray, List.set_cons_zero, List.set_cons_succ]
          refine wpHead_take (i := 7) (v := undef) (by rfl) (by kernel_rfl) (by kernel_rfl) (by exact fun _ _ _ h => h) (Or.inr ⟨by rfl, rfl⟩) (by assumption) ?_
          simp only [List.getElem_toArray, List.getElem_cons_succ, List.getElem_cons_zero, Act.put, List.setIfInBounds_toArray, List.set_cons_zero, List.set_cons_succ]
          refine wpHead_take (i := 8) (v := undef) (by rfl) (by kernel_rfl) (by kernel_rfl) (by exact fun _ _ _ h => h) (Or.inr ⟨by rfl, rfl⟩) (by assumption) ?_
          simp only [List.getElem_toArray, List.getElem_cons_succ, List.getElem_cons_zero, Act.put, List.setIfInBounds_toArray, List.set_cons_zero, List.set_cons_succ]
          refine wpHead_take (i := 9) (v := undef) (by rfl) (by kernel_rfl) (by kernel_rfl) (by exact fun _ _ _ h => h) (Or.inr ⟨by rfl, rfl⟩) (by assumption) ?_
          simp only [List.getElem_toArray, List.getElem_cons_succ, List.getElem_cons_zero, Act.put, List.setIfInBounds_toArray, List.set_cons_zero, List.set_cons_succ]
          refine wpHead_take (i := 10) (v := undef) (by rfl) (by kernel_rfl) (by kernel_rfl) (by exact fun _ _ _ h => h) (Or.inr ⟨by rfl, rfl⟩) (by assumption) ?_
          simp only [List.getElem_toArray, List.getElem_cons_succ, List.getElem_cons_zero, Act.put, List.setIfInBounds_toArray, List.set_cons_zero, List.set_cons_succ]
          refine wpHead_take (i := 11) (v := undef) (by rfl) (by kernel_rfl) (by kernel_rfl) (by exact fun _ _ _ h => h) (Or.inr ⟨by rfl, rfl⟩) (by assumption) ?_
          simp only [List.getElem_toArray, List.getElem_cons_succ, List.getElem_cons_zero, Act.put, List.setIfInBounds_toArray, List.set_cons_zero, List.set_cons_succ]
          refine wpHead_take (i := 12) (v := ?_) (by rfl) (by kernel_rfl) (by kernel_rfl) (by exact fun _ _ _ h => h) (Or.inl ⟨by rfl, ?_⟩) (by assumption) ?_
          rotate_left
          · intro w hSw
            first | (go_simp; done) | (go_simp; with_reducible rfl)
          simp only [List.getElem_toArray, List.getElem_cons_succ, List.getElem_cons_zero, Act.put, List.setIfInBounds_toArray, List.set_cons_zero, List.set_cons_succ]
          refine wpHead_take (i := 13) (v := ?_) (by rfl) (by kernel_rfl) (by kernel_rfl) (by exact fun _ _ _ h => h) (Or.inl ⟨by rfl, ?_⟩) (by assumption) ?_
          rotate_left
          · intro w hSw
            first | (go_simp; done) | (go_simp; with_reducible rfl)
          simp only [List.getElem_toArray, List.getElem_cons_succ, List.getElem_cons_zero, Act.put, List.setIfInBounds_toArray, List.set_cons_zero, List.set_cons_succ]
          refine wpHead_take (i := 14) (v := ?_) (by rfl) (by kernel_rfl) (by kernel_rfl) (by exact fun _ _ _ h => h) (Or.inl ⟨by rfl, ?_⟩) (by assumption) ?_
          rotate_left
          · intro w hSw
            first | (go_simp; done) | (go_simp; with_reducible rfl)
          simp only [List.getElem_toArray, List.getElem_cons_succ, List.getElem_cons_zero, Act.put, List.setIfInBounds_toArray, List.set_cons_zero, List.set_cons_succ]
          refine wpHead_take (i := 15) (v := ?_) (by rfl) (by kernel_rfl) (by kernel_rfl) (by exact fun _ _ _ h => h) (Or.inl ⟨by rfl, ?_⟩) (by assumption) ?_
          rotate_left
          · intro w hSw
            first | (go_simp; done) | (go_simp; with_reducible rfl)
          simp only [List.getElem_toArray, List.getElem_cons_succ, List.getElem_cons_zero, Act.put, List.setIfInBounds_toArray, List.set_cons_zero, List.set_cons_succ]
          refine wpHead_take (i := 16) (v := ?_) (by rfl) (by kernel_rfl) (by kernel_rfl) (by exact fun _ _ _ h => h) (Or.inl ⟨by rfl, ?_⟩) (by assumption) ?_
          rotate_left
          · intro w hSw
            first | (go_simp; done) | (go_simp; with_reducible rfl)
          simp only [List.getElem_toArray, List.getElem_cons_succ, List.getElem_cons_zero, Act.put, List.setIfInBounds_toArray, List.set_cons_zero, List.set_cons_succ]
          refine wpHead_take (i := 17) (v := ?_) (by rfl) (by kernel_rfl) (by kernel_rfl) (by exact fun _ _ _ h => h) (Or.inl ⟨by rfl, ?_⟩) (by assumption) ?_
          rotate_left
          · intro w hSw
            first | (go_simp; done) | (go_simp; with_reducible rfl)
          simp only [List.getElem_toArray, List.getElem_cons_succ, List.getElem_cons_zero, Act.put, List.setIfInBounds_toArray, List.set_cons_zero, List.set_cons_succ]
          refine wpHead_take (i := 18) (v := ?_) (by rfl) (by kernel_rfl) (by kernel_rfl) (by exact fun _ _ _ h => h) (Or.inl ⟨by rfl, ?_⟩) (by assumption) ?_
          rotate_left
          · intro w hSw
            first | (go_simp; done) | (go_simp; with_reducible rfl)
          simp only [List.getElem_toArray, List.getElem_cons_succ, List.getElem_cons_zero, Act.put, List.setIfInBounds_toArray, List.set_cons_zero, List.set_cons_succ]
          refine wpHead_take (i := 19) (v := ?_) (by rfl) (by kernel_rfl) (by kernel_rfl) (by exact fun _ _ _ h => h) (Or.inl ⟨by rfl, ?_⟩) (by assumption) ?_
          rotate_left
          · intro w hSw
            first | (go_simp; done) | (go_simp; with_reducible rfl)
          simp only [List.getElem_toArray, List.getElem_cons_succ, List.getElem_cons_zero, Act.put, List.setIfInBounds_toArray, List.set_cons_zero, List.set_cons_succ]
          refine wpHead_take (i := 20) (v := ?_) (by rfl) (by kernel_rfl) (by kernel_rfl) (by exact fun _ _ _ h => h) (Or.inl ⟨by rfl, ?_⟩) (by assumption) ?_
          rotate_left
          · intro w hSw
            first | (go_simp; done) | (go_simp; with_reducible rfl)
          simp only [List.getElem_toArray, List.getElem_cons_succ, List.getElem_cons_zero, Act.put, List.setIfInBounds_toArray, List.set_cons_zero, List.set_cons_succ]
          refine wpHead_take (i := 22) (v := ?_) (by rfl) (by kernel_rfl) (by kernel_rfl) (by exact fun _ _ _ h => h) (Or.inl ⟨by rfl, ?_⟩) (by assumption) ?_
          rotate_left
          · intro w hSw
            first | (go_simp; done) | (go_simp; with_reducible rfl)
          simp only [List.getElem_toArray, List.getElem_cons_succ, List.getElem_cons_zero, Act.put, List.setIfInBounds_toArray, List.set_cons_zero, List.set_cons_succ]
          refine wpHead_ready (rs := [21]) (by kernel_rfl) (by simp) (by kernel_rfl) ?_
          refine AllHead.cons (by rfl) (fun K hK => ?_) ?_
          · refine step_callG (by rfl) (by kernel_rfl) (HRC5 wr0 hHeld) ?_
            rintro e wr21 ⟨v8, rfl, ho8, hx8⟩
            obtain ⟨A8, c8, rfl⟩ := ho8.form
            have hk8 := hHeld.trans hx8
            refine ⟨_, rfl, ?_⟩
            refine hK.out _ _ ?_ (fun hHeld => ?_)
            · exact hk8
            clear hK K
            try simp only [List.getElem_toArray, List.getElem_cons_succ, List.getElem_cons_zero, Act.put, List.setIfInBounds_toArray, List.set_cons_zero, List.set_cons_succ]
            refine wpHead_ready (rs := [23]) (by kernel_rfl) (by simp) (by kernel_rfl) ?_
            refine AllHead.cons (by rfl) (fun K hK => ?_) ?_
            · have HSM := RSame_any A8 A9 c8 c9 all.length all.length all all wr21 ho8.bss (HK5.out.kept (.of_ext hHeld)).bss rfl rfl (by omega)
              rw [decide_eq_true rfl] at HSM
              refine step_callG (by rfl) (by kernel_rfl) HSM ?_
              rintro e wr23 ⟨rfl, hx10⟩
              have hk10 := hHeld.trans hx10
              refine ⟨_, rfl, ?_⟩
              refine hK.out _ _ ?_ (fun hHeld => ?_)
              · exact hk10
              clear hK K
              try simp only [List.getElem_toArray, List.getElem_cons_succ, List.getElem_cons_zero, Act.put, List.setIfInBounds_toArray, List.set_cons_zero, List.set_cons_succ]
              refine wpHead_take (i := 24) (v := ?_) (by rfl) (by kernel_rfl) (by kernel_rfl) (by exact fun _ _ _ h => h) (Or.inl ⟨by rfl, ?_⟩) (by assumption) ?_
              rotate_left
              · intro w hSw
                first | (go_simp; done) | (go_simp; with_reducible rfl)
              simp only [List.getElem_toArray, List.getElem_cons_succ, List.getElem_cons_zero, Act.put, List.setIfInBounds_toArray, List.set_cons_zero, List.set_cons_succ]
              refine wpHead_take (i := 25) (v := ?_) (by rfl) (by kernel_rfl) (by kernel_rfl) (by exact fun _ _ _ h => h) (Or.inl ⟨by rfl, ?_⟩) (by assumption) ?_
              rotate_left
              · intro w hSw
                first | (go_simp; done) | (go_simp; with_reducible rfl)
              simp only [List.getElem_toArray, List.getElem_cons_succ, List.getElem_cons_zero, Act.put, List.setIfInBounds_toArray, List.set_cons_zero, List.set_cons_succ]
              refine wpHead_done (by kernel_rfl) ?_
              clear HRC5 HSM ho8 hx8 hx10 hk8 hk10 C1 D3
              have HX14 := hHeld
              clear hHeld
              go_wp2_with fail
              refine wp_region_phase (S := fun V => Ext w5 V) 7 (by kernel_rfl) (by kernel_rfl) ?_ (fun hHeld => ?_)
              · exact HX14.drew
              simp only [List.drop_succ_cons, List.drop_zero]
              refine name_head ?_
              intro wr0 hw0
              rw [hw0] at hHeld
              refine wpHead_take (i := 0) (v := ?_) (by rfl) (by kernel_rfl) (by kernel_rfl) (by exact fun _ _ _ h => h) (Or.inl ⟨by rfl, ?_⟩) (by assumption) ?_
              rotate_left
              · intro w hSw
                first | (go_simp; done) | (go_simp; with_reducible rfl)
              simp only [List.getElem_toArray, List.getElem_cons_zero, Act.put, List.setIfInBounds_toArray, List.set_cons_zero, List.set_cons_succ]
              refine wpHead_take (i := 1) (v := ?_) (by rfl) (by kernel_rfl) (by kernel_rfl) (by exact fun _ _ _ h => h) (Or.inl ⟨by rfl, ?_⟩) (by assumption) ?_
              rotate_left
              · intro w hSw
                first | (go_simp; done) | (go_simp; with_reducible rfl)
              simp only [List.getElem_toArray, List.getElem_cons_succ, List.getElem_cons_zero, Act.put, List.setIfInBounds_toArray, List.set_cons_zero, List.set_cons_succ]
              refine wpHead_take (i := 2) (v := ?_) (by rfl) (by kernel_rfl) (by kernel_rfl) (by exact fun _ _ _ h => h) (Or.inl ⟨by rfl, ?_⟩) (by assumption) ?_
              rotate_left
              · intro w hSw
                first | (go_simp; done) | (go_simp; with_reducible rfl)
              simp only [List.getElem_toArray, List.getElem_cons_succ, List.getElem_cons_zero, Act.put, List.setIfInBounds_toArray, List.set_cons_zero, List.set_cons_succ]
              refine wpHead_take (i := 3) (v := ?_) (by rfl) (by kernel_rfl) (by kernel_rfl) (by exact fun _ _ _ h => h) (Or.inl ⟨by rfl, ?_⟩) (by assumption) ?_
              rotate_left
              · intro w hSw
                first | (go_simp; done) | (go_simp; with_reducible rfl)
              simp only [List.getElem_toArray, List.getElem_cons_succ, List.getElem_cons_zero, Act.put, List.setIfInBounds_toArray, List.set_cons_zero, List.set_cons_succ]
              refine wpHead_take (i := 4) (v := ?_) (by rfl) (by kernel_rfl) (by kernel_rfl) (by exact fun _ _ _ h => h) (Or.inl ⟨by rfl, ?_⟩) (by assumption) ?_
              rotate_left
              · intro w hSw
                first | (go_simp; done) | (go_simp; with_reducible rfl)
              simp only [List.getElem_toArray, List.getElem_cons_succ, List.getElem_cons_zero, Act.put, List.setIfInBounds_toArray, List.set_cons_zero, List.set_cons_succ]
              refine wpHead_take (i := 5) (v := ?_) (by rfl) (by kernel_rfl) (by kernel_rfl) (by exact fun _ _ _ h => h) (Or.inl ⟨by rfl, ?_⟩) (by assumption) ?_
              rotate_left
              · intro w hSw
                first | (go_simp; done) | (go_simp; with_reducible rfl)
              simp only [List.getElem_toArray, List.getElem_cons_succ, List.getElem_cons_zero, Act.put, List.setIfInBounds_toArray, List.set_cons_zero, List.set_cons_succ]
              refine wpHead_take (i := 6) (v := ?_) (by rfl) (by kernel_rfl) (by kernel_rfl) (by exact fun _ _ _ h => h) (Or.inl ⟨by rfl, ?_⟩) (by assumption) ?_
              rotate_left
              · intro w hSw
                first | (go_simp; done) | (go_simp; with_reducible rfl)
              simp only [List.getElem_toArray, List.getElem_cons_succ, List.getElem_cons_zero, Act.put, List.setIfInBounds_toArray, List.set_cons_zero, List.set_cons_succ]
              refine wpHead_done (by kernel_rfl) ?_
              have HO := HOP _ hHeld
              have hxv := hHeld
              clear HOP C0 K4 K5 K6 hHeld HX14
              go_wp2_with fail
              refine HO.mono ?_
              rintro e w6 ⟨q6, M6, s6, g6, rfl, hs6, hr6, ht6, hg6⟩
              clear HO
              obtain ⟨B6, A6, c6, v6, vs6, hI6⟩ := hs6
              have hkM : Kept N5 w5 w6 := (Kept.of_ext hxv).trans (ht6.kept.mono fun k hk => HR5.out.sys.MN k (HBM.out k hk))
              have HK6 := Lib.hid (HK5.out.kept hkM)
              have HX6 : Hid (Ext wa w6) := Lib.hid (HR5.out.ex.kept hkM HR5.out.new)
              have HRC6 := wrecords_any hI6 (by have := hg6.rl; omega) (fun r hr => by have := hg6.rs r hr; omega)
              rw [hr6] at HRC6
              clear hI6 hkM hr6 ht6 hg6 hxv
              unfold pt at *
              go_wp2_with fail
              refine HRC6.mono ?_
              rintro e w7 ⟨v7, rfl, ho7, hx7⟩
              obtain ⟨A7, c7, rfl⟩ := ho7.form
              clear HRC6
              have HO7 := Lib.hid ho7
              have HX7 := Lib.hid (HX6.out.trans hx7)
              have HK7 := Lib.hid (HK6.out.kept (.of_ext hx7))
              clear ho7 hx7 HX6 HK6
              have HLV := live_any w7
              go_wp2_with fail
              refine HLV.mono ?_
              rintro e w8 ⟨rfl, hx8⟩
              clear HLV
              have HX8 := Lib.hid (HX7.out.trans hx8)
              have HSM := RSame_any A7 A9 c7 c9 got.length all.length got all w8 (HO7.out.ext hx8).bss (HK7.out.kept (.of_ext hx8)).bss rfl rfl (by omega)
              have HO8 := Lib.hid (HO7.out.ext hx8)
              clear hx8 HO7 HK7 HX7
              by_cases hga : got = all
              · rw [decide_eq_true hga] at HSM
                clear hga hc3
                go_wp2_with fail
                refine HSM.mono ?_
                rintro e w9 ⟨rfl, hx9⟩
                have HX9 := Lib.hid (HXA.out.trans (HX8.out.trans hx9))
                clear HSM hx9 HX8 HO8
                go_wp2
                go_ret
                exact ⟨rfl, HX9.out⟩
              · rw [decide_eq_false hga] at HSM
                obtain ⟨he7, hgr⟩ : e5 = 7 ∧ got = recs := by
                  rcases hc3 with h | h
                  · exact absurd h hga
                  · exact h
                subst he7
                have HGR := Lib.hid hgr
                clear hga hne hgr hc3
                go_wp2_with fail
                refine HSM.mono ?_
                rintro e w9 ⟨rfl, hx9⟩
                clear HSM
                have d3 := (box7_at ((HX8.out.trans hx9).obj HBX.out)).2.1
                have HSN := RSame_any A7 KA2 c7 kc2 got.length recs.length got recs w9 (HO8.out.ext hx9).bss (recs_bss HRC.out (HX8.out.trans hx9)) rfl rfl (by omega)
                rw [decide_eq_true HGR.out] at HSN
                have HX9 := Lib.hid (HXA.out.trans (HX8.out.trans hx9))
                clear hx9 HX8 HO8 HGR
                go_wp2_with fail
                refine HSN.mono ?_
                rintro e w10 ⟨rfl, hx10⟩
                have HX10 := Lib.hid (HX9.out.trans hx10)
                clear HSN hx10 HX9
                go_wp2
                go_ret
                exact ⟨rfl, HX10.out⟩
            exact AllHead.nil
          exact AllHead.nil
end Go.Proofs.Ytklodimokhndoaa
