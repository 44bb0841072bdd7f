/- The walk of the law WalNone. Conditions: the hypotheses of each theorem. -/
import Derived.Test.YtklodimokhndoaaWlSM
import Derived.Test.YtklodimokhndoaaSameM
namespace Go.Proofs.Ytklodimokhndoaa
open Go.RowKit
theorem RunM.ext {w0 w w' : World} {P : Nat} {x : Rs} (h : RunM w0 w P x) (hx : Ext w w') : RunM w0 w' P x := by
  obtain ⟨M, N, p, q, v, vs, hI⟩ := h
  exact ⟨M, N, p, q, v, vs, hI.ext hx⟩
/-- a record, as a deed that appends it -/
theorem rrec {w : World} {A : Option Addr} {l : List By} (h : RsM RRec 1 [] w A l) {k : Nat} (hk : k < l.length) :
    ∃ ad A1 c1, A = some ad ∧ (∀ w', Ext w w' → w'.cell? (ad.add k) = some (.slice A1 l[k].length c1)) ∧ WDeR [] w ⟨0, 0, l[k], [], ⟨[], 0, 0⟩⟩ A1 c1 none 0 none := by
  obtain ⟨ad, cs, e, _, _, hc, A1, c1, rfl, h1, h2, h3, h4⟩ := h.at_ (by omega) hk
  refine ⟨ad, A1, c1, e, fun w' hx => ?_, h1.bytes, h2, h3, by simp only; omega, ?_, Nat.le_refl _, by simp, SlM.nil _ _ _, by simp⟩
  · have := hx.cell (hc 0 _ rfl)
    simpa using this
  · exact ⟨[], rfl, by simp, SlM.nil _ _ _, fun k x y hx => by simp at hx⟩
theorem RunI.bss {M N : List Nat} {w0 w : World} {P p q : Nat} {s : Dk} {g : Lg} {all : List By} {sure n c : Nat} {A : Option Addr} {vs : List Value} (h : RunI M N w0 w P p q s g all sure (.slice A n c) vs) : BsS w A all := by
  intro k l hk
  obtain ⟨A', c', h1, h2, h3⟩ := h.els k l hk
  obtain ⟨ad, e, hc⟩ := (Sl.own h.own rfl) _ _ h1
  exact ⟨ad, A', c', e, hc, h3.bs⟩
set_option maxRecDepth 20000 in
set_option maxHeartbeats 4000000 in
theorem WalNone_any (a b : Int) (A : Option Addr) (c : Nat) (l : List By) (w0 : World) (h : RsM RRec 1 [] w0 A l) (hll : l.length ≤ 1000000000000000) :
    Calls Try.prog 7 #[.int .i64 a, .int .i64 b, .slice A l.length c] w0 fun e w' => e = .returned (.bool true) ∧ Ext w0 w' := by
  have HO := wopen_nil a b w0
  go_enter Try.func7, Try.ntmps7
  go_wp2_with fail
  refine HO.mono ?_
  rintro e w1 ⟨rfl, hx1⟩
  clear HO
  have HB := begun_any w1
  go_wp2_with fail
  refine HB.mono ?_
  rintro e w2 ⟨P, rfl, hrun⟩
  clear HB
  have HR2 := Lib.hid hrun
  clear hrun
  unfold pt
  go_wp2_with fail
  refine (wappend_nil _ 1 1 _).mono ?_
  rintro e w3 ⟨rfl, hx3⟩
  go_wp2_with fail
  refine (wforce_nil _).mono ?_
  rintro e w4 ⟨rfl, hx4⟩
  go_wp2_with fail
  refine (wreset_nil _ l.length c _).mono ?_
  rintro e w5 ⟨rfl, hx5⟩
  go_wp2_with fail
  refine (wrecords_nil _).mono ?_
  rintro e w6 ⟨rfl, hx6⟩
  go_wp2_with fail
  refine (wRoom_nil _).mono ?_
  rintro e w7 ⟨rfl, hx7⟩
  go_wp2_with fail
  refine (wleft_nil _).mono ?_
  rintro e w8 ⟨rfl, hx8⟩
  have h1 := RsM.kept h (.of_ext hx1)
  have HR8 := Lib.hid (HR2.out.ext (((Ext.refl w2).alloc (.cells #[.int .u8 1] 5)).trans (hx3.trans (hx4.trans (hx5.trans (hx6.trans (hx7.trans hx8)))))))
  have HX1 := Lib.hid hx1
  clear HR2 h hx1 hx3 hx4 hx5 hx6 hx7 hx8
  go_wp2
  go_loopw [12] (fun i wr => ∃ (k : Nat) (x : Rs), k ≤ l.length ∧ k ≤ 20 ∧ i = .int .i64 k ∧ Hid (RunM w1 wr P x) ∧ Hid (x.Good (5000 + 300 * k))) (fun i _ => 20 - (intOf i).toNat)
  case atStart => exact ⟨0, rs0, by omega, by omega, rfl, HR8, Lib.hid rs0_good⟩
  case round =>
    obtain ⟨k, x, hk1, hk2, rfl, HR, HG⟩ := hrel
    clear HR8
    have hxr : Ext w1 wr := by obtain ⟨M, N, p, q, v, vs, hI⟩ := HR.out; exact hI.ex
    by_cases hlt : k < l.length ∧ k < 20
    · obtain ⟨hlt, hlt2⟩ := hlt
      obtain ⟨ad, A1, c1, rfl, E0, hd⟩ := rrec h1 hlt
      have hlt3 : (k : Int) < 20 := by omega
      have hlt4 : (k : Int) < l.length := by omega
      have e0 := E0 _ hxr
      have HD := wstep_any HR.out HG.out (by omega) _ A1 c1 none 0 none 0 hd
      have HGN := stepR_good HG.out ⟨0, 0, l[k], [], ⟨[], 0, 0⟩⟩
      unfold pt dec at HD
      simp only [List.length_nil] at HD
      generalize l[k] = cc at *
      clear E0 hd
      go_wp2_with fail
      refine HD.mono ?_
      rintro e w3 ⟨rfl, hr3⟩
      go_wp2
      go_roundw
      case rel => exact ⟨k + 1, _, by omega, by omega, by go_num, Lib.hid hr3, Lib.hid ⟨HGN.gd.mono (by omega), HGN.age, HGN.all, HGN.sure⟩⟩
      case measure => simp [intOf]; omega
    · have hpre : ¬ (k : Int) < l.length ∨ ((k : Int) < l.length ∧ ¬ (k : Int) < 20) := by omega
      obtain ⟨wb, hwb⟩ : ∃ wb, wb = wr := ⟨_, rfl⟩
      subst hwb
      obtain ⟨M, N, p, q, v, vs, hI⟩ := HR.out
      obtain ⟨s, g, all, sure⟩ := x
      obtain ⟨B, Ag, cg, vg, vsg, hS⟩ := hI.sys
      have hI : RunI M N w1 wb P p q s g all sure v vs := hI
      have hS : SysI M N wb p q s g B Ag cg vg vsg := hS
      have hall : g.recs = all := HG.out.all
      have hgl : all.length ≤ 20000 := by rw [← hall]; have : g.recs.length ≤ 5000 + 300 * k := HG.out.gd.rl; omega
      have hgs : ∀ r ∈ all, r.length ≤ 2000 := by rw [← hall]; exact HG.out.gd.rs
      have HRC := fun V (hx : Ext wb V) => wrecords_any (hS.ext hx) (by rw [hall]; omega) (by rw [hall]; intro r hr; have := hgs r hr; omega)
      rw [hall] at HRC
      have HI := Lib.hid hI
      have HGS := Lib.hid hgs
      have HXR := Lib.hid hxr
      obtain ⟨Av, cv, rfl⟩ := own_form hI.own
      have C1 : ∀ V, Ext wb V → V.cell? ⟨P, 1, none⟩ = some (pt q) := fun V hx => (row4_at (HI.out.ext hx).row).2.1
      have C2 : ∀ V, Ext wb V → V.cell? ⟨P, 2, none⟩ = some (.slice Av all.length cv) := fun V hx => (row4_at (HI.out.ext hx).row).2.2.1
      have HRC0 := HRC wb (Ext.refl wb)
      have c1 := C1 wb (Ext.refl wb)
      clear hI hS hall HR HG hgs hlt hk1 hk2 h1
      unfold pt at *
      rcases hpre with h5 | ⟨h5, h6⟩
      all_goals
        go_wp2_with fail
        refine HRC0.mono ?_
        rintro e w9 ⟨v9, rfl, ho9, hx9⟩
        obtain ⟨A9, c9, rfl⟩ := ho9.form
        clear HRC0 c1
        have HX9 := Lib.hid hx9
        clear hx9
        go_wp2
        go_loopw [14, 15] (fun iv jv V => ∃ i : Nat, iv = .int .i64 i ∧ i ≤ all.length ∧ Ext wb V ∧ Shp w9 V) (fun iv _ _ => all.length - (intOf iv).toNat)
        case atStart => exact ⟨0, rfl, by omega, HX9.out, Shp.refl _⟩
        case round =>
          obtain ⟨i, rfl, hi, hxi, hsi⟩ := hrel
          by_cases hlt : i < all.length
          · have hlt2 : (i : Int) < all.length := by omega
            have hil := HGS.out all[i] (List.getElem_mem hlt)
            go_wp2
            go_loopw [15] (fun jv V => ∃ j : Nat, jv = .int .i64 j ∧ j ≤ all[i].length ∧ Ext wb V ∧ Shp w9 V) (fun jv _ => all[i].length - (intOf jv).toNat)
            case atStart => exact ⟨0, rfl, by omega, hxi, hsi⟩
            case round =>
              clear hxi hsi
              obtain ⟨j, rfl, hj, hxi, hsi⟩ := hrel
              obtain ⟨ad, A', c', hA, hc9, hown⟩ := ho9.shp hsi hlt
              subst hA
              by_cases hjl : j < all[i].length
              · obtain ⟨gg, b, cs, hA', hg, hcb, hz, hrow⟩ := hown.shp hsi hjl
                subst hA'
                obtain ⟨y, hy⟩ := xor_one b
                have HSR := Lib.hid (hsi.set hrow j y)
                have HXJ := Lib.hid (hxi.setCell (p := ⟨gg, j, none⟩) hg (.int .u8 (y.toNat : Int)))
                have hjl2 : (j : Int) < (all[i].length : Int) := by omega
                clear hown hrow hsi hxi hj
                generalize all[i].length = n at *
                generalize b.toNat = x at *
                go_wp2
                go_roundw
                case rel => exact ⟨j + 1, by go_num, by omega, HXJ.out, HSR.out⟩
                case measure => simp [intOf]; omega
              · have hjl2 : ¬ (j : Int) < (all[i].length : Int) := by omega
                clear hown hj hjl
                generalize all[i].length = n at *
                go_wp2
                go_roundw
                case rel => exact ⟨i + 1, by go_num, by omega, hxi, hsi⟩
                case measure => simp [intOf]; omega
          · have hlt2 : ¬ (i : Int) < all.length := by omega
            have HXI := Lib.hid hxi
            clear hlt ho9 hsi
            have HLV := fun V => live_any V
            go_wp2_with fail
            refine wp_region_phase (S := fun V => Ext wb V) 13 (by kernel_rfl) (by kernel_rfl) ?_ (fun hHeld => ?_)
            · exact HXI.out.drew
            simp only [List.drop_succ_cons, List.drop_zero]
            refine name_head ?_
            intro wr0 hw0
            rw [hw0] at hHeld
            refine wpHead_ready (rs := [0]) (by kernel_rfl) (by simp) (by kernel_rfl) ?_
            refine AllHead.cons (by rfl) (fun K hK => ?_) ?_
            · refine step_callG (by rfl) (by kernel_rfl) (HLV wr0) ?_
              rintro e wrz ⟨rfl, hx0⟩
              have hk0 := hHeld.trans hx0
              refine ⟨_, rfl, ?_⟩
              refine hK.out _ _ ?_ (fun hHeld => ?_)
              · exact hk0
              clear hK K
              try simp only [List.getElem_toArray, List.getElem_cons_zero, Act.put, List.setIfInBounds_toArray, List.set_cons_zero, List.set_cons_succ]
              refine wpHead_take (i := 1) (v := ?_) (by rfl) (by kernel_rfl) (by kernel_rfl) (by exact fun _ _ _ h => h) (Or.inl ⟨by rfl, ?_⟩) (by assumption) ?_
              rotate_left
              · intro w hSw
                first | (go_simp; done) | (go_simp; with_reducible rfl)
              simp only [List.getElem_toArray, List.getElem_cons_succ, List.getElem_cons_zero, Act.put, List.setIfInBounds_toArray, List.set_cons_zero, List.set_cons_succ]
              refine wpHead_take (i := 2) (v := ?_) (by rfl) (by kernel_rfl) (by kernel_rfl) (by exact fun _ _ _ h => h) (Or.inl ⟨by rfl, ?_⟩) (by assumption) ?_
              rotate_left
              · intro w hSw
                first | (go_simp; done) | (go_simp; with_reducible rfl)
              simp only [List.getElem_toArray, List.getElem_cons_succ, List.getElem_cons_zero, Act.put, List.setIfInBounds_toArray, List.set_cons_zero, List.set_cons_succ]
              refine wpHead_take (i := 3) (v := ?_) (by rfl) (by kernel_rfl) (by kernel_rfl) (by exact fun _ _ _ h => h) (Or.inl ⟨by rfl, ?_⟩) (by assumption) ?_
              rotate_left
              · intro w hSw
                first | (go_simp; done) | (go_simp; with_reducible rfl)
              simp only [List.getElem_toArray, List.getElem_cons_succ, List.getElem_cons_zero, Act.put, List.setIfInBounds_toArray, List.set_cons_zero, List.set_cons_succ]
              refine wpHead_take (i := 4) (v := ?_) (by rfl) (by kernel_rfl) (by kernel_rfl) (by exact fun _ _ _ h => h) (Or.inl ⟨by rfl, ?_⟩) (by assumption) ?_
              rotate_left
              · intro w hSw
                first | (go_simp; done) | (go_simp; with_reducible rfl)
              simp only [List.getElem_toArray, List.getElem_cons_succ, List.getElem_cons_zero, Act.put, List.setIfInBounds_toArray, List.set_cons_zero, List.set_cons_succ]
              refine wpHead_take (i := 5) (v := ?_) (by rfl) (by kernel_rfl) (by kernel_rfl) (by exact fun _ _ _ h => h) (Or.inl ⟨by rfl, ?_⟩) (by assumption) ?_
              rotate_left
              · intro w hSw
                first | (go_simp; done) | (go_simp; with_reducible rfl)
              simp only [List.getElem_toArray, List.getElem_cons_succ, List.getElem_cons_zero, Act.put, List.setIfInBounds_toArray, List.set_cons_zero, List.set_cons_succ]
              refine wpHead_take (i := 7) (v := ?_) (by rfl) (by kernel_rfl) (by kernel_rfl) (by exact fun _ _ _ h => h) (Or.inl ⟨by rfl, ?_⟩) (by assumption) ?_
              rotate_left
              · intro w hSw
                first | (go_simp; done) | (go_simp; with_reducible rfl)
              simp only [List.getElem_toArray, List.getElem_cons_succ, List.getElem_cons_zero, Act.put, List.setIfInBounds_toArray, List.set_cons_zero, List.set_cons_succ]
              refine wpHead_take (i := 8) (v := ?_) (by rfl) (by kernel_rfl) (by kernel_rfl) (by exact fun _ _ _ h => h) (Or.inl ⟨by rfl, ?_⟩) (by assumption) ?_
              rotate_left
              · intro w hSw
                first | (go_simp; done) | (go_simp; with_reducible rfl)
              simp only [List.getElem_toArray, List.getElem_cons_succ, List.getElem_cons_zero, Act.put, List.setIfInBounds_toArray, List.set_cons_zero, List.set_cons_succ]
              refine wpHead_take (i := 9) (v := ?_) (by rfl) (by kernel_rfl) (by kernel_rfl) (by exact fun _ _ _ h => h) (Or.inl ⟨by rfl, ?_⟩) (by assumption) ?_
              rotate_left
              · intro w hSw
                first | (go_simp; done) | (go_simp; with_reducible rfl)
              simp only [List.getElem_toArray, List.getElem_cons_succ, List.getElem_cons_zero, Act.put, List.setIfInBounds_toArray, List.set_cons_zero, List.set_cons_succ]
              refine wpHead_take (i := 10) (v := ?_) (by rfl) (by kernel_rfl) (by kernel_rfl) (by exact fun _ _ _ h => h) (Or.inl ⟨by rfl, ?_⟩) (by assumption) ?_
              rotate_left
              · intro w hSw
                first | (go_simp; done) | (go_simp; with_reducible rfl)
              simp only [List.getElem_toArray, List.getElem_cons_succ, List.getElem_cons_zero, Act.put, List.setIfInBounds_toArray, List.set_cons_zero, List.set_cons_succ]
              refine wpHead_ready (rs := [6]) (by kernel_rfl) (by simp) (by kernel_rfl) ?_
              refine AllHead.cons (by rfl) (fun K hK => ?_) ?_
              · refine step_callG (by rfl) (by kernel_rfl) (HRC wrz hHeld) ?_
                rintro e wr6 ⟨v6, rfl, ho6, hx6⟩
                obtain ⟨A6, c6, rfl⟩ := ho6.form
                have hk6 := hHeld.trans hx6
                refine ⟨_, rfl, ?_⟩
                refine hK.out _ _ ?_ (fun hHeld => ?_)
                · exact hk6
                clear hK K
                try simp only [List.getElem_toArray, List.getElem_cons_succ, List.getElem_cons_zero, Act.put, List.setIfInBounds_toArray, List.set_cons_zero, List.set_cons_succ]
                refine wpHead_ready (rs := [11]) (by kernel_rfl) (by simp) (by kernel_rfl) ?_
                refine AllHead.cons (by rfl) (fun K hK => ?_) ?_
                · refine step_callG (by rfl) (by kernel_rfl) (RSame_any A6 Av c6 cv all.length all.length all all wr6 ho6.bss (HI.out.ext hHeld).bss rfl rfl (by omega)) ?_
                  rintro e wr11 ⟨rfl, hx11⟩
                  have hk11 := hHeld.trans hx11
                  refine ⟨_, rfl, ?_⟩
                  refine hK.out _ _ ?_ (fun hHeld => ?_)
                  · exact hk11
                  clear hK K
                  try simp only [List.getElem_toArray, List.getElem_cons_succ, List.getElem_cons_zero, Act.put, List.setIfInBounds_toArray, List.set_cons_zero, List.set_cons_succ]
                  refine wpHead_take (i := 12) (v := ?_) (by rfl) (by kernel_rfl) (by kernel_rfl) (by exact fun _ _ _ h => h) (Or.inl ⟨by rfl, ?_⟩) (by assumption) ?_
                  rotate_left
                  · intro w hSw
                    first | (go_simp; done) | (go_simp; with_reducible rfl)
                  simp only [List.getElem_toArray, List.getElem_cons_succ, List.getElem_cons_zero, Act.put, List.setIfInBounds_toArray, List.set_cons_zero, List.set_cons_succ]
                  refine wpHead_done (by kernel_rfl) ?_
                  have hdd : decide (all = all) = true := decide_eq_true rfl
                  have HXX := Lib.hid (HX1.out.trans (HXR.out.trans hHeld))
                  go_wp2
                  go_ret
                  exact ⟨by first | rfl | simp, HXX.out⟩
                exact AllHead.nil
              exact AllHead.nil
            exact AllHead.nil
end Go.Proofs.Ytklodimokhndoaa
