/- The walk of the reference's Print; AddrPrints: it answers true. Conditions: the texts are at most 2^43 bytes long, and the library's two tables are laid. -/
import Derived.Test.YtigkmlhkfpdajaaDoorRAd6
import Derived.Test.YtigkmlhkfpdajaaDoorRAd4
import Derived.Test.YtigkmlhkfpdajaaDoorRQuote2
import Derived.Test.YtigkmlhkfpdajaaDoorAd5
namespace Go.Proofs.YtigkmlhkfpdajaaDoor
open Go.RowKit
theorem prn_take {lo : List UInt8} {i : Nat} (hi : i < lo.length) : (lo.take (i + 1)).all prnB = ((lo.take i).all prnB && prnB lo[i]) := by
  rw [List.take_add_one, List.getElem?_eq_getElem hi, Option.toList_some, List.all_append]
  simp
set_option maxRecDepth 20000 in
set_option maxHeartbeats 3200000 in
theorem RPrint_any (lo dm : List UInt8) (w : World) (hlo : lo.length ≤ 8796093021000) (hdm : dm.length ≤ 8796093021000) (hT : Tabs w) : Calls Tryd.prog 14 #[.agg #[.string (st lo), .string (st dm)]] w (PrSays lo dm w) := by
  obtain ⟨C0, C1, C2⟩ := rows2 (heap_alloc_new w (.cells #[.string (st lo), .string (st dm)] 23 (0, 0)))
  have hx0 : Ext w (w.alloc (.cells #[.string (st lo), .string (st dm)] 23)) := (Ext.refl w).alloc _
  have HT := Lib.hid hT
  obtain ⟨hr1, hr2, hr3⟩ := print_ref lo dm
  have HR1 := Lib.hid hr1
  have HR2 := Lib.hid hr2
  have HR3 := Lib.hid hr3
  clear hT hr1 hr2 hr3
  have hll := lets_length dm
  have hlen := lets_len' dm
  have HOK := Lib.hid (letL_ok _ dm (Nat.le_refl _))
  have c0 := C0 _ (Ext.refl _)
  have c1 := C1 _ (Ext.refl _)
  go_enter Tryd.func14, Tryd.ntmps14
  go_wp2_with (first | (with_reducible refine stop_alloc 23 ?_) | (with_reducible refine stop_store 23 ?_) | (with_reducible refine stop_load 23 ?_))
  generalize hw0 : w.alloc (.cells #[.string (st lo), .string (st dm)] 23) = w0 at *
  generalize w.heap.size = g at *
  clear hw0
  go_loopw [4, 5] (fun a b wr => ∃ i : Nat, a = .bool (decide (0 < lo.length) && (lo.take i).all prnB) ∧ b = .int .i64 i ∧ i ≤ lo.length ∧ wr = w0) (fun _ b _ => lo.length - (intOf b).toNat)
  case atStart => exact ⟨0, by simp, rfl, by omega, rfl⟩
  case round =>
    obtain ⟨i, rfl, rfl, hi, rfl⟩ := hrel
    by_cases hlt : i < lo.length
    · have hlt2 : (i : Int) < (lo.length : Int) := by omega
      have h00 : decide (0 < lo.length) = true := decide_eq_true (by omega)
      have his : i < (st lo).size := by rw [st_size]; exact hlt
      have HTK := Lib.hid (prn_take hlt)
      have hge : (st lo)[i] = lo[i] := rfl
      rw [h00, Bool.true_and]
      generalize lo[i] = x at *
      have hxl := x.toNat_lt
      cases hall : (lo.take i).all prnB with
      | false =>
        have HTK2 : Hid ((lo.take (i + 1)).all prnB = false) := Lib.hid (by rw [HTK.out, hall]; rfl)
        clear hall
        go_wp2
        go_roundw
        case rel => exact ⟨i + 1, by rw [HTK2.out]; simp, by go_num, by omega, (by first | rfl | trivial)⟩
        case measure => simp [intOf]; omega
      | true =>
        have HTK2 : Hid ((lo.take (i + 1)).all prnB = prnB x) := Lib.hid (by rw [HTK.out, hall]; rfl)
        clear hall h00
        by_cases h1 : (32 : Int) ≤ (x.toNat : Int)
        · by_cases h2 : (x.toNat : Int) ≤ 126
          · have HB : Hid (prnB x = true) := Lib.hid (by unfold prnB; rw [decide_eq_true_eq]; omega)
            go_wp2
            go_roundw
            case rel => exact ⟨i + 1, by rw [HTK2.out, HB.out]; rfl, by go_num, by omega, (by first | rfl | trivial)⟩
            case measure => simp [intOf]; omega
          · have HB : Hid (prnB x = false) := Lib.hid (by unfold prnB; rw [decide_eq_false]; omega)
            go_wp2
            go_roundw
            case rel => exact ⟨i + 1, by rw [HTK2.out, HB.out]; rfl, by go_num, by omega, (by first | rfl | trivial)⟩
            case measure => simp [intOf]; omega
        · have HB : Hid (prnB x = false) := Lib.hid (by unfold prnB; rw [decide_eq_false]; omega)
          go_wp2
          go_roundw
          case rel => exact ⟨i + 1, by rw [HTK2.out, HB.out]; rfl, by go_num, by omega, (by first | rfl | trivial)⟩
          case measure => simp [intOf]; omega
    · have hlt2 : ¬ (i : Int) < (lo.length : Int) := by omega
      have hi2 : i = lo.length := by omega
      subst hi2
      rw [List.take_length]
      have HL := Letters_any dm wr (by omega) (HT.out.ext hx0)
      cases hpl : (decide (0 < lo.length) && lo.all prnB) with
      | false =>
        have HE : Hid (printT lo dm = ([], 4)) := Lib.hid (HR1.out (by
          by_cases h : lo = []
          · exact .inr (.inl h)
          · left
            rw [decide_eq_true (List.length_pos_iff.2 h), Bool.true_and] at hpl
            exact hpl))
        clear hpl
        go_wp2_with fail
        refine HL.mono ?_
        rintro e w2 ⟨v, rfl, ho, hx2⟩
        obtain ⟨A, cap, rfl⟩ := ho.form
        go_wp2_with fail
        have c0 := C0 _ hx2.drew
        have c1 := C1 _ hx2.drew
        go_quiet (fail)
        go_wp2
        go_ret2
        exact ⟨by rw [HE.out]; rfl, hx0.trans (hx2.drewN _)⟩
      | true =>
        simp only [Bool.and_eq_true, decide_eq_true_eq] at hpl
        have HNE : Hid (lo ≠ []) := Lib.hid (by intro e; rw [e] at hpl; simp at hpl)
        have HALL := Lib.hid hpl.2
        clear hpl
        go_wp2_with fail
        refine HL.mono ?_
        rintro e w2 ⟨v, rfl, ho, hx2⟩
        by_cases hd0 : (letL dm).length = 0
        · have HE : Hid (printT lo dm = ([], 4)) := Lib.hid (HR1.out (.inr (.inr (.inl (fun h => by have := (domV_ok.2 h).2; omega)))))
          obtain ⟨A, cap, rfl⟩ := ho.form
          rw [lets_length, hd0]
          go_wp2_with fail
          have c0 := C0 _ hx2.drew
          have c1 := C1 _ hx2.drew
          go_quiet (fail)
          go_wp2
          go_ret2
          exact ⟨by rw [HE.out]; rfl, hx0.trans (hx2.drewN _)⟩
        · have h00 : 0 < (letL dm).length := by omega
          obtain ⟨ad, cap, rfl, hc1, hc2, hcell⟩ := ho.cells (by rw [lets_length]; exact h00)
          rw [lets_length] at hc1 ⊢
          have HDM := fun wz (hx : Ext w2 wz) => domain_any (letL dm) HOK.out 0 (by omega) h00 (by omega) ad cap hc1 hc2 wz (fun k d hd => hcell k d.2 wz (lets_get hd) hx)
          have HLW := fun w => RLower_any (st dm) w (by rw [st_size]; omega)
          rw [tl_st] at HLW
          have hlq : (((letL dm).length : Int) == 0) = false := beq_eq_false_iff_ne.2 (by omega)
          have HDO : Hid (domV (letL dm) 0 = ((letL dm).length : Int) ↔ domOk dm) := Lib.hid ⟨fun h => domV_ok.1 ⟨h, h00⟩, fun h => (domV_ok.2 h).1⟩
          have D0 := fun w' (hx : Ext w2 w') => C0 w' (hx2.trans hx)
          have D1 := fun w' (hx : Ext w2 w') => C1 w' (hx2.trans hx)
          clear hcell ho hd0
          by_cases hdv : domV (letL dm) 0 = ((letL dm).length : Int)
          · have HDK := Lib.hid (HDO.out.1 hdv)
            rw [hdv] at HDM
            clear hdv HDO
            by_cases hlw : lowL dm = dm
            · have HLIM := Lib.hid (HR2.out HALL.out HNE.out HDK.out hlw)
              have HFIN := Lib.hid (HR3.out HALL.out HNE.out HDK.out hlw)
              have hq1 : (lowL dm == dm) = true := by simpa using hlw
              clear hlw
              generalize lowL dm = ld at *
              go_wp2_with fail
              refine wp_region_phase (S := fun w' => Ext w2 w') 21 (by kernel_rfl) (by kernel_rfl) ?_ (fun hHeld => ?_)
              · exact (Ext.refl _).drew
              simp only [List.drop_succ_cons, List.drop_zero]
              refine name_head ?_
              intro wr0 hw0
              rw [hw0] at hHeld
              refine wpHead_take (i := 0) (v := ?_) (by rfl) (by kernel_rfl) (by kernel_rfl) (by exact fun _ _ _ h => h) (Or.inl ⟨by rfl, ?_⟩) (by assumption) ?_
              rotate_left
              · intro w hSw
                first | (go_simp; done) | (go_simp; with_reducible rfl)
              simp only [List.getElem_toArray, List.getElem_cons_zero, Act.put, List.setIfInBounds_toArray, List.set_cons_zero, List.set_cons_succ]
              refine wpHead_take (i := 1) (v := ?_) (by rfl) (by kernel_rfl) (by kernel_rfl) (by exact fun _ _ _ h => h) (Or.inl ⟨by rfl, ?_⟩) (by assumption) ?_
              rotate_left
              · intro w hSw
                first | (go_simp; done) | (go_simp; with_reducible rfl)
              simp only [List.getElem_toArray, List.getElem_cons_succ, List.getElem_cons_zero, Act.put, List.setIfInBounds_toArray, List.set_cons_zero, List.set_cons_succ]
              refine wpHead_take (i := 2) (v := ?_) (by rfl) (by kernel_rfl) (by kernel_rfl) (by exact fun _ _ _ h => h) (Or.inl ⟨by rfl, ?_⟩) (by assumption) ?_
              rotate_left
              · intro w hSw
                first | (go_simp; done) | (go_simp; with_reducible rfl)
              simp only [List.getElem_toArray, List.getElem_cons_succ, List.getElem_cons_zero, Act.put, List.setIfInBounds_toArray, List.set_cons_zero, List.set_cons_succ]
              refine wpHead_take (i := 3) (v := ?_) (by rfl) (by kernel_rfl) (by kernel_rfl) (by exact fun _ _ _ h => h) (Or.inl ⟨by rfl, ?_⟩) (by assumption) ?_
              rotate_left
              · intro w hSw
                first | (go_simp; done) | (go_simp; with_reducible rfl)
              simp only [List.getElem_toArray, List.getElem_cons_succ, List.getElem_cons_zero, Act.put, List.setIfInBounds_toArray, List.set_cons_zero, List.set_cons_succ]
              refine wpHead_take (i := 4) (v := ?_) (by rfl) (by kernel_rfl) (by kernel_rfl) (by exact fun _ _ _ h => h) (Or.inl ⟨by rfl, ?_⟩) (by assumption) ?_
              rotate_left
              · intro w hSw
                first | (go_simp; done) | (go_simp; with_reducible rfl)
              simp only [List.getElem_toArray, List.getElem_cons_succ, List.getElem_cons_zero, Act.put, List.setIfInBounds_toArray, List.set_cons_zero, List.set_cons_succ]
              refine wpHead_take (i := 5) (v := ?_) (by rfl) (by kernel_rfl) (by kernel_rfl) (by exact fun _ _ _ h => h) (Or.inl ⟨by rfl, ?_⟩) (by assumption) ?_
              rotate_left
              · intro w hSw
                first | (go_simp; done) | (go_simp; with_reducible rfl)
              simp only [List.getElem_toArray, List.getElem_cons_succ, List.getElem_cons_zero, Act.put, List.setIfInBounds_toArray, List.set_cons_zero, List.set_cons_succ]
              refine wpHead_take (i := 6) (v := ?_) (by rfl) (by kernel_rfl) (by kernel_rfl) (by exact fun _ _ _ h => h) (Or.inl ⟨by rfl, ?_⟩) (by assumption) ?_
              rotate_left
              · intro w hSw
                first | (go_simp; done) | (go_simp; with_reducible rfl)
              simp only [List.getElem_toArray, List.getElem_cons_succ, List.getElem_cons_zero, Act.put, List.setIfInBounds_toArray, List.set_cons_zero, List.set_cons_succ]
              refine wpHead_take (i := 7) (v := ?_) (by rfl) (by kernel_rfl) (by kernel_rfl) (by exact fun _ _ _ h => h) (Or.inl ⟨by rfl, ?_⟩) (by assumption) ?_
              rotate_left
              · intro w hSw
                first | (go_simp; done) | (go_simp; with_reducible rfl)
              simp only [List.getElem_toArray, List.getElem_cons_succ, List.getElem_cons_zero, Act.put, List.setIfInBounds_toArray, List.set_cons_zero, List.set_cons_succ]
              refine wpHead_take (i := 8) (v := ?_) (by rfl) (by kernel_rfl) (by kernel_rfl) (by exact fun _ _ _ h => h) (Or.inl ⟨by rfl, ?_⟩) (by assumption) ?_
              rotate_left
              · intro w hSw
                first | (go_simp; done) | (go_simp; with_reducible rfl)
              simp only [List.getElem_toArray, List.getElem_cons_succ, List.getElem_cons_zero, Act.put, List.setIfInBounds_toArray, List.set_cons_zero, List.set_cons_succ]
              refine wpHead_take (i := 10) (v := ?_) (by rfl) (by kernel_rfl) (by kernel_rfl) (by exact fun _ _ _ h => h) (Or.inl ⟨by rfl, ?_⟩) (by assumption) ?_
              rotate_left
              · intro w hSw
                first | (go_simp; done) | (go_simp; with_reducible rfl)
              simp only [List.getElem_toArray, List.getElem_cons_succ, List.getElem_cons_zero, Act.put, List.setIfInBounds_toArray, List.set_cons_zero, List.set_cons_succ]
              refine wpHead_take (i := 11) (v := ?_) (by rfl) (by kernel_rfl) (by kernel_rfl) (by exact fun _ _ _ h => h) (Or.inl ⟨by rfl, ?_⟩) (by assumption) ?_
              rotate_left
              · intro w hSw
                first | (go_simp; done) | (go_simp; with_reducible rfl)
              simp only [List.getElem_toArray, List.getElem_cons_succ, List.getElem_cons_zero, Act.put, List.setIfInBounds_toArray, List.set_cons_zero, List.set_cons_succ]
              refine wpHead_ready (rs := [9]) (by kernel_rfl) (by simp) (by kernel_rfl) ?_
              refine AllHead.cons (by rfl) (fun K hK => ?_) ?_
              · refine step_callG (by rfl) (by kernel_rfl) (HDM _ hHeld) ?_
                rintro e wr9 ⟨rfl, rfl⟩
                refine ⟨_, rfl, ?_⟩
                refine hK.out _ _ ?_ (fun hHeld => ?_)
                · exact hHeld
                clear hK K
                try simp only [List.getElem_toArray, List.getElem_cons_succ, List.getElem_cons_zero, Act.put, List.setIfInBounds_toArray, List.set_cons_zero, List.set_cons_succ]
                refine wpHead_take (i := 12) (v := ?_) (by rfl) (by kernel_rfl) (by kernel_rfl) (by exact fun _ _ _ h => h) (Or.inl ⟨by rfl, ?_⟩) (by assumption) ?_
                rotate_left
                · intro w hSw
                  first | (go_simp; done) | (go_simp; with_reducible rfl)
                simp only [List.getElem_toArray, List.getElem_cons_succ, List.getElem_cons_zero, Act.put, List.setIfInBounds_toArray, List.set_cons_zero, List.set_cons_succ]
                refine wpHead_take (i := 13) (v := ?_) (by rfl) (by kernel_rfl) (by kernel_rfl) (by exact fun _ _ _ h => h) (Or.inl ⟨by rfl, ?_⟩) (by assumption) ?_
                rotate_left
                · intro w hSw
                  first | (go_simp; done) | (go_simp; with_reducible rfl)
                simp only [List.getElem_toArray, List.getElem_cons_succ, List.getElem_cons_zero, Act.put, List.setIfInBounds_toArray, List.set_cons_zero, List.set_cons_succ]
                refine wpHead_take (i := 14) (v := ?_) (by rfl) (by kernel_rfl) (by kernel_rfl) (by exact fun _ _ _ h => h) (Or.inl ⟨by rfl, ?_⟩) (by assumption) ?_
                rotate_left
                · intro w hSw
                  first | (go_simp; done) | (go_simp; with_reducible rfl)
                simp only [List.getElem_toArray, List.getElem_cons_succ, List.getElem_cons_zero, Act.put, List.setIfInBounds_toArray, List.set_cons_zero, List.set_cons_succ]
                refine wpHead_take (i := 15) (v := ?_) (by rfl) (by kernel_rfl) (by kernel_rfl) (by exact fun _ _ _ h => h) (Or.inl ⟨by rfl, ?_⟩) (by assumption) ?_
                rotate_left
                · intro w hSw
                  first | (go_simp; done) | (go_simp; with_reducible rfl)
                simp only [List.getElem_toArray, List.getElem_cons_succ, List.getElem_cons_zero, Act.put, List.setIfInBounds_toArray, List.set_cons_zero, List.set_cons_succ]
                refine wpHead_take (i := 16) (v := ?_) (by rfl) (by kernel_rfl) (by kernel_rfl) (by exact fun _ _ _ h => h) (Or.inl ⟨by rfl, ?_⟩) (by assumption) ?_
                rotate_left
                · intro w hSw
                  first | (go_simp; done) | (go_simp; with_reducible rfl)
                simp only [List.getElem_toArray, List.getElem_cons_succ, List.getElem_cons_zero, Act.put, List.setIfInBounds_toArray, List.set_cons_zero, List.set_cons_succ]
                refine wpHead_take (i := 18) (v := ?_) (by rfl) (by kernel_rfl) (by kernel_rfl) (by exact fun _ _ _ h => h) (Or.inl ⟨by rfl, ?_⟩) (by assumption) ?_
                rotate_left
                · intro w hSw
                  first | (go_simp; done) | (go_simp; with_reducible rfl)
                simp only [List.getElem_toArray, List.getElem_cons_succ, List.getElem_cons_zero, Act.put, List.setIfInBounds_toArray, List.set_cons_zero, List.set_cons_succ]
                refine wpHead_take (i := 19) (v := ?_) (by rfl) (by kernel_rfl) (by kernel_rfl) (by exact fun _ _ _ h => h) (Or.inl ⟨by rfl, ?_⟩) (by assumption) ?_
                rotate_left
                · intro w hSw
                  first | (go_simp; done) | (go_simp; with_reducible rfl)
                simp only [List.getElem_toArray, List.getElem_cons_succ, List.getElem_cons_zero, Act.put, List.setIfInBounds_toArray, List.set_cons_zero, List.set_cons_succ]
                refine wpHead_ready (rs := [17]) (by kernel_rfl) (by simp) (by kernel_rfl) ?_
                refine AllHead.cons (by rfl) (fun K hK => ?_) ?_
                · refine step_callG (by rfl) (by kernel_rfl) (HLW _) ?_
                  rintro e wr17 ⟨rfl, hx8⟩
                  refine ⟨_, rfl, ?_⟩
                  refine hK.out _ _ ?_ (fun hHeld => ?_)
                  · exact hHeld.trans hx8
                  clear hK K
                  try simp only [List.getElem_toArray, List.getElem_cons_succ, List.getElem_cons_zero, Act.put, List.setIfInBounds_toArray, List.set_cons_zero, List.set_cons_succ]
                  refine wpHead_take (i := 20) (v := ?_) (by rfl) (by kernel_rfl) (by kernel_rfl) (by exact fun _ _ _ h => h) (Or.inl ⟨by rfl, ?_⟩) (by assumption) ?_
                  rotate_left
                  · intro w hSw
                    first | (go_simp; done) | (go_simp; with_reducible rfl)
                  simp only [List.getElem_toArray, List.getElem_cons_succ, List.getElem_cons_zero, Act.put, List.setIfInBounds_toArray, List.set_cons_zero, List.set_cons_succ]
                  refine wpHead_done (by kernel_rfl) ?_
                  have hx3 := hx2.trans hHeld
                  have c0 := C0 _ hx3
                  have c1 := C1 _ hx3
                  by_cases h64 : (64 : Int) < (lo.length : Int)
                  · have HF : Hid (printT lo dm = ([], 6)) := Lib.hid (HLIM.out (.inl (by omega)))
                    clear HFIN
                    go_wp2
                    go_ret2
                    exact ⟨by rw [HF.out]; rfl, hx0.trans hx3⟩
                  · by_cases h255 : (255 : Int) < (dm.length : Int)
                    · have HF : Hid (printT lo dm = ([], 6)) := Lib.hid (HLIM.out (.inr (by omega)))
                      clear HFIN
                      go_wp2
                      go_ret2
                      exact ⟨by rw [HF.out]; rfl, hx0.trans hx3⟩
                    · have HF := Lib.hid (HFIN.out (by omega))
                      have hlb := local_bare (prn_all.1 HALL.out) HNE.out (by omega)
                      have HP := RParse_any (lo ++ [64, 97]) _ (by simp; omega) (HT.out.ext (hx0.trans hx3))
                      unfold PSays at HP
                      rw [← show st lo ++ (⟨#[64, 97]⟩ : ByteArray) = st (lo ++ [64, 97]) from by rw [show (⟨#[64, 97]⟩ : ByteArray) = st [64, 97] from rfl, st_append]] at HP
                      generalize parseT (lo ++ [64, 97]) = pr at *
                      obtain ⟨pa, pb, pc, pd⟩ := pr
                      dsimp only at HP hlb
                      have HLB := Lib.hid hlb
                      have hcc1 : ¬ (9223372036854775807 : Int) < (lo.length : Int) + 2 := by omega
                      clear hlb HFIN HLIM
                      go_wp2_with fail
                      refine HP.mono ?_
                      rintro e w5 ⟨rfl, hx5⟩
                      have hx05 := hx3.trans hx5
                      clear HP hx3 hx5 c0 c1
                      go_wp2_with (first | (with_reducible refine stop_alloc 23 ?_) | (with_reducible refine stop_store 23 ?_) | (with_reducible refine stop_load 23 ?_))
                      refine go_on (wpList_alloc_ rfl rfl addr_info ?_)
                      go_wp2_with (first | (with_reducible refine stop_alloc 23 ?_) | (with_reducible refine stop_store 23 ?_) | (with_reducible refine stop_load 23 ?_))
                      refine go_on (wpList_store_whole rfl rfl rfl rfl (heap_alloc_new w5 _) (by kernel_rfl) rfl (by simp [Value.oneCell']) ?_)
                      intro w6 hrow hk6 hz6
                      have hx6 : Ext wr w6 := (hx05.alloc _).kept hk6 (one_ge hx05.size)
                      obtain ⟨p0, p1, p2⟩ := row2_at hrow
                      have c0 := C0 _ hx6
                      have c1 := C1 _ hx6
                      clear hrow hk6 hz6 hx05
                      generalize w5.heap.size = g5 at *
                      have hcc2 : ¬ (9223372036854775807 : Int) < (lo.length : Int) + 1 := by omega
                      have hcc3 : ¬ (9223372036854775807 : Int) < (lo.length : Int) + 1 + (dm.length : Int) := by omega
                      by_cases h0 : pd = 0
                      · subst h0
                        by_cases hpa : pa = lo
                        · have HG : Hid (printT lo dm = (lo ++ 64 :: dm, 0)) := Lib.hid (by rw [HF.out, if_pos (HLB.out.1 ⟨rfl, hpa⟩)])
                          have hq : (pa == lo) = true := by simpa using hpa
                          clear hpa HLB HF
                          go_wp2
                          go_ret2
                          refine ⟨?_, hx0.trans hx6⟩
                          rw [HG.out]
                          simp [show (⟨#[64]⟩ : ByteArray) = st [64] from rfl, st_append]
                        · have HNB : Hid (¬ bareT lo = true) := Lib.hid (fun h => hpa (HLB.out.2 h).2)
                          have hq : (pa == lo) = false := by simpa using hpa
                          clear hpa HLB
                          have HG : Hid (printT lo dm = ((quoteT lo).1 ++ 64 :: dm, 0)) := Lib.hid (by rw [HF.out, if_neg HNB.out])
                          have HQ := RQuote_any lo w6 (by omega) (HT.out.ext (hx0.trans hx6))
                          have HQL := quoteT_len lo
                          unfold QSays at HQ
                          generalize quoteT lo = qq at *
                          obtain ⟨q1, q2, q3⟩ := qq
                          dsimp only at HG HQL HQ
                          clear HF HNB
                          go_wp2_with fail
                          refine HQ.mono ?_
                          rintro e w7 ⟨rfl, hx7⟩
                          have hx67 := hx6.trans hx7
                          clear HQ hx7 hx6 c0 c1 p0 p1 p2
                          have c0 := C0 _ hx67
                          have c1 := C1 _ hx67
                          have hcc4 : ¬ (9223372036854775807 : Int) < (q1.length : Int) + 1 := by omega
                          have hcc5 : ¬ (9223372036854775807 : Int) < (q1.length : Int) + 1 + (dm.length : Int) := by omega
                          go_wp2
                          go_ret2
                          refine ⟨?_, hx0.trans hx67⟩
                          rw [HG.out]
                          simp [show (⟨#[64]⟩ : ByteArray) = st [64] from rfl, st_append]
                      · have HNB : Hid (¬ bareT lo = true) := Lib.hid (fun h => h0 (HLB.out.2 h).1)
                        have hq : ((pd : Int) == 0) = false := beq_eq_false_iff_ne.2 (by omega)
                        clear h0 HLB
                        have HG : Hid (printT lo dm = ((quoteT lo).1 ++ 64 :: dm, 0)) := Lib.hid (by rw [HF.out, if_neg HNB.out])
                        have HQ := RQuote_any lo w6 (by omega) (HT.out.ext (hx0.trans hx6))
                        have HQL := quoteT_len lo
                        unfold QSays at HQ
                        generalize quoteT lo = qq at *
                        obtain ⟨q1, q2, q3⟩ := qq
                        dsimp only at HG HQL HQ
                        clear HF HNB
                        go_wp2_with fail
                        refine HQ.mono ?_
                        rintro e w7 ⟨rfl, hx7⟩
                        have hx67 := hx6.trans hx7
                        clear HQ hx7 hx6 c0 c1 p0 p1 p2
                        have c0 := C0 _ hx67
                        have c1 := C1 _ hx67
                        have hcc4 : ¬ (9223372036854775807 : Int) < (q1.length : Int) + 1 := by omega
                        have hcc5 : ¬ (9223372036854775807 : Int) < (q1.length : Int) + 1 + (dm.length : Int) := by omega
                        go_wp2
                        go_ret2
                        refine ⟨?_, hx0.trans hx67⟩
                        rw [HG.out]
                        simp [show (⟨#[64]⟩ : ByteArray) = st [64] from rfl, st_append]
                exact AllHead.nil
              exact AllHead.nil
            · have HE : Hid (printT lo dm = ([], 4)) := Lib.hid (HR1.out (.inr (.inr (.inr hlw))))
              have hq1 : (lowL dm == dm) = false := by simpa using hlw
              clear hlw
              generalize lowL dm = ld at *
              go_wp2_with fail
              refine wp_region_phase (S := fun w' => Ext w2 w') 21 (by kernel_rfl) (by kernel_rfl) ?_ (fun hHeld => ?_)
              · exact (Ext.refl _).drew
              simp only [List.drop_succ_cons, List.drop_zero]
              refine name_head ?_
              intro wr0 hw0
              rw [hw0] at hHeld
              refine wpHead_take (i := 0) (v := ?_) (by rfl) (by kernel_rfl) (by kernel_rfl) (by exact fun _ _ _ h => h) (Or.inl ⟨by rfl, ?_⟩) (by assumption) ?_
              rotate_left
              · intro w hSw
                first | (go_simp; done) | (go_simp; with_reducible rfl)
              simp only [List.getElem_toArray, List.getElem_cons_zero, Act.put, List.setIfInBounds_toArray, List.set_cons_zero, List.set_cons_succ]
              refine wpHead_take (i := 1) (v := ?_) (by rfl) (by kernel_rfl) (by kernel_rfl) (by exact fun _ _ _ h => h) (Or.inl ⟨by rfl, ?_⟩) (by assumption) ?_
              rotate_left
              · intro w hSw
                first | (go_simp; done) | (go_simp; with_reducible rfl)
              simp only [List.getElem_toArray, List.getElem_cons_succ, List.getElem_cons_zero, Act.put, List.setIfInBounds_toArray, List.set_cons_zero, List.set_cons_succ]
              refine wpHead_take (i := 2) (v := ?_) (by rfl) (by kernel_rfl) (by kernel_rfl) (by exact fun _ _ _ h => h) (Or.inl ⟨by rfl, ?_⟩) (by assumption) ?_
              rotate_left
              · intro w hSw
                first | (go_simp; done) | (go_simp; with_reducible rfl)
              simp only [List.getElem_toArray, List.getElem_cons_succ, List.getElem_cons_zero, Act.put, List.setIfInBounds_toArray, List.set_cons_zero, List.set_cons_succ]
              refine wpHead_take (i := 3) (v := ?_) (by rfl) (by kernel_rfl) (by kernel_rfl) (by exact fun _ _ _ h => h) (Or.inl ⟨by rfl, ?_⟩) (by assumption) ?_
              rotate_left
              · intro w hSw
                first | (go_simp; done) | (go_simp; with_reducible rfl)
              simp only [List.getElem_toArray, List.getElem_cons_succ, List.getElem_cons_zero, Act.put, List.setIfInBounds_toArray, List.set_cons_zero, List.set_cons_succ]
              refine wpHead_take (i := 4) (v := ?_) (by rfl) (by kernel_rfl) (by kernel_rfl) (by exact fun _ _ _ h => h) (Or.inl ⟨by rfl, ?_⟩) (by assumption) ?_
              rotate_left
              · intro w hSw
                first | (go_simp; done) | (go_simp; with_reducible rfl)
              simp only [List.getElem_toArray, List.getElem_cons_succ, List.getElem_cons_zero, Act.put, List.setIfInBounds_toArray, List.set_cons_zero, List.set_cons_succ]
              refine wpHead_take (i := 5) (v := ?_) (by rfl) (by kernel_rfl) (by kernel_rfl) (by exact fun _ _ _ h => h) (Or.inl ⟨by rfl, ?_⟩) (by assumption) ?_
              rotate_left
              · intro w hSw
                first | (go_simp; done) | (go_simp; with_reducible rfl)
              simp only [List.getElem_toArray, List.getElem_cons_succ, List.getElem_cons_zero, Act.put, List.setIfInBounds_toArray, List.set_cons_zero, List.set_cons_succ]
              refine wpHead_take (i := 6) (v := ?_) (by rfl) (by kernel_rfl) (by kernel_rfl) (by exact fun _ _ _ h => h) (Or.inl ⟨by rfl, ?_⟩) (by assumption) ?_
              rotate_left
              · intro w hSw
                first | (go_simp; done) | (go_simp; with_reducible rfl)
              simp only [List.getElem_toArray, List.getElem_cons_succ, List.getElem_cons_zero, Act.put, List.setIfInBounds_toArray, List.set_cons_zero, List.set_cons_succ]
              refine wpHead_take (i := 7) (v := ?_) (by rfl) (by kernel_rfl) (by kernel_rfl) (by exact fun _ _ _ h => h) (Or.inl ⟨by rfl, ?_⟩) (by assumption) ?_
              rotate_left
              · intro w hSw
                first | (go_simp; done) | (go_simp; with_reducible rfl)
              simp only [List.getElem_toArray, List.getElem_cons_succ, List.getElem_cons_zero, Act.put, List.setIfInBounds_toArray, List.set_cons_zero, List.set_cons_succ]
              refine wpHead_take (i := 8) (v := ?_) (by rfl) (by kernel_rfl) (by kernel_rfl) (by exact fun _ _ _ h => h) (Or.inl ⟨by rfl, ?_⟩) (by assumption) ?_
              rotate_left
              · intro w hSw
                first | (go_simp; done) | (go_simp; with_reducible rfl)
              simp only [List.getElem_toArray, List.getElem_cons_succ, List.getElem_cons_zero, Act.put, List.setIfInBounds_toArray, List.set_cons_zero, List.set_cons_succ]
              refine wpHead_take (i := 10) (v := ?_) (by rfl) (by kernel_rfl) (by kernel_rfl) (by exact fun _ _ _ h => h) (Or.inl ⟨by rfl, ?_⟩) (by assumption) ?_
              rotate_left
              · intro w hSw
                first | (go_simp; done) | (go_simp; with_reducible rfl)
              simp only [List.getElem_toArray, List.getElem_cons_succ, List.getElem_cons_zero, Act.put, List.setIfInBounds_toArray, List.set_cons_zero, List.set_cons_succ]
              refine wpHead_take (i := 11) (v := ?_) (by rfl) (by kernel_rfl) (by kernel_rfl) (by exact fun _ _ _ h => h) (Or.inl ⟨by rfl, ?_⟩) (by assumption) ?_
              rotate_left
              · intro w hSw
                first | (go_simp; done) | (go_simp; with_reducible rfl)
              simp only [List.getElem_toArray, List.getElem_cons_succ, List.getElem_cons_zero, Act.put, List.setIfInBounds_toArray, List.set_cons_zero, List.set_cons_succ]
              refine wpHead_ready (rs := [9]) (by kernel_rfl) (by simp) (by kernel_rfl) ?_
              refine AllHead.cons (by rfl) (fun K hK => ?_) ?_
              · refine step_callG (by rfl) (by kernel_rfl) (HDM _ hHeld) ?_
                rintro e wr9 ⟨rfl, rfl⟩
                refine ⟨_, rfl, ?_⟩
                refine hK.out _ _ ?_ (fun hHeld => ?_)
                · exact hHeld
                clear hK K
                try simp only [List.getElem_toArray, List.getElem_cons_succ, List.getElem_cons_zero, Act.put, List.setIfInBounds_toArray, List.set_cons_zero, List.set_cons_succ]
                refine wpHead_take (i := 12) (v := ?_) (by rfl) (by kernel_rfl) (by kernel_rfl) (by exact fun _ _ _ h => h) (Or.inl ⟨by rfl, ?_⟩) (by assumption) ?_
                rotate_left
                · intro w hSw
                  first | (go_simp; done) | (go_simp; with_reducible rfl)
                simp only [List.getElem_toArray, List.getElem_cons_succ, List.getElem_cons_zero, Act.put, List.setIfInBounds_toArray, List.set_cons_zero, List.set_cons_succ]
                refine wpHead_take (i := 13) (v := ?_) (by rfl) (by kernel_rfl) (by kernel_rfl) (by exact fun _ _ _ h => h) (Or.inl ⟨by rfl, ?_⟩) (by assumption) ?_
                rotate_left
                · intro w hSw
                  first | (go_simp; done) | (go_simp; with_reducible rfl)
                simp only [List.getElem_toArray, List.getElem_cons_succ, List.getElem_cons_zero, Act.put, List.setIfInBounds_toArray, List.set_cons_zero, List.set_cons_succ]
                refine wpHead_take (i := 14) (v := ?_) (by rfl) (by kernel_rfl) (by kernel_rfl) (by exact fun _ _ _ h => h) (Or.inl ⟨by rfl, ?_⟩) (by assumption) ?_
                rotate_left
                · intro w hSw
                  first | (go_simp; done) | (go_simp; with_reducible rfl)
                simp only [List.getElem_toArray, List.getElem_cons_succ, List.getElem_cons_zero, Act.put, List.setIfInBounds_toArray, List.set_cons_zero, List.set_cons_succ]
                refine wpHead_take (i := 15) (v := ?_) (by rfl) (by kernel_rfl) (by kernel_rfl) (by exact fun _ _ _ h => h) (Or.inl ⟨by rfl, ?_⟩) (by assumption) ?_
                rotate_left
                · intro w hSw
                  first | (go_simp; done) | (go_simp; with_reducible rfl)
                simp only [List.getElem_toArray, List.getElem_cons_succ, List.getElem_cons_zero, Act.put, List.setIfInBounds_toArray, List.set_cons_zero, List.set_cons_succ]
                refine wpHead_take (i := 16) (v := ?_) (by rfl) (by kernel_rfl) (by kernel_rfl) (by exact fun _ _ _ h => h) (Or.inl ⟨by rfl, ?_⟩) (by assumption) ?_
                rotate_left
                · intro w hSw
                  first | (go_simp; done) | (go_simp; with_reducible rfl)
                simp only [List.getElem_toArray, List.getElem_cons_succ, List.getElem_cons_zero, Act.put, List.setIfInBounds_toArray, List.set_cons_zero, List.set_cons_succ]
                refine wpHead_take (i := 18) (v := ?_) (by rfl) (by kernel_rfl) (by kernel_rfl) (by exact fun _ _ _ h => h) (Or.inl ⟨by rfl, ?_⟩) (by assumption) ?_
                rotate_left
                · intro w hSw
                  first | (go_simp; done) | (go_simp; with_reducible rfl)
                simp only [List.getElem_toArray, List.getElem_cons_succ, List.getElem_cons_zero, Act.put, List.setIfInBounds_toArray, List.set_cons_zero, List.set_cons_succ]
                refine wpHead_take (i := 19) (v := ?_) (by rfl) (by kernel_rfl) (by kernel_rfl) (by exact fun _ _ _ h => h) (Or.inl ⟨by rfl, ?_⟩) (by assumption) ?_
                rotate_left
                · intro w hSw
                  first | (go_simp; done) | (go_simp; with_reducible rfl)
                simp only [List.getElem_toArray, List.getElem_cons_succ, List.getElem_cons_zero, Act.put, List.setIfInBounds_toArray, List.set_cons_zero, List.set_cons_succ]
                refine wpHead_ready (rs := [17]) (by kernel_rfl) (by simp) (by kernel_rfl) ?_
                refine AllHead.cons (by rfl) (fun K hK => ?_) ?_
                · refine step_callG (by rfl) (by kernel_rfl) (HLW _) ?_
                  rintro e wr17 ⟨rfl, hx8⟩
                  refine ⟨_, rfl, ?_⟩
                  refine hK.out _ _ ?_ (fun hHeld => ?_)
                  · exact hHeld.trans hx8
                  clear hK K
                  try simp only [List.getElem_toArray, List.getElem_cons_succ, List.getElem_cons_zero, Act.put, List.setIfInBounds_toArray, List.set_cons_zero, List.set_cons_succ]
                  refine wpHead_take (i := 20) (v := ?_) (by rfl) (by kernel_rfl) (by kernel_rfl) (by exact fun _ _ _ h => h) (Or.inl ⟨by rfl, ?_⟩) (by assumption) ?_
                  rotate_left
                  · intro w hSw
                    first | (go_simp; done) | (go_simp; with_reducible rfl)
                  simp only [List.getElem_toArray, List.getElem_cons_succ, List.getElem_cons_zero, Act.put, List.setIfInBounds_toArray, List.set_cons_zero, List.set_cons_succ]
                  refine wpHead_done (by kernel_rfl) ?_
                  have hx3 := hx2.trans hHeld
                  go_wp2
                  go_ret2
                  exact ⟨by rw [HE.out]; rfl, hx0.trans hx3⟩
                exact AllHead.nil
              exact AllHead.nil
          · have HE : Hid (printT lo dm = ([], 4)) := Lib.hid (HR1.out (.inr (.inr (.inl (fun h => hdv (HDO.out.2 h))))))
            have hq1 : (domV (letL dm) 0 != ((letL dm).length : Int)) = true := by simpa using hdv
            clear hdv HDO
            generalize domV (letL dm) 0 = dv at *
            go_wp2_with fail
            refine wp_region_phase (S := fun w' => Ext w2 w') 21 (by kernel_rfl) (by kernel_rfl) ?_ (fun hHeld => ?_)
            · exact (Ext.refl _).drew
            simp only [List.drop_succ_cons, List.drop_zero]
            refine name_head ?_
            intro wr0 hw0
            rw [hw0] at hHeld
            refine wpHead_take (i := 0) (v := ?_) (by rfl) (by kernel_rfl) (by kernel_rfl) (by exact fun _ _ _ h => h) (Or.inl ⟨by rfl, ?_⟩) (by assumption) ?_
            rotate_left
            · intro w hSw
              first | (go_simp; done) | (go_simp; with_reducible rfl)
            simp only [List.getElem_toArray, List.getElem_cons_zero, Act.put, List.setIfInBounds_toArray, List.set_cons_zero, List.set_cons_succ]
            refine wpHead_take (i := 1) (v := ?_) (by rfl) (by kernel_rfl) (by kernel_rfl) (by exact fun _ _ _ h => h) (Or.inl ⟨by rfl, ?_⟩) (by assumption) ?_
            rotate_left
            · intro w hSw
              first | (go_simp; done) | (go_simp; with_reducible rfl)
            simp only [List.getElem_toArray, List.getElem_cons_succ, List.getElem_cons_zero, Act.put, List.setIfInBounds_toArray, List.set_cons_zero, List.set_cons_succ]
            refine wpHead_take (i := 2) (v := ?_) (by rfl) (by kernel_rfl) (by kernel_rfl) (by exact fun _ _ _ h => h) (Or.inl ⟨by rfl, ?_⟩) (by assumption) ?_
            rotate_left
            · intro w hSw
              first | (go_simp; done) | (go_simp; with_reducible rfl)
            simp only [List.getElem_toArray, List.getElem_cons_succ, List.getElem_cons_zero, Act.put, List.setIfInBounds_toArray, List.set_cons_zero, List.set_cons_succ]
            refine wpHead_take (i := 3) (v := ?_) (by rfl) (by kernel_rfl) (by kernel_rfl) (by exact fun _ _ _ h => h) (Or.inl ⟨by rfl, ?_⟩) (by assumption) ?_
            rotate_left
            · intro w hSw
              first | (go_simp; done) | (go_simp; with_reducible rfl)
            simp only [List.getElem_toArray, List.getElem_cons_succ, List.getElem_cons_zero, Act.put, List.setIfInBounds_toArray, List.set_cons_zero, List.set_cons_succ]
            refine wpHead_take (i := 4) (v := ?_) (by rfl) (by kernel_rfl) (by kernel_rfl) (by exact fun _ _ _ h => h) (Or.inl ⟨by rfl, ?_⟩) (by assumption) ?_
            rotate_left
            · intro w hSw
              first | (go_simp; done) | (go_simp; with_reducible rfl)
            simp only [List.getElem_toArray, List.getElem_cons_succ, List.getElem_cons_zero, Act.put, List.setIfInBounds_toArray, List.set_cons_zero, List.set_cons_succ]
            refine wpHead_take (i := 5) (v := ?_) (by rfl) (by kernel_rfl) (by kernel_rfl) (by exact fun _ _ _ h => h) (Or.inl ⟨by rfl, ?_⟩) (by assumption) ?_
            rotate_left
            · intro w hSw
              first | (go_simp; done) | (go_simp; with_reducible rfl)
            simp only [List.getElem_toArray, List.getElem_cons_succ, List.getElem_cons_zero, Act.put, List.setIfInBounds_toArray, List.set_cons_zero, List.set_cons_succ]
            refine wpHead_take (i := 6) (v := ?_) (by rfl) (by kernel_rfl) (by kernel_rfl) (by exact fun _ _ _ h => h) (Or.inl ⟨by rfl, ?_⟩) (by assumption) ?_
            rotate_left
            · intro w hSw
              first | (go_simp; done) | (go_simp; with_reducible rfl)
            simp only [List.getElem_toArray, List.getElem_cons_succ, List.getElem_cons_zero, Act.put, List.setIfInBounds_toArray, List.set_cons_zero, List.set_cons_succ]
            refine wpHead_take (i := 7) (v := ?_) (by rfl) (by kernel_rfl) (by kernel_rfl) (by exact fun _ _ _ h => h) (Or.inl ⟨by rfl, ?_⟩) (by assumption) ?_
            rotate_left
            · intro w hSw
              first | (go_simp; done) | (go_simp; with_reducible rfl)
            simp only [List.getElem_toArray, List.getElem_cons_succ, List.getElem_cons_zero, Act.put, List.setIfInBounds_toArray, List.set_cons_zero, List.set_cons_succ]
            refine wpHead_take (i := 8) (v := ?_) (by rfl) (by kernel_rfl) (by kernel_rfl) (by exact fun _ _ _ h => h) (Or.inl ⟨by rfl, ?_⟩) (by assumption) ?_
            rotate_left
            · intro w hSw
              first | (go_simp; done) | (go_simp; with_reducible rfl)
            simp only [List.getElem_toArray, List.getElem_cons_succ, List.getElem_cons_zero, Act.put, List.setIfInBounds_toArray, List.set_cons_zero, List.set_cons_succ]
            refine wpHead_take (i := 10) (v := ?_) (by rfl) (by kernel_rfl) (by kernel_rfl) (by exact fun _ _ _ h => h) (Or.inl ⟨by rfl, ?_⟩) (by assumption) ?_
            rotate_left
            · intro w hSw
              first | (go_simp; done) | (go_simp; with_reducible rfl)
            simp only [List.getElem_toArray, List.getElem_cons_succ, List.getElem_cons_zero, Act.put, List.setIfInBounds_toArray, List.set_cons_zero, List.set_cons_succ]
            refine wpHead_take (i := 11) (v := ?_) (by rfl) (by kernel_rfl) (by kernel_rfl) (by exact fun _ _ _ h => h) (Or.inl ⟨by rfl, ?_⟩) (by assumption) ?_
            rotate_left
            · intro w hSw
              first | (go_simp; done) | (go_simp; with_reducible rfl)
            simp only [List.getElem_toArray, List.getElem_cons_succ, List.getElem_cons_zero, Act.put, List.setIfInBounds_toArray, List.set_cons_zero, List.set_cons_succ]
            refine wpHead_ready (rs := [9]) (by kernel_rfl) (by simp) (by kernel_rfl) ?_
            refine AllHead.cons (by rfl) (fun K hK => ?_) ?_
            · refine step_callG (by rfl) (by kernel_rfl) (HDM _ hHeld) ?_
              rintro e wr9 ⟨rfl, rfl⟩
              refine ⟨_, rfl, ?_⟩
              refine hK.out _ _ ?_ (fun hHeld => ?_)
              · exact hHeld
              clear hK K
              try simp only [List.getElem_toArray, List.getElem_cons_succ, List.getElem_cons_zero, Act.put, List.setIfInBounds_toArray, List.set_cons_zero, List.set_cons_succ]
              refine wpHead_take (i := 12) (v := ?_) (by rfl) (by kernel_rfl) (by kernel_rfl) (by exact fun _ _ _ h => h) (Or.inl ⟨by rfl, ?_⟩) (by assumption) ?_
              rotate_left
              · intro w hSw
                first | (go_simp; done) | (go_simp; with_reducible rfl)
              simp only [List.getElem_toArray, List.getElem_cons_succ, List.getElem_cons_zero, Act.put, List.setIfInBounds_toArray, List.set_cons_zero, List.set_cons_succ]
              refine wpHead_take (i := 13) (v := ?_) (by rfl) (by kernel_rfl) (by kernel_rfl) (by exact fun _ _ _ h => h) (Or.inl ⟨by rfl, ?_⟩) (by assumption) ?_
              rotate_left
              · intro w hSw
                first | (go_simp; done) | (go_simp; with_reducible rfl)
              simp only [List.getElem_toArray, List.getElem_cons_succ, List.getElem_cons_zero, Act.put, List.setIfInBounds_toArray, List.set_cons_zero, List.set_cons_succ]
              refine wpHead_take (i := 14) (v := ?_) (by rfl) (by kernel_rfl) (by kernel_rfl) (by exact fun _ _ _ h => h) (Or.inl ⟨by rfl, ?_⟩) (by assumption) ?_
              rotate_left
              · intro w hSw
                first | (go_simp; done) | (go_simp; with_reducible rfl)
              simp only [List.getElem_toArray, List.getElem_cons_succ, List.getElem_cons_zero, Act.put, List.setIfInBounds_toArray, List.set_cons_zero, List.set_cons_succ]
              refine wpHead_take (i := 15) (v := undef) (by rfl) (by kernel_rfl) (by kernel_rfl) (by exact fun _ _ _ h => h) (Or.inr ⟨by rfl, rfl⟩) (by assumption) ?_
              simp only [List.getElem_toArray, List.getElem_cons_succ, List.getElem_cons_zero, Act.put, List.setIfInBounds_toArray, List.set_cons_zero, List.set_cons_succ]
              refine wpHead_take (i := 16) (v := undef) (by rfl) (by kernel_rfl) (by kernel_rfl) (by exact fun _ _ _ h => h) (Or.inr ⟨by rfl, rfl⟩) (by assumption) ?_
              simp only [List.getElem_toArray, List.getElem_cons_succ, List.getElem_cons_zero, Act.put, List.setIfInBounds_toArray, List.set_cons_zero, List.set_cons_succ]
              refine wpHead_take (i := 17) (v := undef) (by rfl) (by kernel_rfl) (by kernel_rfl) (by exact fun _ _ _ h => h) (Or.inr ⟨by rfl, rfl⟩) (by assumption) ?_
              simp only [List.getElem_toArray, List.getElem_cons_succ, List.getElem_cons_zero, Act.put, List.setIfInBounds_toArray, List.set_cons_zero, List.set_cons_succ]
              refine wpHead_take (i := 18) (v := undef) (by rfl) (by kernel_rfl) (by kernel_rfl) (by exact fun _ _ _ h => h) (Or.inr ⟨by rfl, rfl⟩) (by assumption) ?_
              simp only [List.getElem_toArray, List.getElem_cons_succ, List.getElem_cons_zero, Act.put, List.setIfInBounds_toArray, List.set_cons_zero, List.set_cons_succ]
              refine wpHead_take (i := 19) (v := undef) (by rfl) (by kernel_rfl) (by kernel_rfl) (by exact fun _ _ _ h => h) (Or.inr ⟨by rfl, rfl⟩) (by assumption) ?_
              simp only [List.getElem_toArray, List.getElem_cons_succ, List.getElem_cons_zero, Act.put, List.setIfInBounds_toArray, List.set_cons_zero, List.set_cons_succ]
              refine wpHead_take (i := 20) (v := undef) (by rfl) (by kernel_rfl) (by kernel_rfl) (by exact fun _ _ _ h => h) (Or.inr ⟨by rfl, rfl⟩) (by assumption) ?_
              simp only [List.getElem_toArray, List.getElem_cons_succ, List.getElem_cons_zero, Act.put, List.setIfInBounds_toArray, List.set_cons_zero, List.set_cons_succ]
              refine wpHead_done (by kernel_rfl) ?_
              have hx3 := hx2.trans hHeld
              go_wp2
              go_ret2
              exact ⟨by rw [HE.out]; rfl, hx0.trans hx3⟩
            exact AllHead.nil
set_option maxRecDepth 20000 in
set_option maxHeartbeats 1600000 in
theorem AddrPrints_any (lo dm : List UInt8) (w : World) (hlo : lo.length ≤ 8796093021000) (hdm : dm.length ≤ 8796093021000) (hT : Tabs w) : Calls Tryd.prog 6 #[.agg #[.string (st lo), .string (st dm)]] w fun e w' => e = .returned (.bool true) ∧ Ext w w' := by
  have hrw := heap_alloc_new w (.cells #[.string (st lo), .string (st dm)] 23 (0, 0))
  have hx0 : Ext w (w.alloc (.cells #[.string (st lo), .string (st dm)] 23)) := (Ext.refl w).alloc _
  have H1 := fun w => Print_any lo dm w (by omega) (by omega)
  have H2 := fun wz (hx : Ext w wz) => RPrint_any lo dm wz (by omega) (by omega) (hT.ext hx)
  unfold PrSays at H1 H2
  generalize printT lo dm = pt at *
  obtain ⟨p1, p2⟩ := pt
  dsimp only at H1 H2
  clear hT
  go_enter Tryd.func6, Tryd.ntmps6
  go_wp2_with (first | (with_reducible refine stop_alloc 23 ?_) | (with_reducible refine stop_store 23 ?_) | (with_reducible refine stop_load 23 ?_))
  generalize hw0 : w.alloc (.cells #[.string (st lo), .string (st dm)] 23) = w0 at *
  generalize w.heap.size = g at *
  have HR := Lib.hid hrw
  clear hw0 hrw
  refine go_on (wpList_load_row rfl 23 _ rfl g rfl 23 _ (0, 0) _ HR.out Tryd.underlying23 rfl (by kernel_rfl) ?_)
  go_wp2_with fail
  refine (H1 _).mono ?_
  rintro e w1 ⟨rfl, hx1⟩
  have HR1 := Lib.hid (hx1.obj HR.out)
  have hx01 := hx0.trans hx1
  go_wp2_with (first | (with_reducible refine stop_alloc 23 ?_) | (with_reducible refine stop_store 23 ?_) | (with_reducible refine stop_load 23 ?_))
  refine go_on (wpList_load_row rfl 23 _ rfl g rfl 23 _ (0, 0) _ HR1.out Tryd.underlying23 rfl (by kernel_rfl) ?_)
  go_wp2_with fail
  refine (H2 _ hx01).mono ?_
  rintro e w2 ⟨rfl, hx2⟩
  go_wp2_with fail
  refine (live_any _).mono ?_
  rintro e w5 ⟨rfl, hx5⟩
  go_wp2
  go_ret
  exact ⟨by first | rfl | simp, hx01.trans (hx2.trans hx5)⟩
end Go.Proofs.YtigkmlhkfpdajaaDoor
