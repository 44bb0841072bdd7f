/- The walk of the reference's PutUser. Conditions: the bounds named; the library's two tables. -/
import Derived.Test.YtameamfaaenboaaDoorRDdUM
namespace Go.Proofs.YtameamfaaenboaaDoor
open Go.RowKit
set_option maxRecDepth 20000 in
set_option maxHeartbeats 8000000 in
theorem RPutUser_any (u : Us) (A : Option Addr) (cap : Nat) (w : World) (h : RsM RBx 4 [] w A u.boxes) (hn : u.name.length ≤ 8796093022000) (hbn : ∀ b ∈ u.boxes, b.name.length ≤ 8796093022000) (hT : Tabs w) :
    Calls Tryd.prog 23 #[.agg (usC u (.slice A u.boxes.length cap))] w (PutSays (putUsT u) w) := by
  have hx0 : Ext w (w.alloc (.cells (usC u (.slice A u.boxes.length cap)) 42)) := (Ext.refl w).alloc _
  have hrow := heap_alloc_new w (.cells (usC u (.slice A u.boxes.length cap)) 42)
  obtain ⟨wa, hwa⟩ : ∃ wa, wa = w.alloc (.cells (usC u (.slice A u.boxes.length cap)) 42) := ⟨_, rfl⟩
  rw [← hwa] at hx0 hrow
  have HWA := Lib.hid hwa
  have HCU := RCheckUser_any u A cap wa (h.kept (.of_ext hx0)) hn hbn (hT.ext hx0)
  have HP : Hid (putUsT u = if checkU u ≠ 0 then ([], checkU u) else (putUs u, 0)) := Lib.hid rfl
  clear hwa
  obtain ⟨un, uv, bs⟩ := u
  unfold usC at *
  simp only at *
  go_enter Tryd.func23, Tryd.ntmps23
  go_wp2_with (first | (with_reducible refine stop_alloc 75 ?_) | (with_reducible refine stop_store 75 ?_) | (with_reducible refine stop_load 75 ?_) | (with_reducible refine stop_alloc 51 ?_) | (with_reducible refine stop_store 51 ?_) | (with_reducible refine stop_load 51 ?_) | (with_reducible refine stop_load 42 ?_))
  rw [← HWA.out]
  refine go_on (wpList_load_row rfl 42 _ rfl w.heap.size rfl 42 _ (0, 0) _ hrow Tryd.underlying42 rfl (by kernel_rfl) ?_)
  go_wp2_with fail
  refine HCU.mono ?_
  rintro e w1 ⟨rfl, hx1⟩
  have hx01 := hx0.trans hx1
  have hrow1 := hx1.obj hrow
  clear HCU hrow
  by_cases hc : checkU ⟨un, uv, bs⟩ = 0
  · have HP2 := Lib.hid (HP.out.trans (if_neg (by simpa using hc)))
    rw [hc]
    obtain ⟨hc1, hc2, hc3, hc4, hc5, hc6⟩ := checkU_ok hc
    simp only at hc1 hc2 hc3 hc4 hc5 hc6
    have hall := boxesC_ok _ _ _ _ hc6
    have hun := (rightU_len hc1).2
    obtain ⟨uv, rfl⟩ : ∃ n : Nat, uv = (n : Int) := ⟨uv.toNat, by omega⟩
    have HM : 42 ∈ [42] := by simp
    have C0 := row_s hrow1 HM 0 _ rfl
    have C1 := row_s hrow1 HM 1 _ rfl
    have C2 := row_s hrow1 HM 2 _ rfl
    have hND : 5 ∉ [42] := by simp
    have hNB : 5 ∉ [51] := by simp
    have hNL : 5 ∉ [75] := by simp
    have hN := fun (W : World) (b : Value) (l : By) (v n : Nat) (hL : Lay w w1 l W b) (h1 : l.length ≤ 200000) (hn : n ≤ 4) (hv : v < 9223372036854775808) => RNumG_any w W b l v n hL.x hL.o (by omega) hn hv
    have hS := fun (W : World) (b : Value) (l p : By) (hL : Lay w w1 l W b) (h1 : l.length ≤ 200000) (hp : p.length ≤ 24) => RShortB_any w W b l p hL.x hL.o (by omega)
    have hlay0 : Lay w w1 [] w1.drew (.slice none 0 0) := ⟨Own.nil _ _, hx01.drew, fun ts _ => (Stp.refl _ _).drew⟩
    have hs0 : Stp [42] w1 w1.drew := (Stp.refl _ _).drew
    clear hc hc1 hc2 hc6 HP hrow1 hx1 HM
    go_wp2_with fail
    refine wp_region_phase (S := fun w' => Stp [42] w1 w') 6 (by kernel_rfl) (by kernel_rfl) ?_ (fun hHeld => ?_)
    · exact hs0
    simp only [List.drop_succ_cons, List.drop_zero]
    refine name_head ?_
    intro wr0 hw0
    rw [hw0] at hHeld
    refine wpHead_take (i := 0) (v := ?_) (by rfl) (by kernel_rfl) (by kernel_rfl) (by exact fun _ _ _ h => h) (Or.inl ⟨by rfl, ?_⟩) (by assumption) ?_
    rotate_left
    · intro w hSw
      first | (go_simp; done) | (go_simp; with_reducible rfl)
    simp only [List.getElem_toArray, List.getElem_cons_zero, Act.put, List.setIfInBounds_toArray, List.set_cons_zero, List.set_cons_succ]
    refine wpHead_take (i := 1) (v := ?_) (by rfl) (by kernel_rfl) (by kernel_rfl) (by exact fun _ _ _ h => h) (Or.inl ⟨by rfl, ?_⟩) (by assumption) ?_
    rotate_left
    · intro w hSw
      first | (go_simp; done) | (go_simp; with_reducible rfl)
    simp only [List.getElem_toArray, List.getElem_cons_succ, List.getElem_cons_zero, Act.put, List.setIfInBounds_toArray, List.set_cons_zero, List.set_cons_succ]
    refine wpHead_take (i := 3) (v := ?_) (by rfl) (by kernel_rfl) (by kernel_rfl) (by exact fun _ _ _ h => h) (Or.inl ⟨by rfl, ?_⟩) (by assumption) ?_
    rotate_left
    · intro w hSw
      first | (go_simp; done) | (go_simp; with_reducible rfl)
    simp only [List.getElem_toArray, List.getElem_cons_succ, List.getElem_cons_zero, Act.put, List.setIfInBounds_toArray, List.set_cons_zero, List.set_cons_succ]
    refine wpHead_take (i := 4) (v := ?_) (by rfl) (by kernel_rfl) (by kernel_rfl) (by exact fun _ _ _ h => h) (Or.inl ⟨by rfl, ?_⟩) (by assumption) ?_
    rotate_left
    · intro w hSw
      first | (go_simp; done) | (go_simp; with_reducible rfl)
    simp only [List.getElem_toArray, List.getElem_cons_succ, List.getElem_cons_zero, Act.put, List.setIfInBounds_toArray, List.set_cons_zero, List.set_cons_succ]
    refine wpHead_ready (rs := [2]) (by kernel_rfl) (by simp) (by kernel_rfl) ?_
    refine AllHead.cons (by rfl) (fun K hK => ?_) ?_
    · refine step_callG (by rfl) (by kernel_rfl) (hS _ _ _ un (by rw [← hw0]; exact hlay0) (by simp) (by omega)) ?_
      rintro e wr2 ⟨c2, rfl, hl2⟩
      refine ⟨_, rfl, ?_⟩
      refine hK.out _ _ ?_ (fun hHeld => ?_)
      · exact hHeld.trans (hl2.s _ hND)
      clear hK K
      try simp only [List.getElem_toArray, List.getElem_cons_succ, List.getElem_cons_zero, Act.put, List.setIfInBounds_toArray, List.set_cons_zero, List.set_cons_succ]
      refine wpHead_ready (rs := [5]) (by kernel_rfl) (by simp) (by kernel_rfl) ?_
      refine AllHead.cons (by rfl) (fun K hK => ?_) ?_
      · have hl2' := hlay0.trans (hw0 ▸ hl2)
        refine step_callG (by rfl) (by kernel_rfl) (hN _ _ _ uv 4 hl2' (by simp [shortB]; omega) (by omega) (by omega)) ?_
        rintro e wr5 ⟨c5, rfl, hl5, -⟩
        refine ⟨_, rfl, ?_⟩
        refine hK.out _ _ ?_ (fun hHeld => ?_)
        · exact hHeld.trans (hl5.s _ hND)
        clear hK K
        try simp only [List.getElem_toArray, List.getElem_cons_succ, List.getElem_cons_zero, Act.put, List.setIfInBounds_toArray, List.set_cons_zero, List.set_cons_succ]
        refine wpHead_done (by kernel_rfl) ?_
        have hl5' := hl2'.trans hl5
        rw [List.nil_append] at hl5'
        obtain ⟨lg, hlg⟩ : ∃ lg, lg = shortB un ++ beN 4 uv := ⟨_, rfl⟩
        rw [← hlg] at hl5'
        have hlgl : lg.length ≤ 90 := by rw [hlg]; simp [shortB]; omega
        have HLG := Lib.hid hlg
        clear hlg hl2 hl2' hl5 hlay0 hw0
        go_wp2_with (at_builtin; refine unstop ?_)
        have hl6 := hl5'.al ((Ext.refl _).alloc (.cells #[.int .u8 ((bs.length : Int))] 5))
        refine go_on (wpList_appB (l' := beN 1 bs.length) bytesTr hl6.o (new_byte (by omega) _) rfl rfl rfl rfl (by simp) (by simp; omega) hl6.x.size ?_)
        intro v7 w7 ho7 hg7 _
        have hl7 := hl6.app ho7 hg7
        obtain ⟨lh, hlh⟩ : ∃ lh, lh = shortB un ++ beN 4 uv ++ beN 1 bs.length := ⟨_, rfl⟩
        rw [HLG.out, ← hlh] at hl7
        have hlhl : lh.length ≤ 100 := by rw [hlh]; simp [shortB]; omega
        have HLH := Lib.hid hlh
        clear hlh hl6 ho7 hg7 hl5' hHeld
        have hs7 := hl7.s _ hND
        go_wp2
        go_loopw [5, 6] (fun b5 iv wr => ∃ k : Nat, iv = .int .i64 k ∧ k ≤ bs.length ∧ Lay w w1 (lh ++ (bs.take k).flatMap putX) wr b5) (fun _ iv _ => bs.length - (intOf iv).toNat)
        case atStart => exact ⟨0, rfl, by omega, by simpa using hl7⟩
        case round =>
          clear hl7 hs7
          obtain ⟨k, rfl, hk, hlay⟩ := hrel
          have hx := hlay.x
          have hsu := hlay.s _ hND
          by_cases hlt : k < bs.length
          · obtain ⟨ad, cs, hA, had, hcs, hcell, A2, cap2, hcs2, hby⟩ := h.at_ (by omega) hlt
            subst hA hcs2
            have hlt2 : (k : Int) < bs.length := by omega
            have hcl := fun j v hj => hx.cell (show w.cell? ((ad.add (k * 4)).add j) = some v by rw [add_addB]; exact hcell j v hj)
            have HTK := Lib.hid (take_len hlt)
            have hfl := flatX_len (bs.take k) (fun b hb => hall b (List.mem_of_mem_take hb))
            obtain ⟨ha1, ha2⟩ := hall _ (List.getElem_mem hlt)
            rw [List.length_take] at hfl
            clear hcs hcell had
            generalize bs[k] = bb at *
            obtain ⟨bn, bval, bnx, bls⟩ := bb
            unfold bxC at hcl
            obtain ⟨hv1, hv2, hl32, hls⟩ := boxC_ok ha2
            have hbl := (rightB_len ha1).2
            obtain ⟨⟨-, hv1u⟩, hv1⟩ := numB_ok hv1
            obtain ⟨⟨-, hv2u⟩, hv2⟩ := numB_ok hv2
            simp only at hcl hby hv1 hv2 hv1u hv2u hl32 hls hbl
            obtain ⟨bval, rfl⟩ : ∃ n : Nat, bval = (n : Int) := ⟨bval.toNat, by omega⟩
            obtain ⟨bnx, rfl⟩ : ∃ n : Nat, bnx = (n : Int) := ⟨bnx.toNat, by omega⟩
            go_wp2_with (first | (with_reducible refine stop_alloc 75 ?_) | (with_reducible refine stop_store 75 ?_) | (with_reducible refine stop_load 75 ?_) | (with_reducible refine stop_alloc 51 ?_) | (with_reducible refine stop_store 51 ?_) | (with_reducible refine stop_load 51 ?_) | (with_reducible refine stop_load 42 ?_))
            refine go_on (wpList_load_elem rfl 51 _ rfl (ad.add (k * 4)) rfl _ _ hcl Tryd.underlying51 rfl (by kernel_rfl) ?_)
            go_wp2_with (first | (with_reducible refine stop_alloc 75 ?_) | (with_reducible refine stop_store 75 ?_) | (with_reducible refine stop_load 75 ?_) | (with_reducible refine stop_alloc 51 ?_) | (with_reducible refine stop_store 51 ?_) | (with_reducible refine stop_load 51 ?_) | (with_reducible refine stop_load 42 ?_))
            refine go_on (wpList_alloc_ rfl rfl box_info ?_)
            go_wp2_with (first | (with_reducible refine stop_alloc 75 ?_) | (with_reducible refine stop_store 75 ?_) | (with_reducible refine stop_load 75 ?_) | (with_reducible refine stop_alloc 51 ?_) | (with_reducible refine stop_store 51 ?_) | (with_reducible refine stop_load 51 ?_) | (with_reducible refine stop_load 42 ?_))
            refine go_on (wpList_store_last rfl rfl rfl rfl (by kernel_rfl) rfl (by simp [Value.oneCell']) ?_)
            intro wb hrowB hxb _
            have hlayb : Lay w w1 (lh ++ (bs.take k).flatMap putX) wb.drew _ := hlay.al hxb.drew
            have hlq : (lh ++ (bs.take k).flatMap putX).length ≤ 130000 := by rw [List.length_append]; omega
            generalize hlb : lh ++ (bs.take k).flatMap putX = lb at *
            have HLB := Lib.hid hlb
            have HM : 51 ∈ [51] := by simp
            have C0 := row_s hrowB HM 0 _ rfl
            have C1 := row_s hrowB HM 1 _ rfl
            have C2 := row_s hrowB HM 2 _ rfl
            have C3 := row_s hrowB HM 3 _ rfl
            have hs0 : Stp [51] wb wb.drew := (Stp.refl _ _).drew
            clear hcl hlay hx hlb hfl ha1 ha2 hxb hrowB hsu
            go_wp2_with fail
            refine wp_region_phase (S := fun w' => Stp [51] wb w') 10 (by kernel_rfl) (by kernel_rfl) ?_ (fun hHeld => ?_)
            · exact hs0
            simp only [List.drop_succ_cons, List.drop_zero]
            refine name_head ?_
            intro wr0 hw0
            rw [hw0] at hHeld
            refine wpHead_take (i := 0) (v := ?_) (by rfl) (by kernel_rfl) (by kernel_rfl) (by exact fun _ _ _ h => h) (Or.inl ⟨by rfl, ?_⟩) (by assumption) ?_
            rotate_left
            · intro w hSw
              first | (go_simp; done) | (go_simp; with_reducible rfl)
            simp only [List.getElem_toArray, List.getElem_cons_zero, Act.put, List.setIfInBounds_toArray, List.set_cons_zero, List.set_cons_succ]
            refine wpHead_take (i := 1) (v := ?_) (by rfl) (by kernel_rfl) (by kernel_rfl) (by exact fun _ _ _ h => h) (Or.inl ⟨by rfl, ?_⟩) (by assumption) ?_
            rotate_left
            · intro w hSw
              first | (go_simp; done) | (go_simp; with_reducible rfl)
            simp only [List.getElem_toArray, List.getElem_cons_succ, List.getElem_cons_zero, Act.put, List.setIfInBounds_toArray, List.set_cons_zero, List.set_cons_succ]
            refine wpHead_take (i := 2) (v := ?_) (by rfl) (by kernel_rfl) (by kernel_rfl) (by exact fun _ _ _ h => h) (Or.inl ⟨by rfl, ?_⟩) (by assumption) ?_
            rotate_left
            · intro w hSw
              first | (go_simp; done) | (go_simp; with_reducible rfl)
            simp only [List.getElem_toArray, List.getElem_cons_succ, List.getElem_cons_zero, Act.put, List.setIfInBounds_toArray, List.set_cons_zero, List.set_cons_succ]
            refine wpHead_take (i := 4) (v := ?_) (by rfl) (by kernel_rfl) (by kernel_rfl) (by exact fun _ _ _ h => h) (Or.inl ⟨by rfl, ?_⟩) (by assumption) ?_
            rotate_left
            · intro w hSw
              first | (go_simp; done) | (go_simp; with_reducible rfl)
            simp only [List.getElem_toArray, List.getElem_cons_succ, List.getElem_cons_zero, Act.put, List.setIfInBounds_toArray, List.set_cons_zero, List.set_cons_succ]
            refine wpHead_take (i := 5) (v := ?_) (by rfl) (by kernel_rfl) (by kernel_rfl) (by exact fun _ _ _ h => h) (Or.inl ⟨by rfl, ?_⟩) (by assumption) ?_
            rotate_left
            · intro w hSw
              first | (go_simp; done) | (go_simp; with_reducible rfl)
            simp only [List.getElem_toArray, List.getElem_cons_succ, List.getElem_cons_zero, Act.put, List.setIfInBounds_toArray, List.set_cons_zero, List.set_cons_succ]
            refine wpHead_take (i := 7) (v := ?_) (by rfl) (by kernel_rfl) (by kernel_rfl) (by exact fun _ _ _ h => h) (Or.inl ⟨by rfl, ?_⟩) (by assumption) ?_
            rotate_left
            · intro w hSw
              first | (go_simp; done) | (go_simp; with_reducible rfl)
            simp only [List.getElem_toArray, List.getElem_cons_succ, List.getElem_cons_zero, Act.put, List.setIfInBounds_toArray, List.set_cons_zero, List.set_cons_succ]
            refine wpHead_take (i := 8) (v := ?_) (by rfl) (by kernel_rfl) (by kernel_rfl) (by exact fun _ _ _ h => h) (Or.inl ⟨by rfl, ?_⟩) (by assumption) ?_
            rotate_left
            · intro w hSw
              first | (go_simp; done) | (go_simp; with_reducible rfl)
            simp only [List.getElem_toArray, List.getElem_cons_succ, List.getElem_cons_zero, Act.put, List.setIfInBounds_toArray, List.set_cons_zero, List.set_cons_succ]
            refine wpHead_ready (rs := [3]) (by kernel_rfl) (by simp) (by kernel_rfl) ?_
            refine AllHead.cons (by rfl) (fun K hK => ?_) ?_
            · refine step_callG (by rfl) (by kernel_rfl) (hS _ _ _ bn (by rw [← hw0]; exact hlayb) (by omega) (by omega)) ?_
              rintro e wr3 ⟨c3, rfl, hl3⟩
              refine ⟨_, rfl, ?_⟩
              refine hK.out _ _ ?_ (fun hHeld => ?_)
              · exact hHeld.trans (hl3.s _ hNB)
              clear hK K
              try simp only [List.getElem_toArray, List.getElem_cons_succ, List.getElem_cons_zero, Act.put, List.setIfInBounds_toArray, List.set_cons_zero, List.set_cons_succ]
              refine wpHead_ready (rs := [6]) (by kernel_rfl) (by simp) (by kernel_rfl) ?_
              refine AllHead.cons (by rfl) (fun K hK => ?_) ?_
              · have hl3' := hlayb.trans (hw0 ▸ hl3)
                refine step_callG (by rfl) (by kernel_rfl) (hN _ _ _ bval 4 hl3' (by simp [shortB]; omega) (by omega) (by omega)) ?_
                rintro e wr6 ⟨c6, rfl, hl6, -⟩
                refine ⟨_, rfl, ?_⟩
                refine hK.out _ _ ?_ (fun hHeld => ?_)
                · exact hHeld.trans (hl6.s _ hNB)
                clear hK K
                try simp only [List.getElem_toArray, List.getElem_cons_succ, List.getElem_cons_zero, Act.put, List.setIfInBounds_toArray, List.set_cons_zero, List.set_cons_succ]
                refine wpHead_ready (rs := [9]) (by kernel_rfl) (by simp) (by kernel_rfl) ?_
                refine AllHead.cons (by rfl) (fun K hK => ?_) ?_
                · have hl6' := hl3'.trans hl6
                  refine step_callG (by rfl) (by kernel_rfl) (hN _ _ _ bnx 4 hl6' (by simp [shortB]; omega) (by omega) (by omega)) ?_
                  rintro e wr9 ⟨c9, rfl, hl9, -⟩
                  refine ⟨_, rfl, ?_⟩
                  refine hK.out _ _ ?_ (fun hHeld => ?_)
                  · exact hHeld.trans (hl9.s _ hNB)
                  clear hK K
                  try simp only [List.getElem_toArray, List.getElem_cons_succ, List.getElem_cons_zero, Act.put, List.setIfInBounds_toArray, List.set_cons_zero, List.set_cons_succ]
                  refine wpHead_done (by kernel_rfl) ?_
                  have hl9' := hl6'.trans hl9
                  have hsb := hHeld
                  obtain ⟨ln, hln⟩ : ∃ ln, ln = lb ++ shortB bn ++ beN 4 bval ++ beN 4 bnx := ⟨_, rfl⟩
                  rw [← hln] at hl9'
                  have hlnl : ln.length ≤ 130090 := by rw [hln]; simp [shortB]; omega
                  have HLN := Lib.hid hln
                  clear hln hl3 hl3' hl6 hl6' hl9 hlayb hw0 hlq
                  go_wp2_with (at_builtin; refine unstop ?_)
                  have hlA := hl9'.al ((Ext.refl _).alloc (.cells #[.int .u8 ((bls.length : Int))] 5))
                  have hsA := hsb.trans (Stp.of_ext ((Ext.refl _).alloc (.cells #[.int .u8 ((bls.length : Int))] 5)))
                  refine go_on (wpList_appB (l' := beN 1 bls.length) bytesTr hlA.o (new_byte (by omega) _) rfl rfl rfl rfl (by simp) (by simp; omega) hlA.x.size ?_)
                  intro v11 w11 ho11 hg11 _
                  have hs11 := hsA.own hlA.o hg11 hNB
                  have hl11 := hlA.app ho11 hg11
                  obtain ⟨lx, hlx⟩ : ∃ lx, lx = ln ++ beN 1 bls.length := ⟨_, rfl⟩
                  rw [← hlx] at hl11
                  have hlxl : lx.length ≤ 130100 := by rw [hlx]; simp; omega
                  have HLX := Lib.hid hlx
                  clear hlx hlA ho11 hg11 hl9' hHeld hsA hsb
                  go_wp2
                  go_loopw [5, 8] (fun b5 iv wr => ∃ j : Nat, iv = .int .i64 j ∧ j ≤ bls.length ∧ Lay w w1 (lx ++ (bls.take j).flatMap putL) wr b5 ∧ Stp [51] wb wr) (fun _ iv _ => bls.length - (intOf iv).toNat)
                  case atStart => exact ⟨0, rfl, by omega, by simpa using hl11, hs11⟩
                  case round =>
                    clear hl11 hs11 C0 C1 C2
                    obtain ⟨j, rfl, hj, hlay, hsb⟩ := hrel
                    have hx := hlay.x
                    by_cases hltj : j < bls.length
                    · obtain ⟨adj, csj, hAj, hadj, hcsj, hcellj, A3, cap3, hcsj2, hbyj⟩ := hby.at_ (by omega) hltj
                      subst hAj hcsj2
                      have hltj2 : (j : Int) < bls.length := by omega
                      have hclj := fun i v hj => hx.cell (show w.cell? ((adj.add (j * 3)).add i) = some v by rw [add_addB]; exact hcellj i v hj)
                      have HTL := Lib.hid (take_len hltj)
                      have hfl := flatL_len (bls.take j) (fun l hl => (hls l (List.mem_of_mem_take hl)).2.2.2)
                      obtain ⟨hu1, hu2, hu3, hu4⟩ := hls _ (List.getElem_mem hltj)
                      rw [List.length_take] at hfl
                      clear hcsj hcellj hadj
                      generalize bls[j] = ll at *
                      obtain ⟨luid, lfl, lby⟩ := ll
                      unfold ltC at hclj
                      simp only at hclj hbyj hu1 hu2 hu3 hu4
                      obtain ⟨luid, rfl⟩ : ∃ n : Nat, luid = (n : Int) := ⟨luid.toNat, by omega⟩
                      go_wp2_with (first | (with_reducible refine stop_alloc 75 ?_) | (with_reducible refine stop_store 75 ?_) | (with_reducible refine stop_load 75 ?_) | (with_reducible refine stop_alloc 51 ?_) | (with_reducible refine stop_store 51 ?_) | (with_reducible refine stop_load 51 ?_) | (with_reducible refine stop_load 42 ?_))
                      refine go_on (wpList_load_elem rfl 75 _ rfl (adj.add (j * 3)) rfl _ _ hclj Tryd.underlying75 rfl (by kernel_rfl) ?_)
                      go_wp2_with (first | (with_reducible refine stop_alloc 75 ?_) | (with_reducible refine stop_store 75 ?_) | (with_reducible refine stop_load 75 ?_) | (with_reducible refine stop_alloc 51 ?_) | (with_reducible refine stop_store 51 ?_) | (with_reducible refine stop_load 51 ?_) | (with_reducible refine stop_load 42 ?_))
                      refine go_on (wpList_alloc_ rfl rfl letter_info ?_)
                      go_wp2_with (first | (with_reducible refine stop_alloc 75 ?_) | (with_reducible refine stop_store 75 ?_) | (with_reducible refine stop_load 75 ?_) | (with_reducible refine stop_alloc 51 ?_) | (with_reducible refine stop_store 51 ?_) | (with_reducible refine stop_load 51 ?_) | (with_reducible refine stop_load 42 ?_))
                      refine go_on (wpList_store_last rfl rfl rfl rfl (by kernel_rfl) rfl (by simp [Value.oneCell']) ?_)
                      intro wc hrowC hxc _
                      have hlayc : Lay w w1 (lx ++ (bls.take j).flatMap putL) wc.drew _ := hlay.al hxc.drew
                      have hsbc : Stp [51] wb wc.drew := hsb.trans (.of_ext hxc.drew)
                      have hlq : (lx ++ (bls.take j).flatMap putL).length ≤ 160000 := by rw [List.length_append]; omega
                      generalize hlb : lx ++ (bls.take j).flatMap putL = ly at *
                      have HLY := Lib.hid hlb
                      have HM : 75 ∈ [75] := by simp
                      have C0 := row_s hrowC HM 0 _ rfl
                      have C1 := row_s hrowC HM 1 _ rfl
                      have C2 := row_s hrowC HM 2 _ rfl
                      have hs0 : Stp [75] wc wc.drew := (Stp.refl _ _).drew
                      clear hclj hlay hx hlb hfl hxc hrowC hsb C3
                      go_wp2_with fail
                      refine wp_region_phase (S := fun w' => Stp [75] wc w') 7 (by kernel_rfl) (by kernel_rfl) ?_ (fun hHeld => ?_)
                      · exact hs0
                      simp only [List.drop_succ_cons, List.drop_zero]
                      refine name_head ?_
                      intro wr0 hw0
                      rw [hw0] at hHeld
                      refine wpHead_take (i := 0) (v := ?_) (by rfl) (by kernel_rfl) (by kernel_rfl) (by exact fun _ _ _ h => h) (Or.inl ⟨by rfl, ?_⟩) (by assumption) ?_
                      rotate_left
                      · intro w hSw
                        first | (go_simp; done) | (go_simp; with_reducible rfl)
                      simp only [List.getElem_toArray, List.getElem_cons_zero, Act.put, List.setIfInBounds_toArray, List.set_cons_zero, List.set_cons_succ]
                      refine wpHead_take (i := 1) (v := ?_) (by rfl) (by kernel_rfl) (by kernel_rfl) (by exact fun _ _ _ h => h) (Or.inl ⟨by rfl, ?_⟩) (by assumption) ?_
                      rotate_left
                      · intro w hSw
                        first | (go_simp; done) | (go_simp; with_reducible rfl)
                      simp only [List.getElem_toArray, List.getElem_cons_succ, List.getElem_cons_zero, Act.put, List.setIfInBounds_toArray, List.set_cons_zero, List.set_cons_succ]
                      refine wpHead_take (i := 2) (v := ?_) (by rfl) (by kernel_rfl) (by kernel_rfl) (by exact fun _ _ _ h => h) (Or.inl ⟨by rfl, ?_⟩) (by assumption) ?_
                      rotate_left
                      · intro w hSw
                        first | (go_simp; done) | (go_simp; with_reducible rfl)
                      simp only [List.getElem_toArray, List.getElem_cons_succ, List.getElem_cons_zero, Act.put, List.setIfInBounds_toArray, List.set_cons_zero, List.set_cons_succ]
                      refine wpHead_take (i := 4) (v := ?_) (by rfl) (by kernel_rfl) (by kernel_rfl) (by exact fun _ _ _ h => h) (Or.inl ⟨by rfl, ?_⟩) (by assumption) ?_
                      rotate_left
                      · intro w hSw
                        first | (go_simp; done) | (go_simp; with_reducible rfl)
                      simp only [List.getElem_toArray, List.getElem_cons_succ, List.getElem_cons_zero, Act.put, List.setIfInBounds_toArray, List.set_cons_zero, List.set_cons_succ]
                      refine wpHead_take (i := 5) (v := ?_) (by rfl) (by kernel_rfl) (by kernel_rfl) (by exact fun _ _ _ h => h) (Or.inl ⟨by rfl, ?_⟩) (by assumption) ?_
                      rotate_left
                      · intro w hSw
                        first | (go_simp; done) | (go_simp; with_reducible rfl)
                      simp only [List.getElem_toArray, List.getElem_cons_succ, List.getElem_cons_zero, Act.put, List.setIfInBounds_toArray, List.set_cons_zero, List.set_cons_succ]
                      refine wpHead_ready (rs := [3, 6]) (by kernel_rfl) (by simp) (by kernel_rfl) ?_
                      refine AllHead.cons (by rfl) (fun K hK => ?_) ?_
                      · have hlayw := hlayc
                        have hsbw := hsbc
                        rw [hw0] at hlayw hsbw
                        first | have hlA := hlayw.al hxn6 | have hlA := hlayw
                        first | have hsbA := hsbw.trans (.of_ext hxn6) | have hsbA := hsbw
                        refine step_callG (by rfl) (by kernel_rfl) (hN _ _ _ luid 4 hlA (by omega) (by omega) (by omega)) ?_
                        rintro e wr3 ⟨c3, rfl, hl3, hg3⟩
                        have hsb3 := hsbA.trans (hl3.s _ hNB)
                        have hl3' := hlA.trans hl3
                        refine ⟨_, rfl, ?_⟩
                        refine hK.out _ _ ?_ (fun hHeld => ?_)
                        · exact hHeld.trans (hl3.s _ hNL)
                        clear hK K
                        try simp only [List.getElem_toArray, List.getElem_cons_succ, List.getElem_cons_zero, Act.put, List.setIfInBounds_toArray, List.set_cons_zero, List.set_cons_succ]
                        refine wpHead_ready (rs := [6]) (by kernel_rfl) (by simp) (by kernel_rfl) ?_
                        refine AllHead.cons (by rfl) (fun K hK => ?_) ?_
                        · go_simp
                          refine name_world ?_
                          rintro wr6 hw6
                          have hxn6 : Ext wr3 wr6 := hw6 ▸ (Ext.refl _).alloc _
                          have hrow6 : wr6.heap[wr3.heap.size]? = some (.cells #[.int .u8 (lfl.toNat : Int)] 5) := hw6 ▸ heap_alloc_new wr3 _
                          have hb6 : Bs wr6 (some ⟨wr3.heap.size, 0, none⟩) (beN 1 lfl.toNat) := hw6 ▸ new_u8 lfl wr3
                          refine hK.out _ _ ?_ (fun hHeld => ?_)
                          · exact hHeld.trans (.of_ext hxn6)
                          clear hK K
                          try simp only [List.getElem_toArray, List.getElem_cons_succ, List.getElem_cons_zero, Act.put, List.setIfInBounds_toArray, List.set_cons_zero, List.set_cons_succ]
                          refine wpHead_done (by kernel_rfl) ?_
                          have hl4 : Lay w w1 (ly ++ beN 4 luid) wr6 c3 := by first | exact hl3' | exact hl3'.al hxn6
                          have hsb4 : Stp [51] wb wr6 := by first | exact hsb3 | exact hsb3.trans (.of_ext hxn6)
                          refine wpList_appB (l' := beN 1 lfl.toNat) bytesTr hl4.o ?hb rfl rfl rfl rfl (by simp) (by simp; omega) hl4.x.size ?_
                          case hb =>
                            first
                            | exact hb6
                            | exact Sl.grown hb6 hg3 (fun ad e e2 => by cases e; have q := (hlayc.o.lt _ e2).2; rw [hw0] at q; exact absurd q (Nat.lt_irrefl _))
                          intro v8 w8 ho8 hg8 _
                          have hl8 := (hl4.app ho8 hg8).drew
                          have hsb8 := (hsb4.own hl4.o hg8 hNB).drew
                          have hsl8 := (hHeld.own hl4.o hg8 hNL).drew
                          clear hl3 hl3' hl4 hg3 hb6 ho8 hg8 hlayc hlA hsbA hsb3 hsb4 hsbc hs0 hHeld hw0
                          go_wp2_with fail
                          refine wp_region_phase (S := fun w' => Stp [75] wc w') 7 (by kernel_rfl) (by kernel_rfl) ?_ (fun hHeld => ?_)
                          · exact hsl8
                          simp only [List.drop_succ_cons, List.drop_zero]
                          refine name_head ?_
                          intro wr0 hw0
                          rw [hw0] at hHeld
                          refine wpHead_take (i := 0) (v := ?_) (by rfl) (by kernel_rfl) (by kernel_rfl) (by exact fun _ _ _ h => h) (Or.inl ⟨by rfl, ?_⟩) (by assumption) ?_
                          rotate_left
                          · intro w hSw
                            first | (go_simp; done) | (go_simp; with_reducible rfl)
                          simp only [List.getElem_toArray, List.getElem_cons_zero, Act.put, List.setIfInBounds_toArray, List.set_cons_zero, List.set_cons_succ]
                          refine wpHead_take (i := 1) (v := ?_) (by rfl) (by kernel_rfl) (by kernel_rfl) (by exact fun _ _ _ h => h) (Or.inl ⟨by rfl, ?_⟩) (by assumption) ?_
                          rotate_left
                          · intro w hSw
                            first | (go_simp; done) | (go_simp; with_reducible rfl)
                          simp only [List.getElem_toArray, List.getElem_cons_succ, List.getElem_cons_zero, Act.put, List.setIfInBounds_toArray, List.set_cons_zero, List.set_cons_succ]
                          refine wpHead_take (i := 2) (v := ?_) (by rfl) (by kernel_rfl) (by kernel_rfl) (by exact fun _ _ _ h => h) (Or.inl ⟨by rfl, ?_⟩) (by assumption) ?_
                          rotate_left
                          · intro w hSw
                            first | (go_simp; done) | (go_simp; with_reducible rfl)
                          simp only [List.getElem_toArray, List.getElem_cons_succ, List.getElem_cons_zero, Act.put, List.setIfInBounds_toArray, List.set_cons_zero, List.set_cons_succ]
                          refine wpHead_take (i := 3) (v := ?_) (by rfl) (by kernel_rfl) (by kernel_rfl) (by exact fun _ _ _ h => h) (Or.inl ⟨by rfl, ?_⟩) (by assumption) ?_
                          rotate_left
                          · intro w hSw
                            first | (go_simp; done) | (go_simp; with_reducible rfl)
                          simp only [List.getElem_toArray, List.getElem_cons_succ, List.getElem_cons_zero, Act.put, List.setIfInBounds_toArray, List.set_cons_zero, List.set_cons_succ]
                          refine wpHead_take (i := 5) (v := ?_) (by rfl) (by kernel_rfl) (by kernel_rfl) (by exact fun _ _ _ h => h) (Or.inl ⟨by rfl, ?_⟩) (by assumption) ?_
                          rotate_left
                          · intro w hSw
                            first | (go_simp; done) | (go_simp; with_reducible rfl)
                          simp only [List.getElem_toArray, List.getElem_cons_succ, List.getElem_cons_zero, Act.put, List.setIfInBounds_toArray, List.set_cons_zero, List.set_cons_succ]
                          refine wpHead_take (i := 6) (v := ?_) (by rfl) (by kernel_rfl) (by kernel_rfl) (by exact fun _ _ _ h => h) (Or.inl ⟨by rfl, ?_⟩) (by assumption) ?_
                          rotate_left
                          · intro w hSw
                            first | (go_simp; done) | (go_simp; with_reducible rfl)
                          simp only [List.getElem_toArray, List.getElem_cons_succ, List.getElem_cons_zero, Act.put, List.setIfInBounds_toArray, List.set_cons_zero, List.set_cons_succ]
                          refine wpHead_ready (rs := [4]) (by kernel_rfl) (by simp) (by kernel_rfl) ?_
                          refine AllHead.cons (by rfl) (fun K hK => ?_) ?_
                          · refine step_callG (by rfl) (by kernel_rfl) (hN _ _ _ lby.length 2 (by rw [← hw0]; exact hl8) (by simp; omega) (by omega) (by omega)) ?_
                            rintro e wr4 ⟨c4, rfl, hq4, -⟩
                            refine ⟨_, rfl, ?_⟩
                            refine hK.out _ _ ?_ (fun hHeld => ?_)
                            · exact hHeld.trans (hq4.s _ hNL)
                            clear hK K
                            try simp only [List.getElem_toArray, List.getElem_cons_succ, List.getElem_cons_zero, Act.put, List.setIfInBounds_toArray, List.set_cons_zero, List.set_cons_succ]
                            refine wpHead_done (by kernel_rfl) ?_
                            have hsb9 := hsb8.trans ((hw0 ▸ hq4).s _ hNB)
                            have hq := hl8.trans (hw0 ▸ hq4)
                            refine wpList_appB bytesTr hq.o (hbyj.bs.ext hq.x) rfl rfl rfl rfl rfl (by simp; omega) hq.x.size ?_
                            intro v9 w9 ho9 hg9 _
                            have hl9 := hq.app ho9 hg9
                            have hsb10 := hsb9.own hq.o hg9 hNB
                            clear hq hsb9 ho9 hg9 hq4 hsb8 hl8 hHeld hw0 hsl8
                            go_wp2
                            go_roundw
                            case rel =>
                              refine ⟨j + 1, by go_num, by omega, ?_, hsb10⟩
                              have : lx ++ (bls.take (j + 1)).flatMap putL = ly ++ beN 4 luid ++ beN 1 lfl.toNat ++ beN 2 lby.length ++ lby := by
                                rw [HTL.out, List.flatMap_append, ← List.append_assoc, HLY.out]
                                simp [putL, longB]
                              rw [this]
                              exact hl9
                            case measure => simp [intOf]; omega
                          exact AllHead.nil
                        exact AllHead.nil
                      refine AllHead.cons (by rfl) (fun K hK => ?_) ?_
                      · go_simp
                        refine name_world ?_
                        rintro wr6 hw6
                        have hxn6 : Ext wr0 wr6 := hw6 ▸ (Ext.refl _).alloc _
                        have hrow6 : wr6.heap[wr0.heap.size]? = some (.cells #[.int .u8 (lfl.toNat : Int)] 5) := hw6 ▸ heap_alloc_new wr0 _
                        have hb6 : Bs wr6 (some ⟨wr0.heap.size, 0, none⟩) (beN 1 lfl.toNat) := hw6 ▸ new_u8 lfl wr0
                        refine hK.out _ _ ?_ (fun hHeld => ?_)
                        · exact hHeld.trans (.of_ext hxn6)
                        clear hK K
                        try simp only [List.getElem_toArray, List.getElem_cons_succ, List.getElem_cons_zero, Act.put, List.setIfInBounds_toArray, List.set_cons_zero, List.set_cons_succ]
                        refine wpHead_ready (rs := [3]) (by kernel_rfl) (by simp) (by kernel_rfl) ?_
                        refine AllHead.cons (by rfl) (fun K hK => ?_) ?_
                        · have hlayw := hlayc
                          have hsbw := hsbc
                          rw [hw0] at hlayw hsbw
                          first | have hlA := hlayw.al hxn6 | have hlA := hlayw
                          first | have hsbA := hsbw.trans (.of_ext hxn6) | have hsbA := hsbw
                          refine step_callG (by rfl) (by kernel_rfl) (hN _ _ _ luid 4 hlA (by omega) (by omega) (by omega)) ?_
                          rintro e wr3 ⟨c3, rfl, hl3, hg3⟩
                          have hsb3 := hsbA.trans (hl3.s _ hNB)
                          have hl3' := hlA.trans hl3
                          refine ⟨_, rfl, ?_⟩
                          refine hK.out _ _ ?_ (fun hHeld => ?_)
                          · exact hHeld.trans (hl3.s _ hNL)
                          clear hK K
                          try simp only [List.getElem_toArray, List.getElem_cons_succ, List.getElem_cons_zero, Act.put, List.setIfInBounds_toArray, List.set_cons_zero, List.set_cons_succ]
                          refine wpHead_done (by kernel_rfl) ?_
                          have hl4 : Lay w w1 (ly ++ beN 4 luid) wr3 c3 := by first | exact hl3' | exact hl3'.al hxn6
                          have hsb4 : Stp [51] wb wr3 := by first | exact hsb3 | exact hsb3.trans (.of_ext hxn6)
                          refine wpList_appB (l' := beN 1 lfl.toNat) bytesTr hl4.o ?hb rfl rfl rfl rfl (by simp) (by simp; omega) hl4.x.size ?_
                          case hb =>
                            first
                            | exact hb6
                            | exact Sl.grown hb6 hg3 (fun ad e e2 => by cases e; have q := (hlayc.o.lt _ e2).2; rw [hw0] at q; exact absurd q (Nat.lt_irrefl _))
                          intro v8 w8 ho8 hg8 _
                          have hl8 := (hl4.app ho8 hg8).drew
                          have hsb8 := (hsb4.own hl4.o hg8 hNB).drew
                          have hsl8 := (hHeld.own hl4.o hg8 hNL).drew
                          clear hl3 hl3' hl4 hg3 hb6 ho8 hg8 hlayc hlA hsbA hsb3 hsb4 hsbc hs0 hHeld hw0
                          go_wp2_with fail
                          refine wp_region_phase (S := fun w' => Stp [75] wc w') 7 (by kernel_rfl) (by kernel_rfl) ?_ (fun hHeld => ?_)
                          · exact hsl8
                          simp only [List.drop_succ_cons, List.drop_zero]
                          refine name_head ?_
                          intro wr0 hw0
                          rw [hw0] at hHeld
                          refine wpHead_take (i := 0) (v := ?_) (by rfl) (by kernel_rfl) (by kernel_rfl) (by exact fun _ _ _ h => h) (Or.inl ⟨by rfl, ?_⟩) (by assumption) ?_
                          rotate_left
                          · intro w hSw
                            first | (go_simp; done) | (go_simp; with_reducible rfl)
                          simp only [List.getElem_toArray, List.getElem_cons_zero, Act.put, List.setIfInBounds_toArray, List.set_cons_zero, List.set_cons_succ]
                          refine wpHead_take (i := 1) (v := ?_) (by rfl) (by kernel_rfl) (by kernel_rfl) (by exact fun _ _ _ h => h) (Or.inl ⟨by rfl, ?_⟩) (by assumption) ?_
                          rotate_left
                          · intro w hSw
                            first | (go_simp; done) | (go_simp; with_reducible rfl)
                          simp only [List.getElem_toArray, List.getElem_cons_succ, List.getElem_cons_zero, Act.put, List.setIfInBounds_toArray, List.set_cons_zero, List.set_cons_succ]
                          refine wpHead_take (i := 2) (v := ?_) (by rfl) (by kernel_rfl) (by kernel_rfl) (by exact fun _ _ _ h => h) (Or.inl ⟨by rfl, ?_⟩) (by assumption) ?_
                          rotate_left
                          · intro w hSw
                            first | (go_simp; done) | (go_simp; with_reducible rfl)
                          simp only [List.getElem_toArray, List.getElem_cons_succ, List.getElem_cons_zero, Act.put, List.setIfInBounds_toArray, List.set_cons_zero, List.set_cons_succ]
                          refine wpHead_take (i := 3) (v := ?_) (by rfl) (by kernel_rfl) (by kernel_rfl) (by exact fun _ _ _ h => h) (Or.inl ⟨by rfl, ?_⟩) (by assumption) ?_
                          rotate_left
                          · intro w hSw
                            first | (go_simp; done) | (go_simp; with_reducible rfl)
                          simp only [List.getElem_toArray, List.getElem_cons_succ, List.getElem_cons_zero, Act.put, List.setIfInBounds_toArray, List.set_cons_zero, List.set_cons_succ]
                          refine wpHead_take (i := 5) (v := ?_) (by rfl) (by kernel_rfl) (by kernel_rfl) (by exact fun _ _ _ h => h) (Or.inl ⟨by rfl, ?_⟩) (by assumption) ?_
                          rotate_left
                          · intro w hSw
                            first | (go_simp; done) | (go_simp; with_reducible rfl)
                          simp only [List.getElem_toArray, List.getElem_cons_succ, List.getElem_cons_zero, Act.put, List.setIfInBounds_toArray, List.set_cons_zero, List.set_cons_succ]
                          refine wpHead_take (i := 6) (v := ?_) (by rfl) (by kernel_rfl) (by kernel_rfl) (by exact fun _ _ _ h => h) (Or.inl ⟨by rfl, ?_⟩) (by assumption) ?_
                          rotate_left
                          · intro w hSw
                            first | (go_simp; done) | (go_simp; with_reducible rfl)
                          simp only [List.getElem_toArray, List.getElem_cons_succ, List.getElem_cons_zero, Act.put, List.setIfInBounds_toArray, List.set_cons_zero, List.set_cons_succ]
                          refine wpHead_ready (rs := [4]) (by kernel_rfl) (by simp) (by kernel_rfl) ?_
                          refine AllHead.cons (by rfl) (fun K hK => ?_) ?_
                          · refine step_callG (by rfl) (by kernel_rfl) (hN _ _ _ lby.length 2 (by rw [← hw0]; exact hl8) (by simp; omega) (by omega) (by omega)) ?_
                            rintro e wr4 ⟨c4, rfl, hq4, -⟩
                            refine ⟨_, rfl, ?_⟩
                            refine hK.out _ _ ?_ (fun hHeld => ?_)
                            · exact hHeld.trans (hq4.s _ hNL)
                            clear hK K
                            try simp only [List.getElem_toArray, List.getElem_cons_succ, List.getElem_cons_zero, Act.put, List.setIfInBounds_toArray, List.set_cons_zero, List.set_cons_succ]
                            refine wpHead_done (by kernel_rfl) ?_
                            have hsb9 := hsb8.trans ((hw0 ▸ hq4).s _ hNB)
                            have hq := hl8.trans (hw0 ▸ hq4)
                            refine wpList_appB bytesTr hq.o (hbyj.bs.ext hq.x) rfl rfl rfl rfl rfl (by simp; omega) hq.x.size ?_
                            intro v9 w9 ho9 hg9 _
                            have hl9 := hq.app ho9 hg9
                            have hsb10 := hsb9.own hq.o hg9 hNB
                            clear hq hsb9 ho9 hg9 hq4 hsb8 hl8 hHeld hw0 hsl8
                            go_wp2
                            go_roundw
                            case rel =>
                              refine ⟨j + 1, by go_num, by omega, ?_, hsb10⟩
                              have : lx ++ (bls.take (j + 1)).flatMap putL = ly ++ beN 4 luid ++ beN 1 lfl.toNat ++ beN 2 lby.length ++ lby := by
                                rw [HTL.out, List.flatMap_append, ← List.append_assoc, HLY.out]
                                simp [putL, longB]
                              rw [this]
                              exact hl9
                            case measure => simp [intOf]; omega
                          exact AllHead.nil
                        exact AllHead.nil
                      exact AllHead.nil
                    · have hltj2 : ¬ (j : Int) < bls.length := by omega
                      obtain rfl : j = bls.length := by omega
                      rw [List.take_length] at hlay
                      clear hby hltj hx
                      go_wp2
                      go_roundw
                      case rel =>
                        refine ⟨k + 1, by go_num, by omega, ?_⟩
                        have : lh ++ (bs.take (k + 1)).flatMap putX = lx ++ bls.flatMap putL := by
                          rw [HTK.out, List.flatMap_append, ← List.append_assoc, HLB.out, HLX.out, HLN.out]
                          simp [putX]
                        rw [this]
                        exact hlay
                      case measure => simp [intOf]; omega
                exact AllHead.nil
              exact AllHead.nil
            exact AllHead.nil
          · have hlt2 : ¬ (k : Int) < bs.length := by omega
            obtain rfl : k = bs.length := by omega
            rw [List.take_length] at hlay
            have HB : Hid (putUsT ⟨un, uv, bs⟩ = (lh ++ bs.flatMap putX, 0)) := Lib.hid (by rw [HP2.out, HLH.out]; simp [putUs])
            clear hlt h
            go_wp2
            go_ret2
            rw [HB.out]
            exact ⟨hx, _, rfl, hlay.o⟩
      exact AllHead.nil
    exact AllHead.nil
  · have hc2 : (((checkU ⟨un, uv, bs⟩ : Nat) : Int) == 0) = false := by simpa using hc
    have HB : Hid (putUsT ⟨un, uv, bs⟩ = ([], checkU ⟨un, uv, bs⟩)) := Lib.hid (by rw [HP.out, if_pos hc])
    generalize checkU ⟨un, uv, bs⟩ = z at *
    go_wp2
    go_ret2
    exact PutSays.none HB.out hx01
end Go.Proofs.YtameamfaaenboaaDoor
