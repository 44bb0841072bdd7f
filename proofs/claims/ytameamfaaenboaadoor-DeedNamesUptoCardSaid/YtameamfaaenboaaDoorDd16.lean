/- The walk of deed.PutUser. Conditions: the bounds named. -/
import Derived.Test.YtameamfaaenboaaDoorDd14
namespace Go.Proofs.YtameamfaaenboaaDoor
open Go.RowKit
theorem putX_len {b : Bx} (hn : rightB b.name = true) (h : boxC b = 0) : (putX b).length ≤ 20000 := by
  obtain ⟨_, _, h3, h4⟩ := boxC_ok h
  have := rightB_len hn
  have hs := sizeF_le b.letters (fun l hl => (h4 l hl).2.2.2) b.letters.length (Nat.le_refl _)
  rw [List.take_length] at hs
  simp only [putX, shortB, List.length_append, beN_length, putL_len, List.length_nil]
  omega
theorem flatX_len (bs : List Bx) (h : ∀ b ∈ bs, rightB b.name = true ∧ boxC b = 0) : (bs.flatMap putX).length ≤ 20000 * bs.length := by
  induction bs with
  | nil => simp
  | cons d ds ih =>
    have h1 := putX_len (h d (.head _)).1 (h d (.head _)).2
    have h2 := ih fun x hx => h x (.tail _ hx)
    simp only [List.flatMap_cons, List.length_append, List.length_cons]
    omega
theorem flatL_len (ls : List Lt) (h : ∀ l ∈ ls, l.bytes.length ≤ 600) : (ls.flatMap putL).length ≤ 607 * ls.length := by
  have hs := sizeF_le ls h ls.length (Nat.le_refl _)
  rw [List.take_length] at hs
  rw [putL_len]
  omega
theorem take_len {α : Type} {ls : List α} {k : Nat} (hk : k < ls.length) : ls.take (k + 1) = ls.take k ++ [ls[k]] := by rw [List.take_add_one, List.getElem?_eq_getElem hk]; rfl
set_option maxRecDepth 20000 in
set_option maxHeartbeats 8000000 in
theorem PutUser_any (u : Us) (A : Option Addr) (cap : Nat) (w : World) (h : RsM RBx 4 [] w A u.boxes) (hn : u.name.length ≤ 140737488355328) (hbn : ∀ b ∈ u.boxes, b.name.length ≤ 140737488355328) :
    Calls Tryd.prog 22 #[.agg (usC u (.slice A u.boxes.length cap))] w (PutSays (putUsT u) w) := by
  have hx0 : Ext w (w.alloc (.cells (usC u (.slice A u.boxes.length cap)) 42)) := (Ext.refl w).alloc _
  have hrow := heap_alloc_new w (.cells (usC u (.slice A u.boxes.length cap)) 42)
  obtain ⟨wa, hwa⟩ : ∃ wa, wa = w.alloc (.cells (usC u (.slice A u.boxes.length cap)) 42) := ⟨_, rfl⟩
  rw [← hwa] at hx0 hrow
  have HWA := Lib.hid hwa
  have HCU := CheckUser_any u A cap wa (h.kept (.of_ext hx0)) hn hbn
  have HP : Hid (putUsT u = if checkU u ≠ 0 then ([], checkU u) else (putUs u, 0)) := Lib.hid rfl
  clear hwa
  obtain ⟨un, uv, bs⟩ := u
  unfold usC at *
  simp only at *
  go_enter Tryd.func22, Tryd.ntmps22
  go_wp2_with (first | (with_reducible refine stop_alloc 75 ?_) | (with_reducible refine stop_store 75 ?_) | (with_reducible refine stop_load 75 ?_) | (with_reducible refine stop_alloc 51 ?_) | (with_reducible refine stop_store 51 ?_) | (with_reducible refine stop_load 51 ?_) | (with_reducible refine stop_load 42 ?_))
  rw [← HWA.out]
  refine go_on (wpList_load_row rfl 42 _ rfl w.heap.size rfl 42 _ (0, 0) _ hrow Tryd.underlying42 rfl (by kernel_rfl) ?_)
  go_wp2_with fail
  refine HCU.mono ?_
  rintro e w1 ⟨rfl, hx1⟩
  have hx01 := hx0.trans hx1
  have hrow1 := hx1.obj hrow
  clear HCU hrow
  by_cases hc : checkU ⟨un, uv, bs⟩ = 0
  · have HP2 := Lib.hid (HP.out.trans (if_neg (by simpa using hc)))
    rw [hc]
    obtain ⟨hc1, hc2, hc3, hc4, hc5, hc6⟩ := checkU_ok hc
    simp only at hc1 hc2 hc3 hc4 hc5 hc6
    have hall := boxesC_ok _ _ _ _ hc6
    have hun := (rightU_len hc1).2
    obtain ⟨uv, rfl⟩ : ∃ n : Nat, uv = (n : Int) := ⟨uv.toNat, by omega⟩
    have HM : 42 ∈ [42] := by simp
    have C0 := row_s hrow1 HM 0 _ rfl
    have C1 := row_s hrow1 HM 1 _ rfl
    have C2 := row_s hrow1 HM 2 _ rfl
    have hND : 5 ∉ [42] := by simp
    have hNB : 5 ∉ [51] := by simp
    have hNL : 5 ∉ [75] := by simp
    have hN := fun (W : World) (b : Value) (l : By) (v n : Nat) (hL : Lay w w l W b) (h1 : l.length ≤ 200000) (hn : n ≤ 4) => numS_any w W b l v n hL.x hL.o (by omega) hn
    have hS := fun (W : World) (b : Value) (l p : By) (hL : Lay w w l W b) (h1 : l.length ≤ 200000) (hp : p.length ≤ 24) => shortS_any w W b l p hL.x hL.o (by omega)
    have hLg := fun (W : World) (b : Value) (l p : By) (A : Option Addr) (c : Nat) (hL : Lay w w l W b) (h1 : l.length ≤ 200000) (hp : p.length ≤ 600) (hb : Bs w A p) => longS_any w W b l p A c hL.x hL.o hb (by omega)
    have hlay0 : Lay w w [] w1.drew (.slice none 0 0) := ⟨Own.nil _ _, hx01.drew, fun ts _ => (Stp.of_ext hx01).drew⟩
    have hs0 : Stp [42] w1 w1.drew := (Stp.refl _ _).drew
    clear hc hc1 hc2 hc6 HP hrow1 hx1 HM
    go_wp2_with fail
    refine wp_region_phase (S := fun w' => Stp [42] w1 w') 10 (by kernel_rfl) (by kernel_rfl) ?_ (fun hHeld => ?_)
    · exact hs0
    simp only [List.drop_succ_cons, List.drop_zero]
    refine name_head ?_
    intro wr0 hw0
    rw [hw0] at hHeld
    refine wpHead_take (i := 0) (v := ?_) (by rfl) (by kernel_rfl) (by kernel_rfl) (by exact fun _ _ _ h => h) (Or.inl ⟨by rfl, ?_⟩) (by assumption) ?_
    rotate_left
    · intro w hSw
      first | (go_simp; done) | (go_simp; with_reducible rfl)
    simp only [List.getElem_toArray, List.getElem_cons_zero, Act.put, List.setIfInBounds_toArray, List.set_cons_zero, List.set_cons_succ]
    refine wpHead_take (i := 1) (v := ?_) (by rfl) (by kernel_rfl) (by kernel_rfl) (by exact fun _ _ _ h => h) (Or.inl ⟨by rfl, ?_⟩) (by assumption) ?_
    rotate_left
    · intro w hSw
      first | (go_simp; done) | (go_simp; with_reducible rfl)
    simp only [List.getElem_toArray, List.getElem_cons_succ, List.getElem_cons_zero, Act.put, List.setIfInBounds_toArray, List.set_cons_zero, List.set_cons_succ]
    refine wpHead_take (i := 3) (v := ?_) (by rfl) (by kernel_rfl) (by kernel_rfl) (by exact fun _ _ _ h => h) (Or.inl ⟨by rfl, ?_⟩) (by assumption) ?_
    rotate_left
    · intro w hSw
      first | (go_simp; done) | (go_simp; with_reducible rfl)
    simp only [List.getElem_toArray, List.getElem_cons_succ, List.getElem_cons_zero, Act.put, List.setIfInBounds_toArray, List.set_cons_zero, List.set_cons_succ]
    refine wpHead_take (i := 4) (v := ?_) (by rfl) (by kernel_rfl) (by kernel_rfl) (by exact fun _ _ _ h => h) (Or.inl ⟨by rfl, ?_⟩) (by assumption) ?_
    rotate_left
    · intro w hSw
      first | (go_simp; done) | (go_simp; with_reducible rfl)
    simp only [List.getElem_toArray, List.getElem_cons_succ, List.getElem_cons_zero, Act.put, List.setIfInBounds_toArray, List.set_cons_zero, List.set_cons_succ]
    refine wpHead_take (i := 6) (v := ?_) (by rfl) (by kernel_rfl) (by kernel_rfl) (by exact fun _ _ _ h => h) (Or.inl ⟨by rfl, ?_⟩) (by assumption) ?_
    rotate_left
    · intro w hSw
      first | (go_simp; done) | (go_simp; with_reducible rfl)
    simp only [List.getElem_toArray, List.getElem_cons_succ, List.getElem_cons_zero, Act.put, List.setIfInBounds_toArray, List.set_cons_zero, List.set_cons_succ]
    refine wpHead_take (i := 7) (v := ?_) (by rfl) (by kernel_rfl) (by kernel_rfl) (by exact fun _ _ _ h => h) (Or.inl ⟨by rfl, ?_⟩) (by assumption) ?_
    rotate_left
    · intro w hSw
      first | (go_simp; done) | (go_simp; with_reducible rfl)
    simp only [List.getElem_toArray, List.getElem_cons_succ, List.getElem_cons_zero, Act.put, List.setIfInBounds_toArray, List.set_cons_zero, List.set_cons_succ]
    refine wpHead_take (i := 8) (v := ?_) (by rfl) (by kernel_rfl) (by kernel_rfl) (by exact fun _ _ _ h => h) (Or.inl ⟨by rfl, ?_⟩) (by assumption) ?_
    rotate_left
    · intro w hSw
      first | (go_simp; done) | (go_simp; with_reducible rfl)
    simp only [List.getElem_toArray, List.getElem_cons_succ, List.getElem_cons_zero, Act.put, List.setIfInBounds_toArray, List.set_cons_zero, List.set_cons_succ]
    refine wpHead_ready (rs := [2]) (by kernel_rfl) (by simp) (by kernel_rfl) ?_
    refine AllHead.cons (by rfl) (fun K hK => ?_) ?_
    · refine step_callG (by rfl) (by kernel_rfl) (hS _ _ _ un (by rw [← hw0]; exact hlay0) (by simp) (by omega)) ?_
      rintro e wr2 ⟨c2, rfl, hl2⟩
      refine ⟨_, rfl, ?_⟩
      refine hK.out _ _ ?_ (fun hHeld => ?_)
      · exact hHeld.trans (hl2.s _ hND)
      clear hK K
      try simp only [List.getElem_toArray, List.getElem_cons_succ, List.getElem_cons_zero, Act.put, List.setIfInBounds_toArray, List.set_cons_zero, List.set_cons_succ]
      refine wpHead_ready (rs := [5]) (by kernel_rfl) (by simp) (by kernel_rfl) ?_
      refine AllHead.cons (by rfl) (fun K hK => ?_) ?_
      · have hl2' := hlay0.trans (hw0 ▸ hl2)
        refine step_callG (by rfl) (by kernel_rfl) (hN _ _ _ uv 4 hl2' (by simp [shortB]; omega) (by omega)) ?_
        rintro e wr5 ⟨c5, rfl, hl5⟩
        refine ⟨_, rfl, ?_⟩
        refine hK.out _ _ ?_ (fun hHeld => ?_)
        · exact hHeld.trans (hl5.s _ hND)
        clear hK K
        try simp only [List.getElem_toArray, List.getElem_cons_succ, List.getElem_cons_zero, Act.put, List.setIfInBounds_toArray, List.set_cons_zero, List.set_cons_succ]
        refine wpHead_ready (rs := [9]) (by kernel_rfl) (by simp) (by kernel_rfl) ?_
        refine AllHead.cons (by rfl) (fun K hK => ?_) ?_
        · have hl5' := hl2'.trans hl5
          refine step_callG (by rfl) (by kernel_rfl) (hN _ _ _ bs.length 1 hl5' (by simp [shortB]; omega) (by omega)) ?_
          rintro e wr9 ⟨c9, rfl, hl9⟩
          refine ⟨_, rfl, ?_⟩
          refine hK.out _ _ ?_ (fun hHeld => ?_)
          · exact hHeld.trans (hl9.s _ hND)
          clear hK K
          try simp only [List.getElem_toArray, List.getElem_cons_succ, List.getElem_cons_zero, Act.put, List.setIfInBounds_toArray, List.set_cons_zero, List.set_cons_succ]
          refine wpHead_done (by kernel_rfl) ?_
          have hl9' := hl5'.trans hl9
          rw [List.nil_append] at hl9'
          obtain ⟨lh, hlh⟩ : ∃ lh, lh = shortB un ++ beN 4 uv ++ beN 1 bs.length := ⟨_, rfl⟩
          rw [← hlh] at hl9'
          have hlhl : lh.length ≤ 100 := by rw [hlh]; simp [shortB]; omega
          have HLH := Lib.hid hlh
          clear hlh hl2 hl2' hl5 hl5' hl9 hlay0 hw0
          go_wp2
          go_loopw [5, 28] (fun b5 iv wr => ∃ k : Nat, iv = .int .i64 k ∧ k ≤ bs.length ∧ Lay w w (lh ++ (bs.take k).flatMap putX) wr b5) (fun _ iv _ => bs.length - (intOf iv).toNat)
          case atStart => exact ⟨0, rfl, by omega, by simpa using hl9'⟩
          case round =>
            clear hl9' C0 C1 C2 hHeld
            obtain ⟨k, rfl, hk, hlay⟩ := hrel
            have hx := hlay.x
            by_cases hlt : k < bs.length
            · obtain ⟨ad, cs, hA, had, hcs, hcell, A2, cap2, hcs2, hby⟩ := h.at_ (by omega) hlt
              subst hA hcs2
              have hlt2 : (k : Int) < bs.length := by omega
              have hcl := fun j v hj => hx.cell (show w.cell? ((ad.add (k * 4)).add j) = some v by rw [add_addB]; exact hcell j v hj)
              have HTK := Lib.hid (take_len hlt)
              have hfl := flatX_len (bs.take k) (fun b hb => hall b (List.mem_of_mem_take hb))
              obtain ⟨ha1, ha2⟩ := hall _ (List.getElem_mem hlt)
              rw [List.length_take] at hfl
              clear hcs hcell had
              generalize bs[k] = bb at *
              obtain ⟨bn, bval, bnx, bls⟩ := bb
              unfold bxC at hcl
              obtain ⟨hv1, hv2, hl32, hls⟩ := boxC_ok ha2
              have hbl := (rightB_len ha1).2
              have hv1 := (numB_ok hv1).2
              have hv2 := (numB_ok hv2).2
              simp only at hcl hby hv1 hv2 hl32 hls hbl
              obtain ⟨bval, rfl⟩ : ∃ n : Nat, bval = (n : Int) := ⟨bval.toNat, by omega⟩
              obtain ⟨bnx, rfl⟩ : ∃ n : Nat, bnx = (n : Int) := ⟨bnx.toNat, by omega⟩
              go_wp2_with (first | (with_reducible refine stop_alloc 75 ?_) | (with_reducible refine stop_store 75 ?_) | (with_reducible refine stop_load 75 ?_) | (with_reducible refine stop_alloc 51 ?_) | (with_reducible refine stop_store 51 ?_) | (with_reducible refine stop_load 51 ?_) | (with_reducible refine stop_load 42 ?_))
              refine go_on (wpList_load_elem rfl 51 _ rfl (ad.add (k * 4)) rfl _ _ hcl Tryd.underlying51 rfl (by kernel_rfl) ?_)
              go_wp2_with (first | (with_reducible refine stop_alloc 75 ?_) | (with_reducible refine stop_store 75 ?_) | (with_reducible refine stop_load 75 ?_) | (with_reducible refine stop_alloc 51 ?_) | (with_reducible refine stop_store 51 ?_) | (with_reducible refine stop_load 51 ?_) | (with_reducible refine stop_load 42 ?_))
              refine go_on (wpList_alloc_ rfl rfl box_info ?_)
              go_wp2_with (first | (with_reducible refine stop_alloc 75 ?_) | (with_reducible refine stop_store 75 ?_) | (with_reducible refine stop_load 75 ?_) | (with_reducible refine stop_alloc 51 ?_) | (with_reducible refine stop_store 51 ?_) | (with_reducible refine stop_load 51 ?_) | (with_reducible refine stop_load 42 ?_))
              refine go_on (wpList_store_last rfl rfl rfl rfl (by kernel_rfl) rfl (by simp [Value.oneCell']) ?_)
              intro wb hrowB hxb _
              have hlayb : Lay w w (lh ++ (bs.take k).flatMap putX) wb.drew _ := ⟨hlay.o.ext hxb.drew, hx.trans hxb.drew, fun ts ht => (hlay.s ts ht).trans (.of_ext hxb.drew)⟩
              have hlq : (lh ++ (bs.take k).flatMap putX).length ≤ 130000 := by rw [List.length_append]; omega
              generalize hlb : lh ++ (bs.take k).flatMap putX = lb at *
              have HLB := Lib.hid hlb
              have HM : 51 ∈ [51] := by simp
              have C0 := row_s hrowB HM 0 _ rfl
              have C1 := row_s hrowB HM 1 _ rfl
              have C2 := row_s hrowB HM 2 _ rfl
              have C3 := row_s hrowB HM 3 _ rfl
              have hs0 : Stp [51] wb wb.drew := (Stp.refl _ _).drew
              clear hcl hlay hx hlb hfl ha1 ha2 hxb hrowB
              go_wp2_with fail
              refine wp_region_phase (S := fun w' => Stp [51] wb w') 14 (by kernel_rfl) (by kernel_rfl) ?_ (fun hHeld => ?_)
              · exact hs0
              simp only [List.drop_succ_cons, List.drop_zero]
              refine name_head ?_
              intro wr0 hw0
              rw [hw0] at hHeld
              refine wpHead_take (i := 0) (v := ?_) (by rfl) (by kernel_rfl) (by kernel_rfl) (by exact fun _ _ _ h => h) (Or.inl ⟨by rfl, ?_⟩) (by assumption) ?_
              rotate_left
              · intro w hSw
                first | (go_simp; done) | (go_simp; with_reducible rfl)
              simp only [List.getElem_toArray, List.getElem_cons_zero, Act.put, List.setIfInBounds_toArray, List.set_cons_zero, List.set_cons_succ]
              refine wpHead_take (i := 1) (v := ?_) (by rfl) (by kernel_rfl) (by kernel_rfl) (by exact fun _ _ _ h => h) (Or.inl ⟨by rfl, ?_⟩) (by assumption) ?_
              rotate_left
              · intro w hSw
                first | (go_simp; done) | (go_simp; with_reducible rfl)
              simp only [List.getElem_toArray, List.getElem_cons_succ, List.getElem_cons_zero, Act.put, List.setIfInBounds_toArray, List.set_cons_zero, List.set_cons_succ]
              refine wpHead_take (i := 2) (v := ?_) (by rfl) (by kernel_rfl) (by kernel_rfl) (by exact fun _ _ _ h => h) (Or.inl ⟨by rfl, ?_⟩) (by assumption) ?_
              rotate_left
              · intro w hSw
                first | (go_simp; done) | (go_simp; with_reducible rfl)
              simp only [List.getElem_toArray, List.getElem_cons_succ, List.getElem_cons_zero, Act.put, List.setIfInBounds_toArray, List.set_cons_zero, List.set_cons_succ]
              refine wpHead_take (i := 4) (v := ?_) (by rfl) (by kernel_rfl) (by kernel_rfl) (by exact fun _ _ _ h => h) (Or.inl ⟨by rfl, ?_⟩) (by assumption) ?_
              rotate_left
              · intro w hSw
                first | (go_simp; done) | (go_simp; with_reducible rfl)
              simp only [List.getElem_toArray, List.getElem_cons_succ, List.getElem_cons_zero, Act.put, List.setIfInBounds_toArray, List.set_cons_zero, List.set_cons_succ]
              refine wpHead_take (i := 5) (v := ?_) (by rfl) (by kernel_rfl) (by kernel_rfl) (by exact fun _ _ _ h => h) (Or.inl ⟨by rfl, ?_⟩) (by assumption) ?_
              rotate_left
              · intro w hSw
                first | (go_simp; done) | (go_simp; with_reducible rfl)
              simp only [List.getElem_toArray, List.getElem_cons_succ, List.getElem_cons_zero, Act.put, List.setIfInBounds_toArray, List.set_cons_zero, List.set_cons_succ]
              refine wpHead_take (i := 7) (v := ?_) (by rfl) (by kernel_rfl) (by kernel_rfl) (by exact fun _ _ _ h => h) (Or.inl ⟨by rfl, ?_⟩) (by assumption) ?_
              rotate_left
              · intro w hSw
                first | (go_simp; done) | (go_simp; with_reducible rfl)
              simp only [List.getElem_toArray, List.getElem_cons_succ, List.getElem_cons_zero, Act.put, List.setIfInBounds_toArray, List.set_cons_zero, List.set_cons_succ]
              refine wpHead_take (i := 8) (v := ?_) (by rfl) (by kernel_rfl) (by kernel_rfl) (by exact fun _ _ _ h => h) (Or.inl ⟨by rfl, ?_⟩) (by assumption) ?_
              rotate_left
              · intro w hSw
                first | (go_simp; done) | (go_simp; with_reducible rfl)
              simp only [List.getElem_toArray, List.getElem_cons_succ, List.getElem_cons_zero, Act.put, List.setIfInBounds_toArray, List.set_cons_zero, List.set_cons_succ]
              refine wpHead_take (i := 10) (v := ?_) (by rfl) (by kernel_rfl) (by kernel_rfl) (by exact fun _ _ _ h => h) (Or.inl ⟨by rfl, ?_⟩) (by assumption) ?_
              rotate_left
              · intro w hSw
                first | (go_simp; done) | (go_simp; with_reducible rfl)
              simp only [List.getElem_toArray, List.getElem_cons_succ, List.getElem_cons_zero, Act.put, List.setIfInBounds_toArray, List.set_cons_zero, List.set_cons_succ]
              refine wpHead_take (i := 11) (v := ?_) (by rfl) (by kernel_rfl) (by kernel_rfl) (by exact fun _ _ _ h => h) (Or.inl ⟨by rfl, ?_⟩) (by assumption) ?_
              rotate_left
              · intro w hSw
                first | (go_simp; done) | (go_simp; with_reducible rfl)
              simp only [List.getElem_toArray, List.getElem_cons_succ, List.getElem_cons_zero, Act.put, List.setIfInBounds_toArray, List.set_cons_zero, List.set_cons_succ]
              refine wpHead_take (i := 12) (v := ?_) (by rfl) (by kernel_rfl) (by kernel_rfl) (by exact fun _ _ _ h => h) (Or.inl ⟨by rfl, ?_⟩) (by assumption) ?_
              rotate_left
              · intro w hSw
                first | (go_simp; done) | (go_simp; with_reducible rfl)
              simp only [List.getElem_toArray, List.getElem_cons_succ, List.getElem_cons_zero, Act.put, List.setIfInBounds_toArray, List.set_cons_zero, List.set_cons_succ]
              refine wpHead_ready (rs := [3]) (by kernel_rfl) (by simp) (by kernel_rfl) ?_
              refine AllHead.cons (by rfl) (fun K hK => ?_) ?_
              · refine step_callG (by rfl) (by kernel_rfl) (hS _ _ _ bn (by rw [← hw0]; exact hlayb) (by omega) (by omega)) ?_
                rintro e wr3 ⟨c3, rfl, hl3⟩
                refine ⟨_, rfl, ?_⟩
                refine hK.out _ _ ?_ (fun hHeld => ?_)
                · exact hHeld.trans (hl3.s _ hNB)
                clear hK K
                try simp only [List.getElem_toArray, List.getElem_cons_succ, List.getElem_cons_zero, Act.put, List.setIfInBounds_toArray, List.set_cons_zero, List.set_cons_succ]
                refine wpHead_ready (rs := [6]) (by kernel_rfl) (by simp) (by kernel_rfl) ?_
                refine AllHead.cons (by rfl) (fun K hK => ?_) ?_
                · have hl3' := hlayb.trans (hw0 ▸ hl3)
                  refine step_callG (by rfl) (by kernel_rfl) (hN _ _ _ bval 4 hl3' (by simp [shortB]; omega) (by omega)) ?_
                  rintro e wr6 ⟨c6, rfl, hl6⟩
                  refine ⟨_, rfl, ?_⟩
                  refine hK.out _ _ ?_ (fun hHeld => ?_)
                  · exact hHeld.trans (hl6.s _ hNB)
                  clear hK K
                  try simp only [List.getElem_toArray, List.getElem_cons_succ, List.getElem_cons_zero, Act.put, List.setIfInBounds_toArray, List.set_cons_zero, List.set_cons_succ]
                  refine wpHead_ready (rs := [9]) (by kernel_rfl) (by simp) (by kernel_rfl) ?_
                  refine AllHead.cons (by rfl) (fun K hK => ?_) ?_
                  · have hl6' := hl3'.trans hl6
                    refine step_callG (by rfl) (by kernel_rfl) (hN _ _ _ bnx 4 hl6' (by simp [shortB]; omega) (by omega)) ?_
                    rintro e wr9 ⟨c9, rfl, hl9⟩
                    refine ⟨_, rfl, ?_⟩
                    refine hK.out _ _ ?_ (fun hHeld => ?_)
                    · exact hHeld.trans (hl9.s _ hNB)
                    clear hK K
                    try simp only [List.getElem_toArray, List.getElem_cons_succ, List.getElem_cons_zero, Act.put, List.setIfInBounds_toArray, List.set_cons_zero, List.set_cons_succ]
                    refine wpHead_ready (rs := [13]) (by kernel_rfl) (by simp) (by kernel_rfl) ?_
                    refine AllHead.cons (by rfl) (fun K hK => ?_) ?_
                    · have hl9' := hl6'.trans hl9
                      refine step_callG (by rfl) (by kernel_rfl) (hN _ _ _ bls.length 1 hl9' (by simp [shortB]; omega) (by omega)) ?_
                      rintro e wr13 ⟨c13, rfl, hl13⟩
                      refine ⟨_, rfl, ?_⟩
                      refine hK.out _ _ ?_ (fun hHeld => ?_)
                      · exact hHeld.trans (hl13.s _ hNB)
                      clear hK K
                      try simp only [List.getElem_toArray, List.getElem_cons_succ, List.getElem_cons_zero, Act.put, List.setIfInBounds_toArray, List.set_cons_zero, List.set_cons_succ]
                      refine wpHead_done (by kernel_rfl) ?_
                      have hl13' := hl9'.trans hl13
                      obtain ⟨lx, hlx⟩ : ∃ lx, lx = lb ++ shortB bn ++ beN 4 bval ++ beN 4 bnx ++ beN 1 bls.length := ⟨_, rfl⟩
                      rw [← hlx] at hl13'
                      have hlxl : lx.length ≤ 130100 := by rw [hlx]; simp [shortB]; omega
                      have HLX := Lib.hid hlx
                      clear hlx hl3 hl3' hl6 hl6' hl9 hl9' hl13 hlayb hw0 hlq
                      go_wp2
                      go_loopw [5, 49] (fun b5 iv wr => ∃ j : Nat, iv = .int .i64 j ∧ j ≤ bls.length ∧ Lay w w (lx ++ (bls.take j).flatMap putL) wr b5) (fun _ iv _ => bls.length - (intOf iv).toNat)
                      case atStart => exact ⟨0, rfl, by omega, by simpa using hl13'⟩
                      case round =>
                        clear hl13' C0 C1 C2 C3 hHeld
                        obtain ⟨j, rfl, hj, hlay⟩ := hrel
                        have hx := hlay.x
                        by_cases hltj : j < bls.length
                        · obtain ⟨adj, csj, hAj, hadj, hcsj, hcellj, A3, cap3, hcsj2, hbyj⟩ := hby.at_ (by omega) hltj
                          subst hAj hcsj2
                          have hltj2 : (j : Int) < bls.length := by omega
                          have hclj := fun i v hj => hx.cell (show w.cell? ((adj.add (j * 3)).add i) = some v by rw [add_addB]; exact hcellj i v hj)
                          have HTL := Lib.hid (take_len hltj)
                          have hfl := flatL_len (bls.take j) (fun l hl => (hls l (List.mem_of_mem_take hl)).2.2.2)
                          obtain ⟨hu1, hu2, hu3, hu4⟩ := hls _ (List.getElem_mem hltj)
                          rw [List.length_take] at hfl
                          clear hcsj hcellj hadj
                          generalize bls[j] = ll at *
                          obtain ⟨luid, lfl, lby⟩ := ll
                          unfold ltC at hclj
                          simp only at hclj hbyj hu1 hu2 hu3 hu4
                          obtain ⟨luid, rfl⟩ : ∃ n : Nat, luid = (n : Int) := ⟨luid.toNat, by omega⟩
                          have hwf : IntKind.i64.wrap ((lfl.toNat : Nat) : Int) = ((lfl.toNat : Nat) : Int) := wrap64_nat _ (by omega)
                          go_wp2_with (first | (with_reducible refine stop_alloc 75 ?_) | (with_reducible refine stop_store 75 ?_) | (with_reducible refine stop_load 75 ?_) | (with_reducible refine stop_alloc 51 ?_) | (with_reducible refine stop_store 51 ?_) | (with_reducible refine stop_load 51 ?_) | (with_reducible refine stop_load 42 ?_))
                          refine go_on (wpList_load_elem rfl 75 _ rfl (adj.add (j * 3)) rfl _ _ hclj Tryd.underlying75 rfl (by kernel_rfl) ?_)
                          go_wp2_with (first | (with_reducible refine stop_alloc 75 ?_) | (with_reducible refine stop_store 75 ?_) | (with_reducible refine stop_load 75 ?_) | (with_reducible refine stop_alloc 51 ?_) | (with_reducible refine stop_store 51 ?_) | (with_reducible refine stop_load 51 ?_) | (with_reducible refine stop_load 42 ?_))
                          refine go_on (wpList_alloc_ rfl rfl letter_info ?_)
                          go_wp2_with (first | (with_reducible refine stop_alloc 75 ?_) | (with_reducible refine stop_store 75 ?_) | (with_reducible refine stop_load 75 ?_) | (with_reducible refine stop_alloc 51 ?_) | (with_reducible refine stop_store 51 ?_) | (with_reducible refine stop_load 51 ?_) | (with_reducible refine stop_load 42 ?_))
                          refine go_on (wpList_store_last rfl rfl rfl rfl (by kernel_rfl) rfl (by simp [Value.oneCell']) ?_)
                          intro wc hrowC hxc _
                          have hlayc : Lay w w (lx ++ (bls.take j).flatMap putL) wc.drew _ := ⟨hlay.o.ext hxc.drew, hx.trans hxc.drew, fun ts ht => (hlay.s ts ht).trans (.of_ext hxc.drew)⟩
                          have hlq : (lx ++ (bls.take j).flatMap putL).length ≤ 160000 := by rw [List.length_append]; omega
                          generalize hlb : lx ++ (bls.take j).flatMap putL = ly at *
                          have HLY := Lib.hid hlb
                          have HM : 75 ∈ [75] := by simp
                          have C0 := row_s hrowC HM 0 _ rfl
                          have C1 := row_s hrowC HM 1 _ rfl
                          have C2 := row_s hrowC HM 2 _ rfl
                          have hs0 : Stp [75] wc wc.drew := (Stp.refl _ _).drew
                          clear hclj hlay hx hlb hfl hxc hrowC
                          go_wp2_with fail
                          refine wp_region_phase (S := fun w' => Stp [75] wc w') 11 (by kernel_rfl) (by kernel_rfl) ?_ (fun hHeld => ?_)
                          · exact hs0
                          simp only [List.drop_succ_cons, List.drop_zero]
                          refine name_head ?_
                          intro wr0 hw0
                          rw [hw0] at hHeld
                          refine wpHead_take (i := 0) (v := ?_) (by rfl) (by kernel_rfl) (by kernel_rfl) (by exact fun _ _ _ h => h) (Or.inl ⟨by rfl, ?_⟩) (by assumption) ?_
                          rotate_left
                          · intro w hSw
                            first | (go_simp; done) | (go_simp; with_reducible rfl)
                          simp only [List.getElem_toArray, List.getElem_cons_zero, Act.put, List.setIfInBounds_toArray, List.set_cons_zero, List.set_cons_succ]
                          refine wpHead_take (i := 1) (v := ?_) (by rfl) (by kernel_rfl) (by kernel_rfl) (by exact fun _ _ _ h => h) (Or.inl ⟨by rfl, ?_⟩) (by assumption) ?_
                          rotate_left
                          · intro w hSw
                            first | (go_simp; done) | (go_simp; with_reducible rfl)
                          simp only [List.getElem_toArray, List.getElem_cons_succ, List.getElem_cons_zero, Act.put, List.setIfInBounds_toArray, List.set_cons_zero, List.set_cons_succ]
                          refine wpHead_take (i := 2) (v := ?_) (by rfl) (by kernel_rfl) (by kernel_rfl) (by exact fun _ _ _ h => h) (Or.inl ⟨by rfl, ?_⟩) (by assumption) ?_
                          rotate_left
                          · intro w hSw
                            first | (go_simp; done) | (go_simp; with_reducible rfl)
                          simp only [List.getElem_toArray, List.getElem_cons_succ, List.getElem_cons_zero, Act.put, List.setIfInBounds_toArray, List.set_cons_zero, List.set_cons_succ]
                          refine wpHead_take (i := 4) (v := ?_) (by rfl) (by kernel_rfl) (by kernel_rfl) (by exact fun _ _ _ h => h) (Or.inl ⟨by rfl, ?_⟩) (by assumption) ?_
                          rotate_left
                          · intro w hSw
                            first | (go_simp; done) | (go_simp; with_reducible rfl)
                          simp only [List.getElem_toArray, List.getElem_cons_succ, List.getElem_cons_zero, Act.put, List.setIfInBounds_toArray, List.set_cons_zero, List.set_cons_succ]
                          refine wpHead_take (i := 5) (v := ?_) (by rfl) (by kernel_rfl) (by kernel_rfl) (by exact fun _ _ _ h => h) (Or.inl ⟨by rfl, ?_⟩) (by assumption) ?_
                          rotate_left
                          · intro w hSw
                            first | (go_simp; done) | (go_simp; with_reducible rfl)
                          simp only [List.getElem_toArray, List.getElem_cons_succ, List.getElem_cons_zero, Act.put, List.setIfInBounds_toArray, List.set_cons_zero, List.set_cons_succ]
                          refine wpHead_take (i := 6) (v := ?_) (by rfl) (by kernel_rfl) (by kernel_rfl) (by exact fun _ _ _ h => h) (Or.inl ⟨by rfl, ?_⟩) (by assumption) ?_
                          rotate_left
                          · intro w hSw
                            first | (go_simp; done) | (go_simp; with_reducible rfl)
                          simp only [List.getElem_toArray, List.getElem_cons_succ, List.getElem_cons_zero, Act.put, List.setIfInBounds_toArray, List.set_cons_zero, List.set_cons_succ]
                          refine wpHead_take (i := 8) (v := ?_) (by rfl) (by kernel_rfl) (by kernel_rfl) (by exact fun _ _ _ h => h) (Or.inl ⟨by rfl, ?_⟩) (by assumption) ?_
                          rotate_left
                          · intro w hSw
                            first | (go_simp; done) | (go_simp; with_reducible rfl)
                          simp only [List.getElem_toArray, List.getElem_cons_succ, List.getElem_cons_zero, Act.put, List.setIfInBounds_toArray, List.set_cons_zero, List.set_cons_succ]
                          refine wpHead_take (i := 9) (v := ?_) (by rfl) (by kernel_rfl) (by kernel_rfl) (by exact fun _ _ _ h => h) (Or.inl ⟨by rfl, ?_⟩) (by assumption) ?_
                          rotate_left
                          · intro w hSw
                            first | (go_simp; done) | (go_simp; with_reducible rfl)
                          simp only [List.getElem_toArray, List.getElem_cons_succ, List.getElem_cons_zero, Act.put, List.setIfInBounds_toArray, List.set_cons_zero, List.set_cons_succ]
                          refine wpHead_ready (rs := [3]) (by kernel_rfl) (by simp) (by kernel_rfl) ?_
                          refine AllHead.cons (by rfl) (fun K hK => ?_) ?_
                          · refine step_callG (by rfl) (by kernel_rfl) (hN _ _ _ luid 4 (by rw [← hw0]; exact hlayc) (by omega) (by omega)) ?_
                            rintro e wr3 ⟨c3, rfl, hl3⟩
                            refine ⟨_, rfl, ?_⟩
                            refine hK.out _ _ ?_ (fun hHeld => ?_)
                            · exact hHeld.trans (hl3.s _ hNL)
                            clear hK K
                            try simp only [List.getElem_toArray, List.getElem_cons_succ, List.getElem_cons_zero, Act.put, List.setIfInBounds_toArray, List.set_cons_zero, List.set_cons_succ]
                            refine wpHead_ready (rs := [7]) (by kernel_rfl) (by simp) (by kernel_rfl) ?_
                            refine AllHead.cons (by rfl) (fun K hK => ?_) ?_
                            · have hl3' := hlayc.trans (hw0 ▸ hl3)
                              refine step_callG (by rfl) (by kernel_rfl) (hN _ _ _ lfl.toNat 1 hl3' (by simp; omega) (by omega)) ?_
                              rintro e wr7 ⟨c7, rfl, hl7⟩
                              refine ⟨_, rfl, ?_⟩
                              refine hK.out _ _ ?_ (fun hHeld => ?_)
                              · exact hHeld.trans (hl7.s _ hNL)
                              clear hK K
                              try simp only [List.getElem_toArray, List.getElem_cons_succ, List.getElem_cons_zero, Act.put, List.setIfInBounds_toArray, List.set_cons_zero, List.set_cons_succ]
                              refine wpHead_ready (rs := [10]) (by kernel_rfl) (by simp) (by kernel_rfl) ?_
                              refine AllHead.cons (by rfl) (fun K hK => ?_) ?_
                              · have hl7' := hl3'.trans hl7
                                refine step_callG (by rfl) (by kernel_rfl) (hLg _ _ _ lby A3 cap3 hl7' (by simp; omega) (by omega) hbyj.bs) ?_
                                rintro e wr10 ⟨c10, rfl, hl10⟩
                                refine ⟨_, rfl, ?_⟩
                                refine hK.out _ _ ?_ (fun hHeld => ?_)
                                · exact hHeld.trans (hl10.s _ hNL)
                                clear hK K
                                try simp only [List.getElem_toArray, List.getElem_cons_succ, List.getElem_cons_zero, Act.put, List.setIfInBounds_toArray, List.set_cons_zero, List.set_cons_succ]
                                refine wpHead_done (by kernel_rfl) ?_
                                have hl10' := hl7'.trans hl10
                                clear hl3 hl3' hl7 hl7' hl10 hlayc hw0 hlq
                                go_wp2
                                go_roundw
                                case rel =>
                                  refine ⟨j + 1, by go_num, by omega, ?_⟩
                                  have : lx ++ (bls.take (j + 1)).flatMap putL = ly ++ beN 4 luid ++ beN 1 lfl.toNat ++ longB lby := by
                                    rw [HTL.out, List.flatMap_append, ← List.append_assoc, HLY.out]
                                    simp [putL]
                                  rw [this]
                                  exact hl10'
                                case measure => simp [intOf]; omega
                              exact AllHead.nil
                            exact AllHead.nil
                          exact AllHead.nil
                        · have hltj2 : ¬ (j : Int) < bls.length := by omega
                          obtain rfl : j = bls.length := by omega
                          rw [List.take_length] at hlay
                          clear hby hltj hx
                          go_wp2
                          go_roundw
                          case rel =>
                            refine ⟨k + 1, by go_num, by omega, ?_⟩
                            have : lh ++ (bs.take (k + 1)).flatMap putX = lx ++ bls.flatMap putL := by
                              rw [HTK.out, List.flatMap_append, ← List.append_assoc, HLB.out, HLX.out]
                              simp [putX]
                            rw [this]
                            exact hlay
                          case measure => simp [intOf]; omega
                    exact AllHead.nil
                  exact AllHead.nil
                exact AllHead.nil
              exact AllHead.nil
            · have hlt2 : ¬ (k : Int) < bs.length := by omega
              obtain rfl : k = bs.length := by omega
              rw [List.take_length] at hlay
              have HB : Hid (putUsT ⟨un, uv, bs⟩ = (lh ++ bs.flatMap putX, 0)) := Lib.hid (by rw [HP2.out, HLH.out]; simp [putUs])
              clear hlt h
              go_wp2
              go_ret2
              rw [HB.out]
              exact ⟨hx, _, rfl, hlay.o⟩
        exact AllHead.nil
      exact AllHead.nil
    exact AllHead.nil
  · have hc2 : (((checkU ⟨un, uv, bs⟩ : Nat) : Int) == 0) = false := by simpa using hc
    have HB : Hid (putUsT ⟨un, uv, bs⟩ = ([], checkU ⟨un, uv, bs⟩)) := Lib.hid (by rw [HP.out, if_pos hc])
    generalize checkU ⟨un, uv, bs⟩ = z at *
    go_wp2
    go_ret2
    exact PutSays.none HB.out hx01
end Go.Proofs.YtameamfaaenboaaDoor
