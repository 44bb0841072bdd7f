/- The walk of deed.PutUser. Conditions: the bounds named. The walk of deed.TakeAll. Conditions: that of Check (CheckLaw), and the bounds named. What is put is taken, and the other way round; the reference's Same and SameAll at deeds that are the same. Conditions: the hypotheses of each theorem. The walk of deed's live. Condition: that of Check (CheckLaw). -/
import Derived.Test.YtameamfaaenboaaDoorC5
namespace Go.Proofs.YtameamfaaenboaaDoor
open Go.RowKit
theorem putX_len {b : Bx} (hn : rightB b.name = true) (h : boxC b = 0) : (putX b).length ≤ 20000 := by
  obtain ⟨_, _, h3, h4⟩ := boxC_ok h
  have := rightB_len hn
  have hs := sizeF_le b.letters (fun l hl => (h4 l hl).2.2.2) b.letters.length (Nat.le_refl _)
  rw [List.take_length] at hs
  simp only [putX, shortB, List.length_append, beN_length, putL_len, List.length_nil]
  omega
theorem flatX_len (bs : List Bx) (h : ∀ b ∈ bs, rightB b.name = true ∧ boxC b = 0) : (bs.flatMap putX).length ≤ 20000 * bs.length := by
  induction bs with
  | nil => simp
  | cons d ds ih =>
    have h1 := putX_len (h d (.head _)).1 (h d (.head _)).2
    have h2 := ih fun x hx => h x (.tail _ hx)
    simp only [List.flatMap_cons, List.length_append, List.length_cons]
    omega
theorem flatL_len (ls : List Lt) (h : ∀ l ∈ ls, l.bytes.length ≤ 600) : (ls.flatMap putL).length ≤ 607 * ls.length := by
  have hs := sizeF_le ls h ls.length (Nat.le_refl _)
  rw [List.take_length] at hs
  rw [putL_len]
  omega
theorem take_len {α : Type} {ls : List α} {k : Nat} (hk : k < ls.length) : ls.take (k + 1) = ls.take k ++ [ls[k]] := by rw [List.take_add_one, List.getElem?_eq_getElem hk]; rfl
set_option maxRecDepth 20000 in
set_option maxHeartbeats 8000000 in
theorem PutUser_any (u : Us) (A : Option Addr) (cap : Nat) (w : World) (h : RsM RBx 4 [] w A u.boxes) (hn : u.name.length ≤ 140737488355328) (hbn : ∀ b ∈ u.boxes, b.name.length ≤ 140737488355328) :
    Calls Tryd.prog 22 #[.agg (usC u (.slice A u.boxes.length cap))] w (PutSays (putUsT u) w) := by
  have hx0 : Ext w (w.alloc (.cells (usC u (.slice A u.boxes.length cap)) 42)) := (Ext.refl w).alloc _
  have hrow := heap_alloc_new w (.cells (usC u (.slice A u.boxes.length cap)) 42)
  obtain ⟨wa, hwa⟩ : ∃ wa, wa = w.alloc (.cells (usC u (.slice A u.boxes.length cap)) 42) := ⟨_, rfl⟩
  rw [← hwa] at hx0 hrow
  have HWA := Lib.hid hwa
  have HCU := CheckUser_any u A cap wa (h.kept (.of_ext hx0)) hn hbn
  have HP : Hid (putUsT u = if checkU u ≠ 0 then ([], checkU u) else (putUs u, 0)) := Lib.hid rfl
  clear hwa
  obtain ⟨un, uv, bs⟩ := u
  unfold usC at *
  simp only at *
  go_enter Tryd.func22, Tryd.ntmps22
  go_wp2_with (first | (with_reducible refine stop_alloc 75 ?_) | (with_reducible refine stop_store 75 ?_) | (with_reducible refine stop_load 75 ?_) | (with_reducible refine stop_alloc 51 ?_) | (with_reducible refine stop_store 51 ?_) | (with_reducible refine stop_load 51 ?_) | (with_reducible refine stop_load 42 ?_))
  rw [← HWA.out]
  refine go_on (wpList_load_row rfl 42 _ rfl w.heap.size rfl 42 _ (0, 0) _ hrow Tryd.underlying42 rfl (by kernel_rfl) ?_)
  go_wp2_with fail
  refine HCU.mono ?_
  rintro e w1 ⟨rfl, hx1⟩
  have hx01 := hx0.trans hx1
  have hrow1 := hx1.obj hrow
  clear HCU hrow
  by_cases hc : checkU ⟨un, uv, bs⟩ = 0
  · have HP2 := Lib.hid (HP.out.trans (if_neg (by simpa using hc)))
    rw [hc]
    obtain ⟨hc1, hc2, hc3, hc4, hc5, hc6⟩ := checkU_ok hc
    simp only at hc1 hc2 hc3 hc4 hc5 hc6
    have hall := boxesC_ok _ _ _ _ hc6
    have hun := (rightU_len hc1).2
    obtain ⟨uv, rfl⟩ : ∃ n : Nat, uv = (n : Int) := ⟨uv.toNat, by omega⟩
    have HM : 42 ∈ [42] := by simp
    have C0 := row_s hrow1 HM 0 _ rfl
    have C1 := row_s hrow1 HM 1 _ rfl
    have C2 := row_s hrow1 HM 2 _ rfl
    have hND : 5 ∉ [42] := by simp
    have hNB : 5 ∉ [51] := by simp
    have hNL : 5 ∉ [75] := by simp
    have hN := fun (W : World) (b : Value) (l : By) (v n : Nat) (hL : Lay w w l W b) (h1 : l.length ≤ 200000) (hn : n ≤ 4) => numS_any w W b l v n hL.x hL.o (by omega) hn
    have hS := fun (W : World) (b : Value) (l p : By) (hL : Lay w w l W b) (h1 : l.length ≤ 200000) (hp : p.length ≤ 24) => shortS_any w W b l p hL.x hL.o (by omega)
    have hLg := fun (W : World) (b : Value) (l p : By) (A : Option Addr) (c : Nat) (hL : Lay w w l W b) (h1 : l.length ≤ 200000) (hp : p.length ≤ 600) (hb : Bs w A p) => longS_any w W b l p A c hL.x hL.o hb (by omega)
    have hlay0 : Lay w w [] w1.drew (.slice none 0 0) := ⟨Own.nil _ _, hx01.drew, fun ts _ => (Stp.of_ext hx01).drew⟩
    have hs0 : Stp [42] w1 w1.drew := (Stp.refl _ _).drew
    clear hc hc1 hc2 hc6 HP hrow1 hx1 HM
    go_wp2_with fail
    refine wp_region_phase (S := fun w' => Stp [42] w1 w') 10 (by kernel_rfl) (by kernel_rfl) ?_ (fun hHeld => ?_)
    · exact hs0
    simp only [List.drop_succ_cons, List.drop_zero]
    refine name_head ?_
    intro wr0 hw0
    rw [hw0] at hHeld
    refine wpHead_take (i := 0) (v := ?_) (by rfl) (by kernel_rfl) (by kernel_rfl) (by exact fun _ _ _ h => h) (Or.inl ⟨by rfl, ?_⟩) (by assumption) ?_
    rotate_left
    · intro w hSw
      first | (go_simp; done) | (go_simp; with_reducible rfl)
    simp only [List.getElem_toArray, List.getElem_cons_zero, Act.put, List.setIfInBounds_toArray, List.set_cons_zero, List.set_cons_succ]
    refine wpHead_take (i := 1) (v := ?_) (by rfl) (by kernel_rfl) (by kernel_rfl) (by exact fun _ _ _ h => h) (Or.inl ⟨by rfl, ?_⟩) (by assumption) ?_
    rotate_left
    · intro w hSw
      first | (go_simp; done) | (go_simp; with_reducible rfl)
    simp only [List.getElem_toArray, List.getElem_cons_succ, List.getElem_cons_zero, Act.put, List.setIfInBounds_toArray, List.set_cons_zero, List.set_cons_succ]
    refine wpHead_take (i := 3) (v := ?_) (by rfl) (by kernel_rfl) (by kernel_rfl) (by exact fun _ _ _ h => h) (Or.inl ⟨by rfl, ?_⟩) (by assumption) ?_
    rotate_left
    · intro w hSw
      first | (go_simp; done) | (go_simp; with_reducible rfl)
    simp only [List.getElem_toArray, List.getElem_cons_succ, List.getElem_cons_zero, Act.put, List.setIfInBounds_toArray, List.set_cons_zero, List.set_cons_succ]
    refine wpHead_take (i := 4) (v := ?_) (by rfl) (by kernel_rfl) (by kernel_rfl) (by exact fun _ _ _ h => h) (Or.inl ⟨by rfl, ?_⟩) (by assumption) ?_
    rotate_left
    · intro w hSw
      first | (go_simp; done) | (go_simp; with_reducible rfl)
    simp only [List.getElem_toArray, List.getElem_cons_succ, List.getElem_cons_zero, Act.put, List.setIfInBounds_toArray, List.set_cons_zero, List.set_cons_succ]
    refine wpHead_take (i := 6) (v := ?_) (by rfl) (by kernel_rfl) (by kernel_rfl) (by exact fun _ _ _ h => h) (Or.inl ⟨by rfl, ?_⟩) (by assumption) ?_
    rotate_left
    · intro w hSw
      first | (go_simp; done) | (go_simp; with_reducible rfl)
    simp only [List.getElem_toArray, List.getElem_cons_succ, List.getElem_cons_zero, Act.put, List.setIfInBounds_toArray, List.set_cons_zero, List.set_cons_succ]
    refine wpHead_take (i := 7) (v := ?_) (by rfl) (by kernel_rfl) (by kernel_rfl) (by exact fun _ _ _ h => h) (Or.inl ⟨by rfl, ?_⟩) (by assumption) ?_
    rotate_left
    · intro w hSw
      first | (go_simp; done) | (go_simp; with_reducible rfl)
    simp only [List.getElem_toArray, List.getElem_cons_succ, List.getElem_cons_zero, Act.put, List.setIfInBounds_toArray, List.set_cons_zero, List.set_cons_succ]
    refine wpHead_take (i := 8) (v := ?_) (by rfl) (by kernel_rfl) (by kernel_rfl) (by exact fun _ _ _ h => h) (Or.inl ⟨by rfl, ?_⟩) (by assumption) ?_
    rotate_left
    · intro w hSw
      first | (go_simp; done) | (go_simp; with_reducible rfl)
    simp only [List.getElem_toArray, List.getElem_cons_succ, List.getElem_cons_zero, Act.put, List.setIfInBounds_toArray, List.set_cons_zero, List.set_cons_succ]
    refine wpHead_ready (rs := [2]) (by kernel_rfl) (by simp) (by kernel_rfl) ?_
    refine AllHead.cons (by rfl) (fun K hK => ?_) ?_
    · refine step_callG (by rfl) (by kernel_rfl) (hS _ _ _ un (by rw [← hw0]; exact hlay0) (by simp) (by omega)) ?_
      rintro e wr2 ⟨c2, rfl, hl2⟩
      refine ⟨_, rfl, ?_⟩
      refine hK.out _ _ ?_ (fun hHeld => ?_)
      · exact hHeld.trans (hl2.s _ hND)
      clear hK K
      try simp only [List.getElem_toArray, List.getElem_cons_succ, List.getElem_cons_zero, Act.put, List.setIfInBounds_toArray, List.set_cons_zero, List.set_cons_succ]
      refine wpHead_ready (rs := [5]) (by kernel_rfl) (by simp) (by kernel_rfl) ?_
      refine AllHead.cons (by rfl) (fun K hK => ?_) ?_
      · have hl2' := hlay0.trans (hw0 ▸ hl2)
        refine step_callG (by rfl) (by kernel_rfl) (hN _ _ _ uv 4 hl2' (by simp [shortB]; omega) (by omega)) ?_
        rintro e wr5 ⟨c5, rfl, hl5⟩
        refine ⟨_, rfl, ?_⟩
        refine hK.out _ _ ?_ (fun hHeld => ?_)
        · exact hHeld.trans (hl5.s _ hND)
        clear hK K
        try simp only [List.getElem_toArray, List.getElem_cons_succ, List.getElem_cons_zero, Act.put, List.setIfInBounds_toArray, List.set_cons_zero, List.set_cons_succ]
        refine wpHead_ready (rs := [9]) (by kernel_rfl) (by simp) (by kernel_rfl) ?_
        refine AllHead.cons (by rfl) (fun K hK => ?_) ?_
        · have hl5' := hl2'.trans hl5
          refine step_callG (by rfl) (by kernel_rfl) (hN _ _ _ bs.length 1 hl5' (by simp [shortB]; omega) (by omega)) ?_
          rintro e wr9 ⟨c9, rfl, hl9⟩
          refine ⟨_, rfl, ?_⟩
          refine hK.out _ _ ?_ (fun hHeld => ?_)
          · exact hHeld.trans (hl9.s _ hND)
          clear hK K
          try simp only [List.getElem_toArray, List.getElem_cons_succ, List.getElem_cons_zero, Act.put, List.setIfInBounds_toArray, List.set_cons_zero, List.set_cons_succ]
          refine wpHead_done (by kernel_rfl) ?_
          have hl9' := hl5'.trans hl9
          rw [List.nil_append] at hl9'
          obtain ⟨lh, hlh⟩ : ∃ lh, lh = shortB un ++ beN 4 uv ++ beN 1 bs.length := ⟨_, rfl⟩
          rw [← hlh] at hl9'
          have hlhl : lh.length ≤ 100 := by rw [hlh]; simp [shortB]; omega
          have HLH := Lib.hid hlh
          clear hlh hl2 hl2' hl5 hl5' hl9 hlay0 hw0
          go_wp2
          go_loopw [5, 28] (fun b5 iv wr => ∃ k : Nat, iv = .int .i64 k ∧ k ≤ bs.length ∧ Lay w w (lh ++ (bs.take k).flatMap putX) wr b5) (fun _ iv _ => bs.length - (intOf iv).toNat)
          case atStart => exact ⟨0, rfl, by omega, by simpa using hl9'⟩
          case round =>
            clear hl9' C0 C1 C2 hHeld
            obtain ⟨k, rfl, hk, hlay⟩ := hrel
            have hx := hlay.x
            by_cases hlt : k < bs.length
            · obtain ⟨ad, cs, hA, had, hcs, hcell, A2, cap2, hcs2, hby⟩ := h.at_ (by omega) hlt
              subst hA hcs2
              have hlt2 : (k : Int) < bs.length := by omega
              have hcl := fun j v hj => hx.cell (show w.cell? ((ad.add (k * 4)).add j) = some v by rw [add_addB]; exact hcell j v hj)
              have HTK := Lib.hid (take_len hlt)
              have hfl := flatX_len (bs.take k) (fun b hb => hall b (List.mem_of_mem_take hb))
              obtain ⟨ha1, ha2⟩ := hall _ (List.getElem_mem hlt)
              rw [List.length_take] at hfl
              clear hcs hcell had
              generalize bs[k] = bb at *
              obtain ⟨bn, bval, bnx, bls⟩ := bb
              unfold bxC at hcl
              obtain ⟨hv1, hv2, hl32, hls⟩ := boxC_ok ha2
              have hbl := (rightB_len ha1).2
              have hv1 := (numB_ok hv1).2
              have hv2 := (numB_ok hv2).2
              simp only at hcl hby hv1 hv2 hl32 hls hbl
              obtain ⟨bval, rfl⟩ : ∃ n : Nat, bval = (n : Int) := ⟨bval.toNat, by omega⟩
              obtain ⟨bnx, rfl⟩ : ∃ n : Nat, bnx = (n : Int) := ⟨bnx.toNat, by omega⟩
              go_wp2_with (first | (with_reducible refine stop_alloc 75 ?_) | (with_reducible refine stop_store 75 ?_) | (with_reducible refine stop_load 75 ?_) | (with_reducible refine stop_alloc 51 ?_) | (with_reducible refine stop_store 51 ?_) | (with_reducible refine stop_load 51 ?_) | (with_reducible refine stop_load 42 ?_))
              refine go_on (wpList_load_elem rfl 51 _ rfl (ad.add (k * 4)) rfl _ _ hcl Tryd.underlying51 rfl (by kernel_rfl) ?_)
              go_wp2_with (first | (with_reducible refine stop_alloc 75 ?_) | (with_reducible refine stop_store 75 ?_) | (with_reducible refine stop_load 75 ?_) | (with_reducible refine stop_alloc 51 ?_) | (with_reducible refine stop_store 51 ?_) | (with_reducible refine stop_load 51 ?_) | (with_reducible refine stop_load 42 ?_))
              refine go_on (wpList_alloc_ rfl rfl box_info ?_)
              go_wp2_with (first | (with_reducible refine stop_alloc 75 ?_) | (with_reducible refine stop_store 75 ?_) | (with_reducible refine stop_load 75 ?_) | (with_reducible refine stop_alloc 51 ?_) | (with_reducible refine stop_store 51 ?_) | (with_reducible refine stop_load 51 ?_) | (with_reducible refine stop_load 42 ?_))
              refine go_on (wpList_store_last rfl rfl rfl rfl (by kernel_rfl) rfl (by simp [Value.oneCell']) ?_)
              intro wb hrowB hxb _
              have hlayb : Lay w w (lh ++ (bs.take k).flatMap putX) wb.drew _ := ⟨hlay.o.ext hxb.drew, hx.trans hxb.drew, fun ts ht => (hlay.s ts ht).trans (.of_ext hxb.drew)⟩
              have hlq : (lh ++ (bs.take k).flatMap putX).length ≤ 130000 := by rw [List.length_append]; omega
              generalize hlb : lh ++ (bs.take k).flatMap putX = lb at *
              have HLB := Lib.hid hlb
              have HM : 51 ∈ [51] := by simp
              have C0 := row_s hrowB HM 0 _ rfl
              have C1 := row_s hrowB HM 1 _ rfl
              have C2 := row_s hrowB HM 2 _ rfl
              have C3 := row_s hrowB HM 3 _ rfl
              have hs0 : Stp [51] wb wb.drew := (Stp.refl _ _).drew
              clear hcl hlay hx hlb hfl ha1 ha2 hxb hrowB
              go_wp2_with fail
              refine wp_region_phase (S := fun w' => Stp [51] wb w') 14 (by kernel_rfl) (by kernel_rfl) ?_ (fun hHeld => ?_)
              · exact hs0
              simp only [List.drop_succ_cons, List.drop_zero]
              refine name_head ?_
              intro wr0 hw0
              rw [hw0] at hHeld
              refine wpHead_take (i := 0) (v := ?_) (by rfl) (by kernel_rfl) (by kernel_rfl) (by exact fun _ _ _ h => h) (Or.inl ⟨by rfl, ?_⟩) (by assumption) ?_
              rotate_left
              · intro w hSw
                first | (go_simp; done) | (go_simp; with_reducible rfl)
              simp only [List.getElem_toArray, List.getElem_cons_zero, Act.put, List.setIfInBounds_toArray, List.set_cons_zero, List.set_cons_succ]
              refine wpHead_take (i := 1) (v := ?_) (by rfl) (by kernel_rfl) (by kernel_rfl) (by exact fun _ _ _ h => h) (Or.inl ⟨by rfl, ?_⟩) (by assumption) ?_
              rotate_left
              · intro w hSw
                first | (go_simp; done) | (go_simp; with_reducible rfl)
              simp only [List.getElem_toArray, List.getElem_cons_succ, List.getElem_cons_zero, Act.put, List.setIfInBounds_toArray, List.set_cons_zero, List.set_cons_succ]
              refine wpHead_take (i := 2) (v := ?_) (by rfl) (by kernel_rfl) (by kernel_rfl) (by exact fun _ _ _ h => h) (Or.inl ⟨by rfl, ?_⟩) (by assumption) ?_
              rotate_left
              · intro w hSw
                first | (go_simp; done) | (go_simp; with_reducible rfl)
              simp only [List.getElem_toArray, List.getElem_cons_succ, List.getElem_cons_zero, Act.put, List.setIfInBounds_toArray, List.set_cons_zero, List.set_cons_succ]
              refine wpHead_take (i := 4) (v := ?_) (by rfl) (by kernel_rfl) (by kernel_rfl) (by exact fun _ _ _ h => h) (Or.inl ⟨by rfl, ?_⟩) (by assumption) ?_
              rotate_left
              · intro w hSw
                first | (go_simp; done) | (go_simp; with_reducible rfl)
              simp only [List.getElem_toArray, List.getElem_cons_succ, List.getElem_cons_zero, Act.put, List.setIfInBounds_toArray, List.set_cons_zero, List.set_cons_succ]
              refine wpHead_take (i := 5) (v := ?_) (by rfl) (by kernel_rfl) (by kernel_rfl) (by exact fun _ _ _ h => h) (Or.inl ⟨by rfl, ?_⟩) (by assumption) ?_
              rotate_left
              · intro w hSw
                first | (go_simp; done) | (go_simp; with_reducible rfl)
              simp only [List.getElem_toArray, List.getElem_cons_succ, List.getElem_cons_zero, Act.put, List.setIfInBounds_toArray, List.set_cons_zero, List.set_cons_succ]
              refine wpHead_take (i := 7) (v := ?_) (by rfl) (by kernel_rfl) (by kernel_rfl) (by exact fun _ _ _ h => h) (Or.inl ⟨by rfl, ?_⟩) (by assumption) ?_
              rotate_left
              · intro w hSw
                first | (go_simp; done) | (go_simp; with_reducible rfl)
              simp only [List.getElem_toArray, List.getElem_cons_succ, List.getElem_cons_zero, Act.put, List.setIfInBounds_toArray, List.set_cons_zero, List.set_cons_succ]
              refine wpHead_take (i := 8) (v := ?_) (by rfl) (by kernel_rfl) (by kernel_rfl) (by exact fun _ _ _ h => h) (Or.inl ⟨by rfl, ?_⟩) (by assumption) ?_
              rotate_left
              · intro w hSw
                first | (go_simp; done) | (go_simp; with_reducible rfl)
              simp only [List.getElem_toArray, List.getElem_cons_succ, List.getElem_cons_zero, Act.put, List.setIfInBounds_toArray, List.set_cons_zero, List.set_cons_succ]
              refine wpHead_take (i := 10) (v := ?_) (by rfl) (by kernel_rfl) (by kernel_rfl) (by exact fun _ _ _ h => h) (Or.inl ⟨by rfl, ?_⟩) (by assumption) ?_
              rotate_left
              · intro w hSw
                first | (go_simp; done) | (go_simp; with_reducible rfl)
              simp only [List.getElem_toArray, List.getElem_cons_succ, List.getElem_cons_zero, Act.put, List.setIfInBounds_toArray, List.set_cons_zero, List.set_cons_succ]
              refine wpHead_take (i := 11) (v := ?_) (by rfl) (by kernel_rfl) (by kernel_rfl) (by exact fun _ _ _ h => h) (Or.inl ⟨by rfl, ?_⟩) (by assumption) ?_
              rotate_left
              · intro w hSw
                first | (go_simp; done) | (go_simp; with_reducible rfl)
              simp only [List.getElem_toArray, List.getElem_cons_succ, List.getElem_cons_zero, Act.put, List.setIfInBounds_toArray, List.set_cons_zero, List.set_cons_succ]
              refine wpHead_take (i := 12) (v := ?_) (by rfl) (by kernel_rfl) (by kernel_rfl) (by exact fun _ _ _ h => h) (Or.inl ⟨by rfl, ?_⟩) (by assumption) ?_
              rotate_left
              · intro w hSw
                first | (go_simp; done) | (go_simp; with_reducible rfl)
              simp only [List.getElem_toArray, List.getElem_cons_succ, List.getElem_cons_zero, Act.put, List.setIfInBounds_toArray, List.set_cons_zero, List.set_cons_succ]
              refine wpHead_ready (rs := [3]) (by kernel_rfl) (by simp) (by kernel_rfl) ?_
              refine AllHead.cons (by rfl) (fun K hK => ?_) ?_
              · refine step_callG (by rfl) (by kernel_rfl) (hS _ _ _ bn (by rw [← hw0]; exact hlayb) (by omega) (by omega)) ?_
                rintro e wr3 ⟨c3, rfl, hl3⟩
                refine ⟨_, rfl, ?_⟩
                refine hK.out _ _ ?_ (fun hHeld => ?_)
                · exact hHeld.trans (hl3.s _ hNB)
                clear hK K
                try simp only [List.getElem_toArray, List.getElem_cons_succ, List.getElem_cons_zero, Act.put, List.setIfInBounds_toArray, List.set_cons_zero, List.set_cons_succ]
                refine wpHead_ready (rs := [6]) (by kernel_rfl) (by simp) (by kernel_rfl) ?_
                refine AllHead.cons (by rfl) (fun K hK => ?_) ?_
                · have hl3' := hlayb.trans (hw0 ▸ hl3)
                  refine step_callG (by rfl) (by kernel_rfl) (hN _ _ _ bval 4 hl3' (by simp [shortB]; omega) (by omega)) ?_
                  rintro e wr6 ⟨c6, rfl, hl6⟩
                  refine ⟨_, rfl, ?_⟩
                  refine hK.out _ _ ?_ (fun hHeld => ?_)
                  · exact hHeld.trans (hl6.s _ hNB)
                  clear hK K
                  try simp only [List.getElem_toArray, List.getElem_cons_succ, List.getElem_cons_zero, Act.put, List.setIfInBounds_toArray, List.set_cons_zero, List.set_cons_succ]
                  refine wpHead_ready (rs := [9]) (by kernel_rfl) (by simp) (by kernel_rfl) ?_
                  refine AllHead.cons (by rfl) (fun K hK => ?_) ?_
                  · have hl6' := hl3'.trans hl6
                    refine step_callG (by rfl) (by kernel_rfl) (hN _ _ _ bnx 4 hl6' (by simp [shortB]; omega) (by omega)) ?_
                    rintro e wr9 ⟨c9, rfl, hl9⟩
                    refine ⟨_, rfl, ?_⟩
                    refine hK.out _ _ ?_ (fun hHeld => ?_)
                    · exact hHeld.trans (hl9.s _ hNB)
                    clear hK K
                    try simp only [List.getElem_toArray, List.getElem_cons_succ, List.getElem_cons_zero, Act.put, List.setIfInBounds_toArray, List.set_cons_zero, List.set_cons_succ]
                    refine wpHead_ready (rs := [13]) (by kernel_rfl) (by simp) (by kernel_rfl) ?_
                    refine AllHead.cons (by rfl) (fun K hK => ?_) ?_
                    · have hl9' := hl6'.trans hl9
                      refine step_callG (by rfl) (by kernel_rfl) (hN _ _ _ bls.length 1 hl9' (by simp [shortB]; omega) (by omega)) ?_
                      rintro e wr13 ⟨c13, rfl, hl13⟩
                      refine ⟨_, rfl, ?_⟩
                      refine hK.out _ _ ?_ (fun hHeld => ?_)
                      · exact hHeld.trans (hl13.s _ hNB)
                      clear hK K
                      try simp only [List.getElem_toArray, List.getElem_cons_succ, List.getElem_cons_zero, Act.put, List.setIfInBounds_toArray, List.set_cons_zero, List.set_cons_succ]
                      refine wpHead_done (by kernel_rfl) ?_
                      have hl13' := hl9'.trans hl13
                      obtain ⟨lx, hlx⟩ : ∃ lx, lx = lb ++ shortB bn ++ beN 4 bval ++ beN 4 bnx ++ beN 1 bls.length := ⟨_, rfl⟩
                      rw [← hlx] at hl13'
                      have hlxl : lx.length ≤ 130100 := by rw [hlx]; simp [shortB]; omega
                      have HLX := Lib.hid hlx
                      clear hlx hl3 hl3' hl6 hl6' hl9 hl9' hl13 hlayb hw0 hlq
                      go_wp2
                      go_loopw [5, 49] (fun b5 iv wr => ∃ j : Nat, iv = .int .i64 j ∧ j ≤ bls.length ∧ Lay w w (lx ++ (bls.take j).flatMap putL) wr b5) (fun _ iv _ => bls.length - (intOf iv).toNat)
                      case atStart => exact ⟨0, rfl, by omega, by simpa using hl13'⟩
                      case round =>
                        clear hl13' C0 C1 C2 C3 hHeld
                        obtain ⟨j, rfl, hj, hlay⟩ := hrel
                        have hx := hlay.x
                        by_cases hltj : j < bls.length
                        · obtain ⟨adj, csj, hAj, hadj, hcsj, hcellj, A3, cap3, hcsj2, hbyj⟩ := hby.at_ (by omega) hltj
                          subst hAj hcsj2
                          have hltj2 : (j : Int) < bls.length := by omega
                          have hclj := fun i v hj => hx.cell (show w.cell? ((adj.add (j * 3)).add i) = some v by rw [add_addB]; exact hcellj i v hj)
                          have HTL := Lib.hid (take_len hltj)
                          have hfl := flatL_len (bls.take j) (fun l hl => (hls l (List.mem_of_mem_take hl)).2.2.2)
                          obtain ⟨hu1, hu2, hu3, hu4⟩ := hls _ (List.getElem_mem hltj)
                          rw [List.length_take] at hfl
                          clear hcsj hcellj hadj
                          generalize bls[j] = ll at *
                          obtain ⟨luid, lfl, lby⟩ := ll
                          unfold ltC at hclj
                          simp only at hclj hbyj hu1 hu2 hu3 hu4
                          obtain ⟨luid, rfl⟩ : ∃ n : Nat, luid = (n : Int) := ⟨luid.toNat, by omega⟩
                          have hwf : IntKind.i64.wrap ((lfl.toNat : Nat) : Int) = ((lfl.toNat : Nat) : Int) := wrap64_nat _ (by omega)
                          go_wp2_with (first | (with_reducible refine stop_alloc 75 ?_) | (with_reducible refine stop_store 75 ?_) | (with_reducible refine stop_load 75 ?_) | (with_reducible refine stop_alloc 51 ?_) | (with_reducible refine stop_store 51 ?_) | (with_reducible refine stop_load 51 ?_) | (with_reducible refine stop_load 42 ?_))
                          refine go_on (wpList_load_elem rfl 75 _ rfl (adj.add (j * 3)) rfl _ _ hclj Tryd.underlying75 rfl (by kernel_rfl) ?_)
                          go_wp2_with (first | (with_reducible refine stop_alloc 75 ?_) | (with_reducible refine stop_store 75 ?_) | (with_reducible refine stop_load 75 ?_) | (with_reducible refine stop_alloc 51 ?_) | (with_reducible refine stop_store 51 ?_) | (with_reducible refine stop_load 51 ?_) | (with_reducible refine stop_load 42 ?_))
                          refine go_on (wpList_alloc_ rfl rfl letter_info ?_)
                          go_wp2_with (first | (with_reducible refine stop_alloc 75 ?_) | (with_reducible refine stop_store 75 ?_) | (with_reducible refine stop_load 75 ?_) | (with_reducible refine stop_alloc 51 ?_) | (with_reducible refine stop_store 51 ?_) | (with_reducible refine stop_load 51 ?_) | (with_reducible refine stop_load 42 ?_))
                          refine go_on (wpList_store_last rfl rfl rfl rfl (by kernel_rfl) rfl (by simp [Value.oneCell']) ?_)
                          intro wc hrowC hxc _
                          have hlayc : Lay w w (lx ++ (bls.take j).flatMap putL) wc.drew _ := ⟨hlay.o.ext hxc.drew, hx.trans hxc.drew, fun ts ht => (hlay.s ts ht).trans (.of_ext hxc.drew)⟩
                          have hlq : (lx ++ (bls.take j).flatMap putL).length ≤ 160000 := by rw [List.length_append]; omega
                          generalize hlb : lx ++ (bls.take j).flatMap putL = ly at *
                          have HLY := Lib.hid hlb
                          have HM : 75 ∈ [75] := by simp
                          have C0 := row_s hrowC HM 0 _ rfl
                          have C1 := row_s hrowC HM 1 _ rfl
                          have C2 := row_s hrowC HM 2 _ rfl
                          have hs0 : Stp [75] wc wc.drew := (Stp.refl _ _).drew
                          clear hclj hlay hx hlb hfl hxc hrowC
                          go_wp2_with fail
                          refine wp_region_phase (S := fun w' => Stp [75] wc w') 11 (by kernel_rfl) (by kernel_rfl) ?_ (fun hHeld => ?_)
                          · exact hs0
                          simp only [List.drop_succ_cons, List.drop_zero]
                          refine name_head ?_
                          intro wr0 hw0
                          rw [hw0] at hHeld
                          refine wpHead_take (i := 0) (v := ?_) (by rfl) (by kernel_rfl) (by kernel_rfl) (by exact fun _ _ _ h => h) (Or.inl ⟨by rfl, ?_⟩) (by assumption) ?_
                          rotate_left
                          · intro w hSw
                            first | (go_simp; done) | (go_simp; with_reducible rfl)
                          simp only [List.getElem_toArray, List.getElem_cons_zero, Act.put, List.setIfInBounds_toArray, List.set_cons_zero, List.set_cons_succ]
                          refine wpHead_take (i := 1) (v := ?_) (by rfl) (by kernel_rfl) (by kernel_rfl) (by exact fun _ _ _ h => h) (Or.inl ⟨by rfl, ?_⟩) (by assumption) ?_
                          rotate_left
                          · intro w hSw
                            first | (go_simp; done) | (go_simp; with_reducible rfl)
                          simp only [List.getElem_toArray, List.getElem_cons_succ, List.getElem_cons_zero, Act.put, List.setIfInBounds_toArray, List.set_cons_zero, List.set_cons_succ]
                          refine wpHead_take (i := 2) (v := ?_) (by rfl) (by kernel_rfl) (by kernel_rfl) (by exact fun _ _ _ h => h) (Or.inl ⟨by rfl, ?_⟩) (by assumption) ?_
                          rotate_left
                          · intro w hSw
                            first | (go_simp; done) | (go_simp; with_reducible rfl)
                          simp only [List.getElem_toArray, List.getElem_cons_succ, List.getElem_cons_zero, Act.put, List.setIfInBounds_toArray, List.set_cons_zero, List.set_cons_succ]
                          refine wpHead_take (i := 4) (v := ?_) (by rfl) (by kernel_rfl) (by kernel_rfl) (by exact fun _ _ _ h => h) (Or.inl ⟨by rfl, ?_⟩) (by assumption) ?_
                          rotate_left
                          · intro w hSw
                            first | (go_simp; done) | (go_simp; with_reducible rfl)
                          simp only [List.getElem_toArray, List.getElem_cons_succ, List.getElem_cons_zero, Act.put, List.setIfInBounds_toArray, List.set_cons_zero, List.set_cons_succ]
                          refine wpHead_take (i := 5) (v := ?_) (by rfl) (by kernel_rfl) (by kernel_rfl) (by exact fun _ _ _ h => h) (Or.inl ⟨by rfl, ?_⟩) (by assumption) ?_
                          rotate_left
                          · intro w hSw
                            first | (go_simp; done) | (go_simp; with_reducible rfl)
                          simp only [List.getElem_toArray, List.getElem_cons_succ, List.getElem_cons_zero, Act.put, List.setIfInBounds_toArray, List.set_cons_zero, List.set_cons_succ]
                          refine wpHead_take (i := 6) (v := ?_) (by rfl) (by kernel_rfl) (by kernel_rfl) (by exact fun _ _ _ h => h) (Or.inl ⟨by rfl, ?_⟩) (by assumption) ?_
                          rotate_left
                          · intro w hSw
                            first | (go_simp; done) | (go_simp; with_reducible rfl)
                          simp only [List.getElem_toArray, List.getElem_cons_succ, List.getElem_cons_zero, Act.put, List.setIfInBounds_toArray, List.set_cons_zero, List.set_cons_succ]
                          refine wpHead_take (i := 8) (v := ?_) (by rfl) (by kernel_rfl) (by kernel_rfl) (by exact fun _ _ _ h => h) (Or.inl ⟨by rfl, ?_⟩) (by assumption) ?_
                          rotate_left
                          · intro w hSw
                            first | (go_simp; done) | (go_simp; with_reducible rfl)
                          simp only [List.getElem_toArray, List.getElem_cons_succ, List.getElem_cons_zero, Act.put, List.setIfInBounds_toArray, List.set_cons_zero, List.set_cons_succ]
                          refine wpHead_take (i := 9) (v := ?_) (by rfl) (by kernel_rfl) (by kernel_rfl) (by exact fun _ _ _ h => h) (Or.inl ⟨by rfl, ?_⟩) (by assumption) ?_
                          rotate_left
                          · intro w hSw
                            first | (go_simp; done) | (go_simp; with_reducible rfl)
                          simp only [List.getElem_toArray, List.getElem_cons_succ, List.getElem_cons_zero, Act.put, List.setIfInBounds_toArray, List.set_cons_zero, List.set_cons_succ]
                          refine wpHead_ready (rs := [3]) (by kernel_rfl) (by simp) (by kernel_rfl) ?_
                          refine AllHead.cons (by rfl) (fun K hK => ?_) ?_
                          · refine step_callG (by rfl) (by kernel_rfl) (hN _ _ _ luid 4 (by rw [← hw0]; exact hlayc) (by omega) (by omega)) ?_
                            rintro e wr3 ⟨c3, rfl, hl3⟩
                            refine ⟨_, rfl, ?_⟩
                            refine hK.out _ _ ?_ (fun hHeld => ?_)
                            · exact hHeld.trans (hl3.s _ hNL)
                            clear hK K
                            try simp only [List.getElem_toArray, List.getElem_cons_succ, List.getElem_cons_zero, Act.put, List.setIfInBounds_toArray, List.set_cons_zero, List.set_cons_succ]
                            refine wpHead_ready (rs := [7]) (by kernel_rfl) (by simp) (by kernel_rfl) ?_
                            refine AllHead.cons (by rfl) (fun K hK => ?_) ?_
                            · have hl3' := hlayc.trans (hw0 ▸ hl3)
                              refine step_callG (by rfl) (by kernel_rfl) (hN _ _ _ lfl.toNat 1 hl3' (by simp; omega) (by omega)) ?_
                              rintro e wr7 ⟨c7, rfl, hl7⟩
                              refine ⟨_, rfl, ?_⟩
                              refine hK.out _ _ ?_ (fun hHeld => ?_)
                              · exact hHeld.trans (hl7.s _ hNL)
                              clear hK K
                              try simp only [List.getElem_toArray, List.getElem_cons_succ, List.getElem_cons_zero, Act.put, List.setIfInBounds_toArray, List.set_cons_zero, List.set_cons_succ]
                              refine wpHead_ready (rs := [10]) (by kernel_rfl) (by simp) (by kernel_rfl) ?_
                              refine AllHead.cons (by rfl) (fun K hK => ?_) ?_
                              · have hl7' := hl3'.trans hl7
                                refine step_callG (by rfl) (by kernel_rfl) (hLg _ _ _ lby A3 cap3 hl7' (by simp; omega) (by omega) hbyj.bs) ?_
                                rintro e wr10 ⟨c10, rfl, hl10⟩
                                refine ⟨_, rfl, ?_⟩
                                refine hK.out _ _ ?_ (fun hHeld => ?_)
                                · exact hHeld.trans (hl10.s _ hNL)
                                clear hK K
                                try simp only [List.getElem_toArray, List.getElem_cons_succ, List.getElem_cons_zero, Act.put, List.setIfInBounds_toArray, List.set_cons_zero, List.set_cons_succ]
                                refine wpHead_done (by kernel_rfl) ?_
                                have hl10' := hl7'.trans hl10
                                clear hl3 hl3' hl7 hl7' hl10 hlayc hw0 hlq
                                go_wp2
                                go_roundw
                                case rel =>
                                  refine ⟨j + 1, by go_num, by omega, ?_⟩
                                  have : lx ++ (bls.take (j + 1)).flatMap putL = ly ++ beN 4 luid ++ beN 1 lfl.toNat ++ longB lby := by
                                    rw [HTL.out, List.flatMap_append, ← List.append_assoc, HLY.out]
                                    simp [putL]
                                  rw [this]
                                  exact hl10'
                                case measure => simp [intOf]; omega
                              exact AllHead.nil
                            exact AllHead.nil
                          exact AllHead.nil
                        · have hltj2 : ¬ (j : Int) < bls.length := by omega
                          obtain rfl : j = bls.length := by omega
                          rw [List.take_length] at hlay
                          clear hby hltj hx
                          go_wp2
                          go_roundw
                          case rel =>
                            refine ⟨k + 1, by go_num, by omega, ?_⟩
                            have : lh ++ (bs.take (k + 1)).flatMap putX = lx ++ bls.flatMap putL := by
                              rw [HTK.out, List.flatMap_append, ← List.append_assoc, HLB.out, HLX.out]
                              simp [putX]
                            rw [this]
                            exact hlay
                          case measure => simp [intOf]; omega
                    exact AllHead.nil
                  exact AllHead.nil
                exact AllHead.nil
              exact AllHead.nil
            · have hlt2 : ¬ (k : Int) < bs.length := by omega
              obtain rfl : k = bs.length := by omega
              rw [List.take_length] at hlay
              have HB : Hid (putUsT ⟨un, uv, bs⟩ = (lh ++ bs.flatMap putX, 0)) := Lib.hid (by rw [HP2.out, HLH.out]; simp [putUs])
              clear hlt h
              go_wp2
              go_ret2
              rw [HB.out]
              exact ⟨hx, _, rfl, hlay.o⟩
        exact AllHead.nil
      exact AllHead.nil
    exact AllHead.nil
  · have hc2 : (((checkU ⟨un, uv, bs⟩ : Nat) : Int) == 0) = false := by simpa using hc
    have HB : Hid (putUsT ⟨un, uv, bs⟩ = ([], checkU ⟨un, uv, bs⟩)) := Lib.hid (by rw [HP.out, if_pos hc])
    generalize checkU ⟨un, uv, bs⟩ = z at *
    go_wp2
    go_ret2
    exact PutSays.none HB.out hx01
end Go.Proofs.YtameamfaaenboaaDoor
namespace Go.Proofs.YtameamfaaenboaaDoor
open Go.RowKit
theorem OwnDs.rsm {w : World} {base n c : Nat} {A : Option Addr} {ds : List Dd} (h : OwnDs w base (.slice A n c) ds) (hok : ∀ d ∈ ds, okD d) : RsM RDd 10 [] w A ds := by
  obtain ⟨css, h1, h2, h3, h4⟩ := h
  refine ⟨css, h1, h2, SlM.own h3 rfl (by simp), fun k cs x a b => ?_⟩
  obtain ⟨pv, h5, h6⟩ := h4 k cs x a b
  obtain ⟨A', c', rfl⟩ := h6.form
  obtain ⟨_, q1, q2, q3, _, _, _, _, q4⟩ := hok x (List.mem_of_getElem? b)
  exact ⟨A', c', h5, BsM.own h6 (by simp), h6.cap.1, by omega, by omega, by omega, by omega⟩
/-- cells of a deed, whatever its bytes -/
def RAny : Reading Dd where
  says _ _ cs d := ∃ A n c, cs = (ddC d (.slice A n c)).toList
  kept := fun h _ => h
  old := fun h _ => h
theorem OwnDs.any {w : World} {base n c : Nat} {A : Option Addr} {ds : List Dd} (h : OwnDs w base (.slice A n c) ds) : RsM RAny 10 [] w A ds := by
  obtain ⟨css, h1, h2, h3, h4⟩ := h
  refine ⟨css, h1, h2, SlM.own h3 rfl (by simp), fun k cs x a b => ?_⟩
  obtain ⟨pv, h5, h6⟩ := h4 k cs x a b
  obtain ⟨A', c', rfl⟩ := h6.form
  exact ⟨A', _, c', h5⟩
theorem OwnDs.len {w : World} {base n c : Nat} {A : Option Addr} {ds : List Dd} (h : OwnDs w base (.slice A n c) ds) : ds.length ≤ 9223372036854775807 := by
  obtain ⟨css, _, _, h3, _⟩ := h
  rcases h3.2 with ⟨e, hn⟩ | ⟨g, cap, cur, e, _, _, hc, hm, _⟩
  · omega
  · exact Nat.le_trans hc hm
theorem VDs.stp {O base g : Nat} {ds : List Dd} {w1 w2 : World} {x : Value} (h : VDs O base ds w1) (hg : w1.heap[g]? = some (.cells #[x] 29 (0, 0))) (hk : Kept [g] w1 w2) : VDs O base ds w2 := by
  obtain ⟨v, h1, h2⟩ := h
  exact ⟨v, hk.heap h1 (by simp; exact obj_ne h1 hg (by decide)), OwnDs.stp h2 (.kept hk (by intro k hk _; simp at hk; subst hk; exact ⟨_, _, _, hg, by decide⟩))⟩
/-- what TakeAll tells -/
def TASays (l : By) (w : World) (e : Ending) (w' : World) : Prop := Ext w w' ∧ match takeAllT l with
  | .inl k => e = .returned (.tuple #[.slice none 0 0, .int .i64 (k : Nat)])
  | .inr ds => ∃ v, e = .returned (.tuple #[v, .int .i64 0]) ∧ OwnDs w' w.heap.size v ds
theorem TASays.no {l : By} {w w' : World} {k : Nat} (h : takeAllT l = .inl k) (hx : Ext w w') : TASays l w (.returned (.tuple #[.slice none 0 0, .int .i64 (k : Nat)])) w' := by
  refine ⟨hx, ?_⟩
  rw [h]
theorem firstC_take {ds : List Dd} {k : Nat} (hk : k < ds.length) : firstC (ds.take (k + 1)) = if firstC (ds.take k) = 0 then checkD ds[k] else firstC (ds.take k) := by
  have e : ds.take (k + 1) = ds.take k ++ [ds[k]] := by rw [List.take_add_one, List.getElem?_eq_getElem hk]; rfl
  have hz : firstC (ds.take k) = 0 ↔ (ds.take k).find? (fun d => decide (checkD d ≠ 0)) = none := by
    constructor
    · intro h
      exact List.find?_eq_none.2 fun d hd => by simp [firstC_of h d hd]
    · intro h
      unfold firstC
      rw [h]
  split
  · rename_i h
    unfold firstC
    rw [e, List.find?_append, hz.1 h]
    simp only [Option.none_or, List.find?_cons, List.find?_nil]
    by_cases h0 : checkD ds[k] = 0
    · simp [h0]
    · simp [h0]
  · rename_i h
    unfold firstC at *
    rw [e, List.find?_append]
    cases hf : (ds.take k).find? (fun d => decide (checkD d ≠ 0)) with
    | none => exact absurd (hz.2 hf) h
    | some x => rfl
theorem okD_all {l : By} {ds : List Dd} (h : readP allP l = .inr ds) : l = putAllB ds ∧ (∀ d ∈ ds, okD d) ∧ 1 ≤ ds.length ∧ ds.length ≤ 12 := by
  unfold readP at h
  cases hp : allP l with
  | inl e => rw [hp] at h; cases h
  | inr q =>
    obtain ⟨a, r⟩ := q
    rw [hp] at h
    simp only at h
    split at h
    · rename_i hr
      cases h
      subst hr
      unfold allP at hp
      obtain ⟨n, l1, h1, h2⟩ := andP_inr hp
      obtain ⟨u, l2, h3, h4⟩ := andP_inr h2
      unfold mustP at h3
      split at h3
      · rename_i hn
        cases h3
        simp only [Bool.and_eq_true, decide_eq_true_eq] at hn
        obtain ⟨e1, e2⟩ := (Rt.num 1).got _ _ _ h1
        obtain ⟨e3, e4, e5⟩ := (Rt.rep Rt.deed n).got _ _ _ h4
        subst e5
        exact ⟨by rw [e1, e3]; simp [putAllB], e4, hn.1, hn.2⟩
      · cases h3
    · cases h
set_option maxRecDepth 20000 in
set_option maxHeartbeats 8000000 in
theorem TakeAll_any (HCK : CheckLaw) (A : Option Addr) (cap : Nat) (l : By) (w : World) (hb : Bs w A l) (hlc : l.length ≤ cap) : Calls Tryd.prog 19 #[.slice A l.length cap] w (TASays l w) := by
  have hmf : ∀ (fn : Fn) (first cap : Array Value) (w : World), (Instr.makeFunc fn first cap).run Tryd.prog w = .ok (.func fn first cap) w := fun _ _ _ _ => rfl
  have HP : Hid (takeAllT l = if 1800 < l.length then .inl 6 else match readP allP l with | .inl e => .inl e | .inr ds => if firstC ds ≠ 0 then .inl (firstC ds) else .inr ds) := Lib.hid rfl
  by_cases h18 : (1800 : Int) < (l.length : Int)
  · have HT := Lib.hid (HP.out.trans (if_pos (by omega)))
    clear HP
    go_enter Tryd.func19, Tryd.ntmps19
    go_wp2
    go_ret2
    exact TASays.no HT.out (Ext.refl w)
  have HT := Lib.hid (HP.out.trans (if_neg (by omega)))
  clear HP
  obtain ⟨wa, hwa⟩ : ∃ wa, wa = w.alloc (.cells #[.slice none 0 0] 32) := ⟨_, rfl⟩
  have hxa : Ext w wa := by rw [hwa]; exact (Ext.refl w).alloc _
  have hOa : wa.heap[w.heap.size]? = some (.cells #[.slice none 0 0] 32 (0, 0)) := by rw [hwa]; exact heap_alloc_new w _
  have hsz : wa.heap.size = w.heap.size + 1 := by rw [hwa]; simp
  have HWA := Lib.hid hwa
  have HRD := read_any allP 41 w.heap.size (VDs w.heap.size w.heap.size) (fun w' => ∃ ds, VDs w.heap.size w.heap.size ds w') w wa A cap l hxa hb hlc (by omega) (Nat.le_refl _) call_TakeAll1
    (fun w1 R hx1 hR hr => TakeAll1_any w w1 R w.heap.size l hr (by omega) (hx1.obj hOa) (Nat.le_refl _) (by omega))
    (fun a w1 w2 g x h1 h2 h3 => h1.stp h2 h3) (fun w1 w2 g x h1 h2 h3 => by obtain ⟨ds, h⟩ := h1; exact ⟨ds, h.stp h2 h3⟩) (fun a w1 h => ⟨a, h⟩)
  clear hwa hsz hOa hb
  unfold pt at HRD
  go_enter Tryd.func19, Tryd.ntmps19
  go_wp2_with fail
  rw [← HWA.out]
  refine HRD.mono ?_
  intro e w1 hq
  clear HRD
  unfold ReadSays at hq
  cases hp : readP allP l with
  | inl k =>
    rw [hp] at hq
    obtain ⟨rfl, hk, hx, ds, v, hOv, hds⟩ := hq
    have HT2 : Hid (takeAllT l = .inl k) := Lib.hid (by rw [HT.out, hp])
    have k1 : (((k : Nat) : Int) == 0) = false := by simpa using Nz.all.read hp
    obtain ⟨Av, cv, rfl⟩ := hds.form
    have hany := hds.any
    have hdl := hds.len
    obtain ⟨CO, _⟩ := row1_cell hOv
    clear HT hp hOv hds hk
    go_wp2
    go_loopw [5, 16] (fun ev iv wr => ∃ j : Nat, ev = .int .i64 (k : Nat) ∧ iv = .int .i64 j ∧ j ≤ ds.length ∧ Ext w1 wr) (fun _ iv _ => ds.length - (intOf iv).toNat)
    case atStart => exact ⟨0, rfl, rfl, by omega, Ext.refl _⟩
    case round =>
      obtain ⟨j, rfl, rfl, hj, hx1⟩ := hrel
      by_cases hlt : j < ds.length
      · obtain ⟨ad, cs, hA, had, hcs, hcell, A2, n2, c2, hcs2⟩ := hany.at_ (by omega) hlt
        subst hA hcs2
        have hlt2 : (j : Int) < ds.length := by omega
        have hcl := fun i v hj => hx1.cell (show w1.cell? ((ad.add (j * 10)).add i) = some v by rw [add_addB]; exact hcell i v hj)
        clear hcell had hcs
        generalize ds[j] = dd at *
        unfold ddC at hcl
        go_wp2_with (first | (with_reducible refine stop_alloc 28 ?_) | (with_reducible refine stop_store 28 ?_) | (with_reducible refine stop_load 28 ?_))
        refine go_on (wpList_load_elem rfl 28 _ rfl (ad.add (j * 10)) rfl _ _ hcl Tryd.underlying28 rfl (by kernel_rfl) ?_)
        go_wp2_with (first | (with_reducible refine stop_alloc 28 ?_) | (with_reducible refine stop_store 28 ?_) | (with_reducible refine stop_load 28 ?_))
        refine go_on (wpList_alloc_ rfl rfl deed_info ?_)
        go_wp2_with (first | (with_reducible refine stop_alloc 28 ?_) | (with_reducible refine stop_store 28 ?_) | (with_reducible refine stop_load 28 ?_))
        refine go_on (wpList_store_last rfl rfl rfl rfl (by kernel_rfl) rfl (by simp [Value.oneCell']) ?_)
        intro wb hrowB hxb _
        have hx1b := hx1.trans hxb
        clear hcl hx1 hrowB hxb
        go_wp2
        go_roundw
        case rel => exact ⟨j + 1, rfl, by go_num, by omega, hx1b⟩
        case measure => simp [intOf]; omega
      · have hlt2 : ¬ (j : Int) < ds.length := by omega
        clear hany CO
        go_wp2
        go_ret2
        exact TASays.no HT2.out (hx.trans hx1)
  | inr ds =>
    rw [hp] at hq
    obtain ⟨rfl, ⟨v, hOv, hds⟩, hk, hx⟩ := hq
    obtain ⟨hput, hokD, hn1, hn12⟩ := okD_all hp
    have HT2 : Hid (takeAllT l = if firstC ds ≠ 0 then .inl (firstC ds) else .inr ds) := Lib.hid (by rw [HT.out, hp])
    obtain ⟨Av, cv, rfl⟩ := hds.form
    have hany := hds.rsm hokD
    have HDS := Lib.hid hds
    obtain ⟨CO, _⟩ := row1_cell hOv
    clear HT hp hds hk hput
    go_wp2
    go_loopw [5, 16] (fun ev iv wr => ∃ j : Nat, ev = .int .i64 (firstC (ds.take j) : Nat) ∧ iv = .int .i64 j ∧ j ≤ ds.length ∧ Ext w1 wr) (fun _ iv _ => ds.length - (intOf iv).toNat)
    case atStart => exact ⟨0, by simp [firstC], rfl, by omega, Ext.refl _⟩
    case round =>
      obtain ⟨j, rfl, rfl, hj, hx1⟩ := hrel
      by_cases hlt : j < ds.length
      · obtain ⟨ad, cs, hA, had, hcs, hcell, A2, cap2, hcs2, hby, hc2, hb1, hb2, hb3, hb4⟩ := hany.at_ (by omega) hlt
        subst hA hcs2
        have hlt2 : (j : Int) < ds.length := by omega
        have hcl := fun i v hj => hx1.cell (show w1.cell? ((ad.add (j * 10)).add i) = some v by rw [add_addB]; exact hcell i v hj)
        have HFT := Lib.hid (firstC_take hlt)
        have hCK := fun w' (hx' : Ext w1 w') => HCK ds[j] A2 cap2 w' (hby.bs.ext hx') hc2 hb1 (by omega) (by omega) (by omega)
        clear hcell had hcs hby hc2 hb1 hb2 hb3 hb4
        generalize ds[j] = dd at *
        unfold ddC at hcl hCK
        go_wp2_with (first | (with_reducible refine stop_alloc 28 ?_) | (with_reducible refine stop_store 28 ?_) | (with_reducible refine stop_load 28 ?_))
        refine go_on (wpList_load_elem rfl 28 _ rfl (ad.add (j * 10)) rfl _ _ hcl Tryd.underlying28 rfl (by kernel_rfl) ?_)
        go_wp2_with (first | (with_reducible refine stop_alloc 28 ?_) | (with_reducible refine stop_store 28 ?_) | (with_reducible refine stop_load 28 ?_))
        refine go_on (wpList_alloc_ rfl rfl deed_info ?_)
        go_wp2_with (first | (with_reducible refine stop_alloc 28 ?_) | (with_reducible refine stop_store 28 ?_) | (with_reducible refine stop_load 28 ?_))
        refine go_on (wpList_store_last rfl rfl rfl rfl (by kernel_rfl) rfl (by simp [Value.oneCell']) ?_)
        intro wb hrowB hxb _
        have hx1b := hx1.trans hxb
        clear hcl hx1 hxb
        by_cases hf : firstC (ds.take j) = 0
        · have HFT2 := Lib.hid (HFT.out.trans (if_pos hf))
          rw [hf]
          clear hf HFT
          go_wp2_with (first | (with_reducible refine stop_alloc 28 ?_) | (with_reducible refine stop_store 28 ?_) | (with_reducible refine stop_load 28 ?_))
          refine go_on (wpList_load_row rfl 28 _ rfl wr.heap.size rfl 28 _ (0, 0) _ hrowB Tryd.underlying28 rfl (by kernel_rfl) ?_)
          go_wp2_with fail
          refine (hCK wb hx1b).mono ?_
          rintro e w2 ⟨rfl, hx2⟩
          have hx12 := hx1b.trans hx2
          clear hCK hrowB hx1b hx2
          rw [← HFT2.out]
          go_wp2
          go_roundw
          case rel => exact ⟨j + 1, rfl, by go_num, by omega, hx12⟩
          case measure => simp [intOf]; omega
        · have HFT2 := Lib.hid (HFT.out.trans (if_neg hf))
          have k1 : (((firstC (ds.take j) : Nat) : Int) == 0) = false := by simpa using hf
          clear hf HFT hCK hrowB
          go_wp2
          go_roundw
          case rel => exact ⟨j + 1, by rw [HFT2.out], by go_num, by omega, hx1b⟩
          case measure => simp [intOf]; omega
      · have hlt2 : ¬ (j : Int) < ds.length := by omega
        obtain rfl : j = ds.length := by omega
        rw [List.take_length]
        clear hany hlt
        have CO' := fun w' (hx' : Ext wr w') => CO w' (hx1.trans hx')
        clear CO
        by_cases hf : firstC ds = 0
        · have HT3 := Lib.hid (HT2.out.trans (if_neg (by simpa using hf)))
          rw [hf]
          clear hf HT2
          go_wp2
          go_ret2
          refine ⟨hx.trans hx1, ?_⟩
          rw [HT3.out]
          exact ⟨_, rfl, OwnDs.stp HDS.out (.of_ext hx1)⟩
        · have HT3 := Lib.hid (HT2.out.trans (if_pos hf))
          have k1 : (((firstC ds : Nat) : Int) == 0) = false := by simpa using hf
          generalize firstC ds = z at *
          clear hf HT2
          go_wp2
          go_ret2
          exact TASays.no HT3.out (hx.trans hx1)
end Go.Proofs.YtameamfaaenboaaDoor
namespace Go.Proofs.YtameamfaaenboaaDoor
open Go.RowKit
theorem yieldsIf_load_elem {P : Program} {ops : Array Oper} {S : World → Prop} {op : Oper} {a : Act} (hw : Region.wanted op (yielded ops a.tmps) = true) (ty : TypeId) (x : Operand) (ho : op.op = .load ty x)
    (p : Addr) (hx : a.eval x = .pointer (some p)) (cs : List Value) (d : TypeDesc) (hS : ∀ w, S w → ∀ j v, cs[j]? = some v → w.cell? (p.add j) = some v)
    (hu : P.underlying ty = some d) (hd : d.isRow = true) (hi : (P.info? ty).map (·.size) = some cs.length) : YieldsIf P ops S op (.agg cs.toArray) a :=
  .inl ⟨hw, fun w hw' => by
    unfold execOp
    simp only [ho, hx, Instr.loadAt, Instr.sureAddr, Sem.run_bind, Sem.run_pure, Result.andThen_ok, run_loadVar_elem w p ty cs d (hS w hw') hu hd hi]⟩
/-! ## the plain laws -/
theorem putAllT_ok {ds : List Dd} (h : (putAllT ds).2 = 0) : (putAllT ds).1 = putAllB ds ∧ ds.length ≠ 0 ∧ ds.length ≤ 12 ∧ firstC ds = 0 ∧ (putAllB ds).length ≤ 1800 := by
  unfold putAllT at *
  split at h
  · cases h
  · rename_i h1
    split at h
    · cases h
    · rename_i h2
      split at h
      · rename_i h3; exact absurd h h3
      · rename_i h3
        split at h
        · cases h
        · rename_i h4
          rw [if_neg h1, if_neg h2, if_neg h3, if_neg h4]
          exact ⟨rfl, h1, by omega, by simpa using h3, by omega⟩
theorem read_all {ds : List Dd} (h1 : 1 ≤ ds.length) (h2 : ds.length ≤ 12) (hok : ∀ d ∈ ds, okD d) : readP allP (putAllB ds) = .inr ds := by
  have e1 : numP 1 (putAllB ds) = .inr (ds.length, ds.flatMap putD ++ []) := (Rt.num 1).put ds.length (ds.flatMap putD ++ []) (by omega)
  have e2 := (Rt.rep Rt.deed ds.length).put ds [] ⟨hok, rfl⟩
  unfold readP allP
  rw [andP_put e1]
  unfold mustP andP
  simp only [h1, h2, decide_true, Bool.and_self, if_true]
  rw [e2]
  rfl
theorem takeAll_put {ds : List Dd} (h : (putAllT ds).2 = 0) : takeAllT (putAllT ds).1 = .inr ds := by
  obtain ⟨e, h1, h2, h3, h4⟩ := putAllT_ok h
  rw [e]
  unfold takeAllT
  rw [if_neg (by omega), read_all (by omega) h2 (fun d hd => (checkD_ok (firstC_of h3 d hd)).2.2.2.2.2.1)]
  simp [h3]
theorem takeAllT_ok {l : By} {ds : List Dd} (h : takeAllT l = .inr ds) : l = putAllB ds ∧ (∀ d ∈ ds, okD d) ∧ 1 ≤ ds.length ∧ ds.length ≤ 12 ∧ firstC ds = 0 ∧ l.length ≤ 1800 := by
  unfold takeAllT at h
  split at h
  · cases h
  · rename_i h1
    cases hp : readP allP l with
    | inl e => rw [hp] at h; cases h
    | inr ds' =>
      rw [hp] at h
      simp only at h
      split at h
      · cases h
      · rename_i h2
        cases h
        obtain ⟨q1, q2, q3, q4⟩ := okD_all hp
        exact ⟨q1, q2, q3, q4, by simpa using h2, by omega⟩
theorem putAll_take {l : By} {ds : List Dd} (h : takeAllT l = .inr ds) : putAllT ds = (l, 0) := by
  obtain ⟨q1, q2, q3, q4, q5, q6⟩ := takeAllT_ok h
  unfold putAllT
  rw [if_neg (by omega), if_neg (by omega), if_neg (by simp [q5]), ← q1, if_neg (by omega)]
theorem takeUs_putT {u : Us} (h : (putUsT u).2 = 0) : takeUs (putUsT u).1 = .inr u ∧ (putUsT u).1.length ≤ 1700 ∧ checkU u = 0 := by
  unfold putUsT at *
  split at h
  · rename_i h1; exact absurd h h1
  · rename_i h1
    have h1 : checkU u = 0 := by simpa using h1
    rw [if_neg (by simp [h1])]
    exact ⟨takeUs_put h1, putUs_len h1, h1⟩
theorem putUs_take {l : By} {u : Us} (h : takeUs l = .inr u) : putUsT u = (l, 0) := by
  obtain ⟨h1, h2⟩ := takeUs_ok h
  unfold putUsT
  rw [if_neg (by simp [h2]), ← h1]
/-! ## the same deeds -/
set_option maxRecDepth 20000 in
set_option maxHeartbeats 4000000 in
theorem DSame_any (d : Dd) (A A' : Option Addr) (c c' : Nat) (w : World) (h : Bs w A d.bytes) (h' : Bs w A' d.bytes) :
    Calls Tryd.prog 47 #[.agg (ddC d (.slice A d.bytes.length c)), .agg (ddC d (.slice A' d.bytes.length c'))] w fun e w' => e = .returned (.bool true) ∧ Ext w w' := by
  obtain ⟨dw, du, db, dt, di, dh, df, dsh, de, dby⟩ := d
  simp only at h h'
  unfold ddC
  have hx1 := ((Ext.refl w).alloc (.cells #[.int .i64 dw, .string (st du), .string (st db), .string (st dt), .int .i64 di, .int .i64 dh, .int .u8 (df.toNat : Int), .int .i64 dsh, .int .i64 de, .slice A dby.length c] 28)).alloc (.cells #[.int .i64 dw, .string (st du), .string (st db), .string (st dt), .int .i64 di, .int .i64 dh, .int .u8 (df.toNat : Int), .int .i64 dsh, .int .i64 de, .slice A' dby.length c'] 28)
  have s1 := run_str (P := Tryd.prog) Tryd.underlying26 Tryd.underlying5 Tryd.underlying9 h dby.length c rfl _ hx1
  have s2 := run_str (P := Tryd.prog) Tryd.underlying26 Tryd.underlying5 Tryd.underlying9 h' dby.length c' rfl _ hx1
  go_enter Tryd.func47, Tryd.ntmps47
  go_wp2
  go_ret
  exact ⟨rfl, hx1⟩
set_option maxRecDepth 20000 in
set_option maxHeartbeats 4000000 in
theorem DSameAll_any (ds : List Dd) (A A' : Option Addr) (c c' : Nat) (w : World) (h : RsM RDd 10 [] w A ds) (h' : RsM RDd 10 [] w A' ds) (hl : ds.length ≤ 140737488351232) :
    Calls Tryd.prog 21 #[.slice A ds.length c, .slice A' ds.length c'] w fun e w' => e = .returned (.bool true) ∧ Ext w w' := by
  go_enter Tryd.func21, Tryd.ntmps21
  go_wp2
  go_loopw [5] (fun iv wr => ∃ k : Nat, iv = .int .i64 k ∧ k ≤ ds.length ∧ Ext w wr) (fun iv _ => ds.length - (intOf iv).toNat)
  case atStart => exact ⟨0, rfl, by omega, Ext.refl w⟩
  case round =>
    obtain ⟨k, rfl, hk, hx⟩ := hrel
    by_cases hlt : k < ds.length
    · obtain ⟨ad, cs, hA, had, hcs, hcell, A2, cap2, hcs2, hby, _⟩ := h.at_ (by omega) hlt
      obtain ⟨ad', cs', hA', had', hcs', hcell', A3, cap3, hcs3, hby', _⟩ := h'.at_ (by omega) hlt
      subst hA hcs2 hA' hcs3
      have hlt2 : (k : Int) < ds.length := by omega
      have hC : ∀ w', Ext w w' → ∀ j v, (ddC ds[k] (.slice A2 ds[k].bytes.length cap2)).toList[j]? = some v → w'.cell? ((ad.add (k * 10)).add j) = some v := fun w' hx' j v hj => hx'.cell (show w.cell? ((ad.add (k * 10)).add j) = some v by rw [add_addB]; exact hcell j v hj)
      have hC' : ∀ w', Ext w w' → ∀ j v, (ddC ds[k] (.slice A3 ds[k].bytes.length cap3)).toList[j]? = some v → w'.cell? ((ad'.add (k * 10)).add j) = some v := fun w' hx' j v hj => hx'.cell (show w.cell? ((ad'.add (k * 10)).add j) = some v by rw [add_addB]; exact hcell' j v hj)
      have HSM := fun w' (hx' : Ext w w') => DSame_any ds[k] A2 A3 cap2 cap3 w' (hby.bs.ext hx') (hby'.bs.ext hx')
      clear hcs hcell hby had hcs' hcell' hby' had'
      generalize ds[k] = dd at *
      obtain ⟨dw, du, db, dt, di, dh, df, dsh, de, dby⟩ := dd
      unfold ddC at hC hC' HSM
      simp only at hC hC' HSM
      have hxn := hx.drew
      go_wp2_with fail
      refine wp_region_phase (S := fun w' => Ext w w') 9 (by kernel_rfl) (by kernel_rfl) ?_ (fun hHeld => ?_)
      · exact hxn
      simp only [List.drop_succ_cons, List.drop_zero]
      refine name_head ?_
      intro wr0 hw0
      rw [hw0] at hHeld
      refine wpHead_take (i := 0) (v := ?_) (by rfl) (by kernel_rfl) (by kernel_rfl) (by exact fun _ _ _ h => h) (Or.inl ⟨by rfl, ?_⟩) (by assumption) ?_
      rotate_left
      · intro w hSw
        first | (go_simp; done) | (go_simp; with_reducible rfl)
      simp only [List.getElem_toArray, List.getElem_cons_zero, Act.put, List.setIfInBounds_toArray, List.set_cons_zero, List.set_cons_succ]
      refine wpHead_take (i := 1) (v := ?_) (by rfl) (by kernel_rfl) (by kernel_rfl) (by exact fun _ _ _ h => h) (Or.inl ⟨by rfl, ?_⟩) (by assumption) ?_
      rotate_left
      · intro w hSw
        first | (go_simp; done) | (go_simp; with_reducible rfl)
      simp only [List.getElem_toArray, List.getElem_cons_succ, List.getElem_cons_zero, Act.put, List.setIfInBounds_toArray, List.set_cons_zero, List.set_cons_succ]
      refine wpHead_take (i := 2) (v := ?_) (by rfl) (by kernel_rfl) (by kernel_rfl) (by exact fun _ _ _ h => h) (Or.inl ⟨by rfl, ?_⟩) (by assumption) ?_
      rotate_left
      · intro w hSw
        first | (go_simp; done) | (go_simp; with_reducible rfl)
      simp only [List.getElem_toArray, List.getElem_cons_succ, List.getElem_cons_zero, Act.put, List.setIfInBounds_toArray, List.set_cons_zero, List.set_cons_succ]
      refine wpHead_take (i := 3) (v := (.agg #[.int .i64 dw, .string (st du), .string (st db), .string (st dt), .int .i64 di, .int .i64 dh, .int .u8 (df.toNat : Int), .int .i64 dsh, .int .i64 de, .slice A2 dby.length cap2])) (by rfl) (by kernel_rfl) (by kernel_rfl) (by exact fun _ _ _ h => h) (by exact yieldsIf_load_elem (by rfl) 28 _ rfl (ad.add (k * 10)) rfl [.int .i64 dw, .string (st du), .string (st db), .string (st dt), .int .i64 di, .int .i64 dh, .int .u8 (df.toNat : Int), .int .i64 dsh, .int .i64 de, .slice A2 dby.length cap2] _ hC Tryd.underlying28 rfl (by kernel_rfl)) (by assumption) ?_
      simp only [List.getElem_toArray, List.getElem_cons_succ, List.getElem_cons_zero, Act.put, List.setIfInBounds_toArray, List.set_cons_zero, List.set_cons_succ]
      refine wpHead_take (i := 4) (v := ?_) (by rfl) (by kernel_rfl) (by kernel_rfl) (by exact fun _ _ _ h => h) (Or.inl ⟨by rfl, ?_⟩) (by assumption) ?_
      rotate_left
      · intro w hSw
        first | (go_simp; done) | (go_simp; with_reducible rfl)
      simp only [List.getElem_toArray, List.getElem_cons_succ, List.getElem_cons_zero, Act.put, List.setIfInBounds_toArray, List.set_cons_zero, List.set_cons_succ]
      refine wpHead_take (i := 5) (v := ?_) (by rfl) (by kernel_rfl) (by kernel_rfl) (by exact fun _ _ _ h => h) (Or.inl ⟨by rfl, ?_⟩) (by assumption) ?_
      rotate_left
      · intro w hSw
        first | (go_simp; done) | (go_simp; with_reducible rfl)
      simp only [List.getElem_toArray, List.getElem_cons_succ, List.getElem_cons_zero, Act.put, List.setIfInBounds_toArray, List.set_cons_zero, List.set_cons_succ]
      refine wpHead_take (i := 6) (v := ?_) (by rfl) (by kernel_rfl) (by kernel_rfl) (by exact fun _ _ _ h => h) (Or.inl ⟨by rfl, ?_⟩) (by assumption) ?_
      rotate_left
      · intro w hSw
        first | (go_simp; done) | (go_simp; with_reducible rfl)
      simp only [List.getElem_toArray, List.getElem_cons_succ, List.getElem_cons_zero, Act.put, List.setIfInBounds_toArray, List.set_cons_zero, List.set_cons_succ]
      refine wpHead_take (i := 7) (v := (.agg #[.int .i64 dw, .string (st du), .string (st db), .string (st dt), .int .i64 di, .int .i64 dh, .int .u8 (df.toNat : Int), .int .i64 dsh, .int .i64 de, .slice A3 dby.length cap3])) (by rfl) (by kernel_rfl) (by kernel_rfl) (by exact fun _ _ _ h => h) (by exact yieldsIf_load_elem (by rfl) 28 _ rfl (ad'.add (k * 10)) rfl [.int .i64 dw, .string (st du), .string (st db), .string (st dt), .int .i64 di, .int .i64 dh, .int .u8 (df.toNat : Int), .int .i64 dsh, .int .i64 de, .slice A3 dby.length cap3] _ hC' Tryd.underlying28 rfl (by kernel_rfl)) (by assumption) ?_
      simp only [List.getElem_toArray, List.getElem_cons_succ, List.getElem_cons_zero, Act.put, List.setIfInBounds_toArray, List.set_cons_zero, List.set_cons_succ]
      refine wpHead_ready (rs := [8]) (by kernel_rfl) (by simp) (by kernel_rfl) ?_
      refine AllHead.cons (by rfl) (fun K hK => ?_) ?_
      · refine step_callG (by rfl) (by kernel_rfl) (HSM _ hHeld) ?_
        rintro e wr8 ⟨rfl, hx8⟩
        refine ⟨_, rfl, ?_⟩
        refine hK.out _ _ ?_ (fun hHeld => ?_)
        · exact hHeld.trans hx8
        clear hK K
        try simp only [List.getElem_toArray, List.getElem_cons_succ, List.getElem_cons_zero, Act.put, List.setIfInBounds_toArray, List.set_cons_zero, List.set_cons_succ]
        refine wpHead_done (by kernel_rfl) ?_
        go_wp2
        go_roundw
        case rel => exact ⟨k + 1, by go_num, by omega, hHeld⟩
        case measure => simp [intOf]; omega
      exact AllHead.nil
    · have hlt2 : ¬ (k : Int) < ds.length := by omega
      clear h h'
      go_wp2
      go_ret
      exact ⟨rfl, hx⟩
end Go.Proofs.YtameamfaaenboaaDoor
namespace Go.Proofs.YtameamfaaenboaaDoor
open Go.RowKit
def liveD : Dd := ⟨1, [117], [], [], 0, 0, 0, 0, 0, []⟩
def liveU : Us := ⟨[117], 1, [⟨inboxL, 1, 1, []⟩]⟩
theorem live1 : (putAllT [liveD]).2 = 0 ∧ (putAllT [liveD]).1.length = 19 ∧ (putAllT [liveD]).1.take 6 = [1, 1, 1, 117, 0, 0] := by decide +kernel
theorem live2 : (putUsT liveU).2 = 0 ∧ 10 < (putUsT liveU).1.length := by decide +kernel
theorem live3 : foldB [105, 110, 66, 111, 120] = inboxL := by decide +kernel
theorem RsM.one {α : Type} {R : Reading α} {s : Nat} {w : World} {g t : Nat} {cs : Array Value} {x : α} {fr : Nat × Nat} (h : w.heap[g]? = some (.cells cs t fr)) (hs : cs.size = s) (hR : R.says [] w cs.toList x) : RsM R s [] w (some ⟨g, 0, none⟩) [x] := by
  refine ⟨[cs.toList], rfl, by simp [hs], ?_, ?_⟩
  · intro k v hk
    obtain ⟨ad, e, hc⟩ := Sl.row h k v (by simpa using hk)
    exact ⟨ad, e, by simp, hc⟩
  · intro k cs' x' h1 h2
    match k with
    | 0 => simp at h1 h2; subst h1 h2; exact hR
    | k + 1 => simp at h1
theorem OwnDs.one {w : World} {base n c : Nat} {A : Option Addr} {d : Dd} (h : OwnDs w base (.slice A n c) [d]) : ∃ g, A = some ⟨g, 0, none⟩ ∧ w.cell? ⟨g, 1, none⟩ = some (.string (st d.user)) := by
  obtain ⟨css, h1, h2, h3, h4⟩ := h
  obtain ⟨cs, rfl⟩ : ∃ cs, css = [cs] := by
    match css, h1 with
    | [cs], _ => exact ⟨cs, rfl⟩
  obtain ⟨pv, h5, _⟩ := h4 0 cs d rfl rfl
  have hsl := (Sl.own h3 rfl) 1 (.string (st d.user)) (by simp [h5, ddC])
  rcases h3.2 with ⟨e, hn⟩ | ⟨g, cap, cur, e, _⟩
  · exact absurd hn (by simp)
  · injection e with e1 e2 e3
    subst e1
    obtain ⟨ad, e, hc⟩ := hsl
    injection e with e
    subst e
    exact ⟨g, rfl, by simpa [Addr.add] using hc⟩
set_option maxRecDepth 20000 in
set_option maxHeartbeats 4000000 in
theorem dlive_any (HCK : CheckLaw) (w : World) : Calls Tryd.prog 8 #[] w fun e w' => e = .returned (.bool true) ∧ Ext w w' := by
  obtain ⟨w1, hw1⟩ : ∃ w1, w1 = w.alloc (.cells #[.int .i64 1, .string ⟨#[117]⟩, .string ⟨#[]⟩, .string ⟨#[]⟩, .int .i64 0, .int .i64 0, .int .u8 0, .int .i64 0, .int .i64 0, .slice none 0 0] 28) := ⟨_, rfl⟩
  have hx1 : Ext w w1 := by rw [hw1]; exact (Ext.refl w).alloc _
  have hrow1 : w1.heap[w.heap.size]? = some (.cells (ddC liveD (.slice none 0 0)) 28 (0, 0)) := by rw [hw1]; exact heap_alloc_new w _
  have HP := PutAll_any HCK [liveD] (some ⟨w.heap.size, 0, none⟩) 1 w1 (RsM.one hrow1 rfl ⟨none, 0, rfl, SlM.of_sl (Sl.nil _ _), by simp [liveD]⟩) (by simp)
  obtain ⟨l1, l2, l3⟩ := live1
  have HTK := takeAll_put l1
  unfold PutSays at HP
  rw [l1] at HP
  generalize (putAllT [liveD]).1 = lb at *
  have HW1 := Lib.hid hw1
  clear hw1 hrow1
  go_enter Tryd.func8, Tryd.ntmps8
  go_wp2_with fail
  rw [← HW1.out]
  refine HP.mono ?_
  rintro e w2 ⟨hx2, v, rfl, hown⟩
  have hx02 := hx1.trans hx2
  obtain ⟨Ab, cb, rfl⟩ := hown.form
  have HT := TakeAll_any HCK Ab cb lb w2 hown.bs hown.cap.1
  have HB := Lib.hid hown
  clear HP hown hx1 hx2
  unfold TASays at HT
  rw [HTK] at HT
  have L2 := Lib.hid l2
  rw [l2] at HT HB ⊢
  clear l2
  go_wp2_with fail
  refine HT.mono ?_
  rintro e w3 ⟨hx3, v, rfl, hds⟩
  obtain ⟨Ad, cd, rfl⟩ := hds.form
  obtain ⟨gd, rfl, hcd⟩ := hds.one
  have hcd := fun w' (hx' : Ext w3 w') => hx'.cell hcd
  have hx03 := hx02.trans hx3
  clear HT hds
  go_wp2_with (first | (with_reducible refine stop_alloc 42 ?_) | (with_reducible refine stop_store 42 ?_) | (with_reducible refine stop_load 42 ?_))
  obtain ⟨wb, hwb⟩ : ∃ wb, wb = w3.alloc (.cells #[.string ⟨#[73, 78, 66, 79, 88]⟩, .int .i64 1, .int .i64 1, .slice none 0 0] 51) := ⟨_, rfl⟩
  have hxb : Ext w3 wb := by rw [hwb]; exact (Ext.refl w3).alloc _
  have hrowb : wb.heap[w3.heap.size]? = some (.cells (bxC ⟨inboxL, 1, 1, []⟩ (.slice none 0 0)) 51 (0, 0)) := by rw [hwb]; exact heap_alloc_new w3 _
  have hszb : wb.heap.size = w3.heap.size + 1 := by rw [hwb]; simp
  rw [← hwb]
  clear hwb
  refine go_on (wpList_alloc_ rfl rfl user_info ?_)
  go_wp2_with (first | (with_reducible refine stop_alloc 42 ?_) | (with_reducible refine stop_store 42 ?_) | (with_reducible refine stop_load 42 ?_))
  rw [← hszb]
  refine go_on (wpList_store_last (c' := #[.string ⟨#[117]⟩, .int .i64 1, .slice (some ⟨w3.heap.size, 0, none⟩) 1 1]) rfl rfl rfl rfl (by kernel_rfl) rfl (by simp [Value.oneCell']) ?_)
  intro wc hrowC hxc _
  have hrowb' := hxc.obj hrowb
  have HU := PutUser_any liveU (some ⟨w3.heap.size, 0, none⟩) 1 wc (RsM.one hrowb' rfl ⟨none, 0, rfl, RsM.nil _ _ _ _ _⟩) (by simp [liveU]) (by simp [liveU, inboxL])
  obtain ⟨u1, u2⟩ := live2
  unfold PutSays at HU
  rw [u1] at HU
  generalize (putUsT liveU).1 = lu at *
  have hx3c := hxb.trans hxc
  have hx0c := hx03.trans hx3c
  clear hrowb hrowb' hxb hxc hszb
  go_wp2_with (first | (with_reducible refine stop_alloc 42 ?_) | (with_reducible refine stop_store 42 ?_) | (with_reducible refine stop_load 42 ?_))
  refine go_on (wpList_load_row rfl 42 _ rfl _ rfl 42 _ (0, 0) _ hrowC Tryd.underlying42 rfl (by kernel_rfl) ?_)
  clear hrowC
  go_wp2_with fail
  refine HU.mono ?_
  rintro e w4 ⟨hx4, v, rfl, hown⟩
  obtain ⟨Au, cu, rfl⟩ := hown.form
  have hx34 := hx3c.trans hx4
  have hx04 := hx0c.trans hx4
  have hlu : (10 : Int) < (lu.length : Int) := by omega
  have HF := Fold_any [105, 110, 66, 111, 120] w4 (by simp)
  rw [live3] at HF
  obtain ⟨A', hs1, hs2⟩ := cutB_h (P := Tryd.prog) Tryd.underlying26 Tryd.sizeOf5 Ab 19 cb lb 6 (hi := 6) rfl L2.out (by have := HB.out.cap.1; have := L2.out; omega) (by omega)
  have hst := run_str (P := Tryd.prog) Tryd.underlying26 Tryd.underlying5 Tryd.underlying9 (hs2 _ HB.out.bs) 6 cb (by simp [L2.out])
  rw [l3] at hst
  have hst4 := hst w4 (hx3.trans hx34)
  have hcd4 := hcd w4 hx34
  clear hst hs2 hcd hx3 hx34 HU hown hx02 hx03 hx3c hx0c hx4 u1 u2 l1 HTK
  unfold inboxL at HF
  go_wp2_with fail
  refine HF.mono ?_
  rintro e w5 ⟨rfl, hx5⟩
  clear HF hs1 hst4 hcd4
  go_wp2
  go_ret
  exact ⟨rfl, hx04.trans hx5⟩
end Go.Proofs.YtameamfaaenboaaDoor
