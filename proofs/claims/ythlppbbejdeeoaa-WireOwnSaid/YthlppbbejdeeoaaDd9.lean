/- The walks of box.Size and deed.CheckUser. Conditions: the bounds named. -/
import Derived.Test.YthlppbbejdeeoaaDd8
import Derived.Test.YthlppbbejdeeoaaStep
namespace Go.Proofs.Ythlppbbejdeeoaa
open Go.RowKit
theorem lettersC_ok (next : Int) : ∀ (ls : List Lt) (last : Int), lettersC next ls last = 0 → ∀ l ∈ ls, last < l.uid ∧ l.uid < next ∧ l.flags.toNat < 32 ∧ l.bytes.length ≤ 600
  | [], _, _ => by simp
  | x :: ls, last, h => by
    unfold lettersC at h
    split at h
    · cases h
    · split at h
      · cases h
      · split at h
        · cases h
        · intro l hl
          have ih := lettersC_ok next ls x.uid h
          rcases List.mem_cons.1 hl with rfl | hl
          · omega
          · have := ih l hl; omega
theorem boxC_ok {b : Bx} (h : boxC b = 0) : numB b.valid = true ∧ numB b.next = true ∧ b.letters.length ≤ 32 ∧ ∀ l ∈ b.letters, 0 < l.uid ∧ l.uid < b.next ∧ l.flags.toNat < 32 ∧ l.bytes.length ≤ 600 := by
  unfold boxC at h
  split at h
  · cases h
  · rename_i h1
    split at h
    · cases h
    · simp only [not_or, Bool.not_eq_false] at h1
      exact ⟨h1.1, h1.2, by omega, lettersC_ok _ _ _ h⟩
theorem sizeF_take (ls : List Lt) (k : Nat) (hk : k < ls.length) : sizeF 0 (ls.take (k + 1)) = sizeF 0 (ls.take k) + ls[k].bytes.length := by
  unfold sizeF
  rw [List.take_succ_eq_append_getElem hk, List.foldl_append]
  rfl
theorem sizeF_le (ls : List Lt) (h : ∀ l ∈ ls, l.bytes.length ≤ 600) : ∀ k, k ≤ ls.length → sizeF 0 (ls.take k) ≤ 600 * k
  | 0, _ => by simp [sizeF]
  | k + 1, hk => by
    have ih := sizeF_le ls h k (by omega)
    have h2 := h _ (List.getElem_mem (show k < ls.length by omega))
    rw [sizeF_take ls k (by omega)]
    omega
set_option maxHeartbeats 2000000 in
theorem BSize_any (b : Bx) (A : Option Addr) (cap : Nat) (w : World) (h : RsM RLt 3 [] w A b.letters) (h32 : b.letters.length ≤ 32) (h600 : ∀ l ∈ b.letters, l.bytes.length ≤ 600) :
    Calls Try.prog 74 #[.agg (bxC b (.slice A b.letters.length cap))] w fun e w' => e = .returned (.int .i64 (sizeB b : Nat)) ∧ Ext w w' := by
  have hx0 : Ext w (w.alloc (.cells (bxC b (.slice A b.letters.length cap)) 127)) := (Ext.refl w).alloc _
  have hrow := heap_alloc_new w (.cells (bxC b (.slice A b.letters.length cap)) 127)
  obtain ⟨wa, hwa⟩ : ∃ wa, wa = w.alloc (.cells (bxC b (.slice A b.letters.length cap)) 127) := ⟨_, rfl⟩
  rw [← hwa] at hx0 hrow
  obtain ⟨bn, bvv, bnx, bls⟩ := b
  simp only at *
  obtain ⟨C0, C1, C2, C3, FF⟩ := rows4 hrow
  clear FF
  have h := h.kept (.of_ext hx0)
  have HWA := Lib.hid hwa
  clear hwa hrow
  unfold bxC at *
  go_enter Try.func74, Try.ntmps74
  go_wp2
  rw [← HWA.out]
  go_loopw [3, 9] (fun nv iv wr => ∃ (k : Nat), iv = .int .i64 k ∧ k ≤ bls.length ∧ nv = .int .i64 (sizeF 0 (bls.take k) : Nat) ∧ Ext wa wr) (fun _ iv _ => bls.length - (intOf iv).toNat)
  case atStart => exact ⟨0, rfl, by omega, rfl, Ext.refl _⟩
  case round =>
    obtain ⟨k, rfl, hk, rfl, hx⟩ := hrel
    by_cases hlt : k < bls.length
    · obtain ⟨ad, cs, rfl, had, hcs, hcell, A2, cap2, rfl, hby⟩ := h.at_ (by omega) hlt
      have hle := sizeF_le bls h600 k hk
      have h6 := h600 _ (List.getElem_mem hlt)
      have HT := Lib.hid (sizeF_take bls k hlt)
      generalize sizeF 0 (bls.take k) = n0 at *
      have hlt2 : (k : Int) < bls.length := by omega
      have hcl := fun j v hj => hx.cell (show wa.cell? ((ad.add (k * 3)).add j) = some v by rw [add_addB]; exact hcell j v hj)
      clear had hcs hcell hby
      generalize bls[k] = lt at *
      obtain ⟨lu, lf, lb⟩ := lt
      simp only at *
      go_wp2_with (first | (with_reducible refine stop_alloc 129 ?_) | (with_reducible refine stop_store 129 ?_) | (with_reducible refine stop_load 129 ?_) | (with_reducible refine stop_alloc 127 ?_) | (with_reducible refine stop_store 127 ?_) | (with_reducible refine stop_load 127 ?_))
      refine go_on (wpList_load_elem rfl 129 _ rfl (ad.add (k * 3)) rfl _ _ hcl Try.underlying129 rfl (by kernel_rfl) ?_)
      go_wp2_with (first | (with_reducible refine stop_alloc 129 ?_) | (with_reducible refine stop_store 129 ?_) | (with_reducible refine stop_load 129 ?_) | (with_reducible refine stop_alloc 127 ?_) | (with_reducible refine stop_store 127 ?_) | (with_reducible refine stop_load 127 ?_))
      refine go_on (wpList_alloc_ rfl rfl letter_info ?_)
      go_wp2_with (first | (with_reducible refine stop_alloc 129 ?_) | (with_reducible refine stop_store 129 ?_) | (with_reducible refine stop_load 129 ?_) | (with_reducible refine stop_alloc 127 ?_) | (with_reducible refine stop_store 127 ?_) | (with_reducible refine stop_load 127 ?_))
      refine go_on (wpList_store_last rfl rfl rfl rfl (by kernel_rfl) rfl (by simp [ltC, Value.oneCell']) ?_)
      intro wb hrowL hxb _
      have hxwb := hx.trans hxb
      obtain ⟨D0, D1, D2, _⟩ := rows3 hrowL
      simp only at D0 D1 D2
      go_wp2
      go_roundw
      case rel => exact ⟨k + 1, by go_num, by omega, by rw [HT.out]; go_num, hxwb⟩
      case measure => simp [intOf]; omega
    · have HT : Hid (sizeF 0 (bls.take k) = sizeB ⟨bn, bvv, bnx, bls⟩) := Lib.hid (by rw [List.take_of_length_le (by omega)]; rfl)
      go_wp2
      go_ret
      exact ⟨by rw [← HT.out]; rfl, hx0.trans hx⟩
/-! ## users -/
theorem inbox_dec (bn : By) : (bn == [73, 78, 66, 79, 88]) = decide (bn = inboxL) := by
  rw [Bool.eq_iff_iff, beq_iff_eq]
  exact Iff.symm decide_eq_true_iff
def prevN (bs : List Bx) : Nat → Option By
  | 0 => none
  | k + 1 => (bs[k]?).map (·.name)
theorem boxesC_drop (valid : Int) (bs : List Bx) (k : Nat) (t : Tot) (hk : k < bs.length) : boxesC valid (bs.drop k) (prevN bs k) t =
    if oneC valid (prevN bs k) bs[k] ≠ 0 then oneC valid (prevN bs k) bs[k] else boxesC valid (bs.drop (k + 1)) (prevN bs (k + 1)) (t.add bs[k]) := by
  have e : prevN bs (k + 1) = some bs[k].name := by simp [prevN, hk]
  rw [List.drop_eq_getElem_cons hk, boxesC, e]
theorem oneC_form {valid : Int} {prev : Option By} {b : Bx} (h : rightB b.name = false ∨ behindB prev b.name = true) : oneC valid prev b = 4 := by unfold oneC; rw [if_pos h]
theorem oneC_box {valid : Int} {prev : Option By} {b : Bx} (h : rightB b.name = true) (h2 : behindB prev b.name = false) : oneC valid prev b = if boxC b ≠ 0 then boxC b else if valid < b.valid then 2 else 0 := by unfold oneC; rw [if_neg (by simp [h, h2])]
set_option maxRecDepth 20000 in
set_option maxHeartbeats 8000000 in
theorem CheckUser_any (u : Us) (A : Option Addr) (cap : Nat) (w : World) (h : RsM RBx 4 [] w A u.boxes) (hn : u.name.length ≤ 140737488355328) (hbn : ∀ b ∈ u.boxes, b.name.length ≤ 140737488355328) :
    Calls Try.prog 66 #[.agg (usC u (.slice A u.boxes.length cap))] w fun e w' => e = .returned (.int .i64 (checkU u : Nat)) ∧ Ext w w' := by
  have hx0 : Ext w (w.alloc (.cells (usC u (.slice A u.boxes.length cap)) 111)) := (Ext.refl w).alloc _
  have hrow := heap_alloc_new w (.cells (usC u (.slice A u.boxes.length cap)) 111)
  obtain ⟨wa, hwa⟩ : ∃ wa, wa = w.alloc (.cells (usC u (.slice A u.boxes.length cap)) 111) := ⟨_, rfl⟩
  rw [← hwa] at hx0 hrow
  obtain ⟨un, uv, bs⟩ := u
  simp only at *
  obtain ⟨C0, C1, C2, FF⟩ := rows3 hrow
  clear FF
  have h := h.kept (.of_ext hx0)
  have HWA := Lib.hid hwa
  have HRU := fun w => RightUser_any (st un) w (by rw [st_size]; exact hn)
  rw [tl_st] at HRU
  have HE : Hid (checkU ⟨un, uv, bs⟩ = if rightU un = false then 4 else if uv < 1 ∨ 4294967295 < uv then 2 else if bs.length = 0 ∨ 6 < bs.length then 8 else boxesC uv bs none ⟨0, 0, false⟩) := Lib.hid rfl
  clear hwa hrow
  unfold usC at *
  go_enter Try.func66, Try.ntmps66
  go_wp2_with fail
  rw [← HWA.out]
  refine (HRU wa).mono ?_
  rintro e w1 ⟨rfl, hx1⟩
  cases hru : rightU un with
  | false =>
    have HB : Hid (checkU ⟨un, uv, bs⟩ = 4) := Lib.hid (by rw [HE.out, hru]; rfl)
    clear hru HE
    go_wp2
    go_ret
    exact ⟨by rw [HB.out]; rfl, hx0.trans hx1⟩
  | true =>
    have HE2 : Hid (checkU ⟨un, uv, bs⟩ = if uv < 1 ∨ 4294967295 < uv then 2 else if bs.length = 0 ∨ 6 < bs.length then 8 else boxesC uv bs none ⟨0, 0, false⟩) := Lib.hid (by rw [HE.out, hru]; rfl)
    clear hru HE HRU
    by_cases hv1 : uv < 1
    · have HB : Hid (checkU ⟨un, uv, bs⟩ = 2) := Lib.hid (by rw [HE2.out, if_pos (.inl hv1)])
      go_wp2
      go_ret
      exact ⟨by rw [HB.out]; rfl, hx0.trans hx1⟩
    · by_cases hv2 : 4294967295 < uv
      · have HB : Hid (checkU ⟨un, uv, bs⟩ = 2) := Lib.hid (by rw [HE2.out, if_pos (.inr hv2)])
        go_wp2
        go_ret
        exact ⟨by rw [HB.out]; rfl, hx0.trans hx1⟩
      · have HE3 := Lib.hid (HE2.out.trans (if_neg (by omega)))
        clear HE2
        by_cases hl0 : bs.length = 0
        · have HB : Hid (checkU ⟨un, uv, bs⟩ = 8) := Lib.hid (by rw [HE3.out, if_pos (.inl hl0)])
          have k0 : ((bs.length : Int) == 0) = true := by simp [hl0]
          clear hl0
          go_wp2
          go_ret
          exact ⟨by rw [HB.out]; rfl, hx0.trans hx1⟩
        · have k0 : ((bs.length : Int) == 0) = false := by simpa using hl0
          by_cases hl6 : (6 : Int) < (bs.length : Int)
          · have HB : Hid (checkU ⟨un, uv, bs⟩ = 8) := Lib.hid (by rw [HE3.out, if_pos (.inr (by omega))])
            go_wp2
            go_ret
            exact ⟨by rw [HB.out]; rfl, hx0.trans hx1⟩
          · have HU := Lib.hid (HE3.out.trans (if_neg (by omega)))
            clear HE3
            have hl6' : bs.length ≤ 6 := by omega
            clear hl0
            go_wp2
            go_loopw [3, 4, 5, 37] (fun lv sv fv iv wr => ∃ (k : Nat) (t : Tot), iv = .int .i64 k ∧ k ≤ bs.length ∧ lv = .int .i64 (t.letters : Nat) ∧ sv = .int .i64 (t.size : Nat) ∧ fv = .bool t.found ∧ t.letters ≤ 32 * k ∧ t.size ≤ 19200 * k ∧ boxesC uv (bs.drop k) (prevN bs k) t = boxesC uv bs none ⟨0, 0, false⟩ ∧ Ext wa wr) (fun _ _ _ iv _ => bs.length - (intOf iv).toNat)
            case atStart => exact ⟨0, ⟨0, 0, false⟩, rfl, by omega, rfl, rfl, rfl, by simp, by simp, rfl, hx1⟩
            case round =>
              clear hx1
              obtain ⟨k, t, rfl, hk, rfl, rfl, rfl, hb1, hb2, hrun, hx⟩ := hrel
              obtain ⟨tl_, ts, tf⟩ := t
              simp only at *
              by_cases hlt : k < bs.length
              · rw [boxesC_drop _ _ _ _ hlt] at hrun
                have HC := Lib.hid hrun
                clear hrun
                obtain ⟨ad, cs, hA, had, hcs, hcell, A2, cap2, hcs2, hby⟩ := h.at_ (by omega) hlt
                subst hA hcs2
                have HRB := fun w => RightBox_any bs[k].name w (hbn _ (List.getElem_mem hlt))
                have HBC := fun w' (hx' : Ext wa w') => BCheck_any bs[k] A2 cap2 w' (hby.kept (.of_ext hx'))
                have HBZ := fun w' (hx' : Ext wa w') => BSize_any bs[k] A2 cap2 w' (hby.kept (.of_ext hx'))
                have hlt2 : (k : Int) < bs.length := by omega
                have hcl := fun j v hj => hx.cell (show wa.cell? ((ad.add (k * 4)).add j) = some v by rw [add_addB]; exact hcell j v hj)
                have hbh0 := fun (e : k = 0) => (by subst e; rfl : behindB (prevN bs k) bs[k].name = false)
                have hbh1 := fun (k' : Nat) (e : k = k' + 1) (hk' : k' < bs.length) => (by subst e; simp [behindB, prevN, hk'] : behindB (prevN bs k) bs[k].name = leB bs[k].name bs[k'].name)
                clear hcs hcell hby had hbn
                generalize bs[k] = bb at *
                obtain ⟨bn, bval, bnx, bls⟩ := bb
                unfold bxC at HBC HBZ hcl
                try simp only at hcl HBC HBZ HRB
                go_wp2_with (first | (with_reducible refine stop_alloc 129 ?_) | (with_reducible refine stop_store 129 ?_) | (with_reducible refine stop_load 129 ?_) | (with_reducible refine stop_alloc 127 ?_) | (with_reducible refine stop_store 127 ?_) | (with_reducible refine stop_load 127 ?_))
                refine go_on (wpList_load_elem rfl 127 _ rfl (ad.add (k * 4)) rfl _ _ hcl Try.underlying127 rfl (by kernel_rfl) ?_)
                go_wp2_with (first | (with_reducible refine stop_alloc 129 ?_) | (with_reducible refine stop_store 129 ?_) | (with_reducible refine stop_load 129 ?_) | (with_reducible refine stop_alloc 127 ?_) | (with_reducible refine stop_store 127 ?_) | (with_reducible refine stop_load 127 ?_))
                refine go_on (wpList_alloc_ rfl rfl box_info ?_)
                go_wp2_with (first | (with_reducible refine stop_alloc 129 ?_) | (with_reducible refine stop_store 129 ?_) | (with_reducible refine stop_load 129 ?_) | (with_reducible refine stop_alloc 127 ?_) | (with_reducible refine stop_store 127 ?_) | (with_reducible refine stop_load 127 ?_))
                refine go_on (wpList_store_last rfl rfl rfl rfl (by kernel_rfl) rfl (by simp [Value.oneCell']) ?_)
                intro wb hrowB hxb _
                have hxwb := hx.trans hxb
                obtain ⟨D0, D1, D2, D3, _⟩ := rows4 hrowB
                try simp only at D0 D1 D2 D3
                have C1' := fun w' hx' => C1 w' (Ext.trans hxwb hx')
                have C2' := fun w' hx' => C2 w' (Ext.trans hxwb hx')
                have hxn : Ext wb wb.drew := (Ext.refl _).drew
                have HC2 := HC
                clear C0 C1 C2 hcl hx hxb
                cases hrb : rightB bn with
                | false =>
                  go_wp2_with fail
                  refine wp_region_phase (S := fun w' => Ext wb w') 19 (by kernel_rfl) (by kernel_rfl) ?_ (fun hHeld => ?_)
                  · exact hxn
                  simp only [List.drop_succ_cons, List.drop_zero]
                  refine name_head ?_
                  intro wr0 hw0
                  rw [hw0] at hHeld
                  refine wpHead_take (i := 0) (v := ?_) (by rfl) (by kernel_rfl) (by kernel_rfl) (by exact fun _ _ _ h => h) (Or.inl ⟨by rfl, ?_⟩) (by assumption) ?_
                  rotate_left
                  · intro w hSw
                    first | (go_simp; done) | (go_simp; with_reducible rfl)
                  simp only [List.getElem_toArray, List.getElem_cons_zero, Act.put, List.setIfInBounds_toArray, List.set_cons_zero, List.set_cons_succ]
                  refine wpHead_take (i := 1) (v := ?_) (by rfl) (by kernel_rfl) (by kernel_rfl) (by exact fun _ _ _ h => h) (Or.inl ⟨by rfl, ?_⟩) (by assumption) ?_
                  rotate_left
                  · intro w hSw
                    first | (go_simp; done) | (go_simp; with_reducible rfl)
                  simp only [List.getElem_toArray, List.getElem_cons_succ, List.getElem_cons_zero, Act.put, List.setIfInBounds_toArray, List.set_cons_zero, List.set_cons_succ]
                  refine wpHead_ready (rs := [2]) (by kernel_rfl) (by simp) (by kernel_rfl) ?_
                  refine AllHead.cons (by rfl) (fun K hK => ?_) ?_
                  · refine step_callG (by rfl) (by kernel_rfl) (HRB _) ?_
                    rintro e wr2 ⟨rfl, hx2⟩
                    rw [hrb]
                    refine ⟨_, rfl, ?_⟩
                    refine hK.out _ _ ?_ (fun hHeld => ?_)
                    · exact hHeld.trans hx2
                    clear hK K
                    try simp only [List.getElem_toArray, List.getElem_cons_succ, List.getElem_cons_zero, Act.put, List.setIfInBounds_toArray, List.set_cons_zero, List.set_cons_succ]
                    refine wpHead_take (i := 3) (v := ?_) (by rfl) (by kernel_rfl) (by kernel_rfl) (by exact fun _ _ _ h => h) (Or.inl ⟨by rfl, ?_⟩) (by assumption) ?_
                    rotate_left
                    · intro w hSw
                      first | (go_simp; done) | (go_simp; with_reducible rfl)
                    simp only [List.getElem_toArray, List.getElem_cons_succ, List.getElem_cons_zero, Act.put, List.setIfInBounds_toArray, List.set_cons_zero, List.set_cons_succ]
                    refine wpHead_take (i := 4) (v := ?_) (by rfl) (by kernel_rfl) (by kernel_rfl) (by exact fun _ _ _ h => h) (Or.inl ⟨by rfl, ?_⟩) (by assumption) ?_
                    rotate_left
                    · intro w hSw
                      first | (go_simp; done) | (go_simp; with_reducible rfl)
                    simp only [List.getElem_toArray, List.getElem_cons_succ, List.getElem_cons_zero, Act.put, List.setIfInBounds_toArray, List.set_cons_zero, List.set_cons_succ]
                    refine wpHead_take (i := 5) (v := undef) (by rfl) (by kernel_rfl) (by kernel_rfl) (by exact fun _ _ _ h => h) (Or.inr ⟨by rfl, rfl⟩) (by assumption) ?_
                    simp only [List.getElem_toArray, List.getElem_cons_succ, List.getElem_cons_zero, Act.put, List.setIfInBounds_toArray, List.set_cons_zero, List.set_cons_succ]
                    refine wpHead_take (i := 6) (v := undef) (by rfl) (by kernel_rfl) (by kernel_rfl) (by exact fun _ _ _ h => h) (Or.inr ⟨by rfl, rfl⟩) (by assumption) ?_
                    simp only [List.getElem_toArray, List.getElem_cons_succ, List.getElem_cons_zero, Act.put, List.setIfInBounds_toArray, List.set_cons_zero, List.set_cons_succ]
                    refine wpHead_take (i := 7) (v := undef) (by rfl) (by kernel_rfl) (by kernel_rfl) (by exact fun _ _ _ h => h) (Or.inr ⟨by rfl, rfl⟩) (by assumption) ?_
                    simp only [List.getElem_toArray, List.getElem_cons_succ, List.getElem_cons_zero, Act.put, List.setIfInBounds_toArray, List.set_cons_zero, List.set_cons_succ]
                    refine wpHead_take (i := 8) (v := undef) (by rfl) (by kernel_rfl) (by kernel_rfl) (by exact fun _ _ _ h => h) (Or.inr ⟨by rfl, rfl⟩) (by assumption) ?_
                    simp only [List.getElem_toArray, List.getElem_cons_succ, List.getElem_cons_zero, Act.put, List.setIfInBounds_toArray, List.set_cons_zero, List.set_cons_succ]
                    refine wpHead_take (i := 9) (v := undef) (by rfl) (by kernel_rfl) (by kernel_rfl) (by exact fun _ _ _ h => h) (Or.inr ⟨by rfl, rfl⟩) (by assumption) ?_
                    simp only [List.getElem_toArray, List.getElem_cons_succ, List.getElem_cons_zero, Act.put, List.setIfInBounds_toArray, List.set_cons_zero, List.set_cons_succ]
                    refine wpHead_take (i := 10) (v := undef) (by rfl) (by kernel_rfl) (by kernel_rfl) (by exact fun _ _ _ h => h) (Or.inr ⟨by rfl, rfl⟩) (by assumption) ?_
                    simp only [List.getElem_toArray, List.getElem_cons_succ, List.getElem_cons_zero, Act.put, List.setIfInBounds_toArray, List.set_cons_zero, List.set_cons_succ]
                    refine wpHead_take (i := 11) (v := undef) (by rfl) (by kernel_rfl) (by kernel_rfl) (by exact fun _ _ _ h => h) (Or.inr ⟨by rfl, rfl⟩) (by assumption) ?_
                    simp only [List.getElem_toArray, List.getElem_cons_succ, List.getElem_cons_zero, Act.put, List.setIfInBounds_toArray, List.set_cons_zero, List.set_cons_succ]
                    refine wpHead_take (i := 12) (v := undef) (by rfl) (by kernel_rfl) (by kernel_rfl) (by exact fun _ _ _ h => h) (Or.inr ⟨by rfl, rfl⟩) (by assumption) ?_
                    simp only [List.getElem_toArray, List.getElem_cons_succ, List.getElem_cons_zero, Act.put, List.setIfInBounds_toArray, List.set_cons_zero, List.set_cons_succ]
                    refine wpHead_take (i := 13) (v := undef) (by rfl) (by kernel_rfl) (by kernel_rfl) (by exact fun _ _ _ h => h) (Or.inr ⟨by rfl, rfl⟩) (by assumption) ?_
                    simp only [List.getElem_toArray, List.getElem_cons_succ, List.getElem_cons_zero, Act.put, List.setIfInBounds_toArray, List.set_cons_zero, List.set_cons_succ]
                    refine wpHead_take (i := 14) (v := undef) (by rfl) (by kernel_rfl) (by kernel_rfl) (by exact fun _ _ _ h => h) (Or.inr ⟨by rfl, rfl⟩) (by assumption) ?_
                    simp only [List.getElem_toArray, List.getElem_cons_succ, List.getElem_cons_zero, Act.put, List.setIfInBounds_toArray, List.set_cons_zero, List.set_cons_succ]
                    refine wpHead_take (i := 15) (v := undef) (by rfl) (by kernel_rfl) (by kernel_rfl) (by exact fun _ _ _ h => h) (Or.inr ⟨by rfl, rfl⟩) (by assumption) ?_
                    simp only [List.getElem_toArray, List.getElem_cons_succ, List.getElem_cons_zero, Act.put, List.setIfInBounds_toArray, List.set_cons_zero, List.set_cons_succ]
                    refine wpHead_take (i := 16) (v := undef) (by rfl) (by kernel_rfl) (by kernel_rfl) (by exact fun _ _ _ h => h) (Or.inr ⟨by rfl, rfl⟩) (by assumption) ?_
                    simp only [List.getElem_toArray, List.getElem_cons_succ, List.getElem_cons_zero, Act.put, List.setIfInBounds_toArray, List.set_cons_zero, List.set_cons_succ]
                    refine wpHead_take (i := 17) (v := undef) (by rfl) (by kernel_rfl) (by kernel_rfl) (by exact fun _ _ _ h => h) (Or.inr ⟨by rfl, rfl⟩) (by assumption) ?_
                    simp only [List.getElem_toArray, List.getElem_cons_succ, List.getElem_cons_zero, Act.put, List.setIfInBounds_toArray, List.set_cons_zero, List.set_cons_succ]
                    refine wpHead_take (i := 18) (v := undef) (by rfl) (by kernel_rfl) (by kernel_rfl) (by exact fun _ _ _ h => h) (Or.inr ⟨by rfl, rfl⟩) (by assumption) ?_
                    simp only [List.getElem_toArray, List.getElem_cons_succ, List.getElem_cons_zero, Act.put, List.setIfInBounds_toArray, List.set_cons_zero, List.set_cons_succ]
                    refine wpHead_done (by kernel_rfl) ?_
                    skip
                    have HB2 : Hid (checkU ⟨un, uv, bs⟩ = 4) := Lib.hid (by rw [HU.out, ← HC.out, oneC_form (.inl hrb)]; rfl)
                    go_wp2
                    go_ret
                    exact ⟨by rw [HB2.out]; rfl, (hx0.trans hxwb).trans hHeld⟩
                  exact AllHead.nil
                | true =>
                  have HRT := Lib.hid hrb
                  have HRB2 : ∀ (w : World), Calls Try.prog 54 #[.string (st bn)] w fun e w' => e = .returned (.bool true) ∧ Ext w w' := fun w => by have := HRB w; rwa [hrb] at this
                  clear HRB hrb
                  rcases (by cases k with | zero => exact .inl rfl | succ k' => exact .inr ⟨k', rfl⟩ : k = 0 ∨ ∃ k', k = k' + 1) with rfl | ⟨k', rfl⟩
                  ·
                    have HBH := Lib.hid (hbh0 rfl)
                    clear hbh0 hbh1
                    go_wp2_with fail
                    refine wp_region_phase (S := fun w' => Ext wb w') 19 (by kernel_rfl) (by kernel_rfl) ?_ (fun hHeld => ?_)
                    · exact hxn
                    simp only [List.drop_succ_cons, List.drop_zero]
                    refine name_head ?_
                    intro wr0 hw0
                    rw [hw0] at hHeld
                    refine wpHead_take (i := 0) (v := ?_) (by rfl) (by kernel_rfl) (by kernel_rfl) (by exact fun _ _ _ h => h) (Or.inl ⟨by rfl, ?_⟩) (by assumption) ?_
                    rotate_left
                    · intro w hSw
                      first | (go_simp; done) | (go_simp; with_reducible rfl)
                    simp only [List.getElem_toArray, List.getElem_cons_zero, Act.put, List.setIfInBounds_toArray, List.set_cons_zero, List.set_cons_succ]
                    refine wpHead_take (i := 1) (v := ?_) (by rfl) (by kernel_rfl) (by kernel_rfl) (by exact fun _ _ _ h => h) (Or.inl ⟨by rfl, ?_⟩) (by assumption) ?_
                    rotate_left
                    · intro w hSw
                      first | (go_simp; done) | (go_simp; with_reducible rfl)
                    simp only [List.getElem_toArray, List.getElem_cons_succ, List.getElem_cons_zero, Act.put, List.setIfInBounds_toArray, List.set_cons_zero, List.set_cons_succ]
                    refine wpHead_ready (rs := [2]) (by kernel_rfl) (by simp) (by kernel_rfl) ?_
                    refine AllHead.cons (by rfl) (fun K hK => ?_) ?_
                    · refine step_callG (by rfl) (by kernel_rfl) (HRB2 _) ?_
                      rintro e wr2 ⟨rfl, hx2⟩
                      refine ⟨_, rfl, ?_⟩
                      refine hK.out _ _ ?_ (fun hHeld => ?_)
                      · exact hHeld.trans hx2
                      clear hK K
                      try simp only [List.getElem_toArray, List.getElem_cons_succ, List.getElem_cons_zero, Act.put, List.setIfInBounds_toArray, List.set_cons_zero, List.set_cons_succ]
                      refine wpHead_take (i := 3) (v := ?_) (by rfl) (by kernel_rfl) (by kernel_rfl) (by exact fun _ _ _ h => h) (Or.inl ⟨by rfl, ?_⟩) (by assumption) ?_
                      rotate_left
                      · intro w hSw
                        first | (go_simp; done) | (go_simp; with_reducible rfl)
                      simp only [List.getElem_toArray, List.getElem_cons_succ, List.getElem_cons_zero, Act.put, List.setIfInBounds_toArray, List.set_cons_zero, List.set_cons_succ]
                      refine wpHead_take (i := 4) (v := ?_) (by rfl) (by kernel_rfl) (by kernel_rfl) (by exact fun _ _ _ h => h) (Or.inl ⟨by rfl, ?_⟩) (by assumption) ?_
                      rotate_left
                      · intro w hSw
                        first | (go_simp; done) | (go_simp; with_reducible rfl)
                      simp only [List.getElem_toArray, List.getElem_cons_succ, List.getElem_cons_zero, Act.put, List.setIfInBounds_toArray, List.set_cons_zero, List.set_cons_succ]
                      refine wpHead_take (i := 5) (v := ?_) (by rfl) (by kernel_rfl) (by kernel_rfl) (by exact fun _ _ _ h => h) (Or.inl ⟨by rfl, ?_⟩) (by assumption) ?_
                      rotate_left
                      · intro w hSw
                        first | (go_simp; done) | (go_simp; with_reducible rfl)
                      simp only [List.getElem_toArray, List.getElem_cons_succ, List.getElem_cons_zero, Act.put, List.setIfInBounds_toArray, List.set_cons_zero, List.set_cons_succ]
                      refine wpHead_take (i := 6) (v := ?_) (by rfl) (by kernel_rfl) (by kernel_rfl) (by exact fun _ _ _ h => h) (Or.inl ⟨by rfl, ?_⟩) (by assumption) ?_
                      rotate_left
                      · intro w hSw
                        first | (go_simp; done) | (go_simp; with_reducible rfl)
                      simp only [List.getElem_toArray, List.getElem_cons_succ, List.getElem_cons_zero, Act.put, List.setIfInBounds_toArray, List.set_cons_zero, List.set_cons_succ]
                      refine wpHead_take (i := 7) (v := ?_) (by rfl) (by kernel_rfl) (by kernel_rfl) (by exact fun _ _ _ h => h) (Or.inl ⟨by rfl, ?_⟩) (by assumption) ?_
                      rotate_left
                      · intro w hSw
                        first | (go_simp; done) | (go_simp; with_reducible rfl)
                      simp only [List.getElem_toArray, List.getElem_cons_succ, List.getElem_cons_zero, Act.put, List.setIfInBounds_toArray, List.set_cons_zero, List.set_cons_succ]
                      refine wpHead_take (i := 8) (v := undef) (by rfl) (by kernel_rfl) (by kernel_rfl) (by exact fun _ _ _ h => h) (Or.inr ⟨by rfl, rfl⟩) (by assumption) ?_
                      simp only [List.getElem_toArray, List.getElem_cons_succ, List.getElem_cons_zero, Act.put, List.setIfInBounds_toArray, List.set_cons_zero, List.set_cons_succ]
                      refine wpHead_take (i := 9) (v := undef) (by rfl) (by kernel_rfl) (by kernel_rfl) (by exact fun _ _ _ h => h) (Or.inr ⟨by rfl, rfl⟩) (by assumption) ?_
                      simp only [List.getElem_toArray, List.getElem_cons_succ, List.getElem_cons_zero, Act.put, List.setIfInBounds_toArray, List.set_cons_zero, List.set_cons_succ]
                      refine wpHead_take (i := 10) (v := undef) (by rfl) (by kernel_rfl) (by kernel_rfl) (by exact fun _ _ _ h => h) (Or.inr ⟨by rfl, rfl⟩) (by assumption) ?_
                      simp only [List.getElem_toArray, List.getElem_cons_succ, List.getElem_cons_zero, Act.put, List.setIfInBounds_toArray, List.set_cons_zero, List.set_cons_succ]
                      refine wpHead_take (i := 11) (v := undef) (by rfl) (by kernel_rfl) (by kernel_rfl) (by exact fun _ _ _ h => h) (Or.inr ⟨by rfl, rfl⟩) (by assumption) ?_
                      simp only [List.getElem_toArray, List.getElem_cons_succ, List.getElem_cons_zero, Act.put, List.setIfInBounds_toArray, List.set_cons_zero, List.set_cons_succ]
                      refine wpHead_take (i := 12) (v := undef) (by rfl) (by kernel_rfl) (by kernel_rfl) (by exact fun _ _ _ h => h) (Or.inr ⟨by rfl, rfl⟩) (by assumption) ?_
                      simp only [List.getElem_toArray, List.getElem_cons_succ, List.getElem_cons_zero, Act.put, List.setIfInBounds_toArray, List.set_cons_zero, List.set_cons_succ]
                      refine wpHead_take (i := 13) (v := undef) (by rfl) (by kernel_rfl) (by kernel_rfl) (by exact fun _ _ _ h => h) (Or.inr ⟨by rfl, rfl⟩) (by assumption) ?_
                      simp only [List.getElem_toArray, List.getElem_cons_succ, List.getElem_cons_zero, Act.put, List.setIfInBounds_toArray, List.set_cons_zero, List.set_cons_succ]
                      refine wpHead_take (i := 14) (v := undef) (by rfl) (by kernel_rfl) (by kernel_rfl) (by exact fun _ _ _ h => h) (Or.inr ⟨by rfl, rfl⟩) (by assumption) ?_
                      simp only [List.getElem_toArray, List.getElem_cons_succ, List.getElem_cons_zero, Act.put, List.setIfInBounds_toArray, List.set_cons_zero, List.set_cons_succ]
                      refine wpHead_take (i := 15) (v := undef) (by rfl) (by kernel_rfl) (by kernel_rfl) (by exact fun _ _ _ h => h) (Or.inr ⟨by rfl, rfl⟩) (by assumption) ?_
                      simp only [List.getElem_toArray, List.getElem_cons_succ, List.getElem_cons_zero, Act.put, List.setIfInBounds_toArray, List.set_cons_zero, List.set_cons_succ]
                      refine wpHead_take (i := 16) (v := undef) (by rfl) (by kernel_rfl) (by kernel_rfl) (by exact fun _ _ _ h => h) (Or.inr ⟨by rfl, rfl⟩) (by assumption) ?_
                      simp only [List.getElem_toArray, List.getElem_cons_succ, List.getElem_cons_zero, Act.put, List.setIfInBounds_toArray, List.set_cons_zero, List.set_cons_succ]
                      refine wpHead_take (i := 17) (v := undef) (by rfl) (by kernel_rfl) (by kernel_rfl) (by exact fun _ _ _ h => h) (Or.inr ⟨by rfl, rfl⟩) (by assumption) ?_
                      simp only [List.getElem_toArray, List.getElem_cons_succ, List.getElem_cons_zero, Act.put, List.setIfInBounds_toArray, List.set_cons_zero, List.set_cons_succ]
                      refine wpHead_take (i := 18) (v := ?_) (by rfl) (by kernel_rfl) (by kernel_rfl) (by exact fun _ _ _ h => h) (Or.inl ⟨by rfl, ?_⟩) (by assumption) ?_
                      rotate_left
                      · intro w hSw
                        first | (go_simp; done) | (go_simp; with_reducible rfl)
                      simp only [List.getElem_toArray, List.getElem_cons_succ, List.getElem_cons_zero, Act.put, List.setIfInBounds_toArray, List.set_cons_zero, List.set_cons_succ]
                      refine wpHead_done (by kernel_rfl) ?_
                      skip
                      have HOB := Lib.hid (oneC_box (valid := uv) (b := ⟨bn, bval, bnx, bls⟩) HRT.out HBH.out)
                      go_wp2_with (first | (with_reducible refine stop_alloc 129 ?_) | (with_reducible refine stop_store 129 ?_) | (with_reducible refine stop_load 129 ?_) | (with_reducible refine stop_alloc 127 ?_) | (with_reducible refine stop_store 127 ?_) | (with_reducible refine stop_load 127 ?_))
                      refine go_on (wpList_load_row rfl 127 _ rfl wr.heap.size rfl 127 _ (0, 0) _ (Ext.obj hrowB hHeld) Try.underlying127 rfl (by kernel_rfl) ?_)
                      go_wp2_with fail
                      refine (HBC _ ((hxwb).trans hHeld)).mono ?_
                      rintro e w5 ⟨rfl, hx5⟩
                      have hx5b := Ext.trans hHeld hx5
                      clear hx5
                      by_cases hbc : boxC ⟨bn, bval, bnx, bls⟩ = 0
                      · rw [hbc]
                        have HBX := Lib.hid hbc
                        have HO2 := Lib.hid (HOB.out.trans (if_neg (by simpa using hbc)))
                        clear HOB hbc
                        by_cases hvv : uv < bval
                        · have HB2 : Hid (checkU ⟨un, uv, bs⟩ = 2) := Lib.hid (by rw [HU.out, ← HC.out, HO2.out, if_pos hvv]; rfl)
                          go_wp2
                          go_ret
                          exact ⟨by rw [HB2.out]; rfl, (hx0.trans hxwb).trans hx5b⟩
                        · have HC2 : Hid (boxesC uv (bs.drop (0 + 1)) (prevN bs (0 + 1)) (Tot.add ⟨tl_, ts, tf⟩ ⟨bn, bval, bnx, bls⟩) = boxesC uv bs none ⟨0, 0, false⟩) := Lib.hid (by rw [← HC.out, HO2.out, if_neg hvv]; simp)
                          obtain ⟨_, _, hok3, hok4⟩ := boxC_ok HBX.out
                          have HBS := fun w' hx' => HBZ w' hx' hok3 (fun l hl => (hok4 l hl).2.2.2)
                          have hszle : sizeB ⟨bn, bval, bnx, bls⟩ ≤ 19200 := by
                            have := sizeF_le bls (fun l hl => (hok4 l hl).2.2.2) bls.length (Nat.le_refl _)
                            rw [List.take_length] at this
                            have h3 : bls.length ≤ 32 := hok3
                            show sizeF 0 bls ≤ 19200
                            omega
                          have h3 : bls.length ≤ 32 := hok3
                          have HSZ : Hid (∃ z, sizeB ⟨bn, bval, bnx, bls⟩ = z) := Lib.hid ⟨_, rfl⟩
                          obtain ⟨sz, hsz⟩ := HSZ.out
                          rw [hsz] at HBS hszle
                          have HSZ2 := Lib.hid hsz
                          have e1 : IntKind.i64.wrap ((tl_ : Int) + (bls.length : Int)) = (tl_ : Int) + (bls.length : Int) := wrap64_nat (tl_ + bls.length) (by omega)
                          have e2 : IntKind.i64.wrap ((ts : Int) + (sz : Int)) = (ts : Int) + (sz : Int) := wrap64_nat (ts + sz) (by omega)
                          have HRANGE : ∀ w', Ext wb w' → w'.rangeAt wr.heap.size 0 [Value.string (st bn), .int .i64 bval, .int .i64 bnx, .slice A2 bls.length cap2] := fun w' hx' j v hj => by
                            rw [Nat.zero_add, cell_of_row w' _ j _ _ _ (hx'.obj hrowB)]
                            simpa using hj
                          have hxn5 := hx5b.drew
                          clear hok3 hok4 hsz HBZ HSZ
                          cases tf with
                          | true =>
                            go_wp2_with fail
                            refine wp_region_phase (S := fun w' => Ext wb w') 17 (by kernel_rfl) (by kernel_rfl) ?_ (fun hHeld => ?_)
                            · exact hxn5
                            simp only [List.drop_succ_cons, List.drop_zero]
                            refine name_head ?_
                            intro wr0 hw0
                            rw [hw0] at hHeld
                            refine wpHead_take (i := 0) (v := ?_) (by rfl) (by kernel_rfl) (by kernel_rfl) (by exact fun _ _ _ h => h) (Or.inl ⟨by rfl, ?_⟩) (by assumption) ?_
                            rotate_left
                            · intro w hSw
                              first | (go_simp; done) | (go_simp; with_reducible rfl)
                            simp only [List.getElem_toArray, List.getElem_cons_zero, Act.put, List.setIfInBounds_toArray, List.set_cons_zero, List.set_cons_succ]
                            refine wpHead_take (i := 1) (v := ?_) (by rfl) (by kernel_rfl) (by kernel_rfl) (by exact fun _ _ _ h => h) (Or.inl ⟨by rfl, ?_⟩) (by assumption) ?_
                            rotate_left
                            · intro w hSw
                              first | (go_simp; done) | (go_simp; with_reducible rfl)
                            simp only [List.getElem_toArray, List.getElem_cons_succ, List.getElem_cons_zero, Act.put, List.setIfInBounds_toArray, List.set_cons_zero, List.set_cons_succ]
                            refine wpHead_take (i := 2) (v := ?_) (by rfl) (by kernel_rfl) (by kernel_rfl) (by exact fun _ _ _ h => h) (Or.inl ⟨by rfl, ?_⟩) (by assumption) ?_
                            rotate_left
                            · intro w hSw
                              first | (go_simp; done) | (go_simp; with_reducible rfl)
                            simp only [List.getElem_toArray, List.getElem_cons_succ, List.getElem_cons_zero, Act.put, List.setIfInBounds_toArray, List.set_cons_zero, List.set_cons_succ]
                            refine wpHead_take (i := 3) (v := ?_) (by rfl) (by kernel_rfl) (by kernel_rfl) (by exact fun _ _ _ h => h) (Or.inl ⟨by rfl, ?_⟩) (by assumption) ?_
                            rotate_left
                            · intro w hSw
                              first | (go_simp; done) | (go_simp; with_reducible rfl)
                            simp only [List.getElem_toArray, List.getElem_cons_succ, List.getElem_cons_zero, Act.put, List.setIfInBounds_toArray, List.set_cons_zero, List.set_cons_succ]
                            refine wpHead_take (i := 4) (v := ?_) (by rfl) (by kernel_rfl) (by kernel_rfl) (by exact fun _ _ _ h => h) (Or.inl ⟨by rfl, ?_⟩) (by assumption) ?_
                            rotate_left
                            · intro w hSw
                              first | (go_simp; done) | (go_simp; with_reducible rfl)
                            simp only [List.getElem_toArray, List.getElem_cons_succ, List.getElem_cons_zero, Act.put, List.setIfInBounds_toArray, List.set_cons_zero, List.set_cons_succ]
                            refine wpHead_take (i := 5) (v := ?_) (by rfl) (by kernel_rfl) (by kernel_rfl) (by exact fun _ _ _ h => h) (Or.inl ⟨by rfl, ?_⟩) (by assumption) ?_
                            rotate_left
                            · intro w hSw
                              first | (go_simp; done) | (go_simp; with_reducible rfl)
                            simp only [List.getElem_toArray, List.getElem_cons_succ, List.getElem_cons_zero, Act.put, List.setIfInBounds_toArray, List.set_cons_zero, List.set_cons_succ]
                            refine wpHead_take (i := 6) (v := (.agg #[.string (st bn), .int .i64 bval, .int .i64 bnx, .slice A2 bls.length cap2])) (by rfl) (by kernel_rfl) (by kernel_rfl) (by exact fun _ _ _ h => h) (by exact yieldsIf_load_mid (by rfl) 127 _ rfl wr.heap.size 0 rfl [.string (st bn), .int .i64 bval, .int .i64 bnx, .slice A2 bls.length cap2] _ HRANGE Try.underlying127 rfl (by kernel_rfl)) (by assumption) ?_
                            simp only [List.getElem_toArray, List.getElem_cons_succ, List.getElem_cons_zero, Act.put, List.setIfInBounds_toArray, List.set_cons_zero, List.set_cons_succ]
                            refine wpHead_take (i := 9) (v := ?_) (by rfl) (by kernel_rfl) (by kernel_rfl) (by exact fun _ _ _ h => h) (Or.inl ⟨by rfl, ?_⟩) (by assumption) ?_
                            rotate_left
                            · intro w hSw
                              first | (go_simp; done) | (go_simp; with_reducible rfl)
                            simp only [List.getElem_toArray, List.getElem_cons_succ, List.getElem_cons_zero, Act.put, List.setIfInBounds_toArray, List.set_cons_zero, List.set_cons_succ]
                            refine wpHead_ready (rs := [7]) (by kernel_rfl) (by simp) (by kernel_rfl) ?_
                            refine AllHead.cons (by rfl) (fun K hK => ?_) ?_
                            · refine step_callG (by rfl) (by kernel_rfl) (HBS _ (hxwb.trans hHeld)) ?_
                              rintro e wr7 ⟨rfl, hx7⟩
                              refine ⟨_, rfl, ?_⟩
                              refine hK.out _ _ ?_ (fun hHeld => ?_)
                              · exact hHeld.trans hx7
                              clear hK K
                              try simp only [List.getElem_toArray, List.getElem_cons_succ, List.getElem_cons_zero, Act.put, List.setIfInBounds_toArray, List.set_cons_zero, List.set_cons_succ]
                              refine wpHead_take (i := 8) (v := ?_) (by rfl) (by kernel_rfl) (by kernel_rfl) (by exact fun _ _ _ h => h) (Or.inl ⟨by rfl, ?_⟩) (by assumption) ?_
                              rotate_left
                              · intro w hSw
                                first | (go_simp; done) | (go_simp; with_reducible rfl)
                              simp only [List.getElem_toArray, List.getElem_cons_succ, List.getElem_cons_zero, Act.put, List.setIfInBounds_toArray, List.set_cons_zero, List.set_cons_succ]
                              refine wpHead_take (i := 10) (v := ?_) (by rfl) (by kernel_rfl) (by kernel_rfl) (by exact fun _ _ _ h => h) (Or.inl ⟨by rfl, ?_⟩) (by assumption) ?_
                              rotate_left
                              · intro w hSw
                                first | (go_simp; done) | (go_simp; with_reducible rfl)
                              simp only [List.getElem_toArray, List.getElem_cons_succ, List.getElem_cons_zero, Act.put, List.setIfInBounds_toArray, List.set_cons_zero, List.set_cons_succ]
                              refine wpHead_take (i := 11) (v := undef) (by rfl) (by kernel_rfl) (by kernel_rfl) (by exact fun _ _ _ h => h) (Or.inr ⟨by rfl, rfl⟩) (by assumption) ?_
                              simp only [List.getElem_toArray, List.getElem_cons_succ, List.getElem_cons_zero, Act.put, List.setIfInBounds_toArray, List.set_cons_zero, List.set_cons_succ]
                              refine wpHead_take (i := 12) (v := undef) (by rfl) (by kernel_rfl) (by kernel_rfl) (by exact fun _ _ _ h => h) (Or.inr ⟨by rfl, rfl⟩) (by assumption) ?_
                              simp only [List.getElem_toArray, List.getElem_cons_succ, List.getElem_cons_zero, Act.put, List.setIfInBounds_toArray, List.set_cons_zero, List.set_cons_succ]
                              refine wpHead_take (i := 13) (v := undef) (by rfl) (by kernel_rfl) (by kernel_rfl) (by exact fun _ _ _ h => h) (Or.inr ⟨by rfl, rfl⟩) (by assumption) ?_
                              simp only [List.getElem_toArray, List.getElem_cons_succ, List.getElem_cons_zero, Act.put, List.setIfInBounds_toArray, List.set_cons_zero, List.set_cons_succ]
                              refine wpHead_take (i := 14) (v := ?_) (by rfl) (by kernel_rfl) (by kernel_rfl) (by exact fun _ _ _ h => h) (Or.inl ⟨by rfl, ?_⟩) (by assumption) ?_
                              rotate_left
                              · intro w hSw
                                first | (go_simp; done) | (go_simp; with_reducible rfl)
                              simp only [List.getElem_toArray, List.getElem_cons_succ, List.getElem_cons_zero, Act.put, List.setIfInBounds_toArray, List.set_cons_zero, List.set_cons_succ]
                              refine wpHead_take (i := 15) (v := ?_) (by rfl) (by kernel_rfl) (by kernel_rfl) (by exact fun _ _ _ h => h) (Or.inl ⟨by rfl, ?_⟩) (by assumption) ?_
                              rotate_left
                              · intro w hSw
                                first | (go_simp; done) | (go_simp; with_reducible rfl)
                              simp only [List.getElem_toArray, List.getElem_cons_succ, List.getElem_cons_zero, Act.put, List.setIfInBounds_toArray, List.set_cons_zero, List.set_cons_succ]
                              refine wpHead_take (i := 16) (v := ?_) (by rfl) (by kernel_rfl) (by kernel_rfl) (by exact fun _ _ _ h => h) (Or.inl ⟨by rfl, ?_⟩) (by assumption) ?_
                              rotate_left
                              · intro w hSw
                                first | (go_simp; done) | (go_simp; with_reducible rfl)
                              simp only [List.getElem_toArray, List.getElem_cons_succ, List.getElem_cons_zero, Act.put, List.setIfInBounds_toArray, List.set_cons_zero, List.set_cons_succ]
                              refine wpHead_done (by kernel_rfl) ?_
                              go_wp2
                              go_roundw
                              case rel => exact ⟨0 + 1, Tot.add ⟨tl_, ts, true⟩ ⟨bn, bval, bnx, bls⟩, by go_num, by omega, by simp [Tot.add], by simp [Tot.add, HSZ2.out], by simp [Tot.add], by simp only [Tot.add]; omega, by simp only [Tot.add, HSZ2.out]; omega, HC2.out, hxwb.trans hHeld⟩
                              case measure => simp [intOf]; omega
                            exact AllHead.nil
                          | false =>
                            go_wp2_with fail
                            refine wp_region_phase (S := fun w' => Ext wb w') 17 (by kernel_rfl) (by kernel_rfl) ?_ (fun hHeld => ?_)
                            · exact hxn5
                            simp only [List.drop_succ_cons, List.drop_zero]
                            refine name_head ?_
                            intro wr0 hw0
                            rw [hw0] at hHeld
                            refine wpHead_take (i := 0) (v := ?_) (by rfl) (by kernel_rfl) (by kernel_rfl) (by exact fun _ _ _ h => h) (Or.inl ⟨by rfl, ?_⟩) (by assumption) ?_
                            rotate_left
                            · intro w hSw
                              first | (go_simp; done) | (go_simp; with_reducible rfl)
                            simp only [List.getElem_toArray, List.getElem_cons_zero, Act.put, List.setIfInBounds_toArray, List.set_cons_zero, List.set_cons_succ]
                            refine wpHead_take (i := 1) (v := ?_) (by rfl) (by kernel_rfl) (by kernel_rfl) (by exact fun _ _ _ h => h) (Or.inl ⟨by rfl, ?_⟩) (by assumption) ?_
                            rotate_left
                            · intro w hSw
                              first | (go_simp; done) | (go_simp; with_reducible rfl)
                            simp only [List.getElem_toArray, List.getElem_cons_succ, List.getElem_cons_zero, Act.put, List.setIfInBounds_toArray, List.set_cons_zero, List.set_cons_succ]
                            refine wpHead_take (i := 2) (v := ?_) (by rfl) (by kernel_rfl) (by kernel_rfl) (by exact fun _ _ _ h => h) (Or.inl ⟨by rfl, ?_⟩) (by assumption) ?_
                            rotate_left
                            · intro w hSw
                              first | (go_simp; done) | (go_simp; with_reducible rfl)
                            simp only [List.getElem_toArray, List.getElem_cons_succ, List.getElem_cons_zero, Act.put, List.setIfInBounds_toArray, List.set_cons_zero, List.set_cons_succ]
                            refine wpHead_take (i := 3) (v := ?_) (by rfl) (by kernel_rfl) (by kernel_rfl) (by exact fun _ _ _ h => h) (Or.inl ⟨by rfl, ?_⟩) (by assumption) ?_
                            rotate_left
                            · intro w hSw
                              first | (go_simp; done) | (go_simp; with_reducible rfl)
                            simp only [List.getElem_toArray, List.getElem_cons_succ, List.getElem_cons_zero, Act.put, List.setIfInBounds_toArray, List.set_cons_zero, List.set_cons_succ]
                            refine wpHead_take (i := 4) (v := ?_) (by rfl) (by kernel_rfl) (by kernel_rfl) (by exact fun _ _ _ h => h) (Or.inl ⟨by rfl, ?_⟩) (by assumption) ?_
                            rotate_left
                            · intro w hSw
                              first | (go_simp; done) | (go_simp; with_reducible rfl)
                            simp only [List.getElem_toArray, List.getElem_cons_succ, List.getElem_cons_zero, Act.put, List.setIfInBounds_toArray, List.set_cons_zero, List.set_cons_succ]
                            refine wpHead_take (i := 5) (v := ?_) (by rfl) (by kernel_rfl) (by kernel_rfl) (by exact fun _ _ _ h => h) (Or.inl ⟨by rfl, ?_⟩) (by assumption) ?_
                            rotate_left
                            · intro w hSw
                              first | (go_simp; done) | (go_simp; with_reducible rfl)
                            simp only [List.getElem_toArray, List.getElem_cons_succ, List.getElem_cons_zero, Act.put, List.setIfInBounds_toArray, List.set_cons_zero, List.set_cons_succ]
                            refine wpHead_take (i := 6) (v := (.agg #[.string (st bn), .int .i64 bval, .int .i64 bnx, .slice A2 bls.length cap2])) (by rfl) (by kernel_rfl) (by kernel_rfl) (by exact fun _ _ _ h => h) (by exact yieldsIf_load_mid (by rfl) 127 _ rfl wr.heap.size 0 rfl [.string (st bn), .int .i64 bval, .int .i64 bnx, .slice A2 bls.length cap2] _ HRANGE Try.underlying127 rfl (by kernel_rfl)) (by assumption) ?_
                            simp only [List.getElem_toArray, List.getElem_cons_succ, List.getElem_cons_zero, Act.put, List.setIfInBounds_toArray, List.set_cons_zero, List.set_cons_succ]
                            refine wpHead_take (i := 9) (v := ?_) (by rfl) (by kernel_rfl) (by kernel_rfl) (by exact fun _ _ _ h => h) (Or.inl ⟨by rfl, ?_⟩) (by assumption) ?_
                            rotate_left
                            · intro w hSw
                              first | (go_simp; done) | (go_simp; with_reducible rfl)
                            simp only [List.getElem_toArray, List.getElem_cons_succ, List.getElem_cons_zero, Act.put, List.setIfInBounds_toArray, List.set_cons_zero, List.set_cons_succ]
                            refine wpHead_ready (rs := [7]) (by kernel_rfl) (by simp) (by kernel_rfl) ?_
                            refine AllHead.cons (by rfl) (fun K hK => ?_) ?_
                            · refine step_callG (by rfl) (by kernel_rfl) (HBS _ (hxwb.trans hHeld)) ?_
                              rintro e wr7 ⟨rfl, hx7⟩
                              refine ⟨_, rfl, ?_⟩
                              refine hK.out _ _ ?_ (fun hHeld => ?_)
                              · exact hHeld.trans hx7
                              clear hK K
                              try simp only [List.getElem_toArray, List.getElem_cons_succ, List.getElem_cons_zero, Act.put, List.setIfInBounds_toArray, List.set_cons_zero, List.set_cons_succ]
                              refine wpHead_take (i := 8) (v := ?_) (by rfl) (by kernel_rfl) (by kernel_rfl) (by exact fun _ _ _ h => h) (Or.inl ⟨by rfl, ?_⟩) (by assumption) ?_
                              rotate_left
                              · intro w hSw
                                first | (go_simp; done) | (go_simp; with_reducible rfl)
                              simp only [List.getElem_toArray, List.getElem_cons_succ, List.getElem_cons_zero, Act.put, List.setIfInBounds_toArray, List.set_cons_zero, List.set_cons_succ]
                              refine wpHead_take (i := 10) (v := ?_) (by rfl) (by kernel_rfl) (by kernel_rfl) (by exact fun _ _ _ h => h) (Or.inl ⟨by rfl, ?_⟩) (by assumption) ?_
                              rotate_left
                              · intro w hSw
                                first | (go_simp; done) | (go_simp; with_reducible rfl)
                              simp only [List.getElem_toArray, List.getElem_cons_succ, List.getElem_cons_zero, Act.put, List.setIfInBounds_toArray, List.set_cons_zero, List.set_cons_succ]
                              refine wpHead_take (i := 11) (v := ?_) (by rfl) (by kernel_rfl) (by kernel_rfl) (by exact fun _ _ _ h => h) (Or.inl ⟨by rfl, ?_⟩) (by assumption) ?_
                              rotate_left
                              · intro w hSw
                                first | (go_simp; done) | (go_simp; with_reducible rfl)
                              simp only [List.getElem_toArray, List.getElem_cons_succ, List.getElem_cons_zero, Act.put, List.setIfInBounds_toArray, List.set_cons_zero, List.set_cons_succ]
                              refine wpHead_take (i := 12) (v := ?_) (by rfl) (by kernel_rfl) (by kernel_rfl) (by exact fun _ _ _ h => h) (Or.inl ⟨by rfl, ?_⟩) (by assumption) ?_
                              rotate_left
                              · intro w hSw
                                first | (go_simp; done) | (go_simp; with_reducible rfl)
                              simp only [List.getElem_toArray, List.getElem_cons_succ, List.getElem_cons_zero, Act.put, List.setIfInBounds_toArray, List.set_cons_zero, List.set_cons_succ]
                              refine wpHead_take (i := 13) (v := ?_) (by rfl) (by kernel_rfl) (by kernel_rfl) (by exact fun _ _ _ h => h) (Or.inl ⟨by rfl, ?_⟩) (by assumption) ?_
                              rotate_left
                              · intro w hSw
                                first | (go_simp; done) | (go_simp; with_reducible rfl)
                              simp only [List.getElem_toArray, List.getElem_cons_succ, List.getElem_cons_zero, Act.put, List.setIfInBounds_toArray, List.set_cons_zero, List.set_cons_succ]
                              refine wpHead_take (i := 14) (v := ?_) (by rfl) (by kernel_rfl) (by kernel_rfl) (by exact fun _ _ _ h => h) (Or.inl ⟨by rfl, ?_⟩) (by assumption) ?_
                              rotate_left
                              · intro w hSw
                                first | (go_simp; done) | (go_simp; with_reducible rfl)
                              simp only [List.getElem_toArray, List.getElem_cons_succ, List.getElem_cons_zero, Act.put, List.setIfInBounds_toArray, List.set_cons_zero, List.set_cons_succ]
                              refine wpHead_take (i := 15) (v := ?_) (by rfl) (by kernel_rfl) (by kernel_rfl) (by exact fun _ _ _ h => h) (Or.inl ⟨by rfl, ?_⟩) (by assumption) ?_
                              rotate_left
                              · intro w hSw
                                first | (go_simp; done) | (go_simp; with_reducible rfl)
                              simp only [List.getElem_toArray, List.getElem_cons_succ, List.getElem_cons_zero, Act.put, List.setIfInBounds_toArray, List.set_cons_zero, List.set_cons_succ]
                              refine wpHead_take (i := 16) (v := ?_) (by rfl) (by kernel_rfl) (by kernel_rfl) (by exact fun _ _ _ h => h) (Or.inl ⟨by rfl, ?_⟩) (by assumption) ?_
                              rotate_left
                              · intro w hSw
                                first | (go_simp; done) | (go_simp; with_reducible rfl)
                              simp only [List.getElem_toArray, List.getElem_cons_succ, List.getElem_cons_zero, Act.put, List.setIfInBounds_toArray, List.set_cons_zero, List.set_cons_succ]
                              refine wpHead_done (by kernel_rfl) ?_
                              go_wp2
                              go_roundw
                              case rel => exact ⟨0 + 1, Tot.add ⟨tl_, ts, false⟩ ⟨bn, bval, bnx, bls⟩, by go_num, by omega, by simp [Tot.add], by simp [Tot.add, HSZ2.out], by simp only [Tot.add, Bool.false_or]; exact congrArg Value.bool (inbox_dec bn), by simp only [Tot.add]; omega, by simp only [Tot.add, HSZ2.out]; omega, HC2.out, hxwb.trans hHeld⟩
                              case measure => simp [intOf]; omega
                            exact AllHead.nil
                      · have hbc2 : (((boxC ⟨bn, bval, bnx, bls⟩ : Nat) : Int) == 0) = false := by simpa using hbc
                        have HB2 : Hid (checkU ⟨un, uv, bs⟩ = boxC ⟨bn, bval, bnx, bls⟩) := Lib.hid (by rw [HU.out, ← HC.out, HOB.out]; simp [hbc])
                        generalize boxC ⟨bn, bval, bnx, bls⟩ = z at *
                        go_wp2
                        go_ret
                        exact ⟨by rw [HB2.out]; rfl, (hx0.trans hxwb).trans hx5b⟩
                    exact AllHead.nil
                  ·
                    have hk'lt : k' < bs.length := by omega
                    have HBH := Lib.hid (hbh1 k' rfl hk'lt)
                    clear hbh0 hbh1
                    obtain ⟨ad', cs', hA', _, _, hcell', A3, cap3, hcs3, _⟩ := h.at_ (by omega) hk'lt
                    cases hA'
                    subst hcs3
                    have E0 : ∀ w', Ext wb w' → w'.cell? (ad.add (k' * 4)) = some (.string (st bs[k'].name)) := fun w' hx' => (hxwb.trans hx').cell (hcell' 0 _ rfl)
                    have hsub : ((k' + 1 : Nat) : Int) - 1 = (k' : Int) := by omega
                    have hwk : IntKind.i64.wrap (k' : Int) = (k' : Int) := wrap64_nat k' (by omega)
                    have hk'2 : (k' : Int) < bs.length := by omega
                    have hgt : (0 : Int) < ((k' + 1 : Nat) : Int) := by omega
                    clear hcell'
                    generalize bs[k'].name = pn at *
                    cases hle : leB bn pn with
                    | true =>
                      have hle2 : (Op.bytesLess bn pn || bn == pn) = true := hle
                      rw [hle] at HBH
                      go_wp2_with fail
                      refine wp_region_phase (S := fun w' => Ext wb w') 19 (by kernel_rfl) (by kernel_rfl) ?_ (fun hHeld => ?_)
                      · exact hxn
                      simp only [List.drop_succ_cons, List.drop_zero]
                      refine name_head ?_
                      intro wr0 hw0
                      rw [hw0] at hHeld
                      refine wpHead_take (i := 0) (v := ?_) (by rfl) (by kernel_rfl) (by kernel_rfl) (by exact fun _ _ _ h => h) (Or.inl ⟨by rfl, ?_⟩) (by assumption) ?_
                      rotate_left
                      · intro w hSw
                        first | (go_simp; done) | (go_simp; with_reducible rfl)
                      simp only [List.getElem_toArray, List.getElem_cons_zero, Act.put, List.setIfInBounds_toArray, List.set_cons_zero, List.set_cons_succ]
                      refine wpHead_take (i := 1) (v := ?_) (by rfl) (by kernel_rfl) (by kernel_rfl) (by exact fun _ _ _ h => h) (Or.inl ⟨by rfl, ?_⟩) (by assumption) ?_
                      rotate_left
                      · intro w hSw
                        first | (go_simp; done) | (go_simp; with_reducible rfl)
                      simp only [List.getElem_toArray, List.getElem_cons_succ, List.getElem_cons_zero, Act.put, List.setIfInBounds_toArray, List.set_cons_zero, List.set_cons_succ]
                      refine wpHead_ready (rs := [2]) (by kernel_rfl) (by simp) (by kernel_rfl) ?_
                      refine AllHead.cons (by rfl) (fun K hK => ?_) ?_
                      · refine step_callG (by rfl) (by kernel_rfl) (HRB2 _) ?_
                        rintro e wr2 ⟨rfl, hx2⟩
                        refine ⟨_, rfl, ?_⟩
                        refine hK.out _ _ ?_ (fun hHeld => ?_)
                        · exact hHeld.trans hx2
                        clear hK K
                        try simp only [List.getElem_toArray, List.getElem_cons_succ, List.getElem_cons_zero, Act.put, List.setIfInBounds_toArray, List.set_cons_zero, List.set_cons_succ]
                        refine wpHead_take (i := 3) (v := ?_) (by rfl) (by kernel_rfl) (by kernel_rfl) (by exact fun _ _ _ h => h) (Or.inl ⟨by rfl, ?_⟩) (by assumption) ?_
                        rotate_left
                        · intro w hSw
                          first | (go_simp; done) | (go_simp; with_reducible rfl)
                        simp only [List.getElem_toArray, List.getElem_cons_succ, List.getElem_cons_zero, Act.put, List.setIfInBounds_toArray, List.set_cons_zero, List.set_cons_succ]
                        refine wpHead_take (i := 4) (v := ?_) (by rfl) (by kernel_rfl) (by kernel_rfl) (by exact fun _ _ _ h => h) (Or.inl ⟨by rfl, ?_⟩) (by assumption) ?_
                        rotate_left
                        · intro w hSw
                          first | (go_simp; done) | (go_simp; with_reducible rfl)
                        simp only [List.getElem_toArray, List.getElem_cons_succ, List.getElem_cons_zero, Act.put, List.setIfInBounds_toArray, List.set_cons_zero, List.set_cons_succ]
                        refine wpHead_take (i := 5) (v := ?_) (by rfl) (by kernel_rfl) (by kernel_rfl) (by exact fun _ _ _ h => h) (Or.inl ⟨by rfl, ?_⟩) (by assumption) ?_
                        rotate_left
                        · intro w hSw
                          first | (go_simp; done) | (go_simp; with_reducible rfl)
                        simp only [List.getElem_toArray, List.getElem_cons_succ, List.getElem_cons_zero, Act.put, List.setIfInBounds_toArray, List.set_cons_zero, List.set_cons_succ]
                        refine wpHead_take (i := 6) (v := ?_) (by rfl) (by kernel_rfl) (by kernel_rfl) (by exact fun _ _ _ h => h) (Or.inl ⟨by rfl, ?_⟩) (by assumption) ?_
                        rotate_left
                        · intro w hSw
                          first | (go_simp; done) | (go_simp; with_reducible rfl)
                        simp only [List.getElem_toArray, List.getElem_cons_succ, List.getElem_cons_zero, Act.put, List.setIfInBounds_toArray, List.set_cons_zero, List.set_cons_succ]
                        refine wpHead_take (i := 7) (v := ?_) (by rfl) (by kernel_rfl) (by kernel_rfl) (by exact fun _ _ _ h => h) (Or.inl ⟨by rfl, ?_⟩) (by assumption) ?_
                        rotate_left
                        · intro w hSw
                          first | (go_simp; done) | (go_simp; with_reducible rfl)
                        simp only [List.getElem_toArray, List.getElem_cons_succ, List.getElem_cons_zero, Act.put, List.setIfInBounds_toArray, List.set_cons_zero, List.set_cons_succ]
                        refine wpHead_take (i := 8) (v := ?_) (by rfl) (by kernel_rfl) (by kernel_rfl) (by exact fun _ _ _ h => h) (Or.inl ⟨by rfl, ?_⟩) (by assumption) ?_
                        rotate_left
                        · intro w hSw
                          first | (go_simp; done) | (go_simp; with_reducible rfl)
                        simp only [List.getElem_toArray, List.getElem_cons_succ, List.getElem_cons_zero, Act.put, List.setIfInBounds_toArray, List.set_cons_zero, List.set_cons_succ]
                        refine wpHead_take (i := 9) (v := ?_) (by rfl) (by kernel_rfl) (by kernel_rfl) (by exact fun _ _ _ h => h) (Or.inl ⟨by rfl, ?_⟩) (by assumption) ?_
                        rotate_left
                        · intro w hSw
                          first | (go_simp; done) | (go_simp; with_reducible rfl)
                        simp only [List.getElem_toArray, List.getElem_cons_succ, List.getElem_cons_zero, Act.put, List.setIfInBounds_toArray, List.set_cons_zero, List.set_cons_succ]
                        refine wpHead_take (i := 10) (v := ?_) (by rfl) (by kernel_rfl) (by kernel_rfl) (by exact fun _ _ _ h => h) (Or.inl ⟨by rfl, ?_⟩) (by assumption) ?_
                        rotate_left
                        · intro w hSw
                          first | (go_simp; done) | (go_simp; with_reducible rfl)
                        simp only [List.getElem_toArray, List.getElem_cons_succ, List.getElem_cons_zero, Act.put, List.setIfInBounds_toArray, List.set_cons_zero, List.set_cons_succ]
                        refine wpHead_take (i := 11) (v := ?_) (by rfl) (by kernel_rfl) (by kernel_rfl) (by exact fun _ _ _ h => h) (Or.inl ⟨by rfl, ?_⟩) (by assumption) ?_
                        rotate_left
                        · intro w hSw
                          first | (go_simp; done) | (go_simp; with_reducible rfl)
                        simp only [List.getElem_toArray, List.getElem_cons_succ, List.getElem_cons_zero, Act.put, List.setIfInBounds_toArray, List.set_cons_zero, List.set_cons_succ]
                        refine wpHead_take (i := 12) (v := ?_) (by rfl) (by kernel_rfl) (by kernel_rfl) (by exact fun _ _ _ h => h) (Or.inl ⟨by rfl, ?_⟩) (by assumption) ?_
                        rotate_left
                        · intro w hSw
                          first | (go_simp; done) | (go_simp; with_reducible rfl)
                        simp only [List.getElem_toArray, List.getElem_cons_succ, List.getElem_cons_zero, Act.put, List.setIfInBounds_toArray, List.set_cons_zero, List.set_cons_succ]
                        refine wpHead_take (i := 13) (v := ?_) (by rfl) (by kernel_rfl) (by kernel_rfl) (by exact fun _ _ _ h => h) (Or.inl ⟨by rfl, ?_⟩) (by assumption) ?_
                        rotate_left
                        · intro w hSw
                          first | (go_simp; done) | (go_simp; with_reducible rfl)
                        simp only [List.getElem_toArray, List.getElem_cons_succ, List.getElem_cons_zero, Act.put, List.setIfInBounds_toArray, List.set_cons_zero, List.set_cons_succ]
                        refine wpHead_take (i := 14) (v := ?_) (by rfl) (by kernel_rfl) (by kernel_rfl) (by exact fun _ _ _ h => h) (Or.inl ⟨by rfl, ?_⟩) (by assumption) ?_
                        rotate_left
                        · intro w hSw
                          first | (go_simp; done) | (go_simp; with_reducible rfl)
                        simp only [List.getElem_toArray, List.getElem_cons_succ, List.getElem_cons_zero, Act.put, List.setIfInBounds_toArray, List.set_cons_zero, List.set_cons_succ]
                        refine wpHead_take (i := 15) (v := ?_) (by rfl) (by kernel_rfl) (by kernel_rfl) (by exact fun _ _ _ h => h) (Or.inl ⟨by rfl, ?_⟩) (by assumption) ?_
                        rotate_left
                        · intro w hSw
                          first | (go_simp; done) | (go_simp; with_reducible rfl)
                        simp only [List.getElem_toArray, List.getElem_cons_succ, List.getElem_cons_zero, Act.put, List.setIfInBounds_toArray, List.set_cons_zero, List.set_cons_succ]
                        refine wpHead_take (i := 16) (v := ?_) (by rfl) (by kernel_rfl) (by kernel_rfl) (by exact fun _ _ _ h => h) (Or.inl ⟨by rfl, ?_⟩) (by assumption) ?_
                        rotate_left
                        · intro w hSw
                          first | (go_simp; done) | (go_simp; with_reducible rfl)
                        simp only [List.getElem_toArray, List.getElem_cons_succ, List.getElem_cons_zero, Act.put, List.setIfInBounds_toArray, List.set_cons_zero, List.set_cons_succ]
                        refine wpHead_take (i := 17) (v := ?_) (by rfl) (by kernel_rfl) (by kernel_rfl) (by exact fun _ _ _ h => h) (Or.inl ⟨by rfl, ?_⟩) (by assumption) ?_
                        rotate_left
                        · intro w hSw
                          first | (go_simp; done) | (go_simp; with_reducible rfl)
                        simp only [List.getElem_toArray, List.getElem_cons_succ, List.getElem_cons_zero, Act.put, List.setIfInBounds_toArray, List.set_cons_zero, List.set_cons_succ]
                        refine wpHead_take (i := 18) (v := ?_) (by rfl) (by kernel_rfl) (by kernel_rfl) (by exact fun _ _ _ h => h) (Or.inl ⟨by rfl, ?_⟩) (by assumption) ?_
                        rotate_left
                        · intro w hSw
                          first | (go_simp; done) | (go_simp; with_reducible rfl)
                        simp only [List.getElem_toArray, List.getElem_cons_succ, List.getElem_cons_zero, Act.put, List.setIfInBounds_toArray, List.set_cons_zero, List.set_cons_succ]
                        refine wpHead_done (by kernel_rfl) ?_
                        skip
                        have HB2 : Hid (checkU ⟨un, uv, bs⟩ = 4) := Lib.hid (by rw [HU.out, ← HC.out, oneC_form (.inr HBH.out)]; rfl)
                        go_wp2
                        go_ret
                        exact ⟨by rw [HB2.out]; rfl, (hx0.trans hxwb).trans hHeld⟩
                      exact AllHead.nil
                    | false =>
                      have hle2 : (Op.bytesLess bn pn || bn == pn) = false := hle
                      rw [hle] at HBH
                      go_wp2_with fail
                      refine wp_region_phase (S := fun w' => Ext wb w') 19 (by kernel_rfl) (by kernel_rfl) ?_ (fun hHeld => ?_)
                      · exact hxn
                      simp only [List.drop_succ_cons, List.drop_zero]
                      refine name_head ?_
                      intro wr0 hw0
                      rw [hw0] at hHeld
                      refine wpHead_take (i := 0) (v := ?_) (by rfl) (by kernel_rfl) (by kernel_rfl) (by exact fun _ _ _ h => h) (Or.inl ⟨by rfl, ?_⟩) (by assumption) ?_
                      rotate_left
                      · intro w hSw
                        first | (go_simp; done) | (go_simp; with_reducible rfl)
                      simp only [List.getElem_toArray, List.getElem_cons_zero, Act.put, List.setIfInBounds_toArray, List.set_cons_zero, List.set_cons_succ]
                      refine wpHead_take (i := 1) (v := ?_) (by rfl) (by kernel_rfl) (by kernel_rfl) (by exact fun _ _ _ h => h) (Or.inl ⟨by rfl, ?_⟩) (by assumption) ?_
                      rotate_left
                      · intro w hSw
                        first | (go_simp; done) | (go_simp; with_reducible rfl)
                      simp only [List.getElem_toArray, List.getElem_cons_succ, List.getElem_cons_zero, Act.put, List.setIfInBounds_toArray, List.set_cons_zero, List.set_cons_succ]
                      refine wpHead_ready (rs := [2]) (by kernel_rfl) (by simp) (by kernel_rfl) ?_
                      refine AllHead.cons (by rfl) (fun K hK => ?_) ?_
                      · refine step_callG (by rfl) (by kernel_rfl) (HRB2 _) ?_
                        rintro e wr2 ⟨rfl, hx2⟩
                        refine ⟨_, rfl, ?_⟩
                        refine hK.out _ _ ?_ (fun hHeld => ?_)
                        · exact hHeld.trans hx2
                        clear hK K
                        try simp only [List.getElem_toArray, List.getElem_cons_succ, List.getElem_cons_zero, Act.put, List.setIfInBounds_toArray, List.set_cons_zero, List.set_cons_succ]
                        refine wpHead_take (i := 3) (v := ?_) (by rfl) (by kernel_rfl) (by kernel_rfl) (by exact fun _ _ _ h => h) (Or.inl ⟨by rfl, ?_⟩) (by assumption) ?_
                        rotate_left
                        · intro w hSw
                          first | (go_simp; done) | (go_simp; with_reducible rfl)
                        simp only [List.getElem_toArray, List.getElem_cons_succ, List.getElem_cons_zero, Act.put, List.setIfInBounds_toArray, List.set_cons_zero, List.set_cons_succ]
                        refine wpHead_take (i := 4) (v := ?_) (by rfl) (by kernel_rfl) (by kernel_rfl) (by exact fun _ _ _ h => h) (Or.inl ⟨by rfl, ?_⟩) (by assumption) ?_
                        rotate_left
                        · intro w hSw
                          first | (go_simp; done) | (go_simp; with_reducible rfl)
                        simp only [List.getElem_toArray, List.getElem_cons_succ, List.getElem_cons_zero, Act.put, List.setIfInBounds_toArray, List.set_cons_zero, List.set_cons_succ]
                        refine wpHead_take (i := 5) (v := ?_) (by rfl) (by kernel_rfl) (by kernel_rfl) (by exact fun _ _ _ h => h) (Or.inl ⟨by rfl, ?_⟩) (by assumption) ?_
                        rotate_left
                        · intro w hSw
                          first | (go_simp; done) | (go_simp; with_reducible rfl)
                        simp only [List.getElem_toArray, List.getElem_cons_succ, List.getElem_cons_zero, Act.put, List.setIfInBounds_toArray, List.set_cons_zero, List.set_cons_succ]
                        refine wpHead_take (i := 6) (v := ?_) (by rfl) (by kernel_rfl) (by kernel_rfl) (by exact fun _ _ _ h => h) (Or.inl ⟨by rfl, ?_⟩) (by assumption) ?_
                        rotate_left
                        · intro w hSw
                          first | (go_simp; done) | (go_simp; with_reducible rfl)
                        simp only [List.getElem_toArray, List.getElem_cons_succ, List.getElem_cons_zero, Act.put, List.setIfInBounds_toArray, List.set_cons_zero, List.set_cons_succ]
                        refine wpHead_take (i := 7) (v := ?_) (by rfl) (by kernel_rfl) (by kernel_rfl) (by exact fun _ _ _ h => h) (Or.inl ⟨by rfl, ?_⟩) (by assumption) ?_
                        rotate_left
                        · intro w hSw
                          first | (go_simp; done) | (go_simp; with_reducible rfl)
                        simp only [List.getElem_toArray, List.getElem_cons_succ, List.getElem_cons_zero, Act.put, List.setIfInBounds_toArray, List.set_cons_zero, List.set_cons_succ]
                        refine wpHead_take (i := 8) (v := ?_) (by rfl) (by kernel_rfl) (by kernel_rfl) (by exact fun _ _ _ h => h) (Or.inl ⟨by rfl, ?_⟩) (by assumption) ?_
                        rotate_left
                        · intro w hSw
                          first | (go_simp; done) | (go_simp; with_reducible rfl)
                        simp only [List.getElem_toArray, List.getElem_cons_succ, List.getElem_cons_zero, Act.put, List.setIfInBounds_toArray, List.set_cons_zero, List.set_cons_succ]
                        refine wpHead_take (i := 9) (v := ?_) (by rfl) (by kernel_rfl) (by kernel_rfl) (by exact fun _ _ _ h => h) (Or.inl ⟨by rfl, ?_⟩) (by assumption) ?_
                        rotate_left
                        · intro w hSw
                          first | (go_simp; done) | (go_simp; with_reducible rfl)
                        simp only [List.getElem_toArray, List.getElem_cons_succ, List.getElem_cons_zero, Act.put, List.setIfInBounds_toArray, List.set_cons_zero, List.set_cons_succ]
                        refine wpHead_take (i := 10) (v := ?_) (by rfl) (by kernel_rfl) (by kernel_rfl) (by exact fun _ _ _ h => h) (Or.inl ⟨by rfl, ?_⟩) (by assumption) ?_
                        rotate_left
                        · intro w hSw
                          first | (go_simp; done) | (go_simp; with_reducible rfl)
                        simp only [List.getElem_toArray, List.getElem_cons_succ, List.getElem_cons_zero, Act.put, List.setIfInBounds_toArray, List.set_cons_zero, List.set_cons_succ]
                        refine wpHead_take (i := 11) (v := ?_) (by rfl) (by kernel_rfl) (by kernel_rfl) (by exact fun _ _ _ h => h) (Or.inl ⟨by rfl, ?_⟩) (by assumption) ?_
                        rotate_left
                        · intro w hSw
                          first | (go_simp; done) | (go_simp; with_reducible rfl)
                        simp only [List.getElem_toArray, List.getElem_cons_succ, List.getElem_cons_zero, Act.put, List.setIfInBounds_toArray, List.set_cons_zero, List.set_cons_succ]
                        refine wpHead_take (i := 12) (v := ?_) (by rfl) (by kernel_rfl) (by kernel_rfl) (by exact fun _ _ _ h => h) (Or.inl ⟨by rfl, ?_⟩) (by assumption) ?_
                        rotate_left
                        · intro w hSw
                          first | (go_simp; done) | (go_simp; with_reducible rfl)
                        simp only [List.getElem_toArray, List.getElem_cons_succ, List.getElem_cons_zero, Act.put, List.setIfInBounds_toArray, List.set_cons_zero, List.set_cons_succ]
                        refine wpHead_take (i := 13) (v := ?_) (by rfl) (by kernel_rfl) (by kernel_rfl) (by exact fun _ _ _ h => h) (Or.inl ⟨by rfl, ?_⟩) (by assumption) ?_
                        rotate_left
                        · intro w hSw
                          first | (go_simp; done) | (go_simp; with_reducible rfl)
                        simp only [List.getElem_toArray, List.getElem_cons_succ, List.getElem_cons_zero, Act.put, List.setIfInBounds_toArray, List.set_cons_zero, List.set_cons_succ]
                        refine wpHead_take (i := 14) (v := ?_) (by rfl) (by kernel_rfl) (by kernel_rfl) (by exact fun _ _ _ h => h) (Or.inl ⟨by rfl, ?_⟩) (by assumption) ?_
                        rotate_left
                        · intro w hSw
                          first | (go_simp; done) | (go_simp; with_reducible rfl)
                        simp only [List.getElem_toArray, List.getElem_cons_succ, List.getElem_cons_zero, Act.put, List.setIfInBounds_toArray, List.set_cons_zero, List.set_cons_succ]
                        refine wpHead_take (i := 15) (v := ?_) (by rfl) (by kernel_rfl) (by kernel_rfl) (by exact fun _ _ _ h => h) (Or.inl ⟨by rfl, ?_⟩) (by assumption) ?_
                        rotate_left
                        · intro w hSw
                          first | (go_simp; done) | (go_simp; with_reducible rfl)
                        simp only [List.getElem_toArray, List.getElem_cons_succ, List.getElem_cons_zero, Act.put, List.setIfInBounds_toArray, List.set_cons_zero, List.set_cons_succ]
                        refine wpHead_take (i := 16) (v := ?_) (by rfl) (by kernel_rfl) (by kernel_rfl) (by exact fun _ _ _ h => h) (Or.inl ⟨by rfl, ?_⟩) (by assumption) ?_
                        rotate_left
                        · intro w hSw
                          first | (go_simp; done) | (go_simp; with_reducible rfl)
                        simp only [List.getElem_toArray, List.getElem_cons_succ, List.getElem_cons_zero, Act.put, List.setIfInBounds_toArray, List.set_cons_zero, List.set_cons_succ]
                        refine wpHead_take (i := 17) (v := ?_) (by rfl) (by kernel_rfl) (by kernel_rfl) (by exact fun _ _ _ h => h) (Or.inl ⟨by rfl, ?_⟩) (by assumption) ?_
                        rotate_left
                        · intro w hSw
                          first | (go_simp; done) | (go_simp; with_reducible rfl)
                        simp only [List.getElem_toArray, List.getElem_cons_succ, List.getElem_cons_zero, Act.put, List.setIfInBounds_toArray, List.set_cons_zero, List.set_cons_succ]
                        refine wpHead_take (i := 18) (v := ?_) (by rfl) (by kernel_rfl) (by kernel_rfl) (by exact fun _ _ _ h => h) (Or.inl ⟨by rfl, ?_⟩) (by assumption) ?_
                        rotate_left
                        · intro w hSw
                          first | (go_simp; done) | (go_simp; with_reducible rfl)
                        simp only [List.getElem_toArray, List.getElem_cons_succ, List.getElem_cons_zero, Act.put, List.setIfInBounds_toArray, List.set_cons_zero, List.set_cons_succ]
                        refine wpHead_done (by kernel_rfl) ?_
                        skip
                        have HOB := Lib.hid (oneC_box (valid := uv) (b := ⟨bn, bval, bnx, bls⟩) HRT.out HBH.out)
                        go_wp2_with (first | (with_reducible refine stop_alloc 129 ?_) | (with_reducible refine stop_store 129 ?_) | (with_reducible refine stop_load 129 ?_) | (with_reducible refine stop_alloc 127 ?_) | (with_reducible refine stop_store 127 ?_) | (with_reducible refine stop_load 127 ?_))
                        refine go_on (wpList_load_row rfl 127 _ rfl wr.heap.size rfl 127 _ (0, 0) _ (Ext.obj hrowB hHeld) Try.underlying127 rfl (by kernel_rfl) ?_)
                        go_wp2_with fail
                        refine (HBC _ ((hxwb).trans hHeld)).mono ?_
                        rintro e w5 ⟨rfl, hx5⟩
                        have hx5b := Ext.trans hHeld hx5
                        clear hx5
                        by_cases hbc : boxC ⟨bn, bval, bnx, bls⟩ = 0
                        · rw [hbc]
                          have HBX := Lib.hid hbc
                          have HO2 := Lib.hid (HOB.out.trans (if_neg (by simpa using hbc)))
                          clear HOB hbc
                          by_cases hvv : uv < bval
                          · have HB2 : Hid (checkU ⟨un, uv, bs⟩ = 2) := Lib.hid (by rw [HU.out, ← HC.out, HO2.out, if_pos hvv]; rfl)
                            go_wp2
                            go_ret
                            exact ⟨by rw [HB2.out]; rfl, (hx0.trans hxwb).trans hx5b⟩
                          · have HC2 : Hid (boxesC uv (bs.drop (k' + 1 + 1)) (prevN bs (k' + 1 + 1)) (Tot.add ⟨tl_, ts, tf⟩ ⟨bn, bval, bnx, bls⟩) = boxesC uv bs none ⟨0, 0, false⟩) := Lib.hid (by rw [← HC.out, HO2.out, if_neg hvv]; simp)
                            obtain ⟨_, _, hok3, hok4⟩ := boxC_ok HBX.out
                            have HBS := fun w' hx' => HBZ w' hx' hok3 (fun l hl => (hok4 l hl).2.2.2)
                            have hszle : sizeB ⟨bn, bval, bnx, bls⟩ ≤ 19200 := by
                              have := sizeF_le bls (fun l hl => (hok4 l hl).2.2.2) bls.length (Nat.le_refl _)
                              rw [List.take_length] at this
                              have h3 : bls.length ≤ 32 := hok3
                              show sizeF 0 bls ≤ 19200
                              omega
                            have h3 : bls.length ≤ 32 := hok3
                            have HSZ : Hid (∃ z, sizeB ⟨bn, bval, bnx, bls⟩ = z) := Lib.hid ⟨_, rfl⟩
                            obtain ⟨sz, hsz⟩ := HSZ.out
                            rw [hsz] at HBS hszle
                            have HSZ2 := Lib.hid hsz
                            have e1 : IntKind.i64.wrap ((tl_ : Int) + (bls.length : Int)) = (tl_ : Int) + (bls.length : Int) := wrap64_nat (tl_ + bls.length) (by omega)
                            have e2 : IntKind.i64.wrap ((ts : Int) + (sz : Int)) = (ts : Int) + (sz : Int) := wrap64_nat (ts + sz) (by omega)
                            have HRANGE : ∀ w', Ext wb w' → w'.rangeAt wr.heap.size 0 [Value.string (st bn), .int .i64 bval, .int .i64 bnx, .slice A2 bls.length cap2] := fun w' hx' j v hj => by
                              rw [Nat.zero_add, cell_of_row w' _ j _ _ _ (hx'.obj hrowB)]
                              simpa using hj
                            have hxn5 := hx5b.drew
                            clear hok3 hok4 hsz HBZ HSZ
                            cases tf with
                            | true =>
                              go_wp2_with fail
                              refine wp_region_phase (S := fun w' => Ext wb w') 17 (by kernel_rfl) (by kernel_rfl) ?_ (fun hHeld => ?_)
                              · exact hxn5
                              simp only [List.drop_succ_cons, List.drop_zero]
                              refine name_head ?_
                              intro wr0 hw0
                              rw [hw0] at hHeld
                              refine wpHead_take (i := 0) (v := ?_) (by rfl) (by kernel_rfl) (by kernel_rfl) (by exact fun _ _ _ h => h) (Or.inl ⟨by rfl, ?_⟩) (by assumption) ?_
                              rotate_left
                              · intro w hSw
                                first | (go_simp; done) | (go_simp; with_reducible rfl)
                              simp only [List.getElem_toArray, List.getElem_cons_zero, Act.put, List.setIfInBounds_toArray, List.set_cons_zero, List.set_cons_succ]
                              refine wpHead_take (i := 1) (v := ?_) (by rfl) (by kernel_rfl) (by kernel_rfl) (by exact fun _ _ _ h => h) (Or.inl ⟨by rfl, ?_⟩) (by assumption) ?_
                              rotate_left
                              · intro w hSw
                                first | (go_simp; done) | (go_simp; with_reducible rfl)
                              simp only [List.getElem_toArray, List.getElem_cons_succ, List.getElem_cons_zero, Act.put, List.setIfInBounds_toArray, List.set_cons_zero, List.set_cons_succ]
                              refine wpHead_take (i := 2) (v := ?_) (by rfl) (by kernel_rfl) (by kernel_rfl) (by exact fun _ _ _ h => h) (Or.inl ⟨by rfl, ?_⟩) (by assumption) ?_
                              rotate_left
                              · intro w hSw
                                first | (go_simp; done) | (go_simp; with_reducible rfl)
                              simp only [List.getElem_toArray, List.getElem_cons_succ, List.getElem_cons_zero, Act.put, List.setIfInBounds_toArray, List.set_cons_zero, List.set_cons_succ]
                              refine wpHead_take (i := 3) (v := ?_) (by rfl) (by kernel_rfl) (by kernel_rfl) (by exact fun _ _ _ h => h) (Or.inl ⟨by rfl, ?_⟩) (by assumption) ?_
                              rotate_left
                              · intro w hSw
                                first | (go_simp; done) | (go_simp; with_reducible rfl)
                              simp only [List.getElem_toArray, List.getElem_cons_succ, List.getElem_cons_zero, Act.put, List.setIfInBounds_toArray, List.set_cons_zero, List.set_cons_succ]
                              refine wpHead_take (i := 4) (v := ?_) (by rfl) (by kernel_rfl) (by kernel_rfl) (by exact fun _ _ _ h => h) (Or.inl ⟨by rfl, ?_⟩) (by assumption) ?_
                              rotate_left
                              · intro w hSw
                                first | (go_simp; done) | (go_simp; with_reducible rfl)
                              simp only [List.getElem_toArray, List.getElem_cons_succ, List.getElem_cons_zero, Act.put, List.setIfInBounds_toArray, List.set_cons_zero, List.set_cons_succ]
                              refine wpHead_take (i := 5) (v := ?_) (by rfl) (by kernel_rfl) (by kernel_rfl) (by exact fun _ _ _ h => h) (Or.inl ⟨by rfl, ?_⟩) (by assumption) ?_
                              rotate_left
                              · intro w hSw
                                first | (go_simp; done) | (go_simp; with_reducible rfl)
                              simp only [List.getElem_toArray, List.getElem_cons_succ, List.getElem_cons_zero, Act.put, List.setIfInBounds_toArray, List.set_cons_zero, List.set_cons_succ]
                              refine wpHead_take (i := 6) (v := (.agg #[.string (st bn), .int .i64 bval, .int .i64 bnx, .slice A2 bls.length cap2])) (by rfl) (by kernel_rfl) (by kernel_rfl) (by exact fun _ _ _ h => h) (by exact yieldsIf_load_mid (by rfl) 127 _ rfl wr.heap.size 0 rfl [.string (st bn), .int .i64 bval, .int .i64 bnx, .slice A2 bls.length cap2] _ HRANGE Try.underlying127 rfl (by kernel_rfl)) (by assumption) ?_
                              simp only [List.getElem_toArray, List.getElem_cons_succ, List.getElem_cons_zero, Act.put, List.setIfInBounds_toArray, List.set_cons_zero, List.set_cons_succ]
                              refine wpHead_take (i := 9) (v := ?_) (by rfl) (by kernel_rfl) (by kernel_rfl) (by exact fun _ _ _ h => h) (Or.inl ⟨by rfl, ?_⟩) (by assumption) ?_
                              rotate_left
                              · intro w hSw
                                first | (go_simp; done) | (go_simp; with_reducible rfl)
                              simp only [List.getElem_toArray, List.getElem_cons_succ, List.getElem_cons_zero, Act.put, List.setIfInBounds_toArray, List.set_cons_zero, List.set_cons_succ]
                              refine wpHead_ready (rs := [7]) (by kernel_rfl) (by simp) (by kernel_rfl) ?_
                              refine AllHead.cons (by rfl) (fun K hK => ?_) ?_
                              · refine step_callG (by rfl) (by kernel_rfl) (HBS _ (hxwb.trans hHeld)) ?_
                                rintro e wr7 ⟨rfl, hx7⟩
                                refine ⟨_, rfl, ?_⟩
                                refine hK.out _ _ ?_ (fun hHeld => ?_)
                                · exact hHeld.trans hx7
                                clear hK K
                                try simp only [List.getElem_toArray, List.getElem_cons_succ, List.getElem_cons_zero, Act.put, List.setIfInBounds_toArray, List.set_cons_zero, List.set_cons_succ]
                                refine wpHead_take (i := 8) (v := ?_) (by rfl) (by kernel_rfl) (by kernel_rfl) (by exact fun _ _ _ h => h) (Or.inl ⟨by rfl, ?_⟩) (by assumption) ?_
                                rotate_left
                                · intro w hSw
                                  first | (go_simp; done) | (go_simp; with_reducible rfl)
                                simp only [List.getElem_toArray, List.getElem_cons_succ, List.getElem_cons_zero, Act.put, List.setIfInBounds_toArray, List.set_cons_zero, List.set_cons_succ]
                                refine wpHead_take (i := 10) (v := ?_) (by rfl) (by kernel_rfl) (by kernel_rfl) (by exact fun _ _ _ h => h) (Or.inl ⟨by rfl, ?_⟩) (by assumption) ?_
                                rotate_left
                                · intro w hSw
                                  first | (go_simp; done) | (go_simp; with_reducible rfl)
                                simp only [List.getElem_toArray, List.getElem_cons_succ, List.getElem_cons_zero, Act.put, List.setIfInBounds_toArray, List.set_cons_zero, List.set_cons_succ]
                                refine wpHead_take (i := 11) (v := undef) (by rfl) (by kernel_rfl) (by kernel_rfl) (by exact fun _ _ _ h => h) (Or.inr ⟨by rfl, rfl⟩) (by assumption) ?_
                                simp only [List.getElem_toArray, List.getElem_cons_succ, List.getElem_cons_zero, Act.put, List.setIfInBounds_toArray, List.set_cons_zero, List.set_cons_succ]
                                refine wpHead_take (i := 12) (v := undef) (by rfl) (by kernel_rfl) (by kernel_rfl) (by exact fun _ _ _ h => h) (Or.inr ⟨by rfl, rfl⟩) (by assumption) ?_
                                simp only [List.getElem_toArray, List.getElem_cons_succ, List.getElem_cons_zero, Act.put, List.setIfInBounds_toArray, List.set_cons_zero, List.set_cons_succ]
                                refine wpHead_take (i := 13) (v := undef) (by rfl) (by kernel_rfl) (by kernel_rfl) (by exact fun _ _ _ h => h) (Or.inr ⟨by rfl, rfl⟩) (by assumption) ?_
                                simp only [List.getElem_toArray, List.getElem_cons_succ, List.getElem_cons_zero, Act.put, List.setIfInBounds_toArray, List.set_cons_zero, List.set_cons_succ]
                                refine wpHead_take (i := 14) (v := ?_) (by rfl) (by kernel_rfl) (by kernel_rfl) (by exact fun _ _ _ h => h) (Or.inl ⟨by rfl, ?_⟩) (by assumption) ?_
                                rotate_left
                                · intro w hSw
                                  first | (go_simp; done) | (go_simp; with_reducible rfl)
                                simp only [List.getElem_toArray, List.getElem_cons_succ, List.getElem_cons_zero, Act.put, List.setIfInBounds_toArray, List.set_cons_zero, List.set_cons_succ]
                                refine wpHead_take (i := 15) (v := ?_) (by rfl) (by kernel_rfl) (by kernel_rfl) (by exact fun _ _ _ h => h) (Or.inl ⟨by rfl, ?_⟩) (by assumption) ?_
                                rotate_left
                                · intro w hSw
                                  first | (go_simp; done) | (go_simp; with_reducible rfl)
                                simp only [List.getElem_toArray, List.getElem_cons_succ, List.getElem_cons_zero, Act.put, List.setIfInBounds_toArray, List.set_cons_zero, List.set_cons_succ]
                                refine wpHead_take (i := 16) (v := ?_) (by rfl) (by kernel_rfl) (by kernel_rfl) (by exact fun _ _ _ h => h) (Or.inl ⟨by rfl, ?_⟩) (by assumption) ?_
                                rotate_left
                                · intro w hSw
                                  first | (go_simp; done) | (go_simp; with_reducible rfl)
                                simp only [List.getElem_toArray, List.getElem_cons_succ, List.getElem_cons_zero, Act.put, List.setIfInBounds_toArray, List.set_cons_zero, List.set_cons_succ]
                                refine wpHead_done (by kernel_rfl) ?_
                                go_wp2
                                go_roundw
                                case rel => exact ⟨k' + 1 + 1, Tot.add ⟨tl_, ts, true⟩ ⟨bn, bval, bnx, bls⟩, by go_num, by omega, by simp [Tot.add], by simp [Tot.add, HSZ2.out], by simp [Tot.add], by simp only [Tot.add]; omega, by simp only [Tot.add, HSZ2.out]; omega, HC2.out, hxwb.trans hHeld⟩
                                case measure => simp [intOf]; omega
                              exact AllHead.nil
                            | false =>
                              go_wp2_with fail
                              refine wp_region_phase (S := fun w' => Ext wb w') 17 (by kernel_rfl) (by kernel_rfl) ?_ (fun hHeld => ?_)
                              · exact hxn5
                              simp only [List.drop_succ_cons, List.drop_zero]
                              refine name_head ?_
                              intro wr0 hw0
                              rw [hw0] at hHeld
                              refine wpHead_take (i := 0) (v := ?_) (by rfl) (by kernel_rfl) (by kernel_rfl) (by exact fun _ _ _ h => h) (Or.inl ⟨by rfl, ?_⟩) (by assumption) ?_
                              rotate_left
                              · intro w hSw
                                first | (go_simp; done) | (go_simp; with_reducible rfl)
                              simp only [List.getElem_toArray, List.getElem_cons_zero, Act.put, List.setIfInBounds_toArray, List.set_cons_zero, List.set_cons_succ]
                              refine wpHead_take (i := 1) (v := ?_) (by rfl) (by kernel_rfl) (by kernel_rfl) (by exact fun _ _ _ h => h) (Or.inl ⟨by rfl, ?_⟩) (by assumption) ?_
                              rotate_left
                              · intro w hSw
                                first | (go_simp; done) | (go_simp; with_reducible rfl)
                              simp only [List.getElem_toArray, List.getElem_cons_succ, List.getElem_cons_zero, Act.put, List.setIfInBounds_toArray, List.set_cons_zero, List.set_cons_succ]
                              refine wpHead_take (i := 2) (v := ?_) (by rfl) (by kernel_rfl) (by kernel_rfl) (by exact fun _ _ _ h => h) (Or.inl ⟨by rfl, ?_⟩) (by assumption) ?_
                              rotate_left
                              · intro w hSw
                                first | (go_simp; done) | (go_simp; with_reducible rfl)
                              simp only [List.getElem_toArray, List.getElem_cons_succ, List.getElem_cons_zero, Act.put, List.setIfInBounds_toArray, List.set_cons_zero, List.set_cons_succ]
                              refine wpHead_take (i := 3) (v := ?_) (by rfl) (by kernel_rfl) (by kernel_rfl) (by exact fun _ _ _ h => h) (Or.inl ⟨by rfl, ?_⟩) (by assumption) ?_
                              rotate_left
                              · intro w hSw
                                first | (go_simp; done) | (go_simp; with_reducible rfl)
                              simp only [List.getElem_toArray, List.getElem_cons_succ, List.getElem_cons_zero, Act.put, List.setIfInBounds_toArray, List.set_cons_zero, List.set_cons_succ]
                              refine wpHead_take (i := 4) (v := ?_) (by rfl) (by kernel_rfl) (by kernel_rfl) (by exact fun _ _ _ h => h) (Or.inl ⟨by rfl, ?_⟩) (by assumption) ?_
                              rotate_left
                              · intro w hSw
                                first | (go_simp; done) | (go_simp; with_reducible rfl)
                              simp only [List.getElem_toArray, List.getElem_cons_succ, List.getElem_cons_zero, Act.put, List.setIfInBounds_toArray, List.set_cons_zero, List.set_cons_succ]
                              refine wpHead_take (i := 5) (v := ?_) (by rfl) (by kernel_rfl) (by kernel_rfl) (by exact fun _ _ _ h => h) (Or.inl ⟨by rfl, ?_⟩) (by assumption) ?_
                              rotate_left
                              · intro w hSw
                                first | (go_simp; done) | (go_simp; with_reducible rfl)
                              simp only [List.getElem_toArray, List.getElem_cons_succ, List.getElem_cons_zero, Act.put, List.setIfInBounds_toArray, List.set_cons_zero, List.set_cons_succ]
                              refine wpHead_take (i := 6) (v := (.agg #[.string (st bn), .int .i64 bval, .int .i64 bnx, .slice A2 bls.length cap2])) (by rfl) (by kernel_rfl) (by kernel_rfl) (by exact fun _ _ _ h => h) (by exact yieldsIf_load_mid (by rfl) 127 _ rfl wr.heap.size 0 rfl [.string (st bn), .int .i64 bval, .int .i64 bnx, .slice A2 bls.length cap2] _ HRANGE Try.underlying127 rfl (by kernel_rfl)) (by assumption) ?_
                              simp only [List.getElem_toArray, List.getElem_cons_succ, List.getElem_cons_zero, Act.put, List.setIfInBounds_toArray, List.set_cons_zero, List.set_cons_succ]
                              refine wpHead_take (i := 9) (v := ?_) (by rfl) (by kernel_rfl) (by kernel_rfl) (by exact fun _ _ _ h => h) (Or.inl ⟨by rfl, ?_⟩) (by assumption) ?_
                              rotate_left
                              · intro w hSw
                                first | (go_simp; done) | (go_simp; with_reducible rfl)
                              simp only [List.getElem_toArray, List.getElem_cons_succ, List.getElem_cons_zero, Act.put, List.setIfInBounds_toArray, List.set_cons_zero, List.set_cons_succ]
                              refine wpHead_ready (rs := [7]) (by kernel_rfl) (by simp) (by kernel_rfl) ?_
                              refine AllHead.cons (by rfl) (fun K hK => ?_) ?_
                              · refine step_callG (by rfl) (by kernel_rfl) (HBS _ (hxwb.trans hHeld)) ?_
                                rintro e wr7 ⟨rfl, hx7⟩
                                refine ⟨_, rfl, ?_⟩
                                refine hK.out _ _ ?_ (fun hHeld => ?_)
                                · exact hHeld.trans hx7
                                clear hK K
                                try simp only [List.getElem_toArray, List.getElem_cons_succ, List.getElem_cons_zero, Act.put, List.setIfInBounds_toArray, List.set_cons_zero, List.set_cons_succ]
                                refine wpHead_take (i := 8) (v := ?_) (by rfl) (by kernel_rfl) (by kernel_rfl) (by exact fun _ _ _ h => h) (Or.inl ⟨by rfl, ?_⟩) (by assumption) ?_
                                rotate_left
                                · intro w hSw
                                  first | (go_simp; done) | (go_simp; with_reducible rfl)
                                simp only [List.getElem_toArray, List.getElem_cons_succ, List.getElem_cons_zero, Act.put, List.setIfInBounds_toArray, List.set_cons_zero, List.set_cons_succ]
                                refine wpHead_take (i := 10) (v := ?_) (by rfl) (by kernel_rfl) (by kernel_rfl) (by exact fun _ _ _ h => h) (Or.inl ⟨by rfl, ?_⟩) (by assumption) ?_
                                rotate_left
                                · intro w hSw
                                  first | (go_simp; done) | (go_simp; with_reducible rfl)
                                simp only [List.getElem_toArray, List.getElem_cons_succ, List.getElem_cons_zero, Act.put, List.setIfInBounds_toArray, List.set_cons_zero, List.set_cons_succ]
                                refine wpHead_take (i := 11) (v := ?_) (by rfl) (by kernel_rfl) (by kernel_rfl) (by exact fun _ _ _ h => h) (Or.inl ⟨by rfl, ?_⟩) (by assumption) ?_
                                rotate_left
                                · intro w hSw
                                  first | (go_simp; done) | (go_simp; with_reducible rfl)
                                simp only [List.getElem_toArray, List.getElem_cons_succ, List.getElem_cons_zero, Act.put, List.setIfInBounds_toArray, List.set_cons_zero, List.set_cons_succ]
                                refine wpHead_take (i := 12) (v := ?_) (by rfl) (by kernel_rfl) (by kernel_rfl) (by exact fun _ _ _ h => h) (Or.inl ⟨by rfl, ?_⟩) (by assumption) ?_
                                rotate_left
                                · intro w hSw
                                  first | (go_simp; done) | (go_simp; with_reducible rfl)
                                simp only [List.getElem_toArray, List.getElem_cons_succ, List.getElem_cons_zero, Act.put, List.setIfInBounds_toArray, List.set_cons_zero, List.set_cons_succ]
                                refine wpHead_take (i := 13) (v := ?_) (by rfl) (by kernel_rfl) (by kernel_rfl) (by exact fun _ _ _ h => h) (Or.inl ⟨by rfl, ?_⟩) (by assumption) ?_
                                rotate_left
                                · intro w hSw
                                  first | (go_simp; done) | (go_simp; with_reducible rfl)
                                simp only [List.getElem_toArray, List.getElem_cons_succ, List.getElem_cons_zero, Act.put, List.setIfInBounds_toArray, List.set_cons_zero, List.set_cons_succ]
                                refine wpHead_take (i := 14) (v := ?_) (by rfl) (by kernel_rfl) (by kernel_rfl) (by exact fun _ _ _ h => h) (Or.inl ⟨by rfl, ?_⟩) (by assumption) ?_
                                rotate_left
                                · intro w hSw
                                  first | (go_simp; done) | (go_simp; with_reducible rfl)
                                simp only [List.getElem_toArray, List.getElem_cons_succ, List.getElem_cons_zero, Act.put, List.setIfInBounds_toArray, List.set_cons_zero, List.set_cons_succ]
                                refine wpHead_take (i := 15) (v := ?_) (by rfl) (by kernel_rfl) (by kernel_rfl) (by exact fun _ _ _ h => h) (Or.inl ⟨by rfl, ?_⟩) (by assumption) ?_
                                rotate_left
                                · intro w hSw
                                  first | (go_simp; done) | (go_simp; with_reducible rfl)
                                simp only [List.getElem_toArray, List.getElem_cons_succ, List.getElem_cons_zero, Act.put, List.setIfInBounds_toArray, List.set_cons_zero, List.set_cons_succ]
                                refine wpHead_take (i := 16) (v := ?_) (by rfl) (by kernel_rfl) (by kernel_rfl) (by exact fun _ _ _ h => h) (Or.inl ⟨by rfl, ?_⟩) (by assumption) ?_
                                rotate_left
                                · intro w hSw
                                  first | (go_simp; done) | (go_simp; with_reducible rfl)
                                simp only [List.getElem_toArray, List.getElem_cons_succ, List.getElem_cons_zero, Act.put, List.setIfInBounds_toArray, List.set_cons_zero, List.set_cons_succ]
                                refine wpHead_done (by kernel_rfl) ?_
                                go_wp2
                                go_roundw
                                case rel => exact ⟨k' + 1 + 1, Tot.add ⟨tl_, ts, false⟩ ⟨bn, bval, bnx, bls⟩, by go_num, by omega, by simp [Tot.add], by simp [Tot.add, HSZ2.out], by simp only [Tot.add, Bool.false_or]; exact congrArg Value.bool (inbox_dec bn), by simp only [Tot.add]; omega, by simp only [Tot.add, HSZ2.out]; omega, HC2.out, hxwb.trans hHeld⟩
                                case measure => simp [intOf]; omega
                              exact AllHead.nil
                        · have hbc2 : (((boxC ⟨bn, bval, bnx, bls⟩ : Nat) : Int) == 0) = false := by simpa using hbc
                          have HB2 : Hid (checkU ⟨un, uv, bs⟩ = boxC ⟨bn, bval, bnx, bls⟩) := Lib.hid (by rw [HU.out, ← HC.out, HOB.out]; simp [hbc])
                          generalize boxC ⟨bn, bval, bnx, bls⟩ = z at *
                          go_wp2
                          go_ret
                          exact ⟨by rw [HB2.out]; rfl, (hx0.trans hxwb).trans hx5b⟩
                      exact AllHead.nil
              · have hd : bs.drop k = [] := List.drop_eq_nil_of_le (by omega)
                rw [hd, boxesC] at hrun
                cases tf with
                | false =>
                  have HB : Hid (checkU ⟨un, uv, bs⟩ = 4) := Lib.hid (by rw [HU.out, ← hrun]; rfl)
                  clear hrun hd
                  go_wp2
                  go_ret
                  exact ⟨by rw [HB.out]; rfl, hx0.trans hx⟩
                | true =>
                  have HB : Hid (checkU ⟨un, uv, bs⟩ = if 40 < tl_ ∨ 1200 < ts then 8 else 0) := Lib.hid (by rw [HU.out, ← hrun]; rfl)
                  clear hrun hd
                  by_cases h40 : (40 : Int) < (tl_ : Int)
                  · have HB2 : Hid (checkU ⟨un, uv, bs⟩ = 8) := Lib.hid (by rw [HB.out, if_pos (.inl (by omega))])
                    go_wp2
                    go_ret
                    exact ⟨by rw [HB2.out]; rfl, hx0.trans hx⟩
                  · by_cases h12 : (1200 : Int) < (ts : Int)
                    · have HB2 : Hid (checkU ⟨un, uv, bs⟩ = 8) := Lib.hid (by rw [HB.out, if_pos (.inr (by omega))])
                      go_wp2
                      go_ret
                      exact ⟨by rw [HB2.out]; rfl, hx0.trans hx⟩
                    · have HB2 : Hid (checkU ⟨un, uv, bs⟩ = 0) := Lib.hid (by rw [HB.out, if_neg (by omega)])
                      go_wp2
                      go_ret
                      exact ⟨by rw [HB2.out]; rfl, hx0.trans hx⟩
end Go.Proofs.Ythlppbbejdeeoaa
