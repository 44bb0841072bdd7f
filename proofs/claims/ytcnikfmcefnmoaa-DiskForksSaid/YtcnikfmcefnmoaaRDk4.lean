/- The walks of the reference's Flush, New, Fork. Conditions: those of IsRf. -/
import Derived.Test.YtcnikfmcefnmoaaChecked
import Derived.Test.YtcnikfmcefnmoaaRDk3
namespace Go.Proofs.Ytcnikfmcefnmoaa
open Go.RowKit
section
variable {M : List Nat} {q : Nat} {s : Dk} {A1 A2 : Option Addr} {c1 c2 : Nat}
theorem RSet_all (w : World) (h : Rf M w q s) (hq : q ∈ M) (hM : ∀ k ∈ M, k < w.heap.size) (i : Nat) (hi : i < s.sure.length) (hn : s.sure.length ≤ 512) (x : List UInt8) :
    Calls Try.prog 37 #[pt q, .int .i64 i, .string (st x)] w fun e w' => e = .returned (.tuple #[]) ∧ Kept [q] w w' ∧ Rf M w' q ⟨s.sure.set i x, s.waits, s.down, s.cut, s.age⟩ := by
  obtain ⟨A1, c1, A2, c2, h⟩ := h
  exact RSet_any w h hq hM i hi hn x
theorem IsRf.cleared {w : World} (h : IsRf M w q s A1 c1 A2 c2) (hq : q ∈ M) : IsRf M (w.setCell ⟨q, 1, none⟩ (.slice none 0 0)) q ⟨s.sure, [], s.down, s.cut, s.age⟩ A1 c1 none 0 ∧ Kept [q] w (w.setCell ⟨q, 1, none⟩ (.slice none 0 0)) := by
  have hk : Kept [q] w (w.setCell ⟨q, 1, none⟩ (.slice none 0 0)) := (Kept.refl _ _).setCell (.inl (by simp)) _
  have hm : ∀ k ∈ [q], k ∈ M := by intro k hk; simp at hk; subst hk; exact hq
  exact ⟨⟨by simpa using heap_setCell_same w q 1 _ _ (.slice none 0 0) h.row, h.sl1.kept (hk.mono hm), SlM.nil _ _ _, h.cap1, by simp, h.max1, by omega⟩, hk⟩
set_option maxHeartbeats 2000000 in
theorem RFlush_any (w : World) (h : IsRf M w q s A1 c1 A2 c2) (hq : q ∈ M) (hM : ∀ k ∈ M, k < w.heap.size) (hs : s.Ok) (hcut : s.cut ≤ 9223372036854775807) (hm : s.waits.length ≤ 1000000) :
    Calls Try.prog 30 #[pt q] w fun e w' => e = .returned (.int .i64 (flushE s)) ∧ Kept [q] w w' ∧ Rf M w' q (flushS s) := by
  have x2 := h.cells.2.2.1 w (Ext.refl w)
  by_cases hd : s.down = true
  · have e1 : flushE s = 7 := by unfold flushE; rw [if_pos hd]
    have e2 : flushS s = s := by unfold flushS; rw [if_pos hd]
    rw [e1, e2]
    rw [hd] at x2
    have H := Lib.hid h
    clear h hs hd e1 e2
    unfold pt
    go_enter Try.func30, Try.ntmps30
    go_wp2
    go_ret
    exact ⟨rfl, Kept.refl _ _, _, _, _, _, H.out⟩
  · have hd : s.down = false := by simpa using hd
    rw [hd] at x2
    obtain ⟨e1, e2⟩ := flush_eq hd
    have HD := done_any w h hq hd hcut
    have hs1 := spent_waits s
    have hs2 := spent_sure s
    have hs3 := spent_age s
    rw [e1, e2]
    by_cases hsp : (spent s).down = true
    · rw [if_pos hsp, if_pos hsp]
      rw [hsp] at HD
      clear h hd e1 e2 hsp hs1 hs2 hs3 hs
      unfold pt at *
      go_enter Try.func30, Try.ntmps30
      go_wp2_with fail
      refine HD.mono ?_
      rintro e w1 ⟨rfl, hk, h1⟩
      have H1 := Lib.hid h1
      clear h1
      go_wp2
      go_ret
      exact ⟨rfl, hk, _, _, _, _, H1.out⟩
    · have hsp : (spent s).down = false := by simpa using hsp
      rw [hsp]
      rw [if_neg (by simp), if_neg (by simp)]
      rw [hsp] at HD
      have hfl : flushed s = ⟨laid s.sure (s.waits.take s.waits.length), [], false, (spent s).cut, s.age⟩ := by unfold flushed; rw [hsp, List.take_length]
      rw [hfl]
      have hsd : spent s = ⟨s.sure, s.waits, false, (spent s).cut, s.age⟩ := by
        have : spent s = ⟨(spent s).sure, (spent s).waits, (spent s).down, (spent s).cut, (spent s).age⟩ := rfl
        rw [this, hsp, hs1, hs2, hs3]
      have HSD := Lib.hid hsd
      have HOK := Lib.hid hs
      have HM := Lib.hid hM
      clear h hd e1 e2 hsp hs1 hs2 hs3 hsd hM hs hfl
      generalize (spent s).cut = cut1 at *
      obtain ⟨sure, ws, down, cut0, age⟩ := s
      simp only at *
      have hqm : ∀ k ∈ [q], k ∈ M := by intro k hk; simp at hk; subst hk; exact hq
      unfold pt at *
      go_enter Try.func30, Try.ntmps30
      go_wp2_with fail
      refine HD.mono ?_
      rintro e w2 ⟨rfl, hk2, h2⟩
      rw [HSD.out] at h2
      have HK2 := Lib.hid hk2
      have H2 := Lib.hid h2
      clear hk2 h2 x2
      go_wp2
      go_loopw [3] (fun k wr => ∃ j : Nat, k = .int .i64 j ∧ j ≤ ws.length ∧ Kept [q] w wr ∧ Rf M wr q ⟨laid sure (ws.take j), ws, false, cut1, age⟩) (fun k _ => ws.length - (intOf k).toNat)
      case atStart => exact ⟨0, rfl, by omega, HK2.out, _, _, _, _, H2.out⟩
      case round =>
        obtain ⟨j, rfl, hj, hkr, B1, d1, B2, d2, hr⟩ := hrel
        have x1 := hr.cells.2.1
        have HKR := Lib.hid hkr
        have HR := Lib.hid hr
        have hMr : ∀ k ∈ M, k < wr.heap.size := fun k hk => Nat.lt_of_lt_of_le (HM.out k hk) hkr.size
        have HMR := Lib.hid hMr
        clear hkr hr hMr
        by_cases hlt : j < ws.length
        · have hjn : (j : Int) < (ws.length : Int) := by omega
          obtain ⟨ad2, rfl, _, y1, y2⟩ := HR.out.wait_at (k := j) hlt
          have hxl := HOK.out.wait _ (List.getElem_mem hlt)
          have hstep : laid sure (ws.take (j + 1)) = (laid sure (ws.take j)).set (ws[j]).1 (ws[j]).2 := by
            rw [List.take_add_one, List.getElem?_eq_getElem hlt, Option.toList_some, laid_snoc]
          have HST := Lib.hid hstep
          have hll : (laid sure (ws.take j)).length = sure.length := laid_len _ _
          have HLL := Lib.hid hll
          have hn512 : (laid sure (ws.take j)).length ≤ 512 := by rw [hll]; exact HOK.out.n2
          clear hstep hll
          simp only at y1 y2 hxl
          generalize ws[j] = xx at *
          obtain ⟨xi, xp⟩ := xx
          simp only at HST y1 y2 hxl
          have hxi : xi < (laid sure (ws.take j)).length := by rw [HLL.out]; exact hxl.2
          generalize laid sure (ws.take j) = sj at *
          have HSET := fun W (hx : Ext wr W) => RSet_all W ⟨_, _, _, _, HR.out.ext hx⟩ hq (fun k hk => Nat.lt_of_lt_of_le (HMR.out k hk) hx.size) xi hxi hn512 xp
          clear hxl hn512 hxi
          unfold pt at HSET
          go_wp2_with fail
          have hxn : Ext wr wr.drew := (Ext.refl wr).drew
          refine wp_region_phase (S := fun w' => Ext wr w') 17 (by kernel_rfl) (by kernel_rfl) ?_ (fun hHeld => ?_)
          · exact hxn
          simp only [List.drop_succ_cons, List.drop_zero]
          refine name_head ?_
          intro wr0 hw0
          rw [hw0] at hHeld
          refine wpHead_take (i := 0) (v := ?_) (by rfl) (by kernel_rfl) (by kernel_rfl) (by exact fun _ _ _ h => h) (Or.inl ⟨by rfl, ?_⟩) (by assumption) ?_
          rotate_left
          · intro w hSw
            first | (go_simp; done) | (go_simp; with_reducible rfl)
          simp only [List.getElem_toArray, List.getElem_cons_zero, Act.put, List.setIfInBounds_toArray, List.set_cons_zero, List.set_cons_succ]
          refine wpHead_take (i := 1) (v := ?_) (by rfl) (by kernel_rfl) (by kernel_rfl) (by exact fun _ _ _ h => h) (Or.inl ⟨by rfl, ?_⟩) (by assumption) ?_
          rotate_left
          · intro w hSw
            first | (go_simp; done) | (go_simp; with_reducible rfl)
          simp only [List.getElem_toArray, List.getElem_cons_succ, List.getElem_cons_zero, Act.put, List.setIfInBounds_toArray, List.set_cons_zero, List.set_cons_succ]
          refine wpHead_take (i := 2) (v := ?_) (by rfl) (by kernel_rfl) (by kernel_rfl) (by exact fun _ _ _ h => h) (Or.inl ⟨by rfl, ?_⟩) (by assumption) ?_
          rotate_left
          · intro w hSw
            first | (go_simp; done) | (go_simp; with_reducible rfl)
          simp only [List.getElem_toArray, List.getElem_cons_succ, List.getElem_cons_zero, Act.put, List.setIfInBounds_toArray, List.set_cons_zero, List.set_cons_succ]
          refine wpHead_take (i := 3) (v := ?_) (by rfl) (by kernel_rfl) (by kernel_rfl) (by exact fun _ _ _ h => h) (Or.inl ⟨by rfl, ?_⟩) (by assumption) ?_
          rotate_left
          · intro w hSw
            first | (go_simp; done) | (go_simp; with_reducible rfl)
          simp only [List.getElem_toArray, List.getElem_cons_succ, List.getElem_cons_zero, Act.put, List.setIfInBounds_toArray, List.set_cons_zero, List.set_cons_succ]
          refine wpHead_take (i := 4) (v := ?_) (by rfl) (by kernel_rfl) (by kernel_rfl) (by exact fun _ _ _ h => h) (Or.inl ⟨by rfl, ?_⟩) (by assumption) ?_
          rotate_left
          · intro w hSw
            first | (go_simp; done) | (go_simp; with_reducible rfl)
          simp only [List.getElem_toArray, List.getElem_cons_succ, List.getElem_cons_zero, Act.put, List.setIfInBounds_toArray, List.set_cons_zero, List.set_cons_succ]
          refine wpHead_take (i := 5) (v := ?_) (by rfl) (by kernel_rfl) (by kernel_rfl) (by exact fun _ _ _ h => h) (Or.inl ⟨by rfl, ?_⟩) (by assumption) ?_
          rotate_left
          · intro w hSw
            first | (go_simp; done) | (go_simp; with_reducible rfl)
          simp only [List.getElem_toArray, List.getElem_cons_succ, List.getElem_cons_zero, Act.put, List.setIfInBounds_toArray, List.set_cons_zero, List.set_cons_succ]
          refine wpHead_take (i := 6) (v := ?_) (by rfl) (by kernel_rfl) (by kernel_rfl) (by exact fun _ _ _ h => h) (Or.inl ⟨by rfl, ?_⟩) (by assumption) ?_
          rotate_left
          · intro w hSw
            first | (go_simp; done) | (go_simp; with_reducible rfl)
          simp only [List.getElem_toArray, List.getElem_cons_succ, List.getElem_cons_zero, Act.put, List.setIfInBounds_toArray, List.set_cons_zero, List.set_cons_succ]
          refine wpHead_take (i := 7) (v := ?_) (by rfl) (by kernel_rfl) (by kernel_rfl) (by exact fun _ _ _ h => h) (Or.inl ⟨by rfl, ?_⟩) (by assumption) ?_
          rotate_left
          · intro w hSw
            first | (go_simp; done) | (go_simp; with_reducible rfl)
          simp only [List.getElem_toArray, List.getElem_cons_succ, List.getElem_cons_zero, Act.put, List.setIfInBounds_toArray, List.set_cons_zero, List.set_cons_succ]
          refine wpHead_take (i := 8) (v := ?_) (by rfl) (by kernel_rfl) (by kernel_rfl) (by exact fun _ _ _ h => h) (Or.inl ⟨by rfl, ?_⟩) (by assumption) ?_
          rotate_left
          · intro w hSw
            first | (go_simp; done) | (go_simp; with_reducible rfl)
          simp only [List.getElem_toArray, List.getElem_cons_succ, List.getElem_cons_zero, Act.put, List.setIfInBounds_toArray, List.set_cons_zero, List.set_cons_succ]
          refine wpHead_take (i := 9) (v := ?_) (by rfl) (by kernel_rfl) (by kernel_rfl) (by exact fun _ _ _ h => h) (Or.inl ⟨by rfl, ?_⟩) (by assumption) ?_
          rotate_left
          · intro w hSw
            first | (go_simp; done) | (go_simp; with_reducible rfl)
          simp only [List.getElem_toArray, List.getElem_cons_succ, List.getElem_cons_zero, Act.put, List.setIfInBounds_toArray, List.set_cons_zero, List.set_cons_succ]
          refine wpHead_take (i := 10) (v := ?_) (by rfl) (by kernel_rfl) (by kernel_rfl) (by exact fun _ _ _ h => h) (Or.inl ⟨by rfl, ?_⟩) (by assumption) ?_
          rotate_left
          · intro w hSw
            first | (go_simp; done) | (go_simp; with_reducible rfl)
          simp only [List.getElem_toArray, List.getElem_cons_succ, List.getElem_cons_zero, Act.put, List.setIfInBounds_toArray, List.set_cons_zero, List.set_cons_succ]
          refine wpHead_take (i := 11) (v := ?_) (by rfl) (by kernel_rfl) (by kernel_rfl) (by exact fun _ _ _ h => h) (Or.inl ⟨by rfl, ?_⟩) (by assumption) ?_
          rotate_left
          · intro w hSw
            first | (go_simp; done) | (go_simp; with_reducible rfl)
          simp only [List.getElem_toArray, List.getElem_cons_succ, List.getElem_cons_zero, Act.put, List.setIfInBounds_toArray, List.set_cons_zero, List.set_cons_succ]
          refine wpHead_take (i := 12) (v := ?_) (by rfl) (by kernel_rfl) (by kernel_rfl) (by exact fun _ _ _ h => h) (Or.inl ⟨by rfl, ?_⟩) (by assumption) ?_
          rotate_left
          · intro w hSw
            first | (go_simp; done) | (go_simp; with_reducible rfl)
          simp only [List.getElem_toArray, List.getElem_cons_succ, List.getElem_cons_zero, Act.put, List.setIfInBounds_toArray, List.set_cons_zero, List.set_cons_succ]
          refine wpHead_take (i := 13) (v := ?_) (by rfl) (by kernel_rfl) (by kernel_rfl) (by exact fun _ _ _ h => h) (Or.inl ⟨by rfl, ?_⟩) (by assumption) ?_
          rotate_left
          · intro w hSw
            first | (go_simp; done) | (go_simp; with_reducible rfl)
          simp only [List.getElem_toArray, List.getElem_cons_succ, List.getElem_cons_zero, Act.put, List.setIfInBounds_toArray, List.set_cons_zero, List.set_cons_succ]
          refine wpHead_take (i := 14) (v := ?_) (by rfl) (by kernel_rfl) (by kernel_rfl) (by exact fun _ _ _ h => h) (Or.inl ⟨by rfl, ?_⟩) (by assumption) ?_
          rotate_left
          · intro w hSw
            first | (go_simp; done) | (go_simp; with_reducible rfl)
          simp only [List.getElem_toArray, List.getElem_cons_succ, List.getElem_cons_zero, Act.put, List.setIfInBounds_toArray, List.set_cons_zero, List.set_cons_succ]
          refine wpHead_take (i := 15) (v := ?_) (by rfl) (by kernel_rfl) (by kernel_rfl) (by exact fun _ _ _ h => h) (Or.inl ⟨by rfl, ?_⟩) (by assumption) ?_
          rotate_left
          · intro w hSw
            first | (go_simp; done) | (go_simp; with_reducible rfl)
          simp only [List.getElem_toArray, List.getElem_cons_succ, List.getElem_cons_zero, Act.put, List.setIfInBounds_toArray, List.set_cons_zero, List.set_cons_succ]
          refine wpHead_take (i := 16) (v := ?_) (by rfl) (by kernel_rfl) (by kernel_rfl) (by exact fun _ _ _ h => h) (Or.inl ⟨by rfl, ?_⟩) (by assumption) ?_
          rotate_left
          · intro w hSw
            first | (go_simp; done) | (go_simp; with_reducible rfl)
          simp only [List.getElem_toArray, List.getElem_cons_succ, List.getElem_cons_zero, Act.put, List.setIfInBounds_toArray, List.set_cons_zero, List.set_cons_succ]
          refine wpHead_done (by kernel_rfl) ?_
          go_wp2_with fail
          refine (HSET _ hHeld).mono ?_
          rintro e w5 ⟨rfl, hk5, hr5⟩
          have HR5 := Lib.hid hr5
          have HK5 := Lib.hid ((HKR.out.ext hHeld).trans hk5)
          clear hk5 hr5 HSET
          go_wp2
          go_roundw
          case rel => exact ⟨j + 1, by go_num, by omega, HK5.out, by rw [HST.out]; exact HR5.out⟩
          case measure => simp [intOf]; omega
        · have hjn : ¬ (j : Int) < (ws.length : Int) := by omega
          have hjj : j = ws.length := by omega
          rw [hjj] at HR
          have hcl := HR.out.cleared hq
          have HC := Lib.hid hcl
          have x1 := x1 wr (Ext.refl _)
          have xf := fun j => HR.out.cells.2.2.2.2.2 wr j (Ext.refl _)
          clear hjj hcl
          go_wp2
          go_ret
          exact ⟨rfl, HKR.out.trans HC.out.2, _, _, _, _, by have := HC.out.1; rw [List.take_length] at this; exact this⟩
theorem RFork_any (w : World) (h : IsRf M w q s A1 c1 A2 c2) : Calls Try.prog 20 #[pt q] w fun e w' => e = .returned (pt w.heap.size) ∧ Ext w w' ∧ ∀ N, (∀ k ∈ N, k ∈ M ∨ w.heap.size ≤ k) → Rf N w' w.heap.size s := by
  obtain ⟨x0, x1, x2, x3, x4, xf⟩ := h.cells
  replace x0 := x0 w (Ext.refl w)
  replace x1 := x1 w (Ext.refl w)
  replace x2 := x2 w (Ext.refl w)
  replace x3 := x3 w (Ext.refl w)
  replace x4 := x4 w (Ext.refl w)
  have H := Lib.hid h
  clear h xf
  unfold pt
  go_enter Try.func20, Try.ntmps20
  go_wp2
  go_ret
  have hx := (Ext.refl w).alloc (.cells #[.slice A1 s.sure.length c1, .slice A2 s.waits.length c2, .bool s.down, .int .i64 s.cut, .int .i64 s.age] 69)
  refine ⟨rfl, hx, fun N hN => ⟨A1, c1, A2, c2, heap_alloc_new w _, ?_, ?_, H.out.cap1, H.out.cap2, H.out.max1, H.out.max2⟩⟩
  · exact (H.out.sl1.old hN).kept (.of_ext hx)
  · exact (H.out.sl2.old hN).kept (.of_ext hx)
end
theorem RNew_no (n : Int) (w : World) (h : n < 1 ∨ 512 < n) : Calls Try.prog 26 #[.int .i64 n] w fun e w' => e = .returned (.tuple #[.pointer none, .int .i64 2]) ∧ w' = w := by
  rcases h with h | h
  · go_enter Try.func26, Try.ntmps26
    go_wp2
    refine bodyPost_ret (v := .tuple #[.pointer none, .int .i64 2]) (by simp [results, Try.results26, go_sem]) rfl ?_
    exact ⟨rfl, rfl⟩
  · have h1 : ¬ n < 1 := by omega
    go_enter Try.func26, Try.ntmps26
    go_wp2
    refine bodyPost_ret (v := .tuple #[.pointer none, .int .i64 2]) (by simp [results, Try.results26, go_sem]) rfl ?_
    exact ⟨rfl, rfl⟩
set_option maxHeartbeats 2000000 in
theorem RNew_ok (n : Nat) (w : World) (h1 : 1 ≤ n) (h2 : n ≤ 512) : Calls Try.prog 26 #[.int .i64 n] w fun e w' => e = .returned (.tuple #[pt w.heap.size, .int .i64 0]) ∧ Ext w w' ∧ ∀ M, (∀ k ∈ M, k ≤ w.heap.size) → Rf M w' w.heap.size (newD n) := by
  have hi1 : ¬ (n : Int) < 1 := by omega
  have hi2 : ¬ (512 : Int) < (n : Int) := by omega
  have hemp := empty_any
  have hx0 := (Ext.refl w).alloc (.cells #[.slice none 0 0, .slice none 0 0, .bool false, .int .i64 0, .int .i64 0] 69)
  have hr0 := heap_alloc_new w (.cells #[.slice none 0 0, .slice none 0 0, .bool false, .int .i64 0, .int .i64 0] 69)
  have HX0 := Lib.hid hx0
  have HR0 := Lib.hid hr0
  clear hx0 hr0
  rw [show newD n = ⟨List.replicate n zpage, [], false, 0, 0⟩ from rfl]
  generalize zpage = z at *
  go_enter Try.func26, Try.ntmps26
  go_wp2
  go_loopw [5] (fun k wr => ∃ (j : Nat) (v : Value), k = .int .i64 j ∧ j ≤ n ∧ Ext w wr ∧ wr.ownsRow (w.heap.size + 1) 9 1 v j (sv (List.replicate j z)) ∧ wr.heap[w.heap.size]? = some (.cells #[v, .slice none 0 0, .bool false, .int .i64 0, .int .i64 0] 69 (0, 0))) (fun k _ => n - (intOf k).toNat)
  case atStart => exact ⟨0, .slice none 0 0, rfl, by omega, HX0.out, World.ownsRow_nil _ _ _ _, HR0.out⟩
  case round =>
    obtain ⟨j, v, rfl, hj, hx, ho, hr⟩ := hrel
    have hqlt := obj_lt hr
    have hpn : w.heap.size ∉ v.ownBlock.toList := by
      intro hm
      cases hv : v.ownBlock with
      | none => rw [hv] at hm; simp at hm
      | some j => rw [hv] at hm; simp at hm; have := (ho.lt _ hv).1; omega
    have HX := Lib.hid hx
    have HO := Lib.hid ho
    have HR := Lib.hid hr
    by_cases hlt : j < n
    · have hjn : (j : Int) < (n : Int) := by omega
      have C0 : ∀ w', Kept v.ownBlock.toList wr w' → w'.cell? ⟨w.heap.size, 0, none⟩ = some v := fun w' hk => by rw [cell_of_row w' _ 0 _ _ _ (hk.heap hr hpn)]; rfl
      have CF : ∀ w' j, Kept v.ownBlock.toList wr w' → w'.frozen? ⟨w.heap.size, j, none⟩ = false := fun w' j hk => frozen_of_row w' _ j _ _ (hk.heap hr hpn)
      have hb3 : (j + 1) * 16 ≤ 140737488355328 := by omega
      have hb4 : j + 1 ≤ 140737488355328 := by omega
      have hgr : w.heap.size + 1 ≤ wr.heap.size := hqlt
      clear hx ho hr
      go_wp2_with fail
      have hk0 : Kept v.ownBlock.toList wr wr.drew := (Kept.refl _ wr).drew
      refine wp_region_phase (S := fun w' => Kept v.ownBlock.toList wr w') 8 (by kernel_rfl) (by kernel_rfl) ?_ (fun hHeld => ?_)
      · exact hk0
      simp only [List.drop_succ_cons, List.drop_zero]
      refine name_head ?_
      intro wr0 hw0
      rw [hw0] at hHeld
      refine wpHead_take (i := 0) (v := ?_) (by rfl) (by kernel_rfl) (by kernel_rfl) (by exact fun _ _ _ h => h) (Or.inl ⟨by rfl, ?_⟩) (by assumption) ?_
      rotate_left
      · intro w hSw
        first | (go_simp; done) | (go_simp; with_reducible rfl)
      simp only [List.getElem_toArray, List.getElem_cons_zero, Act.put, List.setIfInBounds_toArray, List.set_cons_zero, List.set_cons_succ]
      refine wpHead_take (i := 1) (v := ?_) (by rfl) (by kernel_rfl) (by kernel_rfl) (by exact fun _ _ _ h => h) (Or.inl ⟨by rfl, ?_⟩) (by assumption) ?_
      rotate_left
      · intro w hSw
        first | (go_simp; done) | (go_simp; with_reducible rfl)
      simp only [List.getElem_toArray, List.getElem_cons_succ, List.getElem_cons_zero, Act.put, List.setIfInBounds_toArray, List.set_cons_zero, List.set_cons_succ]
      refine wpHead_take (i := 2) (v := ?_) (by rfl) (by kernel_rfl) (by kernel_rfl) (by exact fun _ _ _ h => h) (Or.inl ⟨by rfl, ?_⟩) (by assumption) ?_
      rotate_left
      · intro w hSw
        first | (go_simp; done) | (go_simp; with_reducible rfl)
      simp only [List.getElem_toArray, List.getElem_cons_succ, List.getElem_cons_zero, Act.put, List.setIfInBounds_toArray, List.set_cons_zero, List.set_cons_succ]
      refine wpHead_take (i := 3) (v := ?_) (by rfl) (by kernel_rfl) (by kernel_rfl) (by exact fun _ _ _ h => h) (Or.inl ⟨by rfl, ?_⟩) (by assumption) ?_
      rotate_left
      · intro w hSw
        first | (go_simp; done) | (go_simp; with_reducible rfl)
      simp only [List.getElem_toArray, List.getElem_cons_succ, List.getElem_cons_zero, Act.put, List.setIfInBounds_toArray, List.set_cons_zero, List.set_cons_succ]
      refine wpHead_take (i := 4) (v := ?_) (by rfl) (by kernel_rfl) (by kernel_rfl) (by exact fun _ _ _ h => h) (Or.inl ⟨by rfl, ?_⟩) (by assumption) ?_
      rotate_left
      · intro w hSw
        first | (go_simp; done) | (go_simp; with_reducible rfl)
      simp only [List.getElem_toArray, List.getElem_cons_succ, List.getElem_cons_zero, Act.put, List.setIfInBounds_toArray, List.set_cons_zero, List.set_cons_succ]
      refine wpHead_ready (rs := [5]) (by kernel_rfl) (by simp) (by kernel_rfl) ?_
      refine AllHead.cons (by rfl) (fun K hK => ?_) ?_
      · refine step_call (by rfl) (by kernel_rfl) (hemp _) ?_
        rintro e wr5 ⟨rfl, hx5⟩
        refine ⟨_, rfl, ?_⟩
        have ho5 : wr5.ownsRow (w.heap.size + 1) 9 1 v j (sv (List.replicate j z)) := owns_ext (by rw [← hw0]; exact HO.out) hx5
        refine hK.out _ _ ?_ (fun hHeld => ?_)
        · exact Kept.ext hHeld hx5
        clear hK K
        try simp only [List.getElem_toArray, List.getElem_cons_succ, List.getElem_cons_zero, Act.put, List.setIfInBounds_toArray, List.set_cons_zero, List.set_cons_succ]
        refine wpHead_ready (rs := [6]) (by kernel_rfl) (by simp) (by kernel_rfl) ?_
        refine AllHead.cons (by rfl) (fun K hK => ?_) ?_
        · go_simp
          refine name_world ?_
          rintro wr6 hw6
          have hxn6 : Ext wr5 wr6 := hw6 ▸ (Ext.refl _).alloc _
          have hrow6 : wr6.heap[wr5.heap.size]? = some (.cells #[.string (st z)] 9) := hw6 ▸ heap_alloc_new wr5 _
          have hs6 : Sl wr6 (some ⟨wr5.heap.size, 0, none⟩) [.string (st z)] := Sl.of_row hrow6
          have ho6 := owns_ext ho5 hxn6
          refine hK.out _ _ ?_ (fun hHeld => ?_)
          · exact Kept.ext hHeld hxn6
          clear hK K
          try simp only [List.getElem_toArray, List.getElem_cons_succ, List.getElem_cons_zero, Act.put, List.setIfInBounds_toArray, List.set_cons_zero, List.set_cons_succ]
          refine wpHead_ready (rs := [7]) (by kernel_rfl) (by simp) (by kernel_rfl) ?_
          refine AllHead.cons (by rfl) (fun K hK => ?_) ?_
          · refine step_ap strT ho6 hs6 (by rfl) (by rfl) (by rfl) (by rfl) (by rfl) (by simp [Value.oneCell']) hb3 hb4 (by have := hHeld.size; omega) ?_
            rintro v7 wr7 ho7 hg7 hor7
            have hk7 : Kept v.ownBlock.toList wr wr7 := hHeld.grown hg7 (fun k hk => .inl (by simp [hk]))
            refine hK.out _ _ ?_ (fun hHeld => ?_)
            · exact hk7
            clear hK K
            try simp only [List.getElem_toArray, List.getElem_cons_succ, List.getElem_cons_zero, Act.put, List.setIfInBounds_toArray, List.set_cons_zero, List.set_cons_succ]
            refine wpHead_done (by kernel_rfl) ?_
            obtain ⟨g7, n7, rfl, hgb7, hgl7, hgc7, hgm7⟩ := own_some ho7 (by omega)
            have c7 := C0 wr7 hk7
            have cf7 := fun j => CF wr7 j hk7
            have hx7 : Ext w wr7 := HX.out.kept hk7 (by
              intro k hm
              cases hv : v.ownBlock with
              | none => rw [hv] at hm; simp at hm
              | some i => rw [hv] at hm; simp at hm; subst hm; have := (HO.out.lt _ hv).1; omega)
            have e7 : sv (List.replicate j z) ++ [.string (st z)] = sv (List.replicate (j + 1) z) := by simp [sv, List.replicate_succ']
            rw [e7] at ho7
            have hs1 : wr7.grownBy (wr7.setCell ⟨w.heap.size, 0, none⟩ (.slice (some ⟨g7, 0, none⟩) (j + 1) n7)) (some w.heap.size) := ⟨rfl, rfl, rfl, by simp, fun k _ hk => heap_setCell_other wr7 ⟨w.heap.size, 0, none⟩ k _ (fun e => hk (by simp [e]))⟩
            have ho8 := ho7.kept hs1 (.inr (by simp [Value.ownBlock]; omega))
            have hr8 := heap_setCell_same wr7 w.heap.size 0 _ _ (.slice (some ⟨g7, 0, none⟩) (j + 1) n7) (hk7.heap HR.out hpn)
            have HX8 := Lib.hid (Ext.setCell hx7 (p := ⟨w.heap.size, 0, none⟩) (Nat.le_refl _) (.slice (some ⟨g7, 0, none⟩) (j + 1) n7))
            have HO8 := Lib.hid ho8
            have HR8 := Lib.hid hr8
            clear ho7 ho8 hr8 hs1 e7 hg7 hor7 C0 CF hs6 ho6 ho5
            go_wp2
            go_roundw
            case rel => exact ⟨j + 1, _, by go_num, by omega, HX8.out, HO8.out, by simpa using HR8.out⟩
            case measure => simp [intOf]; omega
          exact AllHead.nil
        exact AllHead.nil
      exact AllHead.nil
    · have hjn : ¬ (j : Int) < (n : Int) := by omega
      obtain rfl : j = n := by omega
      clear hx ho hr
      go_wp2
      refine bodyPost_ret (v := .tuple #[pt w.heap.size, .int .i64 0]) (by simp [results, Try.results26, go_sem, pt]) rfl ?_
      refine ⟨rfl, HX.out, fun M hM => ?_⟩
      obtain ⟨g7, n7, rfl, hgb7, hgl7, hgc7, hgm7⟩ := own_some HO.out (by omega)
      exact ⟨_, _, none, 0, by simpa using HR.out, SlM.own HO.out rfl (fun k hk => Nat.lt_succ_of_le (hM k hk)), SlM.nil _ _ _, by simpa using hgc7, by simp, hgm7, by omega⟩
end Go.Proofs.Ytcnikfmcefnmoaa
