/- The walk of disk.Crash. Conditions: those of IsDk. -/
import Derived.Test.YtklodimokhndoaaChecked
import Derived.Test.YtklodimokhndoaaDk7
namespace Go.Proofs.Ytklodimokhndoaa
open Go.RowKit
def bo (l : List Bool) : List Value := l.map .bool
structure Cr where
  keep : List Bool
  torn : Int
  at_ : Int
/-- how much of a write a crash leaves -/
def cutAt (C : Cr) (k : Nat) : Nat := if (k : Int) = C.torn then (min (max C.at_ 0) 64).toNat else if C.keep.getD k false = true then 64 else 0
theorem cutAt_le (C : Cr) (k : Nat) : cutAt C k ≤ 64 := by unfold cutAt; split; omega; split <;> omega
def mix (q o : List UInt8) (n : Nat) : List UInt8 := q.take n ++ o.drop n
theorem mix_len {q o : List UInt8} (hq : q.length = 64) (ho : o.length = 64) {n : Nat} (hn : n ≤ 64) : (mix q o n).length = 64 := by simp [mix, hq, ho]; omega
def tornL (C : Cr) : Nat → List (Nat × List UInt8) → List (List UInt8) → List (List UInt8)
  | _, [], l => l
  | k, x :: ws, l => tornL C (k + 1) ws (l.set x.1 (mix x.2 (l.getD x.1 []) (cutAt C k)))
theorem tornL_snoc (C : Cr) (x : Nat × List UInt8) : ∀ (ws : List (Nat × List UInt8)) (k : Nat) (l : List (List UInt8)), tornL C k (ws ++ [x]) l = (tornL C k ws l).set x.1 (mix x.2 ((tornL C k ws l).getD x.1 []) (cutAt C (k + ws.length)))
  | [], _, _ => rfl
  | y :: ws, k, l => by
    simp only [List.cons_append, tornL, List.length_cons]
    rw [tornL_snoc C x ws, show k + 1 + ws.length = k + (ws.length + 1) by omega]
theorem tornL_len (C : Cr) : ∀ (ws : List (Nat × List UInt8)) (k : Nat) (l : List (List UInt8)), (tornL C k ws l).length = l.length
  | [], _, _ => rfl
  | x :: ws, k, l => by simp only [tornL]; rw [tornL_len C ws]; simp
theorem tornL_page (C : Cr) : ∀ (ws : List (Nat × List UInt8)) (k : Nat) (l : List (List UInt8)), (∀ q ∈ l, q.length = 64) → (∀ x ∈ ws, x.2.length = 64 ∧ x.1 < l.length) → ∀ q ∈ tornL C k ws l, q.length = 64
  | [], _, _, h, _ => h
  | x :: ws, k, l, h, h2 => by
    simp only [tornL]
    have hx := h2 x (by simp)
    refine tornL_page C ws _ _ (fun q hq => ?_) fun y hy => by simpa using h2 y (by simp [hy])
    rcases List.mem_or_eq_of_mem_set hq with hq | rfl
    · exact h q hq
    · refine mix_len hx.1 ?_ (cutAt_le _ _)
      rw [List.getD_eq_getElem?_getD, List.getElem?_eq_getElem hx.2]
      exact h _ (List.getElem_mem hx.2)
def crashed (s : Dk) (C : Cr) : Dk := ⟨tornL C 0 s.waits s.sure, [], false, 0, s.age + 1⟩
section
variable {B : List Nat} {w : World} {p g cap : Nat} {s : Dk} {v : Value}
theorem crashed_ok (hs : s.Ok) (C : Cr) : (crashed s C).Ok :=
  Dk.Ok.mk (tornL_page _ _ _ _ hs.page hs.wait) (fun x hx => absurd hx (by simp [crashed])) (by simpa [crashed, tornL_len] using hs.n1) (by simpa [crashed, tornL_len] using hs.n2)
theorem IsDk.copied (h : IsDk B w p s g cap v) (hs : ∀ q ∈ s.sure, q.length = 64) {i : Nat} (hi : i < s.sure.length) {gw n c c2 : Nat} {q : List UInt8} (hr : w.rangeAt gw 1 (bv q)) (hn : n ≤ 64) (hq : q.length = 64) (ty : Nat) :
    ∃ W, (Builtin.copy_ #[46, 46] ty #[.slice (some ⟨g, i * 64, none⟩) n c2, .slice (some ⟨gw, 1, none⟩) n c]).run Try.prog w = .ok (goInt n) W ∧ IsDk B W p ⟨s.sure.set i (mix q s.sure[i] n), s.waits, s.down, s.cut, s.age⟩ g cap v ∧ Kept [g] w W := by
  have hbs : (Try.prog.info? 5).map (·.size) = some 1 := by kernel_rfl
  have ht := h.sure_there hs hi
  have hl : (q.take n).length = n := by simp [hq]; omega
  have hrun := run_copy_cells (P := Try.prog) w 46 46 ty 5 g (i * 64) n c2 ⟨gw, 1, none⟩ n c (bv (q.take n)) Try.underlying46 hbs (by simp; omega) (fun j v hv => by
    rw [Addr.add_mid]
    rw [bv_take] at hv
    refine hr j v ?_
    rw [List.getElem?_take] at hv
    split at hv
    · exact hv
    · cases hv) (fun j hj => (ht j (by rw [bv_length, hl] at hj; omega)).1) (fun j hj => (ht j (by rw [bv_length, hl] at hj; omega)).2) (bv_one _)
  rw [bv_length, hl] at hrun
  have h2 := h.paged hs hi 0 (q.take n) (by omega)
  rw [Nat.add_zero, show splice s.sure[i] 0 (q.take n) = mix q s.sure[i] n by unfold splice mix; rw [hl]; simp] at h2
  exact ⟨_, hrun, h2.1, h2.2⟩
theorem bo_get {l : List Bool} {k : Nat} (hk : k < l.length) : (bo l)[k]? = some (.bool (l.getD k false)) := by simp [bo, List.getD, hk]
set_option maxHeartbeats 2000000 in
theorem Crash_any (w : World) (h : IsDk B w p s g cap v) (hs : s.Ok) (hm : s.waits.length ≤ 1000000) (ha : s.age ≤ 1000000) (C : Cr) (KA : Option Addr) (kc : Nat) (hK : SlM B w KA (bo C.keep)) (hkl : C.keep.length ≤ 9223372036854775807) :
    Calls Try.prog 43 #[pt p, .agg #[.slice KA C.keep.length kc, .int .i64 C.torn, .int .i64 C.at_]] w fun e w' => e = .returned (.int .i64 0) ∧ Kept B w w' ∧ IsDk B w' p (crashed s C) g cap (.slice none 0 0) := by
  have HOK := Lib.hid hs
  have hpB := h.pB
  have hgB := h.gB
  have hx0 := (Ext.refl w).alloc (.cells #[.slice KA C.keep.length kc, .int .i64 C.torn, .int .i64 C.at_] 41)
  have hF : crashed s C = ⟨tornL C 0 (s.waits.take s.waits.length) s.sure, [], false, 0, s.age + 1⟩ := by unfold crashed; rw [List.take_length]
  rw [hF]
  obtain ⟨A, c, rfl⟩ := own_form h.own2
  have h0 := h.ext hx0
  have c1 := h0.cells.2.1 _ (Ext.refl _)
  have H0 := Lib.hid h0
  have HB := Lib.hid (heap_alloc_new w (.cells #[.slice KA C.keep.length kc, .int .i64 C.torn, .int .i64 C.at_] 41))
  have HX0 := Lib.hid hx0
  have hgb : w.heap.size ∉ B := fun hm => Nat.lt_irrefl _ (h.lt _ hm)
  have HKA := Lib.hid (hK.kept (.of_ext hx0))
  clear h hs hF h0 hx0 hK
  obtain ⟨sure, ws, down, cut, age⟩ := s
  obtain ⟨keep, torn, at_⟩ := C
  simp only at *
  unfold pt at *
  go_enter Try.func43, Try.ntmps43
  go_wp2
  generalize hw0 : w.alloc (.cells #[.slice KA keep.length kc, .int .i64 torn, .int .i64 at_] 41) = w0 at *
  clear hw0
  go_loopw [15] (fun k wr => ∃ j : Nat, k = .int .i64 j ∧ j ≤ ws.length ∧ Kept B w0 wr ∧ IsDk B wr p ⟨tornL ⟨keep, torn, at_⟩ 0 (ws.take j) sure, ws, down, cut, age⟩ g cap (.slice A ws.length c)) (fun k _ => ws.length - (intOf k).toNat)
  case atStart => exact ⟨0, rfl, by omega, Kept.refl _ _, H0.out⟩
  case round =>
    obtain ⟨j, rfl, hj, hkr, hr⟩ := hrel
    have HKR := Lib.hid hkr
    have HR := Lib.hid hr
    have hok : (⟨tornL ⟨keep, torn, at_⟩ 0 (ws.take j) sure, ws, down, cut, age⟩ : Dk).Ok :=
      ⟨tornL_page _ _ _ _ HOK.out.page fun x hx => HOK.out.wait x (List.mem_of_mem_take hx), fun x hx => ⟨(HOK.out.wait x hx).1, by show x.1 < (tornL _ _ _ _).length; rw [tornL_len]; exact (HOK.out.wait x hx).2⟩, by show 1 ≤ (tornL _ _ _ _).length; rw [tornL_len]; exact HOK.out.n1, by show (tornL _ _ _ _).length ≤ 512; rw [tornL_len]; exact HOK.out.n2⟩
    have HOKJ := Lib.hid hok
    clear hkr hr hok
    by_cases hlt : j < ws.length
    · have hjn : (j : Int) < (ws.length : Int) := by omega
      obtain ⟨g2, rfl, hg2, hrw, -, hcl⟩ := HR.out.wait_at HOKJ.out (j := j) hlt
      have HW := Lib.hid hrw
      have hxl := (HOK.out.wait _ (List.getElem_mem hlt))
      have hstep : tornL ⟨keep, torn, at_⟩ 0 (ws.take (j + 1)) sure = (tornL ⟨keep, torn, at_⟩ 0 (ws.take j) sure).set (ws[j]).1 (mix (ws[j]).2 ((tornL ⟨keep, torn, at_⟩ 0 (ws.take j) sure).getD (ws[j]).1 []) (cutAt ⟨keep, torn, at_⟩ j)) := by
        rw [List.take_add_one, List.getElem?_eq_getElem hlt, Option.toList_some, tornL_snoc, Nat.zero_add, List.length_take, Nat.min_eq_left hj]
      have HST := Lib.hid hstep
      have hsl : (tornL ⟨keep, torn, at_⟩ 0 (ws.take j) sure).length = sure.length := tornL_len _ _ _ _
      have HSL := Lib.hid hsl
      clear hrw hstep hxl hsl
      simp only at HW
      have HXL := Lib.hid (HOK.out.wait _ (List.getElem_mem hlt))
      simp only at HXL
      generalize ws[j] = xx at *
      obtain ⟨xi, xp⟩ := xx
      simp only at HST HXL
      generalize tornL ⟨keep, torn, at_⟩ 0 (ws.take j) sure = sj at *
      go_wp2_with (first | (with_reducible refine stop_load61 ?_) | (with_reducible refine stop_alloc61 ?_) | (with_reducible refine stop_store61 ?_))
      refine go_on (wpList_load_mid rfl 106 _ rfl g2 (j * 65) rfl (wc (xi, xp)) _ HW.out Try.underlying106 rfl (by simpa using write_size HXL.out.1) ?_)
      go_wp2_with (first | (with_reducible refine stop_load61 ?_) | (with_reducible refine stop_alloc61 ?_) | (with_reducible refine stop_store61 ?_))
      refine go_on (wpList_alloc_ rfl rfl write_info ?_)
      go_wp2_with (first | (with_reducible refine stop_load61 ?_) | (with_reducible refine stop_alloc61 ?_) | (with_reducible refine stop_store61 ?_))
      refine go_on (wpList_store_last rfl rfl rfl rfl (write_size HXL.out.1) (by simp [wc, zpage_len, HXL.out.1]) (wc_all _) ?_)
      intro w5 hr5 hx5 hz5
      obtain ⟨d0, d1, d2⟩ := wc_range hr5
      have h5 := HR.out.ext hx5
      have hk5 := HKR.out.ext hx5
      obtain ⟨b0, b1, b2, bf⟩ := row3_at (hk5.heap HB.out hgb)
      have D0 : ∀ w', Ext w5 w' → w'.cell? ⟨wr.heap.size, 0, none⟩ = some (.int .i64 (xi : Int)) := fun w' hx => hx.cell d0
      have D1 := Lib.hid (fun w' (hx : Ext w5 w') => range_ext d1 hx)
      have C0 := h5.cells.1
      have H5 := Lib.hid h5
      have HK5 := Lib.hid hk5
      have hxi : (xi : Int) < (sj.length : Int) := by rw [HSL.out]; have := HXL.out.2; omega
      have hxi0 : xi < sj.length := by omega
      have hget : sj.getD xi [] = sj[xi] := by rw [List.getD_eq_getElem?_getD, List.getElem?_eq_getElem hxi0]; rfl
      rw [hget] at HST
      have HPO := Lib.hid (HOKJ.out.page _ (List.getElem_mem hxi0))
      clear hr5 hx5 hz5 d0 d1 d2 h5 hk5 hget
      by_cases htorn : (j : Int) = torn
      · have ht : ((j : Int) == torn) = true := by simpa using htorn
        by_cases ha0 : at_ < 0
        · have hca : cutAt ⟨keep, torn, at_⟩ j = 0 := by unfold cutAt; rw [if_pos htorn]; simp only; omega
          rw [hca] at HST
          clear htorn hca
          go_wp2_with fail
          have hxn : Ext w5 w5.drew := (Ext.refl w5).drew
          refine wp_region_phase (S := fun w' => Ext w5 w') 12 (by kernel_rfl) (by kernel_rfl) ?_ (fun hHeld => ?_)
          · exact hxn
          simp only [List.drop_succ_cons, List.drop_zero]
          refine name_head ?_
          intro wr0 hw0
          rw [hw0] at hHeld
          refine wpHead_take (i := 0) (v := ?_) (by rfl) (by kernel_rfl) (by kernel_rfl) (by exact fun _ _ _ h => h) (Or.inl ⟨by rfl, ?_⟩) (by assumption) ?_
          rotate_left
          · intro w hSw
            first | (go_simp; done) | (go_simp; with_reducible rfl)
          simp only [List.getElem_toArray, List.getElem_cons_zero, Act.put, List.setIfInBounds_toArray, List.set_cons_zero, List.set_cons_succ]
          refine wpHead_take (i := 1) (v := ?_) (by rfl) (by kernel_rfl) (by kernel_rfl) (by exact fun _ _ _ h => h) (Or.inl ⟨by rfl, ?_⟩) (by assumption) ?_
          rotate_left
          · intro w hSw
            first | (go_simp; done) | (go_simp; with_reducible rfl)
          simp only [List.getElem_toArray, List.getElem_cons_succ, List.getElem_cons_zero, Act.put, List.setIfInBounds_toArray, List.set_cons_zero, List.set_cons_succ]
          refine wpHead_take (i := 2) (v := ?_) (by rfl) (by kernel_rfl) (by kernel_rfl) (by exact fun _ _ _ h => h) (Or.inl ⟨by rfl, ?_⟩) (by assumption) ?_
          rotate_left
          · intro w hSw
            first | (go_simp; done) | (go_simp; with_reducible rfl)
          simp only [List.getElem_toArray, List.getElem_cons_succ, List.getElem_cons_zero, Act.put, List.setIfInBounds_toArray, List.set_cons_zero, List.set_cons_succ]
          refine wpHead_take (i := 3) (v := ?_) (by rfl) (by kernel_rfl) (by kernel_rfl) (by exact fun _ _ _ h => h) (Or.inl ⟨by rfl, ?_⟩) (by assumption) ?_
          rotate_left
          · intro w hSw
            first | (go_simp; done) | (go_simp; with_reducible rfl)
          simp only [List.getElem_toArray, List.getElem_cons_succ, List.getElem_cons_zero, Act.put, List.setIfInBounds_toArray, List.set_cons_zero, List.set_cons_succ]
          refine wpHead_take (i := 4) (v := ?_) (by rfl) (by kernel_rfl) (by kernel_rfl) (by exact fun _ _ _ h => h) (Or.inl ⟨by rfl, ?_⟩) (by assumption) ?_
          rotate_left
          · intro w hSw
            first | (go_simp; done) | (go_simp; with_reducible rfl)
          simp only [List.getElem_toArray, List.getElem_cons_succ, List.getElem_cons_zero, Act.put, List.setIfInBounds_toArray, List.set_cons_zero, List.set_cons_succ]
          refine wpHead_take (i := 5) (v := ?_) (by rfl) (by kernel_rfl) (by kernel_rfl) (by exact fun _ _ _ h => h) (Or.inl ⟨by rfl, ?_⟩) (by assumption) ?_
          rotate_left
          · intro w hSw
            first | (go_simp; done) | (go_simp; with_reducible rfl)
          simp only [List.getElem_toArray, List.getElem_cons_succ, List.getElem_cons_zero, Act.put, List.setIfInBounds_toArray, List.set_cons_zero, List.set_cons_succ]
          refine wpHead_take (i := 6) (v := ?_) (by rfl) (by kernel_rfl) (by kernel_rfl) (by exact fun _ _ _ h => h) (Or.inl ⟨by rfl, ?_⟩) (by assumption) ?_
          rotate_left
          · intro w hSw
            first | (go_simp; done) | (go_simp; with_reducible rfl)
          simp only [List.getElem_toArray, List.getElem_cons_succ, List.getElem_cons_zero, Act.put, List.setIfInBounds_toArray, List.set_cons_zero, List.set_cons_succ]
          refine wpHead_take (i := 7) (v := ?_) (by rfl) (by kernel_rfl) (by kernel_rfl) (by exact fun _ _ _ h => h) (Or.inl ⟨by rfl, ?_⟩) (by assumption) ?_
          rotate_left
          · intro w hSw
            first | (go_simp; done) | (go_simp; with_reducible rfl)
          simp only [List.getElem_toArray, List.getElem_cons_succ, List.getElem_cons_zero, Act.put, List.setIfInBounds_toArray, List.set_cons_zero, List.set_cons_succ]
          refine wpHead_take (i := 8) (v := ?_) (by rfl) (by kernel_rfl) (by kernel_rfl) (by exact fun _ _ _ h => h) (Or.inl ⟨by rfl, ?_⟩) (by assumption) ?_
          rotate_left
          · intro w hSw
            first | (go_simp; done) | (go_simp; with_reducible rfl)
          simp only [List.getElem_toArray, List.getElem_cons_succ, List.getElem_cons_zero, Act.put, List.setIfInBounds_toArray, List.set_cons_zero, List.set_cons_succ]
          refine wpHead_take (i := 9) (v := ?_) (by rfl) (by kernel_rfl) (by kernel_rfl) (by exact fun _ _ _ h => h) (Or.inl ⟨by rfl, ?_⟩) (by assumption) ?_
          rotate_left
          · intro w hSw
            first | (go_simp; done) | (go_simp; with_reducible rfl)
          simp only [List.getElem_toArray, List.getElem_cons_succ, List.getElem_cons_zero, Act.put, List.setIfInBounds_toArray, List.set_cons_zero, List.set_cons_succ]
          refine wpHead_take (i := 10) (v := ?_) (by rfl) (by kernel_rfl) (by kernel_rfl) (by exact fun _ _ _ h => h) (Or.inl ⟨by rfl, ?_⟩) (by assumption) ?_
          rotate_left
          · intro w hSw
            first | (go_simp; done) | (go_simp; with_reducible rfl)
          simp only [List.getElem_toArray, List.getElem_cons_succ, List.getElem_cons_zero, Act.put, List.setIfInBounds_toArray, List.set_cons_zero, List.set_cons_succ]
          refine wpHead_take (i := 11) (v := ?_) (by rfl) (by kernel_rfl) (by kernel_rfl) (by exact fun _ _ _ h => h) (Or.inl ⟨by rfl, ?_⟩) (by assumption) ?_
          rotate_left
          · intro w hSw
            first | (go_simp; done) | (go_simp; with_reducible rfl)
          simp only [List.getElem_toArray, List.getElem_cons_succ, List.getElem_cons_zero, Act.put, List.setIfInBounds_toArray, List.set_cons_zero, List.set_cons_succ]
          refine wpHead_done (by kernel_rfl) ?_
          have h0 := H5.out.ext hHeld
          obtain ⟨W, hcp, hW, hkW⟩ := h0.copied (by have := HOKJ.out.page; exact this) hxi0 (D1.out _ hHeld) (n := 0) (c := 64) (c2 := 64) (by omega) HXL.out.1 3
          have HW6 := Lib.hid hW
          have HK6 := Lib.hid ((HK5.out.ext hHeld).trans (hkW.mono (N := B) h0.sub.2))
          clear hW hkW h0
          go_wp2
          go_roundw
          case rel => exact ⟨j + 1, by go_num, by omega, HK6.out, by rw [HST.out]; exact HW6.out⟩
          case measure => simp [intOf]; omega
        · by_cases ha1 : 64 < at_
          · have hca : cutAt ⟨keep, torn, at_⟩ j = 64 := by unfold cutAt; rw [if_pos htorn]; simp only; omega
            rw [hca] at HST
            clear htorn hca
            go_wp2_with fail
            have hxn : Ext w5 w5.drew := (Ext.refl w5).drew
            refine wp_region_phase (S := fun w' => Ext w5 w') 12 (by kernel_rfl) (by kernel_rfl) ?_ (fun hHeld => ?_)
            · exact hxn
            simp only [List.drop_succ_cons, List.drop_zero]
            refine name_head ?_
            intro wr0 hw0
            rw [hw0] at hHeld
            refine wpHead_take (i := 0) (v := ?_) (by rfl) (by kernel_rfl) (by kernel_rfl) (by exact fun _ _ _ h => h) (Or.inl ⟨by rfl, ?_⟩) (by assumption) ?_
            rotate_left
            · intro w hSw
              first | (go_simp; done) | (go_simp; with_reducible rfl)
            simp only [List.getElem_toArray, List.getElem_cons_zero, Act.put, List.setIfInBounds_toArray, List.set_cons_zero, List.set_cons_succ]
            refine wpHead_take (i := 1) (v := ?_) (by rfl) (by kernel_rfl) (by kernel_rfl) (by exact fun _ _ _ h => h) (Or.inl ⟨by rfl, ?_⟩) (by assumption) ?_
            rotate_left
            · intro w hSw
              first | (go_simp; done) | (go_simp; with_reducible rfl)
            simp only [List.getElem_toArray, List.getElem_cons_succ, List.getElem_cons_zero, Act.put, List.setIfInBounds_toArray, List.set_cons_zero, List.set_cons_succ]
            refine wpHead_take (i := 2) (v := ?_) (by rfl) (by kernel_rfl) (by kernel_rfl) (by exact fun _ _ _ h => h) (Or.inl ⟨by rfl, ?_⟩) (by assumption) ?_
            rotate_left
            · intro w hSw
              first | (go_simp; done) | (go_simp; with_reducible rfl)
            simp only [List.getElem_toArray, List.getElem_cons_succ, List.getElem_cons_zero, Act.put, List.setIfInBounds_toArray, List.set_cons_zero, List.set_cons_succ]
            refine wpHead_take (i := 3) (v := ?_) (by rfl) (by kernel_rfl) (by kernel_rfl) (by exact fun _ _ _ h => h) (Or.inl ⟨by rfl, ?_⟩) (by assumption) ?_
            rotate_left
            · intro w hSw
              first | (go_simp; done) | (go_simp; with_reducible rfl)
            simp only [List.getElem_toArray, List.getElem_cons_succ, List.getElem_cons_zero, Act.put, List.setIfInBounds_toArray, List.set_cons_zero, List.set_cons_succ]
            refine wpHead_take (i := 4) (v := ?_) (by rfl) (by kernel_rfl) (by kernel_rfl) (by exact fun _ _ _ h => h) (Or.inl ⟨by rfl, ?_⟩) (by assumption) ?_
            rotate_left
            · intro w hSw
              first | (go_simp; done) | (go_simp; with_reducible rfl)
            simp only [List.getElem_toArray, List.getElem_cons_succ, List.getElem_cons_zero, Act.put, List.setIfInBounds_toArray, List.set_cons_zero, List.set_cons_succ]
            refine wpHead_take (i := 5) (v := ?_) (by rfl) (by kernel_rfl) (by kernel_rfl) (by exact fun _ _ _ h => h) (Or.inl ⟨by rfl, ?_⟩) (by assumption) ?_
            rotate_left
            · intro w hSw
              first | (go_simp; done) | (go_simp; with_reducible rfl)
            simp only [List.getElem_toArray, List.getElem_cons_succ, List.getElem_cons_zero, Act.put, List.setIfInBounds_toArray, List.set_cons_zero, List.set_cons_succ]
            refine wpHead_take (i := 6) (v := ?_) (by rfl) (by kernel_rfl) (by kernel_rfl) (by exact fun _ _ _ h => h) (Or.inl ⟨by rfl, ?_⟩) (by assumption) ?_
            rotate_left
            · intro w hSw
              first | (go_simp; done) | (go_simp; with_reducible rfl)
            simp only [List.getElem_toArray, List.getElem_cons_succ, List.getElem_cons_zero, Act.put, List.setIfInBounds_toArray, List.set_cons_zero, List.set_cons_succ]
            refine wpHead_take (i := 7) (v := ?_) (by rfl) (by kernel_rfl) (by kernel_rfl) (by exact fun _ _ _ h => h) (Or.inl ⟨by rfl, ?_⟩) (by assumption) ?_
            rotate_left
            · intro w hSw
              first | (go_simp; done) | (go_simp; with_reducible rfl)
            simp only [List.getElem_toArray, List.getElem_cons_succ, List.getElem_cons_zero, Act.put, List.setIfInBounds_toArray, List.set_cons_zero, List.set_cons_succ]
            refine wpHead_take (i := 8) (v := ?_) (by rfl) (by kernel_rfl) (by kernel_rfl) (by exact fun _ _ _ h => h) (Or.inl ⟨by rfl, ?_⟩) (by assumption) ?_
            rotate_left
            · intro w hSw
              first | (go_simp; done) | (go_simp; with_reducible rfl)
            simp only [List.getElem_toArray, List.getElem_cons_succ, List.getElem_cons_zero, Act.put, List.setIfInBounds_toArray, List.set_cons_zero, List.set_cons_succ]
            refine wpHead_take (i := 9) (v := ?_) (by rfl) (by kernel_rfl) (by kernel_rfl) (by exact fun _ _ _ h => h) (Or.inl ⟨by rfl, ?_⟩) (by assumption) ?_
            rotate_left
            · intro w hSw
              first | (go_simp; done) | (go_simp; with_reducible rfl)
            simp only [List.getElem_toArray, List.getElem_cons_succ, List.getElem_cons_zero, Act.put, List.setIfInBounds_toArray, List.set_cons_zero, List.set_cons_succ]
            refine wpHead_take (i := 10) (v := ?_) (by rfl) (by kernel_rfl) (by kernel_rfl) (by exact fun _ _ _ h => h) (Or.inl ⟨by rfl, ?_⟩) (by assumption) ?_
            rotate_left
            · intro w hSw
              first | (go_simp; done) | (go_simp; with_reducible rfl)
            simp only [List.getElem_toArray, List.getElem_cons_succ, List.getElem_cons_zero, Act.put, List.setIfInBounds_toArray, List.set_cons_zero, List.set_cons_succ]
            refine wpHead_take (i := 11) (v := ?_) (by rfl) (by kernel_rfl) (by kernel_rfl) (by exact fun _ _ _ h => h) (Or.inl ⟨by rfl, ?_⟩) (by assumption) ?_
            rotate_left
            · intro w hSw
              first | (go_simp; done) | (go_simp; with_reducible rfl)
            simp only [List.getElem_toArray, List.getElem_cons_succ, List.getElem_cons_zero, Act.put, List.setIfInBounds_toArray, List.set_cons_zero, List.set_cons_succ]
            refine wpHead_done (by kernel_rfl) ?_
            have h0 := H5.out.ext hHeld
            obtain ⟨W, hcp, hW, hkW⟩ := h0.copied (by have := HOKJ.out.page; exact this) hxi0 (D1.out _ hHeld) (n := 64) (c := 64) (c2 := 64) (by omega) HXL.out.1 3
            have HW6 := Lib.hid hW
            have HK6 := Lib.hid ((HK5.out.ext hHeld).trans (hkW.mono (N := B) h0.sub.2))
            clear hW hkW h0
            go_wp2
            go_roundw
            case rel => exact ⟨j + 1, by go_num, by omega, HK6.out, by rw [HST.out]; exact HW6.out⟩
            case measure => simp [intOf]; omega
          · obtain ⟨n, rfl⟩ : ∃ n : Nat, at_ = n := ⟨at_.toNat, by omega⟩
            have hn64 : n ≤ 64 := by omega
            have hn0 : (0 : Int) ≤ (n : Int) := by omega
            have hn1 : (n : Int) ≤ 64 := by omega
            clear ha0 ha1
            have hca : cutAt ⟨keep, torn, (n : Int)⟩ j = n := by unfold cutAt; rw [if_pos htorn]; simp only; omega
            rw [hca] at HST
            clear htorn hca
            go_wp2_with fail
            have hxn : Ext w5 w5.drew := (Ext.refl w5).drew
            refine wp_region_phase (S := fun w' => Ext w5 w') 12 (by kernel_rfl) (by kernel_rfl) ?_ (fun hHeld => ?_)
            · exact hxn
            simp only [List.drop_succ_cons, List.drop_zero]
            refine name_head ?_
            intro wr0 hw0
            rw [hw0] at hHeld
            refine wpHead_take (i := 0) (v := ?_) (by rfl) (by kernel_rfl) (by kernel_rfl) (by exact fun _ _ _ h => h) (Or.inl ⟨by rfl, ?_⟩) (by assumption) ?_
            rotate_left
            · intro w hSw
              first | (go_simp; done) | (go_simp; with_reducible rfl)
            simp only [List.getElem_toArray, List.getElem_cons_zero, Act.put, List.setIfInBounds_toArray, List.set_cons_zero, List.set_cons_succ]
            refine wpHead_take (i := 1) (v := ?_) (by rfl) (by kernel_rfl) (by kernel_rfl) (by exact fun _ _ _ h => h) (Or.inl ⟨by rfl, ?_⟩) (by assumption) ?_
            rotate_left
            · intro w hSw
              first | (go_simp; done) | (go_simp; with_reducible rfl)
            simp only [List.getElem_toArray, List.getElem_cons_succ, List.getElem_cons_zero, Act.put, List.setIfInBounds_toArray, List.set_cons_zero, List.set_cons_succ]
            refine wpHead_take (i := 2) (v := ?_) (by rfl) (by kernel_rfl) (by kernel_rfl) (by exact fun _ _ _ h => h) (Or.inl ⟨by rfl, ?_⟩) (by assumption) ?_
            rotate_left
            · intro w hSw
              first | (go_simp; done) | (go_simp; with_reducible rfl)
            simp only [List.getElem_toArray, List.getElem_cons_succ, List.getElem_cons_zero, Act.put, List.setIfInBounds_toArray, List.set_cons_zero, List.set_cons_succ]
            refine wpHead_take (i := 3) (v := ?_) (by rfl) (by kernel_rfl) (by kernel_rfl) (by exact fun _ _ _ h => h) (Or.inl ⟨by rfl, ?_⟩) (by assumption) ?_
            rotate_left
            · intro w hSw
              first | (go_simp; done) | (go_simp; with_reducible rfl)
            simp only [List.getElem_toArray, List.getElem_cons_succ, List.getElem_cons_zero, Act.put, List.setIfInBounds_toArray, List.set_cons_zero, List.set_cons_succ]
            refine wpHead_take (i := 4) (v := ?_) (by rfl) (by kernel_rfl) (by kernel_rfl) (by exact fun _ _ _ h => h) (Or.inl ⟨by rfl, ?_⟩) (by assumption) ?_
            rotate_left
            · intro w hSw
              first | (go_simp; done) | (go_simp; with_reducible rfl)
            simp only [List.getElem_toArray, List.getElem_cons_succ, List.getElem_cons_zero, Act.put, List.setIfInBounds_toArray, List.set_cons_zero, List.set_cons_succ]
            refine wpHead_take (i := 5) (v := ?_) (by rfl) (by kernel_rfl) (by kernel_rfl) (by exact fun _ _ _ h => h) (Or.inl ⟨by rfl, ?_⟩) (by assumption) ?_
            rotate_left
            · intro w hSw
              first | (go_simp; done) | (go_simp; with_reducible rfl)
            simp only [List.getElem_toArray, List.getElem_cons_succ, List.getElem_cons_zero, Act.put, List.setIfInBounds_toArray, List.set_cons_zero, List.set_cons_succ]
            refine wpHead_take (i := 6) (v := ?_) (by rfl) (by kernel_rfl) (by kernel_rfl) (by exact fun _ _ _ h => h) (Or.inl ⟨by rfl, ?_⟩) (by assumption) ?_
            rotate_left
            · intro w hSw
              first | (go_simp; done) | (go_simp; with_reducible rfl)
            simp only [List.getElem_toArray, List.getElem_cons_succ, List.getElem_cons_zero, Act.put, List.setIfInBounds_toArray, List.set_cons_zero, List.set_cons_succ]
            refine wpHead_take (i := 7) (v := ?_) (by rfl) (by kernel_rfl) (by kernel_rfl) (by exact fun _ _ _ h => h) (Or.inl ⟨by rfl, ?_⟩) (by assumption) ?_
            rotate_left
            · intro w hSw
              first | (go_simp; done) | (go_simp; with_reducible rfl)
            simp only [List.getElem_toArray, List.getElem_cons_succ, List.getElem_cons_zero, Act.put, List.setIfInBounds_toArray, List.set_cons_zero, List.set_cons_succ]
            refine wpHead_take (i := 8) (v := ?_) (by rfl) (by kernel_rfl) (by kernel_rfl) (by exact fun _ _ _ h => h) (Or.inl ⟨by rfl, ?_⟩) (by assumption) ?_
            rotate_left
            · intro w hSw
              first | (go_simp; done) | (go_simp; with_reducible rfl)
            simp only [List.getElem_toArray, List.getElem_cons_succ, List.getElem_cons_zero, Act.put, List.setIfInBounds_toArray, List.set_cons_zero, List.set_cons_succ]
            refine wpHead_take (i := 9) (v := ?_) (by rfl) (by kernel_rfl) (by kernel_rfl) (by exact fun _ _ _ h => h) (Or.inl ⟨by rfl, ?_⟩) (by assumption) ?_
            rotate_left
            · intro w hSw
              first | (go_simp; done) | (go_simp; with_reducible rfl)
            simp only [List.getElem_toArray, List.getElem_cons_succ, List.getElem_cons_zero, Act.put, List.setIfInBounds_toArray, List.set_cons_zero, List.set_cons_succ]
            refine wpHead_take (i := 10) (v := ?_) (by rfl) (by kernel_rfl) (by kernel_rfl) (by exact fun _ _ _ h => h) (Or.inl ⟨by rfl, ?_⟩) (by assumption) ?_
            rotate_left
            · intro w hSw
              first | (go_simp; done) | (go_simp; with_reducible rfl)
            simp only [List.getElem_toArray, List.getElem_cons_succ, List.getElem_cons_zero, Act.put, List.setIfInBounds_toArray, List.set_cons_zero, List.set_cons_succ]
            refine wpHead_take (i := 11) (v := ?_) (by rfl) (by kernel_rfl) (by kernel_rfl) (by exact fun _ _ _ h => h) (Or.inl ⟨by rfl, ?_⟩) (by assumption) ?_
            rotate_left
            · intro w hSw
              first | (go_simp; done) | (go_simp; with_reducible rfl)
            simp only [List.getElem_toArray, List.getElem_cons_succ, List.getElem_cons_zero, Act.put, List.setIfInBounds_toArray, List.set_cons_zero, List.set_cons_succ]
            refine wpHead_done (by kernel_rfl) ?_
            have h0 := H5.out.ext hHeld
            obtain ⟨W, hcp, hW, hkW⟩ := h0.copied (by have := HOKJ.out.page; exact this) hxi0 (D1.out _ hHeld) (n := n) (c := 64) (c2 := 64) hn64 HXL.out.1 3
            have HW6 := Lib.hid hW
            have HK6 := Lib.hid ((HK5.out.ext hHeld).trans (hkW.mono (N := B) h0.sub.2))
            clear hW hkW h0
            go_wp2
            go_roundw
            case rel => exact ⟨j + 1, by go_num, by omega, HK6.out, by rw [HST.out]; exact HW6.out⟩
            case measure => simp [intOf]; omega
      · have ht : ((j : Int) == torn) = false := by simpa using htorn
        have hnone : ∀ o : List UInt8, mix xp o 0 = o := fun o => by simp [mix]
        have hset : sj.set xi sj[xi] = sj := List.set_getElem_self hxi0
        by_cases hk : j < keep.length
        · have hkn : (j : Int) < (keep.length : Int) := by omega
          obtain ⟨ad, rfl, hab, hac⟩ := HKA.out j _ (bo_get hk)
          have hac5 := HK5.out.cell hac (by rw [addr_add_block]; exact hab)
          have hca : cutAt ⟨keep, torn, at_⟩ j = if keep.getD j false = true then 64 else 0 := by unfold cutAt; rw [if_neg htorn]
          rw [hca] at HST
          clear hac hab htorn hca
          generalize keep.getD j false = kb at *
          cases kb
          · rw [if_neg (by simp), hnone, hset] at HST
            clear hnone hset
            go_wp2
            go_roundw
            case rel => exact ⟨j + 1, by go_num, by omega, HK5.out, by rw [HST.out]; exact H5.out⟩
            case measure => simp [intOf]; omega
          · have hmx : mix xp sj[xi] 64 = xp := by unfold mix; rw [List.take_of_length_le (by rw [HXL.out.1]; exact Nat.le_refl _), List.drop_of_length_le (by rw [HPO.out]; exact Nat.le_refl _), List.append_nil]
            rw [if_pos rfl, hmx] at HST
            clear hnone hset hmx
            go_wp2_with fail
            have hxn : Ext w5 w5.drew := (Ext.refl w5).drew
            refine wp_region_phase (S := fun w' => Ext w5 w') 9 (by kernel_rfl) (by kernel_rfl) ?_ (fun hHeld => ?_)
            · exact hxn
            simp only [List.drop_succ_cons, List.drop_zero]
            refine name_head ?_
            intro wr0 hw0
            rw [hw0] at hHeld
            refine wpHead_take (i := 0) (v := ?_) (by rfl) (by kernel_rfl) (by kernel_rfl) (by exact fun _ _ _ h => h) (Or.inl ⟨by rfl, ?_⟩) (by assumption) ?_
            rotate_left
            · intro w hSw
              first | (go_simp; done) | (go_simp; with_reducible rfl)
            simp only [List.getElem_toArray, List.getElem_cons_zero, Act.put, List.setIfInBounds_toArray, List.set_cons_zero, List.set_cons_succ]
            refine wpHead_take (i := 1) (v := ?_) (by rfl) (by kernel_rfl) (by kernel_rfl) (by exact fun _ _ _ h => h) (Or.inl ⟨by rfl, ?_⟩) (by assumption) ?_
            rotate_left
            · intro w hSw
              first | (go_simp; done) | (go_simp; with_reducible rfl)
            simp only [List.getElem_toArray, List.getElem_cons_succ, List.getElem_cons_zero, Act.put, List.setIfInBounds_toArray, List.set_cons_zero, List.set_cons_succ]
            refine wpHead_take (i := 2) (v := ?_) (by rfl) (by kernel_rfl) (by kernel_rfl) (by exact fun _ _ _ h => h) (Or.inl ⟨by rfl, ?_⟩) (by assumption) ?_
            rotate_left
            · intro w hSw
              first | (go_simp; done) | (go_simp; with_reducible rfl)
            simp only [List.getElem_toArray, List.getElem_cons_succ, List.getElem_cons_zero, Act.put, List.setIfInBounds_toArray, List.set_cons_zero, List.set_cons_succ]
            refine wpHead_take (i := 3) (v := ?_) (by rfl) (by kernel_rfl) (by kernel_rfl) (by exact fun _ _ _ h => h) (Or.inl ⟨by rfl, ?_⟩) (by assumption) ?_
            rotate_left
            · intro w hSw
              first | (go_simp; done) | (go_simp; with_reducible rfl)
            simp only [List.getElem_toArray, List.getElem_cons_succ, List.getElem_cons_zero, Act.put, List.setIfInBounds_toArray, List.set_cons_zero, List.set_cons_succ]
            refine wpHead_take (i := 4) (v := ?_) (by rfl) (by kernel_rfl) (by kernel_rfl) (by exact fun _ _ _ h => h) (Or.inl ⟨by rfl, ?_⟩) (by assumption) ?_
            rotate_left
            · intro w hSw
              first | (go_simp; done) | (go_simp; with_reducible rfl)
            simp only [List.getElem_toArray, List.getElem_cons_succ, List.getElem_cons_zero, Act.put, List.setIfInBounds_toArray, List.set_cons_zero, List.set_cons_succ]
            refine wpHead_take (i := 5) (v := ?_) (by rfl) (by kernel_rfl) (by kernel_rfl) (by exact fun _ _ _ h => h) (Or.inl ⟨by rfl, ?_⟩) (by assumption) ?_
            rotate_left
            · intro w hSw
              first | (go_simp; done) | (go_simp; with_reducible rfl)
            simp only [List.getElem_toArray, List.getElem_cons_succ, List.getElem_cons_zero, Act.put, List.setIfInBounds_toArray, List.set_cons_zero, List.set_cons_succ]
            refine wpHead_take (i := 6) (v := ?_) (by rfl) (by kernel_rfl) (by kernel_rfl) (by exact fun _ _ _ h => h) (Or.inl ⟨by rfl, ?_⟩) (by assumption) ?_
            rotate_left
            · intro w hSw
              first | (go_simp; done) | (go_simp; with_reducible rfl)
            simp only [List.getElem_toArray, List.getElem_cons_succ, List.getElem_cons_zero, Act.put, List.setIfInBounds_toArray, List.set_cons_zero, List.set_cons_succ]
            refine wpHead_take (i := 7) (v := (.agg (bv xp).toArray)) (by rfl) (by kernel_rfl) (by kernel_rfl) (by exact fun _ _ _ h => h) (yieldsIf_load_mid (by rfl) 104 _ (by rfl) wr.heap.size 1 (by rfl) (bv xp) _ (fun w' hS => D1.out w' hS) Try.underlying104 rfl (by simpa using page_size HXL.out.1)) (by assumption) ?_
            simp only [List.getElem_toArray, List.getElem_cons_succ, List.getElem_cons_zero, Act.put, List.setIfInBounds_toArray, List.set_cons_zero, List.set_cons_succ]
            refine wpHead_take (i := 8) (v := ?_) (by rfl) (by kernel_rfl) (by kernel_rfl) (by exact fun _ _ _ h => h) (Or.inl ⟨by rfl, ?_⟩) (by assumption) ?_
            rotate_left
            · intro w hSw
              first | (go_simp; done) | (go_simp; with_reducible rfl)
            simp only [List.getElem_toArray, List.getElem_cons_succ, List.getElem_cons_zero, Act.put, List.setIfInBounds_toArray, List.set_cons_zero, List.set_cons_succ]
            refine wpHead_done (by kernel_rfl) ?_
            have h0 := H5.out.ext hHeld
            refine wpList_store_page rfl rfl h0 (by have := HOKJ.out.page; exact this) hxi0 HXL.out.1 rfl rfl ?_
            intro W hW hkW
            have HW6 := Lib.hid hW
            have HK6 := Lib.hid ((HK5.out.ext hHeld).trans (hkW.mono (N := B) h0.sub.2))
            clear hW hkW h0
            go_wp2
            go_roundw
            case rel => exact ⟨j + 1, by go_num, by omega, HK6.out, by rw [HST.out]; exact HW6.out⟩
            case measure => simp [intOf]; omega
        · have hkn : ¬ (j : Int) < (keep.length : Int) := by omega
          have hca : cutAt ⟨keep, torn, at_⟩ j = 0 := by
            unfold cutAt
            rw [if_neg htorn, if_neg (by simp [List.getD, hk])]
          rw [hca, hnone, hset] at HST
          clear htorn hca hnone hset
          go_wp2
          go_roundw
          case rel => exact ⟨j + 1, by go_num, by omega, HK5.out, by rw [HST.out]; exact H5.out⟩
          case measure => simp [intOf]; omega
    · have hjn : ¬ (j : Int) < (ws.length : Int) := by omega
      have hjj : j = ws.length := by omega
      rw [hjj] at HR
      have hwr : IntKind.i64.wrap ((age : Int) + 1) = (age : Int) + 1 := IntWalk.i64_in _ (by omega)
      have hcl := HR.out.cleared
      have hkq := (((Kept.refl [p] (wr.setCell ⟨p, 1, none⟩ (.slice none 0 0))).setCell (p := ⟨p, 3, none⟩) (.inl (by simp)) (.int .i64 0)).setCell (p := ⟨p, 2, none⟩) (.inl (by simp)) (.bool false)).setCell (p := ⟨p, 4, none⟩) (.inl (by simp)) (.int .i64 ((age : Int) + 1))
      have hrow := heap_setCell_same _ p 4 _ _ (.int .i64 ((age : Int) + 1)) (heap_setCell_same _ p 2 _ _ (.bool false) (heap_setCell_same _ p 3 _ _ (.int .i64 0) hcl.1.row))
      have hfin := hcl.1.turned (s' := ⟨tornL ⟨keep, torn, at_⟩ 0 (ws.take ws.length) sure, [], false, 0, age + 1⟩) hkq rfl rfl (by simpa using hrow)
      have HFIN := Lib.hid hfin
      have HK := Lib.hid ((HKR.out.trans (hcl.2.mono (N := B) HR.out.sub.1)).trans (hkq.mono (N := B) HR.out.sub.1))
      obtain ⟨c0, c1, c2, c3, c4, cf⟩ := HR.out.cells
      have c1 := c1 wr (Ext.refl _)
      have c2 := c2 wr (Ext.refl _)
      have c3 := c3 wr (Ext.refl _)
      have c4 := c4 wr (Ext.refl _)
      have cf := fun j => cf wr j (Ext.refl _)
      clear hjj hcl hkq hrow hfin c0
      go_wp2
      go_ret
      exact ⟨rfl, (Kept.of_ext HX0.out).trans HK.out, by have := HFIN.out; rw [List.take_length] at this; exact this⟩
end
end Go.Proofs.Ytklodimokhndoaa
