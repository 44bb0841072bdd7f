/- The walks of the reference's set and Write. Conditions: those of IsRf. -/
import Derived.Test.YtcnikfmcefnmoaaChecked
import Derived.Test.YtcnikfmcefnmoaaDk13
import Derived.Test.YtcnikfmcefnmoaaPhase
import Derived.Test.YtcnikfmcefnmoaaRDk2
namespace Go.Proofs.Ytcnikfmcefnmoaa
open Go.RowKit
section
variable {P : Program} {ops : Array Oper} {Q : Exit → Act → World → Prop} {a : Act} {w : World} {K : Act → World → Prop} {E : Prop}
/-- a call, by its contract, as one step of a region that draws -/
theorem step_call {o : Oper} {f : Nat} {args : Array Value} {R : Ending → World → Prop} (hgd : o.guard = none) (hrun : (execOp a.eval o).run P w = .ok (.enter f args) w) (hc : Calls P f args w R)
    (h : ∀ e w'', R e w'' → ∃ v, e = .returned v ∧ K (a.put o.dst v) w'') : if Region.wanted o (yielded ops a.tmps) = true then Oper.wp P o a w K Q else E := by
  have hw : Region.wanted o (yielded ops a.tmps) = true := by simp [Region.wanted, hgd]
  rw [if_pos hw]
  unfold Oper.wp
  rw [hrun, Oper.upon_enter]
  refine hc.mono fun e w'' hh => ?_
  obtain ⟨v, rfl, hk⟩ := h e w'' hh
  exact hk
end
theorem ex_st (s : ByteArray) (a b : Nat) : s.extract a b = st (((tl s).take b).drop a) := by
  apply ByteArray.ext
  simp only [st, tl, ByteArray.data_extract]
  apply Array.toList_inj.1
  simp [Array.toList_extract, List.drop_take]
theorem own_some {w : World} {base e s n : Nat} {v : Value} {xs : List Value} (h : w.ownsRow base e s v n xs) (hn : 0 < n) : ∃ g cap, v = .slice (some ⟨g, 0, none⟩) n cap ∧ base ≤ g ∧ g < w.heap.size ∧ n ≤ cap ∧ cap ≤ 9223372036854775807 := by
  rcases h.2 with ⟨_, h0⟩ | ⟨g, cap, cur, e1, hb, hg, hc, hm, _⟩
  · omega
  · exact ⟨g, cap, e1, hb, obj_lt hg, hc, hm⟩
section
variable {M : List Nat} {q : Nat} {s : Dk} {A1 A2 : Option Addr} {c1 c2 : Nat}
theorem RSet_any (w : World) (h : IsRf M w q s A1 c1 A2 c2) (hq : q ∈ M) (hM : ∀ k ∈ M, k < w.heap.size) (i : Nat) (hi : i < s.sure.length) (hn : s.sure.length ≤ 512) (x : List UInt8) :
    Calls Try.prog 37 #[pt q, .int .i64 i, .string (st x)] w fun e w' => e = .returned (.tuple #[]) ∧ Kept [q] w w' ∧ Rf M w' q ⟨s.sure.set i x, s.waits, s.down, s.cut, s.age⟩ := by
  have hx0 := (Ext.refl w).alloc (.cells #[] 9)
  have c0 := h.cells.1 _ hx0
  have ho0 := World.ownsRow_made (base := w.heap.size) (e := 9) (size := 1) w #[] 0 (Nat.le_refl _) (by simp [maxLen]) rfl
  have hs0 := (h.sl1.sl).ext hx0
  have H := Lib.hid h
  have HX0 := Lib.hid hx0
  have HM := Lib.hid hM
  have hqlt := h.lt
  have hii : (i : Int) < (s.sure.length : Int) := by omega
  clear h hM hx0
  unfold pt
  go_enter Try.func37, Try.ntmps37
  go_wp2_with (at_builtin; refine unstop ?_)
  refine go_on (wpList_app strT ho0 hs0 rfl rfl rfl rfl (by simp) (sv_one _) (by omega) (by omega) (by simp) ?_)
  rintro v w2 ho2 hg2 -
  simp only [Nat.zero_add, List.nil_append] at ho2
  obtain ⟨g, cap, rfl, hgb, hgl, hgc, hgm⟩ := own_some ho2 (by omega)
  have hx2 : Ext w w2 := Ext.own HX0.out ho0 (Nat.le_refl _) hg2
  have hgq : g ≠ q := by omega
  have cg : w2.cell? ⟨g, i, none⟩ = some (.string (st s.sure[i])) := by rw [ho2.cellAt i (by omega)]; simp [sv, hi]
  have fg := ho2.frozenAt i
  have hst := (ho2.stored i (.string (st x))).1
  have hk3 := (Kept.of_ext (M := [q]) hx2).setCell (p := ⟨g, i, none⟩) (.inr hgb) (.string (st x))
  have hx3 := Ext.setCell hx2 (p := ⟨g, i, none⟩) hgb (.string (st x))
  have c3 := H.out.cells.1 _ hx3
  have f3 := H.out.cells.2.2.2.2.2 _ 0 hx3
  have hkq := hk3.setCell (p := ⟨q, 0, none⟩) (.inl (by simp)) (.slice (some ⟨g, 0, none⟩) s.sure.length cap)
  have hrow := heap_setCell_same _ q 0 _ _ (.slice (some ⟨g, 0, none⟩) s.sure.length cap) (hx3.obj H.out.row)
  have hkM : Kept M (w2.setCell ⟨g, i, none⟩ (.string (st x))) ((w2.setCell ⟨g, i, none⟩ (.string (st x))).setCell ⟨q, 0, none⟩ (.slice (some ⟨g, 0, none⟩) s.sure.length cap)) := (Kept.refl M _).setCell (p := ⟨q, 0, none⟩) (.inl hq) _
  have hsv : (sv s.sure).set i (.string (st x)) = sv (s.sure.set i x) := by simp [sv, List.map_set]
  rw [hsv] at hst
  have hsl : SlM M (w2.setCell ⟨g, i, none⟩ (.string (st x))) (some ⟨g, 0, none⟩) (sv (s.sure.set i x)) := SlM.own hst rfl HM.out
  have hfin : IsRf M ((w2.setCell ⟨g, i, none⟩ (.string (st x))).setCell ⟨q, 0, none⟩ (.slice (some ⟨g, 0, none⟩) s.sure.length cap)) q ⟨s.sure.set i x, s.waits, s.down, s.cut, s.age⟩ (some ⟨g, 0, none⟩) cap A2 c2 :=
    ⟨by simpa using hrow, hsl.kept hkM, ((H.out.ext hx3).sl2).kept hkM, by simpa using hgc, H.out.cap2, hgm, H.out.max2⟩
  have HF := Lib.hid hfin
  have HK := Lib.hid hkq
  clear hfin hkq hrow hkM hsv hsl hst ho2 ho0 hs0 hg2 hk3
  go_wp2
  exact bodyPost_end (results_none rfl _ _ _) rfl ⟨rfl, HK.out, _, _, _, _, HF.out⟩
theorem RWrite_no (w : World) (h : IsRf M w q s A1 c1 A2 c2) (i : Int) (A : Option Addr) (c : Nat) (l : List UInt8) (hn : wrongE s i true ≠ 0 ∨ 64 < l.length) : Calls Try.prog 29 #[pt q, .int .i64 i, .slice A l.length c] w fun e w' => e = .returned (.int .i64 (writeE s i l)) ∧ Ext w w' := by
  have x0 := h.cells.1 w (Ext.refl w)
  have x2 := h.cells.2.2.1 w (Ext.refl w)
  clear h
  obtain ⟨sure, waits, down, cut, age⟩ := s
  simp only at x0 x2
  unfold pt
  cases down
  · by_cases hi0 : i < 0
    · have hE : Hid (writeE ⟨sure, waits, false, cut, age⟩ i l = 2) := Lib.hid (by
        have hw : wrongE ⟨sure, waits, false, cut, age⟩ i true = 2 := by unfold wrongE; rw [if_neg (by simp), if_neg (by omega)]
        unfold writeE; rw [hw, if_pos (by simp)])
      rw [hE.out]
      clear hn hE
      go_enter Try.func29, Try.ntmps29
      go_wp2
      go_ret
      exact ⟨rfl, Ext.refl _⟩
    · by_cases hi1 : i < (sure.length : Int)
      · have hw : wrongE ⟨sure, waits, false, cut, age⟩ i true = 0 := by unfold wrongE; rw [if_neg (by simp), if_pos (by simp only; omega)]
        have hl : 64 < l.length := by
          rcases hn with h | h
          · exact absurd hw h
          · exact h
        have hl' : (64 : Int) < (l.length : Int) := by omega
        have hE : writeE ⟨sure, waits, false, cut, age⟩ i l = 6 := by unfold writeE; rw [hw, if_neg (by simp), if_pos hl]
        rw [hE]
        clear hn hE hl hw
        go_enter Try.func29, Try.ntmps29
        go_wp2
        go_ret
        exact ⟨rfl, Ext.refl _⟩
      · have hE : Hid (writeE ⟨sure, waits, false, cut, age⟩ i l = 2) := Lib.hid (by
          have hw : wrongE ⟨sure, waits, false, cut, age⟩ i true = 2 := by unfold wrongE; rw [if_neg (by simp), if_neg (by simp only; omega)]
          unfold writeE; rw [hw, if_pos (by simp)])
        rw [hE.out]
        clear hn hE
        go_enter Try.func29, Try.ntmps29
        go_wp2
        go_ret
        exact ⟨rfl, Ext.refl _⟩
  · have hE : Hid (writeE ⟨sure, waits, true, cut, age⟩ i l = 7) := Lib.hid (by
      have hw : wrongE ⟨sure, waits, true, cut, age⟩ i true = 7 := by unfold wrongE; rw [if_pos ⟨rfl, rfl⟩]
      unfold writeE; rw [hw, if_pos (by simp)])
    rw [hE.out]
    clear hn hE
    go_enter Try.func29, Try.ntmps29
    go_wp2
    go_ret
    exact ⟨rfl, Ext.refl _⟩
set_option maxHeartbeats 4000000 in
theorem RWrite_ok (w : World) (h : IsRf M w q s A1 c1 A2 c2) (hq : q ∈ M) (hM : ∀ k ∈ M, k < w.heap.size) (hcut : s.cut ≤ 9223372036854775807) (hm : s.waits.length ≤ 1000000) (i : Nat) (A : Option Addr) (c : Nat) (l : List UInt8) (hw : wrongE s i true = 0) (hl : l.length ≤ 64) (hb : BsM M w A l) :
    Calls Try.prog 29 #[pt q, .int .i64 i, .slice A l.length c] w fun e w' => e = .returned (.int .i64 (writeE s i l)) ∧ Kept [q] w w' ∧ Rf M w' q (writeS s i l) := by
  obtain ⟨hd, hi0, hi1⟩ := wrong_in hw
  have hd := hd rfl
  obtain ⟨e1, e2⟩ := write_eq hw hl
  have x0 := h.cells.1 w (Ext.refl w)
  have x2 := h.cells.2.2.1 w (Ext.refl w)
  rw [hd] at x2
  have HD := done_any w h hq hd hcut
  have hll : ¬ (64 : Int) < (l.length : Int) := by omega
  have hs1 := spent_waits s
  have hs2 := spent_sure s
  have hs3 := spent_age s
  rw [e1, e2]
  by_cases hsp : (spent s).down = true
  · rw [if_pos hsp, if_pos hsp]
    rw [hsp] at HD
    clear h hd e1 e2 hw hsp hs1 hs2 hs3
    unfold pt at *
    go_enter Try.func29, Try.ntmps29
    go_wp2_with fail
    refine HD.mono ?_
    rintro e w1 ⟨rfl, hk, h1⟩
    have H1 := Lib.hid h1
    clear h1
    go_wp2
    go_ret
    exact ⟨rfl, hk, _, _, _, _, H1.out⟩
  · have hsp : (spent s).down = false := by simpa using hsp
    rw [hsp]
    rw [if_neg (by simp), if_neg (by simp)]
    rw [hsp] at HD
    have hwr : wrote s (i : Int).toNat l = ⟨(spent s).sure, (spent s).waits ++ [(i, padL l)], false, (spent s).cut, (spent s).age⟩ := by unfold wrote; rw [hsp, Int.toNat_natCast]
    have hlz : (l.length : Int) ≤ (zpage.length : Int) := by rw [zpage_len]; omega
    have hex : (st zpage).extract l.length zpage.length = st (zpage.drop l.length) := by rw [ex_st, tl_st, List.take_length]
    have hzd : (zpage.drop l.length).length ≤ 64 := by rw [List.length_drop, zpage_len]; omega
    rw [show padL l = l ++ zpage.drop l.length from rfl] at hwr
    rw [hwr]
    have hemp := empty_any
    have hsd : spent s = ⟨(spent s).sure, (spent s).waits, false, (spent s).cut, (spent s).age⟩ := by rw [← hsp]
    have HSD := Lib.hid hsd
    have HB := Lib.hid hb
    have HM := Lib.hid hM
    have HML : (spent s).waits.length ≤ 1000000 := by rw [hs1]; exact hm
    clear h hd e1 e2 hw hsp hs1 hs2 hs3 hwr hsd hb hM
    generalize zpage.drop l.length = zd at *
    generalize zpage = z at *
    generalize (spent s).sure = sure1 at *
    generalize (spent s).waits = ws at *
    generalize (spent s).cut = cut1 at *
    generalize (spent s).age = age1 at *
    unfold pt at *
    go_enter Try.func29, Try.ntmps29
    go_wp2_with fail
    refine HD.mono ?_
    rintro e w2 ⟨rfl, hk2, h2⟩
    rw [HSD.out] at h2
    have hgr : w.heap.size ≤ w2.heap.size := hk2.size
    have hqlt := h2.lt
    have X1 := h2.cells.2.1
    have XF := h2.cells.2.2.2.2.2
    have HSL2 := Lib.hid (fun w' (hx : Ext w2 w') => h2.sl2.sl.ext hx)
    have H2 := Lib.hid h2
    have HK2 := Lib.hid hk2
    have hb2 : Bs w2 A l := BsM.bs (BsM.kept HB.out (hk2.mono (by intro k hk; simp at hk; subst hk; exact hq)))
    have hcv := run_str (P := Try.prog) Try.underlying22 Try.underlying5 Try.underlying9 hb2 l.length c rfl
    clear hk2 HB h2 x0 x2
    have hcc : ¬ 9223372036854775807 < l.length + zd.length := by omega
    have hb1 : (0 + ws.length) * 24 ≤ 140737488355328 := by omega
    have hb2' : 0 + ws.length ≤ 140737488355328 := by omega
    have hb3 : (ws.length + 1) * 24 ≤ 140737488355328 := by omega
    have hb4 : ws.length + 1 ≤ 140737488355328 := by omega
    have HLL := Lib.hid (lws_len ws)
    have HL1 := Lib.hid (lws_one ws)
    go_wp2_with fail
    have hxn : Ext w2 w2.drew := (Ext.refl w2).drew
    refine wp_region_phase (S := fun w' => Ext w2 w') 18 (by kernel_rfl) (by kernel_rfl) ?_ (fun hHeld => ?_)
    · exact hxn
    simp only [List.drop_succ_cons, List.drop_zero]
    refine name_head ?_
    intro wr0 hw0
    rw [hw0] at hHeld
    refine wpHead_take (i := 0) (v := ?_) (by rfl) (by kernel_rfl) (by kernel_rfl) (by exact fun _ _ _ h => h) (Or.inl ⟨by rfl, ?_⟩) (by assumption) ?_
    rotate_left
    · intro w hSw
      first | (go_simp; done) | (go_simp; with_reducible rfl)
    simp only [List.getElem_toArray, List.getElem_cons_zero, Act.put, List.setIfInBounds_toArray, List.set_cons_zero, List.set_cons_succ]
    refine wpHead_take (i := 2) (v := ?_) (by rfl) (by kernel_rfl) (by kernel_rfl) (by exact fun _ _ _ h => h) (Or.inl ⟨by rfl, ?_⟩) (by assumption) ?_
    rotate_left
    · intro w hSw
      first | (go_simp; done) | (go_simp; with_reducible rfl)
    simp only [List.getElem_toArray, List.getElem_cons_succ, List.getElem_cons_zero, Act.put, List.setIfInBounds_toArray, List.set_cons_zero, List.set_cons_succ]
    refine wpHead_take (i := 3) (v := ?_) (by rfl) (by kernel_rfl) (by kernel_rfl) (by exact fun _ _ _ h => h) (Or.inl ⟨by rfl, ?_⟩) (by assumption) ?_
    rotate_left
    · intro w hSw
      first | (go_simp; done) | (go_simp; with_reducible rfl)
    simp only [List.getElem_toArray, List.getElem_cons_succ, List.getElem_cons_zero, Act.put, List.setIfInBounds_toArray, List.set_cons_zero, List.set_cons_succ]
    refine wpHead_take (i := 4) (v := ?_) (by rfl) (by kernel_rfl) (by kernel_rfl) (by exact fun _ _ _ h => h) (Or.inl ⟨by rfl, ?_⟩) (by assumption) ?_
    rotate_left
    · intro w hSw
      first | (go_simp; done) | (go_simp; with_reducible rfl)
    simp only [List.getElem_toArray, List.getElem_cons_succ, List.getElem_cons_zero, Act.put, List.setIfInBounds_toArray, List.set_cons_zero, List.set_cons_succ]
    refine wpHead_take (i := 5) (v := ?_) (by rfl) (by kernel_rfl) (by kernel_rfl) (by exact fun _ _ _ h => h) (Or.inl ⟨by rfl, ?_⟩) (by assumption) ?_
    rotate_left
    · intro w hSw
      first | (go_simp; done) | (go_simp; with_reducible rfl)
    simp only [List.getElem_toArray, List.getElem_cons_succ, List.getElem_cons_zero, Act.put, List.setIfInBounds_toArray, List.set_cons_zero, List.set_cons_succ]
    refine wpHead_take (i := 7) (v := ?_) (by rfl) (by kernel_rfl) (by kernel_rfl) (by exact fun _ _ _ h => h) (Or.inl ⟨by rfl, ?_⟩) (by assumption) ?_
    rotate_left
    · intro w hSw
      first | (go_simp; done) | (go_simp; with_reducible rfl)
    simp only [List.getElem_toArray, List.getElem_cons_succ, List.getElem_cons_zero, Act.put, List.setIfInBounds_toArray, List.set_cons_zero, List.set_cons_succ]
    refine wpHead_take (i := 8) (v := ?_) (by rfl) (by kernel_rfl) (by kernel_rfl) (by exact fun _ _ _ h => h) (Or.inl ⟨by rfl, ?_⟩) (by assumption) ?_
    rotate_left
    · intro w hSw
      first | (go_simp; done) | (go_simp; with_reducible rfl)
    simp only [List.getElem_toArray, List.getElem_cons_succ, List.getElem_cons_zero, Act.put, List.setIfInBounds_toArray, List.set_cons_zero, List.set_cons_succ]
    refine wpHead_take (i := 9) (v := ?_) (by rfl) (by kernel_rfl) (by kernel_rfl) (by exact fun _ _ _ h => h) (Or.inl ⟨by rfl, ?_⟩) (by assumption) ?_
    rotate_left
    · intro w hSw
      first | (go_simp; done) | (go_simp; with_reducible rfl)
    simp only [List.getElem_toArray, List.getElem_cons_succ, List.getElem_cons_zero, Act.put, List.setIfInBounds_toArray, List.set_cons_zero, List.set_cons_succ]
    refine wpHead_take (i := 11) (v := ?_) (by rfl) (by kernel_rfl) (by kernel_rfl) (by exact fun _ _ _ h => h) (Or.inl ⟨by rfl, ?_⟩) (by assumption) ?_
    rotate_left
    · intro w hSw
      first | (go_simp; done) | (go_simp; with_reducible rfl)
    simp only [List.getElem_toArray, List.getElem_cons_succ, List.getElem_cons_zero, Act.put, List.setIfInBounds_toArray, List.set_cons_zero, List.set_cons_succ]
    refine wpHead_take (i := 12) (v := ?_) (by rfl) (by kernel_rfl) (by kernel_rfl) (by exact fun _ _ _ h => h) (Or.inl ⟨by rfl, ?_⟩) (by assumption) ?_
    rotate_left
    · intro w hSw
      first | (go_simp; done) | (go_simp; with_reducible rfl)
    simp only [List.getElem_toArray, List.getElem_cons_succ, List.getElem_cons_zero, Act.put, List.setIfInBounds_toArray, List.set_cons_zero, List.set_cons_succ]
    refine wpHead_ready (rs := [1]) (by kernel_rfl) (by simp) (by kernel_rfl) ?_
    refine AllHead.cons (by rfl) (fun K hK => ?_) ?_
    · go_simp
      refine name_world ?_
      rintro wr1 hw1
      have hxn1 : Ext wr0 wr1 := hw1 ▸ (Ext.refl _).alloc _
      have hrow1 : wr1.heap[wr0.heap.size]? = some (.cells #[] 72) := hw1 ▸ heap_alloc_new wr0 _
      have ho1 : wr1.ownsRow w2.heap.size 72 2 (.slice (some ⟨wr0.heap.size, 0, none⟩) 0 0) 0 [] := by rw [← hw1]; exact World.ownsRow_made wr0 #[] 0 (Ext.size hHeld) (by simp [maxLen]) rfl
      have hz1 : wr0.heap.size < wr1.heap.size := by rw [← hw1]; simp
      try replace hs16 := hs16.ext hxn1
      refine hK.out _ _ ?_ (fun hHeld => ?_)
      · first | assumption | exact Ext.trans (by assumption) (by assumption)
      clear hK K
      try simp only [List.getElem_toArray, List.getElem_cons_succ, List.getElem_cons_zero, Act.put, List.setIfInBounds_toArray, List.set_cons_zero, List.set_cons_succ]
      refine wpHead_ready (rs := [6]) (by kernel_rfl) (by simp) (by kernel_rfl) ?_
      refine AllHead.cons (by rfl) (fun K hK => ?_) ?_
      · refine step_ap rwT ho1 (HSL2.out _ hHeld) (by rfl) (by rfl) (by rfl) (by rfl) (by rw [HLL.out]) HL1.out hb1 hb2' (Ext.size hHeld) ?_
        rintro v6 wr6 ho6 hg6 hor6
        have hx6 : Ext w2 wr6 := Ext.own hHeld ho1 (Nat.le_refl _) hg6
        simp only [Nat.zero_add, List.nil_append] at ho6
        try replace hs16 := hs16.grown hg6 (by intro ad e0; cases e0; simp [Value.ownBlock]; omega)
        refine hK.out _ _ ?_ (fun hHeld => ?_)
        · first | assumption | exact Ext.trans (by assumption) (by assumption)
        clear hK K
        try simp only [List.getElem_toArray, List.getElem_cons_succ, List.getElem_cons_zero, Act.put, List.setIfInBounds_toArray, List.set_cons_zero, List.set_cons_succ]
        refine wpHead_ready (rs := [10]) (by kernel_rfl) (by simp) (by kernel_rfl) ?_
        refine AllHead.cons (by rfl) (fun K hK => ?_) ?_
        · refine step_call (by rfl) (by kernel_rfl) (hemp _) ?_
          rintro e wr10 ⟨rfl, hx10⟩
          refine ⟨_, rfl, ?_⟩
          try replace ho1 := owns_ext ho1 hx10
          try replace ho6 := owns_ext ho6 hx10
          refine hK.out _ _ ?_ (fun hHeld => ?_)
          · first | assumption | exact Ext.trans (by assumption) (by assumption)
          clear hK K
          try simp only [List.getElem_toArray, List.getElem_cons_succ, List.getElem_cons_zero, Act.put, List.setIfInBounds_toArray, List.set_cons_zero, List.set_cons_succ]
          refine wpHead_take (i := 13) (v := ?_) (by rfl) (by kernel_rfl) (by kernel_rfl) (by exact fun _ _ _ h => h) (Or.inl ⟨by rfl, ?_⟩) (by assumption) ?_
          rotate_left
          · intro w hSw
            first | (go_simp; done) | (go_simp; with_reducible rfl)
          simp only [List.getElem_toArray, List.getElem_cons_succ, List.getElem_cons_zero, Act.put, List.setIfInBounds_toArray, List.set_cons_zero, List.set_cons_succ]
          refine wpHead_take (i := 14) (v := ?_) (by rfl) (by kernel_rfl) (by kernel_rfl) (by exact fun _ _ _ h => h) (Or.inl ⟨by rfl, ?_⟩) (by assumption) ?_
          rotate_left
          · intro w hSw
            first | (go_simp; done) | (go_simp; with_reducible rfl)
          simp only [List.getElem_toArray, List.getElem_cons_succ, List.getElem_cons_zero, Act.put, List.setIfInBounds_toArray, List.set_cons_zero, List.set_cons_succ]
          refine wpHead_take (i := 15) (v := ?_) (by rfl) (by kernel_rfl) (by kernel_rfl) (by exact fun _ _ _ h => h) (Or.inl ⟨by rfl, ?_⟩) (by assumption) ?_
          rotate_left
          · intro w hSw
            first | (go_simp; done) | (go_simp; with_reducible rfl)
          simp only [List.getElem_toArray, List.getElem_cons_succ, List.getElem_cons_zero, Act.put, List.setIfInBounds_toArray, List.set_cons_zero, List.set_cons_succ]
          refine wpHead_ready (rs := [16]) (by kernel_rfl) (by simp) (by kernel_rfl) ?_
          refine AllHead.cons (by rfl) (fun K hK => ?_) ?_
          · go_simp
            refine name_world ?_
            rintro wr16 hw16
            have hxn16 : Ext wr10 wr16 := hw16 ▸ (Ext.refl _).alloc _
            have hrow16 : wr16.heap[wr10.heap.size]? = some (.cells #[.int .i64 i, .string (st (l ++ zd))] 72) := hw16 ▸ heap_alloc_new wr10 _
            have hs16 : Sl wr16 (some ⟨wr10.heap.size, 0, none⟩) [.int .i64 i, .string (st (l ++ zd))] := Sl.of_row hrow16
            have hz16 : wr10.heap.size < wr16.heap.size := by rw [← hw16]; simp
            try replace ho1 := owns_ext ho1 hxn16
            try replace ho6 := owns_ext ho6 hxn16
            refine hK.out _ _ ?_ (fun hHeld => ?_)
            · first | assumption | exact Ext.trans (by assumption) (by assumption)
            clear hK K
            try simp only [List.getElem_toArray, List.getElem_cons_succ, List.getElem_cons_zero, Act.put, List.setIfInBounds_toArray, List.set_cons_zero, List.set_cons_succ]
            refine wpHead_ready (rs := [17]) (by kernel_rfl) (by simp) (by kernel_rfl) ?_
            refine AllHead.cons (by rfl) (fun K hK => ?_) ?_
            · refine step_ap rwT ho6 hs16 (by rfl) (by rfl) (by rfl) (by rfl) (by rfl) (by simp [Value.oneCell']) hb3 hb4 (Ext.size hHeld) ?_
              rintro v17 wr17 ho17 hg17 hor17
              have hx17 : Ext w2 wr17 := Ext.own hHeld ho6 (Nat.le_refl _) hg17
              refine hK.out _ _ ?_ (fun hHeld => ?_)
              · first | assumption | exact Ext.trans (by assumption) (by assumption)
              clear hK K
              try simp only [List.getElem_toArray, List.getElem_cons_succ, List.getElem_cons_zero, Act.put, List.setIfInBounds_toArray, List.set_cons_zero, List.set_cons_succ]
              refine wpHead_done (by kernel_rfl) ?_
              clear ho1 ho6 hs16 hHeld
              obtain ⟨A9, cap9, rfl, hg9, hgl9, hgc9, hgm9⟩ := own_some ho17 (by omega)
              have hsl9 := SlM.own (M := M) ho17 rfl (fun k hk => by have := HM.out k hk; omega)
              have e9 : lws ws ++ [.int .i64 i, .string (st (l ++ zd))] = lws (ws ++ [(i, l ++ zd)]) := by simp [lws, lw]
              rw [e9] at hsl9
              have hkq := (Kept.refl [q] wr17).setCell (p := ⟨q, 1, none⟩) (.inl (by simp)) (.slice (some ⟨A9, 0, none⟩) (ws.length + 1) cap9)
              have hrow := heap_setCell_same _ q 1 _ _ (.slice (some ⟨A9, 0, none⟩) (ws.length + 1) cap9) (hx17.obj H2.out.row)
              have hqm : ∀ k ∈ [q], k ∈ M := by intro k hk; simp at hk; subst hk; exact hq
              have hfin : IsRf M (wr17.setCell ⟨q, 1, none⟩ (.slice (some ⟨A9, 0, none⟩) (ws.length + 1) cap9)) q ⟨sure1, ws ++ [(i, l ++ zd)], false, cut1, age1⟩ A1 c1 (some ⟨A9, 0, none⟩) cap9 :=
                ⟨by simpa using hrow, ((H2.out.ext hx17).sl1).kept (hkq.mono hqm), hsl9.kept (hkq.mono hqm), H2.out.cap1, by simpa using hgc9, H2.out.max1, hgm9⟩
              have HF := Lib.hid hfin
              have HK := Lib.hid ((HK2.out.ext hx17).trans hkq)
              have y1 := X1 _ hx17
              have yf := fun j => XF _ j hx17
              clear ho17 hsl9 hkq hrow hfin e9 hg17 hor17
              go_wp2
              go_ret
              exact ⟨rfl, HK.out, _, _, _, _, HF.out⟩
            exact AllHead.nil
          exact AllHead.nil
        exact AllHead.nil
      exact AllHead.nil
    exact AllHead.nil
end
end Go.Proofs.Ytcnikfmcefnmoaa
