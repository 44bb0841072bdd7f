/- The walk of the session's line. Conditions: the hypotheses of the theorem. -/
import Derived.Test.YtchokelpimibdaaSm6
namespace Go.Proofs.Ytchokelpimibdaa
open Go.RowKit
theorem word_cases (l : List UInt8) : ((wordL l).1 ++ [32] ++ (wordL l).2 = l) ∨ ((wordL l).1 = l ∧ (wordL l).2 = []) := by
  unfold wordL
  induction l with
  | nil => right; simp
  | cons c l ih =>
    by_cases hc : c = 32
    · left; subst hc; simp
    · simp only [List.takeWhile_cons, List.dropWhile_cons, show (c != 32) = true from by simpa using hc, if_true]
      rcases ih with ih | ⟨h1, h2⟩
      · left; simpa using ih
      · right; exact ⟨by simpa using h1, h2⟩
theorem word_len (l : List UInt8) : (wordL l).1.length + (wordL l).2.length ≤ l.length := by
  rcases word_cases l with h | ⟨h1, h2⟩
  · have := congrArg List.length h
    simp at this
    omega
  · rw [h1, h2]; simp
theorem Kept.new {N : List Nat} {g : Nat} {w w1 w2 : World} (h : Kept N w w1) (k : Kept [g] w1 w2) (hg : w.heap.size ≤ g) : Kept N w w2 :=
  ((h.mono (N := g :: N) (fun k hk => List.mem_cons_of_mem _ hk)).trans (k.mono (by intro k hk; simp at hk; subst hk; simp))).less fun k hk hlt => by
    rcases List.mem_cons.1 hk with rfl | h
    · omega
    · exact h
theorem NewO.form {b : Nat} {w : World} {cs : List Value} {o : Ou} (h : NewO b w cs o) : ∃ A1 c1 A2 c2 A3 c3, cs = outC o A1 c1 A2 c2 A3 c3 := by
  obtain ⟨A1, c1, A2, c2, A3, c3, e, _⟩ := h [] (by simp)
  exact ⟨A1, c1, A2, c2, A3, c3, e⟩
theorem outC_size {o : Ou} {A1 : Option Addr} {c1 : Nat} {A2 : Option Addr} {c2 : Nat} {A3 : Option Addr} {c3 : Nat} : (outC o A1 c1 A2 c2 A3 c3).toArray.size = 9 := rfl
/-- what a call that answers leaves -/
def Says (M : List Nat) (w : World) (p q : Nat) (o : Ou) (s : Se) (e : Ending) (w' : World) : Prop := ∃ cs : List Value, e = .returned (.agg cs.toArray) ∧ NewO w.heap.size w' cs o ∧ IsS M w' p q s ∧ Kept [p] w w'
set_option maxRecDepth 20000 in
set_option maxHeartbeats 8000000 in
theorem sline_any {M : List Nat} {w : World} {p q : Nat} {s : Se} (h : IsS M w p q s) (l : By) (hl : l.length ≤ 140737488355320) :
    Calls Try.prog 27 #[pt p, .string (st l)] w (Says M w p q (lineT s l).1 (lineT s l).2) := by
  have HW : ∀ W, Calls Try.prog 38 #[.string (st l)] W fun e w' => e = .returned (.tuple #[.string (st (wordL l).1), .string (st (wordL l).2)]) ∧ Ext W w' := fun W => by
    have := Word_any (st l) W (by rw [st_len]; omega)
    rw [tl_st] at this
    exact this
  have hwl := word_len l
  have HLO : ∀ W, Calls Try.prog 18 #[.string (st (wordL l).1)] W fun e w' => e = .returned (.string (st (lowL (wordL l).1))) ∧ Ext W w' := fun W => by
    have := Lower_any (st (wordL l).1) W (by rw [st_len]; omega)
    rw [tl_st] at this
    exact this
  have hrl : (wordL l).2.length ≤ 140737488355320 := by omega
  have HAT : ∀ W, Calls Try.prog 39 #[.string (st (wordL l).2)] W fun e w' => e = .returned (.bool (atomL (wordL l).2)) ∧ Ext W w' := fun W => by
    have := Atom_any (st (wordL l).2) W (by rw [st_len]; omega)
    rw [tl_st] at this
    exact this
  have HS := Lib.hid h
  obtain ⟨g0, hg0⟩ : ∃ g, g = w.heap.size := ⟨_, rfl⟩
  have hgw : w.heap.size ≤ g0 := by omega
  have HNE : Hid (p ≠ g0 ∧ q ≠ g0 ∧ (∀ k ∈ M, k ∈ g0 :: M) ∧ 0 ≠ g0) := Lib.hid (by
    have h1 := h.plt
    have h2 := h.qlt
    have h3 := h.ml.lt
    exact ⟨by omega, by omega, fun k hk => by simp [hk], by omega⟩)
  obtain ⟨wa, hwa⟩ : ∃ wa, wa = w.alloc (.cells zOut 39) := ⟨_, rfl⟩
  have hxa : Ext w wa := hwa ▸ (Ext.refl w).alloc _
  have HRA : Hid (wa.heap[g0]? = some (.cells zOut 39 (0, 0))) := Lib.hid (by rw [hg0, hwa]; exact heap_alloc_new w _)
  have HS2 : Hid (IsS (g0 :: M) wa p q s) := Lib.hid (h.grow hxa (fun k hk => by
      rcases List.mem_cons.1 hk with rfl | h
      · exact .inr hgw
      · exact .inl h) (by simp [h.pM]) (by simp [h.qM]) (fun k hk => by
      rcases List.mem_cons.1 hk with rfl | h'
      · exact obj_lt HRA.out
      · exact Nat.lt_of_lt_of_le (h.lt k h') hxa.size))
  have HXA := Lib.hid hxa
  unfold pt
  clear h hwl hl hxa
  go_enter Try.func27, Try.ntmps27
  go_wp2_with (first | (with_reducible refine stop_alloc 39 ?_) | (with_reducible refine stop_store 39 ?_))
  refine go_on (wpList_alloc_ rfl rfl aout_info ?_)
  rw [← hg0, ← hwa]
  clear hg0 hwa
  go_wp2_with fail
  refine (HW wa).mono ?_
  rintro e w1 ⟨rfl, hx1⟩
  go_wp2_with fail
  refine (HLO w1).mono ?_
  rintro e w2 ⟨rfl, hx2⟩
  have HX2 := Lib.hid (hx1.trans hx2)
  have HR2 := Lib.hid (HX2.out.obj HRA.out)
  have HS3 := Lib.hid (HS2.out.ext HX2.out)
  have HK2 := Lib.hid (Kept.of_ext (M := [p]) (HXA.out.trans HX2.out))
  clear hx1 hx2 HX2 HRA HS2 HW HLO
  have hT : ∀ {o : Ou} {s' : Se}, lineT s l = (o, s') → Hid (lineT s l = (o, s')) := fun h => Lib.hid h
  have hg0p : g0 ∉ [p] := by simpa using HNE.out.1.symm
  generalize hu : lowL (wordL l).1 = u at *
  have HU := Lib.hid hu
  clear hu
  generalize hrest : (wordL l).2 = r at *
  have HRE := Lib.hid hrest
  clear hrest
  by_cases h1 : u = wNoop
  · subst h1
    have HV := hT (o := sayO okB) (s' := s) (by unfold lineT; rw [HU.out, if_neg (fun h => absurd h.1 (by decide)), if_neg (by decide), if_neg (by decide), if_neg (by decide), if_neg (by decide), if_neg (by decide), if_pos rfl])
    clear hT HAT HU HRE
    unfold wNoop
    go_wp2_with fail
    refine (say_any _ w2).mono ?_
    rintro e wy ⟨cs, rfl, hn, hx⟩
    obtain ⟨A1, c1, A2, c2, A3, c3, rfl⟩ := hn.form
    have HN := Lib.hid hn
    have HX := Lib.hid hx
    clear hn hx
    go_wp2_with (first | (with_reducible refine stop_alloc 39 ?_) | (with_reducible refine stop_store 39 ?_))
    refine go_on (wpList_store_whole (g := g0) rfl rfl rfl rfl (HX.out.obj HR2.out) (aout_size outC_size) rfl outC_one ?_)
    intro W hrow hkW _
    go_wp2
    ((try simp only [Exit.inBlock, Exit.then]); refine bodyPost_ret (results_cell0 rfl _ _ g0 _ _ _ _ rfl hrow Try.underlying39 rfl (by kernel_rfl)) rfl ?_)
    rw [HV.out]
    have hgv := obj_lt HR2.out
    exact ⟨_, rfl, (HN.out.kept hkW (one_lt hgv)).low (Nat.le_trans hgw (Nat.le_of_lt hgv)), ((HS3.out.ext HX.out).kept hkW (by simpa using HNE.out.1) (by simpa using HNE.out.2.1) (by simp) (by simpa using HNE.out.2.2.2)).old (fun k hk => .inl (HNE.out.2.2.1 k hk)) HS.out.pM HS.out.qM (fun k hk => Nat.lt_of_lt_of_le (HS.out.lt k hk) (HK2.out.ext HX.out |>.new hkW hgw).size), (HK2.out.ext HX.out).new hkW hgw⟩
  by_cases h2 : u = wVrfy
  · subst h2
    have HV := hT (o := sayO tryB) (s' := s) (by unfold lineT; rw [HU.out, if_neg (fun h => absurd h.1 (by decide)), if_neg (by decide), if_neg (by decide), if_neg (by decide), if_neg (by decide), if_neg (by decide), if_neg (by decide), if_pos rfl])
    clear hT HAT HU HRE h1
    unfold wVrfy
    go_wp2_with fail
    refine (say_any _ w2).mono ?_
    rintro e wy ⟨cs, rfl, hn, hx⟩
    obtain ⟨A1, c1, A2, c2, A3, c3, rfl⟩ := hn.form
    have HN := Lib.hid hn
    have HX := Lib.hid hx
    clear hn hx
    go_wp2_with (first | (with_reducible refine stop_alloc 39 ?_) | (with_reducible refine stop_store 39 ?_))
    refine go_on (wpList_store_whole (g := g0) rfl rfl rfl rfl (HX.out.obj HR2.out) (aout_size outC_size) rfl outC_one ?_)
    intro W hrow hkW _
    go_wp2
    ((try simp only [Exit.inBlock, Exit.then]); refine bodyPost_ret (results_cell0 rfl _ _ g0 _ _ _ _ rfl hrow Try.underlying39 rfl (by kernel_rfl)) rfl ?_)
    rw [HV.out]
    have hgv := obj_lt HR2.out
    exact ⟨_, rfl, (HN.out.kept hkW (one_lt hgv)).low (Nat.le_trans hgw (Nat.le_of_lt hgv)), ((HS3.out.ext HX.out).kept hkW (by simpa using HNE.out.1) (by simpa using HNE.out.2.1) (by simp) (by simpa using HNE.out.2.2.2)).old (fun k hk => .inl (HNE.out.2.2.1 k hk)) HS.out.pM HS.out.qM (fun k hk => Nat.lt_of_lt_of_le (HS.out.lt k hk) (HK2.out.ext HX.out |>.new hkW hgw).size), (HK2.out.ext HX.out).new hkW hgw⟩
  by_cases h3 : u = wMail
  · subst h3
    have HV := hT (o := sayO (mailT s r).1) (s' := (mailT s r).2) (by unfold lineT; rw [HU.out, HRE.out, if_neg (fun h => absurd h.1 (by decide)), if_neg (by decide), if_pos rfl])
    have HM := smail_any HS3.out r hrl
    clear hT HAT HU HRE h1 h2
    unfold wMail
    unfold pt at HM
    go_wp2_with fail
    refine HM.mono ?_
    rintro e w3 ⟨rfl, h3, hk3⟩
    have H3 := Lib.hid h3
    have HR3 := Lib.hid (hk3.heap HR2.out hg0p)
    have HK3 := Lib.hid (HK2.out.trans hk3)
    clear h3 hk3 HM
    go_wp2_with fail
    refine (say_any _ w3).mono ?_
    rintro e wy ⟨cs, rfl, hn, hx⟩
    obtain ⟨A1, c1, A2, c2, A3, c3, rfl⟩ := hn.form
    have HN := Lib.hid hn
    have HX := Lib.hid hx
    clear hn hx
    go_wp2_with (first | (with_reducible refine stop_alloc 39 ?_) | (with_reducible refine stop_store 39 ?_))
    refine go_on (wpList_store_whole (g := g0) rfl rfl rfl rfl (HX.out.obj HR3.out) (aout_size outC_size) rfl outC_one ?_)
    intro W hrow hkW _
    go_wp2
    ((try simp only [Exit.inBlock, Exit.then]); refine bodyPost_ret (results_cell0 rfl _ _ g0 _ _ _ _ rfl hrow Try.underlying39 rfl (by kernel_rfl)) rfl ?_)
    rw [HV.out]
    have hgv := obj_lt HR3.out
    exact ⟨_, rfl, (HN.out.kept hkW (one_lt hgv)).low (Nat.le_trans hgw (Nat.le_of_lt hgv)), ((H3.out.ext HX.out).kept hkW (by simpa using HNE.out.1) (by simpa using HNE.out.2.1) (by simp) (by simpa using HNE.out.2.2.2)).old (fun k hk => .inl (HNE.out.2.2.1 k hk)) HS.out.pM HS.out.qM (fun k hk => Nat.lt_of_lt_of_le (HS.out.lt k hk) (HK3.out.ext HX.out |>.new hkW hgw).size), (HK3.out.ext HX.out).new hkW hgw⟩
  by_cases h4 : u = wRcpt
  · subst h4
    have HV := hT (o := sayO (rcptT s r).1) (s' := (rcptT s r).2) (by unfold lineT; rw [HU.out, HRE.out, if_neg (fun h => absurd h.1 (by decide)), if_neg (by decide), if_neg (by decide), if_pos rfl])
    have HM := srcpt_any HS3.out r hrl
    clear hT HAT HU HRE h1 h2 h3
    unfold wRcpt
    unfold pt at HM
    go_wp2_with fail
    refine HM.mono ?_
    rintro e w3 ⟨rfl, h3, hk3⟩
    have H3 := Lib.hid h3
    have HR3 := Lib.hid (hk3.heap HR2.out hg0p)
    have HK3 := Lib.hid (HK2.out.trans hk3)
    clear h3 hk3 HM
    go_wp2_with fail
    refine (say_any _ w3).mono ?_
    rintro e wy ⟨cs, rfl, hn, hx⟩
    obtain ⟨A1, c1, A2, c2, A3, c3, rfl⟩ := hn.form
    have HN := Lib.hid hn
    have HX := Lib.hid hx
    clear hn hx
    go_wp2_with (first | (with_reducible refine stop_alloc 39 ?_) | (with_reducible refine stop_store 39 ?_))
    refine go_on (wpList_store_whole (g := g0) rfl rfl rfl rfl (HX.out.obj HR3.out) (aout_size outC_size) rfl outC_one ?_)
    intro W hrow hkW _
    go_wp2
    ((try simp only [Exit.inBlock, Exit.then]); refine bodyPost_ret (results_cell0 rfl _ _ g0 _ _ _ _ rfl hrow Try.underlying39 rfl (by kernel_rfl)) rfl ?_)
    rw [HV.out]
    have hgv := obj_lt HR3.out
    exact ⟨_, rfl, (HN.out.kept hkW (one_lt hgv)).low (Nat.le_trans hgw (Nat.le_of_lt hgv)), ((H3.out.ext HX.out).kept hkW (by simpa using HNE.out.1) (by simpa using HNE.out.2.1) (by simp) (by simpa using HNE.out.2.2.2)).old (fun k hk => .inl (HNE.out.2.2.1 k hk)) HS.out.pM HS.out.qM (fun k hk => Nat.lt_of_lt_of_le (HS.out.lt k hk) (HK3.out.ext HX.out |>.new hkW hgw).size), (HK3.out.ext HX.out).new hkW hgw⟩
  by_cases h5 : u = wHelo ∨ u = wEhlo
  · have HV0 : Hid (lineT s l = if atomL r = false then (sayO whoB, s) else (sayO helloB, restS ⟨s.buf, s.st, true, s.fl, s.fd, s.to_⟩)) := Lib.hid (by
      unfold lineT
      rw [HU.out, HRE.out, if_neg (fun h => by rcases h5 with h5 | h5 <;> (rw [h5] at h; exact absurd h.1 (by decide))), if_pos h5])
    clear hT HU HRE h1 h2 h3 h4
    cases ha : atomL r with
    | false =>
      have HV : Hid (lineT s l = (sayO whoB, s)) := Lib.hid (by rw [HV0.out, if_pos ha])
      rw [ha] at HAT
      clear ha HV0
      rcases h5 with rfl | rfl
      all_goals
        first | unfold wHelo | unfold wEhlo
        go_wp2_with fail
        refine (HAT w2).mono ?_
        rintro e w3 ⟨rfl, hx3⟩
        have HR3 := Lib.hid (hx3.obj HR2.out)
        have H3 := Lib.hid (HS3.out.ext hx3)
        have HK3 := Lib.hid (HK2.out.ext hx3)
        clear hx3 HAT
        go_wp2_with fail
        refine (say_any _ w3).mono ?_
        rintro e wy ⟨cs, rfl, hn, hx⟩
        obtain ⟨A1, c1, A2, c2, A3, c3, rfl⟩ := hn.form
        have HN := Lib.hid hn
        have HX := Lib.hid hx
        clear hn hx
        go_wp2_with (first | (with_reducible refine stop_alloc 39 ?_) | (with_reducible refine stop_store 39 ?_))
        refine go_on (wpList_store_whole (g := g0) rfl rfl rfl rfl (HX.out.obj HR3.out) (aout_size outC_size) rfl outC_one ?_)
        intro W hrow hkW _
        go_wp2
        ((try simp only [Exit.inBlock, Exit.then]); refine bodyPost_ret (results_cell0 rfl _ _ g0 _ _ _ _ rfl hrow Try.underlying39 rfl (by kernel_rfl)) rfl ?_)
        rw [HV.out]
        have hgv := obj_lt HR3.out
        exact ⟨_, rfl, (HN.out.kept hkW (one_lt hgv)).low (Nat.le_trans hgw (Nat.le_of_lt hgv)), ((H3.out.ext HX.out).kept hkW (by simpa using HNE.out.1) (by simpa using HNE.out.2.1) (by simp) (by simpa using HNE.out.2.2.2)).old (fun k hk => .inl (HNE.out.2.2.1 k hk)) HS.out.pM HS.out.qM (fun k hk => Nat.lt_of_lt_of_le (HS.out.lt k hk) (HK3.out.ext HX.out |>.new hkW hgw).size), (HK3.out.ext HX.out).new hkW hgw⟩
    | true =>
      have HV : Hid (lineT s l = (sayO helloB, restS ⟨s.buf, s.st, true, s.fl, s.fd, s.to_⟩)) := Lib.hid (by rw [HV0.out, if_neg (by simp [ha])])
      rw [ha] at HAT
      clear ha HV0
      rcases h5 with rfl | rfl
      all_goals
        first | unfold wHelo | unfold wEhlo
        go_wp2_with fail
        refine (HAT w2).mono ?_
        rintro e w3 ⟨rfl, hx3⟩
        have h3 := HS3.out.ext hx3
        have hset := h3.set 3 (.bool true) ⟨s.buf, s.st, true, s.fl, s.fd, s.to_⟩ rfl rfl ⟨h3.ok.buf, h3.ok.to_, h3.ok.ads, h3.ok.st⟩ (fun v => rfl)
        have e3 := h3.cells.2.2.1 w3 (Ext.refl _)
        have ef := fun j => h3.cells.2.2.2 w3 j (Ext.refl _)
        have HSET := Lib.hid hset.1
        have HR3 := Lib.hid (hset.2.heap (hx3.obj HR2.out) hg0p)
        have HK3 := Lib.hid ((HK2.out.ext hx3).trans hset.2)
        clear h3 hset hx3 HAT
        go_wp2_with fail
        generalize w3.setCell ⟨p, 3, none⟩ (.bool true) = w4 at *
        clear e3 ef
        have HRS := srest_any HSET.out
        unfold pt at HRS
        refine HRS.mono ?_
        rintro e w5 ⟨rfl, h5, hk5⟩
        have HR5 := Lib.hid (hk5.heap HR3.out hg0p)
        have H5 := Lib.hid h5
        have HK5 := Lib.hid (HK3.out.trans hk5)
        clear HRS h5 hk5
        go_wp2_with fail
        refine (say_any _ w5).mono ?_
        rintro e wy ⟨cs, rfl, hn, hx⟩
        obtain ⟨A1, c1, A2, c2, A3, c3, rfl⟩ := hn.form
        have HN := Lib.hid hn
        have HX := Lib.hid hx
        clear hn hx
        go_wp2_with (first | (with_reducible refine stop_alloc 39 ?_) | (with_reducible refine stop_store 39 ?_))
        refine go_on (wpList_store_whole (g := g0) rfl rfl rfl rfl (HX.out.obj HR5.out) (aout_size outC_size) rfl outC_one ?_)
        intro W hrow hkW _
        go_wp2
        ((try simp only [Exit.inBlock, Exit.then]); refine bodyPost_ret (results_cell0 rfl _ _ g0 _ _ _ _ rfl hrow Try.underlying39 rfl (by kernel_rfl)) rfl ?_)
        rw [HV.out]
        have hgv := obj_lt HR5.out
        exact ⟨_, rfl, (HN.out.kept hkW (one_lt hgv)).low (Nat.le_trans hgw (Nat.le_of_lt hgv)), ((H5.out.ext HX.out).kept hkW (by simpa using HNE.out.1) (by simpa using HNE.out.2.1) (by simp) (by simpa using HNE.out.2.2.2)).old (fun k hk => .inl (HNE.out.2.2.1 k hk)) HS.out.pM HS.out.qM (fun k hk => Nat.lt_of_lt_of_le (HS.out.lt k hk) (HK5.out.ext HX.out |>.new hkW hgw).size), (HK5.out.ext HX.out).new hkW hgw⟩
  by_cases h6 : (u = wData ∨ u = wRset ∨ u = wQuit) ∧ r ≠ []
  · have HV := hT (o := sayO aloneB) (s' := s) (by unfold lineT; rw [HU.out, HRE.out, if_pos h6])
    obtain ⟨h7, h8⟩ := h6
    have h8' := not_empty h8
    clear hT HU HRE h1 h2 h3 h4 h5 HAT h8
    rcases h7 with rfl | rfl | rfl
    all_goals
      first | unfold wData | unfold wRset | unfold wQuit
      go_wp2_with fail
      refine (say_any _ w2).mono ?_
      rintro e wy ⟨cs, rfl, hn, hx⟩
      obtain ⟨A1, c1, A2, c2, A3, c3, rfl⟩ := hn.form
      have HN := Lib.hid hn
      have HX := Lib.hid hx
      clear hn hx
      go_wp2_with (first | (with_reducible refine stop_alloc 39 ?_) | (with_reducible refine stop_store 39 ?_))
      refine go_on (wpList_store_whole (g := g0) rfl rfl rfl rfl (HX.out.obj HR2.out) (aout_size outC_size) rfl outC_one ?_)
      intro W hrow hkW _
      go_wp2
      ((try simp only [Exit.inBlock, Exit.then]); refine bodyPost_ret (results_cell0 rfl _ _ g0 _ _ _ _ rfl hrow Try.underlying39 rfl (by kernel_rfl)) rfl ?_)
      rw [HV.out]
      have hgv := obj_lt HR2.out
      exact ⟨_, rfl, (HN.out.kept hkW (one_lt hgv)).low (Nat.le_trans hgw (Nat.le_of_lt hgv)), ((HS3.out.ext HX.out).kept hkW (by simpa using HNE.out.1) (by simpa using HNE.out.2.1) (by simp) (by simpa using HNE.out.2.2.2)).old (fun k hk => .inl (HNE.out.2.2.1 k hk)) HS.out.pM HS.out.qM (fun k hk => Nat.lt_of_lt_of_le (HS.out.lt k hk) (HK2.out.ext HX.out |>.new hkW hgw).size), (HK2.out.ext HX.out).new hkW hgw⟩
  by_cases h7 : u = wData
  · subst h7
    have hr0 : r = [] := by
      rcases r with _ | ⟨a, r⟩
      · rfl
      · exact absurd ⟨.inl rfl, by simp⟩ h6
    subst hr0
    have HV0 : Hid (lineT s l = if s.st ≠ 3 then (sayO notB, s) else if s.to_ = [] then (sayO nobodyB, s) else (sayO goB, ⟨s.buf, 4, s.hello, s.fl, s.fd, s.to_⟩)) := Lib.hid (by
      unfold lineT
      rw [HU.out, HRE.out, if_neg (by simp), if_neg (by decide), if_neg (by decide), if_neg (by decide), if_pos rfl])
    obtain ⟨E1, E2, E3, EF⟩ := HS3.out.cells
    obtain ⟨A, c, hrow, -, -, -⟩ := HS3.out.row
    have e6 := (row7_at hrow).2.2.2.2.1 w2 (Ext.refl _)
    have e2 := E2 w2 (Ext.refl _)
    have ef := fun j => EF w2 j (Ext.refl _)
    clear hT HU HRE h1 h2 h3 h4 h5 h6 HAT E1 E2 E3 EF hrow
    unfold wData
    by_cases k1 : s.st ≠ 3
    · have HV : Hid (lineT s l = (sayO notB, s)) := Lib.hid (by rw [HV0.out, if_pos k1])
      have k1' : ((s.st : Int) != 3) = true := by simp; omega
      clear k1 HV0 ef e6
      go_wp2_with fail
      refine (say_any _ w2).mono ?_
      rintro e wy ⟨cs, rfl, hn, hx⟩
      obtain ⟨A1, c1, A2, c2, A3, c3, rfl⟩ := hn.form
      have HN := Lib.hid hn
      have HX := Lib.hid hx
      clear hn hx
      go_wp2_with (first | (with_reducible refine stop_alloc 39 ?_) | (with_reducible refine stop_store 39 ?_))
      refine go_on (wpList_store_whole (g := g0) rfl rfl rfl rfl (HX.out.obj HR2.out) (aout_size outC_size) rfl outC_one ?_)
      intro W hrow hkW _
      go_wp2
      ((try simp only [Exit.inBlock, Exit.then]); refine bodyPost_ret (results_cell0 rfl _ _ g0 _ _ _ _ rfl hrow Try.underlying39 rfl (by kernel_rfl)) rfl ?_)
      rw [HV.out]
      have hgv := obj_lt HR2.out
      exact ⟨_, rfl, (HN.out.kept hkW (one_lt hgv)).low (Nat.le_trans hgw (Nat.le_of_lt hgv)), ((HS3.out.ext HX.out).kept hkW (by simpa using HNE.out.1) (by simpa using HNE.out.2.1) (by simp) (by simpa using HNE.out.2.2.2)).old (fun k hk => .inl (HNE.out.2.2.1 k hk)) HS.out.pM HS.out.qM (fun k hk => Nat.lt_of_lt_of_le (HS.out.lt k hk) (HK2.out.ext HX.out |>.new hkW hgw).size), (HK2.out.ext HX.out).new hkW hgw⟩
    have k2 : s.st = 3 := by simpa using k1
    have k2' : ((s.st : Int) != 3) = false := by simp; omega
    by_cases k3 : s.to_ = []
    · have HV : Hid (lineT s l = (sayO nobodyB, s)) := Lib.hid (by rw [HV0.out, if_neg k1, if_pos k3])
      have k3' : s.to_.length = 0 := by rw [k3]; rfl
      rw [k3'] at e6
      clear k1 HV0 ef k2 k3 k3'
      go_wp2_with fail
      refine (say_any _ w2).mono ?_
      rintro e wy ⟨cs, rfl, hn, hx⟩
      obtain ⟨A1, c1, A2, c2, A3, c3, rfl⟩ := hn.form
      have HN := Lib.hid hn
      have HX := Lib.hid hx
      clear hn hx
      go_wp2_with (first | (with_reducible refine stop_alloc 39 ?_) | (with_reducible refine stop_store 39 ?_))
      refine go_on (wpList_store_whole (g := g0) rfl rfl rfl rfl (HX.out.obj HR2.out) (aout_size outC_size) rfl outC_one ?_)
      intro W hrow hkW _
      go_wp2
      ((try simp only [Exit.inBlock, Exit.then]); refine bodyPost_ret (results_cell0 rfl _ _ g0 _ _ _ _ rfl hrow Try.underlying39 rfl (by kernel_rfl)) rfl ?_)
      rw [HV.out]
      have hgv := obj_lt HR2.out
      exact ⟨_, rfl, (HN.out.kept hkW (one_lt hgv)).low (Nat.le_trans hgw (Nat.le_of_lt hgv)), ((HS3.out.ext HX.out).kept hkW (by simpa using HNE.out.1) (by simpa using HNE.out.2.1) (by simp) (by simpa using HNE.out.2.2.2)).old (fun k hk => .inl (HNE.out.2.2.1 k hk)) HS.out.pM HS.out.qM (fun k hk => Nat.lt_of_lt_of_le (HS.out.lt k hk) (HK2.out.ext HX.out |>.new hkW hgw).size), (HK2.out.ext HX.out).new hkW hgw⟩
    · have HV : Hid (lineT s l = (sayO goB, ⟨s.buf, 4, s.hello, s.fl, s.fd, s.to_⟩)) := Lib.hid (by rw [HV0.out, if_neg k1, if_neg k3])
      have k3' : ((s.to_.length : Int) == 0) = false := by
        have : s.to_.length ≠ 0 := fun h => k3 (List.eq_nil_of_length_eq_zero h)
        simp; omega
      have hset := HS3.out.set 2 (.int .i64 4) ⟨s.buf, 4, s.hello, s.fl, s.fd, s.to_⟩ rfl rfl ⟨HS3.out.ok.buf, HS3.out.ok.to_, HS3.out.ok.ads, by simp⟩ (fun v => rfl)
      have HSET := Lib.hid hset.1
      have HR3 := Lib.hid (hset.2.heap HR2.out hg0p)
      have HK3 := Lib.hid (HK2.out.trans hset.2)
      clear k1 HV0 k2 k3 hset
      go_wp2_with fail
      generalize w2.setCell ⟨p, 2, none⟩ (.int .i64 4) = w3 at *
      clear e2 e6 ef
      refine (say_any _ w3).mono ?_
      rintro e wy ⟨cs, rfl, hn, hx⟩
      obtain ⟨A1, c1, A2, c2, A3, c3, rfl⟩ := hn.form
      have HN := Lib.hid hn
      have HX := Lib.hid hx
      clear hn hx
      go_wp2_with (first | (with_reducible refine stop_alloc 39 ?_) | (with_reducible refine stop_store 39 ?_))
      refine go_on (wpList_store_whole (g := g0) rfl rfl rfl rfl (HX.out.obj HR3.out) (aout_size outC_size) rfl outC_one ?_)
      intro W hrow hkW _
      go_wp2
      ((try simp only [Exit.inBlock, Exit.then]); refine bodyPost_ret (results_cell0 rfl _ _ g0 _ _ _ _ rfl hrow Try.underlying39 rfl (by kernel_rfl)) rfl ?_)
      rw [HV.out]
      have hgv := obj_lt HR3.out
      exact ⟨_, rfl, (HN.out.kept hkW (one_lt hgv)).low (Nat.le_trans hgw (Nat.le_of_lt hgv)), ((HSET.out.ext HX.out).kept hkW (by simpa using HNE.out.1) (by simpa using HNE.out.2.1) (by simp) (by simpa using HNE.out.2.2.2)).old (fun k hk => .inl (HNE.out.2.2.1 k hk)) HS.out.pM HS.out.qM (fun k hk => Nat.lt_of_lt_of_le (HS.out.lt k hk) (HK3.out.ext HX.out |>.new hkW hgw).size), (HK3.out.ext HX.out).new hkW hgw⟩
  by_cases h8 : u = wRset
  · subst h8
    have hr0 : r = [] := by
      rcases r with _ | ⟨a, r⟩
      · rfl
      · exact absurd ⟨.inr (.inl rfl), by simp⟩ h6
    subst hr0
    have HV := hT (o := sayO okB) (s' := restS s) (by unfold lineT; rw [HU.out, HRE.out, if_neg (by simp), if_neg (by decide), if_neg (by decide), if_neg (by decide), if_neg (by decide), if_pos rfl])
    clear hT HU HRE h1 h2 h3 h4 h5 h6 h7 HAT
    unfold wRset
    have HRS := srest_any HS3.out
    unfold pt at HRS
    go_wp2_with fail
    refine HRS.mono ?_
    rintro e w5 ⟨rfl, h5, hk5⟩
    have HR5 := Lib.hid (hk5.heap HR2.out hg0p)
    have H5 := Lib.hid h5
    have HK5 := Lib.hid (HK2.out.trans hk5)
    clear HRS h5 hk5
    go_wp2_with fail
    refine (say_any _ w5).mono ?_
    rintro e wy ⟨cs, rfl, hn, hx⟩
    obtain ⟨A1, c1, A2, c2, A3, c3, rfl⟩ := hn.form
    have HN := Lib.hid hn
    have HX := Lib.hid hx
    clear hn hx
    go_wp2_with (first | (with_reducible refine stop_alloc 39 ?_) | (with_reducible refine stop_store 39 ?_))
    refine go_on (wpList_store_whole (g := g0) rfl rfl rfl rfl (HX.out.obj HR5.out) (aout_size outC_size) rfl outC_one ?_)
    intro W hrow hkW _
    go_wp2
    ((try simp only [Exit.inBlock, Exit.then]); refine bodyPost_ret (results_cell0 rfl _ _ g0 _ _ _ _ rfl hrow Try.underlying39 rfl (by kernel_rfl)) rfl ?_)
    rw [HV.out]
    have hgv := obj_lt HR5.out
    exact ⟨_, rfl, (HN.out.kept hkW (one_lt hgv)).low (Nat.le_trans hgw (Nat.le_of_lt hgv)), ((H5.out.ext HX.out).kept hkW (by simpa using HNE.out.1) (by simpa using HNE.out.2.1) (by simp) (by simpa using HNE.out.2.2.2)).old (fun k hk => .inl (HNE.out.2.2.1 k hk)) HS.out.pM HS.out.qM (fun k hk => Nat.lt_of_lt_of_le (HS.out.lt k hk) (HK5.out.ext HX.out |>.new hkW hgw).size), (HK5.out.ext HX.out).new hkW hgw⟩
  by_cases h9 : u = wQuit
  · subst h9
    have hr0 : r = [] := by
      rcases r with _ | ⟨a, r⟩
      · rfl
      · exact absurd ⟨.inr (.inr rfl), by simp⟩ h6
    subst hr0
    have HV := hT (o := ⟨[byeB], false, [], [], [], [], true⟩) (s' := ⟨s.buf, 6, s.hello, s.fl, s.fd, s.to_⟩) (by unfold lineT; rw [HU.out, HRE.out, if_neg (by simp), if_neg (by decide), if_neg (by decide), if_neg (by decide), if_neg (by decide), if_neg (by decide), if_neg (by decide), if_neg (by decide), if_pos rfl])
    have hset := HS3.out.set 2 (.int .i64 6) ⟨s.buf, 6, s.hello, s.fl, s.fd, s.to_⟩ rfl rfl ⟨HS3.out.ok.buf, HS3.out.ok.to_, HS3.out.ok.ads, by simp⟩ (fun v => rfl)
    have HSET := Lib.hid hset.1
    have HR3 := Lib.hid (hset.2.heap HR2.out hg0p)
    have HK3 := Lib.hid (HK2.out.trans hset.2)
    obtain ⟨E1, E2, E3, EF⟩ := HS3.out.cells
    have e2 := E2 w2 (Ext.refl _)
    have ef := fun j => EF w2 j (Ext.refl _)
    clear hT HU HRE h1 h2 h3 h4 h5 h6 h7 h8 HAT hset E1 E2 E3 EF
    unfold wQuit
    have HZ : Hid ((w2.setCell ⟨p, 2, none⟩ (.int .i64 6)).heap.size = w2.heap.size) := Lib.hid (by simp)
    go_wp2_with (first | (with_reducible refine stop_alloc 39 ?_) | (with_reducible refine stop_store 39 ?_))
    generalize w2.setCell ⟨p, 2, none⟩ (.int .i64 6) = w3 at *
    clear e2 ef
    have hs : ∀ N : List Nat, (∀ k ∈ N, k < w3.heap.size) → RsM RSt 1 N (w3.alloc (.cells #[.string (st byeB)] 9)) (some ⟨w3.heap.size, 0, none⟩) [byeB] := strs_one w3 byeB 9 w3.heap.size (Nat.le_refl _)
    rw [HZ.out] at hs
    have HN := Lib.hid (NewO.line (c := 1) true hs)
    have HX : Hid (Ext w3 (w3.alloc (.cells #[.string (st byeB)] 9))) := Lib.hid ((Ext.refl _).alloc _)
    clear hs
    refine go_on (wpList_store_whole (g := g0) rfl rfl rfl rfl (HX.out.obj HR3.out) (aout_size rfl) rfl (by simp [Value.oneCell']) ?_)
    intro W hrow hkW _
    go_wp2
    ((try simp only [Exit.inBlock, Exit.then]); refine bodyPost_ret (results_cell0 rfl _ _ g0 _ _ _ _ rfl hrow Try.underlying39 rfl (by kernel_rfl)) rfl ?_)
    rw [HV.out]
    have hgv := obj_lt HR2.out
    exact ⟨_, rfl, (HN.out.kept hkW (one_lt hgv)).low (Nat.le_trans hgw (Nat.le_of_lt hgv)), ((HSET.out.ext HX.out).kept hkW (by simpa using HNE.out.1) (by simpa using HNE.out.2.1) (by simp) (by simpa using HNE.out.2.2.2)).old (fun k hk => .inl (HNE.out.2.2.1 k hk)) HS.out.pM HS.out.qM (fun k hk => Nat.lt_of_lt_of_le (HS.out.lt k hk) (HK3.out.ext HX.out |>.new hkW hgw).size), (HK3.out.ext HX.out).new hkW hgw⟩
  have HV := hT (o := sayO whatB) (s' := s) (by unfold lineT; rw [HU.out, HRE.out, if_neg h6, if_neg h5, if_neg h3, if_neg h4, if_neg h7, if_neg h8, if_neg h1, if_neg h2, if_neg h9])
  rw [not_or] at h5
  obtain ⟨h5, h55⟩ := h5
  clear hT HU HRE h6 HAT
  unfold wNoop at h1
  unfold wVrfy at h2
  unfold wMail at h3
  unfold wRcpt at h4
  unfold wHelo at h5
  unfold wEhlo at h55
  unfold wData at h7
  unfold wRset at h8
  unfold wQuit at h9
  replace h1 := beq_eq_false_iff_ne.2 h1
  replace h2 := beq_eq_false_iff_ne.2 h2
  replace h3 := beq_eq_false_iff_ne.2 h3
  replace h4 := beq_eq_false_iff_ne.2 h4
  replace h5 := beq_eq_false_iff_ne.2 h5
  replace h55 := beq_eq_false_iff_ne.2 h55
  replace h7 := beq_eq_false_iff_ne.2 h7
  replace h8 := beq_eq_false_iff_ne.2 h8
  replace h9 := beq_eq_false_iff_ne.2 h9
  go_wp2_with fail
  refine (say_any _ w2).mono ?_
  rintro e wy ⟨cs, rfl, hn, hx⟩
  obtain ⟨A1, c1, A2, c2, A3, c3, rfl⟩ := hn.form
  have HN := Lib.hid hn
  have HX := Lib.hid hx
  clear hn hx
  go_wp2_with (first | (with_reducible refine stop_alloc 39 ?_) | (with_reducible refine stop_store 39 ?_))
  refine go_on (wpList_store_whole (g := g0) rfl rfl rfl rfl (HX.out.obj HR2.out) (aout_size outC_size) rfl outC_one ?_)
  intro W hrow hkW _
  go_wp2
  ((try simp only [Exit.inBlock, Exit.then]); refine bodyPost_ret (results_cell0 rfl _ _ g0 _ _ _ _ rfl hrow Try.underlying39 rfl (by kernel_rfl)) rfl ?_)
  rw [HV.out]
  have hgv := obj_lt HR2.out
  exact ⟨_, rfl, (HN.out.kept hkW (one_lt hgv)).low (Nat.le_trans hgw (Nat.le_of_lt hgv)), ((HS3.out.ext HX.out).kept hkW (by simpa using HNE.out.1) (by simpa using HNE.out.2.1) (by simp) (by simpa using HNE.out.2.2.2)).old (fun k hk => .inl (HNE.out.2.2.1 k hk)) HS.out.pM HS.out.qM (fun k hk => Nat.lt_of_lt_of_le (HS.out.lt k hk) (HK2.out.ext HX.out |>.new hkW hgw).size), (HK2.out.ext HX.out).new hkW hgw⟩
end Go.Proofs.Ytchokelpimibdaa
