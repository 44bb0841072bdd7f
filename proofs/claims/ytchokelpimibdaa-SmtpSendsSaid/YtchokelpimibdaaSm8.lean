/- The walk of the session's Step. Conditions: the hypotheses of the theorem. -/
import Derived.Test.YtchokelpimibdaaSm7
namespace Go.Proofs.Ytchokelpimibdaa
open Go.RowKit
theorem IsS.buf_ {M : List Nat} {w w' : World} {p q : Nat} {s : Se} {b : By} (h : IsS M w p q s) (hk : Kept [q] w w') (hb : IsLn M w' q b) (hl : b.length ≤ 16384) : IsS M w' p q (s.cut b) := by
  obtain ⟨A, c, h1, h2, h3⟩ := h.row
  have hqM : ∀ k ∈ [q], k ∈ M := by intro k hk; simp at hk; subst hk; exact h.qM
  exact ⟨⟨A, c, hk.heap h1 (by simpa using h.ne), h2.kept (hk.mono hqM), h3⟩, hb, h.pM, h.qM, h.ne, fun k hk' => Nat.lt_of_lt_of_le (h.lt k hk') hk.size, cut_ok h.ok hl, h.ml.kept hk (by simpa using h.mq), h.mp, h.mq⟩
theorem NewO.letter {b b2 b3 : Nat} {w : World} {fl fd : By} {to_ : List Ad} {bytes : By} {A2 : Option Addr} {c2 : Nat} {A3 : Option Addr} {c3 : Nat} (h2 : OwnR RAd 2 35 [] w w b2 (.slice A2 to_.length c2) to_) (h3 : Own w b3 (.slice A3 bytes.length c3) bytes) (hb2 : b ≤ b2) (hb3 : b ≤ b3) :
    NewO b w (outC ⟨[], true, fl, fd, to_, bytes, false⟩ none 0 A2 c2 A3 c3) ⟨[], true, fl, fd, to_, bytes, false⟩ := fun N hN => by
  have h2' : OwnR RAd 2 35 N w w b2 (.slice A2 to_.length c2) to_ := by
    obtain ⟨css, q1, q2, q3, q4⟩ := h2
    exact ⟨css, q1, q2, q3, fun k cs x h5 h6 => q4 k cs x h5 h6⟩
  exact ⟨none, 0, A2, c2, A3, c3, rfl, RsM.nil _ _ _ _ _, h2'.rsm (Kept.refl _ _) (fun k hk => Nat.lt_of_lt_of_le (hN k hk) hb2), BsM.own h3 fun k hk => Nat.lt_of_lt_of_le (hN k hk) hb3⟩
/-- behind the answer's store -/
theorem fin_out {M : List Nat} {w wy W : World} {p q g0 b : Nat} {s0 s' : Se} {o : Ou} {cs : List Value} (h0 : IsS M w p q s0) (hgw : w.heap.size ≤ g0) (hg : g0 < b) (hn : NewO b wy cs o) (hs : IsS (g0 :: M) wy p q s') (hk : Kept [p, q] w wy) (hkW : Kept [g0] wy W) :
    NewO w.heap.size W cs o ∧ IsS M W p q s' ∧ Kept [p, q] w W := by
  have hp := h0.plt
  have hq := h0.qlt
  have hm := h0.ml.lt
  have hkk := hk.new hkW hgw
  exact ⟨(hn.kept hkW (one_lt hg)).low (by omega), (hs.kept hkW (by simp; omega) (by simp; omega) (by simp) (by simp; omega)).old (fun k hk => .inl (by simp [hk])) h0.pM h0.qM (fun k hk => Nat.lt_of_lt_of_le (h0.lt k hk) hkk.size), hkk⟩
/-- what Step leaves -/
def Steps (M : List Nat) (w : World) (p q : Nat) (s : Se) (e : Ending) (w' : World) : Prop := ∃ cs : List Value, e = .returned (.tuple #[.agg cs.toArray, .bool (stepT s).2.1]) ∧ NewO w.heap.size w' cs (stepT s).1 ∧ IsS M w' p q (stepT s).2.2 ∧ Kept [p, q] w w'
set_option maxRecDepth 20000 in
set_option maxHeartbeats 8000000 in
theorem sstep_any {M : List Nat} {w : World} {p q : Nat} {s : Se} (h : IsS M w p q s) : Calls Try.prog 10 #[pt p] w (Steps M w p q s) := by
  have HS := Lib.hid h
  obtain ⟨g0, hg0⟩ : ∃ g, g = w.heap.size := ⟨_, rfl⟩
  have hgw : w.heap.size ≤ g0 := by omega
  have hg0p : g0 ∉ [p] := by have := h.plt; simp; omega
  have hg0q : g0 ∉ [q] := by have := h.qlt; simp; omega
  obtain ⟨wa, hwa⟩ : ∃ wa, wa = w.alloc (.cells zOut 39) := ⟨_, rfl⟩
  have hxa : Ext w wa := hwa ▸ (Ext.refl w).alloc _
  have HRA : Hid (wa.heap[g0]? = some (.cells zOut 39 (0, 0))) := Lib.hid (by rw [hg0, hwa]; exact heap_alloc_new w _)
  have hs2 : IsS (g0 :: M) wa p q s := h.grow hxa (fun k hk => by
      rcases List.mem_cons.1 hk with rfl | h
      · exact .inr hgw
      · exact .inl h) (by simp [h.pM]) (by simp [h.qM]) (fun k hk => by
      rcases List.mem_cons.1 hk with rfl | h'
      · exact obj_lt HRA.out
      · exact Nat.lt_of_lt_of_le (h.lt k h') hxa.size)
  have HSA := Lib.hid hs2
  have HKA := Lib.hid (Kept.of_ext (M := [p, q]) hxa)
  obtain ⟨E1, E2, E3, EF⟩ := hs2.cells
  have e1 := E1 wa (Ext.refl _)
  have e2 := E2 wa (Ext.refl _)
  have ef := fun j => EF wa j (Ext.refl _)
  have hok := h.ok
  have hst := hok.st
  unfold pt
  clear h hxa hs2 E1 E2 E3 EF
  have hT : ∀ {x : Ou × Bool × Se}, stepT s = x → Hid (stepT s = x) := fun h => Lib.hid h
  go_enter Try.func10, Try.ntmps10
  go_wp2_with (first | (with_reducible refine stop_alloc 39 ?_) | (with_reducible refine stop_store 39 ?_))
  refine go_on (wpList_alloc_ rfl rfl aout_info ?_)
  rw [← hg0, ← hwa]
  clear hg0 hwa
  by_cases h5 : s.st = 5
  · have HV := hT (x := (Ou.no, false, s)) (by unfold stepT; rw [if_pos (.inl h5)])
    have k1 : ((s.st : Int) == 5) = true := by simp; omega
    clear hT h5 hst e1 ef
    go_wp2_with (first | (with_reducible refine stop_alloc 39 ?_) | (with_reducible refine stop_store 39 ?_))
    refine go_on (wpList_store_whole (g := g0) (c' := zOut) rfl rfl rfl rfl HRA.out (aout_size rfl) rfl (by simp [zOut, outC, Ou.no, Value.oneCell']) ?_)
    intro W hrow hkW _
    go_wp2
    ((try simp only [Exit.inBlock, Exit.then]); refine bodyPost_ret (results_cell1 rfl _ _ g0 _ _ _ _ rfl hrow Try.underlying39 rfl (by kernel_rfl)) rfl ?_)
    unfold Steps
    rw [HV.out]
    exact ⟨outC Ou.no none 0 none 0 none 0, rfl, fin_out HS.out hgw (Nat.lt_succ_self _) (NewO.no _ _) HSA.out HKA.out hkW⟩
  have k5 : ((s.st : Int) == 5) = false := by simp; omega
  by_cases h6 : s.st = 6
  · have HV := hT (x := (Ou.no, false, s)) (by unfold stepT; rw [if_pos (.inr h6)])
    have k6 : ((s.st : Int) == 6) = true := by simp; omega
    clear hT h5 h6 hst e1 ef
    go_wp2_with (first | (with_reducible refine stop_alloc 39 ?_) | (with_reducible refine stop_store 39 ?_))
    refine go_on (wpList_store_whole (g := g0) (c' := zOut) rfl rfl rfl rfl HRA.out (aout_size rfl) rfl (by simp [zOut, outC, Ou.no, Value.oneCell']) ?_)
    intro W hrow hkW _
    go_wp2
    ((try simp only [Exit.inBlock, Exit.then]); refine bodyPost_ret (results_cell1 rfl _ _ g0 _ _ _ _ rfl hrow Try.underlying39 rfl (by kernel_rfl)) rfl ?_)
    unfold Steps
    rw [HV.out]
    exact ⟨outC Ou.no none 0 none 0 none 0, rfl, fin_out HS.out hgw (Nat.lt_succ_self _) (NewO.no _ _) HSA.out HKA.out hkW⟩
  have k6 : ((s.st : Int) == 6) = false := by simp; omega
  have HV0 : Hid (stepT s = if s.st = 0 then (sayO readyB, true, ⟨s.buf, 1, s.hello, s.fl, s.fd, s.to_⟩)
    else if s.st = 4 then
      (if unE s.buf ≠ 0 then (Ou.no, false, s)
       else if 600 < (unL s.buf).length then (sayO tooB, true, restS (s.cut (s.buf.drop (unN s.buf))))
       else (⟨[], true, s.fl, s.fd, s.to_, unL s.buf, false⟩, true, ⟨s.buf.drop (unN s.buf), 5, s.hello, s.fl, s.fd, s.to_⟩))
    else if lineE s.buf = 0 then ((lineT (s.cut (lineL s.buf)) (lineS s.buf)).1, true, (lineT (s.cut (lineL s.buf)) (lineS s.buf)).2)
    else if lineE s.buf = 6 then (sayO longB, true, s.cut (lineL s.buf))
    else (Ou.no, false, s)) := Lib.hid (by unfold stepT; rw [if_neg (by omega)])
  by_cases h0 : s.st = 0
  · have HV := hT (x := (sayO readyB, true, ⟨s.buf, 1, s.hello, s.fl, s.fd, s.to_⟩)) (by rw [HV0.out, if_pos h0])
    have k0 : ((s.st : Int) == 0) = true := by simp; omega
    have hset := HSA.out.set 2 (.int .i64 1) ⟨s.buf, 1, s.hello, s.fl, s.fd, s.to_⟩ rfl rfl ⟨hok.buf, hok.to_, hok.ads, by simp⟩ (fun v => rfl)
    have HSET := Lib.hid hset.1
    have HR3 := Lib.hid (hset.2.heap HRA.out hg0p)
    have HK3 := Lib.hid (HKA.out.trans hset.2.pq)
    clear hT h5 h6 hst e1 h0 HV0 hset
    go_wp2_with fail
    generalize wa.setCell ⟨p, 2, none⟩ (.int .i64 1) = w3 at *
    clear e2 ef
    refine (say_any _ w3).mono ?_
    rintro e wy ⟨cs, rfl, hn, hx⟩
    obtain ⟨A1, c1, A2, c2, A3, c3, rfl⟩ := hn.form
    have HN := Lib.hid hn
    have HX := Lib.hid hx
    clear hn hx
    go_wp2_with (first | (with_reducible refine stop_alloc 39 ?_) | (with_reducible refine stop_store 39 ?_))
    refine go_on (wpList_store_whole (g := g0) rfl rfl rfl rfl (HX.out.obj HR3.out) (aout_size outC_size) rfl outC_one ?_)
    intro W hrow hkW _
    go_wp2
    ((try simp only [Exit.inBlock, Exit.then]); refine bodyPost_ret (results_cell1 rfl _ _ g0 _ _ _ _ rfl hrow Try.underlying39 rfl (by kernel_rfl)) rfl ?_)
    unfold Steps
    rw [HV.out]
    exact ⟨_, rfl, fin_out HS.out hgw (obj_lt HR3.out) HN.out (HSET.out.ext HX.out) (HK3.out.ext HX.out) hkW⟩
  have k0 : ((s.st : Int) == 0) = false := by simp; omega
  by_cases h4 : s.st = 4
  · have k4 : ((s.st : Int) == 4) = true := by simp; omega
    have hB := LBody_any wa HSA.out.ln HSA.out.qM HSA.out.lt hok.buf HSA.out.ml
    have HV1 := Lib.hid (HV0.out.trans ((if_neg h0).trans (if_pos h4)))
    have hdr : (s.buf.drop (unN s.buf)).length ≤ 16384 := by have := hok.buf; simp; omega
    have HAD := Lib.hid hok
    have hul := unL_le s.buf
    have hbl := hok.buf
    unfold pt at hB
    clear hT h0 h4 h5 h6 hst HV0 hok
    rcases unE_or s.buf with hu | ⟨hu, hn0⟩; rotate_left
    · have HV : Hid (stepT s = (Ou.no, false, s)) := Lib.hid (HV1.out.trans (if_pos (by rw [hu]; decide)))
      rw [hu, hn0] at hB
      rw [List.drop_zero] at hB
      clear HV1 hu hn0 hul
      generalize unL s.buf = ub at *
      go_wp2_with fail
      refine hB.mono ?_
      rintro e w3 ⟨B, b, rfl, -, hk3, h3⟩
      have HS3 : Hid (IsS (g0 :: M) w3 p q s) := Lib.hid (HSA.out.buf_ hk3 h3 HAD.out.buf)
      have HR3 := Lib.hid (hk3.heap HRA.out hg0q)
      have HK3 := Lib.hid (HKA.out.trans hk3.qp)
      clear h3 hk3 hB e1 e2
      go_wp2_with (first | (with_reducible refine stop_alloc 39 ?_) | (with_reducible refine stop_store 39 ?_))
      refine go_on (wpList_store_whole (g := g0) (c' := zOut) rfl rfl rfl rfl HR3.out (aout_size rfl) rfl (by simp [zOut, outC, Ou.no, Value.oneCell']) ?_)
      intro W hrow hkW _
      go_wp2
      ((try simp only [Exit.inBlock, Exit.then]); refine bodyPost_ret (results_cell1 rfl _ _ g0 _ _ _ _ rfl hrow Try.underlying39 rfl (by kernel_rfl)) rfl ?_)
      unfold Steps
      rw [HV.out]
      exact ⟨outC Ou.no none 0 none 0 none 0, rfl, fin_out HS.out hgw (Nat.lt_succ_self _) (NewO.no _ _) HS3.out HK3.out hkW⟩
    have HV2 := Lib.hid (HV1.out.trans (if_neg (by rw [hu]; decide)))
    rw [hu] at hB
    clear HV1 hu
    by_cases hbig : 600 < (unL s.buf).length
    · have HV : Hid (stepT s = (sayO tooB, true, restS (s.cut (s.buf.drop (unN s.buf))))) := Lib.hid (HV2.out.trans (if_pos hbig))
      have hbig' : (600 : Int) < ((unL s.buf).length : Int) := by omega
      clear HV2 hbig hul
      generalize unL s.buf = ub at *
      generalize s.buf.drop (unN s.buf) = rb at *
      go_wp2_with fail
      refine hB.mono ?_
      rintro e w3 ⟨B, b, rfl, -, hk3, h3⟩
      have HS3 := Lib.hid (HSA.out.buf_ hk3 h3 hdr)
      have HR3 := Lib.hid (hk3.heap HRA.out hg0q)
      have HK3 := Lib.hid (HKA.out.trans hk3.qp)
      have HRS := srest_any HS3.out
      unfold pt at HRS
      clear h3 hk3 hB e1 e2
      go_wp2_with fail
      refine HRS.mono ?_
      rintro e w5 ⟨rfl, h5, hk5⟩
      have HR5 := Lib.hid (hk5.heap HR3.out hg0p)
      have H5 := Lib.hid h5
      have HK5 := Lib.hid (HK3.out.trans hk5.pq)
      clear HRS h5 hk5
      go_wp2_with fail
      refine (say_any _ w5).mono ?_
      rintro e wy ⟨cs, rfl, hn, hx⟩
      obtain ⟨A1, c1, A2, c2, A3, c3, rfl⟩ := hn.form
      have HN := Lib.hid hn
      have HX := Lib.hid hx
      clear hn hx
      go_wp2_with (first | (with_reducible refine stop_alloc 39 ?_) | (with_reducible refine stop_store 39 ?_))
      refine go_on (wpList_store_whole (g := g0) rfl rfl rfl rfl (HX.out.obj HR5.out) (aout_size outC_size) rfl outC_one ?_)
      intro W hrow hkW _
      go_wp2
      ((try simp only [Exit.inBlock, Exit.then]); refine bodyPost_ret (results_cell1 rfl _ _ g0 _ _ _ _ rfl hrow Try.underlying39 rfl (by kernel_rfl)) rfl ?_)
      unfold Steps
      rw [HV.out]
      exact ⟨_, rfl, fin_out HS.out hgw (obj_lt HR5.out) HN.out (H5.out.ext HX.out) (HK5.out.ext HX.out) hkW⟩
    · have HV : Hid (stepT s = (⟨[], true, s.fl, s.fd, s.to_, unL s.buf, false⟩, true, ⟨s.buf.drop (unN s.buf), 5, s.hello, s.fl, s.fd, s.to_⟩)) := Lib.hid (HV2.out.trans (if_neg hbig))
      have hbig' : ¬ (600 : Int) < ((unL s.buf).length : Int) := by omega
      clear HV2 hbig hul
      generalize unL s.buf = ub at *
      generalize s.buf.drop (unN s.buf) = rb at *
      go_wp2_with fail
      refine hB.mono ?_
      rintro e w3 ⟨B, b, rfl, ho3, hk3, h3⟩
      have hs3 := HSA.out.buf_ hk3 h3 hdr
      have hset := hs3.set 2 (.int .i64 5) ⟨rb, 5, s.hello, s.fl, s.fd, s.to_⟩ rfl rfl ⟨hs3.ok.buf, hs3.ok.to_, hs3.ok.ads, by simp⟩ (fun v => rfl)
      have e23 := hs3.cells.2.1 w3 (Ext.refl _)
      have ef3 := fun j => hs3.cells.2.2.2 w3 j (Ext.refl _)
      have HO4 := Lib.hid (own_keptP ho3 hset.2 HSA.out.plt)
      have H4 := Lib.hid hset.1
      have HR4 := Lib.hid (hset.2.heap (hk3.heap HRA.out hg0q) hg0p)
      have HK4 := Lib.hid ((HKA.out.trans hk3.qp).trans hset.2.pq)
      have HZ3 := Lib.hid (show wa.heap.size ≤ (w3.setCell ⟨p, 2, none⟩ (.int .i64 5)).heap.size from Nat.le_trans hk3.size hset.2.size)
      clear h3 hk3 hB e1 e2 hs3 hset ho3
      go_upto_region 14 with fail
      generalize w3.setCell ⟨p, 2, none⟩ (.int .i64 5) = w4 at *
      obtain ⟨A, c, hrow4, hrs4, -, -⟩ := H4.out.row
      have E64 := (row7_at hrow4).2.2.2.2.1
      have HFR : ∀ V, Ext w4 V → V.rangeAt p 4 [.string (st s.fl), .string (st s.fd)] := fun V hv => by
        have := World.rangeAt_of_block (hv.obj hrow4) 4 2
        simpa [sesC] using this
      have HCL := fun V (hx : Ext w4 V) => aclone_any A c s.to_ (g0 :: M) V (hrs4.kept (.of_ext hx)) (by have := HAD.out.to_; omega)
      have hxd : Ext w4 w4.drew := (Ext.refl _).drew
      clear e23 ef3 hrow4 hrs4 ef
      refine wp_region_phase (S := fun V => Ext w4 V) 11 (by kernel_rfl) (by kernel_rfl) ?_ (fun hHeld => ?_)
      · exact hxd
      simp only [List.drop_succ_cons, List.drop_zero]
      refine name_head ?_
      intro wr0 hw0
      rw [hw0] at hHeld
      refine wpHead_take (i := 0) (v := ?_) (by rfl) (by kernel_rfl) (by kernel_rfl) (by exact fun _ _ _ h => h) (Or.inl ⟨by rfl, ?_⟩) (by assumption) ?_
      rotate_left
      · intro w hSw
        first | (go_simp; done) | (go_simp; with_reducible rfl)
      simp only [List.getElem_toArray, List.getElem_cons_zero, Act.put, List.setIfInBounds_toArray, List.set_cons_zero, List.set_cons_succ]
      refine wpHead_take (i := 1) (v := ?_) (by rfl) (by kernel_rfl) (by kernel_rfl) (by exact fun _ _ _ h => h) (Or.inl ⟨by rfl, ?_⟩) (by assumption) ?_
      rotate_left
      · intro w hSw
        first | (go_simp; done) | (go_simp; with_reducible rfl)
      simp only [List.getElem_toArray, List.getElem_cons_succ, List.getElem_cons_zero, Act.put, List.setIfInBounds_toArray, List.set_cons_zero, List.set_cons_succ]
      refine wpHead_take (i := 2) (v := ?_) (by rfl) (by kernel_rfl) (by kernel_rfl) (by exact fun _ _ _ h => h) (Or.inl ⟨by rfl, ?_⟩) (by assumption) ?_
      rotate_left
      · intro w hSw
        first | (go_simp; done) | (go_simp; with_reducible rfl)
      simp only [List.getElem_toArray, List.getElem_cons_succ, List.getElem_cons_zero, Act.put, List.setIfInBounds_toArray, List.set_cons_zero, List.set_cons_succ]
      refine wpHead_take (i := 3) (v := (.agg #[.string (st s.fl), .string (st s.fd)])) (by rfl) (by kernel_rfl) (by kernel_rfl) (by exact fun _ _ _ h => h) (by exact yieldsIf_load_mid (by rfl) 35 _ rfl p 4 rfl [.string (st s.fl), .string (st s.fd)] _ (fun w' hx => HFR w' hx) Try.underlying35 rfl (ad_size (.string (st [])) (.string (st [])))) (by assumption) ?_
      simp only [List.getElem_toArray, List.getElem_cons_succ, List.getElem_cons_zero, Act.put, List.setIfInBounds_toArray, List.set_cons_zero, List.set_cons_succ]
      refine wpHead_take (i := 4) (v := ?_) (by rfl) (by kernel_rfl) (by kernel_rfl) (by exact fun _ _ _ h => h) (Or.inl ⟨by rfl, ?_⟩) (by assumption) ?_
      rotate_left
      · intro w hSw
        first | (go_simp; done) | (go_simp; with_reducible rfl)
      simp only [List.getElem_toArray, List.getElem_cons_succ, List.getElem_cons_zero, Act.put, List.setIfInBounds_toArray, List.set_cons_zero, List.set_cons_succ]
      refine wpHead_take (i := 5) (v := ?_) (by rfl) (by kernel_rfl) (by kernel_rfl) (by exact fun _ _ _ h => h) (Or.inl ⟨by rfl, ?_⟩) (by assumption) ?_
      rotate_left
      · intro w hSw
        first | (go_simp; done) | (go_simp; with_reducible rfl)
      simp only [List.getElem_toArray, List.getElem_cons_succ, List.getElem_cons_zero, Act.put, List.setIfInBounds_toArray, List.set_cons_zero, List.set_cons_succ]
      refine wpHead_take (i := 6) (v := ?_) (by rfl) (by kernel_rfl) (by kernel_rfl) (by exact fun _ _ _ h => h) (Or.inl ⟨by rfl, ?_⟩) (by assumption) ?_
      rotate_left
      · intro w hSw
        first | (go_simp; done) | (go_simp; with_reducible rfl)
      simp only [List.getElem_toArray, List.getElem_cons_succ, List.getElem_cons_zero, Act.put, List.setIfInBounds_toArray, List.set_cons_zero, List.set_cons_succ]
      refine wpHead_take (i := 7) (v := ?_) (by rfl) (by kernel_rfl) (by kernel_rfl) (by exact fun _ _ _ h => h) (Or.inl ⟨by rfl, ?_⟩) (by assumption) ?_
      rotate_left
      · intro w hSw
        first | (go_simp; done) | (go_simp; with_reducible rfl)
      simp only [List.getElem_toArray, List.getElem_cons_succ, List.getElem_cons_zero, Act.put, List.setIfInBounds_toArray, List.set_cons_zero, List.set_cons_succ]
      refine wpHead_take (i := 9) (v := ?_) (by rfl) (by kernel_rfl) (by kernel_rfl) (by exact fun _ _ _ h => h) (Or.inl ⟨by rfl, ?_⟩) (by assumption) ?_
      rotate_left
      · intro w hSw
        first | (go_simp; done) | (go_simp; with_reducible rfl)
      simp only [List.getElem_toArray, List.getElem_cons_succ, List.getElem_cons_zero, Act.put, List.setIfInBounds_toArray, List.set_cons_zero, List.set_cons_succ]
      refine wpHead_ready (rs := [8]) (by kernel_rfl) (by simp) (by kernel_rfl) ?_
      refine AllHead.cons (by rfl) (fun K hK => ?_) ?_
      · have hb8 := hHeld.size
        refine step_callG (by rfl) (by kernel_rfl) (HCL _ hHeld) ?_
        rintro e wr8 ⟨v8, rfl, ho8, hx8⟩
        obtain ⟨A8, c8, rfl⟩ := ho8.form
        refine ⟨_, rfl, ?_⟩
        refine hK.out _ _ ?_ (fun hHeld => ?_)
        · exact hHeld.trans hx8
        clear hK K
        try simp only [List.getElem_toArray, List.getElem_cons_succ, List.getElem_cons_zero, Act.put, List.setIfInBounds_toArray, List.set_cons_zero, List.set_cons_succ]
        refine wpHead_take (i := 10) (v := ?_) (by rfl) (by kernel_rfl) (by kernel_rfl) (by exact fun _ _ _ h => h) (Or.inl ⟨by rfl, ?_⟩) (by assumption) ?_
        rotate_left
        · intro w hSw
          first | (go_simp; done) | (go_simp; with_reducible rfl)
        simp only [List.getElem_toArray, List.getElem_cons_succ, List.getElem_cons_zero, Act.put, List.setIfInBounds_toArray, List.set_cons_zero, List.set_cons_succ]
        refine wpHead_done (by kernel_rfl) ?_
        have HN := Lib.hid (NewO.letter (fl := s.fl) (fd := s.fd) (b := wa.heap.size) ho8 (HO4.out.ext hHeld) (Nat.le_trans HZ3.out hb8) (Nat.le_refl _))
        have HX := Lib.hid hHeld
        clear ho8 hx8 hb8 HCL E64 HFR hxd hHeld
        go_wp2_with (first | (with_reducible refine stop_alloc 39 ?_) | (with_reducible refine stop_store 39 ?_))
        refine go_on (wpList_store_whole (g := g0) (c' := (outC ⟨[], true, s.fl, s.fd, s.to_, ub, false⟩ none 0 A8 c8 B b).toArray) rfl rfl rfl rfl (HX.out.obj HR4.out) (aout_size outC_size) rfl outC_one ?_)
        intro W hrow hkW _
        go_wp2
        ((try simp only [Exit.inBlock, Exit.then]); refine bodyPost_ret (results_cell1 rfl _ _ g0 _ _ _ _ rfl hrow Try.underlying39 rfl (by kernel_rfl)) rfl ?_)
        unfold Steps
        rw [HV.out]
        exact ⟨_, rfl, fin_out HS.out hgw (obj_lt HRA.out) HN.out (H4.out.ext HX.out) (HK4.out.ext HX.out) hkW⟩
      exact AllHead.nil
  have k4 : ((s.st : Int) == 4) = false := by simp; omega
  have hL := LLine_any wa HSA.out.ln HSA.out.qM HSA.out.lt hok.buf HSA.out.ml
  have HV1 := Lib.hid (HV0.out.trans ((if_neg h0).trans (if_neg h4)))
  have hll := lineL_le s.buf
  have hbuf := hok.buf
  have HLS : Hid ((lineS s.buf).length ≤ 1024) := Lib.hid (by
    unfold lineS
    split
    · simp
    · split
      · simp
      · simp; omega)
  clear hT h0 h4 h5 h6 hst HV0 ef hok
  unfold pt at hL
  by_cases l0 : lineE s.buf = 0
  · have HV : Hid (stepT s = ((lineT (s.cut (lineL s.buf)) (lineS s.buf)).1, true, (lineT (s.cut (lineL s.buf)) (lineS s.buf)).2)) := Lib.hid (HV1.out.trans (if_pos l0))
    rw [l0] at hL
    go_wp2_with fail
    refine hL.mono ?_
    rintro e w3 ⟨rfl, hk3, h3⟩
    have HS3 := Lib.hid (HSA.out.buf_ hk3 h3 (by omega))
    have HR3 := Lib.hid (hk3.heap HRA.out hg0q)
    have HK3 := Lib.hid (HKA.out.trans hk3.qp)
    have HLI := sline_any HS3.out (lineS s.buf) (by have := HLS.out; omega)
    unfold pt at HLI
    clear h3 hk3 hL e1 e2 HV1 l0
    go_wp2_with fail
    refine HLI.mono ?_
    rintro e w4 ⟨cs, rfl, hn, h4, hk4⟩
    obtain ⟨A1, c1, A2, c2, A3, c3, rfl⟩ := hn.form
    have HN := Lib.hid hn
    have H4 := Lib.hid h4
    have HR4 := Lib.hid (hk4.heap HR3.out hg0p)
    have HK4 := Lib.hid (HK3.out.trans hk4.pq)
    clear hn h4 hk4 HLI
    go_wp2_with (first | (with_reducible refine stop_alloc 39 ?_) | (with_reducible refine stop_store 39 ?_))
    refine go_on (wpList_store_whole (g := g0) rfl rfl rfl rfl HR4.out (aout_size outC_size) rfl outC_one ?_)
    intro W hrow hkW _
    go_wp2
    ((try simp only [Exit.inBlock, Exit.then]); refine bodyPost_ret (results_cell1 rfl _ _ g0 _ _ _ _ rfl hrow Try.underlying39 rfl (by kernel_rfl)) rfl ?_)
    unfold Steps
    rw [HV.out]
    exact ⟨_, rfl, fin_out HS.out hgw (obj_lt HR3.out) HN.out H4.out HK4.out hkW⟩
  by_cases l6 : lineE s.buf = 6
  · have HV : Hid (stepT s = (sayO longB, true, s.cut (lineL s.buf))) := Lib.hid (HV1.out.trans ((if_neg l0).trans (if_pos l6)))
    rw [l6] at hL
    go_wp2_with fail
    refine hL.mono ?_
    rintro e w3 ⟨rfl, hk3, h3⟩
    have HS3 := Lib.hid (HSA.out.buf_ hk3 h3 (by omega))
    have HR3 := Lib.hid (hk3.heap HRA.out hg0q)
    have HK3 := Lib.hid (HKA.out.trans hk3.qp)
    clear h3 hk3 hL e1 e2 HV1 l0 l6
    go_wp2_with fail
    refine (say_any _ w3).mono ?_
    rintro e wy ⟨cs, rfl, hn, hx⟩
    obtain ⟨A1, c1, A2, c2, A3, c3, rfl⟩ := hn.form
    have HN := Lib.hid hn
    have HX := Lib.hid hx
    clear hn hx
    go_wp2_with (first | (with_reducible refine stop_alloc 39 ?_) | (with_reducible refine stop_store 39 ?_))
    refine go_on (wpList_store_whole (g := g0) rfl rfl rfl rfl (HX.out.obj HR3.out) (aout_size outC_size) rfl outC_one ?_)
    intro W hrow hkW _
    go_wp2
    ((try simp only [Exit.inBlock, Exit.then]); refine bodyPost_ret (results_cell1 rfl _ _ g0 _ _ _ _ rfl hrow Try.underlying39 rfl (by kernel_rfl)) rfl ?_)
    unfold Steps
    rw [HV.out]
    exact ⟨_, rfl, fin_out HS.out hgw (obj_lt HR3.out) HN.out (HS3.out.ext HX.out) (HK3.out.ext HX.out) hkW⟩
  · have HV : Hid (stepT s = (Ou.no, false, s)) := Lib.hid (HV1.out.trans ((if_neg l0).trans (if_neg l6)))
    have hfn : fnd s.buf = none := by
      unfold lineE at l0 l6
      cases hf : fnd s.buf with
      | none => rfl
      | some k =>
        rw [hf] at l0 l6
        simp only at l0 l6
        split at l0
        · rename_i hc; rw [if_pos hc] at l6; exact absurd rfl l6
        · exact absurd rfl l0
    have e3 : lineE s.buf = 3 := by unfold lineE; rw [hfn]
    have e4 : lineL s.buf = s.buf := by unfold lineL; rw [hfn]
    have e5 : lineS s.buf = [] := by unfold lineS; rw [hfn]
    rw [e3, e4, e5] at hL
    clear HV1 l0 l6 hfn e3 e4 e5
    go_wp2_with fail
    refine hL.mono ?_
    rintro e w3 ⟨rfl, hk3, h3⟩
    have HS3 : Hid (IsS (g0 :: M) w3 p q s) := Lib.hid (HSA.out.buf_ hk3 h3 (by omega))
    have HR3 := Lib.hid (hk3.heap HRA.out hg0q)
    have HK3 := Lib.hid (HKA.out.trans hk3.qp)
    clear h3 hk3 hL e1 e2
    go_wp2_with (first | (with_reducible refine stop_alloc 39 ?_) | (with_reducible refine stop_store 39 ?_))
    refine go_on (wpList_store_whole (g := g0) (c' := zOut) rfl rfl rfl rfl HR3.out (aout_size rfl) rfl (by simp [zOut, outC, Ou.no, Value.oneCell']) ?_)
    intro W hrow hkW _
    go_wp2
    ((try simp only [Exit.inBlock, Exit.then]); refine bodyPost_ret (results_cell1 rfl _ _ g0 _ _ _ _ rfl hrow Try.underlying39 rfl (by kernel_rfl)) rfl ?_)
    unfold Steps
    rw [HV.out]
    exact ⟨outC Ou.no none 0 none 0 none 0, rfl, fin_out HS.out hgw (Nat.lt_succ_self _) (NewO.no _ _) HS3.out HK3.out hkW⟩
end Go.Proofs.Ytchokelpimibdaa
