/- The walks of the law's do: Drop, Redo, Ask. Conditions: the hypotheses of each theorem. -/
import Derived.Test.YtijopcdjlpafdaaC2
import Derived.Test.YtijopcdjlpafdaaCoP3M
namespace Go.Proofs.Ytijopcdjlpafdaa
open Go.RowKit
section
variable {E B : List Nat} {w0 w : World} {P p q n : Nat} {tv : Value} {s : Cs} {txs : List TxI}
set_option maxRecDepth 20000 in
set_option maxHeartbeats 4000000 in
theorem do_drop (h : PM E B w0 w P p q tv s txs n) (hn : n ≤ 900) (d : Cl) (A1 : Option Addr) (c1 : Nat) (A2 : Option Addr) (c2 : Nat) (hw8 : d.which < 256) (htn : txs.length ≤ 1000000) (hd : d.do_ = 4) :
 Calls Try.prog 18 #[pt P, .agg (clC d A1 c1 A2 c2).toArray] w (DidP E B w0 w P p q s txs n d) := by
 have HV : Hid (doS s txs d = ((dropO s (txOf txs d)).2, txs)) := Lib.hid (by unfold doS; rw [if_neg (by omega), if_neg (by omega), if_neg (by omega), if_pos hd])
 unfold DidP
 have HD := Lib.hid hd
 clear hd
 obtain ⟨wa, hwa⟩ : ∃ wa, wa = w.alloc (.cells (clC d A1 c1 A2 c2).toArray 37) := ⟨_, rfl⟩
 have hxa : Ext w wa := by rw [hwa]; exact (Ext.refl w).alloc _
 have HC0 : Hid (ClAt wa w.heap.size d A1 c1 A2 c2) := Lib.hid (by unfold ClAt; rw [hwa]; exact heap_alloc_new w _)
 have HTX : Calls Try.prog 19 #[pt P, .agg (clC d A1 c1 A2 c2).toArray] wa fun e w' => e = .returned (.agg #[.int .i64 (txOf txs d).node, .int .i64 (txOf txs d).boot, .int .i64 (txOf txs d).n]) ∧ Ext wa w' := (p_tx (h.ext hxa) d A1 c1 A2 c2 hw8 htn).mono fun _ _ h => h
 have HPM0 := Lib.hid h
 have HGL := Lib.hid h.lt
 have hwaA := hwa.symm
 unfold clC at hwaA
 unfold pt at HTX ⊢
 clear h hwa
 show Calls Try.prog 18 #[.pointer (some ⟨P, 0, none⟩), .agg #[.int .i64 d.do_, .slice A1 d.shards.length c1, .int .i64 d.shard, .bool d.keep, .int .u8 (d.which : Int), .int .i64 d.tx.node, .int .i64 d.tx.boot, .int .i64 d.tx.n, .slice A2 d.bytes.length c2]] w _
 go_enter Try.func18, Try.ntmps18
 go_wp2_with (with_reducible first | refine sL 37 ?_ | refine sL 35 ?_ | refine sA 35 ?_ | refine sS 35 ?_)
 clear hwaA
 generalize hgg : w.heap.size = g3 at *
 have HGG := Lib.hid hgg
 clear hgg
 refine go_on (wpList_load_row rfl 37 _ rfl g3 rfl 37 _ (0, 0) _ HC0.out Try.underlying37 rfl (call_size _ _ _ _ _) ?_)
 go_wp2_with fail
 refine HTX.mono ?_
 rintro e w2 ⟨rfl, hx2⟩
 clear HTX
 go_wp2_with (with_reducible first | refine sL 37 ?_ | refine sL 35 ?_ | refine sA 35 ?_ | refine sS 35 ?_)
 refine go_on (wpList_alloc_ rfl rfl apitx_info ?_)
 go_wp2_with (with_reducible first | refine sL 37 ?_ | refine sL 35 ?_ | refine sA 35 ?_ | refine sS 35 ?_)
 refine go_on (wpList_store_last rfl rfl rfl rfl (apitx_size _ _ _) rfl (by simp [Value.oneCell']) ?_)
 intro w5 hrow5 hx5 _
 have hx05 := hxa.trans (hx2.trans hx5)
 have HX5 := Lib.hid hx05
 have HPM := Lib.hid (HPM0.out.ext hx05)
 have HC := Lib.hid (HC0.out.ext (hx2.trans hx5))
 have HT : Hid (TxAt w5 w2.heap.size (txOf txs d)) := Lib.hid hrow5
 have HG5 : Hid (g3 < w2.heap.size) := Lib.hid (Nat.lt_of_lt_of_le (obj_lt HC0.out) hx2.size)
 have HPL : Hid (∀ k ∈ B, k < g3) := Lib.hid fun k hk => HGL.out k (List.mem_append.2 (.inr hk))
 clear hx2 hx5 hrow5 hx05 hxa HPM0 HC0 HGL
 generalize w2.heap.size = g5 at *
 obtain ⟨k0, k1, k2, k3, k4⟩ := HC.out.all
 obtain ⟨P0, P1, P2, PF⟩ := row3_at HPM.out.row
 clear PF
 rw [HD.out] at k0
 have hkP : P ∉ [p, q] := by have h1 := HPM.out.pP; have h2 := HPM.out.qP; simp; exact ⟨fun e => h1 e.symm, fun e => h2 e.symm⟩
 have hk5 : g5 ∉ [p, q] := by have h1 := HPL.out p HPM.out.pB; have h2 := HPL.out q HPM.out.qB; have := HG5.out; simp; omega
 have F0 : ∀ W, Kept [p, q] w5 W → W.cell? ⟨P, 0, none⟩ = some (.pointer (some ⟨p, 0, none⟩)) := fun W hx => hx.cell P0 hkP
 have F1 : ∀ W, Kept [p, q] w5 W → W.cell? ⟨P, 1, none⟩ = some (.pointer (some ⟨q, 0, none⟩)) := fun W hx => hx.cell P1 hkP
 have htx : ∀ W, Kept [p, q] w5 W → ∀ j v, (txiC (txOf txs d))[j]? = some v → W.cell? ((⟨g5, 0, none⟩ : Addr).add j) = some v := fun W hx j v hj => by
  have hj3 : j < 3 := (List.getElem?_eq_some_iff.1 hj).1
  have e : (⟨g5, 0, none⟩ : Addr).add j = ⟨g5, j, none⟩ := by
   unfold Addr.add
   by_cases h0 : j = 0 <;> simp [h0]
  rw [e, cell_of_row _ _ _ _ _ _ (hx.heap HT.out hk5)]
  match j, hj3 with
  | 0, _ => exact hj
  | 1, _ => exact hj
  | 2, _ => exact hj
 clear k1 k2 k3 k4 P0 P1 P2 hkP hk5
 generalize txOf txs d = id at *
 have hx5d : Kept [p, q] w5 w5.drew := (Kept.refl _ _).drew
 have hp5 := HPM.out.ext (Ext.refl w5).drew
 go_wp2_with fail
 clear k0
 refine wp_region_phase (S := fun w' => Kept [p, q] w5 w') 13 (by kernel_rfl) (by kernel_rfl) ?_ (fun hHeld => ?_)
 ·exact hx5d
 simp only [List.drop_succ_cons, List.drop_zero]
 refine name_head ?_
 intro wr0 hw0
 rw [hw0] at hHeld
 have hp5 := hw0 ▸ hp5
 refine wt 0 _ ?_
 simp only [red, Act.put]
 refine wt 1 _ ?_
 simp only [red, Act.put]
 refine wt 2 _ ?_
 simp only [red, Act.put]
 refine wt 3 _ ?_
 simp only [red, Act.put]
 refine wy 4 (v := .agg #[.int .i64 id.node, .int .i64 id.boot, .int .i64 id.n]) (by rfl) (by exact yieldsIf_load_elem (by rfl) 35 _ rfl ⟨g5, 0, none⟩ rfl (txiC id) _ (fun w' hx => htx w' hx) Try.underlying35 rfl (by kernel_rfl)) ?_
 simp only [red, Act.put]
 refine wt 6 _ ?_
 simp only [red, Act.put]
 refine wt 7 _ ?_
 simp only [red, Act.put]
 refine wt 8 _ ?_
 simp only [red, Act.put]
 refine wt 9 _ ?_
 simp only [red, Act.put]
 refine wy 10 (v := .agg #[.int .i64 id.node, .int .i64 id.boot, .int .i64 id.n]) (by rfl) (by exact yieldsIf_load_elem (by rfl) 35 _ rfl ⟨g5, 0, none⟩ rfl (txiC id) _ (fun w' hx => htx w' hx) Try.underlying35 rfl (by kernel_rfl)) ?_
 simp only [red, Act.put]
 refine rd [5] ?_
 refine ac (fun K hK => ?_) ?_
 ·refine step_callG (by rfl) (by kernel_rfl) (CDrop_any hp5.co hp5.ok hp5.pE hp5.lt id) ?_
  rintro e wr5 ⟨rfl, hco6, hk6⟩
  have hp6 := hp5.rc.kept hk6 (by have := HPM.out.pq; simpa using this.symm) (by intro k hk; simp at hk; subst hk; exact HPM.out.pE)
  have hl6 : ∀ k ∈ E ++ B, k < wr5.heap.size := fun k hk => Nat.lt_of_lt_of_le (hp5.lt k hk) hk6.size
  refine ⟨_, rfl, ?_⟩
  refine hK.out _ _ ?_ (fun hHeld => ?_)
  ·exact hHeld.trans (hk6.mono (by simp))
  clear hK K
  try simp only [red, Act.put]
  refine rd [11] ?_
  refine ac (fun K hK => ?_) ?_
  ·refine step_callG (by rfl) (by kernel_rfl) (RDrop_any hp6 HPM.out.ok (HPM.out.few.mono (by omega)) HPM.out.qE hl6 id) ?_
   rintro e wr11 ⟨rfl, hrc7, hk7⟩
   have hco7 := hco6.kept hk7 (by have := HPM.out.pq; simpa using this) (by intro k hk; simp at hk; subst hk; exact HPM.out.qE)
   refine ⟨_, rfl, ?_⟩
   refine hK.out _ _ ?_ (fun hHeld => ?_)
   ·exact hHeld.trans (hk7.mono (by simp))
   clear hK K
   try simp only [red, Act.put]
   refine wt 12 _ ?_
   simp only [red, Act.put]
   refine wpHead_done (by kernel_rfl) ?_
   have HPM7 := Lib.hid (HPM.out.turn (G := E ++ B) (fun _ h => h) hHeld hco7 hrc7 (ok_drop HPM.out.ok id) (few_drop HPM.out.few id))
   have HPT7 := Lib.hid (pt_kept HPM.out.pB HPM.out.qB HX5.out hHeld)
   generalize wr11 = w7 at *
   clear hw0 hp5 hco6 hk6 hp6 hl6 hrc7 hk7 hco7 hHeld hx5d F0 F1 htx
   go_wp2
   go_ret
   rw [HV.out]
   exact ⟨rfl, B, tv, HPM7.out.mono (by omega), HPT7.out⟩
  exact AllHead.nil
 exact AllHead.nil
set_option maxRecDepth 20000 in
set_option maxHeartbeats 4000000 in
theorem do_ask (h : PM E B w0 w P p q tv s txs n) (d : Cl) (A1 : Option Addr) (c1 : Nat) (A2 : Option Addr) (c2 : Nat) (hw8 : d.which < 256) (htn : txs.length ≤ 1000000) (hd : d.do_ ≠ 0 ∧ d.do_ ≠ 1 ∧ d.do_ ≠ 2 ∧ d.do_ ≠ 3 ∧ d.do_ ≠ 4 ∧ d.do_ ≠ 5 ∧ d.do_ ≠ 6) :
 Calls Try.prog 18 #[pt P, .agg (clC d A1 c1 A2 c2).toArray] w (DidP E B w0 w P p q s txs n d) := by
 have HV : Hid (doS s txs d = (s, txs)) := Lib.hid (by unfold doS; rw [if_neg (by omega), if_neg (by omega), if_neg (by omega), if_neg (by omega), if_neg (by omega), if_neg (by omega)])
 unfold DidP
 have HD := Lib.hid hd
 clear hd
 obtain ⟨wa, hwa⟩ : ∃ wa, wa = w.alloc (.cells (clC d A1 c1 A2 c2).toArray 37) := ⟨_, rfl⟩
 have hxa : Ext w wa := by rw [hwa]; exact (Ext.refl w).alloc _
 have HC0 : Hid (ClAt wa w.heap.size d A1 c1 A2 c2) := Lib.hid (by unfold ClAt; rw [hwa]; exact heap_alloc_new w _)
 have HTX : Calls Try.prog 19 #[pt P, .agg (clC d A1 c1 A2 c2).toArray] wa fun e w' => e = .returned (.agg #[.int .i64 (txOf txs d).node, .int .i64 (txOf txs d).boot, .int .i64 (txOf txs d).n]) ∧ Ext wa w' := (p_tx (h.ext hxa) d A1 c1 A2 c2 hw8 htn).mono fun _ _ h => h
 have HPM0 := Lib.hid h
 have HGL := Lib.hid h.lt
 have hwaA := hwa.symm
 unfold clC at hwaA
 unfold pt at HTX ⊢
 clear h hwa
 show Calls Try.prog 18 #[.pointer (some ⟨P, 0, none⟩), .agg #[.int .i64 d.do_, .slice A1 d.shards.length c1, .int .i64 d.shard, .bool d.keep, .int .u8 (d.which : Int), .int .i64 d.tx.node, .int .i64 d.tx.boot, .int .i64 d.tx.n, .slice A2 d.bytes.length c2]] w _
 go_enter Try.func18, Try.ntmps18
 go_wp2_with (with_reducible first | refine sL 37 ?_ | refine sL 35 ?_ | refine sA 35 ?_ | refine sS 35 ?_)
 clear hwaA
 generalize hgg : w.heap.size = g3 at *
 have HGG := Lib.hid hgg
 clear hgg
 refine go_on (wpList_load_row rfl 37 _ rfl g3 rfl 37 _ (0, 0) _ HC0.out Try.underlying37 rfl (call_size _ _ _ _ _) ?_)
 go_wp2_with fail
 refine HTX.mono ?_
 rintro e w2 ⟨rfl, hx2⟩
 clear HTX
 go_wp2_with (with_reducible first | refine sL 37 ?_ | refine sL 35 ?_ | refine sA 35 ?_ | refine sS 35 ?_)
 refine go_on (wpList_alloc_ rfl rfl apitx_info ?_)
 go_wp2_with (with_reducible first | refine sL 37 ?_ | refine sL 35 ?_ | refine sA 35 ?_ | refine sS 35 ?_)
 refine go_on (wpList_store_last rfl rfl rfl rfl (apitx_size _ _ _) rfl (by simp [Value.oneCell']) ?_)
 intro w5 hrow5 hx5 _
 have hx05 := hxa.trans (hx2.trans hx5)
 have HX5 := Lib.hid hx05
 have HPM := Lib.hid (HPM0.out.ext hx05)
 have HC := Lib.hid (HC0.out.ext (hx2.trans hx5))
 have HT : Hid (TxAt w5 w2.heap.size (txOf txs d)) := Lib.hid hrow5
 have HG5 : Hid (g3 < w2.heap.size) := Lib.hid (Nat.lt_of_lt_of_le (obj_lt HC0.out) hx2.size)
 have HPL : Hid (∀ k ∈ B, k < g3) := Lib.hid fun k hk => HGL.out k (List.mem_append.2 (.inr hk))
 clear hx2 hx5 hrow5 hx05 hxa HPM0 HC0 HGL
 generalize w2.heap.size = g5 at *
 obtain ⟨k0, k1, k2, k3, k4⟩ := HC.out.all
 obtain ⟨P0, P1, P2, PF⟩ := row3_at HPM.out.row
 clear PF
 have e0 : (d.do_ == 0) = false := by simpa using HD.out.1
 have e1 : (d.do_ == 1) = false := by simpa using HD.out.2.1
 have e2 : (d.do_ == 2) = false := by simpa using HD.out.2.2.1
 have e3 : (d.do_ == 3) = false := by simpa using HD.out.2.2.2.1
 have e4 : (d.do_ == 4) = false := by simpa using HD.out.2.2.2.2.1
 have e5 : (d.do_ == 5) = false := by simpa using HD.out.2.2.2.2.2.1
 have e6 : (d.do_ == 6) = false := by simpa using HD.out.2.2.2.2.2.2
 have hkP : P ∉ [p, q] := by have h1 := HPM.out.pP; have h2 := HPM.out.qP; simp; exact ⟨fun e => h1 e.symm, fun e => h2 e.symm⟩
 have hk5 : g5 ∉ [p, q] := by have h1 := HPL.out p HPM.out.pB; have h2 := HPL.out q HPM.out.qB; have := HG5.out; simp; omega
 have F0 : ∀ W, Kept [p, q] w5 W → W.cell? ⟨P, 0, none⟩ = some (.pointer (some ⟨p, 0, none⟩)) := fun W hx => hx.cell P0 hkP
 have F1 : ∀ W, Kept [p, q] w5 W → W.cell? ⟨P, 1, none⟩ = some (.pointer (some ⟨q, 0, none⟩)) := fun W hx => hx.cell P1 hkP
 have htx : ∀ W, Kept [p, q] w5 W → ∀ j v, (txiC (txOf txs d))[j]? = some v → W.cell? ((⟨g5, 0, none⟩ : Addr).add j) = some v := fun W hx j v hj => by
  have hj3 : j < 3 := (List.getElem?_eq_some_iff.1 hj).1
  have e : (⟨g5, 0, none⟩ : Addr).add j = ⟨g5, j, none⟩ := by
   unfold Addr.add
   by_cases h0 : j = 0 <;> simp [h0]
  rw [e, cell_of_row _ _ _ _ _ _ (hx.heap HT.out hk5)]
  match j, hj3 with
  | 0, _ => exact hj
  | 1, _ => exact hj
  | 2, _ => exact hj
 clear k1 k2 k3 k4 P0 P1 P2 hkP hk5
 generalize txOf txs d = id at *
 have hx5d : Kept [p, q] w5 w5.drew := (Kept.refl _ _).drew
 have hp5 := HPM.out.ext (Ext.refl w5).drew
 go_wp2_with fail
 clear k0 e0 e1 e2 e3 e4 e5 e6
 refine wp_region_phase (S := fun w' => Kept [p, q] w5 w') 13 (by kernel_rfl) (by kernel_rfl) ?_ (fun hHeld => ?_)
 ·exact hx5d
 simp only [List.drop_succ_cons, List.drop_zero]
 refine name_head ?_
 intro wr0 hw0
 rw [hw0] at hHeld
 have hp5 := hw0 ▸ hp5
 refine wt 0 _ ?_
 simp only [red, Act.put]
 refine wt 1 _ ?_
 simp only [red, Act.put]
 refine wt 2 _ ?_
 simp only [red, Act.put]
 refine wt 3 _ ?_
 simp only [red, Act.put]
 refine wy 4 (v := .agg #[.int .i64 id.node, .int .i64 id.boot, .int .i64 id.n]) (by rfl) (by exact yieldsIf_load_elem (by rfl) 35 _ rfl ⟨g5, 0, none⟩ rfl (txiC id) _ (fun w' hx => htx w' hx) Try.underlying35 rfl (by kernel_rfl)) ?_
 simp only [red, Act.put]
 refine wt 6 _ ?_
 simp only [red, Act.put]
 refine wt 7 _ ?_
 simp only [red, Act.put]
 refine wt 8 _ ?_
 simp only [red, Act.put]
 refine wt 9 _ ?_
 simp only [red, Act.put]
 refine wy 10 (v := .agg #[.int .i64 id.node, .int .i64 id.boot, .int .i64 id.n]) (by rfl) (by exact yieldsIf_load_elem (by rfl) 35 _ rfl ⟨g5, 0, none⟩ rfl (txiC id) _ (fun w' hx => htx w' hx) Try.underlying35 rfl (by kernel_rfl)) ?_
 simp only [red, Act.put]
 refine rd [5] ?_
 refine ac (fun K hK => ?_) ?_
 ·refine step_callG (by rfl) (by kernel_rfl) (CAsk_any hp5.co id (by have := hp5.ok.few; omega)) ?_
  rintro e wr5 ⟨rfl, hx6⟩
  have hp6 := hp5.ext hx6
  refine ⟨_, rfl, ?_⟩
  refine hK.out _ _ ?_ (fun hHeld => ?_)
  ·exact hHeld.ext hx6
  clear hK K
  try simp only [red, Act.put]
  refine rd [11] ?_
  refine ac (fun K hK => ?_) ?_
  ·refine step_callG (by rfl) (by kernel_rfl) (RAsk_any hp6.rc id (by have := hp6.ok.few; omega)) ?_
   rintro e wr11 ⟨rfl, hx7⟩
   have hp7 := hp6.ext hx7
   refine ⟨_, rfl, ?_⟩
   refine hK.out _ _ ?_ (fun hHeld => ?_)
   ·exact hHeld.ext hx7
   clear hK K
   try simp only [red, Act.put]
   refine wt 12 _ ?_
   simp only [red, Act.put]
   refine wpHead_done (by kernel_rfl) ?_
   have HPM7 := Lib.hid hp7
   have HPT7 := Lib.hid (pt_kept HPM.out.pB HPM.out.qB HX5.out hHeld)
   generalize wr11 = w7 at *
   clear hw0 hp5 hx6 hp6 hx7 hp7 hHeld hx5d F0 F1 htx
   go_wp2
   go_ret
   rw [HV.out]
   exact ⟨rfl, B, tv, HPM7.out.mono (by omega), HPT7.out⟩
  exact AllHead.nil
 exact AllHead.nil
set_option maxRecDepth 20000 in
set_option maxHeartbeats 4000000 in
theorem do_redo (h : PM E B w0 w P p q tv s txs n) (hn : n ≤ 900) (d : Cl) (A1 : Option Addr) (c1 : Nat) (A2 : Option Addr) (c2 : Nat) (hw8 : d.which < 256) (htn : txs.length ≤ 1000000) (hby : BsM B w A2 d.bytes) (hbc : d.bytes.length ≤ c2) (hbl : d.bytes.length ≤ 140737488351232) (hd : d.do_ = 6) :
 Calls Try.prog 18 #[pt P, .agg (clC d A1 c1 A2 c2).toArray] w (DidP E B w0 w P p q s txs n d) := by
 have HV : Hid (doS s txs d = (redoK s d.bytes true, txs)) := Lib.hid (by unfold doS; rw [if_neg (by omega), if_neg (by omega), if_neg (by omega), if_neg (by omega), if_neg (by omega), if_pos hd])
 unfold DidP
 have HBY := Lib.hid hby
 clear hby
 have HD := Lib.hid hd
 clear hd
 obtain ⟨wa, hwa⟩ : ∃ wa, wa = w.alloc (.cells (clC d A1 c1 A2 c2).toArray 37) := ⟨_, rfl⟩
 have hxa : Ext w wa := by rw [hwa]; exact (Ext.refl w).alloc _
 have HC0 : Hid (ClAt wa w.heap.size d A1 c1 A2 c2) := Lib.hid (by unfold ClAt; rw [hwa]; exact heap_alloc_new w _)
 have HTX : Calls Try.prog 19 #[pt P, .agg (clC d A1 c1 A2 c2).toArray] wa fun e w' => e = .returned (.agg #[.int .i64 (txOf txs d).node, .int .i64 (txOf txs d).boot, .int .i64 (txOf txs d).n]) ∧ Ext wa w' := (p_tx (h.ext hxa) d A1 c1 A2 c2 hw8 htn).mono fun _ _ h => h
 have HPM0 := Lib.hid h
 have HGL := Lib.hid h.lt
 have hwaA := hwa.symm
 unfold clC at hwaA
 unfold pt at HTX ⊢
 clear h hwa
 show Calls Try.prog 18 #[.pointer (some ⟨P, 0, none⟩), .agg #[.int .i64 d.do_, .slice A1 d.shards.length c1, .int .i64 d.shard, .bool d.keep, .int .u8 (d.which : Int), .int .i64 d.tx.node, .int .i64 d.tx.boot, .int .i64 d.tx.n, .slice A2 d.bytes.length c2]] w _
 go_enter Try.func18, Try.ntmps18
 go_wp2_with (with_reducible first | refine sL 37 ?_ | refine sL 35 ?_ | refine sA 35 ?_ | refine sS 35 ?_)
 clear hwaA
 generalize hgg : w.heap.size = g3 at *
 have HGG := Lib.hid hgg
 clear hgg
 refine go_on (wpList_load_row rfl 37 _ rfl g3 rfl 37 _ (0, 0) _ HC0.out Try.underlying37 rfl (call_size _ _ _ _ _) ?_)
 go_wp2_with fail
 refine HTX.mono ?_
 rintro e w2 ⟨rfl, hx2⟩
 clear HTX
 go_wp2_with (with_reducible first | refine sL 37 ?_ | refine sL 35 ?_ | refine sA 35 ?_ | refine sS 35 ?_)
 refine go_on (wpList_alloc_ rfl rfl apitx_info ?_)
 go_wp2_with (with_reducible first | refine sL 37 ?_ | refine sL 35 ?_ | refine sA 35 ?_ | refine sS 35 ?_)
 refine go_on (wpList_store_last rfl rfl rfl rfl (apitx_size _ _ _) rfl (by simp [Value.oneCell']) ?_)
 intro w5 hrow5 hx5 _
 have hx05 := hxa.trans (hx2.trans hx5)
 have HX5 := Lib.hid hx05
 have HPM := Lib.hid (HPM0.out.ext hx05)
 have HC := Lib.hid (HC0.out.ext (hx2.trans hx5))
 have HT : Hid (TxAt w5 w2.heap.size (txOf txs d)) := Lib.hid hrow5
 have HG5 : Hid (g3 < w2.heap.size) := Lib.hid (Nat.lt_of_lt_of_le (obj_lt HC0.out) hx2.size)
 have HPL : Hid (∀ k ∈ B, k < g3) := Lib.hid fun k hk => HGL.out k (List.mem_append.2 (.inr hk))
 clear hx2 hx5 hrow5 hx05 hxa HPM0 HC0 HGL
 generalize w2.heap.size = g5 at *
 obtain ⟨k0, k1, k2, k3, k4⟩ := HC.out.all
 obtain ⟨P0, P1, P2, PF⟩ := row3_at HPM.out.row
 clear PF
 rw [HD.out] at k0
 have k8 : w5.cell? ⟨g3, 8, none⟩ = some (.slice A2 d.bytes.length c2) := HC.out.cell rfl
 have HRD := p_redo HPM.out (by omega) A2 c2 d.bytes (BsM.kept HBY.out (.of_ext HX5.out)) hbc hbl true
 unfold pt at HRD
 clear k1 k2 k3 k4 P0 P1 P2
 go_wp2_with fail
 refine HRD.mono ?_
 rintro e w8 ⟨rfl, hpm8, hk8⟩
 have HPM8 := Lib.hid hpm8
 have HPT := Lib.hid (pt_kept HPM.out.pB HPM.out.qB HX5.out hk8)
 clear HRD hpm8 hk8 k0 k8
 go_wp2
 go_ret
 rw [HV.out]
 exact ⟨rfl, B, tv, HPM8.out.mono (by omega), HPT.out⟩
end
end Go.Proofs.Ytijopcdjlpafdaa
