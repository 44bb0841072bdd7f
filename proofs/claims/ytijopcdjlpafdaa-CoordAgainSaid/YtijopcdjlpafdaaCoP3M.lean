/- The walks of the law's do: Boot, Vote, Ack. Conditions: the hypotheses of each theorem. -/
import Derived.Test.YtijopcdjlpafdaaC2
import Derived.Test.YtijopcdjlpafdaaC7
namespace Go.Proofs.Ytijopcdjlpafdaa
open Go.RowKit
/-- what do answers, and leaves -/
def DidP (E B : List Nat) (w0 w : World) (P p q : Nat) (s : Cs) (txs : List TxI) (n : Nat) (d : Cl) (e : Ending) (w' : World) : Prop :=
 e = .returned (.bool true) ∧ ∃ B' tv', PM E B' w0 w' P p q tv' (doS s txs d).1 (doS s txs d).2 (n + 1) ∧ PTurn B w B' w'
theorem pt_kept {B : List Nat} {w w1 w2 : World} {p q : Nat} (hp : p ∈ B) (hq : q ∈ B) (h1 : Ext w w1) (h2 : Kept [p, q] w1 w2) : PTurn B w B w2 :=
 .of_kept ((Kept.of_ext h1).trans h2) fun k hk => .inl (by
  simp only [List.mem_cons, List.not_mem_nil, or_false] at hk
  rcases hk with rfl | rfl
  ·exact hp
  ·exact hq)
section
variable {E B : List Nat} {w0 w : World} {P p q n : Nat} {tv : Value} {s : Cs} {txs : List TxI}
set_option maxRecDepth 20000 in
set_option maxHeartbeats 4000000 in
theorem do_boot (h : PM E B w0 w P p q tv s txs n) (hn : n ≤ 900) (d : Cl) (A1 : Option Addr) (c1 : Nat) (A2 : Option Addr) (c2 : Nat) (hw8 : d.which < 256) (htn : txs.length ≤ 1000000) (hd : d.do_ = 0) :
 Calls Try.prog 18 #[pt P, .agg (clC d A1 c1 A2 c2).toArray] w (DidP E B w0 w P p q s txs n d) := by
 have HV : Hid (doS s txs d = (redoK s (bootO s).1 d.keep, txs)) := Lib.hid (by unfold doS; rw [if_pos hd])
 unfold DidP
 have HD := Lib.hid hd
 clear hd
 obtain ⟨wa, hwa⟩ : ∃ wa, wa = w.alloc (.cells (clC d A1 c1 A2 c2).toArray 37) := ⟨_, rfl⟩
 have hxa : Ext w wa := by rw [hwa]; exact (Ext.refl w).alloc _
 have HC0 : Hid (ClAt wa w.heap.size d A1 c1 A2 c2) := Lib.hid (by unfold ClAt; rw [hwa]; exact heap_alloc_new w _)
 have HTX : Calls Try.prog 19 #[pt P, .agg (clC d A1 c1 A2 c2).toArray] wa fun e w' => e = .returned (.agg #[.int .i64 (txOf txs d).node, .int .i64 (txOf txs d).boot, .int .i64 (txOf txs d).n]) ∧ Ext wa w' := (p_tx (h.ext hxa) d A1 c1 A2 c2 hw8 htn).mono fun _ _ h => h
 have HPM0 := Lib.hid h
 have HGL := Lib.hid h.lt
 have hwaA := hwa.symm
 unfold clC at hwaA
 unfold pt at HTX ⊢
 clear h hwa
 show Calls Try.prog 18 #[.pointer (some ⟨P, 0, none⟩), .agg #[.int .i64 d.do_, .slice A1 d.shards.length c1, .int .i64 d.shard, .bool d.keep, .int .u8 (d.which : Int), .int .i64 d.tx.node, .int .i64 d.tx.boot, .int .i64 d.tx.n, .slice A2 d.bytes.length c2]] w _
 go_enter Try.func18, Try.ntmps18
 go_wp2_with (with_reducible first | refine sL 37 ?_ | refine sL 35 ?_ | refine sA 35 ?_ | refine sS 35 ?_)
 clear hwaA
 generalize hgg : w.heap.size = g3 at *
 have HGG := Lib.hid hgg
 clear hgg
 refine go_on (wpList_load_row rfl 37 _ rfl g3 rfl 37 _ (0, 0) _ HC0.out Try.underlying37 rfl (call_size _ _ _ _ _) ?_)
 go_wp2_with fail
 refine HTX.mono ?_
 rintro e w2 ⟨rfl, hx2⟩
 clear HTX
 go_wp2_with (with_reducible first | refine sL 37 ?_ | refine sL 35 ?_ | refine sA 35 ?_ | refine sS 35 ?_)
 refine go_on (wpList_alloc_ rfl rfl apitx_info ?_)
 go_wp2_with (with_reducible first | refine sL 37 ?_ | refine sL 35 ?_ | refine sA 35 ?_ | refine sS 35 ?_)
 refine go_on (wpList_store_last rfl rfl rfl rfl (apitx_size _ _ _) rfl (by simp [Value.oneCell']) ?_)
 intro w5 hrow5 hx5 _
 have hx05 := hxa.trans (hx2.trans hx5)
 have HX5 := Lib.hid hx05
 have HPM := Lib.hid (HPM0.out.ext hx05)
 have HC := Lib.hid (HC0.out.ext (hx2.trans hx5))
 have HT : Hid (TxAt w5 w2.heap.size (txOf txs d)) := Lib.hid hrow5
 have HG5 : Hid (g3 < w2.heap.size) := Lib.hid (Nat.lt_of_lt_of_le (obj_lt HC0.out) hx2.size)
 have HPL : Hid (∀ k ∈ B, k < g3) := Lib.hid fun k hk => HGL.out k (List.mem_append.2 (.inr hk))
 clear hx2 hx5 hrow5 hx05 hxa HPM0 HC0 HGL
 generalize w2.heap.size = g5 at *
 obtain ⟨k0, k1, k2, k3, k4⟩ := HC.out.all
 obtain ⟨P0, P1, P2, PF⟩ := row3_at HPM.out.row
 clear PF
 rw [HD.out] at k0
 have HB1 := CBoot_any HPM.out.co HPM.out.ok
 unfold pt at HB1
 clear k1 k2 k4 P2
 go_wp2_with fail
 refine HB1.mono ?_
 rintro e w6 ⟨v6, rfl, ho6, hx6⟩
 obtain ⟨A6, c6, rfl⟩ := ho6.form
 have HPM6 := Lib.hid (HPM.out.ext hx6)
 have HB2 := RBoot_any HPM6.out.rc HPM6.out.ok
 unfold pt at HB2
 have HO6 := Lib.hid ho6
 have P16 := hx6.cell P1
 have k36 := hx6.cell k3
 have HX6 := Lib.hid (HX5.out.trans hx6)
 clear HB1 ho6 hx6
 go_wp2_with fail
 refine HB2.mono ?_
 rintro e w7 ⟨v7, rfl, ho7, hx7⟩
 obtain ⟨A7, c7, rfl⟩ := ho7.form
 have HPM7 := Lib.hid (HPM6.out.ext hx7)
 have HB6 : Hid (BsM B w7 A6 (bootO s).1) := Lib.hid (BsM.own (Own.ext HO6.out hx7) (fun k hk => by have := HPL.out k hk; have := HC.out; have := obj_lt this; omega))
 have HB7 := Lib.hid ho7.bs
 have HC6 := Lib.hid HO6.out.cap.1
 have HL6 : Hid ((bootO s).1.length ≤ 100) := Lib.hid (bootLen s)
 have HPT7 := Lib.hid (PTurn.of_kept (B := B) (Kept.of_ext (M := []) (HX6.out.trans hx7)) (by simp))
 have k37 := hx7.cell k36
 clear HB2 ho7 hx7 P0 P1 P16 k0 k3 k36
 have hsa := run_str (P := Try.prog) Try.underlying23 Try.underlying5 Try.underlying9 (BsM.bs HB6.out) (bootO s).1.length c6 rfl
 have hsb := run_str (P := Try.prog) Try.underlying23 Try.underlying5 Try.underlying9 HB7.out (bootO s).1.length c7 rfl
 have HRD := p_redo HPM7.out (by omega) A6 c6 (bootO s).1 HB6.out HC6.out (by have := HL6.out; omega) d.keep
 unfold pt at HRD
 generalize (bootO s).1 = r at *
 go_wp2_with fail
 refine HRD.mono ?_
 rintro e w8 ⟨rfl, hpm8, hk8⟩
 have HPM8 := Lib.hid hpm8
 have HPT := Lib.hid (HPT7.out.trans (pt_kept HPM7.out.pB HPM7.out.qB (Ext.refl _) hk8))
 clear HRD hpm8 hk8 hsa hsb
 go_wp2
 go_ret
 rw [HV.out]
 exact ⟨rfl, B, tv, HPM8.out.mono (by omega), HPT.out⟩
set_option maxRecDepth 20000 in
set_option maxHeartbeats 4000000 in
theorem do_ack (h : PM E B w0 w P p q tv s txs n) (hn : n ≤ 900) (d : Cl) (A1 : Option Addr) (c1 : Nat) (A2 : Option Addr) (c2 : Nat) (hw8 : d.which < 256) (htn : txs.length ≤ 1000000) (hd : d.do_ = 5) :
 Calls Try.prog 18 #[pt P, .agg (clC d A1 c1 A2 c2).toArray] w (DidP E B w0 w P p q s txs n d) := by
 have HV : Hid (doS s txs d = (redoK (ackO s (txOf txs d) d.shard).s (ackO s (txOf txs d) d.shard).r d.keep, txs)) := Lib.hid (by unfold doS; rw [if_neg (by omega), if_neg (by omega), if_neg (by omega), if_neg (by omega), if_pos hd])
 unfold DidP
 have HD := Lib.hid hd
 clear hd
 obtain ⟨wa, hwa⟩ : ∃ wa, wa = w.alloc (.cells (clC d A1 c1 A2 c2).toArray 37) := ⟨_, rfl⟩
 have hxa : Ext w wa := by rw [hwa]; exact (Ext.refl w).alloc _
 have HC0 : Hid (ClAt wa w.heap.size d A1 c1 A2 c2) := Lib.hid (by unfold ClAt; rw [hwa]; exact heap_alloc_new w _)
 have HTX : Calls Try.prog 19 #[pt P, .agg (clC d A1 c1 A2 c2).toArray] wa fun e w' => e = .returned (.agg #[.int .i64 (txOf txs d).node, .int .i64 (txOf txs d).boot, .int .i64 (txOf txs d).n]) ∧ Ext wa w' := (p_tx (h.ext hxa) d A1 c1 A2 c2 hw8 htn).mono fun _ _ h => h
 have HPM0 := Lib.hid h
 have HGL := Lib.hid h.lt
 have hwaA := hwa.symm
 unfold clC at hwaA
 unfold pt at HTX ⊢
 clear h hwa
 show Calls Try.prog 18 #[.pointer (some ⟨P, 0, none⟩), .agg #[.int .i64 d.do_, .slice A1 d.shards.length c1, .int .i64 d.shard, .bool d.keep, .int .u8 (d.which : Int), .int .i64 d.tx.node, .int .i64 d.tx.boot, .int .i64 d.tx.n, .slice A2 d.bytes.length c2]] w _
 go_enter Try.func18, Try.ntmps18
 go_wp2_with (with_reducible first | refine sL 37 ?_ | refine sL 35 ?_ | refine sA 35 ?_ | refine sS 35 ?_)
 clear hwaA
 generalize hgg : w.heap.size = g3 at *
 have HGG := Lib.hid hgg
 clear hgg
 refine go_on (wpList_load_row rfl 37 _ rfl g3 rfl 37 _ (0, 0) _ HC0.out Try.underlying37 rfl (call_size _ _ _ _ _) ?_)
 go_wp2_with fail
 refine HTX.mono ?_
 rintro e w2 ⟨rfl, hx2⟩
 clear HTX
 go_wp2_with (with_reducible first | refine sL 37 ?_ | refine sL 35 ?_ | refine sA 35 ?_ | refine sS 35 ?_)
 refine go_on (wpList_alloc_ rfl rfl apitx_info ?_)
 go_wp2_with (with_reducible first | refine sL 37 ?_ | refine sL 35 ?_ | refine sA 35 ?_ | refine sS 35 ?_)
 refine go_on (wpList_store_last rfl rfl rfl rfl (apitx_size _ _ _) rfl (by simp [Value.oneCell']) ?_)
 intro w5 hrow5 hx5 _
 have hx05 := hxa.trans (hx2.trans hx5)
 have HX5 := Lib.hid hx05
 have HPM := Lib.hid (HPM0.out.ext hx05)
 have HC := Lib.hid (HC0.out.ext (hx2.trans hx5))
 have HT : Hid (TxAt w5 w2.heap.size (txOf txs d)) := Lib.hid hrow5
 have HG5 : Hid (g3 < w2.heap.size) := Lib.hid (Nat.lt_of_lt_of_le (obj_lt HC0.out) hx2.size)
 have HPL : Hid (∀ k ∈ B, k < g3) := Lib.hid fun k hk => HGL.out k (List.mem_append.2 (.inr hk))
 clear hx2 hx5 hrow5 hx05 hxa HPM0 HC0 HGL
 generalize w2.heap.size = g5 at *
 obtain ⟨k0, k1, k2, k3, k4⟩ := HC.out.all
 obtain ⟨P0, P1, P2, PF⟩ := row3_at HPM.out.row
 clear PF
 rw [HD.out] at k0
 have hkP : P ∉ [p, q] := by have h1 := HPM.out.pP; have h2 := HPM.out.qP; simp; exact ⟨fun e => h1 e.symm, fun e => h2 e.symm⟩
 have hk3 : g3 ∉ [p, q] := by have h1 := HPL.out p HPM.out.pB; have h2 := HPL.out q HPM.out.qB; simp; omega
 have hk5 : g5 ∉ [p, q] := by have h1 := HPL.out p HPM.out.pB; have h2 := HPL.out q HPM.out.qB; have := HG5.out; simp; omega
 have F0 : ∀ W, Kept [p, q] w5 W → W.cell? ⟨P, 0, none⟩ = some (.pointer (some ⟨p, 0, none⟩)) := fun W hx => hx.cell P0 hkP
 have F1 : ∀ W, Kept [p, q] w5 W → W.cell? ⟨P, 1, none⟩ = some (.pointer (some ⟨q, 0, none⟩)) := fun W hx => hx.cell P1 hkP
 have F2 : ∀ W, Kept [p, q] w5 W → W.cell? ⟨g3, 0, none⟩ = some (.int .i64 5) := fun W hx => hx.cell k0 hk3
 have F3 : ∀ W, Kept [p, q] w5 W → W.cell? ⟨g3, 2, none⟩ = some (.int .i64 d.shard) := fun W hx => hx.cell k2 hk3
 have F4 : ∀ W, Kept [p, q] w5 W → W.cell? ⟨g3, 3, none⟩ = some (.bool d.keep) := fun W hx => hx.cell k3 hk3
 have htx : ∀ W, Kept [p, q] w5 W → ∀ j v, (txiC (txOf txs d))[j]? = some v → W.cell? ((⟨g5, 0, none⟩ : Addr).add j) = some v := fun W hx j v hj => by
  have hj3 : j < 3 := (List.getElem?_eq_some_iff.1 hj).1
  have e : (⟨g5, 0, none⟩ : Addr).add j = ⟨g5, j, none⟩ := by
   unfold Addr.add
   by_cases h0 : j = 0 <;> simp [h0]
  rw [e, cell_of_row _ _ _ _ _ _ (hx.heap HT.out hk5)]
  match j, hj3 with
  | 0, _ => exact hj
  | 1, _ => exact hj
  | 2, _ => exact hj
 clear k1 k2 k3 k4 P0 P1 P2 hkP hk3 hk5
 generalize txOf txs d = id at *
 have hx5d : Kept [p, q] w5 w5.drew := (Kept.refl _ _).drew
 have hp5 := HPM.out.ext (Ext.refl w5).drew
 go_wp2_with fail
 clear k0
 refine wp_region_phase (S := fun w' => Kept [p, q] w5 w') 12 (by kernel_rfl) (by kernel_rfl) ?_ (fun hHeld => ?_)
 ·exact hx5d
 simp only [List.drop_succ_cons, List.drop_zero]
 refine name_head ?_
 intro wr0 hw0
 rw [hw0] at hHeld
 have hp5 := hw0 ▸ hp5
 refine wt 0 _ ?_
 simp only [red, Act.put]
 refine wt 1 _ ?_
 simp only [red, Act.put]
 refine wt 2 _ ?_
 simp only [red, Act.put]
 refine wt 3 _ ?_
 simp only [red, Act.put]
 refine wy 4 (v := .agg #[.int .i64 id.node, .int .i64 id.boot, .int .i64 id.n]) (by rfl) (by exact yieldsIf_load_elem (by rfl) 35 _ rfl ⟨g5, 0, none⟩ rfl (txiC id) _ (fun w' hx => htx w' hx) Try.underlying35 rfl (by kernel_rfl)) ?_
 simp only [red, Act.put]
 refine wt 5 _ ?_
 simp only [red, Act.put]
 refine wt 6 _ ?_
 simp only [red, Act.put]
 refine rd [7] ?_
 refine ac (fun K hK => ?_) ?_
 ·refine step_callG (by rfl) (by kernel_rfl) (CAck_any hp5.co hp5.ok hp5.pE hp5.lt id d.shard ) ?_
  rintro e wr7 ⟨v6, rfl, ho6, hco6, hk6⟩
  obtain ⟨A6, c6, rfl⟩ := ho6.form
  refine ⟨_, rfl, ?_⟩
  refine hK.out _ _ ?_ (fun hHeld => ?_)
  ·exact hHeld.trans (hk6.mono (by simp))
  clear hK K
  try simp only [red, Act.put]
  refine wt 8 _ ?_
  simp only [red, Act.put]
  refine wt 9 _ ?_
  simp only [red, Act.put]
  refine wt 10 _ ?_
  simp only [red, Act.put]
  refine wt 11 _ ?_
  simp only [red, Act.put]
  refine wpHead_done (by kernel_rfl) ?_
  have HK6 := Lib.hid hHeld
  have HO6 := Lib.hid ho6
  have HCO6 := Lib.hid hco6
  have HL5 := Lib.hid hp5.lt
  have HOK6 := Lib.hid (ok_ack hp5.ok id d.shard )
  have HFW6 := Lib.hid (few_ack hp5.few id d.shard )
  have HL6 : Hid ((ackO s id d.shard ).r.length ≤ 100) := Lib.hid (ackLen _ _ _)
  have hp6 := (hp5.rc.kept hk6 (by have := HPM.out.pq; simpa using this.symm) (by intro k hk; simp at hk; subst hk; exact HPM.out.pE))
  have hl6 : ∀ k ∈ E ++ B, k < wr7.heap.size := fun k hk => Nat.lt_of_lt_of_le (HPM.out.lt k hk) hHeld.size
  generalize wr0.heap.size = b0 at *
  generalize wr7 = w6 at *
  clear hw0 hp5 ho6 hco6 hk6 hx5d hHeld
  have hx6d := HK6.out.drew
  have hr6 := hp6.ext (Ext.refl w6).drew
  have hl6d : ∀ k ∈ E ++ B, k < w6.drew.heap.size := hl6
  go_wp2_with fail
  refine wp_region_phase (S := fun w' => Kept [p, q] w5 w') 12 (by kernel_rfl) (by kernel_rfl) ?_ (fun hHeld => ?_)
  ·exact hx6d
  simp only [List.drop_succ_cons, List.drop_zero]
  refine name_head ?_
  intro wr0 hw0
  rw [hw0] at hHeld
  have hr6 := hw0 ▸ hr6
  have hl6d := hw0 ▸ hl6d
  have hk60 : Kept [q] w6 wr0 := hw0 ▸ (Kept.refl [q] w6).drew
  refine wt 0 _ ?_
  simp only [red, Act.put]
  refine wt 1 _ ?_
  simp only [red, Act.put]
  refine wt 2 _ ?_
  simp only [red, Act.put]
  refine wt 3 _ ?_
  simp only [red, Act.put]
  refine wy 4 (v := .agg #[.int .i64 id.node, .int .i64 id.boot, .int .i64 id.n]) (by rfl) (by exact yieldsIf_load_elem (by rfl) 35 _ rfl ⟨g5, 0, none⟩ rfl (txiC id) _ (fun w' hx => htx w' hx) Try.underlying35 rfl (by kernel_rfl)) ?_
  simp only [red, Act.put]
  refine wt 5 _ ?_
  simp only [red, Act.put]
  refine wt 6 _ ?_
  simp only [red, Act.put]
  refine rd [7] ?_
  refine ac (fun K hK => ?_) ?_
  ·refine step_callG (by rfl) (by kernel_rfl) (RAck_any hr6 HPM.out.ok (HPM.out.few.mono (by omega)) HPM.out.qE hl6d id d.shard ) ?_
   rintro e wr7 ⟨v7, rfl, ho7, hrc7, hk7⟩
   obtain ⟨A7, c7, rfl⟩ := ho7.form
   refine ⟨_, rfl, ?_⟩
   refine hK.out _ _ ?_ (fun hHeld => ?_)
   ·exact hHeld.trans (hk7.mono (by simp))
   clear hK K
   try simp only [red, Act.put]
   refine wt 8 _ ?_
   simp only [red, Act.put]
   refine wt 9 _ ?_
   simp only [red, Act.put]
   refine wt 10 _ ?_
   simp only [red, Act.put]
   refine wt 11 _ ?_
   simp only [red, Act.put]
   refine wpHead_done (by kernel_rfl) ?_
   have hk67 := hk60.trans hk7
   have hco7 := HCO6.out.kept hk67 (by have := HPM.out.pq; simpa using this) (by intro k hk; simp at hk; subst hk; exact HPM.out.qE)
   have HPM7 := Lib.hid (HPM.out.turn (G := E ++ B) (fun _ h => h) hHeld hco7 hrc7 HOK6.out HFW6.out)
   have HB6 := Lib.hid (BsM.kept (BsM.own (M := B) HO6.out (fun k hk => HL5.out k (List.mem_append.2 (.inr hk)))) (hk67.mono (by intro k hk; simp at hk; subst hk; exact HPM.out.qB)))
   have HB7 := Lib.hid ho7.bs
   have HC6 := Lib.hid HO6.out.cap.1
   have HPT7 := Lib.hid (pt_kept HPM.out.pB HPM.out.qB HX5.out hHeld)
   have k37 := F4 _ hHeld
   generalize wr7 = w7 at *
   clear hw0 hr6 hl6d hk60 ho7 hrc7 hk7 hk67 hco7 hHeld hx6d hp6 hl6 F0 F1 F2 F3 F4 htx
   have hsa := run_str (P := Try.prog) Try.underlying23 Try.underlying5 Try.underlying9 (BsM.bs HB6.out) (ackO s id d.shard ).r.length c6 rfl
   have hsb := run_str (P := Try.prog) Try.underlying23 Try.underlying5 Try.underlying9 HB7.out (ackO s id d.shard ).r.length c7 rfl
   have HRD := p_redo HPM7.out (by omega) A6 c6 (ackO s id d.shard ).r HB6.out HC6.out (by have := HL6.out; omega) d.keep
   unfold pt at HRD
   generalize (ackO s id d.shard ).r = r at *
   go_wp2_with fail
   refine HRD.mono ?_
   rintro e w8 ⟨rfl, hpm8, hk8⟩
   have HPM8 := Lib.hid hpm8
   have HPT := Lib.hid (HPT7.out.trans (pt_kept HPM7.out.pB HPM7.out.qB (Ext.refl _) hk8))
   clear HRD hpm8 hk8 hsa hsb
   go_wp2
   go_ret
   rw [HV.out]
   exact ⟨rfl, B, tv, HPM8.out.mono (by omega), HPT.out⟩
  exact AllHead.nil
 exact AllHead.nil
set_option maxRecDepth 20000 in
set_option maxHeartbeats 4000000 in
theorem do_yes (h : PM E B w0 w P p q tv s txs n) (hn : n ≤ 900) (d : Cl) (A1 : Option Addr) (c1 : Nat) (A2 : Option Addr) (c2 : Nat) (hw8 : d.which < 256) (htn : txs.length ≤ 1000000) (hd : d.do_ = 2) :
 Calls Try.prog 18 #[pt P, .agg (clC d A1 c1 A2 c2).toArray] w (DidP E B w0 w P p q s txs n d) := by
 have HV : Hid (doS s txs d = (redoK (voteO s (txOf txs d) d.shard true).s (voteO s (txOf txs d) d.shard true).r d.keep, txs)) := Lib.hid (by unfold doS; rw [if_neg (by omega), if_neg (by omega), if_pos (by omega), show (d.do_ == 2) = true by rw [hd]; rfl])
 unfold DidP
 have HD := Lib.hid hd
 clear hd
 obtain ⟨wa, hwa⟩ : ∃ wa, wa = w.alloc (.cells (clC d A1 c1 A2 c2).toArray 37) := ⟨_, rfl⟩
 have hxa : Ext w wa := by rw [hwa]; exact (Ext.refl w).alloc _
 have HC0 : Hid (ClAt wa w.heap.size d A1 c1 A2 c2) := Lib.hid (by unfold ClAt; rw [hwa]; exact heap_alloc_new w _)
 have HTX : Calls Try.prog 19 #[pt P, .agg (clC d A1 c1 A2 c2).toArray] wa fun e w' => e = .returned (.agg #[.int .i64 (txOf txs d).node, .int .i64 (txOf txs d).boot, .int .i64 (txOf txs d).n]) ∧ Ext wa w' := (p_tx (h.ext hxa) d A1 c1 A2 c2 hw8 htn).mono fun _ _ h => h
 have HPM0 := Lib.hid h
 have HGL := Lib.hid h.lt
 have hwaA := hwa.symm
 unfold clC at hwaA
 unfold pt at HTX ⊢
 clear h hwa
 show Calls Try.prog 18 #[.pointer (some ⟨P, 0, none⟩), .agg #[.int .i64 d.do_, .slice A1 d.shards.length c1, .int .i64 d.shard, .bool d.keep, .int .u8 (d.which : Int), .int .i64 d.tx.node, .int .i64 d.tx.boot, .int .i64 d.tx.n, .slice A2 d.bytes.length c2]] w _
 go_enter Try.func18, Try.ntmps18
 go_wp2_with (with_reducible first | refine sL 37 ?_ | refine sL 35 ?_ | refine sA 35 ?_ | refine sS 35 ?_)
 clear hwaA
 generalize hgg : w.heap.size = g3 at *
 have HGG := Lib.hid hgg
 clear hgg
 refine go_on (wpList_load_row rfl 37 _ rfl g3 rfl 37 _ (0, 0) _ HC0.out Try.underlying37 rfl (call_size _ _ _ _ _) ?_)
 go_wp2_with fail
 refine HTX.mono ?_
 rintro e w2 ⟨rfl, hx2⟩
 clear HTX
 go_wp2_with (with_reducible first | refine sL 37 ?_ | refine sL 35 ?_ | refine sA 35 ?_ | refine sS 35 ?_)
 refine go_on (wpList_alloc_ rfl rfl apitx_info ?_)
 go_wp2_with (with_reducible first | refine sL 37 ?_ | refine sL 35 ?_ | refine sA 35 ?_ | refine sS 35 ?_)
 refine go_on (wpList_store_last rfl rfl rfl rfl (apitx_size _ _ _) rfl (by simp [Value.oneCell']) ?_)
 intro w5 hrow5 hx5 _
 have hx05 := hxa.trans (hx2.trans hx5)
 have HX5 := Lib.hid hx05
 have HPM := Lib.hid (HPM0.out.ext hx05)
 have HC := Lib.hid (HC0.out.ext (hx2.trans hx5))
 have HT : Hid (TxAt w5 w2.heap.size (txOf txs d)) := Lib.hid hrow5
 have HG5 : Hid (g3 < w2.heap.size) := Lib.hid (Nat.lt_of_lt_of_le (obj_lt HC0.out) hx2.size)
 have HPL : Hid (∀ k ∈ B, k < g3) := Lib.hid fun k hk => HGL.out k (List.mem_append.2 (.inr hk))
 clear hx2 hx5 hrow5 hx05 hxa HPM0 HC0 HGL
 generalize w2.heap.size = g5 at *
 obtain ⟨k0, k1, k2, k3, k4⟩ := HC.out.all
 obtain ⟨P0, P1, P2, PF⟩ := row3_at HPM.out.row
 clear PF
 rw [HD.out] at k0
 have hkP : P ∉ [p, q] := by have h1 := HPM.out.pP; have h2 := HPM.out.qP; simp; exact ⟨fun e => h1 e.symm, fun e => h2 e.symm⟩
 have hk3 : g3 ∉ [p, q] := by have h1 := HPL.out p HPM.out.pB; have h2 := HPL.out q HPM.out.qB; simp; omega
 have hk5 : g5 ∉ [p, q] := by have h1 := HPL.out p HPM.out.pB; have h2 := HPL.out q HPM.out.qB; have := HG5.out; simp; omega
 have F0 : ∀ W, Kept [p, q] w5 W → W.cell? ⟨P, 0, none⟩ = some (.pointer (some ⟨p, 0, none⟩)) := fun W hx => hx.cell P0 hkP
 have F1 : ∀ W, Kept [p, q] w5 W → W.cell? ⟨P, 1, none⟩ = some (.pointer (some ⟨q, 0, none⟩)) := fun W hx => hx.cell P1 hkP
 have F2 : ∀ W, Kept [p, q] w5 W → W.cell? ⟨g3, 0, none⟩ = some (.int .i64 2) := fun W hx => hx.cell k0 hk3
 have F3 : ∀ W, Kept [p, q] w5 W → W.cell? ⟨g3, 2, none⟩ = some (.int .i64 d.shard) := fun W hx => hx.cell k2 hk3
 have F4 : ∀ W, Kept [p, q] w5 W → W.cell? ⟨g3, 3, none⟩ = some (.bool d.keep) := fun W hx => hx.cell k3 hk3
 have htx : ∀ W, Kept [p, q] w5 W → ∀ j v, (txiC (txOf txs d))[j]? = some v → W.cell? ((⟨g5, 0, none⟩ : Addr).add j) = some v := fun W hx j v hj => by
  have hj3 : j < 3 := (List.getElem?_eq_some_iff.1 hj).1
  have e : (⟨g5, 0, none⟩ : Addr).add j = ⟨g5, j, none⟩ := by
   unfold Addr.add
   by_cases h0 : j = 0 <;> simp [h0]
  rw [e, cell_of_row _ _ _ _ _ _ (hx.heap HT.out hk5)]
  match j, hj3 with
  | 0, _ => exact hj
  | 1, _ => exact hj
  | 2, _ => exact hj
 clear k1 k2 k3 k4 P0 P1 P2 hkP hk3 hk5
 generalize txOf txs d = id at *
 have hx5d : Kept [p, q] w5 w5.drew := (Kept.refl _ _).drew
 have hp5 := HPM.out.ext (Ext.refl w5).drew
 go_wp2_with fail
 clear k0
 refine wp_region_phase (S := fun w' => Kept [p, q] w5 w') 15 (by kernel_rfl) (by kernel_rfl) ?_ (fun hHeld => ?_)
 ·exact hx5d
 simp only [List.drop_succ_cons, List.drop_zero]
 refine name_head ?_
 intro wr0 hw0
 rw [hw0] at hHeld
 have hp5 := hw0 ▸ hp5
 refine wt 0 _ ?_
 simp only [red, Act.put]
 refine wt 1 _ ?_
 simp only [red, Act.put]
 refine wt 2 _ ?_
 simp only [red, Act.put]
 refine wt 3 _ ?_
 simp only [red, Act.put]
 refine wy 4 (v := .agg #[.int .i64 id.node, .int .i64 id.boot, .int .i64 id.n]) (by rfl) (by exact yieldsIf_load_elem (by rfl) 35 _ rfl ⟨g5, 0, none⟩ rfl (txiC id) _ (fun w' hx => htx w' hx) Try.underlying35 rfl (by kernel_rfl)) ?_
 simp only [red, Act.put]
 refine wt 5 _ ?_
 simp only [red, Act.put]
 refine wt 6 _ ?_
 simp only [red, Act.put]
 refine wt 7 _ ?_
 simp only [red, Act.put]
 refine wt 8 _ ?_
 simp only [red, Act.put]
 refine wt 9 _ ?_
 simp only [red, Act.put]
 refine rd [10] ?_
 refine ac (fun K hK => ?_) ?_
 ·refine step_callG (by rfl) (by kernel_rfl) (CVote_any hp5.co hp5.ok hp5.pE hp5.lt id d.shard true) ?_
  rintro e wr10 ⟨v6, rfl, ho6, hco6, hk6⟩
  obtain ⟨A6, c6, rfl⟩ := ho6.form
  refine ⟨_, rfl, ?_⟩
  refine hK.out _ _ ?_ (fun hHeld => ?_)
  ·exact hHeld.trans (hk6.mono (by simp))
  clear hK K
  try simp only [red, Act.put]
  refine wt 11 _ ?_
  simp only [red, Act.put]
  refine wt 12 _ ?_
  simp only [red, Act.put]
  refine wt 13 _ ?_
  simp only [red, Act.put]
  refine wt 14 _ ?_
  simp only [red, Act.put]
  refine wpHead_done (by kernel_rfl) ?_
  have HK6 := Lib.hid hHeld
  have HO6 := Lib.hid ho6
  have HCO6 := Lib.hid hco6
  have HL5 := Lib.hid hp5.lt
  have HOK6 := Lib.hid (ok_vote hp5.ok id d.shard true)
  have HFW6 := Lib.hid (few_vote hp5.few id d.shard true)
  have HL6 : Hid ((voteO s id d.shard true).r.length ≤ 100) := Lib.hid (voteLen HPM.out.ok _ _ _)
  have hp6 := (hp5.rc.kept hk6 (by have := HPM.out.pq; simpa using this.symm) (by intro k hk; simp at hk; subst hk; exact HPM.out.pE))
  have hl6 : ∀ k ∈ E ++ B, k < wr10.heap.size := fun k hk => Nat.lt_of_lt_of_le (HPM.out.lt k hk) hHeld.size
  generalize wr0.heap.size = b0 at *
  generalize wr10 = w6 at *
  clear hw0 hp5 ho6 hco6 hk6 hx5d hHeld
  have hx6d := HK6.out.drew
  have hr6 := hp6.ext (Ext.refl w6).drew
  have hl6d : ∀ k ∈ E ++ B, k < w6.drew.heap.size := hl6
  go_wp2_with fail
  refine wp_region_phase (S := fun w' => Kept [p, q] w5 w') 15 (by kernel_rfl) (by kernel_rfl) ?_ (fun hHeld => ?_)
  ·exact hx6d
  simp only [List.drop_succ_cons, List.drop_zero]
  refine name_head ?_
  intro wr0 hw0
  rw [hw0] at hHeld
  have hr6 := hw0 ▸ hr6
  have hl6d := hw0 ▸ hl6d
  have hk60 : Kept [q] w6 wr0 := hw0 ▸ (Kept.refl [q] w6).drew
  refine wt 0 _ ?_
  simp only [red, Act.put]
  refine wt 1 _ ?_
  simp only [red, Act.put]
  refine wt 2 _ ?_
  simp only [red, Act.put]
  refine wt 3 _ ?_
  simp only [red, Act.put]
  refine wy 4 (v := .agg #[.int .i64 id.node, .int .i64 id.boot, .int .i64 id.n]) (by rfl) (by exact yieldsIf_load_elem (by rfl) 35 _ rfl ⟨g5, 0, none⟩ rfl (txiC id) _ (fun w' hx => htx w' hx) Try.underlying35 rfl (by kernel_rfl)) ?_
  simp only [red, Act.put]
  refine wt 5 _ ?_
  simp only [red, Act.put]
  refine wt 6 _ ?_
  simp only [red, Act.put]
  refine wt 7 _ ?_
  simp only [red, Act.put]
  refine wt 8 _ ?_
  simp only [red, Act.put]
  refine wt 9 _ ?_
  simp only [red, Act.put]
  refine rd [10] ?_
  refine ac (fun K hK => ?_) ?_
  ·refine step_callG (by rfl) (by kernel_rfl) (RVote_any hr6 HPM.out.ok (HPM.out.few.mono (by omega)) HPM.out.qE hl6d id d.shard true) ?_
   rintro e wr10 ⟨v7, rfl, ho7, hrc7, hk7⟩
   obtain ⟨A7, c7, rfl⟩ := ho7.form
   refine ⟨_, rfl, ?_⟩
   refine hK.out _ _ ?_ (fun hHeld => ?_)
   ·exact hHeld.trans (hk7.mono (by simp))
   clear hK K
   try simp only [red, Act.put]
   refine wt 11 _ ?_
   simp only [red, Act.put]
   refine wt 12 _ ?_
   simp only [red, Act.put]
   refine wt 13 _ ?_
   simp only [red, Act.put]
   refine wt 14 _ ?_
   simp only [red, Act.put]
   refine wpHead_done (by kernel_rfl) ?_
   have hk67 := hk60.trans hk7
   have hco7 := HCO6.out.kept hk67 (by have := HPM.out.pq; simpa using this) (by intro k hk; simp at hk; subst hk; exact HPM.out.qE)
   have HPM7 := Lib.hid (HPM.out.turn (G := E ++ B) (fun _ h => h) hHeld hco7 hrc7 HOK6.out HFW6.out)
   have HB6 := Lib.hid (BsM.kept (BsM.own (M := B) HO6.out (fun k hk => HL5.out k (List.mem_append.2 (.inr hk)))) (hk67.mono (by intro k hk; simp at hk; subst hk; exact HPM.out.qB)))
   have HB7 := Lib.hid ho7.bs
   have HC6 := Lib.hid HO6.out.cap.1
   have HPT7 := Lib.hid (pt_kept HPM.out.pB HPM.out.qB HX5.out hHeld)
   have k37 := F4 _ hHeld
   generalize wr10 = w7 at *
   clear hw0 hr6 hl6d hk60 ho7 hrc7 hk7 hk67 hco7 hHeld hx6d hp6 hl6 F0 F1 F2 F3 F4 htx
   have hsa := run_str (P := Try.prog) Try.underlying23 Try.underlying5 Try.underlying9 (BsM.bs HB6.out) (voteO s id d.shard true).r.length c6 rfl
   have hsb := run_str (P := Try.prog) Try.underlying23 Try.underlying5 Try.underlying9 HB7.out (voteO s id d.shard true).r.length c7 rfl
   have HRD := p_redo HPM7.out (by omega) A6 c6 (voteO s id d.shard true).r HB6.out HC6.out (by have := HL6.out; omega) d.keep
   unfold pt at HRD
   generalize (voteO s id d.shard true).r = r at *
   go_wp2_with fail
   refine HRD.mono ?_
   rintro e w8 ⟨rfl, hpm8, hk8⟩
   have HPM8 := Lib.hid hpm8
   have HPT := Lib.hid (HPT7.out.trans (pt_kept HPM7.out.pB HPM7.out.qB (Ext.refl _) hk8))
   clear HRD hpm8 hk8 hsa hsb
   go_wp2
   go_ret
   rw [HV.out]
   exact ⟨rfl, B, tv, HPM8.out.mono (by omega), HPT.out⟩
  exact AllHead.nil
 exact AllHead.nil
set_option maxRecDepth 20000 in
set_option maxHeartbeats 4000000 in
theorem do_no (h : PM E B w0 w P p q tv s txs n) (hn : n ≤ 900) (d : Cl) (A1 : Option Addr) (c1 : Nat) (A2 : Option Addr) (c2 : Nat) (hw8 : d.which < 256) (htn : txs.length ≤ 1000000) (hd : d.do_ = 3) :
 Calls Try.prog 18 #[pt P, .agg (clC d A1 c1 A2 c2).toArray] w (DidP E B w0 w P p q s txs n d) := by
 have HV : Hid (doS s txs d = (redoK (voteO s (txOf txs d) d.shard false).s (voteO s (txOf txs d) d.shard false).r d.keep, txs)) := Lib.hid (by unfold doS; rw [if_neg (by omega), if_neg (by omega), if_pos (by omega), show (d.do_ == 2) = false by rw [hd]; rfl])
 unfold DidP
 have HD := Lib.hid hd
 clear hd
 obtain ⟨wa, hwa⟩ : ∃ wa, wa = w.alloc (.cells (clC d A1 c1 A2 c2).toArray 37) := ⟨_, rfl⟩
 have hxa : Ext w wa := by rw [hwa]; exact (Ext.refl w).alloc _
 have HC0 : Hid (ClAt wa w.heap.size d A1 c1 A2 c2) := Lib.hid (by unfold ClAt; rw [hwa]; exact heap_alloc_new w _)
 have HTX : Calls Try.prog 19 #[pt P, .agg (clC d A1 c1 A2 c2).toArray] wa fun e w' => e = .returned (.agg #[.int .i64 (txOf txs d).node, .int .i64 (txOf txs d).boot, .int .i64 (txOf txs d).n]) ∧ Ext wa w' := (p_tx (h.ext hxa) d A1 c1 A2 c2 hw8 htn).mono fun _ _ h => h
 have HPM0 := Lib.hid h
 have HGL := Lib.hid h.lt
 have hwaA := hwa.symm
 unfold clC at hwaA
 unfold pt at HTX ⊢
 clear h hwa
 show Calls Try.prog 18 #[.pointer (some ⟨P, 0, none⟩), .agg #[.int .i64 d.do_, .slice A1 d.shards.length c1, .int .i64 d.shard, .bool d.keep, .int .u8 (d.which : Int), .int .i64 d.tx.node, .int .i64 d.tx.boot, .int .i64 d.tx.n, .slice A2 d.bytes.length c2]] w _
 go_enter Try.func18, Try.ntmps18
 go_wp2_with (with_reducible first | refine sL 37 ?_ | refine sL 35 ?_ | refine sA 35 ?_ | refine sS 35 ?_)
 clear hwaA
 generalize hgg : w.heap.size = g3 at *
 have HGG := Lib.hid hgg
 clear hgg
 refine go_on (wpList_load_row rfl 37 _ rfl g3 rfl 37 _ (0, 0) _ HC0.out Try.underlying37 rfl (call_size _ _ _ _ _) ?_)
 go_wp2_with fail
 refine HTX.mono ?_
 rintro e w2 ⟨rfl, hx2⟩
 clear HTX
 go_wp2_with (with_reducible first | refine sL 37 ?_ | refine sL 35 ?_ | refine sA 35 ?_ | refine sS 35 ?_)
 refine go_on (wpList_alloc_ rfl rfl apitx_info ?_)
 go_wp2_with (with_reducible first | refine sL 37 ?_ | refine sL 35 ?_ | refine sA 35 ?_ | refine sS 35 ?_)
 refine go_on (wpList_store_last rfl rfl rfl rfl (apitx_size _ _ _) rfl (by simp [Value.oneCell']) ?_)
 intro w5 hrow5 hx5 _
 have hx05 := hxa.trans (hx2.trans hx5)
 have HX5 := Lib.hid hx05
 have HPM := Lib.hid (HPM0.out.ext hx05)
 have HC := Lib.hid (HC0.out.ext (hx2.trans hx5))
 have HT : Hid (TxAt w5 w2.heap.size (txOf txs d)) := Lib.hid hrow5
 have HG5 : Hid (g3 < w2.heap.size) := Lib.hid (Nat.lt_of_lt_of_le (obj_lt HC0.out) hx2.size)
 have HPL : Hid (∀ k ∈ B, k < g3) := Lib.hid fun k hk => HGL.out k (List.mem_append.2 (.inr hk))
 clear hx2 hx5 hrow5 hx05 hxa HPM0 HC0 HGL
 generalize w2.heap.size = g5 at *
 obtain ⟨k0, k1, k2, k3, k4⟩ := HC.out.all
 obtain ⟨P0, P1, P2, PF⟩ := row3_at HPM.out.row
 clear PF
 rw [HD.out] at k0
 have hkP : P ∉ [p, q] := by have h1 := HPM.out.pP; have h2 := HPM.out.qP; simp; exact ⟨fun e => h1 e.symm, fun e => h2 e.symm⟩
 have hk3 : g3 ∉ [p, q] := by have h1 := HPL.out p HPM.out.pB; have h2 := HPL.out q HPM.out.qB; simp; omega
 have hk5 : g5 ∉ [p, q] := by have h1 := HPL.out p HPM.out.pB; have h2 := HPL.out q HPM.out.qB; have := HG5.out; simp; omega
 have F0 : ∀ W, Kept [p, q] w5 W → W.cell? ⟨P, 0, none⟩ = some (.pointer (some ⟨p, 0, none⟩)) := fun W hx => hx.cell P0 hkP
 have F1 : ∀ W, Kept [p, q] w5 W → W.cell? ⟨P, 1, none⟩ = some (.pointer (some ⟨q, 0, none⟩)) := fun W hx => hx.cell P1 hkP
 have F2 : ∀ W, Kept [p, q] w5 W → W.cell? ⟨g3, 0, none⟩ = some (.int .i64 3) := fun W hx => hx.cell k0 hk3
 have F3 : ∀ W, Kept [p, q] w5 W → W.cell? ⟨g3, 2, none⟩ = some (.int .i64 d.shard) := fun W hx => hx.cell k2 hk3
 have F4 : ∀ W, Kept [p, q] w5 W → W.cell? ⟨g3, 3, none⟩ = some (.bool d.keep) := fun W hx => hx.cell k3 hk3
 have htx : ∀ W, Kept [p, q] w5 W → ∀ j v, (txiC (txOf txs d))[j]? = some v → W.cell? ((⟨g5, 0, none⟩ : Addr).add j) = some v := fun W hx j v hj => by
  have hj3 : j < 3 := (List.getElem?_eq_some_iff.1 hj).1
  have e : (⟨g5, 0, none⟩ : Addr).add j = ⟨g5, j, none⟩ := by
   unfold Addr.add
   by_cases h0 : j = 0 <;> simp [h0]
  rw [e, cell_of_row _ _ _ _ _ _ (hx.heap HT.out hk5)]
  match j, hj3 with
  | 0, _ => exact hj
  | 1, _ => exact hj
  | 2, _ => exact hj
 clear k1 k2 k3 k4 P0 P1 P2 hkP hk3 hk5
 generalize txOf txs d = id at *
 have hx5d : Kept [p, q] w5 w5.drew := (Kept.refl _ _).drew
 have hp5 := HPM.out.ext (Ext.refl w5).drew
 go_wp2_with fail
 clear k0
 refine wp_region_phase (S := fun w' => Kept [p, q] w5 w') 15 (by kernel_rfl) (by kernel_rfl) ?_ (fun hHeld => ?_)
 ·exact hx5d
 simp only [List.drop_succ_cons, List.drop_zero]
 refine name_head ?_
 intro wr0 hw0
 rw [hw0] at hHeld
 have hp5 := hw0 ▸ hp5
 refine wt 0 _ ?_
 simp only [red, Act.put]
 refine wt 1 _ ?_
 simp only [red, Act.put]
 refine wt 2 _ ?_
 simp only [red, Act.put]
 refine wt 3 _ ?_
 simp only [red, Act.put]
 refine wy 4 (v := .agg #[.int .i64 id.node, .int .i64 id.boot, .int .i64 id.n]) (by rfl) (by exact yieldsIf_load_elem (by rfl) 35 _ rfl ⟨g5, 0, none⟩ rfl (txiC id) _ (fun w' hx => htx w' hx) Try.underlying35 rfl (by kernel_rfl)) ?_
 simp only [red, Act.put]
 refine wt 5 _ ?_
 simp only [red, Act.put]
 refine wt 6 _ ?_
 simp only [red, Act.put]
 refine wt 7 _ ?_
 simp only [red, Act.put]
 refine wt 8 _ ?_
 simp only [red, Act.put]
 refine wt 9 _ ?_
 simp only [red, Act.put]
 refine rd [10] ?_
 refine ac (fun K hK => ?_) ?_
 ·refine step_callG (by rfl) (by kernel_rfl) (CVote_any hp5.co hp5.ok hp5.pE hp5.lt id d.shard false) ?_
  rintro e wr10 ⟨v6, rfl, ho6, hco6, hk6⟩
  obtain ⟨A6, c6, rfl⟩ := ho6.form
  refine ⟨_, rfl, ?_⟩
  refine hK.out _ _ ?_ (fun hHeld => ?_)
  ·exact hHeld.trans (hk6.mono (by simp))
  clear hK K
  try simp only [red, Act.put]
  refine wt 11 _ ?_
  simp only [red, Act.put]
  refine wt 12 _ ?_
  simp only [red, Act.put]
  refine wt 13 _ ?_
  simp only [red, Act.put]
  refine wt 14 _ ?_
  simp only [red, Act.put]
  refine wpHead_done (by kernel_rfl) ?_
  have HK6 := Lib.hid hHeld
  have HO6 := Lib.hid ho6
  have HCO6 := Lib.hid hco6
  have HL5 := Lib.hid hp5.lt
  have HOK6 := Lib.hid (ok_vote hp5.ok id d.shard false)
  have HFW6 := Lib.hid (few_vote hp5.few id d.shard false)
  have HL6 : Hid ((voteO s id d.shard false).r.length ≤ 100) := Lib.hid (voteLen HPM.out.ok _ _ _)
  have hp6 := (hp5.rc.kept hk6 (by have := HPM.out.pq; simpa using this.symm) (by intro k hk; simp at hk; subst hk; exact HPM.out.pE))
  have hl6 : ∀ k ∈ E ++ B, k < wr10.heap.size := fun k hk => Nat.lt_of_lt_of_le (HPM.out.lt k hk) hHeld.size
  generalize wr0.heap.size = b0 at *
  generalize wr10 = w6 at *
  clear hw0 hp5 ho6 hco6 hk6 hx5d hHeld
  have hx6d := HK6.out.drew
  have hr6 := hp6.ext (Ext.refl w6).drew
  have hl6d : ∀ k ∈ E ++ B, k < w6.drew.heap.size := hl6
  go_wp2_with fail
  refine wp_region_phase (S := fun w' => Kept [p, q] w5 w') 15 (by kernel_rfl) (by kernel_rfl) ?_ (fun hHeld => ?_)
  ·exact hx6d
  simp only [List.drop_succ_cons, List.drop_zero]
  refine name_head ?_
  intro wr0 hw0
  rw [hw0] at hHeld
  have hr6 := hw0 ▸ hr6
  have hl6d := hw0 ▸ hl6d
  have hk60 : Kept [q] w6 wr0 := hw0 ▸ (Kept.refl [q] w6).drew
  refine wt 0 _ ?_
  simp only [red, Act.put]
  refine wt 1 _ ?_
  simp only [red, Act.put]
  refine wt 2 _ ?_
  simp only [red, Act.put]
  refine wt 3 _ ?_
  simp only [red, Act.put]
  refine wy 4 (v := .agg #[.int .i64 id.node, .int .i64 id.boot, .int .i64 id.n]) (by rfl) (by exact yieldsIf_load_elem (by rfl) 35 _ rfl ⟨g5, 0, none⟩ rfl (txiC id) _ (fun w' hx => htx w' hx) Try.underlying35 rfl (by kernel_rfl)) ?_
  simp only [red, Act.put]
  refine wt 5 _ ?_
  simp only [red, Act.put]
  refine wt 6 _ ?_
  simp only [red, Act.put]
  refine wt 7 _ ?_
  simp only [red, Act.put]
  refine wt 8 _ ?_
  simp only [red, Act.put]
  refine wt 9 _ ?_
  simp only [red, Act.put]
  refine rd [10] ?_
  refine ac (fun K hK => ?_) ?_
  ·refine step_callG (by rfl) (by kernel_rfl) (RVote_any hr6 HPM.out.ok (HPM.out.few.mono (by omega)) HPM.out.qE hl6d id d.shard false) ?_
   rintro e wr10 ⟨v7, rfl, ho7, hrc7, hk7⟩
   obtain ⟨A7, c7, rfl⟩ := ho7.form
   refine ⟨_, rfl, ?_⟩
   refine hK.out _ _ ?_ (fun hHeld => ?_)
   ·exact hHeld.trans (hk7.mono (by simp))
   clear hK K
   try simp only [red, Act.put]
   refine wt 11 _ ?_
   simp only [red, Act.put]
   refine wt 12 _ ?_
   simp only [red, Act.put]
   refine wt 13 _ ?_
   simp only [red, Act.put]
   refine wt 14 _ ?_
   simp only [red, Act.put]
   refine wpHead_done (by kernel_rfl) ?_
   have hk67 := hk60.trans hk7
   have hco7 := HCO6.out.kept hk67 (by have := HPM.out.pq; simpa using this) (by intro k hk; simp at hk; subst hk; exact HPM.out.qE)
   have HPM7 := Lib.hid (HPM.out.turn (G := E ++ B) (fun _ h => h) hHeld hco7 hrc7 HOK6.out HFW6.out)
   have HB6 := Lib.hid (BsM.kept (BsM.own (M := B) HO6.out (fun k hk => HL5.out k (List.mem_append.2 (.inr hk)))) (hk67.mono (by intro k hk; simp at hk; subst hk; exact HPM.out.qB)))
   have HB7 := Lib.hid ho7.bs
   have HC6 := Lib.hid HO6.out.cap.1
   have HPT7 := Lib.hid (pt_kept HPM.out.pB HPM.out.qB HX5.out hHeld)
   have k37 := F4 _ hHeld
   generalize wr10 = w7 at *
   clear hw0 hr6 hl6d hk60 ho7 hrc7 hk7 hk67 hco7 hHeld hx6d hp6 hl6 F0 F1 F2 F3 F4 htx
   have hsa := run_str (P := Try.prog) Try.underlying23 Try.underlying5 Try.underlying9 (BsM.bs HB6.out) (voteO s id d.shard false).r.length c6 rfl
   have hsb := run_str (P := Try.prog) Try.underlying23 Try.underlying5 Try.underlying9 HB7.out (voteO s id d.shard false).r.length c7 rfl
   have HRD := p_redo HPM7.out (by omega) A6 c6 (voteO s id d.shard false).r HB6.out HC6.out (by have := HL6.out; omega) d.keep
   unfold pt at HRD
   generalize (voteO s id d.shard false).r = r at *
   go_wp2_with fail
   refine HRD.mono ?_
   rintro e w8 ⟨rfl, hpm8, hk8⟩
   have HPM8 := Lib.hid hpm8
   have HPT := Lib.hid (HPT7.out.trans (pt_kept HPM7.out.pB HPM7.out.qB (Ext.refl _) hk8))
   clear HRD hpm8 hk8 hsa hsb
   go_wp2
   go_ret
   rw [HV.out]
   exact ⟨rfl, B, tv, HPM8.out.mono (by omega), HPT.out⟩
  exact AllHead.nil
 exact AllHead.nil
end
end Go.Proofs.Ytijopcdjlpafdaa
