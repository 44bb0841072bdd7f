/- The walk of the law's do: Begin; all of do. Conditions: the hypotheses of each theorem. -/
import Derived.Test.YtijopcdjlpafdaaC2
import Derived.Test.YtijopcdjlpafdaaCoP4M
namespace Go.Proofs.Ytijopcdjlpafdaa
open Go.RowKit
section
variable {E B : List Nat} {w0 w w1 : World} {P p q n : Nat} {tv : Value} {s : Cs} {txs : List TxI}
theorem PM.own_ne (h : PM E B w0 w P p q tv s txs n) : p ∉ tv.ownBlock.toList ∧ q ∉ tv.ownBlock.toList ∧ P ∉ tv.ownBlock.toList := by
 have key : ∀ {cs : Array Value} {t : TypeId} {k : Nat}, w.heap[k]? = some (.cells cs t (0, 0)) → 35 ≠ t → k ∉ tv.ownBlock.toList := fun {cs t k} hk ht hm => by
  have hm : tv.ownBlock = some k := by simpa using hm
  rcases owns_obj h.to hk ht with e | e
  ·rw [e] at hm; cases hm
  ·exact e hm
 obtain ⟨c1, h1⟩ := h.co.obj
 obtain ⟨c2, h2⟩ := h.rc.obj
 exact ⟨key h1 (by decide), key h2 (by decide), key h.row (by decide)⟩
/-- a name more -/
theorem PM.push (h : PM E B w0 w P p q tv s txs n) {v' : Value} {t : TxI} (ho : w1.ownsRow w0.heap.size 35 3 v' (txs.length + 1) (txs.flatMap txiC ++ txiC t)) (hg : w.grownBy w1 tv.ownBlock) (hor : v'.ownBlock = tv.ownBlock ∨ v'.ownBlock = some w.heap.size) :
 PM E (v'.ownBlock.toList ++ B) w0 (w1.setCell ⟨P, 2, none⟩ v') P p q v' s (txs ++ [t]) n ∧ PTurn B w (v'.ownBlock.toList ++ B) (w1.setCell ⟨P, 2, none⟩ v') := by
 obtain ⟨n1, n2, n3⟩ := h.own_ne
 have hk1 : Kept tv.ownBlock.toList w w1 := (Kept.refl _ _).grown hg fun k hk => .inl (by simp [hk])
 have hk2 : Kept [P] w1 (w1.setCell ⟨P, 2, none⟩ v') := (Kept.refl _ _).setCell (.inl (by simp)) _
 have hrow1 := hk1.heap h.row n3
 have hset := heap_setCell_same w1 P 2 _ _ v' hrow1
 have hvn : ∀ k ∈ v'.ownBlock.toList, k ∈ B ∨ k = w.heap.size := fun k hk => by
  have hk : v'.ownBlock = some k := by simpa using hk
  rcases hor with e | e
  ·exact .inl (h.tB k (by rw [← e]; exact hk))
  ·rw [hk] at e; injection e with e; exact .inr e
 have hold : ∀ k ∈ E ++ (v'.ownBlock.toList ++ B), k ∈ E ++ B ∨ w.heap.size ≤ k := fun k hk => by
  rcases List.mem_append.1 hk with hk | hk
  ·exact .inl (List.mem_append.2 (.inl hk))
  ·rcases List.mem_append.1 hk with hk | hk
   ·rcases hvn k hk with h1 | h1
    ·exact .inl (List.mem_append.2 (.inr h1))
    ·exact .inr (Nat.le_of_eq h1.symm)
   ·exact .inl (List.mem_append.2 (.inr hk))
 have hsub : ∀ k ∈ E ++ B, k ∈ E ++ (v'.ownBlock.toList ++ B) := fun k hk => by
  rcases List.mem_append.1 hk with hk | hk
  ·exact List.mem_append.2 (.inl hk)
  ·exact List.mem_append.2 (.inr (List.mem_append.2 (.inr hk)))
 have ht1 : ∀ k ∈ tv.ownBlock.toList, k ∈ E ++ (v'.ownBlock.toList ++ B) := fun k hk => hsub k (List.mem_append.2 (.inr (h.tB k (by simpa using hk))))
 have hP1 : ∀ k ∈ [P], k ∈ E ++ (v'.ownBlock.toList ++ B) := fun k hk => by
  simp at hk; subst hk
  exact hsub _ (List.mem_append.2 (.inr h.PB))
 have hkk : Kept (tv.ownBlock.toList ++ [P]) w (w1.setCell ⟨P, 2, none⟩ v') := (hk1.mono (by intro k hk; exact List.mem_append.2 (.inl hk))).trans (hk2.mono (by intro k hk; exact List.mem_append.2 (.inr hk)))
 have hkB : Kept B w (w1.setCell ⟨P, 2, none⟩ v') := hkk.mono fun k hk => by
  rcases List.mem_append.1 hk with hk | hk
  ·exact h.tB k (by simpa using hk)
  ·simp at hk; subst hk; exact h.PB
 refine ⟨⟨h.ex.kept hkB (fun k hk => h.ge k hk), by simpa using hset, ((h.co.old hold).kept hk1 n1 ht1).kept hk2 (by simpa using h.pP) hP1, ((h.rc.old hold).kept hk1 n2 ht1).kept hk2 (by simpa using h.qP) hP1, List.mem_append.2 (.inr h.pB), List.mem_append.2 (.inr h.qB), List.mem_append.2 (.inr h.PB), fun g hg => List.mem_append.2 (.inl (by simp [hg])), fun k hk => ?_, fun k hk => ?_, fun k hk hm => ?_, ?_, h.ok, h.few⟩, hkB, fun k hk => List.mem_append.2 (.inr hk), fun k hk => ?_⟩
 ·rcases List.mem_append.1 hk with hk | hk
  ·exact Nat.lt_of_lt_of_le (h.lt k (List.mem_append.2 (.inl hk))) hkB.size
  ·rcases List.mem_append.1 hk with hk | hk
   ·have := (ho.lt k (by simpa using hk)).2
    exact Nat.lt_of_lt_of_le this hk2.size
   ·exact Nat.lt_of_lt_of_le (h.lt k (List.mem_append.2 (.inr hk))) hkB.size
 ·rcases List.mem_append.1 hk with hk | hk
  ·exact (ho.lt k (by simpa using hk)).1
  ·exact h.ge k hk
 ·rcases List.mem_append.1 hm with hm | hm
  ·rcases hvn k hm with h1 | h1
   ·exact h.dj k hk h1
   ·have := h.lt k (List.mem_append.2 (.inl hk))
    omega
  ·exact h.dj k hk hm
 ·have hob : v'.ownBlock = none ∨ v'.ownBlock ≠ some P := owns_obj ho hrow1 (by decide)
  have h3 := World.ownsRow.kept ho hk2.grown1 hob
  unfold OwnX
  simpa [List.flatMap_append] using h3
 ·rcases List.mem_append.1 hk with hk | hk
  ·rcases hvn k hk with h1 | h1
   ·exact .inl h1
   ·exact .inr (Nat.le_of_eq h1.symm)
  ·exact .inl hk
end
theorem kept_new {M : List Nat} {w w1 w2 : World} {g : Nat} (h : Kept M w w1) (k : Kept [g] w1 w2) (hg : w.heap.size ≤ g) : Kept M w w2 :=
 ((h.mono (N := g :: M) fun _ hk => List.mem_cons_of_mem _ hk).trans (k.mono (by simp))).less fun i hi hlt => by
  rcases List.mem_cons.1 hi with rfl | hi
  ·omega
  ·exact hi
/-- two nodes and shards, while blocks are laid beside -/
structure BG (M : List Nat) (w : World) (p q : Nat) (s s2 : Cs) (A1 : Option Addr) (sh : List Int) : Prop where
 co : Co M w p s
 rc : Rc M w q s2
 pM : p ∈ M
 qM : q ∈ M
 ne : p ≠ q
 lt : ∀ k ∈ M, k < w.heap.size
 sl : SlM M w A1 (ib sh)
section
variable {M : List Nat} {w w' : World} {p q : Nat} {s s2 : Cs} {A1 : Option Addr} {sh : List Int}
theorem BG.new (h : BG M w p q s s2 A1 sh) (hx : Ext w w') {o : Obj} (hr : w'.heap[w.heap.size]? = some o) : BG (w.heap.size :: M) w' p q s s2 A1 sh := by
 have hN : ∀ k ∈ w.heap.size :: M, k ∈ M ∨ w.heap.size ≤ k := fun k hk => by
  rcases List.mem_cons.1 hk with rfl | hk
  ·exact .inr (Nat.le_refl _)
  ·exact .inl hk
 have hl : w.heap.size < w'.heap.size := (Array.getElem?_eq_some_iff.1 hr).1
 exact ⟨(h.co.old hN).ext hx, (h.rc.old hN).ext hx, List.mem_cons_of_mem _ h.pM, List.mem_cons_of_mem _ h.qM, h.ne, fun k hk => by
  rcases List.mem_cons.1 hk with rfl | hk
  ·exact hl
  ·exact Nat.lt_of_lt_of_le (h.lt k hk) hx.size, SlM.kept (SlM.old h.sl hN) (.of_ext hx)⟩
theorem BG.callX (h : BG M w p q s s2 A1 sh) {s' : Cs} (hc : Co M w' p s') (hk : Kept [p] w w') : BG M w' p q s' s2 A1 sh := by
 have hs : ∀ k ∈ [p], k ∈ M := by intro k hk; simp at hk; subst hk; exact h.pM
 exact ⟨hc, h.rc.kept hk (by simpa using h.ne.symm) hs, h.pM, h.qM, h.ne, fun k hk2 => Nat.lt_of_lt_of_le (h.lt k hk2) hk.size, SlM.kept h.sl (hk.mono hs)⟩
theorem BG.callY (h : BG M w p q s s2 A1 sh) {s' : Cs} (hc : Rc M w' q s') (hk : Kept [q] w w') : BG M w' p q s s' A1 sh := by
 have hs : ∀ k ∈ [q], k ∈ M := by intro k hk; simp at hk; subst hk; exact h.qM
 exact ⟨h.co.kept hk (by simpa using h.ne) hs, hc, h.pM, h.qM, h.ne, fun k hk2 => Nat.lt_of_lt_of_le (h.lt k hk2) hk.size, SlM.kept h.sl (hk.mono hs)⟩
theorem BG.store (h : BG M w p q s s2 A1 sh) {g : Nat} (hk : Kept [g] w w') (hg : g ∈ M) (h1 : p ≠ g) (h2 : q ≠ g) : BG M w' p q s s2 A1 sh := by
 have hs : ∀ k ∈ [g], k ∈ M := by intro k hk; simp at hk; subst hk; exact hg
 exact ⟨h.co.kept hk (by simpa using h1) hs, h.rc.kept hk (by simpa using h2) hs, h.pM, h.qM, h.ne, fun k hk2 => Nat.lt_of_lt_of_le (h.lt k hk2) hk.size, SlM.kept h.sl (hk.mono hs)⟩
theorem BG.drew (h : BG M w p q s s2 A1 sh) : BG M w.drew p q s s2 A1 sh :=
 ⟨h.co.ext (Ext.refl w).drew, h.rc.ext (Ext.refl w).drew, h.pM, h.qM, h.ne, h.lt, SlM.kept h.sl (Kept.refl _ _).drew⟩
end
theorem tx_at {W : World} {g : Nat} {t : TxI} (h : W.heap[g]? = some (.cells #[.int .i64 t.node, .int .i64 t.boot, .int .i64 t.n] 35 (0, 0))) : ∀ j v, (txiC t)[j]? = some v → W.cell? ((⟨g, 0, none⟩ : Addr).add j) = some v := fun j v hj => by
 have hj3 : j < 3 := (List.getElem?_eq_some_iff.1 hj).1
 have e : (⟨g, 0, none⟩ : Addr).add j = ⟨g, j, none⟩ := by
  unfold Addr.add
  by_cases h0 : j = 0 <;> simp [h0]
 rw [e, cell_of_row _ _ _ _ _ _ h]
 match j, hj3 with
 | 0, _ => exact hj
 | 1, _ => exact hj
 | 2, _ => exact hj
section
variable {E B : List Nat} {w0 w : World} {P p q n : Nat} {tv : Value} {s : Cs} {txs : List TxI}
set_option maxRecDepth 20000 in
set_option maxHeartbeats 4000000 in
theorem do_begin (h : PM E B w0 w P p q tv s txs n) (d : Cl) (A1 : Option Addr) (c1 : Nat) (A2 : Option Addr) (c2 : Nat) (hw8 : d.which < 256) (htn : txs.length ≤ 1000000) (hsh : SlM (E ++ B) w A1 (ib d.shards)) (hsl : d.shards.length ≤ 140737488355328) (hd : d.do_ = 1) :
 Calls Try.prog 18 #[pt P, .agg (clC d A1 c1 A2 c2).toArray] w (DidP E B w0 w P p q s txs n d) := by
 have HV : Hid (doS s txs d = (beginS s d.shards, if beginE s d.shards = 0 then txs ++ [beginT s d.shards] else txs)) := Lib.hid (by unfold doS; rw [if_neg (by omega), if_pos hd])
 unfold DidP
 have HSH := Lib.hid hsh
 clear hsh
 obtain ⟨tA, tc, rfl⟩ := own_form h.to
 have HD := Lib.hid hd
 clear hd
 obtain ⟨wa, hwa⟩ : ∃ wa, wa = w.alloc (.cells (clC d A1 c1 A2 c2).toArray 37) := ⟨_, rfl⟩
 have hxa : Ext w wa := by rw [hwa]; exact (Ext.refl w).alloc _
 have HC0 : Hid (ClAt wa w.heap.size d A1 c1 A2 c2) := Lib.hid (by unfold ClAt; rw [hwa]; exact heap_alloc_new w _)
 have HTX : Calls Try.prog 19 #[pt P, .agg (clC d A1 c1 A2 c2).toArray] wa fun e w' => e = .returned (.agg #[.int .i64 (txOf txs d).node, .int .i64 (txOf txs d).boot, .int .i64 (txOf txs d).n]) ∧ Ext wa w' := (p_tx (h.ext hxa) d A1 c1 A2 c2 hw8 htn).mono fun _ _ h => h
 have HPM0 := Lib.hid h
 have HGL := Lib.hid h.lt
 have hwaA := hwa.symm
 unfold clC at hwaA
 unfold pt at HTX ⊢
 clear h hwa
 show Calls Try.prog 18 #[.pointer (some ⟨P, 0, none⟩), .agg #[.int .i64 d.do_, .slice A1 d.shards.length c1, .int .i64 d.shard, .bool d.keep, .int .u8 (d.which : Int), .int .i64 d.tx.node, .int .i64 d.tx.boot, .int .i64 d.tx.n, .slice A2 d.bytes.length c2]] w _
 go_enter Try.func18, Try.ntmps18
 go_wp2_with (with_reducible first | refine sL 37 ?_ | refine sL 35 ?_ | refine sA 35 ?_ | refine sS 35 ?_)
 clear hwaA
 generalize hgg : w.heap.size = g3 at *
 have HGG := Lib.hid hgg
 clear hgg
 refine go_on (wpList_load_row rfl 37 _ rfl g3 rfl 37 _ (0, 0) _ HC0.out Try.underlying37 rfl (call_size _ _ _ _ _) ?_)
 go_wp2_with fail
 refine HTX.mono ?_
 rintro e w2 ⟨rfl, hx2⟩
 clear HTX
 go_wp2_with (with_reducible first | refine sL 37 ?_ | refine sL 35 ?_ | refine sA 35 ?_ | refine sS 35 ?_)
 refine go_on (wpList_alloc_ rfl rfl apitx_info ?_)
 go_wp2_with (with_reducible first | refine sL 37 ?_ | refine sL 35 ?_ | refine sA 35 ?_ | refine sS 35 ?_)
 refine go_on (wpList_store_last rfl rfl rfl rfl (apitx_size _ _ _) rfl (by simp [Value.oneCell']) ?_)
 intro w5 hrow5 hx5 _
 have hx05 := hxa.trans (hx2.trans hx5)
 have HX5 := Lib.hid hx05
 have HPM := Lib.hid (HPM0.out.ext hx05)
 have HC := Lib.hid (HC0.out.ext (hx2.trans hx5))
 have HT : Hid (TxAt w5 w2.heap.size (txOf txs d)) := Lib.hid hrow5
 have HG5 : Hid (g3 < w2.heap.size) := Lib.hid (Nat.lt_of_lt_of_le (obj_lt HC0.out) hx2.size)
 have HPL : Hid (∀ k ∈ B, k < g3) := Lib.hid fun k hk => HGL.out k (List.mem_append.2 (.inr hk))
 clear hx2 hx5 hrow5 hx05 hxa HPM0 HC0 HGL
 generalize w2.heap.size = g5 at *
 obtain ⟨k0, k1, k2, k3, k4⟩ := HC.out.all
 obtain ⟨P0, P1, P2, PF⟩ := row3_at HPM.out.row
 clear PF
 rw [HD.out] at k0
 have hkP : P ∉ [p, q] := by have h1 := HPM.out.pP; have h2 := HPM.out.qP; simp; exact ⟨fun e => h1 e.symm, fun e => h2 e.symm⟩
 have hk3 : g3 ∉ [p, q] := by have h1 := HPL.out p HPM.out.pB; have h2 := HPL.out q HPM.out.qB; simp; omega
 have HSUB : Hid (∀ k ∈ [p, q], k ∈ E ++ B) := Lib.hid (by
  intro k hk
  simp only [List.mem_cons, List.not_mem_nil, or_false] at hk
  rcases hk with rfl | rfl
  ·exact HPM.out.pE
  ·exact HPM.out.qE)
 have HSH5 := Lib.hid (SlM.kept HSH.out (.of_ext HX5.out))
 have F0 : ∀ W, Kept [p, q] w5 W → W.cell? ⟨P, 0, none⟩ = some (.pointer (some ⟨p, 0, none⟩)) := fun W hx => hx.cell P0 hkP
 have F1 : ∀ W, Kept [p, q] w5 W → W.cell? ⟨P, 1, none⟩ = some (.pointer (some ⟨q, 0, none⟩)) := fun W hx => hx.cell P1 hkP
 have F2 : ∀ W, Kept [p, q] w5 W → W.cell? ⟨P, 2, none⟩ = some (.slice tA txs.length tc) := fun W hx => hx.cell P2 hkP
 have F3 : ∀ W, Kept [p, q] w5 W → W.cell? ⟨g3, 1, none⟩ = some (.slice A1 d.shards.length c1) := fun W hx => hx.cell k1 hk3
 have HZ5 := Lib.hid (Nat.le_refl w5.heap.size)
 clear k1 k2 k3 k4 P0 P1 P2 hk3
 have hx5d : Kept [p, q] w5 w5.drew := (Kept.refl _ _).drew
 have bg : BG (E ++ B) w5.drew p q s s A1 d.shards := BG.drew ⟨HPM.out.co, HPM.out.rc, HPM.out.pE, HPM.out.qE, HPM.out.pq, HPM.out.lt, HSH5.out⟩
 have HP5 := Lib.hid (HPM.out.lt p HPM.out.pE)
 have HQ5 := Lib.hid (HPM.out.lt q HPM.out.qE)
 generalize hsd : d.shards = sh at *
 have HSD := Lib.hid hsd
 clear hsd
 go_wp2_with fail
 clear k0
 refine wp_region_phase (S := fun w' => Kept [p, q] w5 w') 12 (by kernel_rfl) (by kernel_rfl) ?_ (fun hHeld => ?_)
 ·exact hx5d
 simp only [List.drop_succ_cons, List.drop_zero]
 refine name_head ?_
 intro wr0 hw0
 rw [hw0] at hHeld
 have bg := hw0 ▸ bg
 refine wt 0 _ ?_
 simp only [red, Act.put]
 refine wt 1 _ ?_
 simp only [red, Act.put]
 refine wt 2 _ ?_
 simp only [red, Act.put]
 refine wt 3 _ ?_
 simp only [red, Act.put]
 refine wt 4 _ ?_
 simp only [red, Act.put]
 refine wt 5 _ ?_
 simp only [red, Act.put]
 refine rd [6, 10] ?_
 refine ac (fun K hK => ?_) ?_
 ·refine step_callG (by rfl) (by kernel_rfl) (CBegin_any bg.co HPM.out.ok bg.pM bg.lt A1 c1 sh bg.sl hsl) ?_
  rintro e wr6 ⟨rfl, hco6, hk6⟩
  replace bg := bg.callX hco6 hk6
  try replace hrow10 := hk6.heap hrow10 (by have := HP5.out; simp; omega)
  refine ⟨_, rfl, ?_⟩
  refine hK.out _ _ ?_ (fun hHeld => ?_)
  ·exact hHeld.trans (hk6.mono (by simp))
  clear hK K
  try simp only [red, Act.put]
  refine wt 7 _ ?_
  simp only [red, Act.put]
  refine wt 8 _ ?_
  simp only [red, Act.put]
  refine wt 9 _ ?_
  simp only [red, Act.put]
  refine rd [10] ?_
  refine ac (fun K hK => ?_) ?_
  ·go_simp
   refine name_world ?_
   rintro wr10 hw10
   have hxn10 : Ext wr6 wr10 := hw10 ▸ (Ext.refl _).alloc _
   have hrow10 : wr10.heap[wr6.heap.size]? = some (.cells #[.int .i64 0, .int .i64 0, .int .i64 0] 35) := hw10 ▸ heap_alloc_new wr6 _
   replace bg := bg.new hxn10 hrow10
   have hg10 : w5.heap.size ≤ wr6.heap.size := hHeld.size
   generalize wr6.heap.size = gt at *
   refine hK.out _ _ ?_ (fun hHeld => ?_)
   ·exact hHeld.ext hxn10
   clear hK K
   try simp only [red, Act.put]
   refine rd [11] ?_
   refine ac (fun K hK => ?_) ?_
   ·refine step_store_whole (by rfl) rfl rfl rfl hrow10 (apitx_size _ _ _) rfl (by simp [Value.oneCell']) ?_
    rintro wr11 hrow11 hk11 hz11
    replace bg := bg.store hk11 (List.mem_cons_self ..) (by have := HP5.out; omega) (by have := HQ5.out; omega)
    refine hK.out _ _ ?_ (fun hHeld => ?_)
    ·exact kept_new hHeld hk11 hg10
    clear hK K
    try simp only [red, Act.put]
    refine wpHead_done (by kernel_rfl) ?_
    have HK6 := Lib.hid hHeld
    have HR6 := Lib.hid hrow11
    have HBG := Lib.hid bg
    have HG6 := Lib.hid hg10
    clear hrow10 hk11 hz11 hw10 hxn10 hco6 hk6 hHeld hrow11 bg hg10 hw0 hx5d
    generalize wr11 = w6 at *
    have hb6d := HBG.out.drew
    have G1 : ∀ W, Kept [p, q] w6 W → W.cell? ⟨P, 1, none⟩ = some (.pointer (some ⟨q, 0, none⟩)) := fun W hx => F1 W (HK6.out.trans hx)
    have G2 : ∀ W, Kept [p, q] w6 W → W.cell? ⟨P, 2, none⟩ = some (.slice tA txs.length tc) := fun W hx => F2 W (HK6.out.trans hx)
    have G3 : ∀ W, Kept [p, q] w6 W → W.cell? ⟨g3, 1, none⟩ = some (.slice A1 sh.length c1) := fun W hx => F3 W (HK6.out.trans hx)
    have hx6d : Kept [p, q] w6 w6.drew := (Kept.refl _ _).drew
    have HGN : Hid (gt ∉ [p, q]) := Lib.hid (by have h1 := HG6.out; have h2 := HP5.out; have h3 := HQ5.out; simp; omega)
    have HQ6 : Hid (q < w6.heap.size) := Lib.hid (by have := HQ5.out; have := HK6.out.size; omega)
    clear F0 F1 F2 F3
    go_wp2_with fail
    refine wp_region_phase (S := fun w' => Kept [p, q] w6 w') 12 (by kernel_rfl) (by kernel_rfl) ?_ (fun hHeld => ?_)
    ·exact hx6d
    simp only [List.drop_succ_cons, List.drop_zero]
    refine name_head ?_
    intro wr0 hw0
    rw [hw0] at hHeld
    have hb6 := hw0 ▸ hb6d
    refine wt 0 _ ?_
    simp only [red, Act.put]
    refine wt 1 _ ?_
    simp only [red, Act.put]
    refine wt 2 _ ?_
    simp only [red, Act.put]
    refine wt 3 _ ?_
    simp only [red, Act.put]
    refine wt 4 _ ?_
    simp only [red, Act.put]
    refine wt 5 _ ?_
    simp only [red, Act.put]
    refine rd [6, 10] ?_
    refine ac (fun K hK => ?_) ?_
    ·refine step_callG (by rfl) (by kernel_rfl) (RBegin_any hb6.rc HPM.out.ok hb6.qM hb6.lt A1 c1 sh hb6.sl hsl) ?_
     rintro e wr6 ⟨rfl, hrc7, hk7⟩
     replace hb6 := hb6.callY hrc7 hk7
     try replace hrow10 := hk7.heap hrow10 (by have := HQ6.out; simp; omega)
     refine ⟨_, rfl, ?_⟩
     refine hK.out _ _ ?_ (fun hHeld => ?_)
     ·exact hHeld.trans (hk7.mono (by simp))
     clear hK K
     try simp only [red, Act.put]
     refine wt 7 _ ?_
     simp only [red, Act.put]
     refine wt 8 _ ?_
     simp only [red, Act.put]
     refine wt 9 _ ?_
     simp only [red, Act.put]
     refine rd [10] ?_
     refine ac (fun K hK => ?_) ?_
     ·go_simp
      refine name_world ?_
      rintro wr10 hw10
      have hxn10 : Ext wr6 wr10 := hw10 ▸ (Ext.refl _).alloc _
      have hrow10 : wr10.heap[wr6.heap.size]? = some (.cells #[.int .i64 0, .int .i64 0, .int .i64 0] 35) := hw10 ▸ heap_alloc_new wr6 _
      replace hb6 := hb6.new hxn10 hrow10
      have hg10 : w6.heap.size ≤ wr6.heap.size := hHeld.size
      generalize wr6.heap.size = gu at *
      refine hK.out _ _ ?_ (fun hHeld => ?_)
      ·exact hHeld.ext hxn10
      clear hK K
      try simp only [red, Act.put]
      refine rd [11] ?_
      refine ac (fun K hK => ?_) ?_
      ·refine step_store_whole (by rfl) rfl rfl rfl hrow10 (apitx_size _ _ _) rfl (by simp [Value.oneCell']) ?_
       rintro wr11 hrow11 hk11 hz11
       replace hb6 := hb6.store hk11 (List.mem_cons_self ..) (by have := HP5.out; have := HK6.out.size; omega) (by have := HQ6.out; omega)
       refine hK.out _ _ ?_ (fun hHeld => ?_)
       ·exact kept_new hHeld hk11 hg10
       clear hK K
       try simp only [red, Act.put]
       refine wpHead_done (by kernel_rfl) ?_
       have HKW := Lib.hid (HK6.out.trans hHeld)
       have HR7 := Lib.hid (hHeld.heap HR6.out HGN.out)
       have HU7 := Lib.hid hrow11
       have HPM7 := Lib.hid (HPM.out.turn (fun k hk => List.mem_cons_of_mem _ (List.mem_cons_of_mem _ hk)) HKW.out hb6.co hb6.rc (ok_begin HPM.out.ok sh) (few_begin HPM.out.few sh))
       have HG7 := Lib.hid hg10
       have p27 := G2 _ hHeld
       have HZ7 := Lib.hid hHeld.size
       clear hrow10 hk11 hz11 hw10 hxn10 hrc7 hk7 hHeld hrow11 hb6 hg10 hw0 hx6d hb6d G1 G2 G3
       generalize wr11 = w7 at *
       have HPT7 := Lib.hid (pt_kept HPM.out.pB HPM.out.qB HX5.out HKW.out)
       by_cases he : beginE s sh = 0; rotate_left
       ·replace HV : Hid (doS s txs d = (beginS s sh, txs)) := Lib.hid (by rw [HV.out, if_neg he])
        have heb : (beginE s sh == 0) = false := by simpa using he
        generalize beginE s sh = be at *
        generalize beginS s sh = bs at *
        generalize beginT s sh = bt at *
        clear he p27
        go_wp2_with (with_reducible refine sL 35 ?_)
        refine go_on (wpList_load_row rfl 35 _ rfl gt rfl 35 _ (0, 0) _ HR7.out Try.underlying35 rfl (apitx_size _ _ _) ?_)
        go_wp2_with (with_reducible refine sL 35 ?_)
        refine go_on (wpList_load_row rfl 35 _ rfl gu rfl 35 _ (0, 0) _ HU7.out Try.underlying35 rfl (apitx_size _ _ _) ?_)
        go_wp2
        go_ret
        rw [HV.out]
        exact ⟨rfl, B, _, HPM7.out.mono (Nat.le_succ _), HPT7.out⟩
       ·replace HV : Hid (doS s txs d = (beginS s sh, txs ++ [beginT s sh])) := Lib.hid (by rw [HV.out, if_pos he])
        rw [he]
        clear he
        generalize beginS s sh = bs at *
        generalize beginT s sh = bt at *
        obtain ⟨n1, n2, n3⟩ := HPM7.out.own_ne
        have hgt : gt ∉ (Value.slice tA txs.length tc).ownBlock.toList := fun hm => by
         have h1 := HPM.out.lt gt (List.mem_append.2 (.inr (HPM.out.tB gt (by simpa using hm))))
         have := HG6.out
         omega
        have hgu : gu ∉ (Value.slice tA txs.length tc).ownBlock.toList := fun hm => by
         have h1 := HPM.out.lt gu (List.mem_append.2 (.inr (HPM.out.tB gu (by simpa using hm))))
         have := HG7.out
         have := HK6.out.size
         omega
        have HGT := Lib.hid hgt
        have HGU := Lib.hid hgu
        have HN3 := Lib.hid n3
        have HPN : Hid (gt ∉ [P] ∧ gu ∉ [P]) := Lib.hid (by
         have h1 := HPM.out.lt P (List.mem_append.2 (.inr HPM.out.PB))
         have := HG6.out
         have := HG7.out
         have := HK6.out.size
         simp
         omega)
        have H2 : ∀ W, Kept (Value.slice tA txs.length tc).ownBlock.toList w7 W → W.cell? ⟨P, 2, none⟩ = some (.slice tA txs.length tc) := fun W hx => hx.cell p27 n3
        have htb : ∀ W, Kept (Value.slice tA txs.length tc).ownBlock.toList w7 W → ∀ j v, (txiC bt)[j]? = some v → W.cell? ((⟨gt, 0, none⟩ : Addr).add j) = some v := fun W hx => tx_at (hx.heap HR7.out HGT.out)
        have hx7d : Kept (Value.slice tA txs.length tc).ownBlock.toList w7 w7.drew := (Kept.refl _ _).drew
        have hp7d := HPM7.out.ext (Ext.refl w7).drew
        clear n1 n2 n3 hgt hgu p27
        go_wp2_with fail
        refine wp_region_phase (S := fun w' => Kept (Value.slice tA txs.length tc).ownBlock.toList w7 w') 8 (by kernel_rfl) (by kernel_rfl) ?_ (fun hHeld => ?_)
        ·exact hx7d
        simp only [List.drop_succ_cons, List.drop_zero]
        refine name_head ?_
        intro wr0 hw0
        rw [hw0] at hHeld
        have hpm := hw0 ▸ hp7d
        have hpt := hw0 ▸ (Kept.refl ([] : List Nat) w7).drew
        refine wt 0 _ ?_
        simp only [red, Act.put]
        refine wt 1 _ ?_
        simp only [red, Act.put]
        refine wt 2 _ ?_
        simp only [red, Act.put]
        refine wt 3 _ ?_
        simp only [red, Act.put]
        refine wt 4 _ ?_
        simp only [red, Act.put]
        refine wy 5 (v := .agg #[.int .i64 bt.node, .int .i64 bt.boot, .int .i64 bt.n]) (by rfl) (by exact yieldsIf_load_elem (by rfl) 35 _ rfl ⟨gt, 0, none⟩ rfl (txiC bt) _ (fun w' hx => htb w' hx) Try.underlying35 rfl (by kernel_rfl)) ?_
        simp only [red, Act.put]
        refine rd [6] ?_
        refine ac (fun K hK => ?_) ?_
        ·go_simp
         refine name_world ?_
         rintro wr6 hw6
         have hxn6 : Ext wr0 wr6 := hw6 ▸ (Ext.refl _).alloc _
         have hrow6 : wr6.heap[wr0.heap.size]? = some (.cells #[.int .i64 bt.node, .int .i64 bt.boot, .int .i64 bt.n] 35) := hw6 ▸ heap_alloc_new wr0 _
         replace hpm := hpm.ext hxn6
         replace hpt := hpt.ext hxn6
         have hnw : Sl wr6 (some ⟨wr0.heap.size, 0, none⟩) (txiC bt) := Sl.of_row hrow6
         refine hK.out _ _ ?_ (fun hHeld => ?_)
         ·exact hHeld.ext hxn6
         clear hK K
         try simp only [red, Act.put]
         refine rd [7] ?_
         refine ac (fun K hK => ?_) ?_
         ·have hpm0 := hpm
          refine step_ap apitxsT hpm.to hnw rfl rfl rfl rfl rfl (txiC_one _) (by omega) (by omega) hpm.ex.size ?_
          rintro v8 wr7 ho8 hg8 hor8
          obtain ⟨A8, c8, rfl⟩ := own_form ho8
          refine hK.out _ _ ?_ (fun hHeld => ?_)
          ·exact hHeld.grown hg8 (fun k hk => .inl (by simp [hk]))
          clear hK K
          try simp only [red, Act.put]
          refine wpHead_done (by kernel_rfl) ?_
          obtain ⟨hpush, hpts⟩ := hpm0.push ho8 hg8 hor8
          have HPU := Lib.hid hpush
          have hpt67 : PTurn B w B wr6 := HPT7.out.trans (.of_kept hpt (by simp))
          have HPS := Lib.hid (hpt67.trans hpts)
          have hrP := hHeld.heap HPM7.out.row HN3.out
          obtain ⟨R0, R1, R2, RF⟩ := row3_at hrP
          have hk9 : Kept [P] wr7 (wr7.setCell ⟨P, 2, none⟩ (.slice A8 (txs.length + 1) c8)) := (Kept.refl _ _).setCell (.inl (by simp)) _
          have HR9 := Lib.hid (hk9.heap (hHeld.heap HR7.out HGT.out) HPN.out.1)
          have HU9 := Lib.hid (hk9.heap (hHeld.heap HU7.out HGU.out) HPN.out.2)
          clear hpush hpts hpt67 hk9 hrP ho8 hg8 hor8 hHeld hnw hpm hpm0 hpt hx7d hp7d H2 htb R0 R1 hw0
          go_wp2_with (with_reducible refine sL 35 ?_)
          refine go_on (wpList_load_row rfl 35 _ rfl gt rfl 35 _ (0, 0) _ HR9.out Try.underlying35 rfl (apitx_size _ _ _) ?_)
          go_wp2_with (with_reducible refine sL 35 ?_)
          refine go_on (wpList_load_row rfl 35 _ rfl gu rfl 35 _ (0, 0) _ HU9.out Try.underlying35 rfl (apitx_size _ _ _) ?_)
          go_wp2
          go_ret
          rw [HV.out]
          exact ⟨rfl, _, _, HPU.out.mono (Nat.le_succ _), HPS.out⟩
         exact AllHead.nil
        exact AllHead.nil
      exact AllHead.nil
     exact AllHead.nil
    refine ac (fun K hK => ?_) ?_
    ·go_simp
     refine name_world ?_
     rintro wr10 hw10
     have hxn10 : Ext wr0 wr10 := hw10 ▸ (Ext.refl _).alloc _
     have hrow10 : wr10.heap[wr0.heap.size]? = some (.cells #[.int .i64 0, .int .i64 0, .int .i64 0] 35) := hw10 ▸ heap_alloc_new wr0 _
     replace hb6 := hb6.new hxn10 hrow10
     have hg10 : w6.heap.size ≤ wr0.heap.size := hHeld.size
     generalize wr0.heap.size = gu at *
     refine hK.out _ _ ?_ (fun hHeld => ?_)
     ·exact hHeld.ext hxn10
     clear hK K
     try simp only [red, Act.put]
     refine rd [6] ?_
     refine ac (fun K hK => ?_) ?_
     ·refine step_callG (by rfl) (by kernel_rfl) (RBegin_any hb6.rc HPM.out.ok hb6.qM hb6.lt A1 c1 sh hb6.sl hsl) ?_
      rintro e wr6 ⟨rfl, hrc7, hk7⟩
      replace hb6 := hb6.callY hrc7 hk7
      try replace hrow10 := hk7.heap hrow10 (by have := HQ6.out; simp; omega)
      refine ⟨_, rfl, ?_⟩
      refine hK.out _ _ ?_ (fun hHeld => ?_)
      ·exact hHeld.trans (hk7.mono (by simp))
      clear hK K
      try simp only [red, Act.put]
      refine wt 7 _ ?_
      simp only [red, Act.put]
      refine wt 8 _ ?_
      simp only [red, Act.put]
      refine wt 9 _ ?_
      simp only [red, Act.put]
      refine rd [11] ?_
      refine ac (fun K hK => ?_) ?_
      ·refine step_store_whole (by rfl) rfl rfl rfl hrow10 (apitx_size _ _ _) rfl (by simp [Value.oneCell']) ?_
       rintro wr11 hrow11 hk11 hz11
       replace hb6 := hb6.store hk11 (List.mem_cons_self ..) (by have := HP5.out; have := HK6.out.size; omega) (by have := HQ6.out; omega)
       refine hK.out _ _ ?_ (fun hHeld => ?_)
       ·exact kept_new hHeld hk11 hg10
       clear hK K
       try simp only [red, Act.put]
       refine wpHead_done (by kernel_rfl) ?_
       have HKW := Lib.hid (HK6.out.trans hHeld)
       have HR7 := Lib.hid (hHeld.heap HR6.out HGN.out)
       have HU7 := Lib.hid hrow11
       have HPM7 := Lib.hid (HPM.out.turn (fun k hk => List.mem_cons_of_mem _ (List.mem_cons_of_mem _ hk)) HKW.out hb6.co hb6.rc (ok_begin HPM.out.ok sh) (few_begin HPM.out.few sh))
       have HG7 := Lib.hid hg10
       have p27 := G2 _ hHeld
       have HZ7 := Lib.hid hHeld.size
       clear hrow10 hk11 hz11 hw10 hxn10 hrc7 hk7 hHeld hrow11 hb6 hg10 hw0 hx6d hb6d G1 G2 G3
       generalize wr11 = w7 at *
       have HPT7 := Lib.hid (pt_kept HPM.out.pB HPM.out.qB HX5.out HKW.out)
       by_cases he : beginE s sh = 0; rotate_left
       ·replace HV : Hid (doS s txs d = (beginS s sh, txs)) := Lib.hid (by rw [HV.out, if_neg he])
        have heb : (beginE s sh == 0) = false := by simpa using he
        generalize beginE s sh = be at *
        generalize beginS s sh = bs at *
        generalize beginT s sh = bt at *
        clear he p27
        go_wp2_with (with_reducible refine sL 35 ?_)
        refine go_on (wpList_load_row rfl 35 _ rfl gt rfl 35 _ (0, 0) _ HR7.out Try.underlying35 rfl (apitx_size _ _ _) ?_)
        go_wp2_with (with_reducible refine sL 35 ?_)
        refine go_on (wpList_load_row rfl 35 _ rfl gu rfl 35 _ (0, 0) _ HU7.out Try.underlying35 rfl (apitx_size _ _ _) ?_)
        go_wp2
        go_ret
        rw [HV.out]
        exact ⟨rfl, B, _, HPM7.out.mono (Nat.le_succ _), HPT7.out⟩
       ·replace HV : Hid (doS s txs d = (beginS s sh, txs ++ [beginT s sh])) := Lib.hid (by rw [HV.out, if_pos he])
        rw [he]
        clear he
        generalize beginS s sh = bs at *
        generalize beginT s sh = bt at *
        obtain ⟨n1, n2, n3⟩ := HPM7.out.own_ne
        have hgt : gt ∉ (Value.slice tA txs.length tc).ownBlock.toList := fun hm => by
         have h1 := HPM.out.lt gt (List.mem_append.2 (.inr (HPM.out.tB gt (by simpa using hm))))
         have := HG6.out
         omega
        have hgu : gu ∉ (Value.slice tA txs.length tc).ownBlock.toList := fun hm => by
         have h1 := HPM.out.lt gu (List.mem_append.2 (.inr (HPM.out.tB gu (by simpa using hm))))
         have := HG7.out
         have := HK6.out.size
         omega
        have HGT := Lib.hid hgt
        have HGU := Lib.hid hgu
        have HN3 := Lib.hid n3
        have HPN : Hid (gt ∉ [P] ∧ gu ∉ [P]) := Lib.hid (by
         have h1 := HPM.out.lt P (List.mem_append.2 (.inr HPM.out.PB))
         have := HG6.out
         have := HG7.out
         have := HK6.out.size
         simp
         omega)
        have H2 : ∀ W, Kept (Value.slice tA txs.length tc).ownBlock.toList w7 W → W.cell? ⟨P, 2, none⟩ = some (.slice tA txs.length tc) := fun W hx => hx.cell p27 n3
        have htb : ∀ W, Kept (Value.slice tA txs.length tc).ownBlock.toList w7 W → ∀ j v, (txiC bt)[j]? = some v → W.cell? ((⟨gt, 0, none⟩ : Addr).add j) = some v := fun W hx => tx_at (hx.heap HR7.out HGT.out)
        have hx7d : Kept (Value.slice tA txs.length tc).ownBlock.toList w7 w7.drew := (Kept.refl _ _).drew
        have hp7d := HPM7.out.ext (Ext.refl w7).drew
        clear n1 n2 n3 hgt hgu p27
        go_wp2_with fail
        refine wp_region_phase (S := fun w' => Kept (Value.slice tA txs.length tc).ownBlock.toList w7 w') 8 (by kernel_rfl) (by kernel_rfl) ?_ (fun hHeld => ?_)
        ·exact hx7d
        simp only [List.drop_succ_cons, List.drop_zero]
        refine name_head ?_
        intro wr0 hw0
        rw [hw0] at hHeld
        have hpm := hw0 ▸ hp7d
        have hpt := hw0 ▸ (Kept.refl ([] : List Nat) w7).drew
        refine wt 0 _ ?_
        simp only [red, Act.put]
        refine wt 1 _ ?_
        simp only [red, Act.put]
        refine wt 2 _ ?_
        simp only [red, Act.put]
        refine wt 3 _ ?_
        simp only [red, Act.put]
        refine wt 4 _ ?_
        simp only [red, Act.put]
        refine wy 5 (v := .agg #[.int .i64 bt.node, .int .i64 bt.boot, .int .i64 bt.n]) (by rfl) (by exact yieldsIf_load_elem (by rfl) 35 _ rfl ⟨gt, 0, none⟩ rfl (txiC bt) _ (fun w' hx => htb w' hx) Try.underlying35 rfl (by kernel_rfl)) ?_
        simp only [red, Act.put]
        refine rd [6] ?_
        refine ac (fun K hK => ?_) ?_
        ·go_simp
         refine name_world ?_
         rintro wr6 hw6
         have hxn6 : Ext wr0 wr6 := hw6 ▸ (Ext.refl _).alloc _
         have hrow6 : wr6.heap[wr0.heap.size]? = some (.cells #[.int .i64 bt.node, .int .i64 bt.boot, .int .i64 bt.n] 35) := hw6 ▸ heap_alloc_new wr0 _
         replace hpm := hpm.ext hxn6
         replace hpt := hpt.ext hxn6
         have hnw : Sl wr6 (some ⟨wr0.heap.size, 0, none⟩) (txiC bt) := Sl.of_row hrow6
         refine hK.out _ _ ?_ (fun hHeld => ?_)
         ·exact hHeld.ext hxn6
         clear hK K
         try simp only [red, Act.put]
         refine rd [7] ?_
         refine ac (fun K hK => ?_) ?_
         ·have hpm0 := hpm
          refine step_ap apitxsT hpm.to hnw rfl rfl rfl rfl rfl (txiC_one _) (by omega) (by omega) hpm.ex.size ?_
          rintro v8 wr7 ho8 hg8 hor8
          obtain ⟨A8, c8, rfl⟩ := own_form ho8
          refine hK.out _ _ ?_ (fun hHeld => ?_)
          ·exact hHeld.grown hg8 (fun k hk => .inl (by simp [hk]))
          clear hK K
          try simp only [red, Act.put]
          refine wpHead_done (by kernel_rfl) ?_
          obtain ⟨hpush, hpts⟩ := hpm0.push ho8 hg8 hor8
          have HPU := Lib.hid hpush
          have hpt67 : PTurn B w B wr6 := HPT7.out.trans (.of_kept hpt (by simp))
          have HPS := Lib.hid (hpt67.trans hpts)
          have hrP := hHeld.heap HPM7.out.row HN3.out
          obtain ⟨R0, R1, R2, RF⟩ := row3_at hrP
          have hk9 : Kept [P] wr7 (wr7.setCell ⟨P, 2, none⟩ (.slice A8 (txs.length + 1) c8)) := (Kept.refl _ _).setCell (.inl (by simp)) _
          have HR9 := Lib.hid (hk9.heap (hHeld.heap HR7.out HGT.out) HPN.out.1)
          have HU9 := Lib.hid (hk9.heap (hHeld.heap HU7.out HGU.out) HPN.out.2)
          clear hpush hpts hpt67 hk9 hrP ho8 hg8 hor8 hHeld hnw hpm hpm0 hpt hx7d hp7d H2 htb R0 R1 hw0
          go_wp2_with (with_reducible refine sL 35 ?_)
          refine go_on (wpList_load_row rfl 35 _ rfl gt rfl 35 _ (0, 0) _ HR9.out Try.underlying35 rfl (apitx_size _ _ _) ?_)
          go_wp2_with (with_reducible refine sL 35 ?_)
          refine go_on (wpList_load_row rfl 35 _ rfl gu rfl 35 _ (0, 0) _ HU9.out Try.underlying35 rfl (apitx_size _ _ _) ?_)
          go_wp2
          go_ret
          rw [HV.out]
          exact ⟨rfl, _, _, HPU.out.mono (Nat.le_succ _), HPS.out⟩
         exact AllHead.nil
        exact AllHead.nil
      exact AllHead.nil
     exact AllHead.nil
    exact AllHead.nil
   exact AllHead.nil
  exact AllHead.nil
 refine ac (fun K hK => ?_) ?_
 ·go_simp
  refine name_world ?_
  rintro wr10 hw10
  have hxn10 : Ext wr0 wr10 := hw10 ▸ (Ext.refl _).alloc _
  have hrow10 : wr10.heap[wr0.heap.size]? = some (.cells #[.int .i64 0, .int .i64 0, .int .i64 0] 35) := hw10 ▸ heap_alloc_new wr0 _
  replace bg := bg.new hxn10 hrow10
  have hg10 : w5.heap.size ≤ wr0.heap.size := hHeld.size
  generalize wr0.heap.size = gt at *
  refine hK.out _ _ ?_ (fun hHeld => ?_)
  ·exact hHeld.ext hxn10
  clear hK K
  try simp only [red, Act.put]
  refine rd [6] ?_
  refine ac (fun K hK => ?_) ?_
  ·refine step_callG (by rfl) (by kernel_rfl) (CBegin_any bg.co HPM.out.ok bg.pM bg.lt A1 c1 sh bg.sl hsl) ?_
   rintro e wr6 ⟨rfl, hco6, hk6⟩
   replace bg := bg.callX hco6 hk6
   try replace hrow10 := hk6.heap hrow10 (by have := HP5.out; simp; omega)
   refine ⟨_, rfl, ?_⟩
   refine hK.out _ _ ?_ (fun hHeld => ?_)
   ·exact hHeld.trans (hk6.mono (by simp))
   clear hK K
   try simp only [red, Act.put]
   refine wt 7 _ ?_
   simp only [red, Act.put]
   refine wt 8 _ ?_
   simp only [red, Act.put]
   refine wt 9 _ ?_
   simp only [red, Act.put]
   refine rd [11] ?_
   refine ac (fun K hK => ?_) ?_
   ·refine step_store_whole (by rfl) rfl rfl rfl hrow10 (apitx_size _ _ _) rfl (by simp [Value.oneCell']) ?_
    rintro wr11 hrow11 hk11 hz11
    replace bg := bg.store hk11 (List.mem_cons_self ..) (by have := HP5.out; omega) (by have := HQ5.out; omega)
    refine hK.out _ _ ?_ (fun hHeld => ?_)
    ·exact kept_new hHeld hk11 hg10
    clear hK K
    try simp only [red, Act.put]
    refine wpHead_done (by kernel_rfl) ?_
    have HK6 := Lib.hid hHeld
    have HR6 := Lib.hid hrow11
    have HBG := Lib.hid bg
    have HG6 := Lib.hid hg10
    clear hrow10 hk11 hz11 hw10 hxn10 hco6 hk6 hHeld hrow11 bg hg10 hw0 hx5d
    generalize wr11 = w6 at *
    have hb6d := HBG.out.drew
    have G1 : ∀ W, Kept [p, q] w6 W → W.cell? ⟨P, 1, none⟩ = some (.pointer (some ⟨q, 0, none⟩)) := fun W hx => F1 W (HK6.out.trans hx)
    have G2 : ∀ W, Kept [p, q] w6 W → W.cell? ⟨P, 2, none⟩ = some (.slice tA txs.length tc) := fun W hx => F2 W (HK6.out.trans hx)
    have G3 : ∀ W, Kept [p, q] w6 W → W.cell? ⟨g3, 1, none⟩ = some (.slice A1 sh.length c1) := fun W hx => F3 W (HK6.out.trans hx)
    have hx6d : Kept [p, q] w6 w6.drew := (Kept.refl _ _).drew
    have HGN : Hid (gt ∉ [p, q]) := Lib.hid (by have h1 := HG6.out; have h2 := HP5.out; have h3 := HQ5.out; simp; omega)
    have HQ6 : Hid (q < w6.heap.size) := Lib.hid (by have := HQ5.out; have := HK6.out.size; omega)
    clear F0 F1 F2 F3
    go_wp2_with fail
    refine wp_region_phase (S := fun w' => Kept [p, q] w6 w') 12 (by kernel_rfl) (by kernel_rfl) ?_ (fun hHeld => ?_)
    ·exact hx6d
    simp only [List.drop_succ_cons, List.drop_zero]
    refine name_head ?_
    intro wr0 hw0
    rw [hw0] at hHeld
    have hb6 := hw0 ▸ hb6d
    refine wt 0 _ ?_
    simp only [red, Act.put]
    refine wt 1 _ ?_
    simp only [red, Act.put]
    refine wt 2 _ ?_
    simp only [red, Act.put]
    refine wt 3 _ ?_
    simp only [red, Act.put]
    refine wt 4 _ ?_
    simp only [red, Act.put]
    refine wt 5 _ ?_
    simp only [red, Act.put]
    refine rd [6, 10] ?_
    refine ac (fun K hK => ?_) ?_
    ·refine step_callG (by rfl) (by kernel_rfl) (RBegin_any hb6.rc HPM.out.ok hb6.qM hb6.lt A1 c1 sh hb6.sl hsl) ?_
     rintro e wr6 ⟨rfl, hrc7, hk7⟩
     replace hb6 := hb6.callY hrc7 hk7
     try replace hrow10 := hk7.heap hrow10 (by have := HQ6.out; simp; omega)
     refine ⟨_, rfl, ?_⟩
     refine hK.out _ _ ?_ (fun hHeld => ?_)
     ·exact hHeld.trans (hk7.mono (by simp))
     clear hK K
     try simp only [red, Act.put]
     refine wt 7 _ ?_
     simp only [red, Act.put]
     refine wt 8 _ ?_
     simp only [red, Act.put]
     refine wt 9 _ ?_
     simp only [red, Act.put]
     refine rd [10] ?_
     refine ac (fun K hK => ?_) ?_
     ·go_simp
      refine name_world ?_
      rintro wr10 hw10
      have hxn10 : Ext wr6 wr10 := hw10 ▸ (Ext.refl _).alloc _
      have hrow10 : wr10.heap[wr6.heap.size]? = some (.cells #[.int .i64 0, .int .i64 0, .int .i64 0] 35) := hw10 ▸ heap_alloc_new wr6 _
      replace hb6 := hb6.new hxn10 hrow10
      have hg10 : w6.heap.size ≤ wr6.heap.size := hHeld.size
      generalize wr6.heap.size = gu at *
      refine hK.out _ _ ?_ (fun hHeld => ?_)
      ·exact hHeld.ext hxn10
      clear hK K
      try simp only [red, Act.put]
      refine rd [11] ?_
      refine ac (fun K hK => ?_) ?_
      ·refine step_store_whole (by rfl) rfl rfl rfl hrow10 (apitx_size _ _ _) rfl (by simp [Value.oneCell']) ?_
       rintro wr11 hrow11 hk11 hz11
       replace hb6 := hb6.store hk11 (List.mem_cons_self ..) (by have := HP5.out; have := HK6.out.size; omega) (by have := HQ6.out; omega)
       refine hK.out _ _ ?_ (fun hHeld => ?_)
       ·exact kept_new hHeld hk11 hg10
       clear hK K
       try simp only [red, Act.put]
       refine wpHead_done (by kernel_rfl) ?_
       have HKW := Lib.hid (HK6.out.trans hHeld)
       have HR7 := Lib.hid (hHeld.heap HR6.out HGN.out)
       have HU7 := Lib.hid hrow11
       have HPM7 := Lib.hid (HPM.out.turn (fun k hk => List.mem_cons_of_mem _ (List.mem_cons_of_mem _ hk)) HKW.out hb6.co hb6.rc (ok_begin HPM.out.ok sh) (few_begin HPM.out.few sh))
       have HG7 := Lib.hid hg10
       have p27 := G2 _ hHeld
       have HZ7 := Lib.hid hHeld.size
       clear hrow10 hk11 hz11 hw10 hxn10 hrc7 hk7 hHeld hrow11 hb6 hg10 hw0 hx6d hb6d G1 G2 G3
       generalize wr11 = w7 at *
       have HPT7 := Lib.hid (pt_kept HPM.out.pB HPM.out.qB HX5.out HKW.out)
       by_cases he : beginE s sh = 0; rotate_left
       ·replace HV : Hid (doS s txs d = (beginS s sh, txs)) := Lib.hid (by rw [HV.out, if_neg he])
        have heb : (beginE s sh == 0) = false := by simpa using he
        generalize beginE s sh = be at *
        generalize beginS s sh = bs at *
        generalize beginT s sh = bt at *
        clear he p27
        go_wp2_with (with_reducible refine sL 35 ?_)
        refine go_on (wpList_load_row rfl 35 _ rfl gt rfl 35 _ (0, 0) _ HR7.out Try.underlying35 rfl (apitx_size _ _ _) ?_)
        go_wp2_with (with_reducible refine sL 35 ?_)
        refine go_on (wpList_load_row rfl 35 _ rfl gu rfl 35 _ (0, 0) _ HU7.out Try.underlying35 rfl (apitx_size _ _ _) ?_)
        go_wp2
        go_ret
        rw [HV.out]
        exact ⟨rfl, B, _, HPM7.out.mono (Nat.le_succ _), HPT7.out⟩
       ·replace HV : Hid (doS s txs d = (beginS s sh, txs ++ [beginT s sh])) := Lib.hid (by rw [HV.out, if_pos he])
        rw [he]
        clear he
        generalize beginS s sh = bs at *
        generalize beginT s sh = bt at *
        obtain ⟨n1, n2, n3⟩ := HPM7.out.own_ne
        have hgt : gt ∉ (Value.slice tA txs.length tc).ownBlock.toList := fun hm => by
         have h1 := HPM.out.lt gt (List.mem_append.2 (.inr (HPM.out.tB gt (by simpa using hm))))
         have := HG6.out
         omega
        have hgu : gu ∉ (Value.slice tA txs.length tc).ownBlock.toList := fun hm => by
         have h1 := HPM.out.lt gu (List.mem_append.2 (.inr (HPM.out.tB gu (by simpa using hm))))
         have := HG7.out
         have := HK6.out.size
         omega
        have HGT := Lib.hid hgt
        have HGU := Lib.hid hgu
        have HN3 := Lib.hid n3
        have HPN : Hid (gt ∉ [P] ∧ gu ∉ [P]) := Lib.hid (by
         have h1 := HPM.out.lt P (List.mem_append.2 (.inr HPM.out.PB))
         have := HG6.out
         have := HG7.out
         have := HK6.out.size
         simp
         omega)
        have H2 : ∀ W, Kept (Value.slice tA txs.length tc).ownBlock.toList w7 W → W.cell? ⟨P, 2, none⟩ = some (.slice tA txs.length tc) := fun W hx => hx.cell p27 n3
        have htb : ∀ W, Kept (Value.slice tA txs.length tc).ownBlock.toList w7 W → ∀ j v, (txiC bt)[j]? = some v → W.cell? ((⟨gt, 0, none⟩ : Addr).add j) = some v := fun W hx => tx_at (hx.heap HR7.out HGT.out)
        have hx7d : Kept (Value.slice tA txs.length tc).ownBlock.toList w7 w7.drew := (Kept.refl _ _).drew
        have hp7d := HPM7.out.ext (Ext.refl w7).drew
        clear n1 n2 n3 hgt hgu p27
        go_wp2_with fail
        refine wp_region_phase (S := fun w' => Kept (Value.slice tA txs.length tc).ownBlock.toList w7 w') 8 (by kernel_rfl) (by kernel_rfl) ?_ (fun hHeld => ?_)
        ·exact hx7d
        simp only [List.drop_succ_cons, List.drop_zero]
        refine name_head ?_
        intro wr0 hw0
        rw [hw0] at hHeld
        have hpm := hw0 ▸ hp7d
        have hpt := hw0 ▸ (Kept.refl ([] : List Nat) w7).drew
        refine wt 0 _ ?_
        simp only [red, Act.put]
        refine wt 1 _ ?_
        simp only [red, Act.put]
        refine wt 2 _ ?_
        simp only [red, Act.put]
        refine wt 3 _ ?_
        simp only [red, Act.put]
        refine wt 4 _ ?_
        simp only [red, Act.put]
        refine wy 5 (v := .agg #[.int .i64 bt.node, .int .i64 bt.boot, .int .i64 bt.n]) (by rfl) (by exact yieldsIf_load_elem (by rfl) 35 _ rfl ⟨gt, 0, none⟩ rfl (txiC bt) _ (fun w' hx => htb w' hx) Try.underlying35 rfl (by kernel_rfl)) ?_
        simp only [red, Act.put]
        refine rd [6] ?_
        refine ac (fun K hK => ?_) ?_
        ·go_simp
         refine name_world ?_
         rintro wr6 hw6
         have hxn6 : Ext wr0 wr6 := hw6 ▸ (Ext.refl _).alloc _
         have hrow6 : wr6.heap[wr0.heap.size]? = some (.cells #[.int .i64 bt.node, .int .i64 bt.boot, .int .i64 bt.n] 35) := hw6 ▸ heap_alloc_new wr0 _
         replace hpm := hpm.ext hxn6
         replace hpt := hpt.ext hxn6
         have hnw : Sl wr6 (some ⟨wr0.heap.size, 0, none⟩) (txiC bt) := Sl.of_row hrow6
         refine hK.out _ _ ?_ (fun hHeld => ?_)
         ·exact hHeld.ext hxn6
         clear hK K
         try simp only [red, Act.put]
         refine rd [7] ?_
         refine ac (fun K hK => ?_) ?_
         ·have hpm0 := hpm
          refine step_ap apitxsT hpm.to hnw rfl rfl rfl rfl rfl (txiC_one _) (by omega) (by omega) hpm.ex.size ?_
          rintro v8 wr7 ho8 hg8 hor8
          obtain ⟨A8, c8, rfl⟩ := own_form ho8
          refine hK.out _ _ ?_ (fun hHeld => ?_)
          ·exact hHeld.grown hg8 (fun k hk => .inl (by simp [hk]))
          clear hK K
          try simp only [red, Act.put]
          refine wpHead_done (by kernel_rfl) ?_
          obtain ⟨hpush, hpts⟩ := hpm0.push ho8 hg8 hor8
          have HPU := Lib.hid hpush
          have hpt67 : PTurn B w B wr6 := HPT7.out.trans (.of_kept hpt (by simp))
          have HPS := Lib.hid (hpt67.trans hpts)
          have hrP := hHeld.heap HPM7.out.row HN3.out
          obtain ⟨R0, R1, R2, RF⟩ := row3_at hrP
          have hk9 : Kept [P] wr7 (wr7.setCell ⟨P, 2, none⟩ (.slice A8 (txs.length + 1) c8)) := (Kept.refl _ _).setCell (.inl (by simp)) _
          have HR9 := Lib.hid (hk9.heap (hHeld.heap HR7.out HGT.out) HPN.out.1)
          have HU9 := Lib.hid (hk9.heap (hHeld.heap HU7.out HGU.out) HPN.out.2)
          clear hpush hpts hpt67 hk9 hrP ho8 hg8 hor8 hHeld hnw hpm hpm0 hpt hx7d hp7d H2 htb R0 R1 hw0
          go_wp2_with (with_reducible refine sL 35 ?_)
          refine go_on (wpList_load_row rfl 35 _ rfl gt rfl 35 _ (0, 0) _ HR9.out Try.underlying35 rfl (apitx_size _ _ _) ?_)
          go_wp2_with (with_reducible refine sL 35 ?_)
          refine go_on (wpList_load_row rfl 35 _ rfl gu rfl 35 _ (0, 0) _ HU9.out Try.underlying35 rfl (apitx_size _ _ _) ?_)
          go_wp2
          go_ret
          rw [HV.out]
          exact ⟨rfl, _, _, HPU.out.mono (Nat.le_succ _), HPS.out⟩
         exact AllHead.nil
        exact AllHead.nil
      exact AllHead.nil
     exact AllHead.nil
    refine ac (fun K hK => ?_) ?_
    ·go_simp
     refine name_world ?_
     rintro wr10 hw10
     have hxn10 : Ext wr0 wr10 := hw10 ▸ (Ext.refl _).alloc _
     have hrow10 : wr10.heap[wr0.heap.size]? = some (.cells #[.int .i64 0, .int .i64 0, .int .i64 0] 35) := hw10 ▸ heap_alloc_new wr0 _
     replace hb6 := hb6.new hxn10 hrow10
     have hg10 : w6.heap.size ≤ wr0.heap.size := hHeld.size
     generalize wr0.heap.size = gu at *
     refine hK.out _ _ ?_ (fun hHeld => ?_)
     ·exact hHeld.ext hxn10
     clear hK K
     try simp only [red, Act.put]
     refine rd [6] ?_
     refine ac (fun K hK => ?_) ?_
     ·refine step_callG (by rfl) (by kernel_rfl) (RBegin_any hb6.rc HPM.out.ok hb6.qM hb6.lt A1 c1 sh hb6.sl hsl) ?_
      rintro e wr6 ⟨rfl, hrc7, hk7⟩
      replace hb6 := hb6.callY hrc7 hk7
      try replace hrow10 := hk7.heap hrow10 (by have := HQ6.out; simp; omega)
      refine ⟨_, rfl, ?_⟩
      refine hK.out _ _ ?_ (fun hHeld => ?_)
      ·exact hHeld.trans (hk7.mono (by simp))
      clear hK K
      try simp only [red, Act.put]
      refine wt 7 _ ?_
      simp only [red, Act.put]
      refine wt 8 _ ?_
      simp only [red, Act.put]
      refine wt 9 _ ?_
      simp only [red, Act.put]
      refine rd [11] ?_
      refine ac (fun K hK => ?_) ?_
      ·refine step_store_whole (by rfl) rfl rfl rfl hrow10 (apitx_size _ _ _) rfl (by simp [Value.oneCell']) ?_
       rintro wr11 hrow11 hk11 hz11
       replace hb6 := hb6.store hk11 (List.mem_cons_self ..) (by have := HP5.out; have := HK6.out.size; omega) (by have := HQ6.out; omega)
       refine hK.out _ _ ?_ (fun hHeld => ?_)
       ·exact kept_new hHeld hk11 hg10
       clear hK K
       try simp only [red, Act.put]
       refine wpHead_done (by kernel_rfl) ?_
       have HKW := Lib.hid (HK6.out.trans hHeld)
       have HR7 := Lib.hid (hHeld.heap HR6.out HGN.out)
       have HU7 := Lib.hid hrow11
       have HPM7 := Lib.hid (HPM.out.turn (fun k hk => List.mem_cons_of_mem _ (List.mem_cons_of_mem _ hk)) HKW.out hb6.co hb6.rc (ok_begin HPM.out.ok sh) (few_begin HPM.out.few sh))
       have HG7 := Lib.hid hg10
       have p27 := G2 _ hHeld
       have HZ7 := Lib.hid hHeld.size
       clear hrow10 hk11 hz11 hw10 hxn10 hrc7 hk7 hHeld hrow11 hb6 hg10 hw0 hx6d hb6d G1 G2 G3
       generalize wr11 = w7 at *
       have HPT7 := Lib.hid (pt_kept HPM.out.pB HPM.out.qB HX5.out HKW.out)
       by_cases he : beginE s sh = 0; rotate_left
       ·replace HV : Hid (doS s txs d = (beginS s sh, txs)) := Lib.hid (by rw [HV.out, if_neg he])
        have heb : (beginE s sh == 0) = false := by simpa using he
        generalize beginE s sh = be at *
        generalize beginS s sh = bs at *
        generalize beginT s sh = bt at *
        clear he p27
        go_wp2_with (with_reducible refine sL 35 ?_)
        refine go_on (wpList_load_row rfl 35 _ rfl gt rfl 35 _ (0, 0) _ HR7.out Try.underlying35 rfl (apitx_size _ _ _) ?_)
        go_wp2_with (with_reducible refine sL 35 ?_)
        refine go_on (wpList_load_row rfl 35 _ rfl gu rfl 35 _ (0, 0) _ HU7.out Try.underlying35 rfl (apitx_size _ _ _) ?_)
        go_wp2
        go_ret
        rw [HV.out]
        exact ⟨rfl, B, _, HPM7.out.mono (Nat.le_succ _), HPT7.out⟩
       ·replace HV : Hid (doS s txs d = (beginS s sh, txs ++ [beginT s sh])) := Lib.hid (by rw [HV.out, if_pos he])
        rw [he]
        clear he
        generalize beginS s sh = bs at *
        generalize beginT s sh = bt at *
        obtain ⟨n1, n2, n3⟩ := HPM7.out.own_ne
        have hgt : gt ∉ (Value.slice tA txs.length tc).ownBlock.toList := fun hm => by
         have h1 := HPM.out.lt gt (List.mem_append.2 (.inr (HPM.out.tB gt (by simpa using hm))))
         have := HG6.out
         omega
        have hgu : gu ∉ (Value.slice tA txs.length tc).ownBlock.toList := fun hm => by
         have h1 := HPM.out.lt gu (List.mem_append.2 (.inr (HPM.out.tB gu (by simpa using hm))))
         have := HG7.out
         have := HK6.out.size
         omega
        have HGT := Lib.hid hgt
        have HGU := Lib.hid hgu
        have HN3 := Lib.hid n3
        have HPN : Hid (gt ∉ [P] ∧ gu ∉ [P]) := Lib.hid (by
         have h1 := HPM.out.lt P (List.mem_append.2 (.inr HPM.out.PB))
         have := HG6.out
         have := HG7.out
         have := HK6.out.size
         simp
         omega)
        have H2 : ∀ W, Kept (Value.slice tA txs.length tc).ownBlock.toList w7 W → W.cell? ⟨P, 2, none⟩ = some (.slice tA txs.length tc) := fun W hx => hx.cell p27 n3
        have htb : ∀ W, Kept (Value.slice tA txs.length tc).ownBlock.toList w7 W → ∀ j v, (txiC bt)[j]? = some v → W.cell? ((⟨gt, 0, none⟩ : Addr).add j) = some v := fun W hx => tx_at (hx.heap HR7.out HGT.out)
        have hx7d : Kept (Value.slice tA txs.length tc).ownBlock.toList w7 w7.drew := (Kept.refl _ _).drew
        have hp7d := HPM7.out.ext (Ext.refl w7).drew
        clear n1 n2 n3 hgt hgu p27
        go_wp2_with fail
        refine wp_region_phase (S := fun w' => Kept (Value.slice tA txs.length tc).ownBlock.toList w7 w') 8 (by kernel_rfl) (by kernel_rfl) ?_ (fun hHeld => ?_)
        ·exact hx7d
        simp only [List.drop_succ_cons, List.drop_zero]
        refine name_head ?_
        intro wr0 hw0
        rw [hw0] at hHeld
        have hpm := hw0 ▸ hp7d
        have hpt := hw0 ▸ (Kept.refl ([] : List Nat) w7).drew
        refine wt 0 _ ?_
        simp only [red, Act.put]
        refine wt 1 _ ?_
        simp only [red, Act.put]
        refine wt 2 _ ?_
        simp only [red, Act.put]
        refine wt 3 _ ?_
        simp only [red, Act.put]
        refine wt 4 _ ?_
        simp only [red, Act.put]
        refine wy 5 (v := .agg #[.int .i64 bt.node, .int .i64 bt.boot, .int .i64 bt.n]) (by rfl) (by exact yieldsIf_load_elem (by rfl) 35 _ rfl ⟨gt, 0, none⟩ rfl (txiC bt) _ (fun w' hx => htb w' hx) Try.underlying35 rfl (by kernel_rfl)) ?_
        simp only [red, Act.put]
        refine rd [6] ?_
        refine ac (fun K hK => ?_) ?_
        ·go_simp
         refine name_world ?_
         rintro wr6 hw6
         have hxn6 : Ext wr0 wr6 := hw6 ▸ (Ext.refl _).alloc _
         have hrow6 : wr6.heap[wr0.heap.size]? = some (.cells #[.int .i64 bt.node, .int .i64 bt.boot, .int .i64 bt.n] 35) := hw6 ▸ heap_alloc_new wr0 _
         replace hpm := hpm.ext hxn6
         replace hpt := hpt.ext hxn6
         have hnw : Sl wr6 (some ⟨wr0.heap.size, 0, none⟩) (txiC bt) := Sl.of_row hrow6
         refine hK.out _ _ ?_ (fun hHeld => ?_)
         ·exact hHeld.ext hxn6
         clear hK K
         try simp only [red, Act.put]
         refine rd [7] ?_
         refine ac (fun K hK => ?_) ?_
         ·have hpm0 := hpm
          refine step_ap apitxsT hpm.to hnw rfl rfl rfl rfl rfl (txiC_one _) (by omega) (by omega) hpm.ex.size ?_
          rintro v8 wr7 ho8 hg8 hor8
          obtain ⟨A8, c8, rfl⟩ := own_form ho8
          refine hK.out _ _ ?_ (fun hHeld => ?_)
          ·exact hHeld.grown hg8 (fun k hk => .inl (by simp [hk]))
          clear hK K
          try simp only [red, Act.put]
          refine wpHead_done (by kernel_rfl) ?_
          obtain ⟨hpush, hpts⟩ := hpm0.push ho8 hg8 hor8
          have HPU := Lib.hid hpush
          have hpt67 : PTurn B w B wr6 := HPT7.out.trans (.of_kept hpt (by simp))
          have HPS := Lib.hid (hpt67.trans hpts)
          have hrP := hHeld.heap HPM7.out.row HN3.out
          obtain ⟨R0, R1, R2, RF⟩ := row3_at hrP
          have hk9 : Kept [P] wr7 (wr7.setCell ⟨P, 2, none⟩ (.slice A8 (txs.length + 1) c8)) := (Kept.refl _ _).setCell (.inl (by simp)) _
          have HR9 := Lib.hid (hk9.heap (hHeld.heap HR7.out HGT.out) HPN.out.1)
          have HU9 := Lib.hid (hk9.heap (hHeld.heap HU7.out HGU.out) HPN.out.2)
          clear hpush hpts hpt67 hk9 hrP ho8 hg8 hor8 hHeld hnw hpm hpm0 hpt hx7d hp7d H2 htb R0 R1 hw0
          go_wp2_with (with_reducible refine sL 35 ?_)
          refine go_on (wpList_load_row rfl 35 _ rfl gt rfl 35 _ (0, 0) _ HR9.out Try.underlying35 rfl (apitx_size _ _ _) ?_)
          go_wp2_with (with_reducible refine sL 35 ?_)
          refine go_on (wpList_load_row rfl 35 _ rfl gu rfl 35 _ (0, 0) _ HU9.out Try.underlying35 rfl (apitx_size _ _ _) ?_)
          go_wp2
          go_ret
          rw [HV.out]
          exact ⟨rfl, _, _, HPU.out.mono (Nat.le_succ _), HPS.out⟩
         exact AllHead.nil
        exact AllHead.nil
      exact AllHead.nil
     exact AllHead.nil
    exact AllHead.nil
   exact AllHead.nil
  exact AllHead.nil
 exact AllHead.nil
end
end Go.Proofs.Ytijopcdjlpafdaa
