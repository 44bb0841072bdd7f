/- The walk of the law CoordForks: it answers true. Conditions: the scripts stand in memory. -/
import Derived.Test.YtijopcdjlpafdaaC2
import Derived.Test.YtijopcdjlpafdaaCoP7M
import Derived.Deep.Cut
import Derived.Deep.CutRange
namespace Go.Proofs.Ytijopcdjlpafdaa
open Go.RowKit
/-- a node and a reference's node, while blocks are laid beside -/
structure FK (M : List Nat) (w : World) (p q : Nat) (s : Cs) : Prop where
 co : Co M w p s
 rc : Rc M w q s
 pM : p ∈ M
 qM : q ∈ M
 lt : ∀ k ∈ M, k < w.heap.size
section
variable {M : List Nat} {w w' : World} {p q : Nat} {s : Cs}
theorem FK.drew (h : FK M w p q s) : FK M w.drew p q s := ⟨h.co.ext (Ext.refl w).drew, h.rc.ext (Ext.refl w).drew, h.pM, h.qM, h.lt⟩
theorem new_sub : ∀ k ∈ w.heap.size :: M, k ∈ M ∨ w.heap.size ≤ k := fun k hk => by
 rcases List.mem_cons.1 hk with rfl | hk
 ·exact .inr (Nat.le_refl _)
 ·exact .inl hk
theorem FK.new (h : FK M w p q s) (hx : Ext w w') {o : Obj} (hr : w'.heap[w.heap.size]? = some o) : FK (w.heap.size :: M) w' p q s := by
 have hl : w.heap.size < w'.heap.size := (Array.getElem?_eq_some_iff.1 hr).1
 exact ⟨(h.co.old new_sub).ext hx, (h.rc.old new_sub).ext hx, List.mem_cons_of_mem _ h.pM, List.mem_cons_of_mem _ h.qM, fun k hk => by
  rcases List.mem_cons.1 hk with rfl | hk
  ·exact hl
  ·exact Nat.lt_of_lt_of_le (h.lt k hk) hx.size⟩
theorem FK.forkX (h : FK M w p q s) (hx : Ext w w') (hz : w.heap.size < w'.heap.size) (hc : ∀ N : List Nat, (∀ k ∈ N, k ∈ M ∨ k = w.heap.size) → Co N w' w.heap.size s) : FK (w.heap.size :: M) w' w.heap.size q s :=
 ⟨hc _ fun k hk => by
  rcases List.mem_cons.1 hk with rfl | hk
  ·exact .inr rfl
  ·exact .inl hk, (h.rc.old new_sub).ext hx, List.mem_cons_self .., List.mem_cons_of_mem _ h.qM, fun k hk => by
  rcases List.mem_cons.1 hk with rfl | hk
  ·exact hz
  ·exact Nat.lt_of_lt_of_le (h.lt k hk) hx.size⟩
theorem FK.forkY (h : FK M w p q s) (hx : Ext w w') (hz : w.heap.size < w'.heap.size) (hc : ∀ N : List Nat, (∀ k ∈ N, k ∈ M ∨ w.heap.size ≤ k) → Rc N w' w.heap.size s) : FK (w.heap.size :: M) w' p w.heap.size s :=
 ⟨(h.co.old new_sub).ext hx, hc _ new_sub, List.mem_cons_of_mem _ h.pM, List.mem_cons_self .., fun k hk => by
  rcases List.mem_cons.1 hk with rfl | hk
  ·exact hz
  ·exact Nat.lt_of_lt_of_le (h.lt k hk) hx.size⟩
/-- names are laid into a row of the call's own -/
theorem FK.grow (h : FK M w p q s) {base n : Nat} {v v' : Value} {xs : List Value} {n' : Nat} {xs' : List Value} (ho : w.ownsRow base 35 3 v n xs) (hv : ∀ g, v.ownBlock = some g → g ∈ M) (hg : w.grownBy w' v.ownBlock) (ho' : w'.ownsRow base 35 3 v' n' xs') (hor : v'.ownBlock = v.ownBlock ∨ v'.ownBlock = some w.heap.size) :
 FK (v'.ownBlock.toList ++ M) w' p q s := by
 have hk : Kept v.ownBlock.toList w w' := (Kept.refl _ _).grown hg fun k hk => .inl (by simp [hk])
 have hold : ∀ k ∈ v'.ownBlock.toList ++ M, k ∈ M ∨ w.heap.size ≤ k := fun k hk => by
  rcases List.mem_append.1 hk with hk | hk
  ·have hk : v'.ownBlock = some k := by simpa using hk
   rcases hor with e | e
   ·exact .inl (hv k (by rw [← e, hk]))
   ·rw [hk] at e; injection e with e; exact .inr (Nat.le_of_eq e.symm)
  ·exact .inl hk
 have hs : ∀ k ∈ v.ownBlock.toList, k ∈ v'.ownBlock.toList ++ M := fun k hk => List.mem_append.2 (.inr (hv k (by simpa using hk)))
 have key : ∀ {cs : Array Value} {t : TypeId} {k : Nat}, w.heap[k]? = some (.cells cs t (0, 0)) → 35 ≠ t → k ∉ v.ownBlock.toList := fun {cs t k} hk ht hm => by
  have hm : v.ownBlock = some k := by simpa using hm
  rcases owns_obj ho hk ht with e | e
  ·rw [e] at hm; cases hm
  ·exact e hm
 obtain ⟨c1, h1⟩ := h.co.obj
 obtain ⟨c2, h2⟩ := h.rc.obj
 exact ⟨(h.co.old hold).kept hk (key h1 (by decide)) hs, (h.rc.old hold).kept hk (key h2 (by decide)) hs, List.mem_append.2 (.inr h.pM), List.mem_append.2 (.inr h.qM), fun k hk2 => by
  rcases List.mem_append.1 hk2 with hk2 | hk2
  ·exact (ho'.lt k (by simpa using hk2)).2
  ·exact Nat.lt_of_lt_of_le (h.lt k hk2) hk.size⟩
end
theorem FK.pm {M : List Nat} {w1 w : World} {f g Q n : Nat} {v : Value} {s : Cs} {txs : List TxI} (h : FK M w f g s) (hx : Ext w1 w) (hr : w.heap[Q]? = some (.cells #[.pointer (some ⟨f, 0, none⟩), .pointer (some ⟨g, 0, none⟩), v] 55 (0, 0))) (hQ : Q ∈ M) (hv : ∀ k ∈ v.ownBlock.toList, k ∈ M)
 (h1 : w1.heap.size ≤ Q) (h2 : w1.heap.size ≤ f) (h3 : w1.heap.size ≤ g) (ho : w.ownsRow w1.heap.size 35 3 v txs.length (txs.flatMap txiC)) (hok : s.Ok) (hf : s.Few n) : PM [] (Q :: f :: g :: v.ownBlock.toList) w1 w Q f g v s txs n := by
 have hsub : ∀ k ∈ [] ++ (Q :: f :: g :: v.ownBlock.toList), k ∈ M := fun k hk => by
  simp only [List.nil_append, List.mem_cons] at hk
  rcases hk with rfl | rfl | rfl | hk
  ·exact hQ
  ·exact h.pM
  ·exact h.qM
  ·exact hv k hk
 refine ⟨hx, hr, h.co.old fun k hk => .inl (hsub k hk), h.rc.old fun k hk => .inl (hsub k hk), by simp, by simp, by simp, fun k hk => by simp [hk], fun k hk => h.lt k (hsub k hk), fun k hk => ?_, by simp, ho, hok, hf⟩
 simp only [List.mem_cons] at hk
 rcases hk with rfl | rfl | rfl | hk
 ·exact h1
 ·exact h2
 ·exact h3
 ·exact (ho.lt k (by simpa using hk)).1
theorem txs_one {txs : List TxI} : ∀ u ∈ txs.flatMap txiC, u.oneCell' = true := by
 intro u hu
 obtain ⟨t, _, hu⟩ := List.mem_flatMap.1 hu
 exact txiC_one t u hu
set_option maxRecDepth 20000 in
set_option maxHeartbeats 8000000 in
theorem Forks_any (l more : List Cl) (A Am : Option Addr) (c cm : Nat) (d : Cl) (A1 : Option Addr) (c1 : Nat) (A2 : Option Addr) (c2 : Nat) (w : World) (hl : RsM RCl 9 [] w A l) (hm : RsM RCl 9 [] w Am more) :
 Calls Try.prog 6 #[.slice A l.length c, .slice Am more.length cm, .agg (clC d A1 c1 A2 c2).toArray] w (Yes w) := by
 obtain ⟨wa, hwa⟩ : ∃ wa, wa = w.alloc (.cells (clC d A1 c1 A2 c2).toArray 37) := ⟨_, rfl⟩
 have hxa : Ext w wa := by rw [hwa]; exact (Ext.refl w).alloc _
 have HC0 : Hid (ClAt wa w.heap.size d A1 c1 A2 c2) := Lib.hid (by unfold ClAt; rw [hwa]; exact heap_alloc_new w _)
 have HPL := play_any 4 l A c wa (by omega) (by omega) (hl.kept (.of_ext hxa))
 have HMO := Lib.hid hm
 have hwaA := hwa.symm
 unfold clC at hwaA
 clear hwa hl hm
 unfold Yes
 show Calls Try.prog 6 #[.slice A l.length c, .slice Am more.length cm, .agg #[.int .i64 d.do_, .slice A1 d.shards.length c1, .int .i64 d.shard, .bool d.keep, .int .u8 (d.which : Int), .int .i64 d.tx.node, .int .i64 d.tx.boot, .int .i64 d.tx.n, .slice A2 d.bytes.length c2]] w _
 go_enter Try.func6, Try.ntmps6
 go_wp2_with fail
 clear hwaA
 generalize hgg : w.heap.size = g5 at *
 clear hgg
 refine HPL.mono ?_
 rintro e w1 ⟨P, p, q, B, tv, s, txs, rfl, hpm1, htl⟩
 have HPM1 := Lib.hid hpm1
 have HX1 := Lib.hid (hxa.trans hpm1.ex)
 have HC1 := Lib.hid (HC0.out.ext hpm1.ex)
 obtain ⟨P0, P1, P2, PF⟩ := row3_at hpm1.row
 obtain ⟨tA, tc, rfl⟩ := own_form hpm1.to
 have hsl := Sl.own hpm1.to rfl
 have HTL := Lib.hid (show (txs.flatMap txiC).length = txs.length * 3 by rw [List.flatMap_def, flatten_length (s := 3) (by intro cs hc; obtain ⟨t, _, rfl⟩ := List.mem_map.1 hc; rfl)]; simp)
 have F0 : ∀ W, Ext w1 W → W.cell? ⟨P, 0, none⟩ = some (.pointer (some ⟨p, 0, none⟩)) := fun W hx => hx.cell P0
 have F1 : ∀ W, Ext w1 W → W.cell? ⟨P, 1, none⟩ = some (.pointer (some ⟨q, 0, none⟩)) := fun W hx => hx.cell P1
 have F2 : ∀ W, Ext w1 W → W.cell? ⟨P, 2, none⟩ = some (.slice tA txs.length tc) := fun W hx => hx.cell P2
 have hfk : FK ([] ++ B) w1.drew p q s := FK.drew ⟨hpm1.co, hpm1.rc, hpm1.pE, hpm1.qE, hpm1.lt⟩
 have hxd : Ext w1 w1.drew := (Ext.refl _).drew
 have hfew : s.under.length ≤ 1000 := by have := hpm1.ok.few; omega
 clear HPL hpm1 P1 P2 PF HC0 hxa
 go_upto_region 4 with fail
 clear P0
 go_cut [9] from 34 to 51 (fun qv wx => ∃ (Q f g : Nat) (B' : List Nat) (v : Value), qv = .pointer (some ⟨Q, 0, none⟩) ∧ Hid (PM [] B' w1 wx Q f g v s txs 120))
 case rest =>
  clear hfk hxd hfew F0 F1 F2 hsl
  obtain ⟨Q, f, g, B4, v4, rfl, HPQ⟩ := hcut
  go_wp2
  go_loopw [10] (fun iv wr => ∃ (i : Nat) (B : List Nat) (tv : Value) (s' : Cs) (txs' : List TxI), iv = .int .i64 i ∧ i ≤ more.length ∧ i ≤ 60 ∧ Hid (PM [] B w1 wr Q f g tv s' txs' (120 + i)) ∧ txs'.length ≤ 120 + i) (fun iv _ => more.length - (intOf iv).toNat)
  case atStart => exact ⟨0, _, _, _, _, rfl, by omega, by omega, HPQ, by omega⟩
  case round =>
   obtain ⟨i, B', tv', s', txs', rfl, hil, hi, HPM2, htl2⟩ := hrel
   clear HPQ
   by_cases hlt : i < more.length ∧ i < 60
   ·obtain ⟨hlt, hlt60⟩ := hlt
    have q1 : (i : Int) < (more.length : Int) := by omega
    have q2 : (i : Int) < 60 := by omega
    obtain ⟨ad, A3, c3, A4, c4, rfl, hO, hcl⟩ := HMO.out.clO hlt
    have HO := Lib.hid (hO.ext HX1.out)
    have HCL := Lib.hid hcl
    have hdl := doS_len s' txs' more[i]
    generalize more[i] = dd at *
    clear hO hcl
    have HD := do_any HPM2.out (by simp) (by omega) dd A3 c3 A4 c4 (by omega) HO.out
    unfold pt at HD
    have hx2 := HX1.out.trans HPM2.out.ex
    go_wp2_with (with_reducible first | refine sL 37 ?_ | refine sL 35 ?_ | refine sA 35 ?_ | refine sS 35 ?_)
    refine go_on (wpList_load_elem rfl 37 _ rfl (ad.add (i * 9)) rfl (clC dd A3 c3 A4 c4) _ (HCL.out _ hx2) Try.underlying37 rfl (by kernel_rfl) ?_)
    clear hx2
    go_wp2_with fail
    refine HD.mono ?_
    rintro e w5 ⟨rfl, B5, tv5, hpm5, hpt5⟩
    have HPM5 := Lib.hid hpm5
    clear HD hpm5 hpt5
    go_wp2
    go_roundw
    case rel => exact ⟨i + 1, _, _, _, _, by go_num, by omega, by omega, HPM5, by omega⟩
    case measure => simp [intOf]; omega
   ·have hor : ¬ (i : Int) < (more.length : Int) ∨ ((i : Int) < (more.length : Int) ∧ ¬ (i : Int) < 60) := by omega
    clear hlt
    have HP2 := Lib.hid (HPM1.out.ext HPM2.out.ex)
    have HC2 := Lib.hid (HC1.out.ext HPM2.out.ex)
    go_upto_region 6 with fail
    go_cut [59] from 52 to 59 (fun s wx => s = .bool false ∧ wr = wx)
    case first =>
     rcases hor with q1 | ⟨q1, q2⟩
     ·go_wp2_with fail
      go_meet
      exact ⟨rfl, rfl⟩
     ·go_wp2_with fail
      go_meet
      exact ⟨rfl, rfl⟩
    case rest =>
    obtain ⟨rfl, rfl⟩ := hcut
    clear hor
    as_aux_lemma =>
    have HTC := HC2.out.tx
    obtain ⟨kk0, kk1, kk2, kk3, kk4⟩ := HC2.out.all
    have K1 : ∀ W, Ext wr W → W.cell? ⟨g5, 1, none⟩ = some (.slice A1 d.shards.length c1) := fun W hx => hx.cell kk1
    have K2 : ∀ W, Ext wr W → W.cell? ⟨g5, 2, none⟩ = some (.int .i64 d.shard) := fun W hx => hx.cell kk2
    have K8 : ∀ W, Ext wr W → W.cell? ⟨g5, 8, none⟩ = some (.slice A2 d.bytes.length c2) := fun W hx => hx.cell (HC2.out.cell rfl)
    clear kk0 kk1 kk2 kk3 kk4
    go_wp2_with fail
    refine (nil_boot _).mono ?_
    rintro e w6 ⟨rfl, hx6⟩
    go_wp2_with fail
    refine (nil_begin _ _ _ _).mono ?_
    rintro e w7 ⟨rfl, hx7'⟩
    have hx7 := hx6.trans hx7'
    clear hx6 hx7'
    go_wp2_with (with_reducible first | refine sL 37 ?_ | refine sL 35 ?_ | refine sA 35 ?_ | refine sS 35 ?_)
    refine go_on (wpList_alloc_ rfl rfl apitx_info ?_)
    go_wp2_with (with_reducible first | refine sL 37 ?_ | refine sL 35 ?_ | refine sA 35 ?_ | refine sS 35 ?_)
    refine go_on (wpList_store_last rfl rfl rfl rfl (apitx_size _ _ _) rfl (by simp [Value.oneCell']) ?_)
    intro w8 _ hx8' _
    have hx8 := hx7.trans hx8'
    clear hx7 hx8'
    go_wp2_with (with_reducible first | refine sL 37 ?_ | refine sL 35 ?_ | refine sA 35 ?_ | refine sS 35 ?_)
    refine go_on (wpList_load_elem rfl 35 _ rfl ⟨g5, 5, none⟩ rfl (txiC d.tx) _ (HTC _ hx8) Try.underlying35 rfl (by kernel_rfl) ?_)
    go_wp2_with fail
    refine (nil_vote d.tx d.shard true _).mono ?_
    rintro e w9 ⟨rfl, hx9'⟩
    have hx9 := hx8.trans hx9'
    clear hx8 hx9'
    go_wp2_with (with_reducible first | refine sL 37 ?_ | refine sL 35 ?_ | refine sA 35 ?_ | refine sS 35 ?_)
    refine go_on (wpList_load_elem rfl 35 _ rfl ⟨g5, 5, none⟩ rfl (txiC d.tx) _ (HTC _ hx9) Try.underlying35 rfl (by kernel_rfl) ?_)
    go_wp2_with fail
    refine (nil_ack d.tx d.shard _).mono ?_
    rintro e w10 ⟨rfl, hx10'⟩
    have hx10 := hx9.trans hx10'
    clear hx9 hx10' K1 K2
    obtain ⟨R0, R1, -, -⟩ := row3_at HP2.out.row
    obtain ⟨S0, S1, -, -⟩ := row3_at HPM2.out.row
    have F0 : ∀ W, Ext wr W → W.cell? ⟨P, 0, none⟩ = some (.pointer (some ⟨p, 0, none⟩)) := fun W hx => hx.cell R0
    have F1 : ∀ W, Ext wr W → W.cell? ⟨P, 1, none⟩ = some (.pointer (some ⟨q, 0, none⟩)) := fun W hx => hx.cell R1
    have G0 : ∀ W, Ext wr W → W.cell? ⟨Q, 0, none⟩ = some (.pointer (some ⟨f, 0, none⟩)) := fun W hx => hx.cell S0
    have G1 : ∀ W, Ext wr W → W.cell? ⟨Q, 1, none⟩ = some (.pointer (some ⟨g, 0, none⟩)) := fun W hx => hx.cell S1
    clear R0 R1 S0 S1
    have hxd := hx10.drew
    have HXW := Lib.hid (HX1.out.trans HPM2.out.ex)
    clear hx10
    go_wp2_with fail
    simp only [List.append_eq, List.cons_append, List.nil_append]
    refine wp_region_phase (S := fun w' => Ext wr w') 92 (by kernel_rfl) (by kernel_rfl) ?_ (fun hHeld => ?_)
    ·exact hxd
    simp only [List.drop_succ_cons, List.drop_zero]
    refine name_head ?_
    intro wr0 hw0
    rw [hw0] at hHeld
    refine rd [0] ?_
    refine ac (fun K hK => ?_) ?_
    ·refine step_callG (by rfl) (by kernel_rfl) (live_any wr0) ?_
     rintro e wrz ⟨rfl, hxl⟩
     refine ⟨_, rfl, ?_⟩
     refine hK.out _ _ ?_ (fun hHeld => ?_)
     ·exact hHeld.trans hxl
     clear hK K
     try simp only [red, Act.put]
     refine wt 1 _ ?_
     simp only [red, Act.put]
     refine wt 2 _ ?_
     simp only [red, Act.put]
     refine wt 3 _ ?_
     simp only [red, Act.put]
     refine wt 4 _ ?_
     simp only [red, Act.put]
     refine wt 5 _ ?_
     simp only [red, Act.put]
     refine wt 7 _ ?_
     simp only [red, Act.put]
     refine wt 8 _ ?_
     simp only [red, Act.put]
     refine wt 9 _ ?_
     simp only [red, Act.put]
     refine wt 10 _ ?_
     simp only [red, Act.put]
     refine rd [6] ?_
     refine ac (fun K hK => ?_) ?_
     ·have hpm := HP2.out.ext hHeld
      refine step_callG (by rfl) (by kernel_rfl) (CTodo_any hpm.co hpm.ok) ?_
      rintro e wr6 ⟨v, rfl, ho, hx⟩
      obtain ⟨Aa, ca, rfl⟩ := own_form ho
      have hpm := hpm.ext hx
      refine ⟨_, rfl, ?_⟩
      refine hK.out _ _ ?_ (fun hHeld => ?_)
      ·exact hHeld.trans hx
      clear hK K
      try simp only [red, Act.put]
      refine rd [11] ?_
      refine ac (fun K hK => ?_) ?_
      ·refine step_callG (by rfl) (by kernel_rfl) (RTodo_any hpm.rc hpm.ok (hpm.few.mono (by omega))) ?_
       rintro e wr11 ⟨v2, rfl, ho2, hx2⟩
       obtain ⟨Ab, cb, rfl⟩ := own_form ho2
       have hpm := hpm.ext hx2
       refine ⟨_, rfl, ?_⟩
       refine hK.out _ _ ?_ (fun hHeld => ?_)
       ·exact hHeld.trans hx2
       clear hK K
       try simp only [red, Act.put]
       refine rd [12] ?_
       refine ac (fun K hK => ?_) ?_
       ·as_aux_lemma =>
        refine step_callG (by rfl) (by kernel_rfl) (todos_same _ Aa Ab ca cb _ (Sl.own (owns_ext ho hx2) rfl) (Sl.own ho2 rfl) (by have := todo_len hpm.ok; omega)) ?_
        rintro e wr12 ⟨rfl, hx3⟩
        have hxx := hx3
        clear ho ho2 hx hx2
        refine ⟨_, rfl, ?_⟩
        refine hK.out _ _ ?_ (fun hHeld => ?_)
        ·exact hHeld.trans hxx
        clear hK K
        try simp only [red, Act.put]
        refine wt 13 _ ?_
        simp only [red, Act.put]
        refine wt 14 _ ?_
        simp only [red, Act.put]
        refine wt 15 _ ?_
        simp only [red, Act.put]
        refine wt 16 _ ?_
        simp only [red, Act.put]
        refine wt 17 _ ?_
        simp only [red, Act.put]
        refine wt 18 _ ?_
        simp only [red, Act.put]
        refine wt 20 _ ?_
        simp only [red, Act.put]
        refine wt 21 _ ?_
        simp only [red, Act.put]
        refine wt 22 _ ?_
        simp only [red, Act.put]
        refine wt 23 _ ?_
        simp only [red, Act.put]
        refine rd [19] ?_
        refine ac (fun K hK => ?_) ?_
        ·have hpm := HPM2.out.ext hHeld
         refine step_callG (by rfl) (by kernel_rfl) (CTodo_any hpm.co hpm.ok) ?_
         rintro e wr19 ⟨v, rfl, ho, hx⟩
         obtain ⟨Aa, ca, rfl⟩ := own_form ho
         have hpm := hpm.ext hx
         refine ⟨_, rfl, ?_⟩
         refine hK.out _ _ ?_ (fun hHeld => ?_)
         ·exact hHeld.trans hx
         clear hK K
         try simp only [red, Act.put]
         refine rd [24] ?_
         refine ac (fun K hK => ?_) ?_
         ·refine step_callG (by rfl) (by kernel_rfl) (RTodo_any hpm.rc hpm.ok (hpm.few.mono (by omega))) ?_
          rintro e wr24 ⟨v2, rfl, ho2, hx2⟩
          obtain ⟨Ab, cb, rfl⟩ := own_form ho2
          have hpm := hpm.ext hx2
          refine ⟨_, rfl, ?_⟩
          refine hK.out _ _ ?_ (fun hHeld => ?_)
          ·exact hHeld.trans hx2
          clear hK K
          try simp only [red, Act.put]
          refine rd [25] ?_
          refine ac (fun K hK => ?_) ?_
          ·as_aux_lemma =>
           refine step_callG (by rfl) (by kernel_rfl) (todos_same _ Aa Ab ca cb _ (Sl.own (owns_ext ho hx2) rfl) (Sl.own ho2 rfl) (by have := todo_len hpm.ok; omega)) ?_
           rintro e wr25 ⟨rfl, hx3⟩
           have hxx := hx3
           clear ho ho2 hx hx2
           refine ⟨_, rfl, ?_⟩
           refine hK.out _ _ ?_ (fun hHeld => ?_)
           ·exact hHeld.trans hxx
           clear hK K
           try simp only [red, Act.put]
           refine wt 26 _ ?_
           simp only [red, Act.put]
           refine wt 27 _ ?_
           simp only [red, Act.put]
           refine wt 28 _ ?_
           simp only [red, Act.put]
           refine wt 29 _ ?_
           simp only [red, Act.put]
           refine wt 30 _ ?_
           simp only [red, Act.put]
           refine wt 31 _ ?_
           simp only [red, Act.put]
           refine wt 33 _ ?_
           simp only [red, Act.put]
           refine wt 34 _ ?_
           simp only [red, Act.put]
           refine wt 35 _ ?_
           simp only [red, Act.put]
           refine wt 36 _ ?_
           simp only [red, Act.put]
           refine rd [32] ?_
           refine ac (fun K hK => ?_) ?_
           ·have hpm := HP2.out.ext hHeld
            refine step_callG (by rfl) (by kernel_rfl) (CSnap_any hpm.co hpm.ok) ?_
            rintro e wr32 ⟨v, rfl, ho, hx⟩
            obtain ⟨Aa, ca, rfl⟩ := ho.form
            have hpm := hpm.ext hx
            refine ⟨_, rfl, ?_⟩
            refine hK.out _ _ ?_ (fun hHeld => ?_)
            ·exact hHeld.trans hx
            clear hK K
            try simp only [red, Act.put]
            refine rd [37] ?_
            refine ac (fun K hK => ?_) ?_
            ·refine step_callG (by rfl) (by kernel_rfl) (RSnap_any hpm.rc hpm.ok) ?_
             rintro e wr37 ⟨v2, rfl, ho2, hx2⟩
             obtain ⟨Ab, cb, rfl⟩ := ho2.form
             have hpm := hpm.ext hx2
             refine ⟨_, rfl, ?_⟩
             refine hK.out _ _ ?_ (fun hHeld => ?_)
             ·exact hHeld.trans hx2
             clear hK K
             try simp only [red, Act.put]
             refine rd [38] ?_
             refine ac (fun K hK => ?_) ?_
             ·as_aux_lemma =>
              refine step_callG (by rfl) (by kernel_rfl) (same_snap _ Aa Ab ca cb _ (ho.ext hx2).bss ho2.bss (snap_len hpm.ok)) ?_
              rintro e wr38 ⟨rfl, hx3⟩
              have hxx := hx3
              clear ho ho2 hx hx2
              refine ⟨_, rfl, ?_⟩
              refine hK.out _ _ ?_ (fun hHeld => ?_)
              ·exact hHeld.trans hxx
              clear hK K
              try simp only [red, Act.put]
              refine wt 39 _ ?_
              simp only [red, Act.put]
              refine wt 40 _ ?_
              simp only [red, Act.put]
              refine wt 41 _ ?_
              simp only [red, Act.put]
              refine wt 42 _ ?_
              simp only [red, Act.put]
              refine wt 43 _ ?_
              simp only [red, Act.put]
              refine wt 44 _ ?_
              simp only [red, Act.put]
              refine wt 45 _ ?_
              simp only [red, Act.put]
              refine wt 46 _ ?_
              simp only [red, Act.put]
              refine wt 47 _ ?_
              simp only [red, Act.put]
              refine wt 48 _ ?_
              simp only [red, Act.put]
              refine wt 49 _ ?_
              simp only [red, Act.put]
              refine wt 50 _ ?_
              simp only [red, Act.put]
              refine wt 51 _ ?_
              simp only [red, Act.put]
              refine wt 52 _ ?_
              simp only [red, Act.put]
              refine wt 53 _ ?_
              simp only [red, Act.put]
              refine wt 54 _ ?_
              simp only [red, Act.put]
              refine wt 55 _ ?_
              simp only [red, Act.put]
              refine wt 56 _ ?_
              simp only [red, Act.put]
              refine wt 57 _ ?_
              simp only [red, Act.put]
              refine wt 58 _ ?_
              simp only [red, Act.put]
              refine wy 59 (v := .agg #[.int .i64 d.tx.node, .int .i64 d.tx.boot, .int .i64 d.tx.n]) (by rfl) (by exact yieldsIf_load_elem (by rfl) 35 _ rfl ⟨g5, 5, none⟩ rfl (txiC d.tx) _ (fun w' hx => HTC w' hx) Try.underlying35 rfl (by kernel_rfl)) ?_
              simp only [red, Act.put]
              refine rd [60] ?_
              refine ac (fun K hK => ?_) ?_
              ·as_aux_lemma =>
               refine step_callG (by rfl) (by kernel_rfl) (nil_drop d.tx _) ?_
               rintro e wr60 ⟨rfl, hxn⟩
               refine ⟨_, rfl, ?_⟩
               refine hK.out _ _ ?_ (fun hHeld => ?_)
               ·exact hHeld.trans hxn
               clear hK K
               try simp only [red, Act.put]
               refine wt 61 _ ?_
               simp only [red, Act.put]
               refine wt 62 _ ?_
               simp only [red, Act.put]
               refine wt 63 _ ?_
               simp only [red, Act.put]
               refine wt 64 _ ?_
               simp only [red, Act.put]
               refine wt 65 _ ?_
               simp only [red, Act.put]
               refine wt 66 _ ?_
               simp only [red, Act.put]
               refine rd [67] ?_
               refine ac (fun K hK => ?_) ?_
               ·refine step_callG (by rfl) (by kernel_rfl) (nil_redo A2 d.bytes.length c2 _) ?_
                rintro e wr67 ⟨rfl, hxn⟩
                refine ⟨_, rfl, ?_⟩
                refine hK.out _ _ ?_ (fun hHeld => ?_)
                ·exact hHeld.trans hxn
                clear hK K
                try simp only [red, Act.put]
                refine wt 68 _ ?_
                simp only [red, Act.put]
                refine wt 69 _ ?_
                simp only [red, Act.put]
                refine wt 70 _ ?_
                simp only [red, Act.put]
                refine wt 71 _ ?_
                simp only [red, Act.put]
                refine wt 72 _ ?_
                simp only [red, Act.put]
                refine wy 73 (v := .agg #[.int .i64 d.tx.node, .int .i64 d.tx.boot, .int .i64 d.tx.n]) (by rfl) (by exact yieldsIf_load_elem (by rfl) 35 _ rfl ⟨g5, 5, none⟩ rfl (txiC d.tx) _ (fun w' hx => HTC w' hx) Try.underlying35 rfl (by kernel_rfl)) ?_
                simp only [red, Act.put]
                refine rd [74] ?_
                refine ac (fun K hK => ?_) ?_
                ·as_aux_lemma =>
                 refine step_callG (by rfl) (by kernel_rfl) (nil_ask d.tx _) ?_
                 rintro e wr74 ⟨rfl, hxn⟩
                 refine ⟨_, rfl, ?_⟩
                 refine hK.out _ _ ?_ (fun hHeld => ?_)
                 ·exact hHeld.trans hxn
                 clear hK K
                 try simp only [red, Act.put]
                 refine wt 75 _ ?_
                 simp only [red, Act.put]
                 refine wt 76 _ ?_
                 simp only [red, Act.put]
                 refine wt 77 _ ?_
                 simp only [red, Act.put]
                 refine wt 78 _ ?_
                 simp only [red, Act.put]
                 refine wt 81 _ ?_
                 simp only [red, Act.put]
                 refine rd [79] ?_
                 refine ac (fun K hK => ?_) ?_
                 ·refine step_callG (by rfl) (by kernel_rfl) (nil_todo _) ?_
                  rintro e wr79 ⟨rfl, hxn⟩
                  refine ⟨_, rfl, ?_⟩
                  refine hK.out _ _ ?_ (fun hHeld => ?_)
                  ·exact hHeld.trans hxn
                  clear hK K
                  try simp only [red, Act.put]
                  refine wt 80 _ ?_
                  simp only [red, Act.put]
                  refine rd [82] ?_
                  refine ac (fun K hK => ?_) ?_
                  ·as_aux_lemma =>
                   refine step_callG (by rfl) (by kernel_rfl) (nil_snap _) ?_
                   rintro e wr82 ⟨rfl, hxn⟩
                   refine ⟨_, rfl, ?_⟩
                   refine hK.out _ _ ?_ (fun hHeld => ?_)
                   ·exact hHeld.trans hxn
                   clear hK K
                   try simp only [red, Act.put]
                   refine wt 83 _ ?_
                   simp only [red, Act.put]
                   refine wt 84 _ ?_
                   simp only [red, Act.put]
                   refine wt 85 _ ?_
                   simp only [red, Act.put]
                   refine wt 86 _ ?_
                   simp only [red, Act.put]
                   refine wt 87 _ ?_
                   simp only [red, Act.put]
                   refine wt 88 _ ?_
                   simp only [red, Act.put]
                   refine rd [89] ?_
                   refine ac (fun K hK => ?_) ?_
                   ·refine step_callG (by rfl) (by kernel_rfl) (nil_fork _) ?_
                    rintro e wr89 ⟨rfl, hxn⟩
                    refine ⟨_, rfl, ?_⟩
                    refine hK.out _ _ ?_ (fun hHeld => ?_)
                    ·exact hHeld.trans hxn
                    clear hK K
                    try simp only [red, Act.put]
                    refine wt 90 _ ?_
                    simp only [red, Act.put]
                    refine wt 91 _ ?_
                    simp only [red, Act.put]
                    refine wpHead_done (by kernel_rfl) ?_
                    have HXJ := Lib.hid (HXW.out.trans hHeld)
                    generalize wr89 = wj at *
                    clear hHeld hxd F0 F1 G0 G1 K8 HTC
                    go_wp2
                    go_ret
                    exact ⟨rfl, HXJ.out⟩
                   exact AllHead.nil
                  exact AllHead.nil
                 exact AllHead.nil
                exact AllHead.nil
               exact AllHead.nil
              exact AllHead.nil
             exact AllHead.nil
            exact AllHead.nil
           exact AllHead.nil
          exact AllHead.nil
         exact AllHead.nil
        exact AllHead.nil
       exact AllHead.nil
      exact AllHead.nil
     exact AllHead.nil
    exact AllHead.nil
 case first =>
 as_aux_lemma =>
 refine wp_region_phase (S := fun w' => Ext w1 w') 18 (by kernel_rfl) (by kernel_rfl) ?_ (fun hHeld => ?_)
 ·exact hxd
 simp only [List.drop_succ_cons, List.drop_zero]
 refine name_head ?_
 intro wr0 hw0
 rw [hw0] at hHeld
 have hfk := hw0 ▸ hfk
 refine wt 0 _ ?_
 simp only [red, Act.put]
 refine wt 1 _ ?_
 simp only [red, Act.put]
 refine wt 2 _ ?_
 simp only [red, Act.put]
 refine wt 3 _ ?_
 simp only [red, Act.put]
 refine wt 5 _ ?_
 simp only [red, Act.put]
 refine wt 6 _ ?_
 simp only [red, Act.put]
 refine wt 7 _ ?_
 simp only [red, Act.put]
 refine wt 8 _ ?_
 simp only [red, Act.put]
 refine wt 11 _ ?_
 simp only [red, Act.put]
 refine wt 12 _ ?_
 simp only [red, Act.put]
 refine wt 13 _ ?_
 simp only [red, Act.put]
 refine wt 14 _ ?_
 simp only [red, Act.put]
 refine rd [4, 10] ?_
 refine ac (fun K hK => ?_) ?_
 ·refine step_callG (by rfl) (by kernel_rfl) (CFork_any hfk.co hfk.lt hfew) ?_
  rintro e wr4 ⟨rfl, hx4, hz4, hc4⟩
  have hg4 : w1.heap.size ≤ wr0.heap.size := hHeld.size
  replace hfk := hfk.forkX hx4 hz4 hc4
  try replace hrow10 := hx4.obj hrow10
  try replace ho10 := owns_ext ho10 hx4
  generalize wr0.heap.size = f at *
  refine ⟨.pointer (some ⟨f, 0, none⟩), rfl, ?_⟩
  refine hK.out _ _ ?_ (fun hHeld => ?_)
  ·exact hHeld.trans hx4
  clear hK K
  try simp only [red, Act.put]
  refine rd [9, 10] ?_
  refine ac (fun K hK => ?_) ?_
  ·refine step_callG (by rfl) (by kernel_rfl) (RFork_any hfk.rc) ?_
   rintro e wr9 ⟨rfl, hx9, hz9, hc9⟩
   have hg9 : w1.heap.size ≤ wr4.heap.size := hHeld.size
   replace hfk := hfk.forkY hx9 hz9 hc9
   try replace ho10 := owns_ext ho10 hx9
   generalize wr4.heap.size = g at *
   refine ⟨.pointer (some ⟨g, 0, none⟩), rfl, ?_⟩
   refine hK.out _ _ ?_ (fun hHeld => ?_)
   ·exact hHeld.trans hx9
   clear hK K
   try simp only [red, Act.put]
   refine rd [10] ?_
   refine ac (fun K hK => ?_) ?_
   ·go_simp
    refine name_world ?_
    rintro wr10 hw10
    have hxn10 : Ext wr9 wr10 := hw10 ▸ (Ext.refl _).alloc _
    have hrow10 : wr10.heap[wr9.heap.size]? = some (.cells #[] 35) := hw10 ▸ heap_alloc_new wr9 _
    have hg10 : w1.heap.size ≤ wr9.heap.size := hHeld.size
    have ho10 : wr10.ownsRow w1.heap.size 35 3 (.slice (some ⟨wr9.heap.size, 0, none⟩) 0 0) 0 [] := hw10 ▸ World.ownsRow_made wr9 #[] 0 hHeld.size (by simp [maxLen]) rfl
    have hb10 : ∀ b, (Value.slice (some ⟨wr9.heap.size, 0, none⟩) 0 0).ownBlock = some b → b = wr9.heap.size := fun b hb => by simpa [Value.ownBlock] using hb.symm
    replace hfk := hfk.new hxn10 hrow10
    generalize wr9.heap.size = b at *
    refine hK.out _ _ ?_ (fun hHeld => ?_)
    ·first | assumption | exact Ext.trans (by assumption) (by assumption)
    clear hK K
    try simp only [red, Act.put]
    refine rd [15] ?_
    refine ac (fun K hK => ?_) ?_
    ·have hgx : w1.heap.size ≤ wr10.heap.size := hHeld.size
     refine step_ap apitxsT ho10 (hsl.ext hHeld) rfl rfl rfl rfl HTL.out txs_one (by omega) (by omega) hgx ?_
     rintro v15 wr15 ho15 hg15 hor15
     rw [Nat.zero_add] at ho15
     simp only [List.nil_append] at ho15
     have hx15 : Ext w1 wr15 := hHeld.own ho10 (Nat.le_refl _) hg15
     replace hfk := hfk.grow ho10 (fun gg hgg => by rw [hb10 gg hgg]; first | exact List.mem_cons_self .. | exact List.mem_cons_of_mem _ (List.mem_cons_self ..) | exact List.mem_cons_of_mem _ (List.mem_cons_of_mem _ (List.mem_cons_self ..))) hg15 ho15 hor15
     obtain ⟨A15, c15, rfl⟩ := own_form ho15
     have HFK := Lib.hid hfk
     have HO15 := Lib.hid ho15
     clear hfk ho15 ho10 hb10 hg15 hor15 hrow10 hxn10 hgx
     refine hK.out _ _ ?_ (fun hHeld => ?_)
     ·exact hx15
     clear hK K
     try simp only [red, Act.put]
     refine wt 16 _ ?_
     simp only [red, Act.put]
     refine rd [17] ?_
     refine ac (fun K hK => ?_) ?_
     ·go_simp
      refine name_world ?_
      rintro wr17 hw17
      have hxn17 : Ext wr15 wr17 := hw17 ▸ (Ext.refl _).alloc _
      have hrow17 : wr17.heap[wr15.heap.size]? = some (.cells #[.pointer (some ⟨f, 0, none⟩), .pointer (some ⟨g, 0, none⟩), .slice A15 txs.length c15] 55) := hw17 ▸ heap_alloc_new wr15 _
      have hg17 : w1.heap.size ≤ wr15.heap.size := hHeld.size
      have hfk := HFK.out.new hxn17 hrow17
      have ho17 := owns_ext HO15.out hxn17
      generalize wr15.heap.size = Q at *
      refine hK.out _ _ ?_ (fun hHeld => ?_)
      ·first | assumption | exact Ext.trans (by assumption) (by assumption)
      clear hK K
      try simp only [red, Act.put]
      refine wpHead_done (by kernel_rfl) ?_
      have HPQ := Lib.hid (hfk.pm (n := 120) hHeld hrow17 (List.mem_cons_self ..) (fun k hk => List.mem_cons_of_mem _ (List.mem_append.2 (.inl hk))) hg17 hg4 hg9 ho17 HPM1.out.ok HPM1.out.few)
      clear hfk hrow17 hxn17 hw17 ho17 hg17 hg4 hg9 hx15 HFK HO15 hHeld hg10 hw10 hxd hw0 F0 F1 F2 hsl hfew
      generalize wr17 = w4 at *
      go_wp2_with fail
      go_meet
      exact ⟨Q, f, g, _, _, rfl, HPQ⟩
     exact AllHead.nil
    exact AllHead.nil
   exact AllHead.nil
  refine ac (fun K hK => ?_) ?_
  ·go_simp
   refine name_world ?_
   rintro wr10 hw10
   have hxn10 : Ext wr4 wr10 := hw10 ▸ (Ext.refl _).alloc _
   have hrow10 : wr10.heap[wr4.heap.size]? = some (.cells #[] 35) := hw10 ▸ heap_alloc_new wr4 _
   have hg10 : w1.heap.size ≤ wr4.heap.size := hHeld.size
   have ho10 : wr10.ownsRow w1.heap.size 35 3 (.slice (some ⟨wr4.heap.size, 0, none⟩) 0 0) 0 [] := hw10 ▸ World.ownsRow_made wr4 #[] 0 hHeld.size (by simp [maxLen]) rfl
   have hb10 : ∀ b, (Value.slice (some ⟨wr4.heap.size, 0, none⟩) 0 0).ownBlock = some b → b = wr4.heap.size := fun b hb => by simpa [Value.ownBlock] using hb.symm
   replace hfk := hfk.new hxn10 hrow10
   generalize wr4.heap.size = b at *
   refine hK.out _ _ ?_ (fun hHeld => ?_)
   ·first | assumption | exact Ext.trans (by assumption) (by assumption)
   clear hK K
   try simp only [red, Act.put]
   refine rd [9] ?_
   refine ac (fun K hK => ?_) ?_
   ·refine step_callG (by rfl) (by kernel_rfl) (RFork_any hfk.rc) ?_
    rintro e wr9 ⟨rfl, hx9, hz9, hc9⟩
    have hg9 : w1.heap.size ≤ wr10.heap.size := hHeld.size
    replace hfk := hfk.forkY hx9 hz9 hc9
    try replace ho10 := owns_ext ho10 hx9
    generalize wr10.heap.size = g at *
    refine ⟨.pointer (some ⟨g, 0, none⟩), rfl, ?_⟩
    refine hK.out _ _ ?_ (fun hHeld => ?_)
    ·exact hHeld.trans hx9
    clear hK K
    try simp only [red, Act.put]
    refine rd [15] ?_
    refine ac (fun K hK => ?_) ?_
    ·have hgx : w1.heap.size ≤ wr9.heap.size := hHeld.size
     refine step_ap apitxsT ho10 (hsl.ext hHeld) rfl rfl rfl rfl HTL.out txs_one (by omega) (by omega) hgx ?_
     rintro v15 wr15 ho15 hg15 hor15
     rw [Nat.zero_add] at ho15
     simp only [List.nil_append] at ho15
     have hx15 : Ext w1 wr15 := hHeld.own ho10 (Nat.le_refl _) hg15
     replace hfk := hfk.grow ho10 (fun gg hgg => by rw [hb10 gg hgg]; first | exact List.mem_cons_self .. | exact List.mem_cons_of_mem _ (List.mem_cons_self ..) | exact List.mem_cons_of_mem _ (List.mem_cons_of_mem _ (List.mem_cons_self ..))) hg15 ho15 hor15
     obtain ⟨A15, c15, rfl⟩ := own_form ho15
     have HFK := Lib.hid hfk
     have HO15 := Lib.hid ho15
     clear hfk ho15 ho10 hb10 hg15 hor15 hrow10 hxn10 hgx
     refine hK.out _ _ ?_ (fun hHeld => ?_)
     ·exact hx15
     clear hK K
     try simp only [red, Act.put]
     refine wt 16 _ ?_
     simp only [red, Act.put]
     refine rd [17] ?_
     refine ac (fun K hK => ?_) ?_
     ·go_simp
      refine name_world ?_
      rintro wr17 hw17
      have hxn17 : Ext wr15 wr17 := hw17 ▸ (Ext.refl _).alloc _
      have hrow17 : wr17.heap[wr15.heap.size]? = some (.cells #[.pointer (some ⟨f, 0, none⟩), .pointer (some ⟨g, 0, none⟩), .slice A15 txs.length c15] 55) := hw17 ▸ heap_alloc_new wr15 _
      have hg17 : w1.heap.size ≤ wr15.heap.size := hHeld.size
      have hfk := HFK.out.new hxn17 hrow17
      have ho17 := owns_ext HO15.out hxn17
      generalize wr15.heap.size = Q at *
      refine hK.out _ _ ?_ (fun hHeld => ?_)
      ·first | assumption | exact Ext.trans (by assumption) (by assumption)
      clear hK K
      try simp only [red, Act.put]
      refine wpHead_done (by kernel_rfl) ?_
      have HPQ := Lib.hid (hfk.pm (n := 120) hHeld hrow17 (List.mem_cons_self ..) (fun k hk => List.mem_cons_of_mem _ (List.mem_append.2 (.inl hk))) hg17 hg4 hg9 ho17 HPM1.out.ok HPM1.out.few)
      clear hfk hrow17 hxn17 hw17 ho17 hg17 hg4 hg9 hx15 HFK HO15 hHeld hg10 hw10 hxd hw0 F0 F1 F2 hsl hfew
      generalize wr17 = w4 at *
      go_wp2_with fail
      go_meet
      exact ⟨Q, f, g, _, _, rfl, HPQ⟩
     exact AllHead.nil
    exact AllHead.nil
   exact AllHead.nil
  exact AllHead.nil
 refine ac (fun K hK => ?_) ?_
 ·go_simp
  refine name_world ?_
  rintro wr10 hw10
  have hxn10 : Ext wr0 wr10 := hw10 ▸ (Ext.refl _).alloc _
  have hrow10 : wr10.heap[wr0.heap.size]? = some (.cells #[] 35) := hw10 ▸ heap_alloc_new wr0 _
  have hg10 : w1.heap.size ≤ wr0.heap.size := hHeld.size
  have ho10 : wr10.ownsRow w1.heap.size 35 3 (.slice (some ⟨wr0.heap.size, 0, none⟩) 0 0) 0 [] := hw10 ▸ World.ownsRow_made wr0 #[] 0 hHeld.size (by simp [maxLen]) rfl
  have hb10 : ∀ b, (Value.slice (some ⟨wr0.heap.size, 0, none⟩) 0 0).ownBlock = some b → b = wr0.heap.size := fun b hb => by simpa [Value.ownBlock] using hb.symm
  replace hfk := hfk.new hxn10 hrow10
  generalize wr0.heap.size = b at *
  refine hK.out _ _ ?_ (fun hHeld => ?_)
  ·first | assumption | exact Ext.trans (by assumption) (by assumption)
  clear hK K
  try simp only [red, Act.put]
  refine rd [4] ?_
  refine ac (fun K hK => ?_) ?_
  ·refine step_callG (by rfl) (by kernel_rfl) (CFork_any hfk.co hfk.lt hfew) ?_
   rintro e wr4 ⟨rfl, hx4, hz4, hc4⟩
   have hg4 : w1.heap.size ≤ wr10.heap.size := hHeld.size
   replace hfk := hfk.forkX hx4 hz4 hc4
   try replace hrow10 := hx4.obj hrow10
   try replace ho10 := owns_ext ho10 hx4
   generalize wr10.heap.size = f at *
   refine ⟨.pointer (some ⟨f, 0, none⟩), rfl, ?_⟩
   refine hK.out _ _ ?_ (fun hHeld => ?_)
   ·exact hHeld.trans hx4
   clear hK K
   try simp only [red, Act.put]
   refine rd [9] ?_
   refine ac (fun K hK => ?_) ?_
   ·refine step_callG (by rfl) (by kernel_rfl) (RFork_any hfk.rc) ?_
    rintro e wr9 ⟨rfl, hx9, hz9, hc9⟩
    have hg9 : w1.heap.size ≤ wr4.heap.size := hHeld.size
    replace hfk := hfk.forkY hx9 hz9 hc9
    try replace ho10 := owns_ext ho10 hx9
    generalize wr4.heap.size = g at *
    refine ⟨.pointer (some ⟨g, 0, none⟩), rfl, ?_⟩
    refine hK.out _ _ ?_ (fun hHeld => ?_)
    ·exact hHeld.trans hx9
    clear hK K
    try simp only [red, Act.put]
    refine rd [15] ?_
    refine ac (fun K hK => ?_) ?_
    ·have hgx : w1.heap.size ≤ wr9.heap.size := hHeld.size
     refine step_ap apitxsT ho10 (hsl.ext hHeld) rfl rfl rfl rfl HTL.out txs_one (by omega) (by omega) hgx ?_
     rintro v15 wr15 ho15 hg15 hor15
     rw [Nat.zero_add] at ho15
     simp only [List.nil_append] at ho15
     have hx15 : Ext w1 wr15 := hHeld.own ho10 (Nat.le_refl _) hg15
     replace hfk := hfk.grow ho10 (fun gg hgg => by rw [hb10 gg hgg]; first | exact List.mem_cons_self .. | exact List.mem_cons_of_mem _ (List.mem_cons_self ..) | exact List.mem_cons_of_mem _ (List.mem_cons_of_mem _ (List.mem_cons_self ..))) hg15 ho15 hor15
     obtain ⟨A15, c15, rfl⟩ := own_form ho15
     have HFK := Lib.hid hfk
     have HO15 := Lib.hid ho15
     clear hfk ho15 ho10 hb10 hg15 hor15 hrow10 hxn10 hgx
     refine hK.out _ _ ?_ (fun hHeld => ?_)
     ·exact hx15
     clear hK K
     try simp only [red, Act.put]
     refine wt 16 _ ?_
     simp only [red, Act.put]
     refine rd [17] ?_
     refine ac (fun K hK => ?_) ?_
     ·go_simp
      refine name_world ?_
      rintro wr17 hw17
      have hxn17 : Ext wr15 wr17 := hw17 ▸ (Ext.refl _).alloc _
      have hrow17 : wr17.heap[wr15.heap.size]? = some (.cells #[.pointer (some ⟨f, 0, none⟩), .pointer (some ⟨g, 0, none⟩), .slice A15 txs.length c15] 55) := hw17 ▸ heap_alloc_new wr15 _
      have hg17 : w1.heap.size ≤ wr15.heap.size := hHeld.size
      have hfk := HFK.out.new hxn17 hrow17
      have ho17 := owns_ext HO15.out hxn17
      generalize wr15.heap.size = Q at *
      refine hK.out _ _ ?_ (fun hHeld => ?_)
      ·first | assumption | exact Ext.trans (by assumption) (by assumption)
      clear hK K
      try simp only [red, Act.put]
      refine wpHead_done (by kernel_rfl) ?_
      have HPQ := Lib.hid (hfk.pm (n := 120) hHeld hrow17 (List.mem_cons_self ..) (fun k hk => List.mem_cons_of_mem _ (List.mem_append.2 (.inl hk))) hg17 hg4 hg9 ho17 HPM1.out.ok HPM1.out.few)
      clear hfk hrow17 hxn17 hw17 ho17 hg17 hg4 hg9 hx15 HFK HO15 hHeld hg10 hw10 hxd hw0 F0 F1 F2 hsl hfew
      generalize wr17 = w4 at *
      go_wp2_with fail
      go_meet
      exact ⟨Q, f, g, _, _, rfl, HPQ⟩
     exact AllHead.nil
    exact AllHead.nil
   exact AllHead.nil
  exact AllHead.nil
 exact AllHead.nil
end Go.Proofs.Ytijopcdjlpafdaa
