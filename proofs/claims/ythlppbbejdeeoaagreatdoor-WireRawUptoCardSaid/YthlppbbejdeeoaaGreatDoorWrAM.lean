/- The walk of wire.lay. Conditions: the message is right (Right), and the hypotheses of each theorem. -/
import Derived.Test.YthlppbbejdeeoaaGreatDoorC3
import Derived.Test.YthlppbbejdeeoaaGreatDoorC7
import Derived.Test.YthlppbbejdeeoaaGreatDoorC8
namespace Go.Proofs.YthlppbbejdeeoaaGreatDoor
open Go.RowKit
/-- an append onto bytes, as one step of a region that draws -/
theorem stepAppB {P : Program} {ops : Array Oper} {o : Oper} {a : Act} {w : World} {K : Act → World → Prop} {Q : Exit → Act → World → Prop} {E : Prop} {t : Nat} (T : ElemOf P t 5 1 1) {s x : Operand}
 {base m c : Nat} {v : Value} {l l' : By} {A : Option Addr} (hown : Own w base v l) (hr : Bs w A l')
 (hgd : o.guard = none) (ho : o.op = .call { callee := .builtin .append, args := #[s, x], argTypes := #[t, t] })
 (hs : a.eval s = v) (hx : a.eval x = .slice A m c) (hm : m = l'.length) (hb : l.length + l'.length ≤ 140737488355328) (hbase : base ≤ w.heap.size)
 (h : ∀ v' w', Own w' base v' (l ++ l') → w.grownBy w' v.ownBlock → K (a.put o.dst v') w') : if Region.wanted o (yielded ops a.tmps) = true then Oper.wp P o a w K Q else E := by
 subst hm
 have hw : Region.wanted o (yielded ops a.tmps) = true := by simp [Region.wanted, hgd]
 rw [if_pos hw]
 obtain ⟨i, z, hi, hz, hsize, hby, hzs⟩ := T.hi
 obtain ⟨v', w', hrun, h2, h3, h4⟩ := run_app (P := P) w base t o.type 5 i z 1 1 T.ht hi hz hsize hby hzs T.hs v l.length (bv l) hown A l'.length c (bv l') (by simp) hr (bv_one _) (by omega) hb hbase
 unfold Oper.wp execOp
 simp only [ho, resolve, invoke, builtin, Sem.run_bind, Sem.run_pure, Result.andThen_ok, List.map_toArray, List.map_cons, List.map_nil, hs, hx, hrun]
 exact h v' w' (own_of h2 (bv_append _ _).symm) h3
theorem flat4 (l : List Int) : (l.flatMap fun v => beN 4 v.toNat).length = 4 * l.length := by
 induction l with
 | nil => rfl
 | cons a l ih => rw [List.flatMap_cons, List.length_append, ih, beN_length, List.length_cons]; omega
theorem flat1 (l : List Int) : (l.flatMap fun v => beN 1 v.toNat).length = l.length := by
 induction l with
 | nil => rfl
 | cons a l ih => rw [List.flatMap_cons, List.length_append, ih, beN_length, List.length_cons]; omega
theorem shortB_len (s : By) : (shortB s).length = 1 + s.length := by simp [shortB]
theorem listB4_len (l : List Int) : (listB 4 l).length = 1 + 4 * l.length := by simp only [listB, List.length_append, beN_length, flat4]
theorem listB1_len (l : List Int) : (listB 1 l).length = 1 + l.length := by simp only [listB, List.length_append, beN_length, flat1]
attribute [local simp] shortB_len listB4_len listB1_len
theorem vote_info : (Tryz.prog.info? 34).map (fun i => (i.zero, i.size)) = some (some (.agg #[.int .i64 0, .slice none 0 0, .string ⟨#[]⟩, .int .i64 0, .int .i64 0, .slice none 0 0]), 6) := by kernel_rfl
/-- the numbers of a right message are none below 0 -/
theorem Right.nats {m : Ml} (h : Right m) : ∃ k s d t1 t2 t3 er sh ep fa ue n : Nat, m.kind = k ∧ m.src = s ∧ m.dst = d ∧ m.tx.node = t1 ∧ m.tx.boot = t2 ∧ m.tx.n = t3 ∧ m.verr = er ∧ m.shard = sh ∧ m.sepoch = ep ∧ m.fate = fa ∧ m.epoch = ue ∧ m.n = n := by
 obtain ⟨hk, hs, hd, ht, hpa, hv, hf, hn, hu⟩ := h
 have ht' : 0 ≤ m.tx.node ∧ 0 ≤ m.tx.boot ∧ 0 ≤ m.tx.n := by
  cases hb : kTx m.kind with
  | true => rw [hb] at ht; have := txB_ok (by simpa using ht); omega
  | false =>
   rw [hb] at ht; have : m.tx = tx00 := by simpa using ht
   rw [this]; decide
 have hv' : 0 ≤ m.verr ∧ 0 ≤ m.shard ∧ 0 ≤ m.sepoch := by
  cases hb : kVote m.kind with
  | true => rw [hb] at hv; simp only [if_true] at hv; omega
  | false => rw [hb] at hv; simp only [if_false, Bool.false_eq_true] at hv; omega
 have hf' : 0 ≤ m.fate := by split at hf <;> omega
 have hn' : 0 ≤ m.n := by
  cases hb : kN m.kind with
  | true => rw [hb] at hn; simp only [if_true] at hn; omega
  | false => rw [hb] at hn; simp only [if_false, Bool.false_eq_true] at hn; omega
 have hu' : 0 ≤ m.epoch := by split at hu <;> omega
 exact ⟨m.kind.toNat, m.src.toNat, m.dst.toNat, m.tx.node.toNat, m.tx.boot.toNat, m.tx.n.toNat, m.verr.toNat, m.shard.toNat, m.sepoch.toNat, m.fate.toNat, m.epoch.toNat, m.n.toNat, by omega, by omega, by omega, by omega, by omega, by omega, by omega, by omega, by omega, by omega, by omega, by omega⟩
set_option maxRecDepth 20000 in
set_option maxHeartbeats 16000000 in
theorem wlay_any (HCK : CheckLaw) (m : Ml) (Ap Ad Ae An Av : Option Addr) (cp cd ce cn cv : Nat) (w : World) (hr : Right m) (hpd : m.kind = 1 → (putAllT m.deeds).2 = 0)
 (hP : Sl w Ap (doV m.peers)) (hE : Sl w Ae (doV m.epochs)) (hNs : Sl w An (doV m.nums)) (hV : Bs w Av m.vbytes) (hD : RsM RDd 10 [] w Ad m.deeds) (hdl : m.deeds.length ≤ 140737488351232) :
 Calls Tryz.prog 36 #[.agg (mlC m (.slice Ap m.peers.length cp) (.slice Ad m.deeds.length cd) (.slice Ae m.epochs.length ce) (.slice An m.nums.length cn) (.slice Av m.vbytes.length cv)), .agg (hasC m.kind)] w fun e w' =>
  ∃ b, e = .returned b ∧ Own w' w.heap.size b (layM m) ∧ Ext w w' := by
 obtain ⟨ks, ss, ds_, t1, t2, t3, er, sh, ep, fa, ue, nn, e1, e2, e3, e4, e5, e6, e7, e8, e9, e10, e11, e12⟩ := hr.nats
 obtain ⟨hk, -, -, -, hpa, hvo, -, -, hus⟩ := hr
 obtain ⟨kind, src, dst, ⟨tn, tb, tk⟩, ptx, peers, deeds, epochs, verr, nums, su, shard, sepoch, vb, fate, user, epoch, nx⟩ := m
 simp only at *
 subst e1 e2 e3 e4 e5 e6 e7 e8 e9 e10 e11 e12
 obtain ⟨mc, hmc⟩ : ∃ mc, mc = mlC ⟨ks, ss, ds_, ⟨t1, t2, t3⟩, ptx, peers, deeds, epochs, er, nums, su, sh, ep, vb, fa, user, ue, nn⟩ (.slice Ap peers.length cp) (.slice Ad deeds.length cd) (.slice Ae epochs.length ce) (.slice An nums.length cn) (.slice Av vb.length cv) := ⟨_, rfl⟩
 obtain ⟨hc, hhc⟩ : ∃ hc, hc = hasC ks := ⟨_, rfl⟩
 rw [← hmc, ← hhc]
 obtain ⟨wa, hwa⟩ : ∃ wa, wa = (w.alloc (.cells mc 37)).alloc (.cells hc 57) := ⟨_, rfl⟩
 have hxa : Ext w wa := by rw [hwa]; exact ((Ext.refl w).alloc _).alloc _
 have hrowM : wa.heap[w.heap.size]? = some (.cells mc 37 (0, 0)) := by rw [hwa]; exact ((Ext.refl _).alloc _).obj (heap_alloc_new w _)
 have hrowH : wa.heap[w.heap.size + 1]? = some (.cells hc 57 (0, 0)) := by
  have := heap_alloc_new (w.alloc (.cells mc 37)) (.cells hc 57)
  rw [hwa]; simpa using this
 have HWA := Lib.hid hwa
 have hlen : peers.length ≤ 4 ∧ nums.length ≤ 12 ∧ su.length ≤ 24 ∧ vb.length ≤ 1800 ∧ user.length ≤ 24 ∧ (∀ v ∈ peers, 0 ≤ v) ∧ (∀ v ∈ epochs, 0 ≤ v) ∧ (∀ v ∈ nums, 0 ≤ v) := by
  refine ⟨?_, ?_, ?_, ?_, ?_, ?_, ?_, ?_⟩
  ·split at hpa
   ·omega
   ·rw [hpa.2.1]; simp
  ·split at hvo
   ·omega
   ·rw [hvo.2.1]; simp
  ·split at hvo
   ·omega
   ·rw [hvo.2.2.1]; simp
  ·split at hvo
   ·omega
   ·rw [hvo.2.2.2.2.2]; simp
  ·split at hus
   ·omega
   ·rw [hus.1]; simp
  ·split at hpa
   ·exact fun v hv => (allI_ok hpa.2.2.1 v hv).1
   ·rw [hpa.2.1]; simp
  ·split at hpa
   ·exact fun v hv => (allI_ok hpa.2.2.2.2 v hv).1
   ·rw [hpa.2.2.2]; simp
  ·split at hvo
   ·exact fun v hv => (allI_ok hvo.2.2.1 v hv).1
   ·rw [hvo.2.1]; simp
 obtain ⟨bp, bn, bs, bb, bu, hpp, hpe, hpn⟩ := hlen
 have hpd2 : ks = 1 → (putAllT deeds).1.length ≤ 1800 ∧ epochs.length ≤ 12 ∧ deeds.length ≤ 12 := fun h => by
  have h1 := hpd (by omega)
  rw [if_pos (by omega)] at hpa
  have := (putAllT_ok h1).2.2.1
  exact ⟨by rw [(putAllT_ok h1).1]; exact (putAllT_ok h1).2.2.2.2, by omega, this⟩
 clear hpa hvo hus hpd
 have HV := fun W (hx : Ext w W) => hV.ext hx
 have HD := fun W (hx : Ext w W) => PutAll_any HCK deeds Ad cd W (hD.kept (.of_ext hx)) hdl
 clear hD
 obtain ⟨lm, hlm⟩ : ∃ lm, lm = layM ⟨ks, ss, ds_, ⟨t1, t2, t3⟩, ptx, peers, deeds, epochs, er, nums, su, sh, ep, vb, fa, user, ue, nn⟩ := ⟨_, rfl⟩
 rw [← hlm]
 have HM : Hid (lm = beN 1 ks ++ beN 1 ss ++ beN 1 ds_ ++ (if kTx ks then beN 1 t1 ++ beN 4 t2 ++ beN 4 t3 else []) ++ (if kN ks then beN 4 nn else []) ++
  (if (ks : Int) = 1 then listB 1 peers ++ listB 4 epochs ++ (putAllT deeds).1 else if kVote ks then beN 1 er ++ listB 4 nums ++ shortB su ++ beN 1 sh ++ beN 4 ep ++ longB vb else if (ks : Int) = 3 then beN 1 fa else if (ks : Int) = 6 then shortB user ++ beN 4 ue else [])) := Lib.hid (by rw [hlm]; rfl)
 have HMM : 37 ∈ [37, 57] := by simp
 have HMH : 57 ∈ [37, 57] := by simp
 have hcell := fun j v (hv : (mlC ⟨ks, ss, ds_, ⟨t1, t2, t3⟩, ptx, peers, deeds, epochs, er, nums, su, sh, ep, vb, fa, user, ue, nn⟩ (.slice Ap peers.length cp) (.slice Ad deeds.length cd) (.slice Ae epochs.length ce) (.slice An nums.length cn) (.slice Av vb.length cv))[j]? = some v) => row_s hrowM HMM j v (by rw [hmc]; exact hv)
 have hcelh := fun j v (hv : (hasC ks)[j]? = some v) => row_s hrowH HMH j v (by rw [hhc]; exact hv)
 have C0 := hcell 0 (.int .i64 ks) rfl
 have C1 := hcell 1 (.int .i64 ss) rfl
 have C2 := hcell 2 (.int .i64 ds_) rfl
 have C3 := hcell 3 (.int .i64 t1) rfl
 have C4 := hcell 4 (.int .i64 t2) rfl
 have C5 := hcell 5 (.int .i64 t3) rfl
 have C9 := hcell 9 (.slice Ap peers.length cp) rfl
 have C10 := hcell 10 (.slice Ad deeds.length cd) rfl
 have C11 := hcell 11 (.slice Ae epochs.length ce) rfl
 have C18 := hcell 18 (.int .i64 fa) rfl
 have C19 := hcell 19 (.string (st user)) rfl
 have C20 := hcell 20 (.int .i64 ue) rfl
 have C21 := hcell 21 (.int .i64 nn) rfl
 have K0 := hcelh 0 (.bool (kTx ks)) rfl
 have K4 := hcelh 4 (.bool (kN ks)) rfl
 have HMV : ∀ W, (∀ ts, 5 ∉ ts → Stp ts wa W) → W.rangeAt w.heap.size 12 [.int .i64 er, .slice An nums.length cn, .string (st su), .int .i64 sh, .int .i64 ep, .slice Av vb.length cv] := fun W hW => by
  have hrow := (hW [37] (by simp)).2 _ _ _ _ hrowM (by simp)
  have := World.rangeAt_of_block hrow 12 6
  rw [hmc] at this
  exact this
 have hND : 5 ∉ [37, 57] := by simp
 have hN := fun (W : World) (b : Value) (l : By) (v n : Nat) (hL : Lay w wa l W b) (h1 : l.length ≤ 9000000) (hn : n ≤ 4) => wnumS_any w W b l v n hL.x hL.o (by omega) hn
 have hT := fun (W : World) (b : Value) (l p : By) (hL : Lay w wa l W b) (h1 : l.length ≤ 9000000) (hn : p.length ≤ 2000) => wtextS_any w W b l p hL.x hL.o (by omega)
 have hLi := fun (W : World) (b : Value) (l : By) (vs : List Int) (A : Option Addr) (c n : Nat) (hL : Lay w wa l W b) (hv : Sl w A (doV vs)) (hpos : ∀ v ∈ vs, 0 ≤ v) (h1 : l.length ≤ 1000000) (hn : n ≤ 4) (hvl : vs.length ≤ 1000000) => wlist_any w W b l vs A c n hL.x hL.o hv hpos h1 hn hvl
 have hLG := fun (w2 W : World) (b0 b : Value) (l : By) (vs : List Int) (A : Option Addr) (c n : Nat) (hL : LayG w w2 b0 l W b) (hv : Sl w A (doV vs)) (hpos : ∀ v ∈ vs, 0 ≤ v) (h1 : l.length ≤ 1000000) (hn : n ≤ 4) (hvl : vs.length ≤ 1000000) => wlistG_any w W b l vs A c n hL.l.x hL.l.o hv hpos h1 hn hvl
 clear hcell hcelh hwa hrowM hrowH hmc hhc hlm
 go_enter Tryz.func36, Tryz.ntmps36
 go_wp2_with fail
 rw [← HWA.out]
 have hl0 : Lay w wa [] wa.drew (.slice none 0 0) := Lay.drew ⟨Own.nil _ _, hxa, fun ts _ => Stp.refl ts wa⟩
 refine wp_region_phase (S := fun w' => Stp [37, 57] wa w') 9 (by kernel_rfl) (by kernel_rfl) ?_ (fun hHeld => ?_)
 ·exact (Stp.refl _ wa).drew
 simp only [List.drop_succ_cons, List.drop_zero]
 refine name_head ?_
 intro wr0 hw0
 rw [hw0] at hHeld
 refine wt 0 _ ?_
 simp only [red, Act.put]
 refine wt 1 _ ?_
 simp only [red, Act.put]
 refine wt 3 _ ?_
 simp only [red, Act.put]
 refine wt 4 _ ?_
 simp only [red, Act.put]
 refine wt 6 _ ?_
 simp only [red, Act.put]
 refine wt 7 _ ?_
 simp only [red, Act.put]
 refine rd [2] ?_
 refine ac (fun K hK => ?_) ?_
 ·refine step_callG (by rfl) (by kernel_rfl) (hN _ _ _ ks 1 (by rw [← hw0]; exact hl0) (by simp) (by omega)) ?_
  rintro e wr2 ⟨a2, rfl, hl2⟩
  refine ⟨_, rfl, ?_⟩
  refine hK.out _ _ ?_ (fun hHeld => ?_)
  ·exact hHeld.trans (hl2.s _ hND)
  clear hK K
  try simp only [red, Act.put]
  refine rd [5] ?_
  refine ac (fun K hK => ?_) ?_
  ·have hl2' := hl0.trans (hw0 ▸ hl2)
   refine step_callG (by rfl) (by kernel_rfl) (hN _ _ _ ss 1 hl2' (by simp) (by omega)) ?_
   rintro e wr5 ⟨a5, rfl, hl5⟩
   refine ⟨_, rfl, ?_⟩
   refine hK.out _ _ ?_ (fun hHeld => ?_)
   ·exact hHeld.trans (hl5.s _ hND)
   clear hK K
   try simp only [red, Act.put]
   refine rd [8] ?_
   refine ac (fun K hK => ?_) ?_
   ·have hl5' := hl2'.trans hl5
    refine step_callG (by rfl) (by kernel_rfl) (hN _ _ _ ds_ 1 hl5' (by simp) (by omega)) ?_
    rintro e wr8 ⟨a8, rfl, hl8⟩
    refine ⟨_, rfl, ?_⟩
    refine hK.out _ _ ?_ (fun hHeld => ?_)
    ·exact hHeld.trans (hl8.s _ hND)
    clear hK K
    try simp only [red, Act.put]
    refine wpHead_done (by kernel_rfl) ?_
    have hl8' := hl5'.trans hl8
    have hq8 := hHeld
    clear hl2 hl2' hl5 hl5' hl8 hl0 hHeld hw0
    rcases hk with hk | hk | hk | hk | hk | hk | hk
    ·obtain rfl : ks = 1 := by omega
     clear hk
     rw [show kTx ((1 : Nat) : Int) = true from rfl] at K0
     rw [show kN ((1 : Nat) : Int) = false from rfl] at K4
     go_wp2_with fail
     refine wp_region_phase (S := fun w' => Stp [37, 57] wa w') 13 (by kernel_rfl) (by kernel_rfl) ?_ (fun hHeld => ?_)
     ·exact hq8.drew
     simp only [List.drop_succ_cons, List.drop_zero]
     refine name_head ?_
     intro wr0 hw0
     rw [hw0] at hHeld
     refine wt 0 _ ?_
     simp only [red, Act.put]
     refine wt 1 _ ?_
     simp only [red, Act.put]
     refine wt 2 _ ?_
     simp only [red, Act.put]
     refine wt 3 _ ?_
     simp only [red, Act.put]
     refine wt 5 _ ?_
     simp only [red, Act.put]
     refine wt 6 _ ?_
     simp only [red, Act.put]
     refine wt 7 _ ?_
     simp only [red, Act.put]
     refine wt 9 _ ?_
     simp only [red, Act.put]
     refine wt 10 _ ?_
     simp only [red, Act.put]
     refine wt 11 _ ?_
     simp only [red, Act.put]
     refine rd [4] ?_
     refine ac (fun K hK => ?_) ?_
     ·refine step_callG (by rfl) (by kernel_rfl) (hN _ _ _ t1 1 (by rw [← hw0]; exact hl8'.drew) (by simp <;> omega) (by omega)) ?_
      rintro e wr4 ⟨b4, rfl, hj4⟩
      refine ⟨_, rfl, ?_⟩
      refine hK.out _ _ ?_ (fun hHeld => ?_)
      ·exact hHeld.trans (hj4.s _ hND)
      clear hK K
      try simp only [red, Act.put]
      refine rd [8] ?_
      refine ac (fun K hK => ?_) ?_
      ·have hj4' := hl8'.drew.trans (hw0 ▸ hj4)
       refine step_callG (by rfl) (by kernel_rfl) (hN _ _ _ t2 4 hj4' (by simp <;> omega) (by omega)) ?_
       rintro e wr8 ⟨b8, rfl, hj8⟩
       refine ⟨_, rfl, ?_⟩
       refine hK.out _ _ ?_ (fun hHeld => ?_)
       ·exact hHeld.trans (hj8.s _ hND)
       clear hK K
       try simp only [red, Act.put]
       refine rd [12] ?_
       refine ac (fun K hK => ?_) ?_
       ·have hj8' := hj4'.trans hj8
        refine step_callG (by rfl) (by kernel_rfl) (hN _ _ _ t3 4 hj8' (by simp <;> omega) (by omega)) ?_
        rintro e wr12 ⟨b12, rfl, hj12⟩
        refine ⟨_, rfl, ?_⟩
        refine hK.out _ _ ?_ (fun hHeld => ?_)
        ·exact hHeld.trans (hj12.s _ hND)
        clear hK K
        try simp only [red, Act.put]
        refine wpHead_done (by kernel_rfl) ?_
        have hj12' := hj8'.trans hj12
        have hq12 := hHeld
        obtain ⟨lb, hlb, hL⟩ : ∃ lb, lb = [] ++ beN 1 1 ++ beN 1 ss ++ beN 1 ds_ ++ beN 1 t1 ++ beN 4 t2 ++ beN 4 t3 ∧ Lay w wa lb _ _ := ⟨_, rfl, hj12'⟩
        have hln : lb.length ≤ 20 := by rw [hlb]; simp
        have HLB := Lib.hid hlb
        clear hlb hj12' hj4 hj4' hj8 hj8' hj12 hl8' hq8 hHeld hw0
        have HK : Hid (lm = lb ++ (listB 1 peers ++ listB 4 epochs ++ (putAllT deeds).1)) := Lib.hid (by rw [HM.out, HLB.out]; simp [kTx, kN, inI])
        clear HM HLB
        obtain ⟨hp0, he12, hd12⟩ := hpd2 (by trivial)
        go_wp2_with fail
        refine (HD _ hL.x).mono ?_
        rintro e w2 ⟨hx2, v, rfl, hov⟩
        have hg0 : LayG w w2 _ lb w2.drew _ := (LayG.start (hL.o.ext hx2) (hL.x.trans hx2)).drew
        have hbl := fun k hk => (hL.o.lt k hk).2
        have hq2 := (hq12.trans (.of_ext hx2)).drew
        obtain ⟨Aa, ca, rfl⟩ := hov.form
        have hel1 : (listB 1 peers).length ≤ 10 := by rw [listB1_len]; omega
        have hel4 : (listB 4 epochs).length ≤ 60 := by rw [listB4_len]; omega
        clear hL hx2
        go_wp2_with fail
        refine wp_region_phase (S := fun w' => Stp [37, 57] wa w') 11 (by kernel_rfl) (by kernel_rfl) ?_ (fun hHeld => ?_)
        ·exact hq2
        simp only [List.drop_succ_cons, List.drop_zero]
        refine name_head ?_
        intro wr0 hw0
        rw [hw0] at hHeld
        refine wt 0 _ ?_
        simp only [red, Act.put]
        refine wt 1 _ ?_
        simp only [red, Act.put]
        refine wt 2 _ ?_
        simp only [red, Act.put]
        refine wt 3 _ ?_
        simp only [red, Act.put]
        refine wt 5 _ ?_
        simp only [red, Act.put]
        refine wt 6 _ ?_
        simp only [red, Act.put]
        refine wt 7 _ ?_
        simp only [red, Act.put]
        refine wt 9 _ ?_
        simp only [red, Act.put]
        refine rd [4] ?_
        refine ac (fun K hK => ?_) ?_
        ·refine step_callG (by rfl) (by kernel_rfl) (hLG _ _ _ _ _ peers Ap cp 1 (by rw [← hw0]; exact hg0) hP hpp (by omega) (by omega) (by omega)) ?_
         rintro e wr4 ⟨c4, rfl, hg4⟩
         refine ⟨_, rfl, ?_⟩
         refine hK.out _ _ ?_ (fun hHeld => ?_)
         ·exact hHeld.trans (hg4.l.s _ hND)
         clear hK K
         try simp only [red, Act.put]
         refine rd [8] ?_
         refine ac (fun K hK => ?_) ?_
         ·have hg4' := hg0.trans (hw0 ▸ hg4)
          refine step_callG (by rfl) (by kernel_rfl) (hLG _ _ _ _ _ epochs Ae ce 4 hg4' hE hpe (by simp <;> omega) (by omega) (by omega)) ?_
          rintro e wr8 ⟨c8, rfl, hg8⟩
          refine ⟨_, rfl, ?_⟩
          refine hK.out _ _ ?_ (fun hHeld => ?_)
          ·exact hHeld.trans (hg8.l.s _ hND)
          clear hK K
          try simp only [red, Act.put]
          refine rd [10] ?_
          refine ac (fun K hK => ?_) ?_
          ·have hg8' := hg4'.trans hg8
           have hoa := hg8'.other hov hbl
           refine stepAppB bytesTr hg8'.l.o hoa.bs rfl rfl rfl rfl rfl (by simp <;> omega) hg8'.l.x.size ?_
           intro f10 wr10 ho10 hg10
           have hk10 := hg8'.l.app ho10 hg10
           refine hK.out _ _ ?_ (fun hHeld => ?_)
           ·exact hHeld.trans ((Stp.refl _ _).own hg8'.l.o hg10 hND)
           clear hK K
           try simp only [red, Act.put]
           refine wpHead_done (by kernel_rfl) ?_
           have hk10' := hk10
           clear hg4 hg4' hg8 hg8' hoa hg0 ho10 hg10 hk10 hHeld hw0 hq2
           go_wp2
           go_ret
           exact ⟨_, rfl, by rw [HK.out]; simpa [longB, shortB, List.append_assoc] using hk10'.o, hk10'.x⟩
          exact AllHead.nil
         exact AllHead.nil
        exact AllHead.nil
       exact AllHead.nil
      exact AllHead.nil
     exact AllHead.nil
    ·obtain rfl : ks = 2 := by omega
     clear hk
     rw [show kTx ((2 : Nat) : Int) = true from rfl] at K0
     rw [show kN ((2 : Nat) : Int) = false from rfl] at K4
     go_wp2_with fail
     refine wp_region_phase (S := fun w' => Stp [37, 57] wa w') 13 (by kernel_rfl) (by kernel_rfl) ?_ (fun hHeld => ?_)
     ·exact hq8.drew
     simp only [List.drop_succ_cons, List.drop_zero]
     refine name_head ?_
     intro wr0 hw0
     rw [hw0] at hHeld
     refine wt 0 _ ?_
     simp only [red, Act.put]
     refine wt 1 _ ?_
     simp only [red, Act.put]
     refine wt 2 _ ?_
     simp only [red, Act.put]
     refine wt 3 _ ?_
     simp only [red, Act.put]
     refine wt 5 _ ?_
     simp only [red, Act.put]
     refine wt 6 _ ?_
     simp only [red, Act.put]
     refine wt 7 _ ?_
     simp only [red, Act.put]
     refine wt 9 _ ?_
     simp only [red, Act.put]
     refine wt 10 _ ?_
     simp only [red, Act.put]
     refine wt 11 _ ?_
     simp only [red, Act.put]
     refine rd [4] ?_
     refine ac (fun K hK => ?_) ?_
     ·refine step_callG (by rfl) (by kernel_rfl) (hN _ _ _ t1 1 (by rw [← hw0]; exact hl8'.drew) (by simp <;> omega) (by omega)) ?_
      rintro e wr4 ⟨b4, rfl, hj4⟩
      refine ⟨_, rfl, ?_⟩
      refine hK.out _ _ ?_ (fun hHeld => ?_)
      ·exact hHeld.trans (hj4.s _ hND)
      clear hK K
      try simp only [red, Act.put]
      refine rd [8] ?_
      refine ac (fun K hK => ?_) ?_
      ·have hj4' := hl8'.drew.trans (hw0 ▸ hj4)
       refine step_callG (by rfl) (by kernel_rfl) (hN _ _ _ t2 4 hj4' (by simp <;> omega) (by omega)) ?_
       rintro e wr8 ⟨b8, rfl, hj8⟩
       refine ⟨_, rfl, ?_⟩
       refine hK.out _ _ ?_ (fun hHeld => ?_)
       ·exact hHeld.trans (hj8.s _ hND)
       clear hK K
       try simp only [red, Act.put]
       refine rd [12] ?_
       refine ac (fun K hK => ?_) ?_
       ·have hj8' := hj4'.trans hj8
        refine step_callG (by rfl) (by kernel_rfl) (hN _ _ _ t3 4 hj8' (by simp <;> omega) (by omega)) ?_
        rintro e wr12 ⟨b12, rfl, hj12⟩
        refine ⟨_, rfl, ?_⟩
        refine hK.out _ _ ?_ (fun hHeld => ?_)
        ·exact hHeld.trans (hj12.s _ hND)
        clear hK K
        try simp only [red, Act.put]
        refine wpHead_done (by kernel_rfl) ?_
        have hj12' := hj8'.trans hj12
        have hq12 := hHeld
        obtain ⟨lb, hlb, hL⟩ : ∃ lb, lb = [] ++ beN 1 2 ++ beN 1 ss ++ beN 1 ds_ ++ beN 1 t1 ++ beN 4 t2 ++ beN 4 t3 ∧ Lay w wa lb _ _ := ⟨_, rfl, hj12'⟩
        have hln : lb.length ≤ 20 := by rw [hlb]; simp
        have HLB := Lib.hid hlb
        clear hlb hj12' hj4 hj4' hj8 hj8' hj12 hl8' hq8 hHeld hw0
        have HK : Hid (lm = lb ++ (beN 1 er ++ listB 4 nums ++ shortB su ++ beN 1 sh ++ beN 4 ep ++ longB vb)) := Lib.hid (by rw [HM.out, HLB.out]; simp [kTx, kN, kVote, inI])
        clear HM HLB
        go_wp2_with (with_reducible refine sL 34 ?_)
        refine go_on (wpList_load_mid rfl 34 _ rfl w.heap.size 12 rfl _ _ (HMV _ hL.s) Tryz.underlying34 rfl (by kernel_rfl) ?_)
        go_wp2_with (with_reducible first | refine sL 34 ?_ | refine sA 34 ?_ | refine sS 34 ?_)
        refine go_on (wpList_alloc_ rfl rfl vote_info ?_)
        go_wp2_with (with_reducible first | refine sL 34 ?_ | refine sA 34 ?_ | refine sS 34 ?_)
        refine go_on (wpList_store_last (c' := #[.int .i64 er, .slice An nums.length cn, .string (st su), .int .i64 sh, .int .i64 ep, .slice Av vb.length cv]) rfl rfl rfl rfl (by kernel_rfl) rfl (by simp [Value.oneCell']) ?_)
        intro wv hrowV hxv _
        have hlv := hL.al hxv
        clear hxv hL HMV HD
        have HMM : 34 ∈ [34] := by simp
        have V0 := row_s hrowV HMM 0 _ rfl
        have V1 := row_s hrowV HMM 1 _ rfl
        have V2 := row_s hrowV HMM 2 _ rfl
        have V3 := row_s hrowV HMM 3 _ rfl
        have V4 := row_s hrowV HMM 4 _ rfl
        have V5 := row_s hrowV HMM 5 _ rfl
        have hND : 5 ∉ [34] := by simp
        have hq0 := (Stp.refl [34] wv).drew
        have hlv1 := hlv.drew
        clear hrowV hlv
        go_wp2_with fail
        refine wp_region_phase (S := fun w' => Stp [34] wv w') 7 (by kernel_rfl) (by kernel_rfl) ?_ (fun hHeld => ?_)
        ·exact hq0
        simp only [List.drop_succ_cons, List.drop_zero]
        refine name_head ?_
        intro wr0 hw0
        rw [hw0] at hHeld
        refine wt 0 _ ?_
        simp only [red, Act.put]
        refine wt 1 _ ?_
        simp only [red, Act.put]
        refine wt 2 _ ?_
        simp only [red, Act.put]
        refine wt 4 _ ?_
        simp only [red, Act.put]
        refine wt 5 _ ?_
        simp only [red, Act.put]
        refine rd [3] ?_
        refine ac (fun K hK => ?_) ?_
        ·refine step_callG (by rfl) (by kernel_rfl) (hN _ _ _ er 1 (by rw [← hw0]; exact hlv1) (by omega) (by omega)) ?_
         rintro e wr3 ⟨c3, rfl, hl3⟩
         refine ⟨_, rfl, ?_⟩
         refine hK.out _ _ ?_ (fun hHeld => ?_)
         ·exact hHeld.trans (hl3.s _ hND)
         clear hK K
         try simp only [red, Act.put]
         refine rd [6] ?_
         refine ac (fun K hK => ?_) ?_
         ·have hl3' := hlv1.trans (hw0 ▸ hl3)
          refine step_callG (by rfl) (by kernel_rfl) (hLi _ _ _ nums An cn 4 hl3' hNs hpn (by simp <;> omega) (by omega) (by omega)) ?_
          rintro e wr6 ⟨c6, rfl, hl6⟩
          refine ⟨_, rfl, ?_⟩
          refine hK.out _ _ ?_ (fun hHeld => ?_)
          ·exact hHeld.trans (hl6.s _ hND)
          clear hK K
          try simp only [red, Act.put]
          refine wpHead_done (by kernel_rfl) ?_
          have hl6' := hl3'.trans hl6
          have hq6 := hHeld
          clear hl3 hl3' hl6 hlv1 hq0 hHeld hw0
          go_wp2_with fail
          refine wp_region_phase (S := fun w' => Stp [34] wv w') 13 (by kernel_rfl) (by kernel_rfl) ?_ (fun hHeld => ?_)
          ·exact hq6.drew
          simp only [List.drop_succ_cons, List.drop_zero]
          refine name_head ?_
          intro wr0 hw0
          rw [hw0] at hHeld
          refine wt 0 _ ?_
          simp only [red, Act.put]
          refine wt 1 _ ?_
          simp only [red, Act.put]
          refine wt 2 _ ?_
          simp only [red, Act.put]
          refine wt 3 _ ?_
          simp only [red, Act.put]
          refine wt 5 _ ?_
          simp only [red, Act.put]
          refine wt 6 _ ?_
          simp only [red, Act.put]
          refine wt 7 _ ?_
          simp only [red, Act.put]
          refine wt 9 _ ?_
          simp only [red, Act.put]
          refine wt 10 _ ?_
          simp only [red, Act.put]
          refine wt 11 _ ?_
          simp only [red, Act.put]
          refine rd [4] ?_
          refine ac (fun K hK => ?_) ?_
          ·refine step_callG (by rfl) (by kernel_rfl) (hT _ _ _ su (by rw [← hw0]; exact hl6'.drew) (by simp <;> omega) (by omega)) ?_
           rintro e wr4 ⟨d4, rfl, hm4⟩
           refine ⟨_, rfl, ?_⟩
           refine hK.out _ _ ?_ (fun hHeld => ?_)
           ·exact hHeld.trans (hm4.s _ hND)
           clear hK K
           try simp only [red, Act.put]
           refine rd [8] ?_
           refine ac (fun K hK => ?_) ?_
           ·have hm4' := hl6'.drew.trans (hw0 ▸ hm4)
            refine step_callG (by rfl) (by kernel_rfl) (hN _ _ _ sh 1 hm4' (by simp <;> omega) (by omega)) ?_
            rintro e wr8 ⟨d8, rfl, hm8⟩
            refine ⟨_, rfl, ?_⟩
            refine hK.out _ _ ?_ (fun hHeld => ?_)
            ·exact hHeld.trans (hm8.s _ hND)
            clear hK K
            try simp only [red, Act.put]
            refine rd [12] ?_
            refine ac (fun K hK => ?_) ?_
            ·have hm8' := hm4'.trans hm8
             refine step_callG (by rfl) (by kernel_rfl) (hN _ _ _ ep 4 hm8' (by simp <;> omega) (by omega)) ?_
             rintro e wr12 ⟨d12, rfl, hm12⟩
             refine ⟨_, rfl, ?_⟩
             refine hK.out _ _ ?_ (fun hHeld => ?_)
             ·exact hHeld.trans (hm12.s _ hND)
             clear hK K
             try simp only [red, Act.put]
             refine wpHead_done (by kernel_rfl) ?_
             have hm12' := hm8'.trans hm12
             have hq12 := hHeld
             clear hm4 hm4' hm8 hm8' hm12 hl6' hq6 hHeld hw0
             go_wp2_with fail
             refine wp_region_phase (S := fun w' => Stp [34] wv w') 8 (by kernel_rfl) (by kernel_rfl) ?_ (fun hHeld => ?_)
             ·exact hq12.drew
             simp only [List.drop_succ_cons, List.drop_zero]
             refine name_head ?_
             intro wr0 hw0
             rw [hw0] at hHeld
             refine wt 0 _ ?_
             simp only [red, Act.put]
             refine wt 1 _ ?_
             simp only [red, Act.put]
             refine wt 2 _ ?_
             simp only [red, Act.put]
             refine wt 3 _ ?_
             simp only [red, Act.put]
             refine wt 5 _ ?_
             simp only [red, Act.put]
             refine wt 6 _ ?_
             simp only [red, Act.put]
             refine rd [4] ?_
             refine ac (fun K hK => ?_) ?_
             ·refine step_callG (by rfl) (by kernel_rfl) (hN _ _ _ vb.length 2 (by rw [← hw0]; exact hm12'.drew) (by simp <;> omega) (by omega)) ?_
              rintro e wr4 ⟨f4, rfl, hk4⟩
              refine ⟨_, rfl, ?_⟩
              refine hK.out _ _ ?_ (fun hHeld => ?_)
              ·exact hHeld.trans (hk4.s _ hND)
              clear hK K
              try simp only [red, Act.put]
              refine rd [7] ?_
              refine ac (fun K hK => ?_) ?_
              ·have hk4' := hm12'.drew.trans (hw0 ▸ hk4)
               refine stepAppB bytesTr hk4'.o (HV _ hk4'.x) rfl rfl rfl rfl rfl (by simp <;> omega) hk4'.x.size ?_
               intro f7 wr7 ho7 hg7
               have hk7 := hk4'.app ho7 hg7
               refine hK.out _ _ ?_ (fun hHeld => ?_)
               ·exact hHeld.trans ((Stp.refl _ _).own hk4'.o hg7 hND)
               clear hK K
               try simp only [red, Act.put]
               refine wpHead_done (by kernel_rfl) ?_
               have hk7' := hk7
               clear hk4 hk4' ho7 hg7 hk7 hm12' hq12 hHeld hw0
               go_wp2
               go_ret
               exact ⟨_, rfl, by rw [HK.out]; simpa [longB, shortB, List.append_assoc] using hk7'.o, hk7'.x⟩
              exact AllHead.nil
             exact AllHead.nil
            exact AllHead.nil
           exact AllHead.nil
          exact AllHead.nil
         exact AllHead.nil
        exact AllHead.nil
       exact AllHead.nil
      exact AllHead.nil
     exact AllHead.nil
    ·obtain rfl : ks = 3 := by omega
     clear hk
     rw [show kTx ((3 : Nat) : Int) = true from rfl] at K0
     rw [show kN ((3 : Nat) : Int) = false from rfl] at K4
     go_wp2_with fail
     refine wp_region_phase (S := fun w' => Stp [37, 57] wa w') 13 (by kernel_rfl) (by kernel_rfl) ?_ (fun hHeld => ?_)
     ·exact hq8.drew
     simp only [List.drop_succ_cons, List.drop_zero]
     refine name_head ?_
     intro wr0 hw0
     rw [hw0] at hHeld
     refine wt 0 _ ?_
     simp only [red, Act.put]
     refine wt 1 _ ?_
     simp only [red, Act.put]
     refine wt 2 _ ?_
     simp only [red, Act.put]
     refine wt 3 _ ?_
     simp only [red, Act.put]
     refine wt 5 _ ?_
     simp only [red, Act.put]
     refine wt 6 _ ?_
     simp only [red, Act.put]
     refine wt 7 _ ?_
     simp only [red, Act.put]
     refine wt 9 _ ?_
     simp only [red, Act.put]
     refine wt 10 _ ?_
     simp only [red, Act.put]
     refine wt 11 _ ?_
     simp only [red, Act.put]
     refine rd [4] ?_
     refine ac (fun K hK => ?_) ?_
     ·refine step_callG (by rfl) (by kernel_rfl) (hN _ _ _ t1 1 (by rw [← hw0]; exact hl8'.drew) (by simp <;> omega) (by omega)) ?_
      rintro e wr4 ⟨b4, rfl, hj4⟩
      refine ⟨_, rfl, ?_⟩
      refine hK.out _ _ ?_ (fun hHeld => ?_)
      ·exact hHeld.trans (hj4.s _ hND)
      clear hK K
      try simp only [red, Act.put]
      refine rd [8] ?_
      refine ac (fun K hK => ?_) ?_
      ·have hj4' := hl8'.drew.trans (hw0 ▸ hj4)
       refine step_callG (by rfl) (by kernel_rfl) (hN _ _ _ t2 4 hj4' (by simp <;> omega) (by omega)) ?_
       rintro e wr8 ⟨b8, rfl, hj8⟩
       refine ⟨_, rfl, ?_⟩
       refine hK.out _ _ ?_ (fun hHeld => ?_)
       ·exact hHeld.trans (hj8.s _ hND)
       clear hK K
       try simp only [red, Act.put]
       refine rd [12] ?_
       refine ac (fun K hK => ?_) ?_
       ·have hj8' := hj4'.trans hj8
        refine step_callG (by rfl) (by kernel_rfl) (hN _ _ _ t3 4 hj8' (by simp <;> omega) (by omega)) ?_
        rintro e wr12 ⟨b12, rfl, hj12⟩
        refine ⟨_, rfl, ?_⟩
        refine hK.out _ _ ?_ (fun hHeld => ?_)
        ·exact hHeld.trans (hj12.s _ hND)
        clear hK K
        try simp only [red, Act.put]
        refine wpHead_done (by kernel_rfl) ?_
        have hj12' := hj8'.trans hj12
        have hq12 := hHeld
        obtain ⟨lb, hlb, hL⟩ : ∃ lb, lb = [] ++ beN 1 3 ++ beN 1 ss ++ beN 1 ds_ ++ beN 1 t1 ++ beN 4 t2 ++ beN 4 t3 ∧ Lay w wa lb _ _ := ⟨_, rfl, hj12'⟩
        have hln : lb.length ≤ 20 := by rw [hlb]; simp
        have HLB := Lib.hid hlb
        clear hlb hj12' hj4 hj4' hj8 hj8' hj12 hl8' hq8 hHeld hw0
        have HK : Hid (lm = lb ++ (beN 1 fa)) := Lib.hid (by rw [HM.out, HLB.out]; simp [kTx, kN, kVote, inI])
        clear HM HLB
        go_wp2_with fail
        refine (hN _ _ _ fa 1 hL (by omega) (by omega)).mono ?_
        rintro e wf ⟨bF, rfl, hf⟩
        have hLf := hL.trans hf
        clear hf
        go_wp2
        go_ret
        exact ⟨_, rfl, by rw [HK.out]; simpa [longB, shortB, List.append_assoc] using hLf.o, hLf.x⟩
       exact AllHead.nil
      exact AllHead.nil
     exact AllHead.nil
    ·obtain rfl : ks = 4 := by omega
     clear hk
     rw [show kTx ((4 : Nat) : Int) = true from rfl] at K0
     rw [show kN ((4 : Nat) : Int) = false from rfl] at K4
     go_wp2_with fail
     refine wp_region_phase (S := fun w' => Stp [37, 57] wa w') 13 (by kernel_rfl) (by kernel_rfl) ?_ (fun hHeld => ?_)
     ·exact hq8.drew
     simp only [List.drop_succ_cons, List.drop_zero]
     refine name_head ?_
     intro wr0 hw0
     rw [hw0] at hHeld
     refine wt 0 _ ?_
     simp only [red, Act.put]
     refine wt 1 _ ?_
     simp only [red, Act.put]
     refine wt 2 _ ?_
     simp only [red, Act.put]
     refine wt 3 _ ?_
     simp only [red, Act.put]
     refine wt 5 _ ?_
     simp only [red, Act.put]
     refine wt 6 _ ?_
     simp only [red, Act.put]
     refine wt 7 _ ?_
     simp only [red, Act.put]
     refine wt 9 _ ?_
     simp only [red, Act.put]
     refine wt 10 _ ?_
     simp only [red, Act.put]
     refine wt 11 _ ?_
     simp only [red, Act.put]
     refine rd [4] ?_
     refine ac (fun K hK => ?_) ?_
     ·refine step_callG (by rfl) (by kernel_rfl) (hN _ _ _ t1 1 (by rw [← hw0]; exact hl8'.drew) (by simp <;> omega) (by omega)) ?_
      rintro e wr4 ⟨b4, rfl, hj4⟩
      refine ⟨_, rfl, ?_⟩
      refine hK.out _ _ ?_ (fun hHeld => ?_)
      ·exact hHeld.trans (hj4.s _ hND)
      clear hK K
      try simp only [red, Act.put]
      refine rd [8] ?_
      refine ac (fun K hK => ?_) ?_
      ·have hj4' := hl8'.drew.trans (hw0 ▸ hj4)
       refine step_callG (by rfl) (by kernel_rfl) (hN _ _ _ t2 4 hj4' (by simp <;> omega) (by omega)) ?_
       rintro e wr8 ⟨b8, rfl, hj8⟩
       refine ⟨_, rfl, ?_⟩
       refine hK.out _ _ ?_ (fun hHeld => ?_)
       ·exact hHeld.trans (hj8.s _ hND)
       clear hK K
       try simp only [red, Act.put]
       refine rd [12] ?_
       refine ac (fun K hK => ?_) ?_
       ·have hj8' := hj4'.trans hj8
        refine step_callG (by rfl) (by kernel_rfl) (hN _ _ _ t3 4 hj8' (by simp <;> omega) (by omega)) ?_
        rintro e wr12 ⟨b12, rfl, hj12⟩
        refine ⟨_, rfl, ?_⟩
        refine hK.out _ _ ?_ (fun hHeld => ?_)
        ·exact hHeld.trans (hj12.s _ hND)
        clear hK K
        try simp only [red, Act.put]
        refine wpHead_done (by kernel_rfl) ?_
        have hj12' := hj8'.trans hj12
        have hq12 := hHeld
        obtain ⟨lb, hlb, hL⟩ : ∃ lb, lb = [] ++ beN 1 4 ++ beN 1 ss ++ beN 1 ds_ ++ beN 1 t1 ++ beN 4 t2 ++ beN 4 t3 ∧ Lay w wa lb _ _ := ⟨_, rfl, hj12'⟩
        have hln : lb.length ≤ 20 := by rw [hlb]; simp
        have HLB := Lib.hid hlb
        clear hlb hj12' hj4 hj4' hj8 hj8' hj12 hl8' hq8 hHeld hw0
        have HK : Hid (lm = lb ++ ([])) := Lib.hid (by rw [HM.out, HLB.out]; simp [kTx, kN, kVote, inI])
        clear HM HLB
        go_wp2
        go_ret
        exact ⟨_, rfl, by rw [HK.out]; simpa [longB, shortB, List.append_assoc] using hL.o, hL.x⟩
       exact AllHead.nil
      exact AllHead.nil
     exact AllHead.nil
    ·obtain rfl : ks = 5 := by omega
     clear hk
     rw [show kTx ((5 : Nat) : Int) = true from rfl] at K0
     rw [show kN ((5 : Nat) : Int) = false from rfl] at K4
     go_wp2_with fail
     refine wp_region_phase (S := fun w' => Stp [37, 57] wa w') 13 (by kernel_rfl) (by kernel_rfl) ?_ (fun hHeld => ?_)
     ·exact hq8.drew
     simp only [List.drop_succ_cons, List.drop_zero]
     refine name_head ?_
     intro wr0 hw0
     rw [hw0] at hHeld
     refine wt 0 _ ?_
     simp only [red, Act.put]
     refine wt 1 _ ?_
     simp only [red, Act.put]
     refine wt 2 _ ?_
     simp only [red, Act.put]
     refine wt 3 _ ?_
     simp only [red, Act.put]
     refine wt 5 _ ?_
     simp only [red, Act.put]
     refine wt 6 _ ?_
     simp only [red, Act.put]
     refine wt 7 _ ?_
     simp only [red, Act.put]
     refine wt 9 _ ?_
     simp only [red, Act.put]
     refine wt 10 _ ?_
     simp only [red, Act.put]
     refine wt 11 _ ?_
     simp only [red, Act.put]
     refine rd [4] ?_
     refine ac (fun K hK => ?_) ?_
     ·refine step_callG (by rfl) (by kernel_rfl) (hN _ _ _ t1 1 (by rw [← hw0]; exact hl8'.drew) (by simp <;> omega) (by omega)) ?_
      rintro e wr4 ⟨b4, rfl, hj4⟩
      refine ⟨_, rfl, ?_⟩
      refine hK.out _ _ ?_ (fun hHeld => ?_)
      ·exact hHeld.trans (hj4.s _ hND)
      clear hK K
      try simp only [red, Act.put]
      refine rd [8] ?_
      refine ac (fun K hK => ?_) ?_
      ·have hj4' := hl8'.drew.trans (hw0 ▸ hj4)
       refine step_callG (by rfl) (by kernel_rfl) (hN _ _ _ t2 4 hj4' (by simp <;> omega) (by omega)) ?_
       rintro e wr8 ⟨b8, rfl, hj8⟩
       refine ⟨_, rfl, ?_⟩
       refine hK.out _ _ ?_ (fun hHeld => ?_)
       ·exact hHeld.trans (hj8.s _ hND)
       clear hK K
       try simp only [red, Act.put]
       refine rd [12] ?_
       refine ac (fun K hK => ?_) ?_
       ·have hj8' := hj4'.trans hj8
        refine step_callG (by rfl) (by kernel_rfl) (hN _ _ _ t3 4 hj8' (by simp <;> omega) (by omega)) ?_
        rintro e wr12 ⟨b12, rfl, hj12⟩
        refine ⟨_, rfl, ?_⟩
        refine hK.out _ _ ?_ (fun hHeld => ?_)
        ·exact hHeld.trans (hj12.s _ hND)
        clear hK K
        try simp only [red, Act.put]
        refine wpHead_done (by kernel_rfl) ?_
        have hj12' := hj8'.trans hj12
        have hq12 := hHeld
        obtain ⟨lb, hlb, hL⟩ : ∃ lb, lb = [] ++ beN 1 5 ++ beN 1 ss ++ beN 1 ds_ ++ beN 1 t1 ++ beN 4 t2 ++ beN 4 t3 ∧ Lay w wa lb _ _ := ⟨_, rfl, hj12'⟩
        have hln : lb.length ≤ 20 := by rw [hlb]; simp
        have HLB := Lib.hid hlb
        clear hlb hj12' hj4 hj4' hj8 hj8' hj12 hl8' hq8 hHeld hw0
        have HK : Hid (lm = lb ++ ([])) := Lib.hid (by rw [HM.out, HLB.out]; simp [kTx, kN, kVote, inI])
        clear HM HLB
        go_wp2
        go_ret
        exact ⟨_, rfl, by rw [HK.out]; simpa [longB, shortB, List.append_assoc] using hL.o, hL.x⟩
       exact AllHead.nil
      exact AllHead.nil
     exact AllHead.nil
    ·obtain rfl : ks = 6 := by omega
     clear hk
     rw [show kTx ((6 : Nat) : Int) = false from rfl] at K0
     rw [show kN ((6 : Nat) : Int) = true from rfl] at K4
     go_wp2_with fail
     refine (hN _ _ _ nn 4 hl8' (by simp <;> omega) (by omega)).mono ?_
     rintro e wn ⟨bN, rfl, hj⟩
     have hq12 := hq8.trans (hj.s _ hND)
     obtain ⟨lb, hlb, hL⟩ : ∃ lb, lb = [] ++ beN 1 6 ++ beN 1 ss ++ beN 1 ds_ ++ beN 4 nn ∧ Lay w wa lb _ _ := ⟨_, rfl, hl8'.trans hj⟩
     have hln : lb.length ≤ 20 := by rw [hlb]; simp
     have HLB := Lib.hid hlb
     clear hlb hj hl8' hq8
     have HK : Hid (lm = lb ++ (shortB user ++ beN 4 ue)) := Lib.hid (by rw [HM.out, HLB.out]; simp [kTx, kN, kVote, inI])
     clear HM HLB
     go_wp2_with fail
     refine wp_region_phase (S := fun w' => Stp [37, 57] wa w') 7 (by kernel_rfl) (by kernel_rfl) ?_ (fun hHeld => ?_)
     ·exact hq12.drew
     simp only [List.drop_succ_cons, List.drop_zero]
     refine name_head ?_
     intro wr0 hw0
     rw [hw0] at hHeld
     refine wt 0 _ ?_
     simp only [red, Act.put]
     refine wt 1 _ ?_
     simp only [red, Act.put]
     refine wt 2 _ ?_
     simp only [red, Act.put]
     refine wt 4 _ ?_
     simp only [red, Act.put]
     refine wt 5 _ ?_
     simp only [red, Act.put]
     refine rd [3] ?_
     refine ac (fun K hK => ?_) ?_
     ·refine step_callG (by rfl) (by kernel_rfl) (hT _ _ _ user (by rw [← hw0]; exact hL.drew) (by omega) (by omega)) ?_
      rintro e wr3 ⟨c3, rfl, hl3⟩
      refine ⟨_, rfl, ?_⟩
      refine hK.out _ _ ?_ (fun hHeld => ?_)
      ·exact hHeld.trans (hl3.s _ hND)
      clear hK K
      try simp only [red, Act.put]
      refine rd [6] ?_
      refine ac (fun K hK => ?_) ?_
      ·have hl3' := hL.drew.trans (hw0 ▸ hl3)
       refine step_callG (by rfl) (by kernel_rfl) (hN _ _ _ ue 4 hl3' (by simp <;> omega) (by omega)) ?_
       rintro e wr6 ⟨c6, rfl, hl6⟩
       refine ⟨_, rfl, ?_⟩
       refine hK.out _ _ ?_ (fun hHeld => ?_)
       ·exact hHeld.trans (hl6.s _ hND)
       clear hK K
       try simp only [red, Act.put]
       refine wpHead_done (by kernel_rfl) ?_
       have hl6' := hl3'.trans hl6
       clear hl3 hl3' hl6 hHeld hw0
       go_wp2
       go_ret
       exact ⟨_, rfl, by rw [HK.out]; simpa [longB, shortB, List.append_assoc] using hl6'.o, hl6'.x⟩
      exact AllHead.nil
     exact AllHead.nil
    ·obtain rfl : ks = 7 := by omega
     clear hk
     rw [show kTx ((7 : Nat) : Int) = false from rfl] at K0
     rw [show kN ((7 : Nat) : Int) = true from rfl] at K4
     go_wp2_with fail
     refine (hN _ _ _ nn 4 hl8' (by simp <;> omega) (by omega)).mono ?_
     rintro e wn ⟨bN, rfl, hj⟩
     have hq12 := hq8.trans (hj.s _ hND)
     obtain ⟨lb, hlb, hL⟩ : ∃ lb, lb = [] ++ beN 1 7 ++ beN 1 ss ++ beN 1 ds_ ++ beN 4 nn ∧ Lay w wa lb _ _ := ⟨_, rfl, hl8'.trans hj⟩
     have hln : lb.length ≤ 20 := by rw [hlb]; simp
     have HLB := Lib.hid hlb
     clear hlb hj hl8' hq8
     have HK : Hid (lm = lb ++ (beN 1 er ++ listB 4 nums ++ shortB su ++ beN 1 sh ++ beN 4 ep ++ longB vb)) := Lib.hid (by rw [HM.out, HLB.out]; simp [kTx, kN, kVote, inI])
     clear HM HLB
     go_wp2_with (with_reducible refine sL 34 ?_)
     refine go_on (wpList_load_mid rfl 34 _ rfl w.heap.size 12 rfl _ _ (HMV _ hL.s) Tryz.underlying34 rfl (by kernel_rfl) ?_)
     go_wp2_with (with_reducible first | refine sL 34 ?_ | refine sA 34 ?_ | refine sS 34 ?_)
     refine go_on (wpList_alloc_ rfl rfl vote_info ?_)
     go_wp2_with (with_reducible first | refine sL 34 ?_ | refine sA 34 ?_ | refine sS 34 ?_)
     refine go_on (wpList_store_last (c' := #[.int .i64 er, .slice An nums.length cn, .string (st su), .int .i64 sh, .int .i64 ep, .slice Av vb.length cv]) rfl rfl rfl rfl (by kernel_rfl) rfl (by simp [Value.oneCell']) ?_)
     intro wv hrowV hxv _
     have hlv := hL.al hxv
     clear hxv hL HMV HD
     have HMM : 34 ∈ [34] := by simp
     have V0 := row_s hrowV HMM 0 _ rfl
     have V1 := row_s hrowV HMM 1 _ rfl
     have V2 := row_s hrowV HMM 2 _ rfl
     have V3 := row_s hrowV HMM 3 _ rfl
     have V4 := row_s hrowV HMM 4 _ rfl
     have V5 := row_s hrowV HMM 5 _ rfl
     have hND : 5 ∉ [34] := by simp
     have hq0 := (Stp.refl [34] wv).drew
     have hlv1 := hlv.drew
     clear hrowV hlv
     go_wp2_with fail
     refine wp_region_phase (S := fun w' => Stp [34] wv w') 7 (by kernel_rfl) (by kernel_rfl) ?_ (fun hHeld => ?_)
     ·exact hq0
     simp only [List.drop_succ_cons, List.drop_zero]
     refine name_head ?_
     intro wr0 hw0
     rw [hw0] at hHeld
     refine wt 0 _ ?_
     simp only [red, Act.put]
     refine wt 1 _ ?_
     simp only [red, Act.put]
     refine wt 2 _ ?_
     simp only [red, Act.put]
     refine wt 4 _ ?_
     simp only [red, Act.put]
     refine wt 5 _ ?_
     simp only [red, Act.put]
     refine rd [3] ?_
     refine ac (fun K hK => ?_) ?_
     ·refine step_callG (by rfl) (by kernel_rfl) (hN _ _ _ er 1 (by rw [← hw0]; exact hlv1) (by omega) (by omega)) ?_
      rintro e wr3 ⟨c3, rfl, hl3⟩
      refine ⟨_, rfl, ?_⟩
      refine hK.out _ _ ?_ (fun hHeld => ?_)
      ·exact hHeld.trans (hl3.s _ hND)
      clear hK K
      try simp only [red, Act.put]
      refine rd [6] ?_
      refine ac (fun K hK => ?_) ?_
      ·have hl3' := hlv1.trans (hw0 ▸ hl3)
       refine step_callG (by rfl) (by kernel_rfl) (hLi _ _ _ nums An cn 4 hl3' hNs hpn (by simp <;> omega) (by omega) (by omega)) ?_
       rintro e wr6 ⟨c6, rfl, hl6⟩
       refine ⟨_, rfl, ?_⟩
       refine hK.out _ _ ?_ (fun hHeld => ?_)
       ·exact hHeld.trans (hl6.s _ hND)
       clear hK K
       try simp only [red, Act.put]
       refine wpHead_done (by kernel_rfl) ?_
       have hl6' := hl3'.trans hl6
       have hq6 := hHeld
       clear hl3 hl3' hl6 hlv1 hq0 hHeld hw0
       go_wp2_with fail
       refine wp_region_phase (S := fun w' => Stp [34] wv w') 13 (by kernel_rfl) (by kernel_rfl) ?_ (fun hHeld => ?_)
       ·exact hq6.drew
       simp only [List.drop_succ_cons, List.drop_zero]
       refine name_head ?_
       intro wr0 hw0
       rw [hw0] at hHeld
       refine wt 0 _ ?_
       simp only [red, Act.put]
       refine wt 1 _ ?_
       simp only [red, Act.put]
       refine wt 2 _ ?_
       simp only [red, Act.put]
       refine wt 3 _ ?_
       simp only [red, Act.put]
       refine wt 5 _ ?_
       simp only [red, Act.put]
       refine wt 6 _ ?_
       simp only [red, Act.put]
       refine wt 7 _ ?_
       simp only [red, Act.put]
       refine wt 9 _ ?_
       simp only [red, Act.put]
       refine wt 10 _ ?_
       simp only [red, Act.put]
       refine wt 11 _ ?_
       simp only [red, Act.put]
       refine rd [4] ?_
       refine ac (fun K hK => ?_) ?_
       ·refine step_callG (by rfl) (by kernel_rfl) (hT _ _ _ su (by rw [← hw0]; exact hl6'.drew) (by simp <;> omega) (by omega)) ?_
        rintro e wr4 ⟨d4, rfl, hm4⟩
        refine ⟨_, rfl, ?_⟩
        refine hK.out _ _ ?_ (fun hHeld => ?_)
        ·exact hHeld.trans (hm4.s _ hND)
        clear hK K
        try simp only [red, Act.put]
        refine rd [8] ?_
        refine ac (fun K hK => ?_) ?_
        ·have hm4' := hl6'.drew.trans (hw0 ▸ hm4)
         refine step_callG (by rfl) (by kernel_rfl) (hN _ _ _ sh 1 hm4' (by simp <;> omega) (by omega)) ?_
         rintro e wr8 ⟨d8, rfl, hm8⟩
         refine ⟨_, rfl, ?_⟩
         refine hK.out _ _ ?_ (fun hHeld => ?_)
         ·exact hHeld.trans (hm8.s _ hND)
         clear hK K
         try simp only [red, Act.put]
         refine rd [12] ?_
         refine ac (fun K hK => ?_) ?_
         ·have hm8' := hm4'.trans hm8
          refine step_callG (by rfl) (by kernel_rfl) (hN _ _ _ ep 4 hm8' (by simp <;> omega) (by omega)) ?_
          rintro e wr12 ⟨d12, rfl, hm12⟩
          refine ⟨_, rfl, ?_⟩
          refine hK.out _ _ ?_ (fun hHeld => ?_)
          ·exact hHeld.trans (hm12.s _ hND)
          clear hK K
          try simp only [red, Act.put]
          refine wpHead_done (by kernel_rfl) ?_
          have hm12' := hm8'.trans hm12
          have hq12 := hHeld
          clear hm4 hm4' hm8 hm8' hm12 hl6' hq6 hHeld hw0
          go_wp2_with fail
          refine wp_region_phase (S := fun w' => Stp [34] wv w') 8 (by kernel_rfl) (by kernel_rfl) ?_ (fun hHeld => ?_)
          ·exact hq12.drew
          simp only [List.drop_succ_cons, List.drop_zero]
          refine name_head ?_
          intro wr0 hw0
          rw [hw0] at hHeld
          refine wt 0 _ ?_
          simp only [red, Act.put]
          refine wt 1 _ ?_
          simp only [red, Act.put]
          refine wt 2 _ ?_
          simp only [red, Act.put]
          refine wt 3 _ ?_
          simp only [red, Act.put]
          refine wt 5 _ ?_
          simp only [red, Act.put]
          refine wt 6 _ ?_
          simp only [red, Act.put]
          refine rd [4] ?_
          refine ac (fun K hK => ?_) ?_
          ·refine step_callG (by rfl) (by kernel_rfl) (hN _ _ _ vb.length 2 (by rw [← hw0]; exact hm12'.drew) (by simp <;> omega) (by omega)) ?_
           rintro e wr4 ⟨f4, rfl, hk4⟩
           refine ⟨_, rfl, ?_⟩
           refine hK.out _ _ ?_ (fun hHeld => ?_)
           ·exact hHeld.trans (hk4.s _ hND)
           clear hK K
           try simp only [red, Act.put]
           refine rd [7] ?_
           refine ac (fun K hK => ?_) ?_
           ·have hk4' := hm12'.drew.trans (hw0 ▸ hk4)
            refine stepAppB bytesTr hk4'.o (HV _ hk4'.x) rfl rfl rfl rfl rfl (by simp <;> omega) hk4'.x.size ?_
            intro f7 wr7 ho7 hg7
            have hk7 := hk4'.app ho7 hg7
            refine hK.out _ _ ?_ (fun hHeld => ?_)
            ·exact hHeld.trans ((Stp.refl _ _).own hk4'.o hg7 hND)
            clear hK K
            try simp only [red, Act.put]
            refine wpHead_done (by kernel_rfl) ?_
            have hk7' := hk7
            clear hk4 hk4' ho7 hg7 hk7 hm12' hq12 hHeld hw0
            go_wp2
            go_ret
            exact ⟨_, rfl, by rw [HK.out]; simpa [longB, shortB, List.append_assoc] using hk7'.o, hk7'.x⟩
           exact AllHead.nil
          exact AllHead.nil
         exact AllHead.nil
        exact AllHead.nil
       exact AllHead.nil
      exact AllHead.nil
     exact AllHead.nil
   exact AllHead.nil
  exact AllHead.nil
 exact AllHead.nil
end Go.Proofs.YthlppbbejdeeoaaGreatDoor
