/- The walk of wire.Take. Conditions: the walk of deed.Check (CheckLaw); the slice is one (its length is at most its capacity). -/
import Derived.Test.YthlppbbejdeeoaaGreatDoorC3
import Derived.Test.YthlppbbejdeeoaaGreatDoorWrHM
import Derived.Test.YthlppbbejdeeoaaGreatDoorC10
namespace Go.Proofs.YthlppbbejdeeoaaGreatDoor
open Go.RowKit
def zM : Ml := ⟨0, 0, 0, tx00, tx00, [], [], [], 0, [], [], 0, 0, [], 0, [], 0, 0⟩
def zMC : Array Value := mlC zM zS zS zS zS zS
/-- what Take tells -/
def takeT (b : By) : Nat ⊕ Ml := if (oneL b 0).2.2 ≠ 0 then .inl (oneL b 0).2.2.toNat else if (oneL b 0).2.1 ≠ (b.length : Int) then .inl 4 else takeMT (oneL b 0).1
def TakeW (b : By) (w : World) (e : Ending) (w' : World) : Prop := Ext w w' ∧ match takeT b with
 | .inl c => e = .returned (.tuple #[.agg zMC, .int .i64 (c : Nat)])
 | .inr m => ∃ P D E N V, e = .returned (.tuple #[.agg (mlC m P D E N V), .int .i64 0]) ∧ Rows w' w.heap.size m P D E N V
theorem TakeW.no {b : By} {w w' : World} {c : Nat} (h : takeT b = .inl c) (hx : Ext w w') : TakeW b w (.returned (.tuple #[.agg zMC, .int .i64 (c : Nat)])) w' := by
 refine ⟨hx, ?_⟩
 rw [h]
theorem wpList_buildC {P : Program} {ops : Array Oper} {rest : List Oper} {o : Oper} {a : Act} {w : World} {Q : Exit → Act → World → Prop} (hg : o.guard = none) {t : TypeId} {parts : Array (Nat × Operand)} (ho : o.op = .build t parts) {cells : Array Value}
 (hf : P.built t (parts.map fun (i, x) => (i, a.eval x)).toList = some cells) (h : wpList P ops Q rest (a.put o.dst (.agg cells)) w) : wpList P ops Q (o :: rest) a w :=
 wpList_build hg t parts ho (by rw [hf]; rfl) (by rw [hf]; exact h)
theorem wpList_build0 {P : Program} {ops : Array Oper} {rest : List Oper} {o : Oper} {a : Act} {w : World} {Q : Exit → Act → World → Prop} (hg : o.guard = none) {t : TypeId} (ho : o.op = .build t #[]) {cells : Array Value}
 (hf : P.built t [] = some cells) (h : wpList P ops Q rest (a.put o.dst (.agg cells)) w) : wpList P ops Q (o :: rest) a w :=
 wpList_buildC hg ho (by simpa using hf) h
theorem mail_built : Tryz.prog.built 37 [] = some zMC := by kernel_rfl
theorem mail_info : (Tryz.prog.info? 37).map (fun i => (i.zero, i.size)) = some (some (.agg zMC), 22) := by kernel_rfl
theorem bodyP_sim (k : Int) (l : By) : bodyP k l = rdR k (nV 1 (some l)) (nV 1 (cutQ 1 (some l))) (cutQ 1 (cutQ 1 (some l))) := by
 show andP (intP 1) (fun s => andP (intP 1) fun d => headP k s d) l = _
 unfold andP
 rw [(Sim.int 1).go l]
 cases h1 : cutQ 1 (some l) with
 | none => exact (rdR_none k _ _).symm
 | some r1 =>
  simp only
  rw [(Sim.int 1).go r1]
  cases h2 : cutQ 1 (some r1) with
  | none => exact (rdR_none k _ _).symm
  | some r2 =>
   simp only
   rw [head_sim]
   rfl
theorem takeM_sim (l : By) : takeMT l = if inI (nV 1 (some l)) 1 7 = false then .inl 14 else
 match rdR (nV 1 (some l)) (nV 1 (cutQ 1 (some l))) (nV 1 (cutQ 1 (cutQ 1 (some l)))) (cutQ 1 (cutQ 1 (cutQ 1 (some l)))) with
 | .inl e => .inl e
 | .inr (m, r) => if r ≠ [] then .inl 4 else if checkM m ≠ 0 then .inl (checkM m) else .inr m := by
 unfold takeMT
 show (if ¬ inI (nV 1 (some l)) 1 7 = true then _ else _) = _
 match l with
 | [] => rw [if_pos (by decide), if_pos (by decide)]
 | c :: r =>
  have e : cutQ 1 (some (c :: r)) = some r := by simp [cutQ]
  rw [e]
  by_cases h : inI (nV 1 (some (c :: r))) 1 7 = true
  ·rw [if_neg (by simpa using h), if_neg (by simp [h])]
   rw [← bodyP_sim]
   rfl
  ·rw [if_pos h, if_pos (by simpa using h)]
theorem takeAllT_nz {l : By} {k : Nat} (h : takeAllT l = .inl k) : k ≠ 0 := by
 unfold takeAllT at h
 split at h
 ·cases h; decide
 ·cases hp : readP allP l with
  | inl e => rw [hp] at h; cases h; exact Nz.all.read hp
  | inr ds =>
   rw [hp] at h
   simp only at h
   split at h
   ·rename_i h1; cases h; exact h1
   ·cases h
theorem rdR_nz {k s d : Int} {q : Option By} {c : Nat} (h : rdR k s d q = .inl c) : c ≠ 0 := by
 unfold rdR at h
 cases hq : rdQ k q with
 | none => rw [hq] at h; cases h; decide
 | some r =>
  rw [hq] at h
  simp only at h
  split at h
  ·cases ht : takeAllT r with
   | inl e => rw [ht] at h; cases h; exact takeAllT_nz ht
   | inr ds => rw [ht] at h; cases h
  ·cases h
theorem liV_len (n : Nat) (q : Option By) : (liV n q).length ≤ 255 := by
 have h1 := repV_le (cutQ n) (nV n) (valB (cutV 1 q)) (cutQ 1 q)
 have h2 := valB_cut 1 q
 show (repV (cutQ n) (nV n) (valB (cutV 1 q)) (cutQ 1 q)).length ≤ 255
 omega
theorem loV_len (q : Option By) : (loV q).length ≤ 65535 := by
 have h1 := cutV_le (valB (cutV 2 q)) (cutQ 2 q)
 have h2 := valB_cut 2 q
 unfold loV
 omega
theorem rdR_len {k s d : Int} {q : Option By} {m : Ml} {r : By} (h : rdR k s d q = .inr (m, r)) : m.peers.length ≤ 65535 ∧ m.epochs.length ≤ 65535 ∧ m.nums.length ≤ 65535 ∧ m.vbytes.length ≤ 65535 ∧ m.deeds.length ≤ 65535 ∧ ∀ dd ∈ m.deeds, okD dd := by
 have hv : ∀ (k s d : Int) (t : Tx3) (n : Int) (q : Option By), (tlV k s d t n q).peers.length ≤ 65535 ∧ (tlV k s d t n q).epochs.length ≤ 65535 ∧ (tlV k s d t n q).nums.length ≤ 65535 ∧ (tlV k s d t n q).vbytes.length ≤ 65535 ∧ (tlV k s d t n q).deeds = [] := by
  intro k s d t n q
  unfold tlV
  have h1 := liV_len 1 q
  have h2 := liV_len 4 (liQ 1 q)
  have h3 := liV_len 4 (cutQ 1 q)
  have h4 := loV_len (cutQ 4 (cutQ 1 (shQ (liQ 4 (cutQ 1 q)))))
  split
  ·exact ⟨by simp only; omega, by simp only; omega, by simp, by simp, rfl⟩
  ·split
   ·exact ⟨by simp, by simp, by simp only; omega, by simp only; omega, rfl⟩
   ·split
    ·exact ⟨by simp, by simp, by simp, by simp, rfl⟩
    ·split <;> exact ⟨by simp, by simp, by simp, by simp, rfl⟩
 unfold rdR at h
 cases hq : rdQ k q with
 | none => rw [hq] at h; cases h
 | some r1 =>
  rw [hq] at h
  simp only at h
  obtain ⟨h1, h2, h3, h4, h5⟩ := hv k s d (txV (kTx k) q) (nnV (kN k) (txQ (kTx k) q)) (nnQ (kN k) (txQ (kTx k) q))
  split at h
  ·cases ht : takeAllT r1 with
   | inl e => rw [ht] at h; cases h
   | inr ds =>
    rw [ht] at h
    cases h
    obtain ⟨_, t2, t3, t4, _⟩ := takeAllT_ok ht
    exact ⟨h1, h2, h3, h4, by simp only; omega, t2⟩
  ·cases h
   exact ⟨h1, h2, h3, h4, by show (tlV _ _ _ _ _ _).deeds.length ≤ _; rw [h5]; simp, by intro dd hd; change dd ∈ (tlV _ _ _ _ _ _).deeds at hd; rw [h5] at hd; cases hd⟩
theorem oneL_nn (b : By) (i : Int) : 0 ≤ (oneL b i).2.2 := by
 unfold oneL
 repeat' split
 all_goals first | decide | exact Int.le_refl _
theorem Rows.low {w : World} {base b2 : Nat} {m : Ml} {P D E N V : Value} (h : Rows w base m P D E N V) (hb : b2 ≤ base) : Rows w b2 m P D E N V := ⟨h.p.low hb, h.d.low hb, h.e.low hb, h.n.low hb, h.v.low hb⟩
theorem Rows.ext {w w' : World} {base : Nat} {m : Ml} {P D E N V : Value} (h : Rows w base m P D E N V) (hx : Ext w w') : Rows w' base m P D E N V :=
 ⟨h.p.ext hx, OwnDs.stp h.d (.of_ext hx), h.e.ext hx, h.n.ext hx, h.v.ext hx⟩
theorem Rows.off {w w' : World} {base g : Nat} {m : Ml} {P D E N V : Value} {cs : Array Value} (h : Rows w base m P D E N V) (hp : w.heap[g]? = some (.cells cs 37 (0, 0))) (hk : Kept [g] w w') : Rows w' base m P D E N V :=
 ⟨h.p.off hp (by decide) hk, OwnDs.stp h.d (.kept hk (by intro k hk _; simp at hk; subst hk; exact ⟨_, _, _, hp, by decide⟩)), h.e.off hp (by decide) hk, h.n.off hp (by decide) hk, Own.off h.v hp (by decide) hk⟩
theorem zMC_one : zMC.all (·.oneCell') = true := by simp [zMC, mlC, zS, Value.oneCell']
set_option maxRecDepth 20000 in
set_option maxHeartbeats 1600000 in
theorem wTake_any (HCK : CheckLaw) (A : Option Addr) (cap : Nat) (b : By) (w : World) (hb : Bs w A b) (hc : b.length ≤ cap) (hm : cap ≤ 9223372036854775807) : Calls Tryz.prog 7 #[.slice A b.length cap] w (TakeW b w) := by
 obtain ⟨wa, hwa⟩ : ∃ wa, wa = w.alloc (.cells zMC 37) := ⟨_, rfl⟩
 have hxa : Ext w wa := by rw [hwa]; exact (Ext.refl w).alloc _
 have hrowT : wa.heap[w.heap.size]? = some (.cells zMC 37 (0, 0)) := by rw [hwa]; exact heap_alloc_new w _
 have hsza : wa.heap.size = w.heap.size + 1 := by rw [hwa]; simp
 have HSZA := Lib.hid hsza
 have HONE := One_any A cap b.length b 0 wa (hb.ext hxa) rfl hc hm
 have HWA := Lib.hid hwa
 have HT : Hid (takeT b = if (oneL b 0).2.2 ≠ 0 then .inl (oneL b 0).2.2.toNat else if (oneL b 0).2.1 ≠ (b.length : Int) then .inl 4 else takeMT (oneL b 0).1) := Lib.hid rfl
 unfold OneSays at HONE
 have h0e : 0 ≤ (oneL b 0).2.2 := oneL_nn b 0
 generalize oneL b 0 = o1 at *
 obtain ⟨pl, nx, ec⟩ := o1
 simp only at HONE HT h0e
 obtain ⟨ec, rfl⟩ : ∃ n : Nat, ec = (n : Int) := ⟨ec.toNat, by omega⟩
 clear hwa hb hsza h0e
 go_enter Tryz.func7, Tryz.ntmps7
 go_wp2_with (with_reducible first | refine sL 37 ?_ | refine sS 37 ?_ | refine sA 37 ?_ | refine sB 37 ?_ | refine sA 57 ?_ | refine sS 57 ?_ | refine sL 57 ?_)
 refine go_on (wpList_alloc_ rfl rfl mail_info ?_)
 rw [← HWA.out]
 go_wp2_with fail
 refine HONE.mono ?_
 rintro e w1 ⟨v, rfl, ho1, hx1⟩
 clear HONE
 have hx01 := hxa.trans hx1
 have hrT1 := hx1.obj hrowT
 by_cases he0 : ec = 0
 ·subst he0
  have HT2 := Lib.hid (HT.out.trans (if_neg (by simp)))
  clear HT
  by_cases hnx : nx = (b.length : Int)
  ·subst hnx
   have HT3 := Lib.hid (HT2.out.trans (if_neg (by simp)))
   clear HT2
   obtain ⟨Av, cv, rfl⟩ := ho1.form
   have hpl := ho1.cap.1
   have hR0 : RW w1 (w1.alloc (.cells (.slice Av pl.length cv :: .bool false :: zMC.toList).toArray 54)) w1.heap.size (some pl) zMC.toList :=
    ⟨Nat.le_refl _, (Ext.refl w1).alloc _, Av, cv, heap_alloc_new w1 _, hpl, ho1.bs⟩
   have hRT := takeM_sim pl
   have HRT := Lib.hid (HT3.out.trans hRT)
   have HN := fun (W : World) (q : Option By) (cs : List Value) (h1 : RW w1 W w1.heap.size q cs) => wrnum_any w1 W w1.heap.size 1 q cs h1 (by omega)
   have hpz : w.heap.size < w1.heap.size := obj_lt hrT1
   clear hRT HT3 ho1
   unfold pt at *
   go_wp2_with (with_reducible first | refine sL 37 ?_ | refine sS 37 ?_ | refine sA 37 ?_ | refine sB 37 ?_ | refine sA 57 ?_ | refine sS 57 ?_ | refine sL 57 ?_)
   refine (HN _ _ _ hR0).mono ?_
   rintro e W1 ⟨rfl, hr1, -⟩
   clear hR0
   have C : W1.cell? ⟨w1.heap.size, 2, none⟩ = some _ := hr1.cell 0 _ rfl
   have F := hr1.frz
   obtain ⟨W2, hW2⟩ : ∃ x, x = W1.setCell ⟨w1.heap.size, 2, none⟩ (.int .i64 (valB (cutV 1 (some pl)) : Nat)) := ⟨_, rfl⟩
   obtain ⟨hr2, -⟩ := hr1.set (k := 0) (mlC { zM with kind := nV 1 (some pl) } zS zS zS zS zS).toList rfl rfl hW2
   have C2 : W2.cell? ⟨w1.heap.size, 2, none⟩ = some (.int .i64 (nV 1 (some pl))) := hr2.cell 0 _ rfl
   have HOF := of_any (nV 1 (some pl)) W2
   have HW2 := hW2.symm
   clear hr1 hW2
   go_wp2_with (with_reducible first | refine sL 37 ?_ | refine sS 37 ?_ | refine sA 37 ?_ | refine sB 37 ?_ | refine sA 57 ?_ | refine sS 57 ?_ | refine sL 57 ?_)
   clear C F C2 HW2
   refine HOF.mono ?_
   rintro e W3 ⟨rfl, hx3⟩
   have hr3 := hr2.ext hx3
   clear HOF hr2 hx3
   generalize hkk : nV 1 (some pl) = k at *
   have HKK := Lib.hid hkk
   clear hkk
   go_wp2_with (with_reducible first | refine sL 37 ?_ | refine sS 37 ?_ | refine sA 37 ?_ | refine sB 37 ?_ | refine sA 57 ?_ | refine sS 57 ?_ | refine sL 57 ?_)
   refine go_on (wpList_alloc_ rfl rfl has_info ?_)
   go_wp2_with (with_reducible first | refine sL 37 ?_ | refine sS 37 ?_ | refine sA 37 ?_ | refine sB 37 ?_ | refine sA 57 ?_ | refine sS 57 ?_ | refine sL 57 ?_)
   refine go_on (wpList_store_last (c' := hasC k) rfl rfl rfl rfl (by kernel_rfl) (by rfl) (by simp [hasC, Value.oneCell']) ?_)
   intro W4 hrow4 hx4 _
   have hr4 := hr3.ext hx4
   have hgl := hr3.lt
   clear hr3 hx4
   cases hin : inI k 1 7 with
   | false =>
    have HB : Hid (takeT b = .inl 14) := Lib.hid (HRT.out.trans (if_pos hin))
    have hxw := hx01.trans hr4.2.1
    have hrT4 := hr4.2.1.obj hrT1
    clear HRT hr4
    go_wp2_with (with_reducible first | refine sL 37 ?_ | refine sS 37 ?_ | refine sA 37 ?_ | refine sB 37 ?_ | refine sA 57 ?_ | refine sS 57 ?_ | refine sL 57 ?_)
    refine go_on (wpList_build0 rfl rfl mail_built ?_)
    go_wp2_with (with_reducible first | refine sL 37 ?_ | refine sS 37 ?_ | refine sA 37 ?_ | refine sB 37 ?_ | refine sA 57 ?_ | refine sS 57 ?_ | refine sL 57 ?_)
    refine go_on (wpList_store_whole (c := zMC) rfl rfl rfl rfl hrT4 (by kernel_rfl) (by rfl) zMC_one ?_)
    intro wz hrowZ hkz _
    go_wp2
    ((try simp only [Exit.inBlock, Exit.then]); refine bodyPost_ret (results_cell1 rfl _ _ w.heap.size _ _ _ _ rfl hrowZ Tryz.underlying37 rfl (by kernel_rfl)) rfl ?_)
    exact TakeW.no HB.out (hxw.kept hkz (by intro k hk; simp at hk; omega))
   | true =>
   have HRT2 := Lib.hid (HRT.out.trans (if_neg (by simp [hin])))
   clear HRT
   go_wp2_with fail
   have hrd := hr4.ext (Ext.refl W4).drew
   have hkd : Kept [w1.heap.size] W4 W4.drew := (Kept.refl _ _).drew
   clear hr4
   refine wp_region_phase (S := fun w' => Ext w1 w') 17 (by kernel_rfl) (by kernel_rfl) ?_ (fun hHeld => ?_)
   ·exact hrd.2.1
   simp only [List.drop_succ_cons, List.drop_zero]
   refine name_head ?_
   intro wr0 hw0
   rw [hw0] at hHeld
   refine wt 0 _ ?_
   simp only [red, Act.put]
   refine wt 1 _ ?_
   simp only [red, Act.put]
   refine wt 2 _ ?_
   simp only [red, Act.put]
   refine wt 3 _ ?_
   simp only [red, Act.put]
   refine wt 4 _ ?_
   simp only [red, Act.put]
   refine wt 6 _ ?_
   simp only [red, Act.put]
   refine wt 7 _ ?_
   simp only [red, Act.put]
   refine wt 8 _ ?_
   simp only [red, Act.put]
   refine rd [5] ?_
   refine ac (fun K hK => ?_) ?_
   ·refine step_callG (by rfl) (by kernel_rfl) (HN _ _ _ (by rw [← hw0]; exact hrd)) ?_
    rintro e wr5 ⟨rfl, hr5, hk5⟩
    refine ⟨_, rfl, ?_⟩
    refine hK.out _ _ ?_ (fun hHeld => ?_)
    ·exact hr5.2.1
    clear hK K
    try simp only [red, Act.put]
    refine rd [9] ?_
    refine ac (fun K hK => ?_) ?_
    ·have hkk5 := hkd.trans (hw0 ▸ hk5)
     refine step_callG (by rfl) (by kernel_rfl) (HN _ _ _ hr5) ?_
     rintro e wr9 ⟨rfl, hr9, hk9⟩
     refine ⟨_, rfl, ?_⟩
     refine hK.out _ _ ?_ (fun hHeld => ?_)
     ·exact hr9.2.1
     clear hK K
     try simp only [red, Act.put]
     refine wt 10 _ ?_
     simp only [red, Act.put]
     refine wt 11 _ ?_
     simp only [red, Act.put]
     refine wt 12 _ ?_
     simp only [red, Act.put]
     refine rd [13] ?_
     refine ac (fun K hK => ?_) ?_
     ·have hkk9 := hkk5.trans hk9
      have C : wr9.cell? ⟨w1.heap.size, 3, none⟩ = some _ := hr9.cell 1 _ rfl
      have F := hr9.frz
      go_simp
      refine name_world ?_
      rintro wr13 hw13
      obtain ⟨hr13, hk13⟩ := hr9.set (k := 1) (v := .int .i64 (valB (cutV 1 (cutQ 1 (some pl))) : Nat)) (mlC { zM with kind := k, src := nV 1 (cutQ 1 (some pl)) } zS zS zS zS zS).toList rfl rfl hw13.symm
      clear C F hw13
      refine hK.out _ _ ?_ (fun hHeld => ?_)
      ·exact hr13.2.1
      clear hK K
      try simp only [red, Act.put]
      refine wt 14 _ ?_
      simp only [red, Act.put]
      refine wt 15 _ ?_
      simp only [red, Act.put]
      refine wt 16 _ ?_
      simp only [red, Act.put]
      refine wpHead_done (by kernel_rfl) ?_
      have hkk13 := hkk9.trans hk13
      have C : wr13.cell? ⟨w1.heap.size, 4, none⟩ = some _ := hr13.cell 2 _ rfl
      have F := hr13.frz
      obtain ⟨W5, hW5⟩ : ∃ x, x = wr13.setCell ⟨w1.heap.size, 4, none⟩ (.int .i64 (valB (cutV 1 (cutQ 1 (cutQ 1 (some pl)))) : Nat)) := ⟨_, rfl⟩
      obtain ⟨hr, hks⟩ := hr13.set (k := 2) (mlC { zM with kind := k, src := nV 1 (cutQ 1 (some pl)), dst := nV 1 (cutQ 1 (cutQ 1 (some pl))) } zS zS zS zS zS).toList rfl rfl hW5
      have hrowH := (hkk13.trans hks).heap hrow4 (by simp; omega)
      have HW5 := hW5.symm
      have hsz5 := Nat.le_trans hx01.size hr.2.1.size
      have HRD := wread_any HCK k (nV 1 (cutQ 1 (some pl))) (nV 1 (cutQ 1 (cutQ 1 (some pl)))) hin (cutQ 1 (cutQ 1 (cutQ 1 (some pl)))) w1 W5 w1.heap.size hr
      clear hrd hkd hr5 hk5 hr9 hk9 hr13 hk13 hkk5 hkk9 hkk13 hks hW5 hHeld hw0 hrow4 HN
      unfold pt at *
      go_wp2_with (with_reducible refine sL 57 ?_)
      clear C F HW5
      refine go_on (wpList_load_row rfl 57 _ rfl W3.heap.size rfl 57 _ (0, 0) _ hrowH Tryz.underlying57 rfl (by kernel_rfl) ?_)
      clear hrowH
      go_wp2_with fail
      refine HRD.mono ?_
      rintro e W6 ⟨-, hx6, hq⟩
      clear HRD hr
      have hxw := hx01.trans hx6
      have hrT6 := hx6.obj hrT1
      cases hrr : rdR k (nV 1 (cutQ 1 (some pl))) (nV 1 (cutQ 1 (cutQ 1 (some pl)))) (cutQ 1 (cutQ 1 (cutQ 1 (some pl)))) with
      | inl c =>
       rw [hrr] at hq
       simp only at hq
       subst hq
       have hc0 : (((c : Nat) : Int) == 0) = false := by simpa using rdR_nz hrr
       have HB : Hid (takeT b = .inl c) := Lib.hid (by rw [HRT2.out, hrr])
       clear HRT2 hrr
       go_wp2_with (with_reducible first | refine sL 37 ?_ | refine sS 37 ?_ | refine sA 37 ?_ | refine sB 37 ?_ | refine sA 57 ?_ | refine sS 57 ?_ | refine sL 57 ?_)
       refine go_on (wpList_build0 rfl rfl mail_built ?_)
       go_wp2_with (with_reducible first | refine sL 37 ?_ | refine sS 37 ?_ | refine sA 37 ?_ | refine sB 37 ?_ | refine sA 57 ?_ | refine sS 57 ?_ | refine sL 57 ?_)
       refine go_on (wpList_store_whole (c := zMC) rfl rfl rfl rfl hrT6 (by kernel_rfl) (by rfl) zMC_one ?_)
       intro wz hrowZ hkz _
       go_wp2
       ((try simp only [Exit.inBlock, Exit.then]); refine bodyPost_ret (results_cell1 rfl _ _ w.heap.size _ _ _ _ rfl hrowZ Tryz.underlying37 rfl (by kernel_rfl)) rfl ?_)
       exact TakeW.no HB.out (hxw.kept hkz (by intro k hk; simp at hk; omega))
      | inr mr =>
       obtain ⟨m, r⟩ := mr
       rw [hrr] at hq
       obtain ⟨rfl, P, D, E, N, V, hrows, hr6⟩ := hq
       obtain ⟨l1, l2, l3, l4, l5, hok⟩ := rdR_len hrr
       have HRT3 : Hid (takeT b = if r ≠ [] then .inl 4 else if checkM m ≠ 0 then .inl (checkM m) else .inr m) := Lib.hid (by rw [HRT2.out, hrr])
       obtain ⟨Ar, cr, hrow6, -, -⟩ := hr6.2.2
       obtain ⟨D0, -, -⟩ := cells2_at hrow6
       clear HRT2 hrr hrow6
       by_cases hr0 : r = []
       ·subst hr0
        have HRT4 := Lib.hid (HRT3.out.trans (if_neg (by simp)))
        clear HRT3
        obtain ⟨hP, hD, hE, hN, hV⟩ := hrows
        obtain ⟨Ap, cp, rfl⟩ := hP.form
        obtain ⟨Ad, cd, rfl⟩ := hD.form
        obtain ⟨Ae, ce, rfl⟩ := hE.form
        obtain ⟨An, cn, rfl⟩ := hN.form
        obtain ⟨Av2, cv2, rfl⟩ := hV.form
        have HCH := wCheck_any HCK m Ap Ad Ae An Av2 cp cd ce cn cv2 W6 hP.sl hE.sl hN.sl hV.bs (hD.rsm hok) (by omega) (by omega) (by omega) (by omega) (by omega)
        have hrg := hr6.range (k := 0) (o := 2) rfl (mlC m (.slice Ap m.peers.length cp) (.slice Ad m.deeds.length cd) (.slice Ae m.epochs.length ce) (.slice An m.nums.length cn) (.slice Av2 m.vbytes.length cv2)).toList (fun j v hv => by rw [Nat.zero_add]; exact hv)
        have HROWS : Hid (Rows W6 w.heap.size m (.slice Ap m.peers.length cp) (.slice Ad m.deeds.length cd) (.slice Ae m.epochs.length ce) (.slice An m.nums.length cn) (.slice Av2 m.vbytes.length cv2)) := Lib.hid (Rows.low ⟨hP, hD, hE, hN, hV⟩ hsz5)
        have h1c : (mlC m (.slice Ap m.peers.length cp) (.slice Ad m.deeds.length cd) (.slice Ae m.epochs.length ce) (.slice An m.nums.length cn) (.slice Av2 m.vbytes.length cv2)).all (·.oneCell') = true := by simp [mlC, Value.oneCell']
        have hsz : (Tryz.prog.info? 37).map (·.size) = some (mlC m (.slice Ap m.peers.length cp) (.slice Ad m.deeds.length cd) (.slice Ae m.epochs.length ce) (.slice An m.nums.length cn) (.slice Av2 m.vbytes.length cv2)).size := by kernel_rfl
        have hszl : (Tryz.prog.info? 37).map (·.size) = some (mlC m (.slice Ap m.peers.length cp) (.slice Ad m.deeds.length cd) (.slice Ae m.epochs.length ce) (.slice An m.nums.length cn) (.slice Av2 m.vbytes.length cv2)).toList.length := by kernel_rfl
        have hszz : zMC.size = (mlC m (.slice Ap m.peers.length cp) (.slice Ad m.deeds.length cd) (.slice Ae m.epochs.length ce) (.slice An m.nums.length cn) (.slice Av2 m.vbytes.length cv2)).size := rfl
        clear hP hD hE hN hV hr6 hok
        obtain ⟨mc, hmc⟩ : ∃ mc, mc = mlC m (.slice Ap m.peers.length cp) (.slice Ad m.deeds.length cd) (.slice Ae m.epochs.length ce) (.slice An m.nums.length cn) (.slice Av2 m.vbytes.length cv2) := ⟨_, rfl⟩
        rw [← hmc] at HCH hrg h1c hsz hszl hszz
        have HMC := Lib.hid hmc
        have hrg2 : ∀ W, Ext W6 W → W.rangeAt w1.heap.size 2 mc.toList := fun W hx j v hv => hx.cell (hrg j v hv)
        clear hmc hrg
        go_wp2_with (with_reducible refine sL 37 ?_)
        refine go_on (wpList_load_mid rfl 37 _ rfl w1.heap.size 2 rfl _ _ (hrg2 _ (Ext.refl _)) Tryz.underlying37 rfl hszl ?_)
        rw [Array.toArray_toList]
        go_wp2_with fail
        refine HCH.mono ?_
        rintro e W7 ⟨rfl, hx7⟩
        have hrT7 := hx7.obj hrT6
        have hxw7 := hxw.trans hx7
        have hrg7 := hrg2 _ hx7
        clear HCH hrg2 D0
        by_cases hcm : checkM m = 0
        ·have HB := Lib.hid (HRT4.out.trans (if_neg (by simp [hcm])))
         rw [hcm]
         clear HRT4 hcm
         go_wp2_with (with_reducible refine sL 37 ?_)
         refine go_on (wpList_load_mid rfl 37 _ rfl w1.heap.size 2 rfl _ _ hrg7 Tryz.underlying37 rfl hszl ?_)
         rw [Array.toArray_toList]
         go_wp2_with (with_reducible first | refine sL 37 ?_ | refine sS 37 ?_ | refine sA 37 ?_ | refine sB 37 ?_ | refine sA 57 ?_ | refine sS 57 ?_ | refine sL 57 ?_)
         refine go_on (wpList_store_whole (c := zMC) rfl rfl rfl rfl hrT7 hsz hszz h1c ?_)
         intro W8 hrow8 hk8 _
         have HR8 := Lib.hid ((HROWS.out.ext hx7).off hrT7 hk8)
         clear hrg7 HROWS
         go_wp2
         ((try simp only [Exit.inBlock, Exit.then]); refine bodyPost_ret (results_cell1 rfl _ _ w.heap.size _ _ _ _ rfl hrow8 Tryz.underlying37 rfl hsz) rfl ?_)
         refine ⟨hxw7.kept hk8 (by intro k hk; simp at hk; omega), ?_⟩
         rw [HB.out]
         exact ⟨_, _, _, _, _, by rw [HMC.out]; rfl, HR8.out⟩
        ·have HB : Hid (takeT b = .inl (checkM m)) := Lib.hid (HRT4.out.trans (if_pos hcm))
         have hc0 : (((checkM m : Nat) : Int) == 0) = false := by simpa using hcm
         generalize checkM m = z at *
         clear HRT4 hcm HROWS hrg7
         go_wp2_with (with_reducible first | refine sL 37 ?_ | refine sS 37 ?_ | refine sA 37 ?_ | refine sB 37 ?_ | refine sA 57 ?_ | refine sS 57 ?_ | refine sL 57 ?_)
         refine go_on (wpList_build0 rfl rfl mail_built ?_)
         go_wp2_with (with_reducible first | refine sL 37 ?_ | refine sS 37 ?_ | refine sA 37 ?_ | refine sB 37 ?_ | refine sA 57 ?_ | refine sS 57 ?_ | refine sL 57 ?_)
         refine go_on (wpList_store_whole (c := zMC) rfl rfl rfl rfl hrT7 (by kernel_rfl) (by rfl) zMC_one ?_)
         intro wz hrowZ hkz _
         go_wp2
         ((try simp only [Exit.inBlock, Exit.then]); refine bodyPost_ret (results_cell1 rfl _ _ w.heap.size _ _ _ _ rfl hrowZ Tryz.underlying37 rfl (by kernel_rfl)) rfl ?_)
         exact TakeW.no HB.out (hxw7.kept hkz (by intro k hk; simp at hk; omega))
       ·have HB : Hid (takeT b = .inl 4) := Lib.hid (HRT3.out.trans (if_pos hr0))
        have hl0 : (0 : Int) < (r.length : Int) := by have := List.length_pos_iff.2 hr0; omega
        clear HRT3 hr6 hrows
        go_wp2_with (with_reducible first | refine sL 37 ?_ | refine sS 37 ?_ | refine sA 37 ?_ | refine sB 37 ?_ | refine sA 57 ?_ | refine sS 57 ?_ | refine sL 57 ?_)
        refine go_on (wpList_build0 rfl rfl mail_built ?_)
        go_wp2_with (with_reducible first | refine sL 37 ?_ | refine sS 37 ?_ | refine sA 37 ?_ | refine sB 37 ?_ | refine sA 57 ?_ | refine sS 57 ?_ | refine sL 57 ?_)
        refine go_on (wpList_store_whole (c := zMC) rfl rfl rfl rfl hrT6 (by kernel_rfl) (by rfl) zMC_one ?_)
        intro wz hrowZ hkz _
        go_wp2
        ((try simp only [Exit.inBlock, Exit.then]); refine bodyPost_ret (results_cell1 rfl _ _ w.heap.size _ _ _ _ rfl hrowZ Tryz.underlying37 rfl (by kernel_rfl)) rfl ?_)
        exact TakeW.no HB.out (hxw.kept hkz (by intro k hk; simp at hk; omega))
     exact AllHead.nil
    exact AllHead.nil
   exact AllHead.nil
  ·have HB : Hid (takeT b = .inl 4) := Lib.hid (HT2.out.trans (if_pos hnx))
   clear HT2 ho1
   have hn2 : (nx != (b.length : Int)) = true := by simpa using hnx
   go_wp2_with (with_reducible first | refine sL 37 ?_ | refine sS 37 ?_ | refine sA 37 ?_ | refine sB 37 ?_ | refine sA 57 ?_ | refine sS 57 ?_ | refine sL 57 ?_)
   refine go_on (wpList_build0 rfl rfl mail_built ?_)
   go_wp2_with (with_reducible first | refine sL 37 ?_ | refine sS 37 ?_ | refine sA 37 ?_ | refine sB 37 ?_ | refine sA 57 ?_ | refine sS 57 ?_ | refine sL 57 ?_)
   refine go_on (wpList_store_whole (c := zMC) rfl rfl rfl rfl hrT1 (by kernel_rfl) (by rfl) zMC_one ?_)
   intro wz hrowZ hkz _
   go_wp2
   ((try simp only [Exit.inBlock, Exit.then]); refine bodyPost_ret (results_cell1 rfl _ _ w.heap.size _ _ _ _ rfl hrowZ Tryz.underlying37 rfl (by kernel_rfl)) rfl ?_)
   exact TakeW.no HB.out (hx01.kept hkz (by intro k hk; simp at hk; omega))
 ·have HB : Hid (takeT b = .inl ec) := Lib.hid (HT.out.trans (if_pos (by omega)))
  have he2 : ((ec : Int) == 0) = false := by simpa using he0
  clear HT ho1
  go_wp2_with (with_reducible first | refine sL 37 ?_ | refine sS 37 ?_ | refine sA 37 ?_ | refine sB 37 ?_ | refine sA 57 ?_ | refine sS 57 ?_ | refine sL 57 ?_)
  refine go_on (wpList_build0 rfl rfl mail_built ?_)
  go_wp2_with (with_reducible first | refine sL 37 ?_ | refine sS 37 ?_ | refine sA 37 ?_ | refine sB 37 ?_ | refine sA 57 ?_ | refine sS 57 ?_ | refine sL 57 ?_)
  refine go_on (wpList_store_whole (c := zMC) rfl rfl rfl rfl hrT1 (by kernel_rfl) (by rfl) zMC_one ?_)
  intro wz hrowZ hkz _
  go_wp2
  ((try simp only [Exit.inBlock, Exit.then]); refine bodyPost_ret (results_cell1 rfl _ _ w.heap.size _ _ _ _ rfl hrowZ Tryz.underlying37 rfl (by kernel_rfl)) rfl ?_)
  exact TakeW.no HB.out (hx01.kept hkz (by intro k hk; simp at hk; omega))
end Go.Proofs.YthlppbbejdeeoaaGreatDoor
