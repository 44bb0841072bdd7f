/- The walk of the reference's Take. Conditions: the hypotheses of each theorem; the library's two tables. -/
import Derived.Test.YthlppbbejdeeoaaGreatDoorC11
import Derived.Test.YthlppbbejdeeoaaGreatDoorRWrCM
import Derived.Test.YthlppbbejdeeoaaGreatDoorRDdTM
import Derived.Test.YthlppbbejdeeoaaGreatDoorWrIM
import Derived.Test.YthlppbbejdeeoaaGreatDoorRef2M
namespace Go.Proofs.YthlppbbejdeeoaaGreatDoor
open Go.RowKit
/-- a message that is being read: the reader at R, the message at D -/
structure TM (w1 : World) (R D : Nat) (q : Option By) (cs : List Value) (W : World) : Prop where
 r : RdAt w1 W R q
 d : W.heap[D]? = some (.cells cs.toArray 37 (0, 0))
 lo : w1.heap.size ≤ D
 ne : R ≠ D
section
variable {w1 W W' : World} {R D : Nat} {q q' : Option By} {cs : List Value}
theorem TM.step (h : TM w1 R D q cs W) (hr : RdAt w1 W' R q') (hk : Kept [R] W W') : TM w1 R D q' cs W' := ⟨hr, hk.heap h.d (by simpa using h.ne.symm), h.lo, h.ne⟩
theorem TM.row (h : TM w1 R D q cs W) : ∃ v, W.heap[D]? = some (.cells v 37 (0, 0)) := ⟨_, h.d⟩
theorem TM.ext (h : TM w1 R D q cs W) (hx : Ext W W') : TM w1 R D q cs W' := ⟨h.r.ext hx, hx.obj h.d, h.lo, h.ne⟩
theorem TM.set (h : TM w1 R D q cs W) {k : Nat} {v : Value} (cs' : List Value) (hc : cs.set k v = cs') (hw : W' = W.setCell ⟨D, k, none⟩ v) : TM w1 R D q cs' W' ∧ Kept [D] W W' := by
 have hk : Kept [D] W W' := hw ▸ (Kept.refl _ _).setCell (.inl (by simp)) _
 have hlo := h.lo
 refine ⟨⟨h.r.kept hk (by simpa using h.ne) (by intro k hk; simp at hk; omega), ?_, hlo, h.ne⟩, hk⟩
 rw [hw, heap_setCell_same W D k _ _ _ h.d, ← hc]
 simp
theorem TM.cell (h : TM w1 R D q cs W) (k : Nat) (v : Value) (hv : cs[k]? = some v) : W.cell? ⟨D, k, none⟩ = some v := by
 rw [cell_of_row W D k _ _ _ h.d]
 simpa using hv
theorem TM.frz (h : TM w1 R D q cs W) (j : Nat) : W.frozen? ⟨D, j, none⟩ = false := frozen_of_row W D j _ _ h.d
theorem TM.set3 (h : TM w1 R D q cs W) {k : Nat} {a b c : Value} (cs' : List Value) (hc : ((cs.set k a).set (k + 1) b).set (k + 2) c = cs') (hw : W' = W.setCells D k [a, b, c]) : TM w1 R D q cs' W' ∧ Kept [D] W W' := by
 obtain ⟨h1, k1⟩ := h.set _ rfl (rfl : W.setCell ⟨D, k, none⟩ a = _)
 obtain ⟨h2, k2⟩ := h1.set _ rfl (rfl : (W.setCell ⟨D, k, none⟩ a).setCell ⟨D, k + 1, none⟩ b = _)
 obtain ⟨h3, k3⟩ := h2.set _ rfl (rfl : ((W.setCell ⟨D, k, none⟩ a).setCell ⟨D, k + 1, none⟩ b).setCell ⟨D, k + 2, none⟩ c = _)
 have e : W' = ((W.setCell ⟨D, k, none⟩ a).setCell ⟨D, k + 1, none⟩ b).setCell ⟨D, k + 2, none⟩ c := by rw [hw]; rfl
 rw [e]
 exact ⟨hc ▸ h3, (k1.trans k2).trans k3⟩
theorem TM.there (h : TM w1 R D q cs W) {k n : Nat} (hn : k + n ≤ cs.length) : W.there D k n := fun j hj => by
 obtain ⟨v, hv⟩ : ∃ v, cs[k + j]? = some v := ⟨_, List.getElem?_eq_getElem (by omega)⟩
 exact ⟨by rw [h.cell (k + j) v hv]; rfl, h.frz _⟩
theorem TM.range (h : TM w1 R D q cs W) {k : Nat} (vs : List Value) (hn : ∀ j v, vs[j]? = some v → cs[k + j]? = some v) : W.rangeAt D k vs := fun j v hv => h.cell (k + j) v (hn j v hv)
/-- the reader's bytes are taken away -/
theorem TM.clear {l : By} (h : TM w1 R D (some l) cs W) (hw : W' = W.setCell ⟨R, 0, none⟩ (.slice none 0 0)) : TM w1 R D (some []) cs W' ∧ Kept [R] W W' := by
 have hk : Kept [R] W W' := hw ▸ (Kept.refl _ _).setCell (.inl (by simp)) _
 obtain ⟨A, c, h1, h2⟩ := h.r.2.2
 refine ⟨h.step ⟨h.r.1, h.r.2.1.kept hk (by intro k hk; simp at hk; subst hk; exact h.r.1), none, 0, ?_, Nat.le_refl _, Sl.nil _ _⟩ hk, hk⟩
 rw [hw, heap_setCell_same W R 0 _ _ _ h1]
 rfl
end
theorem OwnDs.offT {w w' : World} {base g t : Nat} {v : Value} {l : List Dd} {cs : Array Value} (h : OwnDs w base v l) (hp : w.heap[g]? = some (.cells cs t (0, 0))) (ht : (t = 37 ∨ t = 63)) (hk : Kept [g] w w') : OwnDs w' base v l :=
 OwnDs.stp h (.kept hk (by intro k hk _; simp at hk; subst hk; exact ⟨_, _, _, hp, by rcases ht with rfl | rfl <;> decide⟩))
theorem oneL_le {b : By} (h : (oneL b 0).2.2 = 0) : (oneL b 0).2.1 ≤ (b.length : Int) := by
 unfold oneL at *
 simp only [Int.toNat_zero, List.drop_zero] at *
 split at h
 ·simp at h
 ·rename_i h1
  rw [if_neg h1]
  split at h
  ·simp at h
  ·rename_i h2
   rw [if_neg h2]
   split at h
   ·simp at h
   ·rename_i h3
    rw [if_neg h3]
    split at h
    ·simp at h
    ·rename_i h4
     rw [if_neg h4]
     split at h
     ·simp at h
     ·rename_i h5
      rw [if_neg h5]
      simp only
      omega
set_option maxRecDepth 20000 in
set_option maxHeartbeats 16000000 in
theorem rTake_any (A : Option Addr) (cap : Nat) (b : By) (w : World) (hb : Bs w A b) (hc : b.length ≤ cap) (hbl : b.length ≤ 140737488355328) (hTb : Tabs w) : Calls Tryz.prog 8 #[.slice A b.length cap] w (TakeW b w) := by
 obtain ⟨wa, hwa⟩ : ∃ wa, wa = w.alloc (.cells zMC 37) := ⟨_, rfl⟩
 have hxa : Ext w wa := by rw [hwa]; exact (Ext.refl w).alloc _
 have hrowT : wa.heap[w.heap.size]? = some (.cells zMC 37 (0, 0)) := by rw [hwa]; exact heap_alloc_new w _
 have HONE := ROne_any A cap b.length b 0 wa (hb.ext hxa) rfl hc hbl
 have HWA := Lib.hid hwa
 have HT : Hid (takeT b = if (oneL b 0).2.2 ≠ 0 then .inl (oneL b 0).2.2.toNat else if (oneL b 0).2.1 ≠ (b.length : Int) then .inl 4 else takeMT (oneL b 0).1) := Lib.hid rfl
 unfold OneSays at HONE
 have h0e : 0 ≤ (oneL b 0).2.2 := oneL_nn b 0
 have h0l := @oneL_le b
 generalize oneL b 0 = o1 at *
 obtain ⟨pl, nx, ec⟩ := o1
 simp only at HONE HT h0e h0l
 obtain ⟨ec, rfl⟩ : ∃ n : Nat, ec = (n : Int) := ⟨ec.toNat, by omega⟩
 clear hwa hb h0e
 go_enter Tryz.func8, Tryz.ntmps8
 go_wp2_with (with_reducible first | refine sL 37 ?_ | refine sS 37 ?_ | refine sA 37 ?_ | refine sL 25 ?_ | refine sS 25 ?_)
 refine go_on (wpList_alloc_ rfl rfl mail_info ?_)
 rw [← HWA.out]
 go_wp2_with fail
 refine HONE.mono ?_
 rintro e w1 ⟨v, rfl, ho1, hx1⟩
 clear HONE
 have hx01 := hxa.trans hx1
 have hrT1 := hx1.obj hrowT
 have hpz : w.heap.size < w1.heap.size := obj_lt hrT1
 by_cases he0 : ec = 0
 ·subst he0
  have HT2 := Lib.hid (HT.out.trans (if_neg (by simp)))
  have hnl := h0l rfl
  clear HT h0l
  by_cases hnx : nx < (b.length : Int)
  ·have HB : Hid (takeT b = .inl 4) := Lib.hid (HT2.out.trans (if_pos (by omega)))
   clear HT2 ho1
   go_wp2_with (with_reducible refine sS 37 ?_)
   refine go_on (wpList_store_whole (c := zMC) (c' := zMC) rfl rfl rfl rfl hrT1 (by kernel_rfl) (by rfl) zMC_one ?_)
   intro wz hrowZ hkz _
   go_wp2
   ((try simp only [Exit.inBlock, Exit.then]); refine bodyPost_ret (results_cell1 rfl _ _ w.heap.size _ _ _ _ rfl hrowZ Tryz.underlying37 rfl (by kernel_rfl)) rfl ?_)
   exact TakeW.no HB.out (hx01.kept hkz (by intro k hk; simp at hk; omega))
  have HT3 := Lib.hid (HT2.out.trans (if_neg (by simp; omega)))
  clear HT2
  obtain ⟨Av0, cv0, rfl⟩ := ho1.form
  have hpl := ho1.cap.1
  have hR0 : RdAt w1 (w1.alloc (.cells #[.slice Av0 pl.length cv0, .bool false] 63)) w1.heap.size (some pl) := ⟨Nat.le_refl _, (Ext.refl w1).alloc _, Av0, cv0, heap_alloc_new w1 _, hpl, ho1.bs⟩
  have HRT := Lib.hid (HT3.out.trans (takeM_sim pl))
  have hN := fun (W : World) (q : Option By) (n : Nat) (hn : n ≤ 4) (h1 : RdAt w1 W w1.heap.size q) => RRNum_any w1 W w1.heap.size n q h1 hn
  have hC := fun (W : World) (q : Option By) (n : Nat) (hn : n ≤ 100000) (h1 : RdAt w1 W w1.heap.size q) => RCut_any w1 W w1.heap.size n q h1 hn
  have hL := fun (W : World) (q : Option By) (n : Nat) (hn : n ≤ 4) (h1 : RdAt w1 W w1.heap.size q) => rrlist_any w1 W w1.heap.size n q h1 hn
  clear HT3 ho1
  unfold pt at *
  go_wp2_with (with_reducible first | refine sL 37 ?_ | refine sS 37 ?_ | refine sA 37 ?_ | refine sL 25 ?_ | refine sS 25 ?_)
  refine (hN _ _ 1 (by omega) hR0).mono ?_
  rintro e W1 ⟨rfl, hr1, -⟩
  clear hR0
  obtain ⟨k, hkk⟩ : ∃ k, k = nV 1 (some pl) := ⟨_, rfl⟩
  rw [show ((valB (cutV 1 (some pl)) : Nat) : Int) = k from hkk.symm]
  rw [← hkk] at HRT
  have HKK := Lib.hid hkk
  clear hkk
  obtain ⟨R, hRe⟩ : ∃ R, R = w1.heap.size := ⟨_, rfl⟩
  rw [← hRe] at hN hC hL hr1
  have HRE := Lib.hid hRe
  clear hRe
  go_wp2_with (with_reducible first | refine sL 37 ?_ | refine sS 37 ?_ | refine sA 37 ?_ | refine sL 25 ?_ | refine sS 25 ?_)
  rw [← HRE.out]
  refine go_on (wpList_alloc_ rfl rfl mail_info ?_)
  go_wp2_with (with_reducible first | refine sL 37 ?_ | refine sS 37 ?_ | refine sA 37 ?_ | refine sL 25 ?_ | refine sS 25 ?_)
  refine go_on (wpList_store_last (c' := mlC { zM with kind := k } zS zS zS zS zS) rfl rfl rfl rfl (by kernel_rfl) rfl (by simp [mlC, zS, Value.oneCell']) ?_)
  intro W2 hrow2 hx2 _
  obtain ⟨D, hDe⟩ : ∃ D, D = W1.heap.size := ⟨_, rfl⟩
  rw [← hDe] at hrow2
  have t : TM w1 R D (cutQ 1 (some pl)) (mlC { zM with kind := k } zS zS zS zS zS).toList W2 := ⟨hr1.ext hx2, hrow2, by rw [hDe]; exact hr1.2.1.size, by have := hr1.lt; omega⟩
  have HDE := Lib.hid hDe
  have CK : W2.cell? ⟨D, 0, none⟩ = some (.int .i64 k) := t.cell 0 _ rfl
  rw [← HDE.out]
  clear hr1 hx2 hrow2 hDe
  by_cases k1 : k < 1
  ·have hin : inI k 1 7 = false := inI_out (.inl k1)
   have HB : Hid (takeT b = .inl 14) := Lib.hid (HRT.out.trans (if_pos hin))
   have hrT6 := t.r.2.1.obj hrT1
   have hxw6 := hx01.trans t.r.2.1
   clear HRT hin t
   go_wp2_with (with_reducible refine sS 37 ?_)
   refine go_on (wpList_store_whole (c := zMC) (c' := zMC) rfl rfl rfl rfl hrT6 (by kernel_rfl) (by rfl) zMC_one ?_)
   intro wz hrowZ hkz _
   go_wp2
   ((try simp only [Exit.inBlock, Exit.then]); refine bodyPost_ret (results_cell1 rfl _ _ w.heap.size _ _ _ _ rfl hrowZ Tryz.underlying37 rfl (by kernel_rfl)) rfl ?_)
   exact TakeW.no HB.out (hxw6.kept hkz (by intro k hk; simp at hk; omega))
  by_cases k7 : 7 < k
  ·have hin : inI k 1 7 = false := inI_out (.inr k7)
   have HB : Hid (takeT b = .inl 14) := Lib.hid (HRT.out.trans (if_pos hin))
   have hrT6 := t.r.2.1.obj hrT1
   have hxw6 := hx01.trans t.r.2.1
   clear HRT hin t
   go_wp2_with (with_reducible refine sS 37 ?_)
   refine go_on (wpList_store_whole (c := zMC) (c' := zMC) rfl rfl rfl rfl hrT6 (by kernel_rfl) (by rfl) zMC_one ?_)
   intro wz hrowZ hkz _
   go_wp2
   ((try simp only [Exit.inBlock, Exit.then]); refine bodyPost_ret (results_cell1 rfl _ _ w.heap.size _ _ _ _ rfl hrowZ Tryz.underlying37 rfl (by kernel_rfl)) rfl ?_)
   exact TakeW.no HB.out (hxw6.kept hkz (by intro k hk; simp at hk; omega))
  have hin : inI k 1 7 = true := inI_in (by omega) (by omega)
  have HT2 := Lib.hid (HRT.out.trans (if_neg (by simp [hin])))
  clear HRT
  obtain ⟨s0, hs0⟩ : ∃ x, x = nV 1 (cutQ 1 (some pl)) := ⟨_, rfl⟩
  obtain ⟨d0, hd0⟩ : ∃ x, x = nV 1 (cutQ 1 (cutQ 1 (some pl))) := ⟨_, rfl⟩
  obtain ⟨q3, hq3⟩ : ∃ x, x = cutQ 1 (cutQ 1 (cutQ 1 (some pl))) := ⟨_, rfl⟩
  rw [← hs0, ← hd0, ← hq3] at HT2
  have HS0 := Lib.hid hs0
  have HD0 := Lib.hid hd0
  have HQ3 := Lib.hid hq3
  clear hs0 hd0 hq3 k1 k7
  have HW : W2 = W2 := rfl
  rcases kind_ok hin with rfl | rfl | rfl | rfl | rfl | rfl | rfl
  ·
   have HK1 := fun W => rhasTx_any 1 W
   have HK2 := fun W => rhasN_any 1 W
   have HK3 := fun W => rhasVote_any 1 W
   rw [show kTx 1 = true from rfl] at HK1
   rw [show kN 1 = false from rfl] at HK2
   rw [show kVote 1 = false from rfl] at HK3
   go_wp2_with fail
   clear HW CK
   try clear C F
   refine (hN _ _ 1 (by omega) t.r).mono ?_
   rintro e W1 ⟨rfl, hr1, hk1⟩
   have t1 := t.step hr1 hk1
   obtain ⟨vrow, hrow⟩ := t.r.row
   clear t hr1 hk1 hrow
   have C : W1.cell? ⟨D, 1, none⟩ = some _ := t1.cell 1 _ rfl
   have F := t1.frz
   obtain ⟨W2, hW2⟩ : ∃ x, x = W1.setCell ⟨D, 1, none⟩ (.int .i64 (valB (cutV 1 (cutQ 1 (some pl))) : Nat)) := ⟨_, rfl⟩
   have hst := t1.set (k := 1) (mlC (⟨1, nV 1 (cutQ 1 (some pl)), 0, tx00, tx00, [], [], [], 0, [], [], 0, 0, [], 0, [], 0, 0⟩ : Ml) zS zS zS zS zS).toList rfl hW2
   have t := hst.1
   obtain ⟨vrow, hrow⟩ := t1.row
   have HW := hW2.symm
   have CK : W2.cell? ⟨D, 0, none⟩ = some (.int .i64 1) := t.cell 0 _ rfl
   clear hst hW2 t1 hrow
   go_wp2_with fail
   clear HW CK
   try clear C F
   refine (hN _ _ 1 (by omega) t.r).mono ?_
   rintro e W1 ⟨rfl, hr1, hk1⟩
   have t1 := t.step hr1 hk1
   obtain ⟨vrow, hrow⟩ := t.r.row
   clear t hr1 hk1 hrow
   have C : W1.cell? ⟨D, 2, none⟩ = some _ := t1.cell 2 _ rfl
   have F := t1.frz
   obtain ⟨W2, hW2⟩ : ∃ x, x = W1.setCell ⟨D, 2, none⟩ (.int .i64 (valB (cutV 1 (cutQ 1 (cutQ 1 (some pl)))) : Nat)) := ⟨_, rfl⟩
   have hst := t1.set (k := 2) (mlC (⟨1, nV 1 (cutQ 1 (some pl)), nV 1 (cutQ 1 (cutQ 1 (some pl))), tx00, tx00, [], [], [], 0, [], [], 0, 0, [], 0, [], 0, 0⟩ : Ml) zS zS zS zS zS).toList rfl hW2
   have t := hst.1
   obtain ⟨vrow, hrow⟩ := t1.row
   have HW := hW2.symm
   have CK : W2.cell? ⟨D, 0, none⟩ = some (.int .i64 1) := t.cell 0 _ rfl
   clear hst hW2 t1 hrow
   go_wp2_with fail
   refine (HK1 _).mono ?_
   rintro e wq ⟨rfl, hwq⟩
   subst hwq
   go_wp2_with fail
   clear HW CK
   try clear C F
   refine (hN _ _ 1 (by omega) t.r).mono ?_
   rintro e W1 ⟨rfl, hr1, hk1⟩
   have t1 := t.step hr1 hk1
   obtain ⟨vrow, hrow⟩ := t.r.row
   clear t hr1 hk1 hrow
   have C : W1.cell? ⟨D, 3, none⟩ = some _ := t1.cell 3 _ rfl
   have F := t1.frz
   obtain ⟨W2, hW2⟩ : ∃ x, x = W1.setCell ⟨D, 3, none⟩ (.int .i64 (valB (cutV 1 (cutQ 1 (cutQ 1 (cutQ 1 (some pl))))) : Nat)) := ⟨_, rfl⟩
   have hst := t1.set (k := 3) (mlC (⟨1, nV 1 (cutQ 1 (some pl)), nV 1 (cutQ 1 (cutQ 1 (some pl))), ⟨nV 1 (cutQ 1 (cutQ 1 (cutQ 1 (some pl)))), 0, 0⟩, tx00, [], [], [], 0, [], [], 0, 0, [], 0, [], 0, 0⟩ : Ml) zS zS zS zS zS).toList rfl hW2
   have t := hst.1
   obtain ⟨vrow, hrow⟩ := t1.row
   have HW := hW2.symm
   have CK : W2.cell? ⟨D, 0, none⟩ = some (.int .i64 1) := t.cell 0 _ rfl
   clear hst hW2 t1 hrow
   go_wp2_with fail
   clear HW CK
   try clear C F
   refine (hN _ _ 4 (by omega) t.r).mono ?_
   rintro e W1 ⟨rfl, hr1, hk1⟩
   have t1 := t.step hr1 hk1
   obtain ⟨vrow, hrow⟩ := t.r.row
   clear t hr1 hk1 hrow
   have C : W1.cell? ⟨D, 4, none⟩ = some _ := t1.cell 4 _ rfl
   have F := t1.frz
   obtain ⟨W2, hW2⟩ : ∃ x, x = W1.setCell ⟨D, 4, none⟩ (.int .i64 (valB (cutV 4 (cutQ 1 (cutQ 1 (cutQ 1 (cutQ 1 (some pl)))))) : Nat)) := ⟨_, rfl⟩
   have hst := t1.set (k := 4) (mlC (⟨1, nV 1 (cutQ 1 (some pl)), nV 1 (cutQ 1 (cutQ 1 (some pl))), ⟨nV 1 (cutQ 1 (cutQ 1 (cutQ 1 (some pl)))), nV 4 (cutQ 1 (cutQ 1 (cutQ 1 (cutQ 1 (some pl))))), 0⟩, tx00, [], [], [], 0, [], [], 0, 0, [], 0, [], 0, 0⟩ : Ml) zS zS zS zS zS).toList rfl hW2
   have t := hst.1
   obtain ⟨vrow, hrow⟩ := t1.row
   have HW := hW2.symm
   have CK : W2.cell? ⟨D, 0, none⟩ = some (.int .i64 1) := t.cell 0 _ rfl
   clear hst hW2 t1 hrow
   go_wp2_with fail
   clear HW CK
   try clear C F
   refine (hN _ _ 4 (by omega) t.r).mono ?_
   rintro e W1 ⟨rfl, hr1, hk1⟩
   have t1 := t.step hr1 hk1
   obtain ⟨vrow, hrow⟩ := t.r.row
   clear t hr1 hk1 hrow
   have C : W1.cell? ⟨D, 5, none⟩ = some _ := t1.cell 5 _ rfl
   have F := t1.frz
   obtain ⟨W2, hW2⟩ : ∃ x, x = W1.setCell ⟨D, 5, none⟩ (.int .i64 (valB (cutV 4 (cutQ 4 (cutQ 1 (cutQ 1 (cutQ 1 (cutQ 1 (some pl))))))) : Nat)) := ⟨_, rfl⟩
   have hst := t1.set (k := 5) (mlC (⟨1, nV 1 (cutQ 1 (some pl)), nV 1 (cutQ 1 (cutQ 1 (some pl))), ⟨nV 1 (cutQ 1 (cutQ 1 (cutQ 1 (some pl)))), nV 4 (cutQ 1 (cutQ 1 (cutQ 1 (cutQ 1 (some pl))))), nV 4 (cutQ 4 (cutQ 1 (cutQ 1 (cutQ 1 (cutQ 1 (some pl))))))⟩, tx00, [], [], [], 0, [], [], 0, 0, [], 0, [], 0, 0⟩ : Ml) zS zS zS zS zS).toList rfl hW2
   have t := hst.1
   obtain ⟨vrow, hrow⟩ := t1.row
   have HW := hW2.symm
   have CK : W2.cell? ⟨D, 0, none⟩ = some (.int .i64 1) := t.cell 0 _ rfl
   clear hst hW2 t1 hrow
   go_wp2_with fail
   refine (HK2 _).mono ?_
   rintro e wq ⟨rfl, hwq⟩
   subst hwq
   go_wp2_with (with_reducible refine sL 25 ?_)
   clear HW CK C F
   refine go_on (wpList_load_mid rfl 25 _ rfl D 3 rfl [.int .i64 (nV 1 (cutQ 1 (cutQ 1 (cutQ 1 (some pl))))), .int .i64 (nV 4 (cutQ 1 (cutQ 1 (cutQ 1 (cutQ 1 (some pl)))))), .int .i64 (nV 4 (cutQ 4 (cutQ 1 (cutQ 1 (cutQ 1 (cutQ 1 (some pl)))))))] _ (t.range (k := 3) _ (by intro j v hv; match j, hv with | 0, hv => exact hv | 1, hv => exact hv | 2, hv => exact hv)) Tryz.underlying25 rfl (by kernel_rfl) ?_)
   go_wp2_with (with_reducible first | refine sL 37 ?_ | refine sS 37 ?_ | refine sA 37 ?_ | refine sL 25 ?_ | refine sS 25 ?_)
   refine go_on (wpList_store_mid rfl 25 _ _ rfl D 6 #[.int .i64 (nV 1 (cutQ 1 (cutQ 1 (cutQ 1 (some pl))))), .int .i64 (nV 4 (cutQ 1 (cutQ 1 (cutQ 1 (cutQ 1 (some pl)))))), .int .i64 (nV 4 (cutQ 4 (cutQ 1 (cutQ 1 (cutQ 1 (cutQ 1 (some pl)))))))] rfl rfl (t.there (k := 6) (by simp [mlC])) (by kernel_rfl) (by simp [Value.oneCell']) ?_)
   obtain ⟨W3, hW3⟩ : ∃ x, x = W2.setCells D 6 [.int .i64 (nV 1 (cutQ 1 (cutQ 1 (cutQ 1 (some pl))))), .int .i64 (nV 4 (cutQ 1 (cutQ 1 (cutQ 1 (cutQ 1 (some pl)))))), .int .i64 (nV 4 (cutQ 4 (cutQ 1 (cutQ 1 (cutQ 1 (cutQ 1 (some pl)))))))] := ⟨_, rfl⟩
   rw [show (W2.setCells D 6 (#[.int .i64 (nV 1 (cutQ 1 (cutQ 1 (cutQ 1 (some pl))))), .int .i64 (nV 4 (cutQ 1 (cutQ 1 (cutQ 1 (cutQ 1 (some pl)))))), .int .i64 (nV 4 (cutQ 4 (cutQ 1 (cutQ 1 (cutQ 1 (cutQ 1 (some pl)))))))] : Array Value).toList) = W3 from hW3.symm]
   obtain ⟨t3, -⟩ := t.set3 (k := 6) (mlC (⟨1, nV 1 (cutQ 1 (some pl)), nV 1 (cutQ 1 (cutQ 1 (some pl))), ⟨nV 1 (cutQ 1 (cutQ 1 (cutQ 1 (some pl)))), nV 4 (cutQ 1 (cutQ 1 (cutQ 1 (cutQ 1 (some pl))))), nV 4 (cutQ 4 (cutQ 1 (cutQ 1 (cutQ 1 (cutQ 1 (some pl))))))⟩, ⟨nV 1 (cutQ 1 (cutQ 1 (cutQ 1 (some pl)))), nV 4 (cutQ 1 (cutQ 1 (cutQ 1 (cutQ 1 (some pl))))), nV 4 (cutQ 4 (cutQ 1 (cutQ 1 (cutQ 1 (cutQ 1 (some pl))))))⟩, [], [], [], 0, [], [], 0, 0, [], 0, [], 0, 0⟩ : Ml) zS zS zS zS zS).toList rfl hW3
   clear t hW3
   obtain ⟨W2, hW2⟩ : ∃ x, x = W3 := ⟨_, rfl⟩
   subst hW2
   have t := t3
   clear t3
   have HW : W2 = W2 := rfl
   have CK : W2.cell? ⟨D, 0, none⟩ = some (.int .i64 1) := t.cell 0 _ rfl
   go_wp2_with fail
   clear HW CK
   try clear C F
   refine (hL _ _ 1 (by omega) t.r).mono ?_
   rintro e W1 ⟨vl_, rfl, hov, hr1, hk1⟩
   have t1 := t.step hr1 hk1
   have hPr := hov.low (Nat.le_trans hx01.size t.r.2.1.size)
   obtain ⟨vrow, hrow⟩ := t.r.row
   clear t hr1 hk1 hrow
   obtain ⟨Ap, cp, rfl⟩ := hov.form
   clear hov
   have C : W1.cell? ⟨D, 9, none⟩ = some _ := t1.cell 9 _ rfl
   have F := t1.frz
   obtain ⟨W2, hW2⟩ : ∃ x, x = W1.setCell ⟨D, 9, none⟩ (.slice Ap (liV 1 (cutQ 4 (cutQ 4 (cutQ 1 (cutQ 1 (cutQ 1 (cutQ 1 (some pl)))))))).length cp) := ⟨_, rfl⟩
   have hst := t1.set (k := 9) (mlC (⟨1, nV 1 (cutQ 1 (some pl)), nV 1 (cutQ 1 (cutQ 1 (some pl))), ⟨nV 1 (cutQ 1 (cutQ 1 (cutQ 1 (some pl)))), nV 4 (cutQ 1 (cutQ 1 (cutQ 1 (cutQ 1 (some pl))))), nV 4 (cutQ 4 (cutQ 1 (cutQ 1 (cutQ 1 (cutQ 1 (some pl))))))⟩, ⟨nV 1 (cutQ 1 (cutQ 1 (cutQ 1 (some pl)))), nV 4 (cutQ 1 (cutQ 1 (cutQ 1 (cutQ 1 (some pl))))), nV 4 (cutQ 4 (cutQ 1 (cutQ 1 (cutQ 1 (cutQ 1 (some pl))))))⟩, liV 1 (cutQ 4 (cutQ 4 (cutQ 1 (cutQ 1 (cutQ 1 (cutQ 1 (some pl))))))), [], [], 0, [], [], 0, 0, [], 0, [], 0, 0⟩ : Ml) (.slice Ap (liV 1 (cutQ 4 (cutQ 4 (cutQ 1 (cutQ 1 (cutQ 1 (cutQ 1 (some pl)))))))).length cp) zS zS zS zS).toList rfl hW2
   have t := hst.1
   obtain ⟨vrow, hrow⟩ := t1.row
   have hPr := hPr.off hrow (by decide) hst.2
   have HW := hW2.symm
   have CK : W2.cell? ⟨D, 0, none⟩ = some (.int .i64 1) := t.cell 0 _ rfl
   clear hst hW2 t1 hrow
   go_wp2_with fail
   clear HW CK
   try clear C F
   refine (hL _ _ 4 (by omega) t.r).mono ?_
   rintro e W1 ⟨vl_, rfl, hov, hr1, hk1⟩
   have t1 := t.step hr1 hk1
   have hEr := hov.low (Nat.le_trans hx01.size t.r.2.1.size)
   obtain ⟨vrow, hrow⟩ := t.r.row
   have hPr := hPr.off hrow (by decide) hk1
   clear t hr1 hk1 hrow
   obtain ⟨Ae, ce, rfl⟩ := hov.form
   clear hov
   have C : W1.cell? ⟨D, 11, none⟩ = some _ := t1.cell 11 _ rfl
   have F := t1.frz
   obtain ⟨W2, hW2⟩ : ∃ x, x = W1.setCell ⟨D, 11, none⟩ (.slice Ae (liV 4 (liQ 1 (cutQ 4 (cutQ 4 (cutQ 1 (cutQ 1 (cutQ 1 (cutQ 1 (some pl))))))))).length ce) := ⟨_, rfl⟩
   have hst := t1.set (k := 11) (mlC (⟨1, nV 1 (cutQ 1 (some pl)), nV 1 (cutQ 1 (cutQ 1 (some pl))), ⟨nV 1 (cutQ 1 (cutQ 1 (cutQ 1 (some pl)))), nV 4 (cutQ 1 (cutQ 1 (cutQ 1 (cutQ 1 (some pl))))), nV 4 (cutQ 4 (cutQ 1 (cutQ 1 (cutQ 1 (cutQ 1 (some pl))))))⟩, ⟨nV 1 (cutQ 1 (cutQ 1 (cutQ 1 (some pl)))), nV 4 (cutQ 1 (cutQ 1 (cutQ 1 (cutQ 1 (some pl))))), nV 4 (cutQ 4 (cutQ 1 (cutQ 1 (cutQ 1 (cutQ 1 (some pl))))))⟩, liV 1 (cutQ 4 (cutQ 4 (cutQ 1 (cutQ 1 (cutQ 1 (cutQ 1 (some pl))))))), [], liV 4 (liQ 1 (cutQ 4 (cutQ 4 (cutQ 1 (cutQ 1 (cutQ 1 (cutQ 1 (some pl)))))))), 0, [], [], 0, 0, [], 0, [], 0, 0⟩ : Ml) (.slice Ap (liV 1 (cutQ 4 (cutQ 4 (cutQ 1 (cutQ 1 (cutQ 1 (cutQ 1 (some pl)))))))).length cp) zS (.slice Ae (liV 4 (liQ 1 (cutQ 4 (cutQ 4 (cutQ 1 (cutQ 1 (cutQ 1 (cutQ 1 (some pl))))))))).length ce) zS zS).toList rfl hW2
   have t := hst.1
   obtain ⟨vrow, hrow⟩ := t1.row
   have hPr := hPr.off hrow (by decide) hst.2
   have hEr := hEr.off hrow (by decide) hst.2
   have HW := hW2.symm
   have CK : W2.cell? ⟨D, 0, none⟩ = some (.int .i64 1) := t.cell 0 _ rfl
   clear hst hW2 t1 hrow
   obtain ⟨qe, hqe, hte⟩ : ∃ qe, qe = liQ 4 (liQ 1 (cutQ 4 (cutQ 4 (cutQ 1 (cutQ 1 (cutQ 1 (cutQ 1 (some pl)))))))) ∧ TM w1 R D qe (mlC (⟨1, nV 1 (cutQ 1 (some pl)), nV 1 (cutQ 1 (cutQ 1 (some pl))), ⟨nV 1 (cutQ 1 (cutQ 1 (cutQ 1 (some pl)))), nV 4 (cutQ 1 (cutQ 1 (cutQ 1 (cutQ 1 (some pl))))), nV 4 (cutQ 4 (cutQ 1 (cutQ 1 (cutQ 1 (cutQ 1 (some pl))))))⟩, ⟨nV 1 (cutQ 1 (cutQ 1 (cutQ 1 (some pl)))), nV 4 (cutQ 1 (cutQ 1 (cutQ 1 (cutQ 1 (some pl))))), nV 4 (cutQ 4 (cutQ 1 (cutQ 1 (cutQ 1 (cutQ 1 (some pl))))))⟩, liV 1 (cutQ 4 (cutQ 4 (cutQ 1 (cutQ 1 (cutQ 1 (cutQ 1 (some pl))))))), [], liV 4 (liQ 1 (cutQ 4 (cutQ 4 (cutQ 1 (cutQ 1 (cutQ 1 (cutQ 1 (some pl)))))))), 0, [], [], 0, 0, [], 0, [], 0, 0⟩ : Ml) (.slice Ap (liV 1 (cutQ 4 (cutQ 4 (cutQ 1 (cutQ 1 (cutQ 1 (cutQ 1 (some pl)))))))).length cp) zS (.slice Ae (liV 4 (liQ 1 (cutQ 4 (cutQ 4 (cutQ 1 (cutQ 1 (cutQ 1 (cutQ 1 (some pl))))))))).length ce) zS zS).toList W2 := ⟨_, rfl, t⟩
   have HRR : Hid (rdR 1 s0 d0 q3 = rdO1 (⟨1, nV 1 (cutQ 1 (some pl)), nV 1 (cutQ 1 (cutQ 1 (some pl))), ⟨nV 1 (cutQ 1 (cutQ 1 (cutQ 1 (some pl)))), nV 4 (cutQ 1 (cutQ 1 (cutQ 1 (cutQ 1 (some pl))))), nV 4 (cutQ 4 (cutQ 1 (cutQ 1 (cutQ 1 (cutQ 1 (some pl))))))⟩, ⟨nV 1 (cutQ 1 (cutQ 1 (cutQ 1 (some pl)))), nV 4 (cutQ 1 (cutQ 1 (cutQ 1 (cutQ 1 (some pl))))), nV 4 (cutQ 4 (cutQ 1 (cutQ 1 (cutQ 1 (cutQ 1 (some pl))))))⟩, liV 1 (cutQ 4 (cutQ 4 (cutQ 1 (cutQ 1 (cutQ 1 (cutQ 1 (some pl))))))), [], liV 4 (liQ 1 (cutQ 4 (cutQ 4 (cutQ 1 (cutQ 1 (cutQ 1 (cutQ 1 (some pl)))))))), 0, [], [], 0, 0, [], 0, [], 0, 0⟩ : Ml) qe) := Lib.hid (by rw [hqe, HS0.out, HD0.out, HQ3.out]; rfl)
   clear t hqe
   cases qe with
   | none =>
    have HB : Hid (takeT b = .inl 3) := Lib.hid (by rw [HT2.out, HRR.out]; rfl)
    have C1 := hte.r.off
    rw [show (none : Option By).isNone = true from rfl] at C1
    have hrT6 := hte.r.2.1.obj hrT1
    have hxw6 := hx01.trans hte.r.2.1
    clear HRR hte HT2
    go_wp2_with (with_reducible refine sS 37 ?_)
    refine go_on (wpList_store_whole (c := zMC) (c' := zMC) rfl rfl rfl rfl hrT6 (by kernel_rfl) (by rfl) zMC_one ?_)
    intro wz hrowZ hkz _
    go_wp2
    ((try simp only [Exit.inBlock, Exit.then]); refine bodyPost_ret (results_cell1 rfl _ _ w.heap.size _ _ _ _ rfl hrowZ Tryz.underlying37 rfl (by kernel_rfl)) rfl ?_)
    exact TakeW.no HB.out (hxw6.kept hkz (by intro k hk; simp at hk; omega))
   | some l9 =>
    have C1 := hte.r.off
    rw [show (some l9 : Option By).isNone = false from rfl] at C1
    obtain ⟨Ar, cr, hrowR, hrc, hbr⟩ := hte.r.2.2
    obtain ⟨R0, -, -⟩ := row2_at hrowR
    have HTA := RTakeAll_any Ar cr l9 W2 (hbr.ext hte.r.2.1) hrc (hTb.ext (hx01.trans hte.r.2.1))
    have hszW := Nat.le_trans hx01.size hte.r.2.1.size
    clear hrowR
    go_wp2_with fail
    clear HW CK C F R0 C1
    refine HTA.mono ?_
    rintro e W1 ⟨hx8, hq8⟩
    have t1 := hte.ext hx8
    have hPr := hPr.ext hx8
    have hEr := hEr.ext hx8
    have C : W1.cell? ⟨D, 10, none⟩ = some _ := t1.cell 10 _ rfl
    have F := t1.frz
    clear hte hbr HTA
    cases htk : takeAllT l9 with
    | inl c =>
     rw [htk] at hq8
     simp only at hq8
     subst hq8
     have HRi : Hid (rdR 1 s0 d0 q3 = .inl c) := Lib.hid (by rw [HRR.out]; unfold rdO1; simp only [htk])
     have hc0 : (((c : Nat) : Int) == 0) = false := by simpa using takeAllT_nz htk
     have hc1 : ¬ c = 0 := takeAllT_nz htk
     have HB : Hid (takeT b = .inl c) := Lib.hid (by rw [HT2.out, HRi.out])
     obtain ⟨W2, hW2⟩ : ∃ x, x = W1.setCell ⟨D, 10, none⟩ (.slice none 0 0) := ⟨_, rfl⟩
     have hst := t1.set (k := 10) _ rfl hW2
     have hrT6 := hst.1.r.2.1.obj hrT1
     have hxw6 := hx01.trans hst.1.r.2.1
     have HW := hW2.symm
     clear hW2 hst t1 hPr hEr HRi HRR htk HT2
     go_wp2_with (with_reducible refine sS 37 ?_)
     refine go_on (wpList_store_whole (c := zMC) (c' := zMC) rfl rfl rfl rfl hrT6 (by kernel_rfl) (by rfl) zMC_one ?_)
     intro wz hrowZ hkz _
     go_wp2
     ((try simp only [Exit.inBlock, Exit.then]); refine bodyPost_ret (results_cell1 rfl _ _ w.heap.size _ _ _ _ rfl hrowZ Tryz.underlying37 rfl (by kernel_rfl)) rfl ?_)
     exact TakeW.no HB.out (hxw6.kept hkz (by intro k hk; simp at hk; omega))
    | inr dv =>
     rw [htk] at hq8
     obtain ⟨vD, rfl, hD8⟩ := hq8
     have hDr := hD8.low hszW
     obtain ⟨Ad, cd, rfl⟩ := hD8.form
     have HRi : Hid (rdR 1 s0 d0 q3 = .inr ({ (⟨1, nV 1 (cutQ 1 (some pl)), nV 1 (cutQ 1 (cutQ 1 (some pl))), ⟨nV 1 (cutQ 1 (cutQ 1 (cutQ 1 (some pl)))), nV 4 (cutQ 1 (cutQ 1 (cutQ 1 (cutQ 1 (some pl))))), nV 4 (cutQ 4 (cutQ 1 (cutQ 1 (cutQ 1 (cutQ 1 (some pl))))))⟩, ⟨nV 1 (cutQ 1 (cutQ 1 (cutQ 1 (some pl)))), nV 4 (cutQ 1 (cutQ 1 (cutQ 1 (cutQ 1 (some pl))))), nV 4 (cutQ 4 (cutQ 1 (cutQ 1 (cutQ 1 (cutQ 1 (some pl))))))⟩, liV 1 (cutQ 4 (cutQ 4 (cutQ 1 (cutQ 1 (cutQ 1 (cutQ 1 (some pl))))))), [], liV 4 (liQ 1 (cutQ 4 (cutQ 4 (cutQ 1 (cutQ 1 (cutQ 1 (cutQ 1 (some pl)))))))), 0, [], [], 0, 0, [], 0, [], 0, 0⟩ : Ml) with deeds := dv }, [])) := Lib.hid (by rw [HRR.out]; unfold rdO1; simp only [htk])
     obtain ⟨W9, hW9⟩ : ∃ x, x = W1.setCell ⟨D, 10, none⟩ (.slice Ad dv.length cd) := ⟨_, rfl⟩
     have hst := t1.set (k := 10) (mlC { (⟨1, nV 1 (cutQ 1 (some pl)), nV 1 (cutQ 1 (cutQ 1 (some pl))), ⟨nV 1 (cutQ 1 (cutQ 1 (cutQ 1 (some pl)))), nV 4 (cutQ 1 (cutQ 1 (cutQ 1 (cutQ 1 (some pl))))), nV 4 (cutQ 4 (cutQ 1 (cutQ 1 (cutQ 1 (cutQ 1 (some pl))))))⟩, ⟨nV 1 (cutQ 1 (cutQ 1 (cutQ 1 (some pl)))), nV 4 (cutQ 1 (cutQ 1 (cutQ 1 (cutQ 1 (some pl))))), nV 4 (cutQ 4 (cutQ 1 (cutQ 1 (cutQ 1 (cutQ 1 (some pl))))))⟩, liV 1 (cutQ 4 (cutQ 4 (cutQ 1 (cutQ 1 (cutQ 1 (cutQ 1 (some pl))))))), [], liV 4 (liQ 1 (cutQ 4 (cutQ 4 (cutQ 1 (cutQ 1 (cutQ 1 (cutQ 1 (some pl)))))))), 0, [], [], 0, 0, [], 0, [], 0, 0⟩ : Ml) with deeds := dv } (.slice Ap (liV 1 (cutQ 4 (cutQ 4 (cutQ 1 (cutQ 1 (cutQ 1 (cutQ 1 (some pl)))))))).length cp) (.slice Ad dv.length cd) (.slice Ae (liV 4 (liQ 1 (cutQ 4 (cutQ 4 (cutQ 1 (cutQ 1 (cutQ 1 (cutQ 1 (some pl))))))))).length ce) zS zS).toList rfl hW9
     have t9 := hst.1
     have hPr := hPr.off t1.d (by decide) hst.2
     have hEr := hEr.off t1.d (by decide) hst.2
     have hDr := hDr.offT t1.d (.inl rfl) hst.2
     have HW9 := hW9.symm
     obtain ⟨Ar9, cr9, hrow9, -, -⟩ := t9.r.2.2
     obtain ⟨R0, R1, RF⟩ := row2_at hrow9
     obtain ⟨W2, hW2⟩ : ∃ x, x = W9.setCell ⟨R, 0, none⟩ (.slice none 0 0) := ⟨_, rfl⟩
     have hsc := t9.clear hW2
     have t := hsc.1
     have hPr := hPr.off hrow9 (by decide) hsc.2
     have hEr := hEr.off hrow9 (by decide) hsc.2
     have hDr := hDr.offT hrow9 (.inr rfl) hsc.2
     have HW := hW2.symm
     have CK : W2.cell? ⟨D, 0, none⟩ = some (.int .i64 1) := t.cell 0 _ rfl
     have C2 := t.r.off
     rw [show (some ([] : By)).isNone = false from rfl] at C2
     obtain ⟨Ar2, cr2, hrow2, -, -⟩ := t.r.2.2
     obtain ⟨Q0, -, -⟩ := row2_at hrow2
     clear hst t1 t9 hsc hW2 hW9 hD8 hrow9 hrow2 HRR htk
     obtain ⟨r, hr⟩ : ∃ r : By, r = [] := ⟨_, rfl⟩
     obtain ⟨m, hm⟩ : ∃ m, m = { (⟨1, nV 1 (cutQ 1 (some pl)), nV 1 (cutQ 1 (cutQ 1 (some pl))), ⟨nV 1 (cutQ 1 (cutQ 1 (cutQ 1 (some pl)))), nV 4 (cutQ 1 (cutQ 1 (cutQ 1 (cutQ 1 (some pl))))), nV 4 (cutQ 4 (cutQ 1 (cutQ 1 (cutQ 1 (cutQ 1 (some pl))))))⟩, ⟨nV 1 (cutQ 1 (cutQ 1 (cutQ 1 (some pl)))), nV 4 (cutQ 1 (cutQ 1 (cutQ 1 (cutQ 1 (some pl))))), nV 4 (cutQ 4 (cutQ 1 (cutQ 1 (cutQ 1 (cutQ 1 (some pl))))))⟩, liV 1 (cutQ 4 (cutQ 4 (cutQ 1 (cutQ 1 (cutQ 1 (cutQ 1 (some pl))))))), [], liV 4 (liQ 1 (cutQ 4 (cutQ 4 (cutQ 1 (cutQ 1 (cutQ 1 (cutQ 1 (some pl)))))))), 0, [], [], 0, 0, [], 0, [], 0, 0⟩ : Ml) with deeds := dv } := ⟨_, rfl⟩
     have hrr : rdR 1 s0 d0 q3 = .inr (m, r) := by rw [HRi.out, hm, hr]
     have HT3 : Hid (takeT b = if r ≠ [] then .inl 4 else if checkM m ≠ 0 then .inl (checkM m) else .inr m) := Lib.hid (by rw [HT2.out, hrr])
     have hok := rdR_len hrr
     rw [← hr] at Q0
     obtain ⟨P_, D_, E_, N_, V_, hrows, ht⟩ : ∃ P D_ E N V, Rows W2 w.heap.size m P D_ E N V ∧ TM w1 R D (some r) (mlC m P D_ E N V).toList W2 := ⟨_, _, _, _, _, by rw [hm]; exact ⟨hPr, hDr, hEr, OwnI.nil _ _, Own.nil _ _⟩, by rw [hm, hr]; exact t⟩
     clear t HRi HT2 hrr hm
     have t := ht
     clear ht hr hPr hEr hDr
     go_wp2_with fail
     clear HW HW9 C F R0 R1 RF
     refine (HK3 _).mono ?_
     rintro e wq ⟨rfl, hwq⟩
     subst hwq
     by_cases hr0 : r = []
     ·subst hr0
      have HT4 := Lib.hid (HT3.out.trans (if_neg (by simp)))
      clear HT3
      obtain ⟨hP, hD, hE, hN_, hV⟩ := hrows
      obtain ⟨Ap, cp, hPe⟩ := hP.form
      obtain ⟨Ad, cd, hDe⟩ := hD.form
      obtain ⟨Ae, ce, hEe⟩ := hE.form
      obtain ⟨An, cn, hNe⟩ := hN_.form
      obtain ⟨Av2, cv2, hVe⟩ := hV.form
      have HCH := rCheck_own hP hD hE hN_ hV hok (hTb.ext (hx01.trans t.r.2.1))
      obtain ⟨mc, hmc⟩ : ∃ mc, mc = mlC m P_ D_ E_ N_ V_ := ⟨_, rfl⟩
      have h1c : mc.all (·.oneCell') = true := by rw [hmc, hPe, hDe, hEe, hNe, hVe]; simp [mlC, Value.oneCell']
      have hsz : (Tryz.prog.info? 37).map (·.size) = some mc.size := by rw [hmc]; kernel_rfl
      have hszz : zMC.size = mc.size := by rw [hmc]; rfl
      have hrd : W2.heap[D]? = some (.cells mc 37 (0, 0)) := by rw [hmc]; exact t.d
      have HROWS : Hid (Rows W2 w.heap.size m P_ D_ E_ N_ V_) := Lib.hid ⟨hP, hD, hE, hN_, hV⟩
      rw [← hmc] at HCH
      have HMC := Lib.hid hmc
      have hx12 := t.r.2.1
      clear hP hD hE hN_ hV hmc hPe hDe hEe hNe hVe t hok
      go_wp2_with (with_reducible refine sL 37 ?_)
      try clear HW
      refine go_on (wpList_load_row rfl 37 _ rfl D rfl 37 _ (0, 0) _ hrd Tryz.underlying37 rfl hsz ?_)
      go_wp2_with fail
      refine HCH.mono ?_
      rintro e W7 ⟨rfl, hx7⟩
      have hrT7 := (hx12.trans hx7).obj hrT1
      have hxw7 := hx01.trans (hx12.trans hx7)
      have hrd7 := hx7.obj hrd
      clear HCH
      by_cases hcm : checkM m = 0
      ·have HB := Lib.hid (HT4.out.trans (if_neg (by simp [hcm])))
       rw [hcm]
       clear HT4 hcm
       go_wp2_with (with_reducible refine sL 37 ?_)
       refine go_on (wpList_load_row rfl 37 _ rfl D rfl 37 _ (0, 0) _ hrd7 Tryz.underlying37 rfl hsz ?_)
       go_wp2_with (with_reducible first | refine sL 37 ?_ | refine sS 37 ?_ | refine sA 37 ?_ | refine sL 25 ?_ | refine sS 25 ?_)
       refine go_on (wpList_store_whole (c := zMC) rfl rfl rfl rfl hrT7 hsz hszz h1c ?_)
       intro W8 hrow8 hk8 _
       have HR8 := Lib.hid ((HROWS.out.ext hx7).off hrT7 hk8)
       clear HROWS hrd hrd7
       go_wp2
       ((try simp only [Exit.inBlock, Exit.then]); refine bodyPost_ret (results_cell1 rfl _ _ w.heap.size _ _ _ _ rfl hrow8 Tryz.underlying37 rfl hsz) rfl ?_)
       refine ⟨hxw7.kept hk8 (by intro k hk; simp at hk; omega), ?_⟩
       rw [HB.out]
       exact ⟨_, _, _, _, _, by rw [HMC.out]; rfl, HR8.out⟩
      ·have HB : Hid (takeT b = .inl (checkM m)) := Lib.hid (HT4.out.trans (if_pos hcm))
       have hc0 : (((checkM m : Nat) : Int) == 0) = false := by simpa using hcm
       generalize checkM m = z at *
       clear HT4 hcm HROWS hrd hrd7
       go_wp2_with (with_reducible refine sS 37 ?_)
       refine go_on (wpList_store_whole (c := zMC) (c' := zMC) rfl rfl rfl rfl hrT7 (by kernel_rfl) (by rfl) zMC_one ?_)
       intro wz hrowZ hkz _
       go_wp2
       ((try simp only [Exit.inBlock, Exit.then]); refine bodyPost_ret (results_cell1 rfl _ _ w.heap.size _ _ _ _ rfl hrowZ Tryz.underlying37 rfl (by kernel_rfl)) rfl ?_)
       exact TakeW.no HB.out (hxw7.kept hkz (by intro k hk; simp at hk; omega))
     ·have HB : Hid (takeT b = .inl 4) := Lib.hid (HT3.out.trans (if_pos hr0))
      have hl0 : (0 : Int) < (r.length : Int) := by have := List.length_pos_iff.2 hr0; omega
      have hrT6 := t.r.2.1.obj hrT1
      have hxw6 := hx01.trans t.r.2.1
      clear HT3 hrows t
      go_wp2_with (with_reducible refine sS 37 ?_)
      refine go_on (wpList_store_whole (c := zMC) (c' := zMC) rfl rfl rfl rfl hrT6 (by kernel_rfl) (by rfl) zMC_one ?_)
      intro wz hrowZ hkz _
      go_wp2
      ((try simp only [Exit.inBlock, Exit.then]); refine bodyPost_ret (results_cell1 rfl _ _ w.heap.size _ _ _ _ rfl hrowZ Tryz.underlying37 rfl (by kernel_rfl)) rfl ?_)
      exact TakeW.no HB.out (hxw6.kept hkz (by intro k hk; simp at hk; omega))
  ·
   have HK1 := fun W => rhasTx_any 2 W
   have HK2 := fun W => rhasN_any 2 W
   have HK3 := fun W => rhasVote_any 2 W
   rw [show kTx 2 = true from rfl] at HK1
   rw [show kN 2 = false from rfl] at HK2
   rw [show kVote 2 = true from rfl] at HK3
   go_wp2_with fail
   clear HW CK
   try clear C F
   refine (hN _ _ 1 (by omega) t.r).mono ?_
   rintro e W1 ⟨rfl, hr1, hk1⟩
   have t1 := t.step hr1 hk1
   obtain ⟨vrow, hrow⟩ := t.r.row
   clear t hr1 hk1 hrow
   have C : W1.cell? ⟨D, 1, none⟩ = some _ := t1.cell 1 _ rfl
   have F := t1.frz
   obtain ⟨W2, hW2⟩ : ∃ x, x = W1.setCell ⟨D, 1, none⟩ (.int .i64 (valB (cutV 1 (cutQ 1 (some pl))) : Nat)) := ⟨_, rfl⟩
   have hst := t1.set (k := 1) (mlC (⟨2, nV 1 (cutQ 1 (some pl)), 0, tx00, tx00, [], [], [], 0, [], [], 0, 0, [], 0, [], 0, 0⟩ : Ml) zS zS zS zS zS).toList rfl hW2
   have t := hst.1
   obtain ⟨vrow, hrow⟩ := t1.row
   have HW := hW2.symm
   have CK : W2.cell? ⟨D, 0, none⟩ = some (.int .i64 2) := t.cell 0 _ rfl
   clear hst hW2 t1 hrow
   go_wp2_with fail
   clear HW CK
   try clear C F
   refine (hN _ _ 1 (by omega) t.r).mono ?_
   rintro e W1 ⟨rfl, hr1, hk1⟩
   have t1 := t.step hr1 hk1
   obtain ⟨vrow, hrow⟩ := t.r.row
   clear t hr1 hk1 hrow
   have C : W1.cell? ⟨D, 2, none⟩ = some _ := t1.cell 2 _ rfl
   have F := t1.frz
   obtain ⟨W2, hW2⟩ : ∃ x, x = W1.setCell ⟨D, 2, none⟩ (.int .i64 (valB (cutV 1 (cutQ 1 (cutQ 1 (some pl)))) : Nat)) := ⟨_, rfl⟩
   have hst := t1.set (k := 2) (mlC (⟨2, nV 1 (cutQ 1 (some pl)), nV 1 (cutQ 1 (cutQ 1 (some pl))), tx00, tx00, [], [], [], 0, [], [], 0, 0, [], 0, [], 0, 0⟩ : Ml) zS zS zS zS zS).toList rfl hW2
   have t := hst.1
   obtain ⟨vrow, hrow⟩ := t1.row
   have HW := hW2.symm
   have CK : W2.cell? ⟨D, 0, none⟩ = some (.int .i64 2) := t.cell 0 _ rfl
   clear hst hW2 t1 hrow
   go_wp2_with fail
   refine (HK1 _).mono ?_
   rintro e wq ⟨rfl, hwq⟩
   subst hwq
   go_wp2_with fail
   clear HW CK
   try clear C F
   refine (hN _ _ 1 (by omega) t.r).mono ?_
   rintro e W1 ⟨rfl, hr1, hk1⟩
   have t1 := t.step hr1 hk1
   obtain ⟨vrow, hrow⟩ := t.r.row
   clear t hr1 hk1 hrow
   have C : W1.cell? ⟨D, 3, none⟩ = some _ := t1.cell 3 _ rfl
   have F := t1.frz
   obtain ⟨W2, hW2⟩ : ∃ x, x = W1.setCell ⟨D, 3, none⟩ (.int .i64 (valB (cutV 1 (cutQ 1 (cutQ 1 (cutQ 1 (some pl))))) : Nat)) := ⟨_, rfl⟩
   have hst := t1.set (k := 3) (mlC (⟨2, nV 1 (cutQ 1 (some pl)), nV 1 (cutQ 1 (cutQ 1 (some pl))), ⟨nV 1 (cutQ 1 (cutQ 1 (cutQ 1 (some pl)))), 0, 0⟩, tx00, [], [], [], 0, [], [], 0, 0, [], 0, [], 0, 0⟩ : Ml) zS zS zS zS zS).toList rfl hW2
   have t := hst.1
   obtain ⟨vrow, hrow⟩ := t1.row
   have HW := hW2.symm
   have CK : W2.cell? ⟨D, 0, none⟩ = some (.int .i64 2) := t.cell 0 _ rfl
   clear hst hW2 t1 hrow
   go_wp2_with fail
   clear HW CK
   try clear C F
   refine (hN _ _ 4 (by omega) t.r).mono ?_
   rintro e W1 ⟨rfl, hr1, hk1⟩
   have t1 := t.step hr1 hk1
   obtain ⟨vrow, hrow⟩ := t.r.row
   clear t hr1 hk1 hrow
   have C : W1.cell? ⟨D, 4, none⟩ = some _ := t1.cell 4 _ rfl
   have F := t1.frz
   obtain ⟨W2, hW2⟩ : ∃ x, x = W1.setCell ⟨D, 4, none⟩ (.int .i64 (valB (cutV 4 (cutQ 1 (cutQ 1 (cutQ 1 (cutQ 1 (some pl)))))) : Nat)) := ⟨_, rfl⟩
   have hst := t1.set (k := 4) (mlC (⟨2, nV 1 (cutQ 1 (some pl)), nV 1 (cutQ 1 (cutQ 1 (some pl))), ⟨nV 1 (cutQ 1 (cutQ 1 (cutQ 1 (some pl)))), nV 4 (cutQ 1 (cutQ 1 (cutQ 1 (cutQ 1 (some pl))))), 0⟩, tx00, [], [], [], 0, [], [], 0, 0, [], 0, [], 0, 0⟩ : Ml) zS zS zS zS zS).toList rfl hW2
   have t := hst.1
   obtain ⟨vrow, hrow⟩ := t1.row
   have HW := hW2.symm
   have CK : W2.cell? ⟨D, 0, none⟩ = some (.int .i64 2) := t.cell 0 _ rfl
   clear hst hW2 t1 hrow
   go_wp2_with fail
   clear HW CK
   try clear C F
   refine (hN _ _ 4 (by omega) t.r).mono ?_
   rintro e W1 ⟨rfl, hr1, hk1⟩
   have t1 := t.step hr1 hk1
   obtain ⟨vrow, hrow⟩ := t.r.row
   clear t hr1 hk1 hrow
   have C : W1.cell? ⟨D, 5, none⟩ = some _ := t1.cell 5 _ rfl
   have F := t1.frz
   obtain ⟨W2, hW2⟩ : ∃ x, x = W1.setCell ⟨D, 5, none⟩ (.int .i64 (valB (cutV 4 (cutQ 4 (cutQ 1 (cutQ 1 (cutQ 1 (cutQ 1 (some pl))))))) : Nat)) := ⟨_, rfl⟩
   have hst := t1.set (k := 5) (mlC (⟨2, nV 1 (cutQ 1 (some pl)), nV 1 (cutQ 1 (cutQ 1 (some pl))), ⟨nV 1 (cutQ 1 (cutQ 1 (cutQ 1 (some pl)))), nV 4 (cutQ 1 (cutQ 1 (cutQ 1 (cutQ 1 (some pl))))), nV 4 (cutQ 4 (cutQ 1 (cutQ 1 (cutQ 1 (cutQ 1 (some pl))))))⟩, tx00, [], [], [], 0, [], [], 0, 0, [], 0, [], 0, 0⟩ : Ml) zS zS zS zS zS).toList rfl hW2
   have t := hst.1
   obtain ⟨vrow, hrow⟩ := t1.row
   have HW := hW2.symm
   have CK : W2.cell? ⟨D, 0, none⟩ = some (.int .i64 2) := t.cell 0 _ rfl
   clear hst hW2 t1 hrow
   go_wp2_with fail
   refine (HK2 _).mono ?_
   rintro e wq ⟨rfl, hwq⟩
   subst hwq
   go_wp2_with fail
   refine (HK3 _).mono ?_
   rintro e wq ⟨rfl, hwq⟩
   subst hwq
   go_wp2_with fail
   clear HW CK
   try clear C F
   refine (hN _ _ 1 (by omega) t.r).mono ?_
   rintro e W1 ⟨rfl, hr1, hk1⟩
   have t1 := t.step hr1 hk1
   obtain ⟨vrow, hrow⟩ := t.r.row
   clear t hr1 hk1 hrow
   have C : W1.cell? ⟨D, 12, none⟩ = some _ := t1.cell 12 _ rfl
   have F := t1.frz
   obtain ⟨W2, hW2⟩ : ∃ x, x = W1.setCell ⟨D, 12, none⟩ (.int .i64 (valB (cutV 1 (cutQ 4 (cutQ 4 (cutQ 1 (cutQ 1 (cutQ 1 (cutQ 1 (some pl)))))))) : Nat)) := ⟨_, rfl⟩
   have hst := t1.set (k := 12) (mlC (⟨2, nV 1 (cutQ 1 (some pl)), nV 1 (cutQ 1 (cutQ 1 (some pl))), ⟨nV 1 (cutQ 1 (cutQ 1 (cutQ 1 (some pl)))), nV 4 (cutQ 1 (cutQ 1 (cutQ 1 (cutQ 1 (some pl))))), nV 4 (cutQ 4 (cutQ 1 (cutQ 1 (cutQ 1 (cutQ 1 (some pl))))))⟩, tx00, [], [], [], nV 1 (cutQ 4 (cutQ 4 (cutQ 1 (cutQ 1 (cutQ 1 (cutQ 1 (some pl))))))), [], [], 0, 0, [], 0, [], 0, 0⟩ : Ml) zS zS zS zS zS).toList rfl hW2
   have t := hst.1
   obtain ⟨vrow, hrow⟩ := t1.row
   have HW := hW2.symm
   have CK : W2.cell? ⟨D, 0, none⟩ = some (.int .i64 2) := t.cell 0 _ rfl
   clear hst hW2 t1 hrow
   go_wp2_with fail
   clear HW CK
   try clear C F
   refine (hL _ _ 4 (by omega) t.r).mono ?_
   rintro e W1 ⟨vl_, rfl, hov, hr1, hk1⟩
   have t1 := t.step hr1 hk1
   have hNr := hov.low (Nat.le_trans hx01.size t.r.2.1.size)
   obtain ⟨vrow, hrow⟩ := t.r.row
   clear t hr1 hk1 hrow
   obtain ⟨An, cn, rfl⟩ := hov.form
   clear hov
   have C : W1.cell? ⟨D, 13, none⟩ = some _ := t1.cell 13 _ rfl
   have F := t1.frz
   obtain ⟨W2, hW2⟩ : ∃ x, x = W1.setCell ⟨D, 13, none⟩ (.slice An (liV 4 (cutQ 1 (cutQ 4 (cutQ 4 (cutQ 1 (cutQ 1 (cutQ 1 (cutQ 1 (some pl))))))))).length cn) := ⟨_, rfl⟩
   have hst := t1.set (k := 13) (mlC (⟨2, nV 1 (cutQ 1 (some pl)), nV 1 (cutQ 1 (cutQ 1 (some pl))), ⟨nV 1 (cutQ 1 (cutQ 1 (cutQ 1 (some pl)))), nV 4 (cutQ 1 (cutQ 1 (cutQ 1 (cutQ 1 (some pl))))), nV 4 (cutQ 4 (cutQ 1 (cutQ 1 (cutQ 1 (cutQ 1 (some pl))))))⟩, tx00, [], [], [], nV 1 (cutQ 4 (cutQ 4 (cutQ 1 (cutQ 1 (cutQ 1 (cutQ 1 (some pl))))))), liV 4 (cutQ 1 (cutQ 4 (cutQ 4 (cutQ 1 (cutQ 1 (cutQ 1 (cutQ 1 (some pl)))))))), [], 0, 0, [], 0, [], 0, 0⟩ : Ml) zS zS zS (.slice An (liV 4 (cutQ 1 (cutQ 4 (cutQ 4 (cutQ 1 (cutQ 1 (cutQ 1 (cutQ 1 (some pl))))))))).length cn) zS).toList rfl hW2
   have t := hst.1
   obtain ⟨vrow, hrow⟩ := t1.row
   have hNr := hNr.off hrow (by decide) hst.2
   have HW := hW2.symm
   have CK : W2.cell? ⟨D, 0, none⟩ = some (.int .i64 2) := t.cell 0 _ rfl
   clear hst hW2 t1 hrow
   go_wp2_with fail
   clear HW CK C F
   refine (hN _ _ 1 (by omega) t.r).mono ?_
   rintro e W0 ⟨rfl, hr1, hk1⟩
   have t0 := t.step hr1 hk1
   obtain ⟨vrow, hrow⟩ := t.r.row
   have hNr := hNr.off hrow (by decide) hk1
   have hvc := valB_cut 1 (liQ 4 (cutQ 1 (cutQ 4 (cutQ 4 (cutQ 1 (cutQ 1 (cutQ 1 (cutQ 1 (some pl)))))))))
   clear t hr1 hk1 hrow
   go_wp2_with fail
   refine (hC _ _ (valB (cutV 1 (liQ 4 (cutQ 1 (cutQ 4 (cutQ 4 (cutQ 1 (cutQ 1 (cutQ 1 (cutQ 1 (some pl))))))))))) (by omega) t0.r).mono ?_
   rintro e W1 ⟨vb_, rfl, ho1, hr1, hk1⟩
   have t1 := t0.step hr1 hk1
   obtain ⟨vrow, hrow⟩ := t0.r.row
   have hNr := hNr.off hrow (by decide) hk1
   clear t0 hr1 hk1 hrow hvc
   obtain ⟨Ab_, cb_, rfl⟩ := ho1.form
   have s_ := run_str (P := Tryz.prog) Tryz.underlying22 Tryz.underlying5 Tryz.underlying9 ho1.bs _ cb_ rfl _ (Ext.refl _)
   clear ho1
   have C : W1.cell? ⟨D, 14, none⟩ = some _ := t1.cell 14 _ rfl
   have F := t1.frz
   obtain ⟨W2, hW2⟩ : ∃ x, x = W1.setCell ⟨D, 14, none⟩ (.string (st (shV (liQ 4 (cutQ 1 (cutQ 4 (cutQ 4 (cutQ 1 (cutQ 1 (cutQ 1 (cutQ 1 (some pl)))))))))))) := ⟨_, rfl⟩
   have hst := t1.set (k := 14) (mlC (⟨2, nV 1 (cutQ 1 (some pl)), nV 1 (cutQ 1 (cutQ 1 (some pl))), ⟨nV 1 (cutQ 1 (cutQ 1 (cutQ 1 (some pl)))), nV 4 (cutQ 1 (cutQ 1 (cutQ 1 (cutQ 1 (some pl))))), nV 4 (cutQ 4 (cutQ 1 (cutQ 1 (cutQ 1 (cutQ 1 (some pl))))))⟩, tx00, [], [], [], nV 1 (cutQ 4 (cutQ 4 (cutQ 1 (cutQ 1 (cutQ 1 (cutQ 1 (some pl))))))), liV 4 (cutQ 1 (cutQ 4 (cutQ 4 (cutQ 1 (cutQ 1 (cutQ 1 (cutQ 1 (some pl)))))))), shV (liQ 4 (cutQ 1 (cutQ 4 (cutQ 4 (cutQ 1 (cutQ 1 (cutQ 1 (cutQ 1 (some pl))))))))), 0, 0, [], 0, [], 0, 0⟩ : Ml) zS zS zS (.slice An (liV 4 (cutQ 1 (cutQ 4 (cutQ 4 (cutQ 1 (cutQ 1 (cutQ 1 (cutQ 1 (some pl))))))))).length cn) zS).toList rfl hW2
   have t := hst.1
   obtain ⟨vrow, hrow⟩ := t1.row
   have hNr := hNr.off hrow (by decide) hst.2
   have HW := hW2.symm
   have CK : W2.cell? ⟨D, 0, none⟩ = some (.int .i64 2) := t.cell 0 _ rfl
   clear hst hW2 t1 hrow
   have HW : W1.setCell ⟨D, 14, none⟩ (.string (st (cutV (valB (cutV 1 (liQ 4 (cutQ 1 (cutQ 4 (cutQ 4 (cutQ 1 (cutQ 1 (cutQ 1 (cutQ 1 (some pl))))))))))) (cutQ 1 (liQ 4 (cutQ 1 (cutQ 4 (cutQ 4 (cutQ 1 (cutQ 1 (cutQ 1 (cutQ 1 (some pl))))))))))))) = W2 := HW
   have t : TM w1 R D (shQ (liQ 4 (cutQ 1 (cutQ 4 (cutQ 4 (cutQ 1 (cutQ 1 (cutQ 1 (cutQ 1 (some pl)))))))))) (mlC (⟨2, nV 1 (cutQ 1 (some pl)), nV 1 (cutQ 1 (cutQ 1 (some pl))), ⟨nV 1 (cutQ 1 (cutQ 1 (cutQ 1 (some pl)))), nV 4 (cutQ 1 (cutQ 1 (cutQ 1 (cutQ 1 (some pl))))), nV 4 (cutQ 4 (cutQ 1 (cutQ 1 (cutQ 1 (cutQ 1 (some pl))))))⟩, tx00, [], [], [], nV 1 (cutQ 4 (cutQ 4 (cutQ 1 (cutQ 1 (cutQ 1 (cutQ 1 (some pl))))))), liV 4 (cutQ 1 (cutQ 4 (cutQ 4 (cutQ 1 (cutQ 1 (cutQ 1 (cutQ 1 (some pl)))))))), shV (liQ 4 (cutQ 1 (cutQ 4 (cutQ 4 (cutQ 1 (cutQ 1 (cutQ 1 (cutQ 1 (some pl))))))))), 0, 0, [], 0, [], 0, 0⟩ : Ml) zS zS zS (.slice An (liV 4 (cutQ 1 (cutQ 4 (cutQ 4 (cutQ 1 (cutQ 1 (cutQ 1 (cutQ 1 (some pl))))))))).length cn) zS).toList W2 := t
   go_wp2_with fail
   clear HW CK
   try clear C F
   refine (hN _ _ 1 (by omega) t.r).mono ?_
   rintro e W1 ⟨rfl, hr1, hk1⟩
   have t1 := t.step hr1 hk1
   obtain ⟨vrow, hrow⟩ := t.r.row
   have hNr := hNr.off hrow (by decide) hk1
   clear t hr1 hk1 hrow
   have C : W1.cell? ⟨D, 15, none⟩ = some _ := t1.cell 15 _ rfl
   have F := t1.frz
   obtain ⟨W2, hW2⟩ : ∃ x, x = W1.setCell ⟨D, 15, none⟩ (.int .i64 (valB (cutV 1 (shQ (liQ 4 (cutQ 1 (cutQ 4 (cutQ 4 (cutQ 1 (cutQ 1 (cutQ 1 (cutQ 1 (some pl))))))))))) : Nat)) := ⟨_, rfl⟩
   have hst := t1.set (k := 15) (mlC (⟨2, nV 1 (cutQ 1 (some pl)), nV 1 (cutQ 1 (cutQ 1 (some pl))), ⟨nV 1 (cutQ 1 (cutQ 1 (cutQ 1 (some pl)))), nV 4 (cutQ 1 (cutQ 1 (cutQ 1 (cutQ 1 (some pl))))), nV 4 (cutQ 4 (cutQ 1 (cutQ 1 (cutQ 1 (cutQ 1 (some pl))))))⟩, tx00, [], [], [], nV 1 (cutQ 4 (cutQ 4 (cutQ 1 (cutQ 1 (cutQ 1 (cutQ 1 (some pl))))))), liV 4 (cutQ 1 (cutQ 4 (cutQ 4 (cutQ 1 (cutQ 1 (cutQ 1 (cutQ 1 (some pl)))))))), shV (liQ 4 (cutQ 1 (cutQ 4 (cutQ 4 (cutQ 1 (cutQ 1 (cutQ 1 (cutQ 1 (some pl))))))))), nV 1 (shQ (liQ 4 (cutQ 1 (cutQ 4 (cutQ 4 (cutQ 1 (cutQ 1 (cutQ 1 (cutQ 1 (some pl)))))))))), 0, [], 0, [], 0, 0⟩ : Ml) zS zS zS (.slice An (liV 4 (cutQ 1 (cutQ 4 (cutQ 4 (cutQ 1 (cutQ 1 (cutQ 1 (cutQ 1 (some pl))))))))).length cn) zS).toList rfl hW2
   have t := hst.1
   obtain ⟨vrow, hrow⟩ := t1.row
   have hNr := hNr.off hrow (by decide) hst.2
   have HW := hW2.symm
   have CK : W2.cell? ⟨D, 0, none⟩ = some (.int .i64 2) := t.cell 0 _ rfl
   clear hst hW2 t1 hrow
   go_wp2_with fail
   clear HW CK
   try clear C F
   refine (hN _ _ 4 (by omega) t.r).mono ?_
   rintro e W1 ⟨rfl, hr1, hk1⟩
   have t1 := t.step hr1 hk1
   obtain ⟨vrow, hrow⟩ := t.r.row
   have hNr := hNr.off hrow (by decide) hk1
   clear t hr1 hk1 hrow
   have C : W1.cell? ⟨D, 16, none⟩ = some _ := t1.cell 16 _ rfl
   have F := t1.frz
   obtain ⟨W2, hW2⟩ : ∃ x, x = W1.setCell ⟨D, 16, none⟩ (.int .i64 (valB (cutV 4 (cutQ 1 (shQ (liQ 4 (cutQ 1 (cutQ 4 (cutQ 4 (cutQ 1 (cutQ 1 (cutQ 1 (cutQ 1 (some pl)))))))))))) : Nat)) := ⟨_, rfl⟩
   have hst := t1.set (k := 16) (mlC (⟨2, nV 1 (cutQ 1 (some pl)), nV 1 (cutQ 1 (cutQ 1 (some pl))), ⟨nV 1 (cutQ 1 (cutQ 1 (cutQ 1 (some pl)))), nV 4 (cutQ 1 (cutQ 1 (cutQ 1 (cutQ 1 (some pl))))), nV 4 (cutQ 4 (cutQ 1 (cutQ 1 (cutQ 1 (cutQ 1 (some pl))))))⟩, tx00, [], [], [], nV 1 (cutQ 4 (cutQ 4 (cutQ 1 (cutQ 1 (cutQ 1 (cutQ 1 (some pl))))))), liV 4 (cutQ 1 (cutQ 4 (cutQ 4 (cutQ 1 (cutQ 1 (cutQ 1 (cutQ 1 (some pl)))))))), shV (liQ 4 (cutQ 1 (cutQ 4 (cutQ 4 (cutQ 1 (cutQ 1 (cutQ 1 (cutQ 1 (some pl))))))))), nV 1 (shQ (liQ 4 (cutQ 1 (cutQ 4 (cutQ 4 (cutQ 1 (cutQ 1 (cutQ 1 (cutQ 1 (some pl)))))))))), nV 4 (cutQ 1 (shQ (liQ 4 (cutQ 1 (cutQ 4 (cutQ 4 (cutQ 1 (cutQ 1 (cutQ 1 (cutQ 1 (some pl))))))))))), [], 0, [], 0, 0⟩ : Ml) zS zS zS (.slice An (liV 4 (cutQ 1 (cutQ 4 (cutQ 4 (cutQ 1 (cutQ 1 (cutQ 1 (cutQ 1 (some pl))))))))).length cn) zS).toList rfl hW2
   have t := hst.1
   obtain ⟨vrow, hrow⟩ := t1.row
   have hNr := hNr.off hrow (by decide) hst.2
   have HW := hW2.symm
   have CK : W2.cell? ⟨D, 0, none⟩ = some (.int .i64 2) := t.cell 0 _ rfl
   clear hst hW2 t1 hrow
   go_wp2_with fail
   clear HW CK C F
   refine (hN _ _ 2 (by omega) t.r).mono ?_
   rintro e W0 ⟨rfl, hr1, hk1⟩
   have t0 := t.step hr1 hk1
   obtain ⟨vrow, hrow⟩ := t.r.row
   have hNr := hNr.off hrow (by decide) hk1
   have hvc := valB_cut 2 (cutQ 4 (cutQ 1 (shQ (liQ 4 (cutQ 1 (cutQ 4 (cutQ 4 (cutQ 1 (cutQ 1 (cutQ 1 (cutQ 1 (some pl))))))))))))
   clear t hr1 hk1 hrow
   go_wp2_with fail
   refine (hC _ _ (valB (cutV 2 (cutQ 4 (cutQ 1 (shQ (liQ 4 (cutQ 1 (cutQ 4 (cutQ 4 (cutQ 1 (cutQ 1 (cutQ 1 (cutQ 1 (some pl)))))))))))))) (by omega) t0.r).mono ?_
   rintro e W1 ⟨vb_, rfl, ho1, hr1, hk1⟩
   have t1 := t0.step hr1 hk1
   have hVb := ho1.low (Nat.le_trans hx01.size t0.r.2.1.size)
   obtain ⟨vrow, hrow⟩ := t0.r.row
   have hNr := hNr.off hrow (by decide) hk1
   clear t0 hr1 hk1 hrow hvc
   obtain ⟨Av, cv, rfl⟩ := ho1.form
   clear ho1
   have C : W1.cell? ⟨D, 17, none⟩ = some _ := t1.cell 17 _ rfl
   have F := t1.frz
   obtain ⟨W2, hW2⟩ : ∃ x, x = W1.setCell ⟨D, 17, none⟩ (.slice Av (loV (cutQ 4 (cutQ 1 (shQ (liQ 4 (cutQ 1 (cutQ 4 (cutQ 4 (cutQ 1 (cutQ 1 (cutQ 1 (cutQ 1 (some pl))))))))))))).length cv) := ⟨_, rfl⟩
   have hst := t1.set (k := 17) (mlC (⟨2, nV 1 (cutQ 1 (some pl)), nV 1 (cutQ 1 (cutQ 1 (some pl))), ⟨nV 1 (cutQ 1 (cutQ 1 (cutQ 1 (some pl)))), nV 4 (cutQ 1 (cutQ 1 (cutQ 1 (cutQ 1 (some pl))))), nV 4 (cutQ 4 (cutQ 1 (cutQ 1 (cutQ 1 (cutQ 1 (some pl))))))⟩, tx00, [], [], [], nV 1 (cutQ 4 (cutQ 4 (cutQ 1 (cutQ 1 (cutQ 1 (cutQ 1 (some pl))))))), liV 4 (cutQ 1 (cutQ 4 (cutQ 4 (cutQ 1 (cutQ 1 (cutQ 1 (cutQ 1 (some pl)))))))), shV (liQ 4 (cutQ 1 (cutQ 4 (cutQ 4 (cutQ 1 (cutQ 1 (cutQ 1 (cutQ 1 (some pl))))))))), nV 1 (shQ (liQ 4 (cutQ 1 (cutQ 4 (cutQ 4 (cutQ 1 (cutQ 1 (cutQ 1 (cutQ 1 (some pl)))))))))), nV 4 (cutQ 1 (shQ (liQ 4 (cutQ 1 (cutQ 4 (cutQ 4 (cutQ 1 (cutQ 1 (cutQ 1 (cutQ 1 (some pl))))))))))), loV (cutQ 4 (cutQ 1 (shQ (liQ 4 (cutQ 1 (cutQ 4 (cutQ 4 (cutQ 1 (cutQ 1 (cutQ 1 (cutQ 1 (some pl)))))))))))), 0, [], 0, 0⟩ : Ml) zS zS zS (.slice An (liV 4 (cutQ 1 (cutQ 4 (cutQ 4 (cutQ 1 (cutQ 1 (cutQ 1 (cutQ 1 (some pl))))))))).length cn) (.slice Av (loV (cutQ 4 (cutQ 1 (shQ (liQ 4 (cutQ 1 (cutQ 4 (cutQ 4 (cutQ 1 (cutQ 1 (cutQ 1 (cutQ 1 (some pl))))))))))))).length cv)).toList rfl hW2
   have t := hst.1
   obtain ⟨vrow, hrow⟩ := t1.row
   have hNr := hNr.off hrow (by decide) hst.2
   have hVb := Own.off hVb hrow (by decide) hst.2
   have HW := hW2.symm
   have CK : W2.cell? ⟨D, 0, none⟩ = some (.int .i64 2) := t.cell 0 _ rfl
   clear hst hW2 t1 hrow
   have HW : W1.setCell ⟨D, 17, none⟩ (.slice Av (cutV (valB (cutV 2 (cutQ 4 (cutQ 1 (shQ (liQ 4 (cutQ 1 (cutQ 4 (cutQ 4 (cutQ 1 (cutQ 1 (cutQ 1 (cutQ 1 (some pl)))))))))))))) (cutQ 2 (cutQ 4 (cutQ 1 (shQ (liQ 4 (cutQ 1 (cutQ 4 (cutQ 4 (cutQ 1 (cutQ 1 (cutQ 1 (cutQ 1 (some pl)))))))))))))).length cv) = W2 := HW
   obtain ⟨qe, hqe, hte⟩ : ∃ qe, qe = loQ (cutQ 4 (cutQ 1 (shQ (liQ 4 (cutQ 1 (cutQ 4 (cutQ 4 (cutQ 1 (cutQ 1 (cutQ 1 (cutQ 1 (some pl)))))))))))) ∧ TM w1 R D qe (mlC (⟨2, nV 1 (cutQ 1 (some pl)), nV 1 (cutQ 1 (cutQ 1 (some pl))), ⟨nV 1 (cutQ 1 (cutQ 1 (cutQ 1 (some pl)))), nV 4 (cutQ 1 (cutQ 1 (cutQ 1 (cutQ 1 (some pl))))), nV 4 (cutQ 4 (cutQ 1 (cutQ 1 (cutQ 1 (cutQ 1 (some pl))))))⟩, tx00, [], [], [], nV 1 (cutQ 4 (cutQ 4 (cutQ 1 (cutQ 1 (cutQ 1 (cutQ 1 (some pl))))))), liV 4 (cutQ 1 (cutQ 4 (cutQ 4 (cutQ 1 (cutQ 1 (cutQ 1 (cutQ 1 (some pl)))))))), shV (liQ 4 (cutQ 1 (cutQ 4 (cutQ 4 (cutQ 1 (cutQ 1 (cutQ 1 (cutQ 1 (some pl))))))))), nV 1 (shQ (liQ 4 (cutQ 1 (cutQ 4 (cutQ 4 (cutQ 1 (cutQ 1 (cutQ 1 (cutQ 1 (some pl)))))))))), nV 4 (cutQ 1 (shQ (liQ 4 (cutQ 1 (cutQ 4 (cutQ 4 (cutQ 1 (cutQ 1 (cutQ 1 (cutQ 1 (some pl))))))))))), loV (cutQ 4 (cutQ 1 (shQ (liQ 4 (cutQ 1 (cutQ 4 (cutQ 4 (cutQ 1 (cutQ 1 (cutQ 1 (cutQ 1 (some pl)))))))))))), 0, [], 0, 0⟩ : Ml) zS zS zS (.slice An (liV 4 (cutQ 1 (cutQ 4 (cutQ 4 (cutQ 1 (cutQ 1 (cutQ 1 (cutQ 1 (some pl))))))))).length cn) (.slice Av (loV (cutQ 4 (cutQ 1 (shQ (liQ 4 (cutQ 1 (cutQ 4 (cutQ 4 (cutQ 1 (cutQ 1 (cutQ 1 (cutQ 1 (some pl))))))))))))).length cv)).toList W2 := ⟨_, rfl, t⟩
   have HRR : Hid (rdR 2 s0 d0 q3 = rdO (⟨2, nV 1 (cutQ 1 (some pl)), nV 1 (cutQ 1 (cutQ 1 (some pl))), ⟨nV 1 (cutQ 1 (cutQ 1 (cutQ 1 (some pl)))), nV 4 (cutQ 1 (cutQ 1 (cutQ 1 (cutQ 1 (some pl))))), nV 4 (cutQ 4 (cutQ 1 (cutQ 1 (cutQ 1 (cutQ 1 (some pl))))))⟩, tx00, [], [], [], nV 1 (cutQ 4 (cutQ 4 (cutQ 1 (cutQ 1 (cutQ 1 (cutQ 1 (some pl))))))), liV 4 (cutQ 1 (cutQ 4 (cutQ 4 (cutQ 1 (cutQ 1 (cutQ 1 (cutQ 1 (some pl)))))))), shV (liQ 4 (cutQ 1 (cutQ 4 (cutQ 4 (cutQ 1 (cutQ 1 (cutQ 1 (cutQ 1 (some pl))))))))), nV 1 (shQ (liQ 4 (cutQ 1 (cutQ 4 (cutQ 4 (cutQ 1 (cutQ 1 (cutQ 1 (cutQ 1 (some pl)))))))))), nV 4 (cutQ 1 (shQ (liQ 4 (cutQ 1 (cutQ 4 (cutQ 4 (cutQ 1 (cutQ 1 (cutQ 1 (cutQ 1 (some pl))))))))))), loV (cutQ 4 (cutQ 1 (shQ (liQ 4 (cutQ 1 (cutQ 4 (cutQ 4 (cutQ 1 (cutQ 1 (cutQ 1 (cutQ 1 (some pl)))))))))))), 0, [], 0, 0⟩ : Ml) qe) := Lib.hid (by rw [hqe, HS0.out, HD0.out, HQ3.out]; rfl)
   clear t hqe
   cases qe with
   | none =>
    have HB : Hid (takeT b = .inl 3) := Lib.hid (by rw [HT2.out, HRR.out]; rfl)
    have C1 := hte.r.off
    rw [show (none : Option By).isNone = true from rfl] at C1
    have hrT6 := hte.r.2.1.obj hrT1
    have hxw6 := hx01.trans hte.r.2.1
    clear HRR hte HT2
    go_wp2_with (with_reducible refine sS 37 ?_)
    refine go_on (wpList_store_whole (c := zMC) (c' := zMC) rfl rfl rfl rfl hrT6 (by kernel_rfl) (by rfl) zMC_one ?_)
    intro wz hrowZ hkz _
    go_wp2
    ((try simp only [Exit.inBlock, Exit.then]); refine bodyPost_ret (results_cell1 rfl _ _ w.heap.size _ _ _ _ rfl hrowZ Tryz.underlying37 rfl (by kernel_rfl)) rfl ?_)
    exact TakeW.no HB.out (hxw6.kept hkz (by intro k hk; simp at hk; omega))
   | some r =>
    have C1 := hte.r.off
    rw [show (some r : Option By).isNone = false from rfl] at C1
    obtain ⟨Ar, cr, hrowR, -, -⟩ := hte.r.2.2
    obtain ⟨R0, -, -⟩ := row2_at hrowR
    have t := hte
    obtain ⟨m, hm⟩ : ∃ m, m = (⟨2, nV 1 (cutQ 1 (some pl)), nV 1 (cutQ 1 (cutQ 1 (some pl))), ⟨nV 1 (cutQ 1 (cutQ 1 (cutQ 1 (some pl)))), nV 4 (cutQ 1 (cutQ 1 (cutQ 1 (cutQ 1 (some pl))))), nV 4 (cutQ 4 (cutQ 1 (cutQ 1 (cutQ 1 (cutQ 1 (some pl))))))⟩, tx00, [], [], [], nV 1 (cutQ 4 (cutQ 4 (cutQ 1 (cutQ 1 (cutQ 1 (cutQ 1 (some pl))))))), liV 4 (cutQ 1 (cutQ 4 (cutQ 4 (cutQ 1 (cutQ 1 (cutQ 1 (cutQ 1 (some pl)))))))), shV (liQ 4 (cutQ 1 (cutQ 4 (cutQ 4 (cutQ 1 (cutQ 1 (cutQ 1 (cutQ 1 (some pl))))))))), nV 1 (shQ (liQ 4 (cutQ 1 (cutQ 4 (cutQ 4 (cutQ 1 (cutQ 1 (cutQ 1 (cutQ 1 (some pl)))))))))), nV 4 (cutQ 1 (shQ (liQ 4 (cutQ 1 (cutQ 4 (cutQ 4 (cutQ 1 (cutQ 1 (cutQ 1 (cutQ 1 (some pl))))))))))), loV (cutQ 4 (cutQ 1 (shQ (liQ 4 (cutQ 1 (cutQ 4 (cutQ 4 (cutQ 1 (cutQ 1 (cutQ 1 (cutQ 1 (some pl)))))))))))), 0, [], 0, 0⟩ : Ml) := ⟨_, rfl⟩
    have hrr : rdR 2 s0 d0 q3 = .inr (m, r) := by rw [HRR.out, hm]; rfl
    have HT3 : Hid (takeT b = if r ≠ [] then .inl 4 else if checkM m ≠ 0 then .inl (checkM m) else .inr m) := Lib.hid (by rw [HT2.out, hrr])
    have hok := rdR_len hrr
    obtain ⟨P_, D_, E_, N_, V_, hrows, ht⟩ : ∃ P D_ E N V, Rows W2 w.heap.size m P D_ E N V ∧ TM w1 R D (some r) (mlC m P D_ E N V).toList W2 := ⟨_, _, _, _, _, by rw [hm]; exact ⟨OwnI.nil _ _, OwnDs.nil0 _ _, OwnI.nil _ _, hNr, hVb⟩, by rw [hm]; exact t⟩
    clear t hte HRR HT2 hrr hm hrowR
    have t := ht
    clear ht
    by_cases hr0 : r = []
    ·subst hr0
     have HT4 := Lib.hid (HT3.out.trans (if_neg (by simp)))
     clear HT3
     obtain ⟨hP, hD, hE, hN_, hV⟩ := hrows
     obtain ⟨Ap, cp, hPe⟩ := hP.form
     obtain ⟨Ad, cd, hDe⟩ := hD.form
     obtain ⟨Ae, ce, hEe⟩ := hE.form
     obtain ⟨An, cn, hNe⟩ := hN_.form
     obtain ⟨Av2, cv2, hVe⟩ := hV.form
     have HCH := rCheck_own hP hD hE hN_ hV hok (hTb.ext (hx01.trans t.r.2.1))
     obtain ⟨mc, hmc⟩ : ∃ mc, mc = mlC m P_ D_ E_ N_ V_ := ⟨_, rfl⟩
     have h1c : mc.all (·.oneCell') = true := by rw [hmc, hPe, hDe, hEe, hNe, hVe]; simp [mlC, Value.oneCell']
     have hsz : (Tryz.prog.info? 37).map (·.size) = some mc.size := by rw [hmc]; kernel_rfl
     have hszz : zMC.size = mc.size := by rw [hmc]; rfl
     have hrd : W2.heap[D]? = some (.cells mc 37 (0, 0)) := by rw [hmc]; exact t.d
     have HROWS : Hid (Rows W2 w.heap.size m P_ D_ E_ N_ V_) := Lib.hid ⟨hP, hD, hE, hN_, hV⟩
     rw [← hmc] at HCH
     have HMC := Lib.hid hmc
     have hx12 := t.r.2.1
     clear hP hD hE hN_ hV hmc hPe hDe hEe hNe hVe t hok
     go_wp2_with (with_reducible refine sL 37 ?_)
     try clear HW
     refine go_on (wpList_load_row rfl 37 _ rfl D rfl 37 _ (0, 0) _ hrd Tryz.underlying37 rfl hsz ?_)
     go_wp2_with fail
     refine HCH.mono ?_
     rintro e W7 ⟨rfl, hx7⟩
     have hrT7 := (hx12.trans hx7).obj hrT1
     have hxw7 := hx01.trans (hx12.trans hx7)
     have hrd7 := hx7.obj hrd
     clear HCH
     by_cases hcm : checkM m = 0
     ·have HB := Lib.hid (HT4.out.trans (if_neg (by simp [hcm])))
      rw [hcm]
      clear HT4 hcm
      go_wp2_with (with_reducible refine sL 37 ?_)
      refine go_on (wpList_load_row rfl 37 _ rfl D rfl 37 _ (0, 0) _ hrd7 Tryz.underlying37 rfl hsz ?_)
      go_wp2_with (with_reducible first | refine sL 37 ?_ | refine sS 37 ?_ | refine sA 37 ?_ | refine sL 25 ?_ | refine sS 25 ?_)
      refine go_on (wpList_store_whole (c := zMC) rfl rfl rfl rfl hrT7 hsz hszz h1c ?_)
      intro W8 hrow8 hk8 _
      have HR8 := Lib.hid ((HROWS.out.ext hx7).off hrT7 hk8)
      clear HROWS hrd hrd7
      go_wp2
      ((try simp only [Exit.inBlock, Exit.then]); refine bodyPost_ret (results_cell1 rfl _ _ w.heap.size _ _ _ _ rfl hrow8 Tryz.underlying37 rfl hsz) rfl ?_)
      refine ⟨hxw7.kept hk8 (by intro k hk; simp at hk; omega), ?_⟩
      rw [HB.out]
      exact ⟨_, _, _, _, _, by rw [HMC.out]; rfl, HR8.out⟩
     ·have HB : Hid (takeT b = .inl (checkM m)) := Lib.hid (HT4.out.trans (if_pos hcm))
      have hc0 : (((checkM m : Nat) : Int) == 0) = false := by simpa using hcm
      generalize checkM m = z at *
      clear HT4 hcm HROWS hrd hrd7
      go_wp2_with (with_reducible refine sS 37 ?_)
      refine go_on (wpList_store_whole (c := zMC) (c' := zMC) rfl rfl rfl rfl hrT7 (by kernel_rfl) (by rfl) zMC_one ?_)
      intro wz hrowZ hkz _
      go_wp2
      ((try simp only [Exit.inBlock, Exit.then]); refine bodyPost_ret (results_cell1 rfl _ _ w.heap.size _ _ _ _ rfl hrowZ Tryz.underlying37 rfl (by kernel_rfl)) rfl ?_)
      exact TakeW.no HB.out (hxw7.kept hkz (by intro k hk; simp at hk; omega))
    ·have HB : Hid (takeT b = .inl 4) := Lib.hid (HT3.out.trans (if_pos hr0))
     have hl0 : (0 : Int) < (r.length : Int) := by have := List.length_pos_iff.2 hr0; omega
     have hrT6 := t.r.2.1.obj hrT1
     have hxw6 := hx01.trans t.r.2.1
     clear HT3 hrows t
     go_wp2_with (with_reducible refine sS 37 ?_)
     refine go_on (wpList_store_whole (c := zMC) (c' := zMC) rfl rfl rfl rfl hrT6 (by kernel_rfl) (by rfl) zMC_one ?_)
     intro wz hrowZ hkz _
     go_wp2
     ((try simp only [Exit.inBlock, Exit.then]); refine bodyPost_ret (results_cell1 rfl _ _ w.heap.size _ _ _ _ rfl hrowZ Tryz.underlying37 rfl (by kernel_rfl)) rfl ?_)
     exact TakeW.no HB.out (hxw6.kept hkz (by intro k hk; simp at hk; omega))
  ·
   have HK1 := fun W => rhasTx_any 3 W
   have HK2 := fun W => rhasN_any 3 W
   have HK3 := fun W => rhasVote_any 3 W
   rw [show kTx 3 = true from rfl] at HK1
   rw [show kN 3 = false from rfl] at HK2
   rw [show kVote 3 = false from rfl] at HK3
   go_wp2_with fail
   clear HW CK
   try clear C F
   refine (hN _ _ 1 (by omega) t.r).mono ?_
   rintro e W1 ⟨rfl, hr1, hk1⟩
   have t1 := t.step hr1 hk1
   obtain ⟨vrow, hrow⟩ := t.r.row
   clear t hr1 hk1 hrow
   have C : W1.cell? ⟨D, 1, none⟩ = some _ := t1.cell 1 _ rfl
   have F := t1.frz
   obtain ⟨W2, hW2⟩ : ∃ x, x = W1.setCell ⟨D, 1, none⟩ (.int .i64 (valB (cutV 1 (cutQ 1 (some pl))) : Nat)) := ⟨_, rfl⟩
   have hst := t1.set (k := 1) (mlC (⟨3, nV 1 (cutQ 1 (some pl)), 0, tx00, tx00, [], [], [], 0, [], [], 0, 0, [], 0, [], 0, 0⟩ : Ml) zS zS zS zS zS).toList rfl hW2
   have t := hst.1
   obtain ⟨vrow, hrow⟩ := t1.row
   have HW := hW2.symm
   have CK : W2.cell? ⟨D, 0, none⟩ = some (.int .i64 3) := t.cell 0 _ rfl
   clear hst hW2 t1 hrow
   go_wp2_with fail
   clear HW CK
   try clear C F
   refine (hN _ _ 1 (by omega) t.r).mono ?_
   rintro e W1 ⟨rfl, hr1, hk1⟩
   have t1 := t.step hr1 hk1
   obtain ⟨vrow, hrow⟩ := t.r.row
   clear t hr1 hk1 hrow
   have C : W1.cell? ⟨D, 2, none⟩ = some _ := t1.cell 2 _ rfl
   have F := t1.frz
   obtain ⟨W2, hW2⟩ : ∃ x, x = W1.setCell ⟨D, 2, none⟩ (.int .i64 (valB (cutV 1 (cutQ 1 (cutQ 1 (some pl)))) : Nat)) := ⟨_, rfl⟩
   have hst := t1.set (k := 2) (mlC (⟨3, nV 1 (cutQ 1 (some pl)), nV 1 (cutQ 1 (cutQ 1 (some pl))), tx00, tx00, [], [], [], 0, [], [], 0, 0, [], 0, [], 0, 0⟩ : Ml) zS zS zS zS zS).toList rfl hW2
   have t := hst.1
   obtain ⟨vrow, hrow⟩ := t1.row
   have HW := hW2.symm
   have CK : W2.cell? ⟨D, 0, none⟩ = some (.int .i64 3) := t.cell 0 _ rfl
   clear hst hW2 t1 hrow
   go_wp2_with fail
   refine (HK1 _).mono ?_
   rintro e wq ⟨rfl, hwq⟩
   subst hwq
   go_wp2_with fail
   clear HW CK
   try clear C F
   refine (hN _ _ 1 (by omega) t.r).mono ?_
   rintro e W1 ⟨rfl, hr1, hk1⟩
   have t1 := t.step hr1 hk1
   obtain ⟨vrow, hrow⟩ := t.r.row
   clear t hr1 hk1 hrow
   have C : W1.cell? ⟨D, 3, none⟩ = some _ := t1.cell 3 _ rfl
   have F := t1.frz
   obtain ⟨W2, hW2⟩ : ∃ x, x = W1.setCell ⟨D, 3, none⟩ (.int .i64 (valB (cutV 1 (cutQ 1 (cutQ 1 (cutQ 1 (some pl))))) : Nat)) := ⟨_, rfl⟩
   have hst := t1.set (k := 3) (mlC (⟨3, nV 1 (cutQ 1 (some pl)), nV 1 (cutQ 1 (cutQ 1 (some pl))), ⟨nV 1 (cutQ 1 (cutQ 1 (cutQ 1 (some pl)))), 0, 0⟩, tx00, [], [], [], 0, [], [], 0, 0, [], 0, [], 0, 0⟩ : Ml) zS zS zS zS zS).toList rfl hW2
   have t := hst.1
   obtain ⟨vrow, hrow⟩ := t1.row
   have HW := hW2.symm
   have CK : W2.cell? ⟨D, 0, none⟩ = some (.int .i64 3) := t.cell 0 _ rfl
   clear hst hW2 t1 hrow
   go_wp2_with fail
   clear HW CK
   try clear C F
   refine (hN _ _ 4 (by omega) t.r).mono ?_
   rintro e W1 ⟨rfl, hr1, hk1⟩
   have t1 := t.step hr1 hk1
   obtain ⟨vrow, hrow⟩ := t.r.row
   clear t hr1 hk1 hrow
   have C : W1.cell? ⟨D, 4, none⟩ = some _ := t1.cell 4 _ rfl
   have F := t1.frz
   obtain ⟨W2, hW2⟩ : ∃ x, x = W1.setCell ⟨D, 4, none⟩ (.int .i64 (valB (cutV 4 (cutQ 1 (cutQ 1 (cutQ 1 (cutQ 1 (some pl)))))) : Nat)) := ⟨_, rfl⟩
   have hst := t1.set (k := 4) (mlC (⟨3, nV 1 (cutQ 1 (some pl)), nV 1 (cutQ 1 (cutQ 1 (some pl))), ⟨nV 1 (cutQ 1 (cutQ 1 (cutQ 1 (some pl)))), nV 4 (cutQ 1 (cutQ 1 (cutQ 1 (cutQ 1 (some pl))))), 0⟩, tx00, [], [], [], 0, [], [], 0, 0, [], 0, [], 0, 0⟩ : Ml) zS zS zS zS zS).toList rfl hW2
   have t := hst.1
   obtain ⟨vrow, hrow⟩ := t1.row
   have HW := hW2.symm
   have CK : W2.cell? ⟨D, 0, none⟩ = some (.int .i64 3) := t.cell 0 _ rfl
   clear hst hW2 t1 hrow
   go_wp2_with fail
   clear HW CK
   try clear C F
   refine (hN _ _ 4 (by omega) t.r).mono ?_
   rintro e W1 ⟨rfl, hr1, hk1⟩
   have t1 := t.step hr1 hk1
   obtain ⟨vrow, hrow⟩ := t.r.row
   clear t hr1 hk1 hrow
   have C : W1.cell? ⟨D, 5, none⟩ = some _ := t1.cell 5 _ rfl
   have F := t1.frz
   obtain ⟨W2, hW2⟩ : ∃ x, x = W1.setCell ⟨D, 5, none⟩ (.int .i64 (valB (cutV 4 (cutQ 4 (cutQ 1 (cutQ 1 (cutQ 1 (cutQ 1 (some pl))))))) : Nat)) := ⟨_, rfl⟩
   have hst := t1.set (k := 5) (mlC (⟨3, nV 1 (cutQ 1 (some pl)), nV 1 (cutQ 1 (cutQ 1 (some pl))), ⟨nV 1 (cutQ 1 (cutQ 1 (cutQ 1 (some pl)))), nV 4 (cutQ 1 (cutQ 1 (cutQ 1 (cutQ 1 (some pl))))), nV 4 (cutQ 4 (cutQ 1 (cutQ 1 (cutQ 1 (cutQ 1 (some pl))))))⟩, tx00, [], [], [], 0, [], [], 0, 0, [], 0, [], 0, 0⟩ : Ml) zS zS zS zS zS).toList rfl hW2
   have t := hst.1
   obtain ⟨vrow, hrow⟩ := t1.row
   have HW := hW2.symm
   have CK : W2.cell? ⟨D, 0, none⟩ = some (.int .i64 3) := t.cell 0 _ rfl
   clear hst hW2 t1 hrow
   go_wp2_with fail
   refine (HK2 _).mono ?_
   rintro e wq ⟨rfl, hwq⟩
   subst hwq
   go_wp2_with fail
   refine (HK3 _).mono ?_
   rintro e wq ⟨rfl, hwq⟩
   subst hwq
   go_wp2_with fail
   clear HW CK
   try clear C F
   refine (hN _ _ 1 (by omega) t.r).mono ?_
   rintro e W1 ⟨rfl, hr1, hk1⟩
   have t1 := t.step hr1 hk1
   obtain ⟨vrow, hrow⟩ := t.r.row
   clear t hr1 hk1 hrow
   have C : W1.cell? ⟨D, 18, none⟩ = some _ := t1.cell 18 _ rfl
   have F := t1.frz
   obtain ⟨W2, hW2⟩ : ∃ x, x = W1.setCell ⟨D, 18, none⟩ (.int .i64 (valB (cutV 1 (cutQ 4 (cutQ 4 (cutQ 1 (cutQ 1 (cutQ 1 (cutQ 1 (some pl)))))))) : Nat)) := ⟨_, rfl⟩
   have hst := t1.set (k := 18) (mlC (⟨3, nV 1 (cutQ 1 (some pl)), nV 1 (cutQ 1 (cutQ 1 (some pl))), ⟨nV 1 (cutQ 1 (cutQ 1 (cutQ 1 (some pl)))), nV 4 (cutQ 1 (cutQ 1 (cutQ 1 (cutQ 1 (some pl))))), nV 4 (cutQ 4 (cutQ 1 (cutQ 1 (cutQ 1 (cutQ 1 (some pl))))))⟩, tx00, [], [], [], 0, [], [], 0, 0, [], nV 1 (cutQ 4 (cutQ 4 (cutQ 1 (cutQ 1 (cutQ 1 (cutQ 1 (some pl))))))), [], 0, 0⟩ : Ml) zS zS zS zS zS).toList rfl hW2
   have t := hst.1
   obtain ⟨vrow, hrow⟩ := t1.row
   have HW := hW2.symm
   have CK : W2.cell? ⟨D, 0, none⟩ = some (.int .i64 3) := t.cell 0 _ rfl
   clear hst hW2 t1 hrow
   obtain ⟨qe, hqe, hte⟩ : ∃ qe, qe = cutQ 1 (cutQ 4 (cutQ 4 (cutQ 1 (cutQ 1 (cutQ 1 (cutQ 1 (some pl))))))) ∧ TM w1 R D qe (mlC (⟨3, nV 1 (cutQ 1 (some pl)), nV 1 (cutQ 1 (cutQ 1 (some pl))), ⟨nV 1 (cutQ 1 (cutQ 1 (cutQ 1 (some pl)))), nV 4 (cutQ 1 (cutQ 1 (cutQ 1 (cutQ 1 (some pl))))), nV 4 (cutQ 4 (cutQ 1 (cutQ 1 (cutQ 1 (cutQ 1 (some pl))))))⟩, tx00, [], [], [], 0, [], [], 0, 0, [], nV 1 (cutQ 4 (cutQ 4 (cutQ 1 (cutQ 1 (cutQ 1 (cutQ 1 (some pl))))))), [], 0, 0⟩ : Ml) zS zS zS zS zS).toList W2 := ⟨_, rfl, t⟩
   have HRR : Hid (rdR 3 s0 d0 q3 = rdO (⟨3, nV 1 (cutQ 1 (some pl)), nV 1 (cutQ 1 (cutQ 1 (some pl))), ⟨nV 1 (cutQ 1 (cutQ 1 (cutQ 1 (some pl)))), nV 4 (cutQ 1 (cutQ 1 (cutQ 1 (cutQ 1 (some pl))))), nV 4 (cutQ 4 (cutQ 1 (cutQ 1 (cutQ 1 (cutQ 1 (some pl))))))⟩, tx00, [], [], [], 0, [], [], 0, 0, [], nV 1 (cutQ 4 (cutQ 4 (cutQ 1 (cutQ 1 (cutQ 1 (cutQ 1 (some pl))))))), [], 0, 0⟩ : Ml) qe) := Lib.hid (by rw [hqe, HS0.out, HD0.out, HQ3.out]; rfl)
   clear t hqe
   cases qe with
   | none =>
    have HB : Hid (takeT b = .inl 3) := Lib.hid (by rw [HT2.out, HRR.out]; rfl)
    have C1 := hte.r.off
    rw [show (none : Option By).isNone = true from rfl] at C1
    have hrT6 := hte.r.2.1.obj hrT1
    have hxw6 := hx01.trans hte.r.2.1
    clear HRR hte HT2
    go_wp2_with (with_reducible refine sS 37 ?_)
    refine go_on (wpList_store_whole (c := zMC) (c' := zMC) rfl rfl rfl rfl hrT6 (by kernel_rfl) (by rfl) zMC_one ?_)
    intro wz hrowZ hkz _
    go_wp2
    ((try simp only [Exit.inBlock, Exit.then]); refine bodyPost_ret (results_cell1 rfl _ _ w.heap.size _ _ _ _ rfl hrowZ Tryz.underlying37 rfl (by kernel_rfl)) rfl ?_)
    exact TakeW.no HB.out (hxw6.kept hkz (by intro k hk; simp at hk; omega))
   | some r =>
    have C1 := hte.r.off
    rw [show (some r : Option By).isNone = false from rfl] at C1
    obtain ⟨Ar, cr, hrowR, -, -⟩ := hte.r.2.2
    obtain ⟨R0, -, -⟩ := row2_at hrowR
    have t := hte
    obtain ⟨m, hm⟩ : ∃ m, m = (⟨3, nV 1 (cutQ 1 (some pl)), nV 1 (cutQ 1 (cutQ 1 (some pl))), ⟨nV 1 (cutQ 1 (cutQ 1 (cutQ 1 (some pl)))), nV 4 (cutQ 1 (cutQ 1 (cutQ 1 (cutQ 1 (some pl))))), nV 4 (cutQ 4 (cutQ 1 (cutQ 1 (cutQ 1 (cutQ 1 (some pl))))))⟩, tx00, [], [], [], 0, [], [], 0, 0, [], nV 1 (cutQ 4 (cutQ 4 (cutQ 1 (cutQ 1 (cutQ 1 (cutQ 1 (some pl))))))), [], 0, 0⟩ : Ml) := ⟨_, rfl⟩
    have hrr : rdR 3 s0 d0 q3 = .inr (m, r) := by rw [HRR.out, hm]; rfl
    have HT3 : Hid (takeT b = if r ≠ [] then .inl 4 else if checkM m ≠ 0 then .inl (checkM m) else .inr m) := Lib.hid (by rw [HT2.out, hrr])
    have hok := rdR_len hrr
    obtain ⟨P_, D_, E_, N_, V_, hrows, ht⟩ : ∃ P D_ E N V, Rows W2 w.heap.size m P D_ E N V ∧ TM w1 R D (some r) (mlC m P D_ E N V).toList W2 := ⟨_, _, _, _, _, by rw [hm]; exact ⟨OwnI.nil _ _, OwnDs.nil0 _ _, OwnI.nil _ _, OwnI.nil _ _, Own.nil _ _⟩, by rw [hm]; exact t⟩
    clear t hte HRR HT2 hrr hm hrowR
    have t := ht
    clear ht
    by_cases hr0 : r = []
    ·subst hr0
     have HT4 := Lib.hid (HT3.out.trans (if_neg (by simp)))
     clear HT3
     obtain ⟨hP, hD, hE, hN_, hV⟩ := hrows
     obtain ⟨Ap, cp, hPe⟩ := hP.form
     obtain ⟨Ad, cd, hDe⟩ := hD.form
     obtain ⟨Ae, ce, hEe⟩ := hE.form
     obtain ⟨An, cn, hNe⟩ := hN_.form
     obtain ⟨Av2, cv2, hVe⟩ := hV.form
     have HCH := rCheck_own hP hD hE hN_ hV hok (hTb.ext (hx01.trans t.r.2.1))
     obtain ⟨mc, hmc⟩ : ∃ mc, mc = mlC m P_ D_ E_ N_ V_ := ⟨_, rfl⟩
     have h1c : mc.all (·.oneCell') = true := by rw [hmc, hPe, hDe, hEe, hNe, hVe]; simp [mlC, Value.oneCell']
     have hsz : (Tryz.prog.info? 37).map (·.size) = some mc.size := by rw [hmc]; kernel_rfl
     have hszz : zMC.size = mc.size := by rw [hmc]; rfl
     have hrd : W2.heap[D]? = some (.cells mc 37 (0, 0)) := by rw [hmc]; exact t.d
     have HROWS : Hid (Rows W2 w.heap.size m P_ D_ E_ N_ V_) := Lib.hid ⟨hP, hD, hE, hN_, hV⟩
     rw [← hmc] at HCH
     have HMC := Lib.hid hmc
     have hx12 := t.r.2.1
     clear hP hD hE hN_ hV hmc hPe hDe hEe hNe hVe t hok
     go_wp2_with (with_reducible refine sL 37 ?_)
     try clear HW
     refine go_on (wpList_load_row rfl 37 _ rfl D rfl 37 _ (0, 0) _ hrd Tryz.underlying37 rfl hsz ?_)
     go_wp2_with fail
     refine HCH.mono ?_
     rintro e W7 ⟨rfl, hx7⟩
     have hrT7 := (hx12.trans hx7).obj hrT1
     have hxw7 := hx01.trans (hx12.trans hx7)
     have hrd7 := hx7.obj hrd
     clear HCH
     by_cases hcm : checkM m = 0
     ·have HB := Lib.hid (HT4.out.trans (if_neg (by simp [hcm])))
      rw [hcm]
      clear HT4 hcm
      go_wp2_with (with_reducible refine sL 37 ?_)
      refine go_on (wpList_load_row rfl 37 _ rfl D rfl 37 _ (0, 0) _ hrd7 Tryz.underlying37 rfl hsz ?_)
      go_wp2_with (with_reducible first | refine sL 37 ?_ | refine sS 37 ?_ | refine sA 37 ?_ | refine sL 25 ?_ | refine sS 25 ?_)
      refine go_on (wpList_store_whole (c := zMC) rfl rfl rfl rfl hrT7 hsz hszz h1c ?_)
      intro W8 hrow8 hk8 _
      have HR8 := Lib.hid ((HROWS.out.ext hx7).off hrT7 hk8)
      clear HROWS hrd hrd7
      go_wp2
      ((try simp only [Exit.inBlock, Exit.then]); refine bodyPost_ret (results_cell1 rfl _ _ w.heap.size _ _ _ _ rfl hrow8 Tryz.underlying37 rfl hsz) rfl ?_)
      refine ⟨hxw7.kept hk8 (by intro k hk; simp at hk; omega), ?_⟩
      rw [HB.out]
      exact ⟨_, _, _, _, _, by rw [HMC.out]; rfl, HR8.out⟩
     ·have HB : Hid (takeT b = .inl (checkM m)) := Lib.hid (HT4.out.trans (if_pos hcm))
      have hc0 : (((checkM m : Nat) : Int) == 0) = false := by simpa using hcm
      generalize checkM m = z at *
      clear HT4 hcm HROWS hrd hrd7
      go_wp2_with (with_reducible refine sS 37 ?_)
      refine go_on (wpList_store_whole (c := zMC) (c' := zMC) rfl rfl rfl rfl hrT7 (by kernel_rfl) (by rfl) zMC_one ?_)
      intro wz hrowZ hkz _
      go_wp2
      ((try simp only [Exit.inBlock, Exit.then]); refine bodyPost_ret (results_cell1 rfl _ _ w.heap.size _ _ _ _ rfl hrowZ Tryz.underlying37 rfl (by kernel_rfl)) rfl ?_)
      exact TakeW.no HB.out (hxw7.kept hkz (by intro k hk; simp at hk; omega))
    ·have HB : Hid (takeT b = .inl 4) := Lib.hid (HT3.out.trans (if_pos hr0))
     have hl0 : (0 : Int) < (r.length : Int) := by have := List.length_pos_iff.2 hr0; omega
     have hrT6 := t.r.2.1.obj hrT1
     have hxw6 := hx01.trans t.r.2.1
     clear HT3 hrows t
     go_wp2_with (with_reducible refine sS 37 ?_)
     refine go_on (wpList_store_whole (c := zMC) (c' := zMC) rfl rfl rfl rfl hrT6 (by kernel_rfl) (by rfl) zMC_one ?_)
     intro wz hrowZ hkz _
     go_wp2
     ((try simp only [Exit.inBlock, Exit.then]); refine bodyPost_ret (results_cell1 rfl _ _ w.heap.size _ _ _ _ rfl hrowZ Tryz.underlying37 rfl (by kernel_rfl)) rfl ?_)
     exact TakeW.no HB.out (hxw6.kept hkz (by intro k hk; simp at hk; omega))
  ·
   have HK1 := fun W => rhasTx_any 4 W
   have HK2 := fun W => rhasN_any 4 W
   have HK3 := fun W => rhasVote_any 4 W
   rw [show kTx 4 = true from rfl] at HK1
   rw [show kN 4 = false from rfl] at HK2
   rw [show kVote 4 = false from rfl] at HK3
   go_wp2_with fail
   clear HW CK
   try clear C F
   refine (hN _ _ 1 (by omega) t.r).mono ?_
   rintro e W1 ⟨rfl, hr1, hk1⟩
   have t1 := t.step hr1 hk1
   obtain ⟨vrow, hrow⟩ := t.r.row
   clear t hr1 hk1 hrow
   have C : W1.cell? ⟨D, 1, none⟩ = some _ := t1.cell 1 _ rfl
   have F := t1.frz
   obtain ⟨W2, hW2⟩ : ∃ x, x = W1.setCell ⟨D, 1, none⟩ (.int .i64 (valB (cutV 1 (cutQ 1 (some pl))) : Nat)) := ⟨_, rfl⟩
   have hst := t1.set (k := 1) (mlC (⟨4, nV 1 (cutQ 1 (some pl)), 0, tx00, tx00, [], [], [], 0, [], [], 0, 0, [], 0, [], 0, 0⟩ : Ml) zS zS zS zS zS).toList rfl hW2
   have t := hst.1
   obtain ⟨vrow, hrow⟩ := t1.row
   have HW := hW2.symm
   have CK : W2.cell? ⟨D, 0, none⟩ = some (.int .i64 4) := t.cell 0 _ rfl
   clear hst hW2 t1 hrow
   go_wp2_with fail
   clear HW CK
   try clear C F
   refine (hN _ _ 1 (by omega) t.r).mono ?_
   rintro e W1 ⟨rfl, hr1, hk1⟩
   have t1 := t.step hr1 hk1
   obtain ⟨vrow, hrow⟩ := t.r.row
   clear t hr1 hk1 hrow
   have C : W1.cell? ⟨D, 2, none⟩ = some _ := t1.cell 2 _ rfl
   have F := t1.frz
   obtain ⟨W2, hW2⟩ : ∃ x, x = W1.setCell ⟨D, 2, none⟩ (.int .i64 (valB (cutV 1 (cutQ 1 (cutQ 1 (some pl)))) : Nat)) := ⟨_, rfl⟩
   have hst := t1.set (k := 2) (mlC (⟨4, nV 1 (cutQ 1 (some pl)), nV 1 (cutQ 1 (cutQ 1 (some pl))), tx00, tx00, [], [], [], 0, [], [], 0, 0, [], 0, [], 0, 0⟩ : Ml) zS zS zS zS zS).toList rfl hW2
   have t := hst.1
   obtain ⟨vrow, hrow⟩ := t1.row
   have HW := hW2.symm
   have CK : W2.cell? ⟨D, 0, none⟩ = some (.int .i64 4) := t.cell 0 _ rfl
   clear hst hW2 t1 hrow
   go_wp2_with fail
   refine (HK1 _).mono ?_
   rintro e wq ⟨rfl, hwq⟩
   subst hwq
   go_wp2_with fail
   clear HW CK
   try clear C F
   refine (hN _ _ 1 (by omega) t.r).mono ?_
   rintro e W1 ⟨rfl, hr1, hk1⟩
   have t1 := t.step hr1 hk1
   obtain ⟨vrow, hrow⟩ := t.r.row
   clear t hr1 hk1 hrow
   have C : W1.cell? ⟨D, 3, none⟩ = some _ := t1.cell 3 _ rfl
   have F := t1.frz
   obtain ⟨W2, hW2⟩ : ∃ x, x = W1.setCell ⟨D, 3, none⟩ (.int .i64 (valB (cutV 1 (cutQ 1 (cutQ 1 (cutQ 1 (some pl))))) : Nat)) := ⟨_, rfl⟩
   have hst := t1.set (k := 3) (mlC (⟨4, nV 1 (cutQ 1 (some pl)), nV 1 (cutQ 1 (cutQ 1 (some pl))), ⟨nV 1 (cutQ 1 (cutQ 1 (cutQ 1 (some pl)))), 0, 0⟩, tx00, [], [], [], 0, [], [], 0, 0, [], 0, [], 0, 0⟩ : Ml) zS zS zS zS zS).toList rfl hW2
   have t := hst.1
   obtain ⟨vrow, hrow⟩ := t1.row
   have HW := hW2.symm
   have CK : W2.cell? ⟨D, 0, none⟩ = some (.int .i64 4) := t.cell 0 _ rfl
   clear hst hW2 t1 hrow
   go_wp2_with fail
   clear HW CK
   try clear C F
   refine (hN _ _ 4 (by omega) t.r).mono ?_
   rintro e W1 ⟨rfl, hr1, hk1⟩
   have t1 := t.step hr1 hk1
   obtain ⟨vrow, hrow⟩ := t.r.row
   clear t hr1 hk1 hrow
   have C : W1.cell? ⟨D, 4, none⟩ = some _ := t1.cell 4 _ rfl
   have F := t1.frz
   obtain ⟨W2, hW2⟩ : ∃ x, x = W1.setCell ⟨D, 4, none⟩ (.int .i64 (valB (cutV 4 (cutQ 1 (cutQ 1 (cutQ 1 (cutQ 1 (some pl)))))) : Nat)) := ⟨_, rfl⟩
   have hst := t1.set (k := 4) (mlC (⟨4, nV 1 (cutQ 1 (some pl)), nV 1 (cutQ 1 (cutQ 1 (some pl))), ⟨nV 1 (cutQ 1 (cutQ 1 (cutQ 1 (some pl)))), nV 4 (cutQ 1 (cutQ 1 (cutQ 1 (cutQ 1 (some pl))))), 0⟩, tx00, [], [], [], 0, [], [], 0, 0, [], 0, [], 0, 0⟩ : Ml) zS zS zS zS zS).toList rfl hW2
   have t := hst.1
   obtain ⟨vrow, hrow⟩ := t1.row
   have HW := hW2.symm
   have CK : W2.cell? ⟨D, 0, none⟩ = some (.int .i64 4) := t.cell 0 _ rfl
   clear hst hW2 t1 hrow
   go_wp2_with fail
   clear HW CK
   try clear C F
   refine (hN _ _ 4 (by omega) t.r).mono ?_
   rintro e W1 ⟨rfl, hr1, hk1⟩
   have t1 := t.step hr1 hk1
   obtain ⟨vrow, hrow⟩ := t.r.row
   clear t hr1 hk1 hrow
   have C : W1.cell? ⟨D, 5, none⟩ = some _ := t1.cell 5 _ rfl
   have F := t1.frz
   obtain ⟨W2, hW2⟩ : ∃ x, x = W1.setCell ⟨D, 5, none⟩ (.int .i64 (valB (cutV 4 (cutQ 4 (cutQ 1 (cutQ 1 (cutQ 1 (cutQ 1 (some pl))))))) : Nat)) := ⟨_, rfl⟩
   have hst := t1.set (k := 5) (mlC (⟨4, nV 1 (cutQ 1 (some pl)), nV 1 (cutQ 1 (cutQ 1 (some pl))), ⟨nV 1 (cutQ 1 (cutQ 1 (cutQ 1 (some pl)))), nV 4 (cutQ 1 (cutQ 1 (cutQ 1 (cutQ 1 (some pl))))), nV 4 (cutQ 4 (cutQ 1 (cutQ 1 (cutQ 1 (cutQ 1 (some pl))))))⟩, tx00, [], [], [], 0, [], [], 0, 0, [], 0, [], 0, 0⟩ : Ml) zS zS zS zS zS).toList rfl hW2
   have t := hst.1
   obtain ⟨vrow, hrow⟩ := t1.row
   have HW := hW2.symm
   have CK : W2.cell? ⟨D, 0, none⟩ = some (.int .i64 4) := t.cell 0 _ rfl
   clear hst hW2 t1 hrow
   go_wp2_with fail
   refine (HK2 _).mono ?_
   rintro e wq ⟨rfl, hwq⟩
   subst hwq
   go_wp2_with fail
   refine (HK3 _).mono ?_
   rintro e wq ⟨rfl, hwq⟩
   subst hwq
   obtain ⟨qe, hqe, hte⟩ : ∃ qe, qe = cutQ 4 (cutQ 4 (cutQ 1 (cutQ 1 (cutQ 1 (cutQ 1 (some pl)))))) ∧ TM w1 R D qe (mlC (⟨4, nV 1 (cutQ 1 (some pl)), nV 1 (cutQ 1 (cutQ 1 (some pl))), ⟨nV 1 (cutQ 1 (cutQ 1 (cutQ 1 (some pl)))), nV 4 (cutQ 1 (cutQ 1 (cutQ 1 (cutQ 1 (some pl))))), nV 4 (cutQ 4 (cutQ 1 (cutQ 1 (cutQ 1 (cutQ 1 (some pl))))))⟩, tx00, [], [], [], 0, [], [], 0, 0, [], 0, [], 0, 0⟩ : Ml) zS zS zS zS zS).toList W2 := ⟨_, rfl, t⟩
   have HRR : Hid (rdR 4 s0 d0 q3 = rdO (⟨4, nV 1 (cutQ 1 (some pl)), nV 1 (cutQ 1 (cutQ 1 (some pl))), ⟨nV 1 (cutQ 1 (cutQ 1 (cutQ 1 (some pl)))), nV 4 (cutQ 1 (cutQ 1 (cutQ 1 (cutQ 1 (some pl))))), nV 4 (cutQ 4 (cutQ 1 (cutQ 1 (cutQ 1 (cutQ 1 (some pl))))))⟩, tx00, [], [], [], 0, [], [], 0, 0, [], 0, [], 0, 0⟩ : Ml) qe) := Lib.hid (by rw [hqe, HS0.out, HD0.out, HQ3.out]; rfl)
   clear t hqe
   cases qe with
   | none =>
    have HB : Hid (takeT b = .inl 3) := Lib.hid (by rw [HT2.out, HRR.out]; rfl)
    have C1 := hte.r.off
    rw [show (none : Option By).isNone = true from rfl] at C1
    have hrT6 := hte.r.2.1.obj hrT1
    have hxw6 := hx01.trans hte.r.2.1
    clear HRR hte HT2
    go_wp2_with (with_reducible refine sS 37 ?_)
    refine go_on (wpList_store_whole (c := zMC) (c' := zMC) rfl rfl rfl rfl hrT6 (by kernel_rfl) (by rfl) zMC_one ?_)
    intro wz hrowZ hkz _
    go_wp2
    ((try simp only [Exit.inBlock, Exit.then]); refine bodyPost_ret (results_cell1 rfl _ _ w.heap.size _ _ _ _ rfl hrowZ Tryz.underlying37 rfl (by kernel_rfl)) rfl ?_)
    exact TakeW.no HB.out (hxw6.kept hkz (by intro k hk; simp at hk; omega))
   | some r =>
    have C1 := hte.r.off
    rw [show (some r : Option By).isNone = false from rfl] at C1
    obtain ⟨Ar, cr, hrowR, -, -⟩ := hte.r.2.2
    obtain ⟨R0, -, -⟩ := row2_at hrowR
    have t := hte
    obtain ⟨m, hm⟩ : ∃ m, m = (⟨4, nV 1 (cutQ 1 (some pl)), nV 1 (cutQ 1 (cutQ 1 (some pl))), ⟨nV 1 (cutQ 1 (cutQ 1 (cutQ 1 (some pl)))), nV 4 (cutQ 1 (cutQ 1 (cutQ 1 (cutQ 1 (some pl))))), nV 4 (cutQ 4 (cutQ 1 (cutQ 1 (cutQ 1 (cutQ 1 (some pl))))))⟩, tx00, [], [], [], 0, [], [], 0, 0, [], 0, [], 0, 0⟩ : Ml) := ⟨_, rfl⟩
    have hrr : rdR 4 s0 d0 q3 = .inr (m, r) := by rw [HRR.out, hm]; rfl
    have HT3 : Hid (takeT b = if r ≠ [] then .inl 4 else if checkM m ≠ 0 then .inl (checkM m) else .inr m) := Lib.hid (by rw [HT2.out, hrr])
    have hok := rdR_len hrr
    obtain ⟨P_, D_, E_, N_, V_, hrows, ht⟩ : ∃ P D_ E N V, Rows W2 w.heap.size m P D_ E N V ∧ TM w1 R D (some r) (mlC m P D_ E N V).toList W2 := ⟨_, _, _, _, _, by rw [hm]; exact ⟨OwnI.nil _ _, OwnDs.nil0 _ _, OwnI.nil _ _, OwnI.nil _ _, Own.nil _ _⟩, by rw [hm]; exact t⟩
    clear t hte HRR HT2 hrr hm hrowR
    have t := ht
    clear ht
    by_cases hr0 : r = []
    ·subst hr0
     have HT4 := Lib.hid (HT3.out.trans (if_neg (by simp)))
     clear HT3
     obtain ⟨hP, hD, hE, hN_, hV⟩ := hrows
     obtain ⟨Ap, cp, hPe⟩ := hP.form
     obtain ⟨Ad, cd, hDe⟩ := hD.form
     obtain ⟨Ae, ce, hEe⟩ := hE.form
     obtain ⟨An, cn, hNe⟩ := hN_.form
     obtain ⟨Av2, cv2, hVe⟩ := hV.form
     have HCH := rCheck_own hP hD hE hN_ hV hok (hTb.ext (hx01.trans t.r.2.1))
     obtain ⟨mc, hmc⟩ : ∃ mc, mc = mlC m P_ D_ E_ N_ V_ := ⟨_, rfl⟩
     have h1c : mc.all (·.oneCell') = true := by rw [hmc, hPe, hDe, hEe, hNe, hVe]; simp [mlC, Value.oneCell']
     have hsz : (Tryz.prog.info? 37).map (·.size) = some mc.size := by rw [hmc]; kernel_rfl
     have hszz : zMC.size = mc.size := by rw [hmc]; rfl
     have hrd : W2.heap[D]? = some (.cells mc 37 (0, 0)) := by rw [hmc]; exact t.d
     have HROWS : Hid (Rows W2 w.heap.size m P_ D_ E_ N_ V_) := Lib.hid ⟨hP, hD, hE, hN_, hV⟩
     rw [← hmc] at HCH
     have HMC := Lib.hid hmc
     have hx12 := t.r.2.1
     clear hP hD hE hN_ hV hmc hPe hDe hEe hNe hVe t hok
     go_wp2_with (with_reducible refine sL 37 ?_)
     try clear HW
     refine go_on (wpList_load_row rfl 37 _ rfl D rfl 37 _ (0, 0) _ hrd Tryz.underlying37 rfl hsz ?_)
     go_wp2_with fail
     refine HCH.mono ?_
     rintro e W7 ⟨rfl, hx7⟩
     have hrT7 := (hx12.trans hx7).obj hrT1
     have hxw7 := hx01.trans (hx12.trans hx7)
     have hrd7 := hx7.obj hrd
     clear HCH
     by_cases hcm : checkM m = 0
     ·have HB := Lib.hid (HT4.out.trans (if_neg (by simp [hcm])))
      rw [hcm]
      clear HT4 hcm
      go_wp2_with (with_reducible refine sL 37 ?_)
      refine go_on (wpList_load_row rfl 37 _ rfl D rfl 37 _ (0, 0) _ hrd7 Tryz.underlying37 rfl hsz ?_)
      go_wp2_with (with_reducible first | refine sL 37 ?_ | refine sS 37 ?_ | refine sA 37 ?_ | refine sL 25 ?_ | refine sS 25 ?_)
      refine go_on (wpList_store_whole (c := zMC) rfl rfl rfl rfl hrT7 hsz hszz h1c ?_)
      intro W8 hrow8 hk8 _
      have HR8 := Lib.hid ((HROWS.out.ext hx7).off hrT7 hk8)
      clear HROWS hrd hrd7
      go_wp2
      ((try simp only [Exit.inBlock, Exit.then]); refine bodyPost_ret (results_cell1 rfl _ _ w.heap.size _ _ _ _ rfl hrow8 Tryz.underlying37 rfl hsz) rfl ?_)
      refine ⟨hxw7.kept hk8 (by intro k hk; simp at hk; omega), ?_⟩
      rw [HB.out]
      exact ⟨_, _, _, _, _, by rw [HMC.out]; rfl, HR8.out⟩
     ·have HB : Hid (takeT b = .inl (checkM m)) := Lib.hid (HT4.out.trans (if_pos hcm))
      have hc0 : (((checkM m : Nat) : Int) == 0) = false := by simpa using hcm
      generalize checkM m = z at *
      clear HT4 hcm HROWS hrd hrd7
      go_wp2_with (with_reducible refine sS 37 ?_)
      refine go_on (wpList_store_whole (c := zMC) (c' := zMC) rfl rfl rfl rfl hrT7 (by kernel_rfl) (by rfl) zMC_one ?_)
      intro wz hrowZ hkz _
      go_wp2
      ((try simp only [Exit.inBlock, Exit.then]); refine bodyPost_ret (results_cell1 rfl _ _ w.heap.size _ _ _ _ rfl hrowZ Tryz.underlying37 rfl (by kernel_rfl)) rfl ?_)
      exact TakeW.no HB.out (hxw7.kept hkz (by intro k hk; simp at hk; omega))
    ·have HB : Hid (takeT b = .inl 4) := Lib.hid (HT3.out.trans (if_pos hr0))
     have hl0 : (0 : Int) < (r.length : Int) := by have := List.length_pos_iff.2 hr0; omega
     have hrT6 := t.r.2.1.obj hrT1
     have hxw6 := hx01.trans t.r.2.1
     clear HT3 hrows t
     go_wp2_with (with_reducible refine sS 37 ?_)
     refine go_on (wpList_store_whole (c := zMC) (c' := zMC) rfl rfl rfl rfl hrT6 (by kernel_rfl) (by rfl) zMC_one ?_)
     intro wz hrowZ hkz _
     go_wp2
     ((try simp only [Exit.inBlock, Exit.then]); refine bodyPost_ret (results_cell1 rfl _ _ w.heap.size _ _ _ _ rfl hrowZ Tryz.underlying37 rfl (by kernel_rfl)) rfl ?_)
     exact TakeW.no HB.out (hxw6.kept hkz (by intro k hk; simp at hk; omega))
  ·
   have HK1 := fun W => rhasTx_any 5 W
   have HK2 := fun W => rhasN_any 5 W
   have HK3 := fun W => rhasVote_any 5 W
   rw [show kTx 5 = true from rfl] at HK1
   rw [show kN 5 = false from rfl] at HK2
   rw [show kVote 5 = false from rfl] at HK3
   go_wp2_with fail
   clear HW CK
   try clear C F
   refine (hN _ _ 1 (by omega) t.r).mono ?_
   rintro e W1 ⟨rfl, hr1, hk1⟩
   have t1 := t.step hr1 hk1
   obtain ⟨vrow, hrow⟩ := t.r.row
   clear t hr1 hk1 hrow
   have C : W1.cell? ⟨D, 1, none⟩ = some _ := t1.cell 1 _ rfl
   have F := t1.frz
   obtain ⟨W2, hW2⟩ : ∃ x, x = W1.setCell ⟨D, 1, none⟩ (.int .i64 (valB (cutV 1 (cutQ 1 (some pl))) : Nat)) := ⟨_, rfl⟩
   have hst := t1.set (k := 1) (mlC (⟨5, nV 1 (cutQ 1 (some pl)), 0, tx00, tx00, [], [], [], 0, [], [], 0, 0, [], 0, [], 0, 0⟩ : Ml) zS zS zS zS zS).toList rfl hW2
   have t := hst.1
   obtain ⟨vrow, hrow⟩ := t1.row
   have HW := hW2.symm
   have CK : W2.cell? ⟨D, 0, none⟩ = some (.int .i64 5) := t.cell 0 _ rfl
   clear hst hW2 t1 hrow
   go_wp2_with fail
   clear HW CK
   try clear C F
   refine (hN _ _ 1 (by omega) t.r).mono ?_
   rintro e W1 ⟨rfl, hr1, hk1⟩
   have t1 := t.step hr1 hk1
   obtain ⟨vrow, hrow⟩ := t.r.row
   clear t hr1 hk1 hrow
   have C : W1.cell? ⟨D, 2, none⟩ = some _ := t1.cell 2 _ rfl
   have F := t1.frz
   obtain ⟨W2, hW2⟩ : ∃ x, x = W1.setCell ⟨D, 2, none⟩ (.int .i64 (valB (cutV 1 (cutQ 1 (cutQ 1 (some pl)))) : Nat)) := ⟨_, rfl⟩
   have hst := t1.set (k := 2) (mlC (⟨5, nV 1 (cutQ 1 (some pl)), nV 1 (cutQ 1 (cutQ 1 (some pl))), tx00, tx00, [], [], [], 0, [], [], 0, 0, [], 0, [], 0, 0⟩ : Ml) zS zS zS zS zS).toList rfl hW2
   have t := hst.1
   obtain ⟨vrow, hrow⟩ := t1.row
   have HW := hW2.symm
   have CK : W2.cell? ⟨D, 0, none⟩ = some (.int .i64 5) := t.cell 0 _ rfl
   clear hst hW2 t1 hrow
   go_wp2_with fail
   refine (HK1 _).mono ?_
   rintro e wq ⟨rfl, hwq⟩
   subst hwq
   go_wp2_with fail
   clear HW CK
   try clear C F
   refine (hN _ _ 1 (by omega) t.r).mono ?_
   rintro e W1 ⟨rfl, hr1, hk1⟩
   have t1 := t.step hr1 hk1
   obtain ⟨vrow, hrow⟩ := t.r.row
   clear t hr1 hk1 hrow
   have C : W1.cell? ⟨D, 3, none⟩ = some _ := t1.cell 3 _ rfl
   have F := t1.frz
   obtain ⟨W2, hW2⟩ : ∃ x, x = W1.setCell ⟨D, 3, none⟩ (.int .i64 (valB (cutV 1 (cutQ 1 (cutQ 1 (cutQ 1 (some pl))))) : Nat)) := ⟨_, rfl⟩
   have hst := t1.set (k := 3) (mlC (⟨5, nV 1 (cutQ 1 (some pl)), nV 1 (cutQ 1 (cutQ 1 (some pl))), ⟨nV 1 (cutQ 1 (cutQ 1 (cutQ 1 (some pl)))), 0, 0⟩, tx00, [], [], [], 0, [], [], 0, 0, [], 0, [], 0, 0⟩ : Ml) zS zS zS zS zS).toList rfl hW2
   have t := hst.1
   obtain ⟨vrow, hrow⟩ := t1.row
   have HW := hW2.symm
   have CK : W2.cell? ⟨D, 0, none⟩ = some (.int .i64 5) := t.cell 0 _ rfl
   clear hst hW2 t1 hrow
   go_wp2_with fail
   clear HW CK
   try clear C F
   refine (hN _ _ 4 (by omega) t.r).mono ?_
   rintro e W1 ⟨rfl, hr1, hk1⟩
   have t1 := t.step hr1 hk1
   obtain ⟨vrow, hrow⟩ := t.r.row
   clear t hr1 hk1 hrow
   have C : W1.cell? ⟨D, 4, none⟩ = some _ := t1.cell 4 _ rfl
   have F := t1.frz
   obtain ⟨W2, hW2⟩ : ∃ x, x = W1.setCell ⟨D, 4, none⟩ (.int .i64 (valB (cutV 4 (cutQ 1 (cutQ 1 (cutQ 1 (cutQ 1 (some pl)))))) : Nat)) := ⟨_, rfl⟩
   have hst := t1.set (k := 4) (mlC (⟨5, nV 1 (cutQ 1 (some pl)), nV 1 (cutQ 1 (cutQ 1 (some pl))), ⟨nV 1 (cutQ 1 (cutQ 1 (cutQ 1 (some pl)))), nV 4 (cutQ 1 (cutQ 1 (cutQ 1 (cutQ 1 (some pl))))), 0⟩, tx00, [], [], [], 0, [], [], 0, 0, [], 0, [], 0, 0⟩ : Ml) zS zS zS zS zS).toList rfl hW2
   have t := hst.1
   obtain ⟨vrow, hrow⟩ := t1.row
   have HW := hW2.symm
   have CK : W2.cell? ⟨D, 0, none⟩ = some (.int .i64 5) := t.cell 0 _ rfl
   clear hst hW2 t1 hrow
   go_wp2_with fail
   clear HW CK
   try clear C F
   refine (hN _ _ 4 (by omega) t.r).mono ?_
   rintro e W1 ⟨rfl, hr1, hk1⟩
   have t1 := t.step hr1 hk1
   obtain ⟨vrow, hrow⟩ := t.r.row
   clear t hr1 hk1 hrow
   have C : W1.cell? ⟨D, 5, none⟩ = some _ := t1.cell 5 _ rfl
   have F := t1.frz
   obtain ⟨W2, hW2⟩ : ∃ x, x = W1.setCell ⟨D, 5, none⟩ (.int .i64 (valB (cutV 4 (cutQ 4 (cutQ 1 (cutQ 1 (cutQ 1 (cutQ 1 (some pl))))))) : Nat)) := ⟨_, rfl⟩
   have hst := t1.set (k := 5) (mlC (⟨5, nV 1 (cutQ 1 (some pl)), nV 1 (cutQ 1 (cutQ 1 (some pl))), ⟨nV 1 (cutQ 1 (cutQ 1 (cutQ 1 (some pl)))), nV 4 (cutQ 1 (cutQ 1 (cutQ 1 (cutQ 1 (some pl))))), nV 4 (cutQ 4 (cutQ 1 (cutQ 1 (cutQ 1 (cutQ 1 (some pl))))))⟩, tx00, [], [], [], 0, [], [], 0, 0, [], 0, [], 0, 0⟩ : Ml) zS zS zS zS zS).toList rfl hW2
   have t := hst.1
   obtain ⟨vrow, hrow⟩ := t1.row
   have HW := hW2.symm
   have CK : W2.cell? ⟨D, 0, none⟩ = some (.int .i64 5) := t.cell 0 _ rfl
   clear hst hW2 t1 hrow
   go_wp2_with fail
   refine (HK2 _).mono ?_
   rintro e wq ⟨rfl, hwq⟩
   subst hwq
   go_wp2_with fail
   refine (HK3 _).mono ?_
   rintro e wq ⟨rfl, hwq⟩
   subst hwq
   obtain ⟨qe, hqe, hte⟩ : ∃ qe, qe = cutQ 4 (cutQ 4 (cutQ 1 (cutQ 1 (cutQ 1 (cutQ 1 (some pl)))))) ∧ TM w1 R D qe (mlC (⟨5, nV 1 (cutQ 1 (some pl)), nV 1 (cutQ 1 (cutQ 1 (some pl))), ⟨nV 1 (cutQ 1 (cutQ 1 (cutQ 1 (some pl)))), nV 4 (cutQ 1 (cutQ 1 (cutQ 1 (cutQ 1 (some pl))))), nV 4 (cutQ 4 (cutQ 1 (cutQ 1 (cutQ 1 (cutQ 1 (some pl))))))⟩, tx00, [], [], [], 0, [], [], 0, 0, [], 0, [], 0, 0⟩ : Ml) zS zS zS zS zS).toList W2 := ⟨_, rfl, t⟩
   have HRR : Hid (rdR 5 s0 d0 q3 = rdO (⟨5, nV 1 (cutQ 1 (some pl)), nV 1 (cutQ 1 (cutQ 1 (some pl))), ⟨nV 1 (cutQ 1 (cutQ 1 (cutQ 1 (some pl)))), nV 4 (cutQ 1 (cutQ 1 (cutQ 1 (cutQ 1 (some pl))))), nV 4 (cutQ 4 (cutQ 1 (cutQ 1 (cutQ 1 (cutQ 1 (some pl))))))⟩, tx00, [], [], [], 0, [], [], 0, 0, [], 0, [], 0, 0⟩ : Ml) qe) := Lib.hid (by rw [hqe, HS0.out, HD0.out, HQ3.out]; rfl)
   clear t hqe
   cases qe with
   | none =>
    have HB : Hid (takeT b = .inl 3) := Lib.hid (by rw [HT2.out, HRR.out]; rfl)
    have C1 := hte.r.off
    rw [show (none : Option By).isNone = true from rfl] at C1
    have hrT6 := hte.r.2.1.obj hrT1
    have hxw6 := hx01.trans hte.r.2.1
    clear HRR hte HT2
    go_wp2_with (with_reducible refine sS 37 ?_)
    refine go_on (wpList_store_whole (c := zMC) (c' := zMC) rfl rfl rfl rfl hrT6 (by kernel_rfl) (by rfl) zMC_one ?_)
    intro wz hrowZ hkz _
    go_wp2
    ((try simp only [Exit.inBlock, Exit.then]); refine bodyPost_ret (results_cell1 rfl _ _ w.heap.size _ _ _ _ rfl hrowZ Tryz.underlying37 rfl (by kernel_rfl)) rfl ?_)
    exact TakeW.no HB.out (hxw6.kept hkz (by intro k hk; simp at hk; omega))
   | some r =>
    have C1 := hte.r.off
    rw [show (some r : Option By).isNone = false from rfl] at C1
    obtain ⟨Ar, cr, hrowR, -, -⟩ := hte.r.2.2
    obtain ⟨R0, -, -⟩ := row2_at hrowR
    have t := hte
    obtain ⟨m, hm⟩ : ∃ m, m = (⟨5, nV 1 (cutQ 1 (some pl)), nV 1 (cutQ 1 (cutQ 1 (some pl))), ⟨nV 1 (cutQ 1 (cutQ 1 (cutQ 1 (some pl)))), nV 4 (cutQ 1 (cutQ 1 (cutQ 1 (cutQ 1 (some pl))))), nV 4 (cutQ 4 (cutQ 1 (cutQ 1 (cutQ 1 (cutQ 1 (some pl))))))⟩, tx00, [], [], [], 0, [], [], 0, 0, [], 0, [], 0, 0⟩ : Ml) := ⟨_, rfl⟩
    have hrr : rdR 5 s0 d0 q3 = .inr (m, r) := by rw [HRR.out, hm]; rfl
    have HT3 : Hid (takeT b = if r ≠ [] then .inl 4 else if checkM m ≠ 0 then .inl (checkM m) else .inr m) := Lib.hid (by rw [HT2.out, hrr])
    have hok := rdR_len hrr
    obtain ⟨P_, D_, E_, N_, V_, hrows, ht⟩ : ∃ P D_ E N V, Rows W2 w.heap.size m P D_ E N V ∧ TM w1 R D (some r) (mlC m P D_ E N V).toList W2 := ⟨_, _, _, _, _, by rw [hm]; exact ⟨OwnI.nil _ _, OwnDs.nil0 _ _, OwnI.nil _ _, OwnI.nil _ _, Own.nil _ _⟩, by rw [hm]; exact t⟩
    clear t hte HRR HT2 hrr hm hrowR
    have t := ht
    clear ht
    by_cases hr0 : r = []
    ·subst hr0
     have HT4 := Lib.hid (HT3.out.trans (if_neg (by simp)))
     clear HT3
     obtain ⟨hP, hD, hE, hN_, hV⟩ := hrows
     obtain ⟨Ap, cp, hPe⟩ := hP.form
     obtain ⟨Ad, cd, hDe⟩ := hD.form
     obtain ⟨Ae, ce, hEe⟩ := hE.form
     obtain ⟨An, cn, hNe⟩ := hN_.form
     obtain ⟨Av2, cv2, hVe⟩ := hV.form
     have HCH := rCheck_own hP hD hE hN_ hV hok (hTb.ext (hx01.trans t.r.2.1))
     obtain ⟨mc, hmc⟩ : ∃ mc, mc = mlC m P_ D_ E_ N_ V_ := ⟨_, rfl⟩
     have h1c : mc.all (·.oneCell') = true := by rw [hmc, hPe, hDe, hEe, hNe, hVe]; simp [mlC, Value.oneCell']
     have hsz : (Tryz.prog.info? 37).map (·.size) = some mc.size := by rw [hmc]; kernel_rfl
     have hszz : zMC.size = mc.size := by rw [hmc]; rfl
     have hrd : W2.heap[D]? = some (.cells mc 37 (0, 0)) := by rw [hmc]; exact t.d
     have HROWS : Hid (Rows W2 w.heap.size m P_ D_ E_ N_ V_) := Lib.hid ⟨hP, hD, hE, hN_, hV⟩
     rw [← hmc] at HCH
     have HMC := Lib.hid hmc
     have hx12 := t.r.2.1
     clear hP hD hE hN_ hV hmc hPe hDe hEe hNe hVe t hok
     go_wp2_with (with_reducible refine sL 37 ?_)
     try clear HW
     refine go_on (wpList_load_row rfl 37 _ rfl D rfl 37 _ (0, 0) _ hrd Tryz.underlying37 rfl hsz ?_)
     go_wp2_with fail
     refine HCH.mono ?_
     rintro e W7 ⟨rfl, hx7⟩
     have hrT7 := (hx12.trans hx7).obj hrT1
     have hxw7 := hx01.trans (hx12.trans hx7)
     have hrd7 := hx7.obj hrd
     clear HCH
     by_cases hcm : checkM m = 0
     ·have HB := Lib.hid (HT4.out.trans (if_neg (by simp [hcm])))
      rw [hcm]
      clear HT4 hcm
      go_wp2_with (with_reducible refine sL 37 ?_)
      refine go_on (wpList_load_row rfl 37 _ rfl D rfl 37 _ (0, 0) _ hrd7 Tryz.underlying37 rfl hsz ?_)
      go_wp2_with (with_reducible first | refine sL 37 ?_ | refine sS 37 ?_ | refine sA 37 ?_ | refine sL 25 ?_ | refine sS 25 ?_)
      refine go_on (wpList_store_whole (c := zMC) rfl rfl rfl rfl hrT7 hsz hszz h1c ?_)
      intro W8 hrow8 hk8 _
      have HR8 := Lib.hid ((HROWS.out.ext hx7).off hrT7 hk8)
      clear HROWS hrd hrd7
      go_wp2
      ((try simp only [Exit.inBlock, Exit.then]); refine bodyPost_ret (results_cell1 rfl _ _ w.heap.size _ _ _ _ rfl hrow8 Tryz.underlying37 rfl hsz) rfl ?_)
      refine ⟨hxw7.kept hk8 (by intro k hk; simp at hk; omega), ?_⟩
      rw [HB.out]
      exact ⟨_, _, _, _, _, by rw [HMC.out]; rfl, HR8.out⟩
     ·have HB : Hid (takeT b = .inl (checkM m)) := Lib.hid (HT4.out.trans (if_pos hcm))
      have hc0 : (((checkM m : Nat) : Int) == 0) = false := by simpa using hcm
      generalize checkM m = z at *
      clear HT4 hcm HROWS hrd hrd7
      go_wp2_with (with_reducible refine sS 37 ?_)
      refine go_on (wpList_store_whole (c := zMC) (c' := zMC) rfl rfl rfl rfl hrT7 (by kernel_rfl) (by rfl) zMC_one ?_)
      intro wz hrowZ hkz _
      go_wp2
      ((try simp only [Exit.inBlock, Exit.then]); refine bodyPost_ret (results_cell1 rfl _ _ w.heap.size _ _ _ _ rfl hrowZ Tryz.underlying37 rfl (by kernel_rfl)) rfl ?_)
      exact TakeW.no HB.out (hxw7.kept hkz (by intro k hk; simp at hk; omega))
    ·have HB : Hid (takeT b = .inl 4) := Lib.hid (HT3.out.trans (if_pos hr0))
     have hl0 : (0 : Int) < (r.length : Int) := by have := List.length_pos_iff.2 hr0; omega
     have hrT6 := t.r.2.1.obj hrT1
     have hxw6 := hx01.trans t.r.2.1
     clear HT3 hrows t
     go_wp2_with (with_reducible refine sS 37 ?_)
     refine go_on (wpList_store_whole (c := zMC) (c' := zMC) rfl rfl rfl rfl hrT6 (by kernel_rfl) (by rfl) zMC_one ?_)
     intro wz hrowZ hkz _
     go_wp2
     ((try simp only [Exit.inBlock, Exit.then]); refine bodyPost_ret (results_cell1 rfl _ _ w.heap.size _ _ _ _ rfl hrowZ Tryz.underlying37 rfl (by kernel_rfl)) rfl ?_)
     exact TakeW.no HB.out (hxw6.kept hkz (by intro k hk; simp at hk; omega))
  ·
   have HK1 := fun W => rhasTx_any 6 W
   have HK2 := fun W => rhasN_any 6 W
   have HK3 := fun W => rhasVote_any 6 W
   rw [show kTx 6 = false from rfl] at HK1
   rw [show kN 6 = true from rfl] at HK2
   rw [show kVote 6 = false from rfl] at HK3
   go_wp2_with fail
   clear HW CK
   try clear C F
   refine (hN _ _ 1 (by omega) t.r).mono ?_
   rintro e W1 ⟨rfl, hr1, hk1⟩
   have t1 := t.step hr1 hk1
   obtain ⟨vrow, hrow⟩ := t.r.row
   clear t hr1 hk1 hrow
   have C : W1.cell? ⟨D, 1, none⟩ = some _ := t1.cell 1 _ rfl
   have F := t1.frz
   obtain ⟨W2, hW2⟩ : ∃ x, x = W1.setCell ⟨D, 1, none⟩ (.int .i64 (valB (cutV 1 (cutQ 1 (some pl))) : Nat)) := ⟨_, rfl⟩
   have hst := t1.set (k := 1) (mlC (⟨6, nV 1 (cutQ 1 (some pl)), 0, tx00, tx00, [], [], [], 0, [], [], 0, 0, [], 0, [], 0, 0⟩ : Ml) zS zS zS zS zS).toList rfl hW2
   have t := hst.1
   obtain ⟨vrow, hrow⟩ := t1.row
   have HW := hW2.symm
   have CK : W2.cell? ⟨D, 0, none⟩ = some (.int .i64 6) := t.cell 0 _ rfl
   clear hst hW2 t1 hrow
   go_wp2_with fail
   clear HW CK
   try clear C F
   refine (hN _ _ 1 (by omega) t.r).mono ?_
   rintro e W1 ⟨rfl, hr1, hk1⟩
   have t1 := t.step hr1 hk1
   obtain ⟨vrow, hrow⟩ := t.r.row
   clear t hr1 hk1 hrow
   have C : W1.cell? ⟨D, 2, none⟩ = some _ := t1.cell 2 _ rfl
   have F := t1.frz
   obtain ⟨W2, hW2⟩ : ∃ x, x = W1.setCell ⟨D, 2, none⟩ (.int .i64 (valB (cutV 1 (cutQ 1 (cutQ 1 (some pl)))) : Nat)) := ⟨_, rfl⟩
   have hst := t1.set (k := 2) (mlC (⟨6, nV 1 (cutQ 1 (some pl)), nV 1 (cutQ 1 (cutQ 1 (some pl))), tx00, tx00, [], [], [], 0, [], [], 0, 0, [], 0, [], 0, 0⟩ : Ml) zS zS zS zS zS).toList rfl hW2
   have t := hst.1
   obtain ⟨vrow, hrow⟩ := t1.row
   have HW := hW2.symm
   have CK : W2.cell? ⟨D, 0, none⟩ = some (.int .i64 6) := t.cell 0 _ rfl
   clear hst hW2 t1 hrow
   go_wp2_with fail
   refine (HK1 _).mono ?_
   rintro e wq ⟨rfl, hwq⟩
   subst hwq
   go_wp2_with fail
   refine (HK2 _).mono ?_
   rintro e wq ⟨rfl, hwq⟩
   subst hwq
   go_wp2_with fail
   clear HW CK
   try clear C F
   refine (hN _ _ 4 (by omega) t.r).mono ?_
   rintro e W1 ⟨rfl, hr1, hk1⟩
   have t1 := t.step hr1 hk1
   obtain ⟨vrow, hrow⟩ := t.r.row
   clear t hr1 hk1 hrow
   have C : W1.cell? ⟨D, 21, none⟩ = some _ := t1.cell 21 _ rfl
   have F := t1.frz
   obtain ⟨W2, hW2⟩ : ∃ x, x = W1.setCell ⟨D, 21, none⟩ (.int .i64 (valB (cutV 4 (cutQ 1 (cutQ 1 (cutQ 1 (some pl))))) : Nat)) := ⟨_, rfl⟩
   have hst := t1.set (k := 21) (mlC (⟨6, nV 1 (cutQ 1 (some pl)), nV 1 (cutQ 1 (cutQ 1 (some pl))), tx00, tx00, [], [], [], 0, [], [], 0, 0, [], 0, [], 0, nV 4 (cutQ 1 (cutQ 1 (cutQ 1 (some pl))))⟩ : Ml) zS zS zS zS zS).toList rfl hW2
   have t := hst.1
   obtain ⟨vrow, hrow⟩ := t1.row
   have HW := hW2.symm
   have CK : W2.cell? ⟨D, 0, none⟩ = some (.int .i64 6) := t.cell 0 _ rfl
   clear hst hW2 t1 hrow
   go_wp2_with fail
   refine (HK3 _).mono ?_
   rintro e wq ⟨rfl, hwq⟩
   subst hwq
   go_wp2_with fail
   clear HW CK C F
   refine (hN _ _ 1 (by omega) t.r).mono ?_
   rintro e W0 ⟨rfl, hr1, hk1⟩
   have t0 := t.step hr1 hk1
   obtain ⟨vrow, hrow⟩ := t.r.row
   have hvc := valB_cut 1 (cutQ 4 (cutQ 1 (cutQ 1 (cutQ 1 (some pl)))))
   clear t hr1 hk1 hrow
   go_wp2_with fail
   refine (hC _ _ (valB (cutV 1 (cutQ 4 (cutQ 1 (cutQ 1 (cutQ 1 (some pl))))))) (by omega) t0.r).mono ?_
   rintro e W1 ⟨vb_, rfl, ho1, hr1, hk1⟩
   have t1 := t0.step hr1 hk1
   obtain ⟨vrow, hrow⟩ := t0.r.row
   clear t0 hr1 hk1 hrow hvc
   obtain ⟨Ab_, cb_, rfl⟩ := ho1.form
   have s_ := run_str (P := Tryz.prog) Tryz.underlying22 Tryz.underlying5 Tryz.underlying9 ho1.bs _ cb_ rfl _ (Ext.refl _)
   clear ho1
   have C : W1.cell? ⟨D, 19, none⟩ = some _ := t1.cell 19 _ rfl
   have F := t1.frz
   obtain ⟨W2, hW2⟩ : ∃ x, x = W1.setCell ⟨D, 19, none⟩ (.string (st (shV (cutQ 4 (cutQ 1 (cutQ 1 (cutQ 1 (some pl)))))))) := ⟨_, rfl⟩
   have hst := t1.set (k := 19) (mlC (⟨6, nV 1 (cutQ 1 (some pl)), nV 1 (cutQ 1 (cutQ 1 (some pl))), tx00, tx00, [], [], [], 0, [], [], 0, 0, [], 0, shV (cutQ 4 (cutQ 1 (cutQ 1 (cutQ 1 (some pl))))), 0, nV 4 (cutQ 1 (cutQ 1 (cutQ 1 (some pl))))⟩ : Ml) zS zS zS zS zS).toList rfl hW2
   have t := hst.1
   obtain ⟨vrow, hrow⟩ := t1.row
   have HW := hW2.symm
   have CK : W2.cell? ⟨D, 0, none⟩ = some (.int .i64 6) := t.cell 0 _ rfl
   clear hst hW2 t1 hrow
   have HW : W1.setCell ⟨D, 19, none⟩ (.string (st (cutV (valB (cutV 1 (cutQ 4 (cutQ 1 (cutQ 1 (cutQ 1 (some pl))))))) (cutQ 1 (cutQ 4 (cutQ 1 (cutQ 1 (cutQ 1 (some pl))))))))) = W2 := HW
   have t : TM w1 R D (shQ (cutQ 4 (cutQ 1 (cutQ 1 (cutQ 1 (some pl)))))) (mlC (⟨6, nV 1 (cutQ 1 (some pl)), nV 1 (cutQ 1 (cutQ 1 (some pl))), tx00, tx00, [], [], [], 0, [], [], 0, 0, [], 0, shV (cutQ 4 (cutQ 1 (cutQ 1 (cutQ 1 (some pl))))), 0, nV 4 (cutQ 1 (cutQ 1 (cutQ 1 (some pl))))⟩ : Ml) zS zS zS zS zS).toList W2 := t
   go_wp2_with fail
   clear HW CK
   try clear C F
   refine (hN _ _ 4 (by omega) t.r).mono ?_
   rintro e W1 ⟨rfl, hr1, hk1⟩
   have t1 := t.step hr1 hk1
   obtain ⟨vrow, hrow⟩ := t.r.row
   clear t hr1 hk1 hrow
   have C : W1.cell? ⟨D, 20, none⟩ = some _ := t1.cell 20 _ rfl
   have F := t1.frz
   obtain ⟨W2, hW2⟩ : ∃ x, x = W1.setCell ⟨D, 20, none⟩ (.int .i64 (valB (cutV 4 (shQ (cutQ 4 (cutQ 1 (cutQ 1 (cutQ 1 (some pl))))))) : Nat)) := ⟨_, rfl⟩
   have hst := t1.set (k := 20) (mlC (⟨6, nV 1 (cutQ 1 (some pl)), nV 1 (cutQ 1 (cutQ 1 (some pl))), tx00, tx00, [], [], [], 0, [], [], 0, 0, [], 0, shV (cutQ 4 (cutQ 1 (cutQ 1 (cutQ 1 (some pl))))), nV 4 (shQ (cutQ 4 (cutQ 1 (cutQ 1 (cutQ 1 (some pl)))))), nV 4 (cutQ 1 (cutQ 1 (cutQ 1 (some pl))))⟩ : Ml) zS zS zS zS zS).toList rfl hW2
   have t := hst.1
   obtain ⟨vrow, hrow⟩ := t1.row
   have HW := hW2.symm
   have CK : W2.cell? ⟨D, 0, none⟩ = some (.int .i64 6) := t.cell 0 _ rfl
   clear hst hW2 t1 hrow
   obtain ⟨qe, hqe, hte⟩ : ∃ qe, qe = cutQ 4 (shQ (cutQ 4 (cutQ 1 (cutQ 1 (cutQ 1 (some pl)))))) ∧ TM w1 R D qe (mlC (⟨6, nV 1 (cutQ 1 (some pl)), nV 1 (cutQ 1 (cutQ 1 (some pl))), tx00, tx00, [], [], [], 0, [], [], 0, 0, [], 0, shV (cutQ 4 (cutQ 1 (cutQ 1 (cutQ 1 (some pl))))), nV 4 (shQ (cutQ 4 (cutQ 1 (cutQ 1 (cutQ 1 (some pl)))))), nV 4 (cutQ 1 (cutQ 1 (cutQ 1 (some pl))))⟩ : Ml) zS zS zS zS zS).toList W2 := ⟨_, rfl, t⟩
   have HRR : Hid (rdR 6 s0 d0 q3 = rdO (⟨6, nV 1 (cutQ 1 (some pl)), nV 1 (cutQ 1 (cutQ 1 (some pl))), tx00, tx00, [], [], [], 0, [], [], 0, 0, [], 0, shV (cutQ 4 (cutQ 1 (cutQ 1 (cutQ 1 (some pl))))), nV 4 (shQ (cutQ 4 (cutQ 1 (cutQ 1 (cutQ 1 (some pl)))))), nV 4 (cutQ 1 (cutQ 1 (cutQ 1 (some pl))))⟩ : Ml) qe) := Lib.hid (by rw [hqe, HS0.out, HD0.out, HQ3.out]; rfl)
   clear t hqe
   cases qe with
   | none =>
    have HB : Hid (takeT b = .inl 3) := Lib.hid (by rw [HT2.out, HRR.out]; rfl)
    have C1 := hte.r.off
    rw [show (none : Option By).isNone = true from rfl] at C1
    have hrT6 := hte.r.2.1.obj hrT1
    have hxw6 := hx01.trans hte.r.2.1
    clear HRR hte HT2
    go_wp2_with (with_reducible refine sS 37 ?_)
    refine go_on (wpList_store_whole (c := zMC) (c' := zMC) rfl rfl rfl rfl hrT6 (by kernel_rfl) (by rfl) zMC_one ?_)
    intro wz hrowZ hkz _
    go_wp2
    ((try simp only [Exit.inBlock, Exit.then]); refine bodyPost_ret (results_cell1 rfl _ _ w.heap.size _ _ _ _ rfl hrowZ Tryz.underlying37 rfl (by kernel_rfl)) rfl ?_)
    exact TakeW.no HB.out (hxw6.kept hkz (by intro k hk; simp at hk; omega))
   | some r =>
    have C1 := hte.r.off
    rw [show (some r : Option By).isNone = false from rfl] at C1
    obtain ⟨Ar, cr, hrowR, -, -⟩ := hte.r.2.2
    obtain ⟨R0, -, -⟩ := row2_at hrowR
    have t := hte
    obtain ⟨m, hm⟩ : ∃ m, m = (⟨6, nV 1 (cutQ 1 (some pl)), nV 1 (cutQ 1 (cutQ 1 (some pl))), tx00, tx00, [], [], [], 0, [], [], 0, 0, [], 0, shV (cutQ 4 (cutQ 1 (cutQ 1 (cutQ 1 (some pl))))), nV 4 (shQ (cutQ 4 (cutQ 1 (cutQ 1 (cutQ 1 (some pl)))))), nV 4 (cutQ 1 (cutQ 1 (cutQ 1 (some pl))))⟩ : Ml) := ⟨_, rfl⟩
    have hrr : rdR 6 s0 d0 q3 = .inr (m, r) := by rw [HRR.out, hm]; rfl
    have HT3 : Hid (takeT b = if r ≠ [] then .inl 4 else if checkM m ≠ 0 then .inl (checkM m) else .inr m) := Lib.hid (by rw [HT2.out, hrr])
    have hok := rdR_len hrr
    obtain ⟨P_, D_, E_, N_, V_, hrows, ht⟩ : ∃ P D_ E N V, Rows W2 w.heap.size m P D_ E N V ∧ TM w1 R D (some r) (mlC m P D_ E N V).toList W2 := ⟨_, _, _, _, _, by rw [hm]; exact ⟨OwnI.nil _ _, OwnDs.nil0 _ _, OwnI.nil _ _, OwnI.nil _ _, Own.nil _ _⟩, by rw [hm]; exact t⟩
    clear t hte HRR HT2 hrr hm hrowR
    have t := ht
    clear ht
    by_cases hr0 : r = []
    ·subst hr0
     have HT4 := Lib.hid (HT3.out.trans (if_neg (by simp)))
     clear HT3
     obtain ⟨hP, hD, hE, hN_, hV⟩ := hrows
     obtain ⟨Ap, cp, hPe⟩ := hP.form
     obtain ⟨Ad, cd, hDe⟩ := hD.form
     obtain ⟨Ae, ce, hEe⟩ := hE.form
     obtain ⟨An, cn, hNe⟩ := hN_.form
     obtain ⟨Av2, cv2, hVe⟩ := hV.form
     have HCH := rCheck_own hP hD hE hN_ hV hok (hTb.ext (hx01.trans t.r.2.1))
     obtain ⟨mc, hmc⟩ : ∃ mc, mc = mlC m P_ D_ E_ N_ V_ := ⟨_, rfl⟩
     have h1c : mc.all (·.oneCell') = true := by rw [hmc, hPe, hDe, hEe, hNe, hVe]; simp [mlC, Value.oneCell']
     have hsz : (Tryz.prog.info? 37).map (·.size) = some mc.size := by rw [hmc]; kernel_rfl
     have hszz : zMC.size = mc.size := by rw [hmc]; rfl
     have hrd : W2.heap[D]? = some (.cells mc 37 (0, 0)) := by rw [hmc]; exact t.d
     have HROWS : Hid (Rows W2 w.heap.size m P_ D_ E_ N_ V_) := Lib.hid ⟨hP, hD, hE, hN_, hV⟩
     rw [← hmc] at HCH
     have HMC := Lib.hid hmc
     have hx12 := t.r.2.1
     clear hP hD hE hN_ hV hmc hPe hDe hEe hNe hVe t hok
     go_wp2_with (with_reducible refine sL 37 ?_)
     try clear HW
     refine go_on (wpList_load_row rfl 37 _ rfl D rfl 37 _ (0, 0) _ hrd Tryz.underlying37 rfl hsz ?_)
     go_wp2_with fail
     refine HCH.mono ?_
     rintro e W7 ⟨rfl, hx7⟩
     have hrT7 := (hx12.trans hx7).obj hrT1
     have hxw7 := hx01.trans (hx12.trans hx7)
     have hrd7 := hx7.obj hrd
     clear HCH
     by_cases hcm : checkM m = 0
     ·have HB := Lib.hid (HT4.out.trans (if_neg (by simp [hcm])))
      rw [hcm]
      clear HT4 hcm
      go_wp2_with (with_reducible refine sL 37 ?_)
      refine go_on (wpList_load_row rfl 37 _ rfl D rfl 37 _ (0, 0) _ hrd7 Tryz.underlying37 rfl hsz ?_)
      go_wp2_with (with_reducible first | refine sL 37 ?_ | refine sS 37 ?_ | refine sA 37 ?_ | refine sL 25 ?_ | refine sS 25 ?_)
      refine go_on (wpList_store_whole (c := zMC) rfl rfl rfl rfl hrT7 hsz hszz h1c ?_)
      intro W8 hrow8 hk8 _
      have HR8 := Lib.hid ((HROWS.out.ext hx7).off hrT7 hk8)
      clear HROWS hrd hrd7
      go_wp2
      ((try simp only [Exit.inBlock, Exit.then]); refine bodyPost_ret (results_cell1 rfl _ _ w.heap.size _ _ _ _ rfl hrow8 Tryz.underlying37 rfl hsz) rfl ?_)
      refine ⟨hxw7.kept hk8 (by intro k hk; simp at hk; omega), ?_⟩
      rw [HB.out]
      exact ⟨_, _, _, _, _, by rw [HMC.out]; rfl, HR8.out⟩
     ·have HB : Hid (takeT b = .inl (checkM m)) := Lib.hid (HT4.out.trans (if_pos hcm))
      have hc0 : (((checkM m : Nat) : Int) == 0) = false := by simpa using hcm
      generalize checkM m = z at *
      clear HT4 hcm HROWS hrd hrd7
      go_wp2_with (with_reducible refine sS 37 ?_)
      refine go_on (wpList_store_whole (c := zMC) (c' := zMC) rfl rfl rfl rfl hrT7 (by kernel_rfl) (by rfl) zMC_one ?_)
      intro wz hrowZ hkz _
      go_wp2
      ((try simp only [Exit.inBlock, Exit.then]); refine bodyPost_ret (results_cell1 rfl _ _ w.heap.size _ _ _ _ rfl hrowZ Tryz.underlying37 rfl (by kernel_rfl)) rfl ?_)
      exact TakeW.no HB.out (hxw7.kept hkz (by intro k hk; simp at hk; omega))
    ·have HB : Hid (takeT b = .inl 4) := Lib.hid (HT3.out.trans (if_pos hr0))
     have hl0 : (0 : Int) < (r.length : Int) := by have := List.length_pos_iff.2 hr0; omega
     have hrT6 := t.r.2.1.obj hrT1
     have hxw6 := hx01.trans t.r.2.1
     clear HT3 hrows t
     go_wp2_with (with_reducible refine sS 37 ?_)
     refine go_on (wpList_store_whole (c := zMC) (c' := zMC) rfl rfl rfl rfl hrT6 (by kernel_rfl) (by rfl) zMC_one ?_)
     intro wz hrowZ hkz _
     go_wp2
     ((try simp only [Exit.inBlock, Exit.then]); refine bodyPost_ret (results_cell1 rfl _ _ w.heap.size _ _ _ _ rfl hrowZ Tryz.underlying37 rfl (by kernel_rfl)) rfl ?_)
     exact TakeW.no HB.out (hxw6.kept hkz (by intro k hk; simp at hk; omega))
  ·
   have HK1 := fun W => rhasTx_any 7 W
   have HK2 := fun W => rhasN_any 7 W
   have HK3 := fun W => rhasVote_any 7 W
   rw [show kTx 7 = false from rfl] at HK1
   rw [show kN 7 = true from rfl] at HK2
   rw [show kVote 7 = true from rfl] at HK3
   go_wp2_with fail
   clear HW CK
   try clear C F
   refine (hN _ _ 1 (by omega) t.r).mono ?_
   rintro e W1 ⟨rfl, hr1, hk1⟩
   have t1 := t.step hr1 hk1
   obtain ⟨vrow, hrow⟩ := t.r.row
   clear t hr1 hk1 hrow
   have C : W1.cell? ⟨D, 1, none⟩ = some _ := t1.cell 1 _ rfl
   have F := t1.frz
   obtain ⟨W2, hW2⟩ : ∃ x, x = W1.setCell ⟨D, 1, none⟩ (.int .i64 (valB (cutV 1 (cutQ 1 (some pl))) : Nat)) := ⟨_, rfl⟩
   have hst := t1.set (k := 1) (mlC (⟨7, nV 1 (cutQ 1 (some pl)), 0, tx00, tx00, [], [], [], 0, [], [], 0, 0, [], 0, [], 0, 0⟩ : Ml) zS zS zS zS zS).toList rfl hW2
   have t := hst.1
   obtain ⟨vrow, hrow⟩ := t1.row
   have HW := hW2.symm
   have CK : W2.cell? ⟨D, 0, none⟩ = some (.int .i64 7) := t.cell 0 _ rfl
   clear hst hW2 t1 hrow
   go_wp2_with fail
   clear HW CK
   try clear C F
   refine (hN _ _ 1 (by omega) t.r).mono ?_
   rintro e W1 ⟨rfl, hr1, hk1⟩
   have t1 := t.step hr1 hk1
   obtain ⟨vrow, hrow⟩ := t.r.row
   clear t hr1 hk1 hrow
   have C : W1.cell? ⟨D, 2, none⟩ = some _ := t1.cell 2 _ rfl
   have F := t1.frz
   obtain ⟨W2, hW2⟩ : ∃ x, x = W1.setCell ⟨D, 2, none⟩ (.int .i64 (valB (cutV 1 (cutQ 1 (cutQ 1 (some pl)))) : Nat)) := ⟨_, rfl⟩
   have hst := t1.set (k := 2) (mlC (⟨7, nV 1 (cutQ 1 (some pl)), nV 1 (cutQ 1 (cutQ 1 (some pl))), tx00, tx00, [], [], [], 0, [], [], 0, 0, [], 0, [], 0, 0⟩ : Ml) zS zS zS zS zS).toList rfl hW2
   have t := hst.1
   obtain ⟨vrow, hrow⟩ := t1.row
   have HW := hW2.symm
   have CK : W2.cell? ⟨D, 0, none⟩ = some (.int .i64 7) := t.cell 0 _ rfl
   clear hst hW2 t1 hrow
   go_wp2_with fail
   refine (HK1 _).mono ?_
   rintro e wq ⟨rfl, hwq⟩
   subst hwq
   go_wp2_with fail
   refine (HK2 _).mono ?_
   rintro e wq ⟨rfl, hwq⟩
   subst hwq
   go_wp2_with fail
   clear HW CK
   try clear C F
   refine (hN _ _ 4 (by omega) t.r).mono ?_
   rintro e W1 ⟨rfl, hr1, hk1⟩
   have t1 := t.step hr1 hk1
   obtain ⟨vrow, hrow⟩ := t.r.row
   clear t hr1 hk1 hrow
   have C : W1.cell? ⟨D, 21, none⟩ = some _ := t1.cell 21 _ rfl
   have F := t1.frz
   obtain ⟨W2, hW2⟩ : ∃ x, x = W1.setCell ⟨D, 21, none⟩ (.int .i64 (valB (cutV 4 (cutQ 1 (cutQ 1 (cutQ 1 (some pl))))) : Nat)) := ⟨_, rfl⟩
   have hst := t1.set (k := 21) (mlC (⟨7, nV 1 (cutQ 1 (some pl)), nV 1 (cutQ 1 (cutQ 1 (some pl))), tx00, tx00, [], [], [], 0, [], [], 0, 0, [], 0, [], 0, nV 4 (cutQ 1 (cutQ 1 (cutQ 1 (some pl))))⟩ : Ml) zS zS zS zS zS).toList rfl hW2
   have t := hst.1
   obtain ⟨vrow, hrow⟩ := t1.row
   have HW := hW2.symm
   have CK : W2.cell? ⟨D, 0, none⟩ = some (.int .i64 7) := t.cell 0 _ rfl
   clear hst hW2 t1 hrow
   go_wp2_with fail
   refine (HK3 _).mono ?_
   rintro e wq ⟨rfl, hwq⟩
   subst hwq
   go_wp2_with fail
   clear HW CK
   try clear C F
   refine (hN _ _ 1 (by omega) t.r).mono ?_
   rintro e W1 ⟨rfl, hr1, hk1⟩
   have t1 := t.step hr1 hk1
   obtain ⟨vrow, hrow⟩ := t.r.row
   clear t hr1 hk1 hrow
   have C : W1.cell? ⟨D, 12, none⟩ = some _ := t1.cell 12 _ rfl
   have F := t1.frz
   obtain ⟨W2, hW2⟩ : ∃ x, x = W1.setCell ⟨D, 12, none⟩ (.int .i64 (valB (cutV 1 (cutQ 4 (cutQ 1 (cutQ 1 (cutQ 1 (some pl)))))) : Nat)) := ⟨_, rfl⟩
   have hst := t1.set (k := 12) (mlC (⟨7, nV 1 (cutQ 1 (some pl)), nV 1 (cutQ 1 (cutQ 1 (some pl))), tx00, tx00, [], [], [], nV 1 (cutQ 4 (cutQ 1 (cutQ 1 (cutQ 1 (some pl))))), [], [], 0, 0, [], 0, [], 0, nV 4 (cutQ 1 (cutQ 1 (cutQ 1 (some pl))))⟩ : Ml) zS zS zS zS zS).toList rfl hW2
   have t := hst.1
   obtain ⟨vrow, hrow⟩ := t1.row
   have HW := hW2.symm
   have CK : W2.cell? ⟨D, 0, none⟩ = some (.int .i64 7) := t.cell 0 _ rfl
   clear hst hW2 t1 hrow
   go_wp2_with fail
   clear HW CK
   try clear C F
   refine (hL _ _ 4 (by omega) t.r).mono ?_
   rintro e W1 ⟨vl_, rfl, hov, hr1, hk1⟩
   have t1 := t.step hr1 hk1
   have hNr := hov.low (Nat.le_trans hx01.size t.r.2.1.size)
   obtain ⟨vrow, hrow⟩ := t.r.row
   clear t hr1 hk1 hrow
   obtain ⟨An, cn, rfl⟩ := hov.form
   clear hov
   have C : W1.cell? ⟨D, 13, none⟩ = some _ := t1.cell 13 _ rfl
   have F := t1.frz
   obtain ⟨W2, hW2⟩ : ∃ x, x = W1.setCell ⟨D, 13, none⟩ (.slice An (liV 4 (cutQ 1 (cutQ 4 (cutQ 1 (cutQ 1 (cutQ 1 (some pl))))))).length cn) := ⟨_, rfl⟩
   have hst := t1.set (k := 13) (mlC (⟨7, nV 1 (cutQ 1 (some pl)), nV 1 (cutQ 1 (cutQ 1 (some pl))), tx00, tx00, [], [], [], nV 1 (cutQ 4 (cutQ 1 (cutQ 1 (cutQ 1 (some pl))))), liV 4 (cutQ 1 (cutQ 4 (cutQ 1 (cutQ 1 (cutQ 1 (some pl)))))), [], 0, 0, [], 0, [], 0, nV 4 (cutQ 1 (cutQ 1 (cutQ 1 (some pl))))⟩ : Ml) zS zS zS (.slice An (liV 4 (cutQ 1 (cutQ 4 (cutQ 1 (cutQ 1 (cutQ 1 (some pl))))))).length cn) zS).toList rfl hW2
   have t := hst.1
   obtain ⟨vrow, hrow⟩ := t1.row
   have hNr := hNr.off hrow (by decide) hst.2
   have HW := hW2.symm
   have CK : W2.cell? ⟨D, 0, none⟩ = some (.int .i64 7) := t.cell 0 _ rfl
   clear hst hW2 t1 hrow
   go_wp2_with fail
   clear HW CK C F
   refine (hN _ _ 1 (by omega) t.r).mono ?_
   rintro e W0 ⟨rfl, hr1, hk1⟩
   have t0 := t.step hr1 hk1
   obtain ⟨vrow, hrow⟩ := t.r.row
   have hNr := hNr.off hrow (by decide) hk1
   have hvc := valB_cut 1 (liQ 4 (cutQ 1 (cutQ 4 (cutQ 1 (cutQ 1 (cutQ 1 (some pl)))))))
   clear t hr1 hk1 hrow
   go_wp2_with fail
   refine (hC _ _ (valB (cutV 1 (liQ 4 (cutQ 1 (cutQ 4 (cutQ 1 (cutQ 1 (cutQ 1 (some pl))))))))) (by omega) t0.r).mono ?_
   rintro e W1 ⟨vb_, rfl, ho1, hr1, hk1⟩
   have t1 := t0.step hr1 hk1
   obtain ⟨vrow, hrow⟩ := t0.r.row
   have hNr := hNr.off hrow (by decide) hk1
   clear t0 hr1 hk1 hrow hvc
   obtain ⟨Ab_, cb_, rfl⟩ := ho1.form
   have s_ := run_str (P := Tryz.prog) Tryz.underlying22 Tryz.underlying5 Tryz.underlying9 ho1.bs _ cb_ rfl _ (Ext.refl _)
   clear ho1
   have C : W1.cell? ⟨D, 14, none⟩ = some _ := t1.cell 14 _ rfl
   have F := t1.frz
   obtain ⟨W2, hW2⟩ : ∃ x, x = W1.setCell ⟨D, 14, none⟩ (.string (st (shV (liQ 4 (cutQ 1 (cutQ 4 (cutQ 1 (cutQ 1 (cutQ 1 (some pl)))))))))) := ⟨_, rfl⟩
   have hst := t1.set (k := 14) (mlC (⟨7, nV 1 (cutQ 1 (some pl)), nV 1 (cutQ 1 (cutQ 1 (some pl))), tx00, tx00, [], [], [], nV 1 (cutQ 4 (cutQ 1 (cutQ 1 (cutQ 1 (some pl))))), liV 4 (cutQ 1 (cutQ 4 (cutQ 1 (cutQ 1 (cutQ 1 (some pl)))))), shV (liQ 4 (cutQ 1 (cutQ 4 (cutQ 1 (cutQ 1 (cutQ 1 (some pl))))))), 0, 0, [], 0, [], 0, nV 4 (cutQ 1 (cutQ 1 (cutQ 1 (some pl))))⟩ : Ml) zS zS zS (.slice An (liV 4 (cutQ 1 (cutQ 4 (cutQ 1 (cutQ 1 (cutQ 1 (some pl))))))).length cn) zS).toList rfl hW2
   have t := hst.1
   obtain ⟨vrow, hrow⟩ := t1.row
   have hNr := hNr.off hrow (by decide) hst.2
   have HW := hW2.symm
   have CK : W2.cell? ⟨D, 0, none⟩ = some (.int .i64 7) := t.cell 0 _ rfl
   clear hst hW2 t1 hrow
   have HW : W1.setCell ⟨D, 14, none⟩ (.string (st (cutV (valB (cutV 1 (liQ 4 (cutQ 1 (cutQ 4 (cutQ 1 (cutQ 1 (cutQ 1 (some pl))))))))) (cutQ 1 (liQ 4 (cutQ 1 (cutQ 4 (cutQ 1 (cutQ 1 (cutQ 1 (some pl))))))))))) = W2 := HW
   have t : TM w1 R D (shQ (liQ 4 (cutQ 1 (cutQ 4 (cutQ 1 (cutQ 1 (cutQ 1 (some pl)))))))) (mlC (⟨7, nV 1 (cutQ 1 (some pl)), nV 1 (cutQ 1 (cutQ 1 (some pl))), tx00, tx00, [], [], [], nV 1 (cutQ 4 (cutQ 1 (cutQ 1 (cutQ 1 (some pl))))), liV 4 (cutQ 1 (cutQ 4 (cutQ 1 (cutQ 1 (cutQ 1 (some pl)))))), shV (liQ 4 (cutQ 1 (cutQ 4 (cutQ 1 (cutQ 1 (cutQ 1 (some pl))))))), 0, 0, [], 0, [], 0, nV 4 (cutQ 1 (cutQ 1 (cutQ 1 (some pl))))⟩ : Ml) zS zS zS (.slice An (liV 4 (cutQ 1 (cutQ 4 (cutQ 1 (cutQ 1 (cutQ 1 (some pl))))))).length cn) zS).toList W2 := t
   go_wp2_with fail
   clear HW CK
   try clear C F
   refine (hN _ _ 1 (by omega) t.r).mono ?_
   rintro e W1 ⟨rfl, hr1, hk1⟩
   have t1 := t.step hr1 hk1
   obtain ⟨vrow, hrow⟩ := t.r.row
   have hNr := hNr.off hrow (by decide) hk1
   clear t hr1 hk1 hrow
   have C : W1.cell? ⟨D, 15, none⟩ = some _ := t1.cell 15 _ rfl
   have F := t1.frz
   obtain ⟨W2, hW2⟩ : ∃ x, x = W1.setCell ⟨D, 15, none⟩ (.int .i64 (valB (cutV 1 (shQ (liQ 4 (cutQ 1 (cutQ 4 (cutQ 1 (cutQ 1 (cutQ 1 (some pl))))))))) : Nat)) := ⟨_, rfl⟩
   have hst := t1.set (k := 15) (mlC (⟨7, nV 1 (cutQ 1 (some pl)), nV 1 (cutQ 1 (cutQ 1 (some pl))), tx00, tx00, [], [], [], nV 1 (cutQ 4 (cutQ 1 (cutQ 1 (cutQ 1 (some pl))))), liV 4 (cutQ 1 (cutQ 4 (cutQ 1 (cutQ 1 (cutQ 1 (some pl)))))), shV (liQ 4 (cutQ 1 (cutQ 4 (cutQ 1 (cutQ 1 (cutQ 1 (some pl))))))), nV 1 (shQ (liQ 4 (cutQ 1 (cutQ 4 (cutQ 1 (cutQ 1 (cutQ 1 (some pl)))))))), 0, [], 0, [], 0, nV 4 (cutQ 1 (cutQ 1 (cutQ 1 (some pl))))⟩ : Ml) zS zS zS (.slice An (liV 4 (cutQ 1 (cutQ 4 (cutQ 1 (cutQ 1 (cutQ 1 (some pl))))))).length cn) zS).toList rfl hW2
   have t := hst.1
   obtain ⟨vrow, hrow⟩ := t1.row
   have hNr := hNr.off hrow (by decide) hst.2
   have HW := hW2.symm
   have CK : W2.cell? ⟨D, 0, none⟩ = some (.int .i64 7) := t.cell 0 _ rfl
   clear hst hW2 t1 hrow
   go_wp2_with fail
   clear HW CK
   try clear C F
   refine (hN _ _ 4 (by omega) t.r).mono ?_
   rintro e W1 ⟨rfl, hr1, hk1⟩
   have t1 := t.step hr1 hk1
   obtain ⟨vrow, hrow⟩ := t.r.row
   have hNr := hNr.off hrow (by decide) hk1
   clear t hr1 hk1 hrow
   have C : W1.cell? ⟨D, 16, none⟩ = some _ := t1.cell 16 _ rfl
   have F := t1.frz
   obtain ⟨W2, hW2⟩ : ∃ x, x = W1.setCell ⟨D, 16, none⟩ (.int .i64 (valB (cutV 4 (cutQ 1 (shQ (liQ 4 (cutQ 1 (cutQ 4 (cutQ 1 (cutQ 1 (cutQ 1 (some pl)))))))))) : Nat)) := ⟨_, rfl⟩
   have hst := t1.set (k := 16) (mlC (⟨7, nV 1 (cutQ 1 (some pl)), nV 1 (cutQ 1 (cutQ 1 (some pl))), tx00, tx00, [], [], [], nV 1 (cutQ 4 (cutQ 1 (cutQ 1 (cutQ 1 (some pl))))), liV 4 (cutQ 1 (cutQ 4 (cutQ 1 (cutQ 1 (cutQ 1 (some pl)))))), shV (liQ 4 (cutQ 1 (cutQ 4 (cutQ 1 (cutQ 1 (cutQ 1 (some pl))))))), nV 1 (shQ (liQ 4 (cutQ 1 (cutQ 4 (cutQ 1 (cutQ 1 (cutQ 1 (some pl)))))))), nV 4 (cutQ 1 (shQ (liQ 4 (cutQ 1 (cutQ 4 (cutQ 1 (cutQ 1 (cutQ 1 (some pl))))))))), [], 0, [], 0, nV 4 (cutQ 1 (cutQ 1 (cutQ 1 (some pl))))⟩ : Ml) zS zS zS (.slice An (liV 4 (cutQ 1 (cutQ 4 (cutQ 1 (cutQ 1 (cutQ 1 (some pl))))))).length cn) zS).toList rfl hW2
   have t := hst.1
   obtain ⟨vrow, hrow⟩ := t1.row
   have hNr := hNr.off hrow (by decide) hst.2
   have HW := hW2.symm
   have CK : W2.cell? ⟨D, 0, none⟩ = some (.int .i64 7) := t.cell 0 _ rfl
   clear hst hW2 t1 hrow
   go_wp2_with fail
   clear HW CK C F
   refine (hN _ _ 2 (by omega) t.r).mono ?_
   rintro e W0 ⟨rfl, hr1, hk1⟩
   have t0 := t.step hr1 hk1
   obtain ⟨vrow, hrow⟩ := t.r.row
   have hNr := hNr.off hrow (by decide) hk1
   have hvc := valB_cut 2 (cutQ 4 (cutQ 1 (shQ (liQ 4 (cutQ 1 (cutQ 4 (cutQ 1 (cutQ 1 (cutQ 1 (some pl))))))))))
   clear t hr1 hk1 hrow
   go_wp2_with fail
   refine (hC _ _ (valB (cutV 2 (cutQ 4 (cutQ 1 (shQ (liQ 4 (cutQ 1 (cutQ 4 (cutQ 1 (cutQ 1 (cutQ 1 (some pl)))))))))))) (by omega) t0.r).mono ?_
   rintro e W1 ⟨vb_, rfl, ho1, hr1, hk1⟩
   have t1 := t0.step hr1 hk1
   have hVb := ho1.low (Nat.le_trans hx01.size t0.r.2.1.size)
   obtain ⟨vrow, hrow⟩ := t0.r.row
   have hNr := hNr.off hrow (by decide) hk1
   clear t0 hr1 hk1 hrow hvc
   obtain ⟨Av, cv, rfl⟩ := ho1.form
   clear ho1
   have C : W1.cell? ⟨D, 17, none⟩ = some _ := t1.cell 17 _ rfl
   have F := t1.frz
   obtain ⟨W2, hW2⟩ : ∃ x, x = W1.setCell ⟨D, 17, none⟩ (.slice Av (loV (cutQ 4 (cutQ 1 (shQ (liQ 4 (cutQ 1 (cutQ 4 (cutQ 1 (cutQ 1 (cutQ 1 (some pl))))))))))).length cv) := ⟨_, rfl⟩
   have hst := t1.set (k := 17) (mlC (⟨7, nV 1 (cutQ 1 (some pl)), nV 1 (cutQ 1 (cutQ 1 (some pl))), tx00, tx00, [], [], [], nV 1 (cutQ 4 (cutQ 1 (cutQ 1 (cutQ 1 (some pl))))), liV 4 (cutQ 1 (cutQ 4 (cutQ 1 (cutQ 1 (cutQ 1 (some pl)))))), shV (liQ 4 (cutQ 1 (cutQ 4 (cutQ 1 (cutQ 1 (cutQ 1 (some pl))))))), nV 1 (shQ (liQ 4 (cutQ 1 (cutQ 4 (cutQ 1 (cutQ 1 (cutQ 1 (some pl)))))))), nV 4 (cutQ 1 (shQ (liQ 4 (cutQ 1 (cutQ 4 (cutQ 1 (cutQ 1 (cutQ 1 (some pl))))))))), loV (cutQ 4 (cutQ 1 (shQ (liQ 4 (cutQ 1 (cutQ 4 (cutQ 1 (cutQ 1 (cutQ 1 (some pl)))))))))), 0, [], 0, nV 4 (cutQ 1 (cutQ 1 (cutQ 1 (some pl))))⟩ : Ml) zS zS zS (.slice An (liV 4 (cutQ 1 (cutQ 4 (cutQ 1 (cutQ 1 (cutQ 1 (some pl))))))).length cn) (.slice Av (loV (cutQ 4 (cutQ 1 (shQ (liQ 4 (cutQ 1 (cutQ 4 (cutQ 1 (cutQ 1 (cutQ 1 (some pl))))))))))).length cv)).toList rfl hW2
   have t := hst.1
   obtain ⟨vrow, hrow⟩ := t1.row
   have hNr := hNr.off hrow (by decide) hst.2
   have hVb := Own.off hVb hrow (by decide) hst.2
   have HW := hW2.symm
   have CK : W2.cell? ⟨D, 0, none⟩ = some (.int .i64 7) := t.cell 0 _ rfl
   clear hst hW2 t1 hrow
   have HW : W1.setCell ⟨D, 17, none⟩ (.slice Av (cutV (valB (cutV 2 (cutQ 4 (cutQ 1 (shQ (liQ 4 (cutQ 1 (cutQ 4 (cutQ 1 (cutQ 1 (cutQ 1 (some pl)))))))))))) (cutQ 2 (cutQ 4 (cutQ 1 (shQ (liQ 4 (cutQ 1 (cutQ 4 (cutQ 1 (cutQ 1 (cutQ 1 (some pl)))))))))))).length cv) = W2 := HW
   obtain ⟨qe, hqe, hte⟩ : ∃ qe, qe = loQ (cutQ 4 (cutQ 1 (shQ (liQ 4 (cutQ 1 (cutQ 4 (cutQ 1 (cutQ 1 (cutQ 1 (some pl)))))))))) ∧ TM w1 R D qe (mlC (⟨7, nV 1 (cutQ 1 (some pl)), nV 1 (cutQ 1 (cutQ 1 (some pl))), tx00, tx00, [], [], [], nV 1 (cutQ 4 (cutQ 1 (cutQ 1 (cutQ 1 (some pl))))), liV 4 (cutQ 1 (cutQ 4 (cutQ 1 (cutQ 1 (cutQ 1 (some pl)))))), shV (liQ 4 (cutQ 1 (cutQ 4 (cutQ 1 (cutQ 1 (cutQ 1 (some pl))))))), nV 1 (shQ (liQ 4 (cutQ 1 (cutQ 4 (cutQ 1 (cutQ 1 (cutQ 1 (some pl)))))))), nV 4 (cutQ 1 (shQ (liQ 4 (cutQ 1 (cutQ 4 (cutQ 1 (cutQ 1 (cutQ 1 (some pl))))))))), loV (cutQ 4 (cutQ 1 (shQ (liQ 4 (cutQ 1 (cutQ 4 (cutQ 1 (cutQ 1 (cutQ 1 (some pl)))))))))), 0, [], 0, nV 4 (cutQ 1 (cutQ 1 (cutQ 1 (some pl))))⟩ : Ml) zS zS zS (.slice An (liV 4 (cutQ 1 (cutQ 4 (cutQ 1 (cutQ 1 (cutQ 1 (some pl))))))).length cn) (.slice Av (loV (cutQ 4 (cutQ 1 (shQ (liQ 4 (cutQ 1 (cutQ 4 (cutQ 1 (cutQ 1 (cutQ 1 (some pl))))))))))).length cv)).toList W2 := ⟨_, rfl, t⟩
   have HRR : Hid (rdR 7 s0 d0 q3 = rdO (⟨7, nV 1 (cutQ 1 (some pl)), nV 1 (cutQ 1 (cutQ 1 (some pl))), tx00, tx00, [], [], [], nV 1 (cutQ 4 (cutQ 1 (cutQ 1 (cutQ 1 (some pl))))), liV 4 (cutQ 1 (cutQ 4 (cutQ 1 (cutQ 1 (cutQ 1 (some pl)))))), shV (liQ 4 (cutQ 1 (cutQ 4 (cutQ 1 (cutQ 1 (cutQ 1 (some pl))))))), nV 1 (shQ (liQ 4 (cutQ 1 (cutQ 4 (cutQ 1 (cutQ 1 (cutQ 1 (some pl)))))))), nV 4 (cutQ 1 (shQ (liQ 4 (cutQ 1 (cutQ 4 (cutQ 1 (cutQ 1 (cutQ 1 (some pl))))))))), loV (cutQ 4 (cutQ 1 (shQ (liQ 4 (cutQ 1 (cutQ 4 (cutQ 1 (cutQ 1 (cutQ 1 (some pl)))))))))), 0, [], 0, nV 4 (cutQ 1 (cutQ 1 (cutQ 1 (some pl))))⟩ : Ml) qe) := Lib.hid (by rw [hqe, HS0.out, HD0.out, HQ3.out]; rfl)
   clear t hqe
   cases qe with
   | none =>
    have HB : Hid (takeT b = .inl 3) := Lib.hid (by rw [HT2.out, HRR.out]; rfl)
    have C1 := hte.r.off
    rw [show (none : Option By).isNone = true from rfl] at C1
    have hrT6 := hte.r.2.1.obj hrT1
    have hxw6 := hx01.trans hte.r.2.1
    clear HRR hte HT2
    go_wp2_with (with_reducible refine sS 37 ?_)
    refine go_on (wpList_store_whole (c := zMC) (c' := zMC) rfl rfl rfl rfl hrT6 (by kernel_rfl) (by rfl) zMC_one ?_)
    intro wz hrowZ hkz _
    go_wp2
    ((try simp only [Exit.inBlock, Exit.then]); refine bodyPost_ret (results_cell1 rfl _ _ w.heap.size _ _ _ _ rfl hrowZ Tryz.underlying37 rfl (by kernel_rfl)) rfl ?_)
    exact TakeW.no HB.out (hxw6.kept hkz (by intro k hk; simp at hk; omega))
   | some r =>
    have C1 := hte.r.off
    rw [show (some r : Option By).isNone = false from rfl] at C1
    obtain ⟨Ar, cr, hrowR, -, -⟩ := hte.r.2.2
    obtain ⟨R0, -, -⟩ := row2_at hrowR
    have t := hte
    obtain ⟨m, hm⟩ : ∃ m, m = (⟨7, nV 1 (cutQ 1 (some pl)), nV 1 (cutQ 1 (cutQ 1 (some pl))), tx00, tx00, [], [], [], nV 1 (cutQ 4 (cutQ 1 (cutQ 1 (cutQ 1 (some pl))))), liV 4 (cutQ 1 (cutQ 4 (cutQ 1 (cutQ 1 (cutQ 1 (some pl)))))), shV (liQ 4 (cutQ 1 (cutQ 4 (cutQ 1 (cutQ 1 (cutQ 1 (some pl))))))), nV 1 (shQ (liQ 4 (cutQ 1 (cutQ 4 (cutQ 1 (cutQ 1 (cutQ 1 (some pl)))))))), nV 4 (cutQ 1 (shQ (liQ 4 (cutQ 1 (cutQ 4 (cutQ 1 (cutQ 1 (cutQ 1 (some pl))))))))), loV (cutQ 4 (cutQ 1 (shQ (liQ 4 (cutQ 1 (cutQ 4 (cutQ 1 (cutQ 1 (cutQ 1 (some pl)))))))))), 0, [], 0, nV 4 (cutQ 1 (cutQ 1 (cutQ 1 (some pl))))⟩ : Ml) := ⟨_, rfl⟩
    have hrr : rdR 7 s0 d0 q3 = .inr (m, r) := by rw [HRR.out, hm]; rfl
    have HT3 : Hid (takeT b = if r ≠ [] then .inl 4 else if checkM m ≠ 0 then .inl (checkM m) else .inr m) := Lib.hid (by rw [HT2.out, hrr])
    have hok := rdR_len hrr
    obtain ⟨P_, D_, E_, N_, V_, hrows, ht⟩ : ∃ P D_ E N V, Rows W2 w.heap.size m P D_ E N V ∧ TM w1 R D (some r) (mlC m P D_ E N V).toList W2 := ⟨_, _, _, _, _, by rw [hm]; exact ⟨OwnI.nil _ _, OwnDs.nil0 _ _, OwnI.nil _ _, hNr, hVb⟩, by rw [hm]; exact t⟩
    clear t hte HRR HT2 hrr hm hrowR
    have t := ht
    clear ht
    by_cases hr0 : r = []
    ·subst hr0
     have HT4 := Lib.hid (HT3.out.trans (if_neg (by simp)))
     clear HT3
     obtain ⟨hP, hD, hE, hN_, hV⟩ := hrows
     obtain ⟨Ap, cp, hPe⟩ := hP.form
     obtain ⟨Ad, cd, hDe⟩ := hD.form
     obtain ⟨Ae, ce, hEe⟩ := hE.form
     obtain ⟨An, cn, hNe⟩ := hN_.form
     obtain ⟨Av2, cv2, hVe⟩ := hV.form
     have HCH := rCheck_own hP hD hE hN_ hV hok (hTb.ext (hx01.trans t.r.2.1))
     obtain ⟨mc, hmc⟩ : ∃ mc, mc = mlC m P_ D_ E_ N_ V_ := ⟨_, rfl⟩
     have h1c : mc.all (·.oneCell') = true := by rw [hmc, hPe, hDe, hEe, hNe, hVe]; simp [mlC, Value.oneCell']
     have hsz : (Tryz.prog.info? 37).map (·.size) = some mc.size := by rw [hmc]; kernel_rfl
     have hszz : zMC.size = mc.size := by rw [hmc]; rfl
     have hrd : W2.heap[D]? = some (.cells mc 37 (0, 0)) := by rw [hmc]; exact t.d
     have HROWS : Hid (Rows W2 w.heap.size m P_ D_ E_ N_ V_) := Lib.hid ⟨hP, hD, hE, hN_, hV⟩
     rw [← hmc] at HCH
     have HMC := Lib.hid hmc
     have hx12 := t.r.2.1
     clear hP hD hE hN_ hV hmc hPe hDe hEe hNe hVe t hok
     go_wp2_with (with_reducible refine sL 37 ?_)
     try clear HW
     refine go_on (wpList_load_row rfl 37 _ rfl D rfl 37 _ (0, 0) _ hrd Tryz.underlying37 rfl hsz ?_)
     go_wp2_with fail
     refine HCH.mono ?_
     rintro e W7 ⟨rfl, hx7⟩
     have hrT7 := (hx12.trans hx7).obj hrT1
     have hxw7 := hx01.trans (hx12.trans hx7)
     have hrd7 := hx7.obj hrd
     clear HCH
     by_cases hcm : checkM m = 0
     ·have HB := Lib.hid (HT4.out.trans (if_neg (by simp [hcm])))
      rw [hcm]
      clear HT4 hcm
      go_wp2_with (with_reducible refine sL 37 ?_)
      refine go_on (wpList_load_row rfl 37 _ rfl D rfl 37 _ (0, 0) _ hrd7 Tryz.underlying37 rfl hsz ?_)
      go_wp2_with (with_reducible first | refine sL 37 ?_ | refine sS 37 ?_ | refine sA 37 ?_ | refine sL 25 ?_ | refine sS 25 ?_)
      refine go_on (wpList_store_whole (c := zMC) rfl rfl rfl rfl hrT7 hsz hszz h1c ?_)
      intro W8 hrow8 hk8 _
      have HR8 := Lib.hid ((HROWS.out.ext hx7).off hrT7 hk8)
      clear HROWS hrd hrd7
      go_wp2
      ((try simp only [Exit.inBlock, Exit.then]); refine bodyPost_ret (results_cell1 rfl _ _ w.heap.size _ _ _ _ rfl hrow8 Tryz.underlying37 rfl hsz) rfl ?_)
      refine ⟨hxw7.kept hk8 (by intro k hk; simp at hk; omega), ?_⟩
      rw [HB.out]
      exact ⟨_, _, _, _, _, by rw [HMC.out]; rfl, HR8.out⟩
     ·have HB : Hid (takeT b = .inl (checkM m)) := Lib.hid (HT4.out.trans (if_pos hcm))
      have hc0 : (((checkM m : Nat) : Int) == 0) = false := by simpa using hcm
      generalize checkM m = z at *
      clear HT4 hcm HROWS hrd hrd7
      go_wp2_with (with_reducible refine sS 37 ?_)
      refine go_on (wpList_store_whole (c := zMC) (c' := zMC) rfl rfl rfl rfl hrT7 (by kernel_rfl) (by rfl) zMC_one ?_)
      intro wz hrowZ hkz _
      go_wp2
      ((try simp only [Exit.inBlock, Exit.then]); refine bodyPost_ret (results_cell1 rfl _ _ w.heap.size _ _ _ _ rfl hrowZ Tryz.underlying37 rfl (by kernel_rfl)) rfl ?_)
      exact TakeW.no HB.out (hxw7.kept hkz (by intro k hk; simp at hk; omega))
    ·have HB : Hid (takeT b = .inl 4) := Lib.hid (HT3.out.trans (if_pos hr0))
     have hl0 : (0 : Int) < (r.length : Int) := by have := List.length_pos_iff.2 hr0; omega
     have hrT6 := t.r.2.1.obj hrT1
     have hxw6 := hx01.trans t.r.2.1
     clear HT3 hrows t
     go_wp2_with (with_reducible refine sS 37 ?_)
     refine go_on (wpList_store_whole (c := zMC) (c' := zMC) rfl rfl rfl rfl hrT6 (by kernel_rfl) (by rfl) zMC_one ?_)
     intro wz hrowZ hkz _
     go_wp2
     ((try simp only [Exit.inBlock, Exit.then]); refine bodyPost_ret (results_cell1 rfl _ _ w.heap.size _ _ _ _ rfl hrowZ Tryz.underlying37 rfl (by kernel_rfl)) rfl ?_)
     exact TakeW.no HB.out (hxw6.kept hkz (by intro k hk; simp at hk; omega))
 ·have HB : Hid (takeT b = .inl ec) := Lib.hid (HT.out.trans (if_pos (by omega)))
  have he2 : ((ec : Int) == 0) = false := by simpa using he0
  clear HT ho1 h0l
  go_wp2_with (with_reducible refine sS 37 ?_)
  refine go_on (wpList_store_whole (c := zMC) (c' := zMC) rfl rfl rfl rfl hrT1 (by kernel_rfl) (by rfl) zMC_one ?_)
  intro wz hrowZ hkz _
  go_wp2
  ((try simp only [Exit.inBlock, Exit.then]); refine bodyPost_ret (results_cell1 rfl _ _ w.heap.size _ _ _ _ rfl hrowZ Tryz.underlying37 rfl (by kernel_rfl)) rfl ?_)
  exact TakeW.no HB.out (hx01.kept hkz (by intro k hk; simp at hk; omega))
end Go.Proofs.YthlppbbejdeeoaaGreatDoor
