/- The walks of wire's reader: take, num, list, text. Conditions: the hypotheses of each theorem. The walk of wire's reader.read. Conditions: the walk of deed.Check (CheckLaw), and the hypotheses of each theorem. -/
import Derived.Test.YthlppbbejdeeoaaGreatDoorC3
import Derived.Test.YthlppbbejdeeoaaGreatDoorC8
import Derived.Test.YthlppbbejdeeoaaGreatDoorWrBM
namespace Go.Proofs.YthlppbbejdeeoaaGreatDoor
open Go.RowKit
/-- the reader at p: what it has still (none: it ended), and the message's cells -/
def RW (w0 w : World) (p : Nat) (q : Option By) (cs : List Value) : Prop := w0.heap.size ≤ p ∧ Ext w0 w ∧ match q with
 | some l => ∃ A cap, w.heap[p]? = some (.cells (.slice A l.length cap :: .bool false :: cs).toArray 54 (0, 0)) ∧ l.length ≤ cap ∧ Bs w0 A l
 | none => ∃ A n cap, w.heap[p]? = some (.cells (.slice A n cap :: .bool true :: cs).toArray 54 (0, 0))
section
variable {w0 w w' : World} {p : Nat} {q : Option By} {cs : List Value}
theorem RW.row (h : RW w0 w p q cs) : ∃ v, w.heap[p]? = some (.cells (v :: .bool q.isNone :: cs).toArray 54 (0, 0)) := by
 cases q with
 | none => obtain ⟨A, n, c, h1⟩ := h.2.2; exact ⟨_, h1⟩
 | some l => obtain ⟨A, c, h1, h2⟩ := h.2.2; exact ⟨_, h1⟩
theorem RW.lt (h : RW w0 w p q cs) : p < w.heap.size := by
 obtain ⟨v, h⟩ := h.row
 exact obj_lt h
theorem RW.kept {M : List Nat} (h : RW w0 w p q cs) (hk : Kept M w w') (hp : p ∉ M) (hM : ∀ k ∈ M, w0.heap.size ≤ k) : RW w0 w' p q cs := by
 refine ⟨h.1, h.2.1.kept hk hM, ?_⟩
 cases q with
 | none => obtain ⟨A, n, c, h1⟩ := h.2.2; exact ⟨A, n, c, hk.heap h1 hp⟩
 | some l => obtain ⟨A, c, h1, h2⟩ := h.2.2; exact ⟨A, c, hk.heap h1 hp, h2⟩
theorem RW.ext (h : RW w0 w p q cs) (hx : Ext w w') : RW w0 w' p q cs := h.kept (M := []) (.of_ext hx) (by simp) (by simp)
theorem RW.off (h : RW w0 w p q cs) : w.cell? ⟨p, 1, none⟩ = some (.bool q.isNone) := by
 obtain ⟨v, h⟩ := h.row
 rw [cell_of_row w p 1 _ _ _ h]
 rfl
theorem RW.cell (h : RW w0 w p q cs) (k : Nat) (v : Value) (hv : cs[k]? = some v) : w.cell? ⟨p, k + 2, none⟩ = some v := by
 obtain ⟨u, h⟩ := h.row
 rw [cell_of_row w p (k + 2) _ _ _ h]
 simpa using hv
theorem RW.frz (h : RW w0 w p q cs) (j : Nat) : w.frozen? ⟨p, j, none⟩ = false := by
 obtain ⟨u, h⟩ := h.row
 exact frozen_of_row w p j _ _ h
theorem RW.set (h : RW w0 w p q cs) {k : Nat} {v : Value} (cs' : List Value) (hc : cs.set k v = cs') {j : Nat} (hj : j = k + 2) (hw : w' = w.setCell ⟨p, j, none⟩ v) : RW w0 w' p q cs' ∧ Kept [p] w w' := by
 subst hj
 have hk : Kept [p] w w' := hw ▸ (Kept.refl _ _).setCell (.inl (by simp)) _
 refine ⟨⟨h.1, h.2.1.kept hk (by intro k hk; simp at hk; subst hk; exact h.1), ?_⟩, hk⟩
 cases q with
 | none =>
  obtain ⟨A, n, c, h1⟩ := h.2.2
  refine ⟨A, n, c, ?_⟩
  rw [hw, heap_setCell_same w p (k + 2) _ _ _ h1, ← hc]
  simp
 | some l =>
  obtain ⟨A, c, h1, h2⟩ := h.2.2
  refine ⟨A, c, ?_, h2⟩
  rw [hw, heap_setCell_same w p (k + 2) _ _ _ h1, ← hc]
  simp
end
theorem RW.grown {w0 w w' : World} {p : Nat} {q : Option By} {cs : List Value} {row : Option Nat} (h : RW w0 w p q cs) (hg : w.grownBy w' row) (hne : row = none ∨ row ≠ some p) (hr : ∀ k, row = some k → w0.heap.size ≤ k) : RW w0 w' p q cs := by
 have hb : w'.heap[p]? = w.heap[p]? := hg.block p h.lt (by
  intro e
  rcases hne with h1 | h1
  ·rw [h1] at e; cases e
  ·exact h1 e.symm)
 refine ⟨h.1, h.2.1.grown hg hr, ?_⟩
 cases q with
 | none => obtain ⟨A, n, c, h1⟩ := h.2.2; exact ⟨A, n, c, hb.trans h1⟩
 | some l => obtain ⟨A, c, h1, h2⟩ := h.2.2; exact ⟨A, c, hb.trans h1, h2⟩
theorem cells2_at {w : World} {p t : Nat} {a b : Value} {cs : List Value} (h : w.heap[p]? = some (.cells (a :: b :: cs).toArray t (0, 0))) : w.cell? ⟨p, 0, none⟩ = some a ∧ w.cell? ⟨p, 1, none⟩ = some b ∧ (∀ j, w.frozen? ⟨p, j, none⟩ = false) :=
 ⟨by rw [cell_of_row w p 0 _ _ _ h]; rfl, by rw [cell_of_row w p 1 _ _ _ h]; rfl, fun j => frozen_of_row w p j _ _ h⟩
set_option maxHeartbeats 1000000 in
theorem wtake_any (w0 w : World) (p n : Nat) (q : Option By) (cs : List Value) (h : RW w0 w p q cs) :
 Calls Tryz.prog 44 #[pt p, .int .i64 n] w fun e w' => ∃ A c, e = .returned (.slice A (cutV n q).length c) ∧ (cutV n q).length ≤ c ∧ Bs w0 A (cutV n q) ∧ RW w0 w' p (cutQ n q) cs ∧ Kept [p] w w' := by
 have hp := h.lt
 have hx0 := h.2.1
 unfold pt
 cases q with
 | none =>
  obtain ⟨A, m, c, hrow⟩ := h.2.2
  obtain ⟨C0, C1, F⟩ := cells2_at hrow
  have hset : (w.setCell ⟨p, 1, none⟩ (.bool true)).heap[p]? = some (.cells (.slice A m c :: .bool true :: cs).toArray 54 (0, 0)) := by
   have := heap_setCell_same w p 1 _ _ (.bool true) hrow
   simpa using this
  have hk : Kept [p] w (w.setCell ⟨p, 1, none⟩ (.bool true)) := (Kept.refl _ _).setCell (.inl (by simp)) _
  have HSET := Lib.hid hset
  have HK := Lib.hid hk
  have H1 := Lib.hid h.1
  have HX := Lib.hid hx0
  have HB : Hid (Bs w0 none (cutV n none)) := Lib.hid (Sl.nil _ _)
  clear h hrow hset hk hp hx0
  go_enter Tryz.func44, Tryz.ntmps44
  go_wp2
  go_ret
  exact ⟨none, 0, rfl, Nat.le_refl _, HB.out, ⟨H1.out, HX.out.kept HK.out (by intro k hk; simp at hk; subst hk; exact H1.out), A, m, c, HSET.out⟩, HK.out⟩
 | some l =>
  obtain ⟨A, c, hrow, hlc, hb⟩ := h.2.2
  obtain ⟨C0, C1, F⟩ := cells2_at hrow
  by_cases hln : l.length < n
  ·have hln1 : (l.length : Int) < (n : Int) := by omega
   have hset : (w.setCell ⟨p, 1, none⟩ (.bool true)).heap[p]? = some (.cells (.slice A l.length c :: .bool true :: cs).toArray 54 (0, 0)) := by
    have := heap_setCell_same w p 1 _ _ (.bool true) hrow
    simpa using this
   have hk : Kept [p] w (w.setCell ⟨p, 1, none⟩ (.bool true)) := (Kept.refl _ _).setCell (.inl (by simp)) _
   have e1 : cutV n (some l) = [] := by simp [cutV, hln]
   have e2 : cutQ n (some l) = none := by simp [cutQ, hln]
   have E1 := Lib.hid e1
   have E2 := Lib.hid e2
   have HSET := Lib.hid hset
   have HK := Lib.hid hk
   have H1 := Lib.hid h.1
   have HX := Lib.hid hx0
   clear h hrow hset hk hp hx0 hln hb hlc e1 e2
   go_enter Tryz.func44, Tryz.ntmps44
   go_wp2
   go_ret
   rw [E1.out, E2.out]
   exact ⟨none, 0, rfl, Nat.le_refl _, Sl.nil _ _, ⟨H1.out, HX.out.kept HK.out (by intro k hk; simp at hk; subst hk; exact H1.out), A, _, c, HSET.out⟩, HK.out⟩
  ·have hln1 : ¬ (l.length : Int) < (n : Int) := by omega
   obtain ⟨A1, hs1, hb1⟩ := cutB_h (P := Tryz.prog) Tryz.underlying22 Tryz.sizeOf5 A l.length c l n (hi := n) rfl rfl hlc (by omega)
   obtain ⟨A2, hs2, hb2⟩ := cutB_l (P := Tryz.prog) Tryz.underlying22 Tryz.sizeOf5 A l.length c l n (li := n) rfl rfl hlc (by omega)
   have e1 : cutV n (some l) = l.take n := by simp [cutV, hln]
   have e2 : cutQ n (some l) = some (l.drop n) := by simp [cutQ, hln]
   have e3 : (l.take n).length = n := by rw [List.length_take]; omega
   obtain ⟨ws, hws⟩ : ∃ x, x = w.setCell ⟨p, 1, none⟩ (.bool false) := ⟨_, rfl⟩
   have hset : ws.heap[p]? = some (.cells (.slice A l.length c :: .bool false :: cs).toArray 54 (0, 0)) := by
    have := heap_setCell_same w p 1 _ _ (.bool false) hrow
    rw [hws]
    simpa using this
   have hk : Kept [p] w ws := hws ▸ (Kept.refl _ _).setCell (.inl (by simp)) _
   obtain ⟨wt, hwt⟩ : ∃ x, x = ws.setCell ⟨p, 0, none⟩ (.slice A2 (l.length - n) (c - n)) := ⟨_, rfl⟩
   have hset2 : wt.heap[p]? = some (.cells (.slice A2 (l.length - n) (c - n) :: .bool false :: cs).toArray 54 (0, 0)) := by
    have := heap_setCell_same ws p 0 _ _ (.slice A2 (l.length - n) (c - n)) hset
    rw [hwt]
    simpa using this
   have hk2 : Kept [p] w wt := hk.trans (hwt ▸ (Kept.refl _ _).setCell (.inl (by simp)) _)
   have hdl : (l.drop n).length = l.length - n := by rw [List.length_drop]
   have HR : Hid (RW w0 wt p (some (l.drop n)) cs) := Lib.hid ⟨h.1, hx0.kept hk2 (by intro k hk; simp at hk; subst hk; exact h.1), A2, c - n, by rw [hdl]; exact hset2, by rw [hdl]; omega, hb2 _ hb⟩
   have HBT := Lib.hid (hb1 _ hb)
   obtain ⟨D0, D1, DF⟩ := cells2_at hset
   have E1 := Lib.hid e1
   have E2 := Lib.hid e2
   have E3 := Lib.hid e3
   have HK := Lib.hid hk2
   have HWS := hws.symm
   have HWT := Lib.hid hwt
   have HLC : Hid (n ≤ c) := Lib.hid (by omega)
   clear h hln hb hb1 hb2 e1 e2 e3 hrow hset hk hk2 hset2 hws hwt hdl hp hx0 hlc
   go_enter Tryz.func44, Tryz.ntmps44
   go_wp2
   go_ret
   rw [E1.out, E2.out, ← HWT.out]
   refine ⟨A1, c, ?_, ?_, HBT.out, HR.out, HK.out⟩
   ·rw [E3.out]; rfl
   ·rw [E3.out]; exact HLC.out
set_option maxHeartbeats 1000000 in
theorem wrnum_any (w0 w : World) (p n : Nat) (q : Option By) (cs : List Value) (h : RW w0 w p q cs) (hn : n ≤ 4) :
 Calls Tryz.prog 17 #[pt p, .int .i64 n] w fun e w' => e = .returned (.int .i64 (valB (cutV n q) : Nat)) ∧ RW w0 w' p (cutQ n q) cs ∧ Kept [p] w w' := by
 have HC := wtake_any w0 w p n q cs h
 have hle := cutV_le n q
 unfold pt at *
 go_enter Tryz.func17, Tryz.ntmps17
 go_wp2_with fail
 refine HC.mono ?_
 rintro e w1 ⟨A, c, rfl, -, hb0, hr, hk⟩
 generalize hcv : cutV n q = l at *
 have HCV := Lib.hid hcv
 clear hcv
 have hb := hb0.ext hr.2.1
 have HR := Lib.hid hr
 have HK := Lib.hid hk
 clear HC h hr hk hb0
 go_wp2
 go_loopw [5, 12] (fun vv iv wr => ∃ i : Nat, iv = .int .i64 i ∧ i ≤ l.length ∧ vv = .int .i64 (valB (l.take i) : Nat) ∧ wr = w1) (fun _ iv _ => l.length - (intOf iv).toNat)
 case atStart => exact ⟨0, rfl, by omega, rfl, rfl⟩
 case round =>
  obtain ⟨i, rfl, hi, rfl, rfl⟩ := hrel
  by_cases hlt : i < l.length
  ·obtain ⟨ad, rfl, hc⟩ := hb.at_ hlt
   have hc0 := hc _ (Ext.refl _)
   have hlt2 : (i : Int) < (l.length : Int) := by omega
   have hv := valB_lt (l.take i)
   have hpow : 256 ^ (l.take i).length ≤ 256 ^ 3 := Nat.pow_le_pow_right (by omega) (by rw [List.length_take]; omega)
   have hvb : valB (l.take i) < 16777216 := Nat.lt_of_lt_of_le hv (by simpa using hpow)
   have HT := Lib.hid (valB_take l i hlt)
   have hcl := l[i].toNat_lt
   generalize valB (l.take i) = vv at *
   generalize l[i] = cc at *
   have HO := Lib.hid (or_byte vv cc hvb)
   clear hv hpow hc hb
   go_wp2
   go_roundw
   case rel => exact ⟨i + 1, by go_num, by omega, by rw [HT.out, ← HO.out], trivial⟩
   case measure => simp [intOf]; omega
  ·have hlt2 : ¬ (i : Int) < (l.length : Int) := by omega
   have ht : l.take i = l := List.take_of_length_le (by omega)
   rw [ht]
   generalize hvv : valB l = vv at *
   have HVV := Lib.hid hvv
   clear hb ht hvv hlt
   go_wp2
   go_ret
   exact ⟨by rw [HCV.out, HVV.out]; rfl, HR.out, HK.out⟩
/-! ## lists -/
theorem intsT : ElemOf Tryz.prog 26 3 1 8 := ElemOf.mk' (z := .int .i64 0) Tryz.underlying26 (by kernel_rfl) rfl (by omega)
/-- a row of the call's own of numbers -/
def OwnI (w : World) (base : Nat) (v : Value) (l : List Int) : Prop := w.ownsRow base 3 1 v l.length (doV l)
theorem OwnI.ext {w w' : World} {base : Nat} {v : Value} {l : List Int} (h : OwnI w base v l) (hx : Ext w w') : OwnI w' base v l := owns_ext h hx
theorem OwnI.form {w : World} {base : Nat} {v : Value} {l : List Int} (h : OwnI w base v l) : ∃ A c, v = .slice A l.length c := own_form h
theorem OwnI.nil (w : World) (base : Nat) : OwnI w base (.slice none 0 0) [] := World.ownsRow_nil _ _ _ _
theorem OwnI.sl {w : World} {base n c : Nat} {A : Option Addr} {l : List Int} (h : OwnI w base (.slice A n c) l) : Sl w A (doV l) := Sl.own h rfl
theorem OwnI.low {w : World} {base b2 : Nat} {v : Value} {l : List Int} (h : OwnI w base v l) (hb : b2 ≤ base) : OwnI w b2 v l := owns_low h hb
/-- a row stays while a block of another type turns -/
theorem OwnI.off {w w' : World} {base g : Nat} {v : Value} {l : List Int} {cs : Array Value} {t : TypeId} {fr : Nat × Nat} (h : OwnI w base v l) (hp : w.heap[g]? = some (.cells cs t fr)) (hne : 3 ≠ t) (hk : Kept [g] w w') : OwnI w' base v l := by
 refine World.ownsRow.kept h (row := some g) ⟨hk.os, hk.tape, hk.output, hk.size, fun k hk1 hk2 => hk.block k hk1 (by simp; rintro rfl; exact hk2 rfl)⟩ ?_
 exact owns_obj h hp hne
theorem doV_app (l m : List Int) : doV (l ++ m) = doV l ++ doV m := by simp [doV]
def nV (n : Nat) (q : Option By) : Int := ((valB (cutV n q) : Nat) : Int)
set_option maxHeartbeats 2000000 in
theorem wrlist_any (w0 w : World) (p n : Nat) (q : Option By) (cs : List Value) (h : RW w0 w p q cs) (hn : n ≤ 4) :
 Calls Tryz.prog 45 #[pt p, .int .i64 n] w fun e w' => ∃ v, e = .returned v ∧ OwnI w' w.heap.size v (liV n q) ∧ RW w0 w' p (liQ n q) cs ∧ Kept [p] w w' := by
 have H1 := wrnum_any w0 w p 1 q cs h (by omega)
 have HN := fun (w1 : World) (q : Option By) (h1 : RW w0 w1 p q cs) => wrnum_any w0 w1 p n q cs h1 hn
 have HQ : Hid (liQ n q = repQ (cutQ n) (valB (cutV 1 q)) (cutQ 1 q)) := Lib.hid rfl
 have HV : Hid (liV n q = repV (cutQ n) (nV n) (valB (cutV 1 q)) (cutQ 1 q)) := Lib.hid rfl
 have hk256 := valB_cut 1 q
 have hpl := h.lt
 have hw0 := h.2.1.size
 generalize liQ n q = qe at *
 generalize liV n q = ve at *
 generalize valB (cutV 1 q) = K at *
 generalize cutQ 1 q = q1 at *
 unfold pt at *
 go_enter Tryz.func45, Tryz.ntmps45
 go_wp2_with fail
 refine H1.mono ?_
 rintro e w1 ⟨rfl, hr1, hk1⟩
 clear H1 h
 go_wp2
 go_loopw [5, 10] (fun ov iv wr => ∃ (i : Nat) (vs : List Int) (q' : Option By), iv = .int .i64 i ∧ i ≤ K ∧ vs.length = i ∧ RW w0 wr p q' cs ∧ OwnI wr w.heap.size ov vs ∧ Kept [p] w wr ∧
  vs ++ repV (cutQ n) (nV n) (K - i) q' = ve ∧ repQ (cutQ n) (K - i) q' = qe) (fun _ iv _ => K - (intOf iv).toNat)
 case atStart => exact ⟨0, [], q1, rfl, by omega, rfl, hr1, OwnI.nil _ _, hk1, HV.out.symm, HQ.out.symm⟩
 case round =>
  clear hr1 hk1
  obtain ⟨i, vs, q', rfl, hi, hvl, hr, hov, hk, hrv, hrq⟩ := hrel
  by_cases hlt : i < K
  ·have hlt2 : (i : Int) < (K : Int) := by omega
   have C1 := hr.off
   cases q' with
   | none =>
    rw [repV_none, List.append_nil] at hrv
    rw [repQ_none] at hrq
    subst hrv hrq
    have HOV := Lib.hid hov
    have HR := Lib.hid hr
    have HK := Lib.hid hk
    clear hov hr hk hvl HQ HV
    go_wp2
    go_ret
    exact ⟨_, rfl, HOV.out, HR.out, HK.out⟩
   | some l =>
    have HRV : Hid (vs ++ [nV n (some l)] ++ repV (cutQ n) (nV n) (K - (i + 1)) (cutQ n (some l)) = ve) := Lib.hid (by
     rw [← hrv, show K - i = (K - (i + 1)) + 1 by omega, repV, List.append_assoc]; rfl)
    have HRQ : Hid (repQ (cutQ n) (K - (i + 1)) (cutQ n (some l)) = qe) := Lib.hid (by
     rw [← hrq, show K - i = (K - (i + 1)) + 1 by omega, repQ])
    have HVL := Lib.hid hvl
    have hX := HN wr _ hr
    obtain ⟨Ao, co, rfl⟩ := hov.form
    have HOV := Lib.hid hov
    have HR := Lib.hid hr
    have HKK := Lib.hid hk
    clear hrv hrq hvl hov hr hk HQ HV
    go_wp2_with fail
    refine hX.mono ?_
    rintro e w2 ⟨rfl, hr2, hk2⟩
    have hkk := HKK.out.trans hk2
    obtain ⟨vr, hrow⟩ := HR.out.row
    have hov2 : OwnI w2 w.heap.size (.slice Ao vs.length co) vs := HOV.out.off hrow (by decide) hk2
    generalize hnv : nV n (some l) = nv at *
    have hnv2 : ((valB (cutV n (some l)) : Nat) : Int) = nv := hnv
    rw [hnv2]
    clear hX hrow hk2
    go_wp2_with (at_builtin; refine unstop ?_)
    refine go_on (wpList_app intsT (World.ownsRow.alloc hov2 _) (Sl.new w2 [.int .i64 nv] _ _) rfl rfl rfl rfl rfl (by simp [Value.oneCell']) (by have := HVL.out; omega) (by have := HVL.out; omega) (by have := hkk.size; simp; omega) ?_)
    intro v' w3 ho3 hg3 _
    have hlow := (World.ownsRow.alloc hov2 (.cells #[.int .i64 nv] 3)).lt
    have hk3 : Kept [p] w w3 := (hkk.alloc _).grown hg3 (fun k hk => .inr (hlow k hk).1)
    have hr3 : RW w0 w3 p (cutQ n (some l)) cs := by
     have hra := hr2.ext ((Ext.refl w2).alloc (.cells #[.int .i64 nv] 3))
     obtain ⟨va, hrowa⟩ := hra.row
     exact hra.grown hg3 (owns_obj (World.ownsRow.alloc hov2 _) hrowa (by decide)) (fun k hk => by have := (hlow k hk).1; omega)
    have ho3' : OwnI w3 w.heap.size v' (vs ++ [nv]) := by
     unfold OwnI
     rw [doV_app, List.length_append]
     exact ho3
    clear ho3 hg3 hlow hkk hr2 hov2 hnv
    go_wp2
    go_roundw
    case rel => exact ⟨i + 1, vs ++ [nv], _, by go_num, by omega, by simp [HVL.out], hr3, ho3', hk3, HRV.out, HRQ.out⟩
    case measure => simp [intOf]; omega
  ·obtain rfl : i = K := by omega
   have hlt2 : ¬ (i : Int) < (i : Int) := by omega
   rw [Nat.sub_self] at hrv hrq
   rw [repV, List.append_nil] at hrv
   rw [repQ] at hrq
   subst hrv hrq
   have HOV := Lib.hid hov
   have HR := Lib.hid hr
   have HK := Lib.hid hk
   clear hov hr hk HQ HV hlt
   go_wp2
   go_ret
   exact ⟨_, rfl, HOV.out, HR.out, HK.out⟩
/-! ## texts -/
set_option maxRecDepth 20000 in
set_option maxHeartbeats 2000000 in
theorem wrtext_any (w0 w : World) (p : Nat) (q : Option By) (cs : List Value) (h : RW w0 w p q cs) :
 Calls Tryz.prog 47 #[pt p] w fun e w' => e = .returned (.string (st (shV q))) ∧ RW w0 w' p (shQ q) cs ∧ Kept [p] w w' := by
 have H1 := fun (w1 : World) (h1 : RW w0 w1 p q cs) => wrnum_any w0 w1 p 1 q cs h1 (by omega)
 have HT := fun (w1 : World) (n : Nat) (q' : Option By) (h1 : RW w0 w1 p q' cs) => wtake_any w0 w1 p n q' cs h1
 have HV : Hid (shV q = cutV (valB (cutV 1 q)) (cutQ 1 q)) := Lib.hid rfl
 have HQ : Hid (shQ q = cutQ (valB (cutV 1 q)) (cutQ 1 q)) := Lib.hid rfl
 have hd : RW w0 w.drew p q cs := h.ext (Ext.refl w).drew
 have hkd : Kept [p] w w.drew := (Kept.refl _ _).drew
 have HKD := Lib.hid hkd
 clear hkd
 generalize shV q = sv at *
 generalize shQ q = sq at *
 generalize valB (cutV 1 q) = n at *
 generalize cutQ 1 q = q1 at *
 unfold pt at *
 go_enter Tryz.func47, Tryz.ntmps47
 go_wp2_with fail
 refine wp_region_phase (S := fun w' => Ext w0 w') 9 (by kernel_rfl) (by kernel_rfl) ?_ (fun hHeld => ?_)
 ·exact hd.2.1
 simp only [List.drop_succ_cons, List.drop_zero]
 refine name_head ?_
 intro wr0 hw0
 rw [hw0] at hHeld
 refine wt 0 _ ?_
 simp only [red, Act.put]
 refine wt 1 _ ?_
 simp only [red, Act.put]
 refine wt 2 _ ?_
 simp only [red, Act.put]
 refine wt 3 _ ?_
 simp only [red, Act.put]
 refine wt 4 _ ?_
 simp only [red, Act.put]
 refine wt 5 _ ?_
 simp only [red, Act.put]
 refine rd [6] ?_
 refine ac (fun K hK => ?_) ?_
 ·refine step_callG (by rfl) (by kernel_rfl) (H1 _ (by rw [← hw0]; exact hd)) ?_
  rintro e wr6 ⟨rfl, hr6, hk6⟩
  refine ⟨_, rfl, ?_⟩
  refine hK.out _ _ ?_ (fun hHeld => ?_)
  ·exact hr6.2.1
  clear hK K
  try simp only [red, Act.put]
  refine rd [7] ?_
  refine ac (fun K hK => ?_) ?_
  ·refine step_callG (by rfl) (by kernel_rfl) (HT _ n _ hr6) ?_
   rintro e wr7 ⟨A, c, rfl, -, hb7, hr7, hk7⟩
   have s_ := run_str (P := Tryz.prog) Tryz.underlying22 Tryz.underlying5 Tryz.underlying9 hb7 _ c rfl
   refine ⟨_, rfl, ?_⟩
   refine hK.out _ _ ?_ (fun hHeld => ?_)
   ·exact hr7.2.1
   clear hK K
   try simp only [red, Act.put]
   refine wt 8 _ ?_
   simp only [red, Act.put]
   refine wpHead_done (by kernel_rfl) ?_
   have hk := (HKD.out.trans (hw0 ▸ hk6)).trans hk7
   clear H1 HT hk6 hk7 hHeld hw0 s_ hr6
   go_wp2
   go_ret
   exact ⟨by rw [HV.out]; rfl, by rw [HQ.out]; exact hr7, hk⟩
  exact AllHead.nil
 exact AllHead.nil
end Go.Proofs.YthlppbbejdeeoaaGreatDoor
namespace Go.Proofs.YthlppbbejdeeoaaGreatDoor
open Go.RowKit
/-! ## what is read, as functions -/
def txQ : Bool → Option By → Option By
 | false, q => q
 | true, q => cutQ 4 (cutQ 4 (cutQ 1 q))
def txV : Bool → Option By → Tx3
 | false, _ => tx00
 | true, q => ⟨nV 1 q, nV 4 (cutQ 1 q), nV 4 (cutQ 4 (cutQ 1 q))⟩
def nnQ : Bool → Option By → Option By
 | false, q => q
 | true, q => cutQ 4 q
def nnV : Bool → Option By → Int
 | false, _ => 0
 | true, q => nV 4 q
theorem Sim.tx : ∀ b, Sim (txP b) (txQ b) (txV b)
 | false => Sim.pure _
 | true => (Sim.int 1).and fun _ => (Sim.int 4).and fun _ => (Sim.int 4).and fun _ => Sim.pure _
theorem Sim.nn : ∀ b, Sim (nP b) (nnQ b) (nnV b)
 | false => Sim.pure _
 | true => Sim.int 4
def voQ (q : Option By) : Option By := loQ (cutQ 4 (cutQ 1 (shQ (liQ 4 (cutQ 1 q)))))
def tlQ (k : Int) (q : Option By) : Option By := if k = 1 then liQ 4 (liQ 1 q) else if kVote k then voQ q else if k = 3 then cutQ 1 q else if k = 6 then cutQ 4 (shQ q) else q
def tlV (k s d : Int) (t : Tx3) (n : Int) (q : Option By) : Ml :=
 if k = 1 then ⟨k, s, d, t, t, liV 1 q, [], liV 4 (liQ 1 q), 0, [], [], 0, 0, [], 0, [], 0, n⟩
 else if kVote k then ⟨k, s, d, t, tx00, [], [], [], nV 1 q, liV 4 (cutQ 1 q), shV (liQ 4 (cutQ 1 q)), nV 1 (shQ (liQ 4 (cutQ 1 q))), nV 4 (cutQ 1 (shQ (liQ 4 (cutQ 1 q)))), loV (cutQ 4 (cutQ 1 (shQ (liQ 4 (cutQ 1 q))))), 0, [], 0, n⟩
 else if k = 3 then ⟨k, s, d, t, tx00, [], [], [], 0, [], [], 0, 0, [], nV 1 q, [], 0, n⟩
 else if k = 6 then ⟨k, s, d, t, tx00, [], [], [], 0, [], [], 0, 0, [], 0, shV q, nV 4 (shQ q), n⟩
 else ⟨k, s, d, t, tx00, [], [], [], 0, [], [], 0, 0, [], 0, [], 0, n⟩
theorem Sim.tail {k : Int} (hk : k ≠ 1) (s d : Int) (t : Tx3) (n : Int) : Sim (tailP k s d t n) (tlQ k) (tlV k s d t n) := by
 have e1 : tailP k s d t n = if kVote k then andP (intP 1) fun er => andP (listP 4) fun ns => andP shortP fun u => andP (intP 1) fun sh => andP (intP 4) fun ep => andP longP fun vb => pureP ⟨k, s, d, t, tx00, [], [], [], er, ns, u, sh, ep, vb, 0, [], 0, n⟩
  else if k = 3 then andP (intP 1) fun f => pureP ⟨k, s, d, t, tx00, [], [], [], 0, [], [], 0, 0, [], f, [], 0, n⟩
  else if k = 6 then andP shortP fun u => andP (intP 4) fun ep => pureP ⟨k, s, d, t, tx00, [], [], [], 0, [], [], 0, 0, [], 0, u, ep, n⟩
  else pureP ⟨k, s, d, t, tx00, [], [], [], 0, [], [], 0, 0, [], 0, [], 0, n⟩ := by
  unfold tailP
  rw [if_neg hk]
 have e2 : tlQ k = if kVote k then voQ else if k = 3 then cutQ 1 else if k = 6 then fun q => cutQ 4 (shQ q) else fun q => q := by
  funext q
  unfold tlQ
  rw [if_neg hk]
  split
  ·rfl
  ·split
   ·rfl
   ·split <;> rfl
 have e3 : tlV k s d t n = if kVote k then fun q => ⟨k, s, d, t, tx00, [], [], [], nV 1 q, liV 4 (cutQ 1 q), shV (liQ 4 (cutQ 1 q)), nV 1 (shQ (liQ 4 (cutQ 1 q))), nV 4 (cutQ 1 (shQ (liQ 4 (cutQ 1 q)))), loV (cutQ 4 (cutQ 1 (shQ (liQ 4 (cutQ 1 q))))), 0, [], 0, n⟩
  else if k = 3 then fun q => ⟨k, s, d, t, tx00, [], [], [], 0, [], [], 0, 0, [], nV 1 q, [], 0, n⟩
  else if k = 6 then fun q => ⟨k, s, d, t, tx00, [], [], [], 0, [], [], 0, 0, [], 0, shV q, nV 4 (shQ q), n⟩
  else fun _ => ⟨k, s, d, t, tx00, [], [], [], 0, [], [], 0, 0, [], 0, [], 0, n⟩ := by
  funext q
  unfold tlV
  rw [if_neg hk]
  split
  ·rfl
  ·split
   ·rfl
   ·split <;> rfl
 rw [e1, e2, e3]
 split
 ·exact (Sim.int 1).and fun _ => (Sim.list 4).and fun _ => Sim.short.and fun _ => (Sim.int 1).and fun _ => (Sim.int 4).and fun _ => Sim.long.and fun _ => Sim.pure _
 ·split
  ·exact (Sim.int 1).and fun _ => Sim.pure _
  ·split
   ·exact Sim.short.and fun _ => (Sim.int 4).and fun _ => Sim.pure _
   ·exact Sim.pure _
def rdQ (k : Int) (q : Option By) : Option By := tlQ k (nnQ (kN k) (txQ (kTx k) q))
def rdV (k s d : Int) (q : Option By) : Ml := tlV k s d (txV (kTx k) q) (nnV (kN k) (txQ (kTx k) q)) (nnQ (kN k) (txQ (kTx k) q))
/-- what read tells -/
def rdR (k s d : Int) (q : Option By) : Nat ⊕ (Ml × By) := match rdQ k q with
 | none => .inl 3
 | some r => if k = 1 then (match takeAllT r with
  | .inl c => .inl c
  | .inr ds => .inr ({ rdV k s d q with deeds := ds }, [])) else .inr (rdV k s d q, r)
def rdO (m : Ml) : Option By → Nat ⊕ (Ml × By)
 | none => .inl 3
 | some r => .inr (m, r)
def rdO1 (m : Ml) : Option By → Nat ⊕ (Ml × By)
 | none => .inl 3
 | some r => match takeAllT r with
  | .inl c => .inl c
  | .inr ds => .inr ({ m with deeds := ds }, [])
def headP (k s d : Int) : Prs Ml := andP (txP (kTx k)) fun t => andP (nP (kN k)) fun n => tailP k s d t n
theorem tail1_sim (s d : Int) (t : Tx3) (n : Int) (l : By) : tailP 1 s d t n l = match tlQ 1 (some l) with
 | none => .inl 3
 | some r => match takeAllT r with
  | .inl c => .inl c
  | .inr ds => .inr ({ tlV 1 s d t n (some l) with deeds := ds }, []) := by
 unfold tailP tlQ tlV
 simp only [if_true]
 unfold andP
 rw [(Sim.list 1).go l]
 cases h1 : liQ 1 (some l) with
 | none => simp only [(Sim.list 4).no]
 | some r1 =>
  simp only
  rw [(Sim.list 4).go r1]
  cases h4 : liQ 4 (some r1) with
  | none => rfl
  | some r =>
   simp only
   unfold dsP
   cases takeAllT r with
   | inl c => rfl
   | inr ds => rfl
theorem head_sim (k s d : Int) (l : By) : headP k s d l = rdR k s d (some l) := by
 unfold headP rdR rdQ rdV
 unfold andP
 rw [(Sim.tx (kTx k)).go l]
 cases h1 : txQ (kTx k) (some l) with
 | none =>
  simp only [(Sim.nn (kN k)).no]
  have : tlQ k none = none := by
   by_cases hk : k = 1
   ·subst hk; rfl
   ·exact (Sim.tail hk 0 0 tx00 0).no
  rw [this]
 | some r1 =>
  simp only
  rw [(Sim.nn (kN k)).go r1]
  cases h2 : nnQ (kN k) (some r1) with
  | none =>
   simp only
   have : tlQ k none = none := by
    by_cases hk : k = 1
    ·subst hk; rfl
    ·exact (Sim.tail hk 0 0 tx00 0).no
   rw [this]
  | some r2 =>
   simp only
   by_cases hk : k = 1
   ·subst hk
    rw [tail1_sim]
    simp only [if_true]
   ·rw [(Sim.tail hk s d _ _).go r2]
    cases tlQ k (some r2) with
    | none => rfl
    | some r => simp only [if_neg hk]
theorem rdR_none (k s d : Int) : rdR k s d none = .inl 3 := by
 have h1 : txQ (kTx k) none = none := (Sim.tx _).no
 have h2 : nnQ (kN k) none = none := (Sim.nn _).no
 have h3 : tlQ k none = none := by
  by_cases hk : k = 1
  ·subst hk; rfl
  ·exact (Sim.tail hk 0 0 tx00 0).no
 unfold rdR rdQ
 rw [h1, h2, h3]
/-! ## the message's rows -/
structure Rows (w : World) (base : Nat) (m : Ml) (P D E N V : Value) : Prop where
 p : OwnI w base P m.peers
 d : OwnDs w base D m.deeds
 e : OwnI w base E m.epochs
 n : OwnI w base N m.nums
 v : Own w base V m.vbytes
theorem OwnDs.nil0 (w : World) (base : Nat) : OwnDs w base (.slice none 0 0) [] := ⟨[], rfl, by simp, World.ownsRow_nil _ _ _ _, by simp⟩
def zS : Value := .slice none 0 0
def ReadW (k s d : Int) (q : Option By) (w0 w : World) (p : Nat) (e : Ending) (w' : World) : Prop := Kept [p] w w' ∧ Ext w0 w' ∧ match rdR k s d q with
 | .inl c => e = .returned (.int .i64 (c : Nat))
 | .inr (m, r) => e = .returned (.int .i64 0) ∧ ∃ P D E N V, Rows w' w.heap.size m P D E N V ∧ RW w0 w' p (some r) (mlC m P D E N V).toList
theorem RW.set3 {w0 w w' : World} {p : Nat} {q : Option By} {cs : List Value} (h : RW w0 w p q cs) {k : Nat} {a b c : Value} (cs' : List Value) (hc : ((cs.set k a).set (k + 1) b).set (k + 2) c = cs') {o : Nat} (ho : o = k + 2) (hw : w' = w.setCells p o [a, b, c]) : RW w0 w' p q cs' ∧ Kept [p] w w' := by
 subst ho
 obtain ⟨h1, k1⟩ := h.set _ rfl rfl (rfl : w.setCell ⟨p, k + 2, none⟩ a = _)
 obtain ⟨h2, k2⟩ := h1.set _ rfl (j := k + 1 + 2) rfl (rfl : (w.setCell ⟨p, k + 2, none⟩ a).setCell ⟨p, k + 1 + 2, none⟩ b = _)
 obtain ⟨h3, k3⟩ := h2.set _ rfl (j := k + 2 + 2) rfl (rfl : ((w.setCell ⟨p, k + 2, none⟩ a).setCell ⟨p, k + 1 + 2, none⟩ b).setCell ⟨p, k + 2 + 2, none⟩ c = _)
 have e : w' = ((w.setCell ⟨p, k + 2, none⟩ a).setCell ⟨p, k + 1 + 2, none⟩ b).setCell ⟨p, k + 2 + 2, none⟩ c := by
  rw [hw, show k + 1 + 2 = k + 2 + 1 by omega]
  rfl
 rw [e]
 exact ⟨hc ▸ h3, (k1.trans k2).trans k3⟩
end Go.Proofs.YthlppbbejdeeoaaGreatDoor
