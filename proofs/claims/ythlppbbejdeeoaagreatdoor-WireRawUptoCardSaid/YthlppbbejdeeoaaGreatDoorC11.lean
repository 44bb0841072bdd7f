/- The walks of the reference's Num, Short, Cut and the reader's Num. Conditions: the hypotheses of each theorem. The reference's reader: Cut and Num. Conditions: the hypotheses of each theorem. The walk of the reference's list. Conditions: the hypotheses of each theorem. -/
import Derived.Test.YthlppbbejdeeoaaGreatDoorC6
import Derived.Test.YthlppbbejdeeoaaGreatDoorC8
import Derived.Test.YthlppbbejdeeoaaGreatDoorC9
namespace Go.Proofs.YthlppbbejdeeoaaGreatDoor
open Go.RowKit
set_option maxRecDepth 20000 in
set_option maxHeartbeats 1000000 in
theorem RNumB_any (w0 w : World) (b : Value) (l : By) (v n : Nat) (hx : Ext w0 w) (ho : Own w w0.heap.size b l) (hl : l.length + 4 ≤ 140737488355328) (hn : n ≤ 4) (hv : v < 9223372036854775808) :
 Calls Tryz.prog 63 #[b, .int .i64 v, .int .i64 n] w fun e w' => ∃ b', e = .returned b' ∧ Lay w0 w (l ++ beN n v) w' b' := by
 have HX := Lib.hid hx
 go_enter Tryz.func63, Tryz.ntmps63
 go_wp2
 go_loopw [1, 7, 8] (fun vv xv iv wr => ∃ i : Nat, iv = .int .i64 i ∧ i ≤ n ∧ vv = .int .i64 ((v / 256 ^ i : Nat)) ∧ Own wr w.heap.size xv (beN i v) ∧ Ext w wr) (fun _ _ iv _ => n - (intOf iv).toNat)
 case atStart => exact ⟨0, rfl, by omega, by simp, Own.empty w w.heap.size (Nat.le_refl _), (Ext.refl w).alloc _⟩
 case round =>
  obtain ⟨i, rfl, hi, rfl, hox, hxr⟩ := hrel
  by_cases hlt : i < n
  ·have hlt2 : (i : Int) < (n : Int) := by omega
   obtain ⟨Ax, cx, rfl⟩ := hox.form
   rw [beN_length] at *
   have HD : Hid (v / 256 ^ i / 256 = v / 256 ^ (i + 1)) := Lib.hid (by rw [Nat.div_div_eq_div_mul, Nat.pow_succ])
   have HBE : Hid (beN (i + 1) v = UInt8.ofNat (v / 256 ^ i) :: beN i v) := Lib.hid rfl
   have hqv : v / 256 ^ i ≤ v := Nat.div_le_self _ _
   generalize v / 256 ^ i = q at *
   go_wp2_with (at_builtin; refine unstop ?_)
   have hnew : Own (wr.alloc (.cells #[.int .u8 ((q : Int) % 256)] 5)) w.heap.size (.slice (some ⟨wr.heap.size, 0, none⟩) 1 1) [UInt8.ofNat q] := Own.new wr w.heap.size _ [UInt8.ofNat q] 1 (by rw [u8_of]; rfl) rfl hxr.size (by simp [maxLen])
   refine go_on (wpList_appB bytesTr hnew (hox.bs.ext ((Ext.refl wr).alloc _)) rfl rfl rfl rfl (by rw [beN_length]) (by simp; omega) (by have := hxr.size; simp; omega) ?_)
   intro v' w1 ho1 hg1 _
   have hx1 : Ext w w1 := (hxr.alloc _).own hnew (Nat.le_refl _) hg1
   have HO : Hid (Own w1 w.heap.size v' (beN (i + 1) v)) := Lib.hid (by rw [HBE.out]; exact ho1)
   clear hnew hox hxr ho1 hg1
   go_wp2
   go_roundw
   case rel => exact ⟨i + 1, by go_num, by omega, by rw [← HD.out]; exact congrArg _ (by omega), HO.out, hx1⟩
   case measure => simp [intOf]; omega
  ·obtain rfl : i = n := by omega
   obtain ⟨Ax, cx, rfl⟩ := hox.form
   rw [beN_length] at *
   have hob : Own wr w0.heap.size b l := ho.ext hxr
   go_wp2_with (at_builtin; refine unstop ?_)
   refine go_on (wpList_appB bytesTr hob hox.bs rfl rfl rfl rfl (by rw [beN_length]) (by simp; omega) (by have := hxr.size; have := HX.out.size; omega) ?_)
   intro v' w1 ho1 hg1 _
   have hlay : Lay w0 w (l ++ beN i v) w1 v' := ⟨ho1, (HX.out.trans hxr).own hob (Nat.le_refl _) hg1, fun ts ht => (Stp.of_ext hxr).own hob hg1 ht⟩
   clear hob ho hox hxr ho1 hg1
   go_wp2
   go_ret
   exact ⟨_, rfl, hlay⟩
set_option maxRecDepth 20000 in
set_option maxHeartbeats 1000000 in
theorem RShortB_any (w0 w : World) (b : Value) (l p : By) (hx : Ext w0 w) (ho : Own w w0.heap.size b l) (hl : l.length + p.length + 8 ≤ 140737488355328) :
 Calls Tryz.prog 65 #[b, .string (st p)] w fun e w' => ∃ b', e = .returned b' ∧ Lay w0 w (l ++ shortB p) w' b' := by
 have HN := RNumB_any w0 w b l p.length 1 hx ho (by omega) (by omega) (by omega)
 obtain ⟨s, hs⟩ : ∃ s, s = st p := ⟨_, rfl⟩
 have hz : s.size = p.length := by rw [hs, st_size]
 rw [← hs]
 have HS := Lib.hid hs
 clear hs
 go_enter Tryz.func65, Tryz.ntmps65
 go_wp2_with fail
 refine HN.mono ?_
 rintro e w1 ⟨b1, rfl, hlay⟩
 go_wp2_with (at_builtin; refine unstop ?_)
 refine go_on (wpList_appS hlay.o rfl rfl rfl (congrArg Value.string HS.out) (by simp; omega) hlay.x.size ?_)
 intro b2 w2 ho2 hg2
 have hlay2 : Lay w0 w (l ++ shortB p) w2 b2 := ⟨by simpa [shortB] using ho2, hlay.x.own hlay.o (Nat.le_refl _) hg2, fun ts ht => (hlay.s ts ht).own hlay.o hg2 ht⟩
 clear hg2 ho2 ho HN hlay
 go_wp2
 go_ret
 exact ⟨_, rfl, hlay2⟩
end Go.Proofs.YthlppbbejdeeoaaGreatDoor
namespace Go.Proofs.YthlppbbejdeeoaaGreatDoor
open Go.RowKit
/-- the reader at p: what it has still, or that its bytes ended -/
def RdAt (w0 w : World) (p : Nat) (q : Option By) : Prop := w0.heap.size ≤ p ∧ Ext w0 w ∧ match q with
 | some l => ∃ A cap, w.heap[p]? = some (.cells #[.slice A l.length cap, .bool false] 63 (0, 0)) ∧ l.length ≤ cap ∧ Bs w0 A l
 | none => ∃ A n cap, w.heap[p]? = some (.cells #[.slice A n cap, .bool true] 63 (0, 0))
theorem RdAt.ext {w0 w w' : World} {p : Nat} {q : Option By} (h : RdAt w0 w p q) (hx : Ext w w') : RdAt w0 w' p q := by
 refine ⟨h.1, h.2.1.trans hx, ?_⟩
 cases q with
 | none => obtain ⟨A, n, c, h1⟩ := h.2.2; exact ⟨A, n, c, hx.obj h1⟩
 | some l => obtain ⟨A, c, h1, h2⟩ := h.2.2; exact ⟨A, c, hx.obj h1, h2⟩
theorem RdAt.kept {M : List Nat} {w0 w w' : World} {p : Nat} {q : Option By} (h : RdAt w0 w p q) (hk : Kept M w w') (hp : p ∉ M) (hM : ∀ k ∈ M, w0.heap.size ≤ k) : RdAt w0 w' p q := by
 refine ⟨h.1, h.2.1.kept hk hM, ?_⟩
 cases q with
 | none => obtain ⟨A, n, c, h1⟩ := h.2.2; exact ⟨A, n, c, hk.heap h1 hp⟩
 | some l => obtain ⟨A, c, h1, h2⟩ := h.2.2; exact ⟨A, c, hk.heap h1 hp, h2⟩
theorem RdAt.row {w0 w : World} {p : Nat} {q : Option By} (h : RdAt w0 w p q) : ∃ v, w.heap[p]? = some (.cells #[v, .bool q.isNone] 63 (0, 0)) := by
 cases q with
 | none => obtain ⟨A, n, c, h1⟩ := h.2.2; exact ⟨_, h1⟩
 | some l => obtain ⟨A, c, h1, h2⟩ := h.2.2; exact ⟨_, h1⟩
theorem RdAt.lt {w0 w : World} {p : Nat} {q : Option By} (h : RdAt w0 w p q) : p < w.heap.size := by
 obtain ⟨v, h⟩ := h.row
 exact obj_lt h
set_option maxHeartbeats 1000000 in
theorem RCut_any (w0 w : World) (p n : Nat) (q : Option By) (h : RdAt w0 w p q) (hn : n ≤ 100000) :
 Calls Tryz.prog 27 #[pt p, .int .i64 n] w fun e w' => ∃ v, e = .returned v ∧ Own w' w.heap.size v (cutV n q) ∧ RdAt w0 w' p (cutQ n q) ∧ Kept [p] w w' := by
 have hp := h.lt
 have hx0 := h.2.1
 unfold pt
 cases q with
 | none =>
  obtain ⟨A, m, c, hrow⟩ := h.2.2
  obtain ⟨C0, C1, F⟩ := row2_at hrow
  have hset : (w.setCell ⟨p, 1, none⟩ (.bool true)).heap[p]? = some (.cells #[.slice A m c, .bool true] 63 (0, 0)) := by
   have := heap_setCell_same w p 1 _ _ (.bool true) hrow
   simpa using this
  have hk : Kept [p] w (w.setCell ⟨p, 1, none⟩ (.bool true)) := (Kept.refl _ _).setCell (.inl (by simp)) _
  have HSET := Lib.hid hset
  have HK := Lib.hid hk
  have H1 := Lib.hid h.1
  have HX := Lib.hid hx0
  clear h hrow hset hk hp hx0
  go_enter Tryz.func27, Tryz.ntmps27
  go_wp2
  go_ret
  exact ⟨_, rfl, Own.nil _ _, ⟨H1.out, HX.out.kept HK.out (by intro k hk; simp at hk; subst hk; exact H1.out), A, m, c, HSET.out⟩, HK.out⟩
 | some l =>
  obtain ⟨A, c, hrow, hlc, hb⟩ := h.2.2
  obtain ⟨C0, C1, F⟩ := row2_at hrow
  by_cases hln : l.length < n
  ·have hln1 : (l.length : Int) < (n : Int) := by omega
   have hset : (w.setCell ⟨p, 1, none⟩ (.bool true)).heap[p]? = some (.cells #[.slice A l.length c, .bool true] 63 (0, 0)) := by
    have := heap_setCell_same w p 1 _ _ (.bool true) hrow
    simpa using this
   have hk : Kept [p] w (w.setCell ⟨p, 1, none⟩ (.bool true)) := (Kept.refl _ _).setCell (.inl (by simp)) _
   have e1 : cutV n (some l) = [] := by simp [cutV, hln]
   have e2 : cutQ n (some l) = none := by simp [cutQ, hln]
   have E1 := Lib.hid e1
   have E2 := Lib.hid e2
   have HSET := Lib.hid hset
   have HK := Lib.hid hk
   have H1 := Lib.hid h.1
   have HX := Lib.hid hx0
   clear h hrow hset hk hp hx0 hln hb hlc e1 e2
   go_enter Tryz.func27, Tryz.ntmps27
   go_wp2
   go_ret
   rw [E1.out, E2.out]
   exact ⟨_, rfl, Own.nil _ _, ⟨H1.out, HX.out.kept HK.out (by intro k hk; simp at hk; subst hk; exact H1.out), A, _, c, HSET.out⟩, HK.out⟩
  ·have hln1 : ¬ (l.length : Int) < (n : Int) := by omega
   obtain ⟨A1, hs1, hb1⟩ := cutB_h (P := Tryz.prog) Tryz.underlying22 Tryz.sizeOf5 A l.length c l n (hi := n) rfl rfl hlc (by omega)
   obtain ⟨A2, hs2, hb2⟩ := cutB_l (P := Tryz.prog) Tryz.underlying22 Tryz.sizeOf5 A l.length c l n (li := n) rfl rfl hlc (by omega)
   have e1 : cutV n (some l) = l.take n := by simp [cutV, hln]
   have e2 : cutQ n (some l) = some (l.drop n) := by simp [cutQ, hln]
   have e3 : (l.take n).length = n := by rw [List.length_take]; omega
   have E1 := Lib.hid e1
   have E2 := Lib.hid e2
   have E3 := Lib.hid e3
   have hbt := hb1 _ (hb.ext hx0)
   have HBD := Lib.hid (hb2 _ hb)
   have HROW := Lib.hid hrow
   have H1 := Lib.hid h.1
   have HX := Lib.hid hx0
   have HLC := Lib.hid hlc
   have HLN := Lib.hid hln
   have hx := Ext.refl w
   clear h hln hb hb1 hb2 e1 e2 e3 hrow
   go_enter Tryz.func27, Tryz.ntmps27
   go_wp2_with (at_builtin; refine unstop ?_)
   refine go_on (wpList_appB bytesTr (Own.empty w w.heap.size (Nat.le_refl _)) (hbt.ext ((Ext.refl w).alloc _)) rfl rfl rfl rfl (by simp [E3.out]) (by simp [E3.out]; omega) (by simp) ?_)
   intro v' w1 ho1 hg1 _
   have hx1 : Ext w w1 := ((Ext.refl w).alloc _).own (Own.empty w w.heap.size (Nat.le_refl _)) (Nat.le_refl _) hg1
   have hrow1 := hx1.obj HROW.out
   obtain ⟨C0, C1, F⟩ := row2_at hrow1
   have hset : (w1.setCell ⟨p, 0, none⟩ (.slice A2 (l.length - n) (c - n))).heap[p]? = some (.cells #[.slice A2 (l.length - n) (c - n), .bool false] 63 (0, 0)) := by
    have := heap_setCell_same w1 p 0 _ _ (.slice A2 (l.length - n) (c - n)) hrow1
    simpa using this
   have hk : Kept [p] w1 (w1.setCell ⟨p, 0, none⟩ (.slice A2 (l.length - n) (c - n))) := (Kept.refl _ _).setCell (.inl (by simp)) _
   have hdl : (l.drop n).length = l.length - n := by rw [List.length_drop]
   have HK := Lib.hid ((Kept.of_ext hx1).trans hk)
   have HR : Hid (RdAt w0 (w1.setCell ⟨p, 0, none⟩ (.slice A2 (l.length - n) (c - n))) p (some (l.drop n))) := Lib.hid ⟨H1.out, (HX.out.trans hx1).kept hk (by intro k hk; simp at hk; subst hk; exact H1.out), A2, c - n, by rw [hdl]; exact hset, by rw [hdl]; have := HLC.out; omega, HBD.out⟩
   have HO : Hid (Own (w1.setCell ⟨p, 0, none⟩ (.slice A2 (l.length - n) (c - n))) w.heap.size v' (l.take n)) := Lib.hid (Own.off ho1 hrow1 (by decide) hk)
   clear hset hk hrow1 ho1 hg1 hx1 hbt hdl hs1
   go_wp2
   go_ret
   rw [E1.out, E2.out]
   exact ⟨_, rfl, HO.out, HR.out, HK.out⟩
set_option maxHeartbeats 1000000 in
theorem RRNum_any (w0 w : World) (p n : Nat) (q : Option By) (h : RdAt w0 w p q) (hn : n ≤ 4) :
 Calls Tryz.prog 21 #[pt p, .int .i64 n] w fun e w' => e = .returned (.int .i64 (valB (cutV n q) : Nat)) ∧ RdAt w0 w' p (cutQ n q) ∧ Kept [p] w w' := by
 have HC := RCut_any w0 w p n q h (by omega)
 have hle := cutV_le n q
 unfold pt at *
 go_enter Tryz.func21, Tryz.ntmps21
 go_wp2_with fail
 refine HC.mono ?_
 rintro e w1 ⟨v, rfl, hown, hr, hk⟩
 generalize hcv : cutV n q = l at *
 have HCV := Lib.hid hcv
 clear hcv
 obtain ⟨A, c, rfl⟩ := hown.form
 have HR := Lib.hid hr
 have HK := Lib.hid hk
 have hb := hown.bs
 clear HC h hr hk hown
 go_wp2
 go_loopw [6, 7] (fun vv iv wr => ∃ i : Nat, iv = .int .i64 i ∧ i ≤ l.length ∧ vv = .int .i64 (valB (l.take i) : Nat) ∧ wr = w1) (fun _ iv _ => l.length - (intOf iv).toNat)
 case atStart => exact ⟨0, rfl, by omega, rfl, rfl⟩
 case round =>
  obtain ⟨i, rfl, hi, rfl, rfl⟩ := hrel
  by_cases hlt : i < l.length
  ·obtain ⟨ad, rfl, hc⟩ := hb.at_ hlt
   have hc0 := hc _ (Ext.refl _)
   have hlt2 : (i : Int) < (l.length : Int) := by omega
   have hv := valB_lt (l.take i)
   have hpow : 256 ^ (l.take i).length ≤ 256 ^ 3 := Nat.pow_le_pow_right (by omega) (by rw [List.length_take]; omega)
   have hvb : valB (l.take i) < 16777216 := Nat.lt_of_lt_of_le hv (by simpa using hpow)
   have HT := Lib.hid (valB_take l i hlt)
   have hcl := l[i].toNat_lt
   generalize valB (l.take i) = vv at *
   generalize l[i].toNat = cc at *
   clear hv hpow hc hb
   go_wp2
   go_roundw
   case rel => exact ⟨i + 1, by go_num, by omega, by rw [HT.out]; exact congrArg _ (by omega), trivial⟩
   case measure => simp [intOf]; omega
  ·have hlt2 : ¬ (i : Int) < (l.length : Int) := by omega
   have ht : l.take i = l := List.take_of_length_le (by omega)
   rw [ht]
   generalize hvv : valB l = vv at *
   have HVV := Lib.hid hvv
   clear hb ht hvv hlt
   go_wp2
   go_ret
   exact ⟨by rw [HCV.out, HVV.out]; rfl, HR.out, HK.out⟩
end Go.Proofs.YthlppbbejdeeoaaGreatDoor
namespace Go.Proofs.YthlppbbejdeeoaaGreatDoor
open Go.RowKit
theorem RdAt.off {w0 w : World} {p : Nat} {q : Option By} (h : RdAt w0 w p q) : w.cell? ⟨p, 1, none⟩ = some (.bool q.isNone) := by
 obtain ⟨v, h⟩ := h.row
 rw [cell_of_row w p 1 _ _ _ h]
 rfl
theorem RdAt.grown {w0 w w' : World} {p : Nat} {q : Option By} {row : Option Nat} (h : RdAt w0 w p q) (hg : w.grownBy w' row) (hne : row = none ∨ row ≠ some p) (hr : ∀ k, row = some k → w0.heap.size ≤ k) : RdAt w0 w' p q := by
 have hb : w'.heap[p]? = w.heap[p]? := hg.block p h.lt (by
  intro e
  rcases hne with h1 | h1
  ·rw [h1] at e; cases e
  ·exact h1 e.symm)
 refine ⟨h.1, h.2.1.grown hg hr, ?_⟩
 cases q with
 | none => obtain ⟨A, n, c, h1⟩ := h.2.2; exact ⟨A, n, c, hb.trans h1⟩
 | some l => obtain ⟨A, c, h1, h2⟩ := h.2.2; exact ⟨A, c, hb.trans h1, h2⟩
theorem OwnI.empty (w : World) (base : Nat) (hb : base ≤ w.heap.size) : OwnI (w.alloc (.cells #[] 3)) base (.slice (some ⟨w.heap.size, 0, none⟩) 0 0) [] :=
 owns_new w base 3 #[] [] 0 rfl rfl hb (by simp [maxLen])
set_option maxHeartbeats 2000000 in
theorem rrlist_any (w0 w : World) (p n : Nat) (q : Option By) (h : RdAt w0 w p q) (hn : n ≤ 4) :
 Calls Tryz.prog 24 #[pt p, .int .i64 n] w fun e w' => ∃ v, e = .returned v ∧ OwnI w' w.heap.size v (liV n q) ∧ RdAt w0 w' p (liQ n q) ∧ Kept [p] w w' := by
 have hpl := h.lt
 have hws := h.2.1.size
 obtain ⟨wa, hwa⟩ : ∃ wa, wa = w.alloc (.cells #[] 3) := ⟨_, rfl⟩
 have hxa : Ext w wa := by rw [hwa]; exact (Ext.refl w).alloc _
 have hra := h.ext hxa
 have hoa : OwnI wa w.heap.size (.slice (some ⟨w.heap.size, 0, none⟩) 0 0) [] := by rw [hwa]; exact OwnI.empty w _ (Nat.le_refl _)
 have H1 := RRNum_any w0 wa p 1 q hra (by omega)
 have HN := fun (w1 : World) (q : Option By) (h1 : RdAt w0 w1 p q) => RRNum_any w0 w1 p n q h1 hn
 have HQ : Hid (liQ n q = repQ (cutQ n) (valB (cutV 1 q)) (cutQ 1 q)) := Lib.hid rfl
 have HV : Hid (liV n q = repV (cutQ n) (nV n) (valB (cutV 1 q)) (cutQ 1 q)) := Lib.hid rfl
 have hk256 := valB_cut 1 q
 have HWA := hwa.symm
 generalize liQ n q = qe at *
 generalize liV n q = ve at *
 generalize valB (cutV 1 q) = K at *
 generalize cutQ 1 q = q1 at *
 clear hwa h
 unfold pt at *
 go_enter Tryz.func24, Tryz.ntmps24
 go_wp2_with fail
 clear HWA
 refine H1.mono ?_
 rintro e w1 ⟨rfl, hr1, hk1⟩
 obtain ⟨vrow, hrow⟩ := hra.row
 have ho1 := hoa.off hrow (by decide) hk1
 have hk01 := (Kept.of_ext (M := [p]) hxa).trans hk1
 clear H1 hra hoa hrow hk1 hxa
 go_wp2
 go_loopw [5, 7] (fun ov iv wr => ∃ (i : Nat) (vs : List Int) (q' : Option By), iv = .int .i64 i ∧ i ≤ K ∧ vs.length = i ∧ RdAt w0 wr p q' ∧ OwnI wr w.heap.size ov vs ∧ Kept [p] w wr ∧
  vs ++ repV (cutQ n) (nV n) (K - i) q' = ve ∧ repQ (cutQ n) (K - i) q' = qe) (fun _ iv _ => K - (intOf iv).toNat)
 case atStart => exact ⟨0, [], q1, rfl, by omega, rfl, hr1, ho1, hk01, HV.out.symm, HQ.out.symm⟩
 case round =>
  clear hr1 hk01 ho1
  obtain ⟨i, vs, q', rfl, hi, hvl, hr, hov, hk, hrv, hrq⟩ := hrel
  have C1 := hr.off
  by_cases hlt : i < K
  ·have hlt2 : (i : Int) < (K : Int) := by omega
   cases q' with
   | none =>
    rw [show (none : Option By).isNone = true from rfl] at C1
    rw [repV_none, List.append_nil] at hrv
    rw [repQ_none] at hrq
    subst hrv hrq
    have HOV := Lib.hid hov
    have HR := Lib.hid hr
    have HK := Lib.hid hk
    clear hov hr hk hvl HQ HV
    go_wp2
    go_ret
    exact ⟨_, rfl, HOV.out, HR.out, HK.out⟩
   | some l =>
    rw [show (some l : Option By).isNone = false from rfl] at C1
    have HRV : Hid (vs ++ [nV n (some l)] ++ repV (cutQ n) (nV n) (K - (i + 1)) (cutQ n (some l)) = ve) := Lib.hid (by
     rw [← hrv, show K - i = (K - (i + 1)) + 1 by omega, repV, List.append_assoc]; rfl)
    have HRQ : Hid (repQ (cutQ n) (K - (i + 1)) (cutQ n (some l)) = qe) := Lib.hid (by
     rw [← hrq, show K - i = (K - (i + 1)) + 1 by omega, repQ])
    have HVL := Lib.hid hvl
    have hX := HN wr _ hr
    obtain ⟨Ao, co, rfl⟩ := hov.form
    have HOV := Lib.hid hov
    have HR := Lib.hid hr
    have HKK := Lib.hid hk
    clear hrv hrq hvl hov hr hk HQ HV
    go_wp2_with fail
    clear C1
    refine hX.mono ?_
    rintro e w2 ⟨rfl, hr2, hk2⟩
    have hkk := HKK.out.trans hk2
    obtain ⟨vr, hrow⟩ := HR.out.row
    have hov2 : OwnI w2 w.heap.size (.slice Ao vs.length co) vs := HOV.out.off hrow (by decide) hk2
    generalize hnv : nV n (some l) = nv at *
    have hnv2 : ((valB (cutV n (some l)) : Nat) : Int) = nv := hnv
    rw [hnv2]
    clear hX hrow hk2
    go_wp2_with (at_builtin; refine unstop ?_)
    refine go_on (wpList_app intsT (World.ownsRow.alloc hov2 _) (Sl.new w2 [.int .i64 nv] _ _) rfl rfl rfl rfl rfl (by simp [Value.oneCell']) (by have := HVL.out; omega) (by have := HVL.out; omega) (by have := hkk.size; simp; omega) ?_)
    intro v' w3 ho3 hg3 _
    have hlow := (World.ownsRow.alloc hov2 (.cells #[.int .i64 nv] 3)).lt
    have hk3 : Kept [p] w w3 := (hkk.alloc _).grown hg3 (fun k hk => .inr (hlow k hk).1)
    have hr3 : RdAt w0 w3 p (cutQ n (some l)) := by
     have hra := hr2.ext ((Ext.refl w2).alloc (.cells #[.int .i64 nv] 3))
     obtain ⟨va, hrowa⟩ := hra.row
     exact hra.grown hg3 (owns_obj (World.ownsRow.alloc hov2 _) hrowa (by decide)) (fun k hk => by have := (hlow k hk).1; omega)
    have ho3' : OwnI w3 w.heap.size v' (vs ++ [nv]) := by
     unfold OwnI
     rw [doV_app, List.length_append]
     exact ho3
    clear ho3 hg3 hlow hkk hr2 hov2 hnv
    go_wp2
    go_roundw
    case rel => exact ⟨i + 1, vs ++ [nv], _, by go_num, by omega, by simp [HVL.out], hr3, ho3', hk3, HRV.out, HRQ.out⟩
    case measure => simp [intOf]; omega
  ·obtain rfl : i = K := by omega
   have hlt2 : ¬ (i : Int) < (i : Int) := by omega
   rw [Nat.sub_self] at hrv hrq
   rw [repV, List.append_nil] at hrv
   rw [repQ] at hrq
   subst hrv hrq
   have HOV := Lib.hid hov
   have HR := Lib.hid hr
   have HK := Lib.hid hk
   clear hov hr hk HQ HV hlt
   go_wp2
   go_ret
   exact ⟨_, rfl, HOV.out, HR.out, HK.out⟩
end Go.Proofs.YthlppbbejdeeoaaGreatDoor
