/- The reference's reader: Cut and Num (as in deed's layer). Conditions: the hypotheses of each theorem. The walk of the reference's Redo: what is no record, and a life. Conditions: the hypotheses of each theorem. The walk of the reference's Redo: a life. Conditions: the hypotheses of the theorem. The walk of the reference's Redo: a transaction is over. Conditions: the hypotheses of the theorem. The plain law of a record that a transaction is done, as the reference reads it. No program. Conditions: the hypotheses of each theorem. -/
import Derived.Test.YtijopcdjlpafdaaRCo6M
import Derived.Test.YtijopcdjlpafdaaCutM
namespace Go.Proofs.Ytijopcdjlpafdaa
open Go.RowKit
theorem Own.off {w w' : World} {base g : Nat} {v : Value} {l : By} {cs : Array Value} {t : TypeId} {fr : Nat × Nat} (h : Own w base v l) (hp : w.heap[g]? = some (.cells cs t fr)) (hne : 5 ≠ t) (hk : Kept [g] w w') : Own w' base v l :=
 h.kept hk.grown1 (owns_obj h hp hne)
/-- the reader at p: what it has still, or that its bytes ended -/
def RdAt (w0 w : World) (p : Nat) (q : Option By) : Prop := w0.heap.size ≤ p ∧ Ext w0 w ∧ match q with
 | some l => ∃ A cap, w.heap[p]? = some (.cells #[.slice A l.length cap, .bool false] 112 (0, 0)) ∧ l.length ≤ cap ∧ Bs w0 A l
 | none => ∃ A n cap, w.heap[p]? = some (.cells #[.slice A n cap, .bool true] 112 (0, 0))
theorem RdAt.ext {w0 w w' : World} {p : Nat} {q : Option By} (h : RdAt w0 w p q) (hx : Ext w w') : RdAt w0 w' p q := by
 refine ⟨h.1, h.2.1.trans hx, ?_⟩
 cases q with
 | none => obtain ⟨A, n, c, h1⟩ := h.2.2; exact ⟨A, n, c, hx.obj h1⟩
 | some l => obtain ⟨A, c, h1, h2⟩ := h.2.2; exact ⟨A, c, hx.obj h1, h2⟩
theorem RdAt.kept {M : List Nat} {w0 w w' : World} {p : Nat} {q : Option By} (h : RdAt w0 w p q) (hk : Kept M w w') (hp : p ∉ M) (hM : ∀ k ∈ M, w0.heap.size ≤ k) : RdAt w0 w' p q := by
 refine ⟨h.1, h.2.1.kept hk hM, ?_⟩
 cases q with
 | none => obtain ⟨A, n, c, h1⟩ := h.2.2; exact ⟨A, n, c, hk.heap h1 hp⟩
 | some l => obtain ⟨A, c, h1, h2⟩ := h.2.2; exact ⟨A, c, hk.heap h1 hp, h2⟩
theorem RdAt.row {w0 w : World} {p : Nat} {q : Option By} (h : RdAt w0 w p q) : ∃ v, w.heap[p]? = some (.cells #[v, .bool q.isNone] 112 (0, 0)) := by
 cases q with
 | none => obtain ⟨A, n, c, h1⟩ := h.2.2; exact ⟨_, h1⟩
 | some l => obtain ⟨A, c, h1, h2⟩ := h.2.2; exact ⟨_, h1⟩
theorem RdAt.lt {w0 w : World} {p : Nat} {q : Option By} (h : RdAt w0 w p q) : p < w.heap.size := by
 obtain ⟨v, h⟩ := h.row
 exact obj_lt h
set_option maxHeartbeats 1000000 in
theorem RCut_any (w0 w : World) (p n : Nat) (q : Option By) (h : RdAt w0 w p q) (hn : n ≤ 100000) :
 Calls Try.prog 69 #[pt p, .int .i64 n] w fun e w' => ∃ v, e = .returned v ∧ Own w' w.heap.size v (cutV n q) ∧ RdAt w0 w' p (cutQ n q) ∧ Kept [p] w w' := by
 have hp := h.lt
 have hx0 := h.2.1
 unfold pt
 cases q with
 | none =>
  obtain ⟨A, m, c, hrow⟩ := h.2.2
  obtain ⟨C0, C1, F⟩ := row2_at hrow
  have hset : (w.setCell ⟨p, 1, none⟩ (.bool true)).heap[p]? = some (.cells #[.slice A m c, .bool true] 112 (0, 0)) := by
   have := heap_setCell_same w p 1 _ _ (.bool true) hrow
   simpa using this
  have hk : Kept [p] w (w.setCell ⟨p, 1, none⟩ (.bool true)) := (Kept.refl _ _).setCell (.inl (by simp)) _
  have HSET := Lib.hid hset
  have HK := Lib.hid hk
  have H1 := Lib.hid h.1
  have HX := Lib.hid hx0
  clear h hrow hset hk hp hx0
  go_enter Try.func69, Try.ntmps69
  go_wp2
  go_ret
  exact ⟨_, rfl, Own.nil _ _, ⟨H1.out, HX.out.kept HK.out (by intro k hk; simp at hk; subst hk; exact H1.out), A, m, c, HSET.out⟩, HK.out⟩
 | some l =>
  obtain ⟨A, c, hrow, hlc, hb⟩ := h.2.2
  obtain ⟨C0, C1, F⟩ := row2_at hrow
  by_cases hln : l.length < n
  ·have hln1 : (l.length : Int) < (n : Int) := by omega
   have hset : (w.setCell ⟨p, 1, none⟩ (.bool true)).heap[p]? = some (.cells #[.slice A l.length c, .bool true] 112 (0, 0)) := by
    have := heap_setCell_same w p 1 _ _ (.bool true) hrow
    simpa using this
   have hk : Kept [p] w (w.setCell ⟨p, 1, none⟩ (.bool true)) := (Kept.refl _ _).setCell (.inl (by simp)) _
   have e1 : cutV n (some l) = [] := by simp [cutV, hln]
   have e2 : cutQ n (some l) = none := by simp [cutQ, hln]
   have E1 := Lib.hid e1
   have E2 := Lib.hid e2
   have HSET := Lib.hid hset
   have HK := Lib.hid hk
   have H1 := Lib.hid h.1
   have HX := Lib.hid hx0
   clear h hrow hset hk hp hx0 hln hb hlc e1 e2
   go_enter Try.func69, Try.ntmps69
   go_wp2
   go_ret
   rw [E1.out, E2.out]
   exact ⟨_, rfl, Own.nil _ _, ⟨H1.out, HX.out.kept HK.out (by intro k hk; simp at hk; subst hk; exact H1.out), A, _, c, HSET.out⟩, HK.out⟩
  ·have hln1 : ¬ (l.length : Int) < (n : Int) := by omega
   obtain ⟨A1, hs1, hb1⟩ := cutB_h (P := Try.prog) Try.underlying23 Try.sizeOf5 A l.length c l n (hi := n) rfl rfl hlc (by omega)
   obtain ⟨A2, hs2, hb2⟩ := cutB_l (P := Try.prog) Try.underlying23 Try.sizeOf5 A l.length c l n (li := n) rfl rfl hlc (by omega)
   have e1 : cutV n (some l) = l.take n := by simp [cutV, hln]
   have e2 : cutQ n (some l) = some (l.drop n) := by simp [cutQ, hln]
   have e3 : (l.take n).length = n := by rw [List.length_take]; omega
   have E1 := Lib.hid e1
   have E2 := Lib.hid e2
   have E3 := Lib.hid e3
   have hbt := hb1 _ (hb.ext hx0)
   have HBD := Lib.hid (hb2 _ hb)
   have HROW := Lib.hid hrow
   have H1 := Lib.hid h.1
   have HX := Lib.hid hx0
   have HLC := Lib.hid hlc
   have HLN := Lib.hid hln
   have hx := Ext.refl w
   clear h hln hb hb1 hb2 e1 e2 e3 hrow
   go_enter Try.func69, Try.ntmps69
   go_wp2_with (at_builtin; refine unstop ?_)
   refine go_on (wpList_appB bytesTr (Own.empty w w.heap.size (Nat.le_refl _)) (hbt.ext ((Ext.refl w).alloc _)) rfl rfl rfl rfl (by simp [E3.out]) (by simp [E3.out]; omega) (by simp) ?_)
   intro v' w1 ho1 hg1 _
   have hx1 : Ext w w1 := ((Ext.refl w).alloc _).own (Own.empty w w.heap.size (Nat.le_refl _)) (Nat.le_refl _) hg1
   have hrow1 := hx1.obj HROW.out
   obtain ⟨C0, C1, F⟩ := row2_at hrow1
   have hset : (w1.setCell ⟨p, 0, none⟩ (.slice A2 (l.length - n) (c - n))).heap[p]? = some (.cells #[.slice A2 (l.length - n) (c - n), .bool false] 112 (0, 0)) := by
    have := heap_setCell_same w1 p 0 _ _ (.slice A2 (l.length - n) (c - n)) hrow1
    simpa using this
   have hk : Kept [p] w1 (w1.setCell ⟨p, 0, none⟩ (.slice A2 (l.length - n) (c - n))) := (Kept.refl _ _).setCell (.inl (by simp)) _
   have hdl : (l.drop n).length = l.length - n := by rw [List.length_drop]
   have HK := Lib.hid ((Kept.of_ext hx1).trans hk)
   have HR : Hid (RdAt w0 (w1.setCell ⟨p, 0, none⟩ (.slice A2 (l.length - n) (c - n))) p (some (l.drop n))) := Lib.hid ⟨H1.out, (HX.out.trans hx1).kept hk (by intro k hk; simp at hk; subst hk; exact H1.out), A2, c - n, by rw [hdl]; exact hset, by rw [hdl]; have := HLC.out; omega, HBD.out⟩
   have HO : Hid (Own (w1.setCell ⟨p, 0, none⟩ (.slice A2 (l.length - n) (c - n))) w.heap.size v' (l.take n)) := Lib.hid (Own.off ho1 hrow1 (by decide) hk)
   clear hset hk hrow1 ho1 hg1 hx1 hbt hdl hs1
   go_wp2
   go_ret
   rw [E1.out, E2.out]
   exact ⟨_, rfl, HO.out, HR.out, HK.out⟩
set_option maxHeartbeats 1000000 in
theorem RRNum_any (w0 w : World) (p n : Nat) (q : Option By) (h : RdAt w0 w p q) (hn : n ≤ 4) :
 Calls Try.prog 68 #[pt p, .int .i64 n] w fun e w' => e = .returned (.int .i64 (valB (cutV n q) : Nat)) ∧ RdAt w0 w' p (cutQ n q) ∧ Kept [p] w w' := by
 have HC := RCut_any w0 w p n q h (by omega)
 have hle := cutV_le n q
 unfold pt at *
 go_enter Try.func68, Try.ntmps68
 go_wp2_with fail
 refine HC.mono ?_
 rintro e w1 ⟨v, rfl, hown, hr, hk⟩
 generalize hcv : cutV n q = l at *
 have HCV := Lib.hid hcv
 clear hcv
 obtain ⟨A, c, rfl⟩ := hown.form
 have HR := Lib.hid hr
 have HK := Lib.hid hk
 have hb := hown.bs
 clear HC h hr hk hown
 go_wp2
 go_loopw [6, 7] (fun vv iv wr => ∃ i : Nat, iv = .int .i64 i ∧ i ≤ l.length ∧ vv = .int .i64 (valB (l.take i) : Nat) ∧ wr = w1) (fun _ iv _ => l.length - (intOf iv).toNat)
 case atStart => exact ⟨0, rfl, by omega, rfl, rfl⟩
 case round =>
  obtain ⟨i, rfl, hi, rfl, rfl⟩ := hrel
  by_cases hlt : i < l.length
  ·obtain ⟨ad, rfl, hc⟩ := hb.at_ hlt
   have hc0 := hc _ (Ext.refl _)
   have hlt2 : (i : Int) < (l.length : Int) := by omega
   have hv := valB_lt (l.take i)
   have hpow : 256 ^ (l.take i).length ≤ 256 ^ 3 := Nat.pow_le_pow_right (by omega) (by rw [List.length_take]; omega)
   have hvb : valB (l.take i) < 16777216 := Nat.lt_of_lt_of_le hv (by simpa using hpow)
   have HT := Lib.hid (valB_take l i hlt)
   have hcl := l[i].toNat_lt
   generalize valB (l.take i) = vv at *
   generalize l[i].toNat = cc at *
   clear hv hpow hc hb
   go_wp2
   go_roundw
   case rel => exact ⟨i + 1, by go_num, by omega, by rw [HT.out]; exact congrArg _ (by omega), trivial⟩
   case measure => simp [intOf]; omega
  ·have hlt2 : ¬ (i : Int) < (l.length : Int) := by omega
   have ht : l.take i = l := List.take_of_length_le (by omega)
   rw [ht]
   generalize hvv : valB l = vv at *
   have HVV := Lib.hid hvv
   clear hb ht hvv hlt
   go_wp2
   go_ret
   exact ⟨by rw [HCV.out, HVV.out]; rfl, HR.out, HK.out⟩
end Go.Proofs.Ytijopcdjlpafdaa
namespace Go.Proofs.Ytijopcdjlpafdaa
open Go.RowKit
/-! ## what the reader has read (no program) -/
def kdN (r : By) : Nat := valB (cutV 1 (some r))
def btN (r : By) : Nat := valB (cutV 4 (cutQ 1 (some r)))
def q2 (r : By) : Option By := cutQ 4 (cutQ 1 (some r))
theorem q2_short {r : By} (h : r.length < 5) : q2 r = none := by
 unfold q2 cutQ
 simp only
 split
 ·rename_i h1
  split at h1
  ·rfl
  ·cases h1
 ·rename_i l h1
  split at h1
  ·cases h1
  ·injection h1 with h1
   subst h1
   rw [if_pos (by rw [List.length_drop]; omega)]
theorem q2_long {r : By} (h : 5 ≤ r.length) : q2 r = some (r.drop 5) := by
 unfold q2
 have h1 : cutQ 1 (some r) = some (r.drop 1) := by unfold cutQ; simp only; rw [if_neg (by omega)]
 rw [h1]
 unfold cutQ
 simp only
 rw [if_neg (by rw [List.length_drop]; omega), List.drop_drop]
theorem bt_long {r : By} (h : 5 ≤ r.length) : btN r = valAt r 1 := by
 unfold btN valAt
 have h1 : cutQ 1 (some r) = some (r.drop 1) := by unfold cutQ; simp only; rw [if_neg (by omega)]
 rw [h1]
 unfold cutV
 simp only
 rw [if_neg (by rw [List.length_drop]; omega)]
theorem kd_long {r : By} (h : 1 ≤ r.length) : kdN r = (r.getD 0 0).toNat := by
 unfold kdN cutV
 simp only
 rw [if_neg (by omega)]
 match r, h with
 | c :: l, _ => simp [valB, valF]
theorem kd_bound (r : By) : kdN r < 256 := by
 unfold kdN
 have h1 := valB_lt (cutV 1 (some r))
 have h2 := cutV_le 1 (some r)
 have h3 : 256 ^ (cutV 1 (some r)).length ≤ 256 ^ 1 := Nat.pow_le_pow_right (by omega) h2
 omega
theorem bt_bound (r : By) : btN r < 4294967296 := by
 unfold btN
 have h1 := valB_lt (cutV 4 (cutQ 1 (some r)))
 have h2 := cutV_le 4 (cutQ 1 (some r))
 have h3 : 256 ^ (cutV 4 (cutQ 1 (some r))).length ≤ 256 ^ 4 := Nat.pow_le_pow_right (by omega) h2
 omega
theorem getD_kd {r : By} (h : 1 ≤ r.length) (k : UInt8) : r.getD 0 0 = k ↔ kdN r = k.toNat := by
 rw [kd_long h]
 exact ⟨fun h => by rw [h], fun h => UInt8.toNat_inj.1 h⟩
theorem rr_bad {s : Cs} {r : By} (h : (q2 r).isNone = true ∨ btN r < 1 ∨ 2147483647 < btN r ∨ kdN r < 1 ∨ 3 < kdN r) : redoO s r = (4, s) := by
 unfold redoO
 by_cases h5 : r.length < 5
 ·rw [if_pos (.inl h5)]
 have h5' : 5 ≤ r.length := by omega
 rw [q2_long h5', bt_long h5'] at h
 by_cases hg : goodF (valAt r 1) = false
 ·rw [if_pos (.inr hg)]
 ·have hg' : 1 ≤ valAt r 1 ∧ valAt r 1 ≤ 2147483647 := by
   unfold goodF at hg
   simpa using hg
  have hk : kdN r < 1 ∨ 3 < kdN r := by
   rcases h with h | h | h | h
   ·simp at h
   ·omega
   ·omega
   ·exact h
  rw [if_neg (by rintro (h | h); exact h5 h; exact hg h), if_neg (fun e => by have := (getD_kd (by omega) 1).1 e.1; simp at this; omega)]
  split
  ·rfl
  ·rw [if_neg (fun e => by have := (getD_kd (by omega) 3).1 e.1; simp at this; omega), if_neg (fun e => by have := (getD_kd (by omega) 2).1 e.1; simp at this; omega)]
theorem rr_life {s : Cs} {r : By} (h5 : 5 ≤ r.length) (hb1 : 1 ≤ btN r) (hb2 : btN r ≤ 2147483647) (hk : kdN r = 1) : redoO s r = if r.length = 5 then livesO s (btN r : Nat) else (4, s) := by
 unfold redoO
 rw [bt_long h5] at *
 have hg : goodF (valAt r 1) = true := by unfold goodF; simp; omega
 have h0 : r.getD 0 0 = 1 := (getD_kd (by omega) 1).2 (by simpa using hk)
 rw [if_neg (by rw [hg]; simp; omega), h0]
 by_cases hl : r.length = 5
 ·rw [if_pos ⟨rfl, hl⟩, if_pos hl]
 ·rw [if_neg (fun e => hl e.2), if_neg hl]
  split
  ·rfl
  ·rw [if_neg (by simp), if_neg (by simp)]
set_option maxRecDepth 20000 in
set_option maxHeartbeats 4000000 in
theorem RRedo_bad {M : List Nat} {w : World} {q : Nat} {s : Cs} (h : Rc M w q s) (A : Option Addr) (c : Nat) (r : By) (hb : Bs w A r) (hc : r.length ≤ c) (hbad : (q2 r).isNone = true ∨ btN r < 1 ∨ 2147483647 < btN r ∨ kdN r < 1 ∨ 3 < kdN r) :
 Calls Try.prog 66 #[pt q, .slice A r.length c] w fun e w' => e = .returned (.int .i64 (redoO s r).1) ∧ Rc M w' q (redoO s r).2 ∧ Kept [q] w w' := by
 have HCO := Lib.hid h
 have HV := Lib.hid (rr_bad (s := s) hbad)
 clear h
 unfold pt at *
 obtain ⟨wa, hwa⟩ : ∃ wa, wa = w.alloc (.cells #[.slice A r.length c, .bool false] 112) := ⟨_, rfl⟩
 have hxa : Ext w wa := by rw [hwa]; exact (Ext.refl w).alloc _
 have hrow : wa.heap[w.heap.size]? = some (.cells #[.slice A r.length c, .bool false] 112 (0, 0)) := by rw [hwa]; exact heap_alloc_new w _
 have hra : RdAt w wa w.heap.size (some r) := ⟨Nat.le_refl _, hxa, A, c, hrow, hc, hb⟩
 have HPG := Lib.hid (Nat.le_refl w.heap.size)
 have HN1 := RRNum_any w wa w.heap.size 1 (some r) hra (by omega)
 have HN2 := fun W (h : RdAt w W w.heap.size (cutQ 1 (some r))) => RRNum_any w W w.heap.size 4 (cutQ 1 (some r)) h (by omega)
 rw [show valB (cutV 1 (some r)) = kdN r from rfl] at HN1
 rw [show valB (cutV 4 (cutQ 1 (some r))) = btN r from rfl, show cutQ 4 (cutQ 1 (some r)) = q2 r from rfl] at HN2
 unfold pt at HN1 HN2
 have hwaA := hwa.symm
 have hkd := kd_bound r
 have hbt := bt_bound r
 clear hwa hrow hra hb hc
 go_enter Try.func66, Try.ntmps66
 go_wp2_with fail
 clear hwaA
 refine HN1.mono ?_
 rintro e w1 ⟨rfl, hr1, -⟩
 go_wp2_with fail
 refine (HN2 _ hr1).mono ?_
 rintro e w2 ⟨rfl, hr2, -⟩
 clear HN1 HN2 hxa
 generalize hpe : w.heap.size = p at *
 have HPE := Lib.hid hpe
 clear hpe
 have HX2 := Lib.hid hr2.2.1
 obtain ⟨v, hrow2⟩ := hr2.row
 obtain ⟨R0, R1, RF⟩ := row2_at hrow2
 clear hr1 hr2 hrow2 R0 RF
 generalize (q2 r).isNone = b at *
 generalize btN r = bt at *
 generalize kdN r = kd at *
 cases b with
 | true =>
  clear hbad
  go_wp2
  go_ret
  rw [HV.out]
  exact ⟨rfl, HCO.out.ext HX2.out, .of_ext HX2.out⟩
 | false =>
  by_cases h1 : bt < 1
  ·have k1 : (bt : Int) < 1 := by omega
   clear hbad
   go_wp2
   go_ret
   rw [HV.out]
   exact ⟨rfl, HCO.out.ext HX2.out, .of_ext HX2.out⟩
  ·have k1 : ¬ (bt : Int) < 1 := by omega
   by_cases h2 : 2147483647 < bt
   ·have k2 : (2147483647 : Int) < bt := by omega
    clear hbad
    go_wp2
    go_ret
    rw [HV.out]
    exact ⟨rfl, HCO.out.ext HX2.out, .of_ext HX2.out⟩
   ·have k2 : ¬ (2147483647 : Int) < bt := by omega
    by_cases h3 : kd < 1
    ·have k3 : (kd : Int) < 1 := by omega
     clear hbad
     go_wp2
     go_ret
     rw [HV.out]
     exact ⟨rfl, HCO.out.ext HX2.out, .of_ext HX2.out⟩
    ·have k3 : ¬ (kd : Int) < 1 := by omega
     have k4 : (3 : Int) < kd := by
      rcases hbad with h | h | h | h | h
      ·cases h
      ·exact absurd h h1
      ·exact absurd h h2
      ·exact absurd h h3
      ·omega
     clear hbad
     go_wp2
     go_ret
     rw [HV.out]
     exact ⟨rfl, HCO.out.ext HX2.out, .of_ext HX2.out⟩
end Go.Proofs.Ytijopcdjlpafdaa
namespace Go.Proofs.Ytijopcdjlpafdaa
open Go.RowKit
set_option maxRecDepth 20000 in
set_option maxHeartbeats 4000000 in
theorem RRedo_life {M : List Nat} {w : World} {q : Nat} {s : Cs} (h : Rc M w q s) (hfew : s.under.length ≤ 1000) (hq : q ∈ M) (hM : ∀ k ∈ M, k < w.heap.size) (A : Option Addr) (c : Nat) (r : By) (hb : Bs w A r) (hc : r.length ≤ c) (hm : r.length ≤ 140737488355328) (h5 : 5 ≤ r.length) (hb1 : 1 ≤ btN r) (hb2 : btN r ≤ 2147483647) (hk : kdN r = 1) :
 Calls Try.prog 66 #[pt q, .slice A r.length c] w fun e w' => e = .returned (.int .i64 (redoO s r).1) ∧ Rc M w' q (redoO s r).2 ∧ Kept [q] w w' := by
 have HCO := Lib.hid h
 have HV := Lib.hid (rr_life (s := s) h5 hb1 hb2 hk)
 have HPL := Lib.hid h.lt
 have HQ := Lib.hid hq
 have HM := Lib.hid hM
 obtain ⟨Ac, cap, h⟩ := h
 obtain ⟨c0, c1, c2, c3, cf⟩ := rows4 h.row
 have HRS := Lib.hid h.rs
 have HROW := Lib.hid h.row
 clear h hM
 unfold pt at *
 obtain ⟨wa, hwa⟩ : ∃ wa, wa = w.alloc (.cells #[.slice A r.length c, .bool false] 112) := ⟨_, rfl⟩
 have hxa : Ext w wa := by rw [hwa]; exact (Ext.refl w).alloc _
 have hrow : wa.heap[w.heap.size]? = some (.cells #[.slice A r.length c, .bool false] 112 (0, 0)) := by rw [hwa]; exact heap_alloc_new w _
 have hra : RdAt w wa w.heap.size (some r) := ⟨Nat.le_refl _, hxa, A, c, hrow, hc, hb⟩
 have HPG := Lib.hid (Nat.le_refl w.heap.size)
 have HN1 := RRNum_any w wa w.heap.size 1 (some r) hra (by omega)
 have HN2 := fun W (h : RdAt w W w.heap.size (cutQ 1 (some r))) => RRNum_any w W w.heap.size 4 (cutQ 1 (some r)) h (by omega)
 rw [show valB (cutV 1 (some r)) = kdN r from rfl] at HN1
 rw [show valB (cutV 4 (cutQ 1 (some r))) = btN r from rfl, show cutQ 4 (cutQ 1 (some r)) = q2 r from rfl] at HN2
 unfold pt at HN1 HN2
 have hwaA := hwa.symm
 have hkd := kd_bound r
 have hbt := bt_bound r
 clear hwa hrow hra hb hc
 go_enter Try.func66, Try.ntmps66
 go_wp2_with fail
 clear hwaA
 refine HN1.mono ?_
 rintro e w1 ⟨rfl, hr1, -⟩
 go_wp2_with fail
 refine (HN2 _ hr1).mono ?_
 rintro e w2 ⟨rfl, hr2, -⟩
 clear HN1 HN2 hxa
 generalize hpe : w.heap.size = p at *
 have HPE := Lib.hid hpe
 clear hpe
 rw [q2_long h5] at hr2
 have HX2 := Lib.hid hr2.2.1
 obtain ⟨Ar, cr, hrow2, -, -⟩ := hr2.2.2
 have hdl : (r.drop 5).length = r.length - 5 := by rw [List.length_drop]
 rw [hdl] at hrow2
 obtain ⟨R0, R1, RF⟩ := row2_at hrow2
 clear hr1 hr2 hrow2 RF hdl
 generalize btN r = bt at *
 clear hkd hk
 have k1 : ¬ (bt : Int) < 1 := by omega
 have k2 : ¬ (2147483647 : Int) < bt := by omega
 by_cases hl : r.length = 5; rotate_left
 ·have hgt : (0 : Int) < ((r.length - 5 : Nat) : Int) := by omega
  rw [if_neg hl] at HV
  clear c0 c1 c2 c3 cf
  go_wp2
  go_ret
  rw [HV.out]
  exact ⟨rfl, HCO.out.ext HX2.out, .of_ext HX2.out⟩
 ·have hgt : ¬ (0 : Int) < ((r.length - 5 : Nat) : Int) := by omega
  rw [if_pos hl] at HV
  have c12 := c1 w2 HX2.out
  by_cases hle : (bt : Int) ≤ s.boot
  ·have HL : Hid (livesO s (bt : Nat) = (13, s)) := Lib.hid (by unfold livesO; rw [if_pos hle])
   clear c0 c1 c2 c3 cf
   go_wp2
   go_ret
   rw [HV.out, HL.out]
   exact ⟨rfl, HCO.out.ext HX2.out, .of_ext HX2.out⟩
  ·have HL : Hid (livesO s (bt : Nat) = (0, ⟨s.node, bt, 1, s.under.filter (·.done)⟩)) := Lib.hid (by unfold livesO; rw [if_neg hle])
   have c22 := c2 w2 HX2.out
   have cf2 := fun j => cf w2 j HX2.out
   have hk3 : Kept [q] w2 ((w2.setCell ⟨q, 1, none⟩ (.int .i64 bt)).setCell ⟨q, 2, none⟩ (.int .i64 1)) := ((Kept.refl _ _).setCell (.inl (by simp)) _).setCell (.inl (by simp)) _
   have hset := heap_setCell_same _ q 2 _ _ (.int .i64 1) (heap_setCell_same w2 q 1 _ _ (.int .i64 bt) (HX2.out.obj HROW.out))
   have hset3 : ((w2.setCell ⟨q, 1, none⟩ (.int .i64 bt)).setCell ⟨q, 2, none⟩ (.int .i64 1)).heap[q]? = some (.cells #[.int .i64 s.node, .int .i64 bt, .int .i64 1, .slice Ac s.under.length cap] 93 (0, 0)) := by simpa using hset
   have hkw : Kept [q] w ((w2.setCell ⟨q, 1, none⟩ (.int .i64 bt)).setCell ⟨q, 2, none⟩ (.int .i64 1)) := (Kept.of_ext HX2.out).trans hk3
   have HP3 := Lib.hid hset3
   have HK3 := Lib.hid hkw
   have HRS3 := Lib.hid (HRS.out.kept (hkw.mono (by intro k hk; simp at hk; subst hk; exact HQ.out)))
   have HM3 : Hid (∀ k ∈ M, k < ((w2.setCell ⟨q, 1, none⟩ (.int .i64 bt)).setCell ⟨q, 2, none⟩ (.int .i64 1)).heap.size) := Lib.hid fun k hk => Nat.lt_of_lt_of_le (HM.out k hk) (HPE.out ▸ hkw.size)
   have HZ3 : Hid (((w2.setCell ⟨q, 1, none⟩ (.int .i64 bt)).setCell ⟨q, 2, none⟩ (.int .i64 1)).heap.size = w2.heap.size) := Lib.hid (by simp [World.setCell])
   obtain ⟨e0, e1, e2, e3, ef⟩ := rows4 hset3
   clear hset hset3 hk3 hkw c0 c1 c2 c3 cf e0 e1 e2 HROW HRS
   go_wp2_with fail
   generalize (w2.setCell ⟨q, 1, none⟩ (.int .i64 bt)).setCell ⟨q, 2, none⟩ (.int .i64 1) = w3 at *
   have hx3 : Ext w3 (w3.alloc (.cells #[] 98)) := (Ext.refl w3).alloc _
   have ho3 : OwnR RRr 7 98 M w3 (w3.alloc (.cells #[] 98)) w3.heap.size (.slice (some ⟨w3.heap.size, 0, none⟩) 0 0) [] := ⟨[], rfl, by simp, World.ownsRow_made w3 #[] 0 (Nat.le_refl _) (by simp [maxLen]) rfl, by simp⟩
   clear c12 c22 cf2
   go_wp2
   go_loopw [8, 9] (fun v iv wr => ∃ i : Nat, iv = .int .i64 i ∧ i ≤ s.under.length ∧ Hid (OwnR RRr 7 98 M w3 wr w3.heap.size v ((s.under.take i).filter (·.done))) ∧ Ext w3 wr) (fun _ iv _ => s.under.length - (intOf iv).toNat)
   case atStart => exact ⟨0, rfl, by omega, Lib.hid (by rw [← HZ3.out]; simpa using ho3), hx3⟩
   case round =>
    obtain ⟨i, rfl, hi, HO, hxr⟩ := hrel
    clear ho3 hx3
    obtain ⟨Av, cv, rfl⟩ := HO.out.form
    have e3r := e3 wr hxr
    have hfl : ((s.under.take i).filter (·.done)).length ≤ i := Nat.le_trans (List.length_filter_le _ _) (by rw [List.length_take]; omega)
    by_cases hlt : i < s.under.length
    ·have hlt2 : (i : Int) < (s.under.length : Int) := by omega
     obtain ⟨ad, cs, rfl, _, hcl, hcell, hsays⟩ := HRS3.out.at_ (by omega) hlt
     have hcell : ∀ j v, cs[j]? = some v → wr.cell? ((ad.add (i * 7)).add j) = some v := fun j v hj => by
      rw [add_addB]
      exact hxr.cell (hcell j v hj)
     have hc4 : wr.cell? ((ad.add (i * 7)).add 4) = some (.bool s.under[i].done) := by
      obtain ⟨A0, d0, A1, d1, A2, d2, rfl, _⟩ := hsays
      exact hcell 4 _ rfl
     rw [add_pos'] at hc4
     have HST : Hid ((s.under.take (i + 1)).filter (·.done) = (s.under.take i).filter (·.done) ++ if s.under[i].done then [s.under[i]] else []) := Lib.hid (by
      rw [List.take_succ_eq_append_getElem hlt, List.filter_append]
      congr 1
      cases hd : s.under[i].done <;> simp [hd])
     have HSY := Lib.hid hsays
     have HCE := Lib.hid hcell
     clear hsays hcell
     generalize s.under[i] = t at *
     generalize (s.under.take i).filter (·.done) = fs at *
     cases hdd : t.done with
     | false =>
      rw [hdd] at hc4 HST
      have HO2 : Hid (OwnR RRr 7 98 M w3 wr w3.heap.size (.slice Av fs.length cv) ((s.under.take (i + 1)).filter (·.done))) := Lib.hid (by rw [HST.out]; simpa using HO.out)
      clear hdd
      go_wp2
      go_roundw
      case rel => exact ⟨i + 1, by go_num, by omega, HO2, hxr⟩
      case measure => simp [intOf]; omega
     | true =>
      rw [hdd] at hc4 HST
      clear hdd
      go_wp2_with (with_reducible refine sL 98 ?_)
      refine go_on (wpList_load_elem rfl 98 _ rfl (ad.add (i * 7)) rfl cs _ HCE.out Try.underlying98 rfl (rr_size hcl) ?_)
      obtain ⟨A0, d0, A1, d1, A2, d2, hcs, -⟩ := HSY.out
      obtain ⟨css, q1, q2', q3, q4⟩ := HO.out
      have HQ1 := Lib.hid q1
      have HQ2 := Lib.hid q2'
      have HQ3 := Lib.hid q3
      have HQ4 := Lib.hid q4
      have hnw : Sl (wr.alloc (.cells (rrC t (.slice A0 t.shards.length d0) (.slice A1 t.yes.length d1) (.slice A2 t.ack.length d2)).toArray 98)) (some ⟨wr.heap.size, 0, none⟩) (rrC t (.slice A0 t.shards.length d0) (.slice A1 t.yes.length d1) (.slice A2 t.ack.length d2)) := Sl.new wr _ _ _
      have HNW := Lib.hid hnw
      clear q1 q2' q3 q4 hnw
      subst hcs
      go_wp2_with (at_builtin; refine unstop ?_)
      refine go_on (wpList_app rrT (HQ3.out.alloc _) HNW.out rfl rfl rfl rfl rfl (rrC_one _ _ _ _ _ _ _ _ _ _) (by omega) (by omega) (by have := hxr.size; simp; omega) ?_)
      intro v5 w5 ho5 hg5 _
      have HO2 : Hid (OwnR RRr 7 98 M w3 w5 w3.heap.size v5 ((s.under.take (i + 1)).filter (·.done))) := Lib.hid (by
       rw [HST.out]
       exact OwnR.push HQ1.out HQ2.out HQ4.out rfl HSY.out ho5)
      have HX5 := Lib.hid ((hxr.alloc (.cells (rrC t (.slice A0 t.shards.length d0) (.slice A1 t.yes.length d1) (.slice A2 t.ack.length d2)).toArray 98)).own (HQ3.out.alloc _) (Nat.le_refl _) hg5)
      clear ho5 hg5 hc4 e3r hxr
      go_wp2
      go_roundw
      case rel => exact ⟨i + 1, by go_num, by omega, HO2, HX5.out⟩
      case measure => simp [intOf]; omega
    ·have hlt2 : ¬ (i : Int) < (s.under.length : Int) := by omega
     obtain rfl : i = s.under.length := by omega
     have ho := HO.out
     rw [List.take_length] at *
     have HST := Lib.hid (rc_storeR (hxr.obj HP3.out) HQ.out HM3.out (HK3.out.ext hxr) (.of_ext hxr) ho)
     have efr := fun j => ef wr j hxr
     clear ho HO
     go_wp2
     go_ret
     rw [HV.out, HL.out]
     exact ⟨rfl, HST.out.1, HST.out.2⟩
end Go.Proofs.Ytijopcdjlpafdaa
namespace Go.Proofs.Ytijopcdjlpafdaa
open Go.RowKit
/-! ## what the reader has read (no program) -/
def nN (r : By) : Nat := valB (cutV 4 (some (r.drop 5)))
def q3 (r : By) : Option By := cutQ 4 (some (r.drop 5))
theorem q3_short {r : By} (h : r.length < 9) : q3 r = none := by
 unfold q3 cutQ
 simp only
 rw [if_pos (by rw [List.length_drop]; omega)]
theorem q3_long {r : By} (h : 9 ≤ r.length) : q3 r = some (r.drop 9) := by
 unfold q3 cutQ
 simp only
 rw [if_neg (by rw [List.length_drop]; omega), List.drop_drop]
theorem nN_long {r : By} (h : 9 ≤ r.length) : nN r = valAt r 5 := by
 unfold nN cutV valAt
 simp only
 rw [if_neg (by rw [List.length_drop]; omega)]
theorem nN_bound (r : By) : nN r < 4294967296 := by
 unfold nN
 have h1 := valB_lt (cutV 4 (some (r.drop 5)))
 have h2 := cutV_le 4 (some (r.drop 5))
 have h3 : 256 ^ (cutV 4 (some (r.drop 5))).length ≤ 256 ^ 4 := Nat.pow_le_pow_right (by omega) h2
 omega
theorem rr_late {s : Cs} {r : By} (h5 : 5 ≤ r.length) (hb1 : 1 ≤ btN r) (hb2 : btN r ≤ 2147483647) (hk : kdN r ≠ 1) (h : r.length < 9 ∨ nN r < 1 ∨ 2147483647 < nN r) : redoO s r = (4, s) := by
 unfold redoO
 rw [bt_long h5] at *
 have hg : goodF (valAt r 1) = true := by unfold goodF; simp; omega
 rw [if_neg (by rw [hg]; simp; omega), if_neg (fun e => hk (by have := (getD_kd (by omega) 1).1 e.1; simpa using this)), if_pos]
 by_cases h9 : r.length < 9
 ·exact .inl h9
 ·rw [nN_long (by omega)] at h
  right
  unfold goodF
  simp
  omega
theorem rr_mid {s : Cs} {r : By} (h5 : 9 ≤ r.length) (hb1 : 1 ≤ btN r) (hb2 : btN r ≤ 2147483647) (hk : kdN r ≠ 1) (hn1 : 1 ≤ nN r) (hn2 : nN r ≤ 2147483647) : redoO s r =
 if r.getD 0 0 = 3 ∧ r.length = 9 then
  match s.at_ ⟨s.node, (btN r : Nat), (nN r : Nat)⟩ true with
  | none => ((13 : Int), s)
  | some i => ((0 : Int), { s with under := s.under.eraseIdx i })
 else if r.getD 0 0 = 2 ∧ 9 < r.length ∧ r.length = 10 + (r.getD 9 0).toNat then
  let sh := (r.drop 10).map fun c => ((c.toNat : Nat) : Int)
  if rightF sh then isDoneO s ⟨s.node, (btN r : Nat), (nN r : Nat)⟩ sh else ((4 : Int), s)
 else ((4 : Int), s) := by
 unfold redoO
 rw [bt_long (by omega), nN_long h5] at *
 have hg : goodF (valAt r 1) = true := by unfold goodF; simp; omega
 have hg5 : goodF (valAt r 5) = true := by unfold goodF; simp; omega
 rw [if_neg (by rw [hg]; simp; omega), if_neg (fun e => hk (by have := (getD_kd (by omega) 1).1 e.1; simpa using this)), if_neg (by rw [hg5]; simp; omega)]
 cases s.at_ ⟨s.node, (valAt r 1 : Nat), (valAt r 5 : Nat)⟩ true <;> rfl
theorem rr_over {s : Cs} {r : By} (h5 : 9 ≤ r.length) (hb1 : 1 ≤ btN r) (hb2 : btN r ≤ 2147483647) (hk : kdN r = 3) (hn1 : 1 ≤ nN r) (hn2 : nN r ≤ 2147483647) : redoO s r =
 if r.length = 9 then
  match s.at_ ⟨s.node, (btN r : Nat), (nN r : Nat)⟩ true with
  | none => ((13 : Int), s)
  | some i => ((0 : Int), { s with under := s.under.eraseIdx i })
 else ((4 : Int), s) := by
 rw [rr_mid h5 hb1 hb2 (by omega) hn1 hn2]
 have h0 : r.getD 0 0 = 3 := (getD_kd (by omega) 3).2 (by simpa using hk)
 rw [h0]
 by_cases hl : r.length = 9
 ·rw [if_pos ⟨rfl, hl⟩, if_pos hl]
 ·rw [if_neg (fun e => hl e.2), if_neg hl, if_neg (by simp)]
set_option maxRecDepth 20000 in
set_option maxHeartbeats 4000000 in
theorem RRedo_over {M : List Nat} {w : World} {q : Nat} {s : Cs} (h : Rc M w q s) (hfew : s.under.length ≤ 1000) (hq : q ∈ M) (hM : ∀ k ∈ M, k < w.heap.size) (A : Option Addr) (c : Nat) (r : By) (hb : Bs w A r) (hc : r.length ≤ c) (hm : r.length ≤ 140737488355328) (h5 : 5 ≤ r.length) (hb1 : 1 ≤ btN r) (hb2 : btN r ≤ 2147483647) (hk : kdN r = 3) :
 Calls Try.prog 66 #[pt q, .slice A r.length c] w fun e w' => e = .returned (.int .i64 (redoO s r).1) ∧ Rc M w' q (redoO s r).2 ∧ Kept [q] w w' := by
 have HF := fun W (hx : Ext w W) id => rfind_any (h.ext hx) id hfew
 have HSET := fun W (hx : Ext w W) (i : Nat) (hi : i < s.under.length) A2 c2 ys (h2 : RsM RRr 7 M W A2 ys) (hy : ys.length ≤ 1000) => rset_any (h.ext hx) hq (fun k hk => Nat.lt_of_lt_of_le (hM k hk) hx.size) i hi A2 c2 ys h2 hfew hy
 have HCO := Lib.hid h
 have hlate := fun h => Lib.hid (rr_late (s := s) h5 hb1 hb2 (by omega) h)
 have hover := fun h9 hn1 hn2 => Lib.hid (rr_over (s := s) h9 hb1 hb2 hk hn1 hn2)
 obtain ⟨Ac, cap, h⟩ := h
 obtain ⟨c0, c1, c2, c3, cf⟩ := rows4 h.row
 have HRS := Lib.hid h.rs
 clear h hM c1 c2 cf
 unfold pt at *
 obtain ⟨wa, hwa⟩ : ∃ wa, wa = w.alloc (.cells #[.slice A r.length c, .bool false] 112) := ⟨_, rfl⟩
 have hxa : Ext w wa := by rw [hwa]; exact (Ext.refl w).alloc _
 have hrow : wa.heap[w.heap.size]? = some (.cells #[.slice A r.length c, .bool false] 112 (0, 0)) := by rw [hwa]; exact heap_alloc_new w _
 have hra : RdAt w wa w.heap.size (some r) := ⟨Nat.le_refl _, hxa, A, c, hrow, hc, hb⟩
 have HPG := Lib.hid (Nat.le_refl w.heap.size)
 have HN1 := RRNum_any w wa w.heap.size 1 (some r) hra (by omega)
 have HN2 := fun W (h : RdAt w W w.heap.size (cutQ 1 (some r))) => RRNum_any w W w.heap.size 4 (cutQ 1 (some r)) h (by omega)
 rw [show valB (cutV 1 (some r)) = kdN r from rfl] at HN1
 rw [show valB (cutV 4 (cutQ 1 (some r))) = btN r from rfl, show cutQ 4 (cutQ 1 (some r)) = q2 r from rfl] at HN2
 unfold pt at HN1 HN2
 have hwaA := hwa.symm
 have hkd := kd_bound r
 have hbt := bt_bound r
 clear hwa hrow hra hb hc
 go_enter Try.func66, Try.ntmps66
 go_wp2_with fail
 clear hwaA
 refine HN1.mono ?_
 rintro e w1 ⟨rfl, hr1, -⟩
 go_wp2_with fail
 refine (HN2 _ hr1).mono ?_
 rintro e w2 ⟨rfl, hr2, -⟩
 clear HN1 HN2 hxa
 generalize hpe : w.heap.size = p at *
 have HPE := Lib.hid hpe
 clear hpe
 rw [q2_long h5] at hr2
 have HN3 := RRNum_any w w2 p 4 (some (r.drop 5)) hr2 (by omega)
 rw [show valB (cutV 4 (some (r.drop 5))) = nN r from rfl, show cutQ 4 (some (r.drop 5)) = q3 r from rfl] at HN3
 unfold pt at HN3
 obtain ⟨Ar, cr, hrow2, -, -⟩ := hr2.2.2
 obtain ⟨R0, R1, RF⟩ := row2_at hrow2
 clear hr1 hr2 hrow2 RF R0
 have hnb := nN_bound r
 generalize btN r = bt at *
 clear hkd hk
 have k1 : ¬ (bt : Int) < 1 := by omega
 have k2 : ¬ (2147483647 : Int) < bt := by omega
 go_wp2_with fail
 refine HN3.mono ?_
 rintro e w3 ⟨rfl, hr3, -⟩
 have HX3 := Lib.hid hr3.2.1
 clear HN3 R1
 by_cases h9 : r.length < 9
 ·have HV := hlate (.inl h9)
  rw [q3_short h9] at hr3
  obtain ⟨Ar, nr, cr, hrow3⟩ := hr3.2.2
  have hx3 : Ext w3 (w3.alloc (.cells #[] 3)) := (Ext.refl w3).alloc _
  have hrow3 := hx3.obj hrow3
  have HX3 := Lib.hid (HX3.out.trans hx3)
  obtain ⟨R0, R1, RF⟩ := row2_at hrow3
  generalize hw : w3.alloc (.cells #[] 3) = w3a at *
  clear hr3 hrow3 RF R0 hlate hover c0 c3 hx3 HF HSET
  go_wp2
  go_ret
  rw [HV.out]
  exact ⟨rfl, HCO.out.ext HX3.out, .of_ext HX3.out⟩
 ·rw [q3_long (by omega)] at hr3
  obtain ⟨Ar, cr, hrow3, -, -⟩ := hr3.2.2
  have hx3 : Ext w3 (w3.alloc (.cells #[] 3)) := (Ext.refl w3).alloc _
  have hrow3 := hx3.obj hrow3
  have HX3 := Lib.hid (HX3.out.trans hx3)
  have hdl : (r.drop 9).length = r.length - 9 := by rw [List.length_drop]
  rw [hdl] at hrow3
  obtain ⟨R0, R1, RF⟩ := row2_at hrow3
  have hover := hover (by omega)
  generalize hw : w3.alloc (.cells #[] 3) = w3a at *
  clear hr3 hrow3 RF hdl hx3
  generalize nN r = n at *
  by_cases hl : r.length = 9; rotate_left
  ·have hgt : (0 : Int) < ((r.length - 9 : Nat) : Int) := by omega
   have HV : Hid (redoO s r = (4, s)) := by
    by_cases hn1 : n < 1
    ·exact hlate (.inr (.inl hn1))
    ·by_cases hn2 : 2147483647 < n
     ·exact hlate (.inr (.inr hn2))
     ·exact Lib.hid (by rw [(hover (by omega) (by omega)).out, if_neg hl])
   clear hlate hover c0 c3 HF HSET
   go_wp2
   go_ret
   rw [HV.out]
   exact ⟨rfl, HCO.out.ext HX3.out, .of_ext HX3.out⟩
  ·have hgt : ¬ (0 : Int) < ((r.length - 9 : Nat) : Int) := by omega
   by_cases hn1 : n < 1
   ·have hn1' : (n : Int) < 1 := by omega
    have HV := hlate (.inr (.inl hn1))
    clear hlate hover c0 c3 HF HSET
    go_wp2
    go_ret
    rw [HV.out]
    exact ⟨rfl, HCO.out.ext HX3.out, .of_ext HX3.out⟩
   ·have hn1' : ¬ (n : Int) < 1 := by omega
    by_cases hn2 : 2147483647 < n
    ·have hn2' : (2147483647 : Int) < n := by omega
     have HV := hlate (.inr (.inr hn2))
     clear hlate hover c0 c3 HF HSET
     go_wp2
     go_ret
     rw [HV.out]
     exact ⟨rfl, HCO.out.ext HX3.out, .of_ext HX3.out⟩
    ·have hn2' : ¬ (2147483647 : Int) < n := by omega
     have HV := hover (by omega) (by omega)
     have HV : Hid (redoO s r = match s.at_ ⟨s.node, (bt : Nat), (n : Nat)⟩ true with | none => (13, s) | some i => (0, { s with under := s.under.eraseIdx i })) := Lib.hid (by rw [HV.out, if_pos hl])
     have c03 := c0 w3a HX3.out
     clear hlate hover c0
     go_wp2_with (with_reducible first | refine sL 35 ?_ | refine sA 35 ?_ | refine sS 35 ?_)
     clear hw R0 R1
     refine go_on (wpList_alloc_ rfl rfl apitx_info ?_)
     go_wp2_with (with_reducible first | refine sL 35 ?_ | refine sA 35 ?_ | refine sS 35 ?_)
     refine go_on (wpList_store_last rfl rfl rfl rfl (apitx_size _ _ _) rfl (by simp [Value.oneCell']) ?_)
     intro w4 hrow4 hx4 _
     have hxa := HX3.out.trans hx4
     generalize w3a.heap.size = g4 at *
     go_wp2_with (with_reducible refine sL 35 ?_)
     refine go_on (wpList_load_row rfl 35 _ rfl g4 rfl 35 _ (0, 0) _ hrow4 Try.underlying35 rfl (apitx_size _ _ _) ?_)
     clear hrow4 hx4 c03
     go_wp2_with fail
     refine (HF _ hxa ⟨s.node, (bt : Nat), (n : Nat)⟩).mono ?_
     rintro e w5 ⟨rfl, hx5⟩
     replace hxa := hxa.trans hx5
     have c3a := c3 w5 hxa
     clear hx5
     cases hfi : findT s.under ⟨s.node, (bt : Nat), (n : Nat)⟩ with
     | none =>
      have HV : Hid (redoO s r = (13, s)) := Lib.hid (by rw [HV.out]; unfold Cs.at_; rw [hfi])
      have hm : idI none = -1 := rfl
      rw [hm]
      clear hm hfi c3
      clear HSET HF
      go_wp2
      go_ret
      rw [HV.out]
      exact ⟨rfl, HCO.out.ext hxa, .of_ext hxa⟩
     | some i =>
      obtain ⟨hi, hid⟩ := findT_some hfi
      have hm : idI (some i) = (i : Int) := rfl
      rw [hm]
      obtain ⟨ad, A0, d0, A1, d1, A2, d2, rfl, -, -, -, hcell⟩ := HRS.out.rr hi
      have HAT := Lib.hid (fun d => at_of (s := s) (d := d) hfi hi)
      have hnneg : ¬ (i : Int) < 0 := by omega
      have hilt : (i : Int) < (s.under.length : Int) := by omega
      have hc4 : w5.cell? ((ad.add (i * 7)).add 4) = some (.bool s.under[i].done) := hcell w5 hxa 4 _ rfl
      rw [add_pos'] at hc4
      clear hm hfi hid
      generalize htt : s.under[i] = t at *
      clear htt
      cases hdd : t.done with
      | false =>
       have HV : Hid (redoO s r = (13, s)) := Lib.hid (by rw [HV.out, HAT.out, if_neg (by rw [hdd]; simp)])
       rw [hdd] at hc4
       clear hcell hdd HAT c3
       clear HSET HF
       go_wp2
       go_ret
       rw [HV.out]
       exact ⟨rfl, HCO.out.ext hxa, .of_ext hxa⟩
      | true =>
       rw [hdd] at hc4
       have HV : Hid (redoO s r = (0, { s with under := s.under.eraseIdx i })) := Lib.hid (by rw [HV.out, HAT.out, if_pos hdd])
       have HS2 := HSET w5 hxa i hi none 0 [] (RsM.nil _ _ _ _ _) (by simp)
       rw [erase_cut] at HS2
       clear HSET hcell hdd HAT c3 HF
       go_wp2_with fail
       refine HS2.mono ?_
       rintro e w6 ⟨rfl, hr6, hk6⟩
       have HR6 := Lib.hid hr6
       have HK6 := Lib.hid ((Kept.of_ext (M := [q]) hxa).trans hk6)
       clear HS2 hr6 hk6
       go_wp2
       go_ret
       rw [HV.out]
       exact ⟨rfl, HR6.out, HK6.out⟩
end Go.Proofs.Ytijopcdjlpafdaa
namespace Go.Proofs.Ytijopcdjlpafdaa
theorem right_lt {l : List Int} (h : rightF l = true) : l.Pairwise (· < ·) := by
 have h' := (rightF_iff.1 h).2
 rw [List.pairwise_iff_getElem]
 have key : ∀ d i (hj : i + d + 1 < l.length), l[i]'(by omega) < l[i + d + 1] := by
  intro d
  induction d with
  | zero =>
   intro i hj
   have := (h' (i + 1) (by omega)).2.2 (by omega)
   rw [List.getD_eq_getElem?_getD, List.getD_eq_getElem?_getD, Nat.add_sub_cancel, List.getElem?_eq_getElem (by omega), List.getElem?_eq_getElem (by omega)] at this
   simpa using this
  | succ d ih =>
   intro i hj
   have h1 := ih i (by omega)
   have := (h' (i + d + 1 + 1) (by omega)).2.2 (by omega)
   rw [List.getD_eq_getElem?_getD, List.getD_eq_getElem?_getD, Nat.add_sub_cancel, List.getElem?_eq_getElem (by omega), List.getElem?_eq_getElem (by omega)] at this
   have h2 : l[i + d + 1] < l[i + d + 1 + 1] := by simpa using this
   exact Int.lt_trans h1 h2
 intro i j hi hj hij
 have := key (j - i - 1) i (by omega)
 have e : i + (j - i - 1) + 1 = j := by omega
 simpa [e] using this
theorem sorted_eq : ∀ {l m : List Int}, l.Pairwise (· < ·) → m.Pairwise (· < ·) → (∀ x ∈ l, x ∈ m) → (∀ x ∈ m, x ∈ l) → l = m
 | [], [], _, _, _, _ => rfl
 | [], b :: m, _, _, _, h => by simpa using h b (by simp)
 | a :: l, [], _, _, h, _ => by simpa using h a (by simp)
 | a :: l, b :: m, h1, h2, h3, h4 => by
  rw [List.pairwise_cons] at h1 h2
  have hab : a = b := by
   have ha := h3 a (by simp)
   have hb := h4 b (by simp)
   simp only [List.mem_cons] at ha hb
   rcases ha with ha | ha
   ·exact ha
   ·rcases hb with hb | hb
    ·exact hb.symm
    ·have := h2.1 a ha
     have := h1.1 b hb
     omega
  subst hab
  congr 1
  refine sorted_eq h1.2 h2.2 (fun x hx => ?_) (fun x hx => ?_)
  ·have := h3 x (by simp [hx])
   simp only [List.mem_cons] at this
   rcases this with e | e
   ·have := h1.1 x hx; omega
   ·exact e
  ·have := h4 x (by simp [hx])
   simp only [List.mem_cons] at this
   rcases this with e | e
   ·have := h2.1 x hx; omega
   ·exact e
theorem right_same {l m : List Int} (h1 : rightF l = true) (h2 : rightF m = true) : decide (l ≠ m) = (!allIn l m || !allIn m l) := by
 cases ha : allIn l m with
 | false =>
  simp only [Bool.not_false, Bool.true_or, decide_eq_true_eq]
  rintro rfl
  rw [show allIn l l = true from allIn_iff.2 fun x hx => hx] at ha
  cases ha
 | true =>
  cases hb : allIn m l with
  | false =>
   simp only [Bool.not_true, Bool.not_false, Bool.or_true, decide_eq_true_eq]
   rintro rfl
   rw [ha] at hb
   cases hb
  | true =>
   have := sorted_eq (right_lt h1) (right_lt h2) (allIn_iff.1 ha) (allIn_iff.1 hb)
   simp [this]
theorem filter_erase {l : List Tr} (h : l.Pairwise fun a b => a.id ≠ b.id) {id : TxI} {i : Nat} (hi : i < l.length) (hid : l[i].id = id) : (l.filter fun t => decide (t.id ≠ id)) = l.eraseIdx i := by
 induction l generalizing i with
 | nil => simp at hi
 | cons t l ih =>
  rw [List.pairwise_cons] at h
  cases i with
  | zero =>
   simp only [List.getElem_cons_zero] at hid
   rw [List.eraseIdx_cons_zero, List.filter_cons, if_neg (by simp [hid])]
   apply List.filter_eq_self.2
   intro u hu
   have := h.1 u hu
   rw [hid] at this
   simpa using fun e => this e.symm
  | succ i =>
   simp only [List.getElem_cons_succ] at hid
   have hne : t.id ≠ id := by
    have := h.1 (l[i]'(by simpa using hi)) (List.getElem_mem _)
    rwa [hid] at this
   rw [List.eraseIdx_cons_succ, List.filter_cons, if_pos (by simpa using hne), ih h.2 (by simpa using hi) hid]
theorem filter_none {l : List Tr} {id : TxI} (h : findT l id = none) : (l.filter fun t => decide (t.id ≠ id)) = l := by
 apply List.filter_eq_self.2
 intro u hu
 simpa using findT_none.1 h u hu
/-! ## a record of kind 2 -/
def kN (r : By) : Nat := valB (cutV 1 (q3 r))
def q4 (r : By) : Option By := cutQ 1 (q3 r)
theorem q4_short {r : By} (h : r.length < 10) : q4 r = none ∧ kN r = 0 := by
 unfold q4 kN
 by_cases h9 : r.length < 9
 ·rw [q3_short h9]
  exact ⟨rfl, rfl⟩
 ·rw [q3_long (by omega)]
  have : (r.drop 9).length < 1 := by rw [List.length_drop]; omega
  unfold cutQ cutV
  simp only
  rw [if_pos this, if_pos this]
  exact ⟨rfl, rfl⟩
theorem q4_long {r : By} (h : 10 ≤ r.length) : q4 r = some (r.drop 10) ∧ kN r = (r.getD 9 0).toNat := by
 unfold q4 kN
 rw [q3_long (by omega)]
 have hn : ¬ (r.drop 9).length < 1 := by rw [List.length_drop]; omega
 unfold cutQ cutV
 simp only
 rw [if_neg hn, if_neg hn, List.drop_drop]
 refine ⟨rfl, ?_⟩
 have e : (r.drop 9).take 1 = [r.getD 9 0] := by
  rw [List.getD_eq_getElem?_getD, List.getElem?_eq_getElem (by omega), List.take_one, List.head?_drop, List.getElem?_eq_getElem (by omega)]
  rfl
 rw [e]
 simp [valB, valF]
theorem kN_bound (r : By) : kN r < 256 := by
 unfold kN
 have h1 := valB_lt (cutV 1 (q3 r))
 have h2 := cutV_le 1 (q3 r)
 have h3 : 256 ^ (cutV 1 (q3 r)).length ≤ 256 ^ 1 := Nat.pow_le_pow_right (by omega) h2
 omega
theorem rr_none {s : Cs} {r : By} (h5 : 5 ≤ r.length) (hb1 : 1 ≤ btN r) (hb2 : btN r ≤ 2147483647) (hk : kdN r = 2) (h : r.length ≠ 10 + kN r ∨ r.length < 10) : redoO s r = (4, s) := by
 by_cases hl : r.length < 9 ∨ nN r < 1 ∨ 2147483647 < nN r
 ·exact rr_late h5 hb1 hb2 (by omega) hl
 ·rw [rr_mid (by omega) hb1 hb2 (by omega) (by omega) (by omega)]
  have h0 : r.getD 0 0 = 2 := (getD_kd (by omega) 2).2 (by simpa using hk)
  rw [if_neg (by rw [h0]; simp), if_neg]
  rintro ⟨_, h9, hl10⟩
  rw [← (q4_long (by omega)).2] at hl10
  omega
theorem rr_done {s : Cs} {r : By} (hb1 : 1 ≤ btN r) (hb2 : btN r ≤ 2147483647) (hk : kdN r = 2) (hn1 : 1 ≤ nN r) (hn2 : nN r ≤ 2147483647) (h10 : 10 ≤ r.length) (hl : r.length = 10 + kN r) :
 redoO s r = if rightF ((r.drop 10).map fun c => ((c.toNat : Nat) : Int)) then isDoneO s ⟨s.node, (btN r : Nat), (nN r : Nat)⟩ ((r.drop 10).map fun c => ((c.toNat : Nat) : Int)) else ((4 : Int), s) := by
 rw [rr_mid (by omega) hb1 hb2 (by omega) hn1 hn2]
 have h0 : r.getD 0 0 = 2 := (getD_kd (by omega) 2).2 (by simpa using hk)
 rw [if_neg (by rw [h0]; simp), if_pos ⟨h0, by omega, by rw [← (q4_long h10).2]; exact hl⟩]
end Go.Proofs.Ytijopcdjlpafdaa
