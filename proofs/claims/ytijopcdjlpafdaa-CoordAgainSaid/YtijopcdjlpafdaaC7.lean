/- The law's pair: the node, the reference's node, and names, in memory; the plain law of what a call does to them. Conditions: the hypotheses of each theorem. The walk of the law's redo: a record on both nodes. Conditions: the hypotheses of the theorem. The plain law of CoordAgrees: what is done was voted for by all, and nothing that is dropped is done. No program. Conditions: the hypotheses of each theorem. What CoordAgrees holds in memory: a node, names, their shards, who said yes, their fates. Conditions: the hypotheses of each theorem. Calls on what CoordAgrees holds; what is read of it. Conditions: the hypotheses of each theorem. A script's call as a struct of the call's own. Conditions: the hypotheses of each theorem. The walk of the law's tx: the transaction of a call. Conditions: the hypotheses of the theorem. -/
import Derived.Test.YtijopcdjlpafdaaRCo13M
import Derived.Test.YtijopcdjlpafdaaC4
import Derived.Test.YtijopcdjlpafdaaC2
namespace Go.Proofs.Ytijopcdjlpafdaa
open Go.RowKit
def redoK (s : Cs) (r : By) (keep : Bool) : Cs := if keep = false ∨ r.length = 0 then s else (redoO s r).2
def txOf (txs : List TxI) (d : Cl) : TxI := if txs.length = 0 ∨ d.which = 255 then d.tx else txs.getD (d.which % txs.length) ⟨0, 0, 0⟩
def doS (s : Cs) (txs : List TxI) (d : Cl) : Cs × List TxI :=
 if d.do_ = 0 then (redoK s (bootO s).1 d.keep, txs)
 else if d.do_ = 1 then (beginS s d.shards, if beginE s d.shards = 0 then txs ++ [beginT s d.shards] else txs)
 else if d.do_ = 2 ∨ d.do_ = 3 then (redoK (voteO s (txOf txs d) d.shard (d.do_ == 2)).s (voteO s (txOf txs d) d.shard (d.do_ == 2)).r d.keep, txs)
 else if d.do_ = 4 then ((dropO s (txOf txs d)).2, txs)
 else if d.do_ = 5 then (redoK (ackO s (txOf txs d) d.shard).s (ackO s (txOf txs d) d.shard).r d.keep, txs)
 else if d.do_ = 6 then (redoK s d.bytes true, txs)
 else (s, txs)
/-! ## votes are few -/
theorem Cs.Few.mono {s : Cs} {n m : Nat} (h : s.Few n) (hm : n ≤ m) : s.Few m := fun t ht => ⟨Nat.le_trans (h t ht).1 hm, Nat.le_trans (h t ht).2 hm⟩
theorem Cs.Few.sub {s s' : Cs} {n : Nat} (h : s.Few n) (hs : ∀ t ∈ s'.under, t ∈ s.under) : s'.Few n := fun t ht => h t (hs t ht)
theorem few_begin {s : Cs} {n : Nat} (h : s.Few n) (sh : List Int) : (beginS s sh).Few n := by
 unfold beginS
 split
 ·intro t ht
  rcases List.mem_append.1 ht with ht | ht
  ·exact h t ht
  ·simp only [List.mem_singleton] at ht
   subst ht
   simp
 ·exact h
theorem few_vote {s : Cs} {n : Nat} (h : s.Few n) (id : TxI) (sh : Int) (yes : Bool) : (voteO s id sh yes).s.Few (n + 1) := by
 unfold voteO
 cases hat : s.at_ id false with
 | none => exact h.mono (by omega)
 | some i =>
  obtain ⟨h1, _⟩ := at_some hat
  simp only
  split
  ·exact h.mono (by omega)
  ·split
   ·split
    ·exact h.mono (by omega)
    ·exact (h.sub (s' := { s with under := s.under.eraseIdx i }) fun t ht => List.mem_of_mem_eraseIdx ht).mono (by omega)
   ·intro t ht
    rcases List.mem_or_eq_of_mem_set ht with ht | rfl
    ·exact h.mono (by omega) t ht
    ·have := h _ (row_mem h1)
     simp only [List.length_append, List.length_cons, List.length_nil]
     omega
theorem few_ack {s : Cs} {n : Nat} (h : s.Few n) (id : TxI) (sh : Int) : (ackO s id sh).s.Few (n + 1) := by
 unfold ackO
 cases hat : s.at_ id true with
 | none => exact h.mono (by omega)
 | some i =>
  obtain ⟨h1, _⟩ := at_some hat
  simp only
  split
  ·exact h.mono (by omega)
  ·intro t ht
   rcases List.mem_or_eq_of_mem_set ht with ht | rfl
   ·exact h.mono (by omega) t ht
   ·have := h _ (row_mem h1)
    simp only [List.length_append, List.length_cons, List.length_nil]
    omega
theorem few_drop {s : Cs} {n : Nat} (h : s.Few n) (id : TxI) : (dropO s id).2.Few n := by
 unfold dropO
 cases s.at_ id false with
 | none => exact h
 | some i =>
  simp only
  split
  ·exact h
  ·exact h.sub fun t ht => List.mem_of_mem_eraseIdx ht
theorem few_redo {s : Cs} {n : Nat} (h : s.Few n) (r : By) : (redoO s r).2.Few n := by
 unfold redoO
 split
 ·exact h
 ·split
  ·unfold livesO
   split
   ·exact h
   ·exact h.sub fun t ht => (List.mem_filter.1 ht).1
  ·split
   ·exact h
   ·split
    ·cases s.at_ ⟨s.node, (valAt r 1 : Nat), (valAt r 5 : Nat)⟩ true with
     | none => exact h
     | some i => exact h.sub fun t ht => List.mem_of_mem_eraseIdx ht
    ·split
     ·simp only
      split
      ·unfold isDoneO
       split
       ·exact h
       ·split
        ·exact h
        ·split
         ·exact h
         ·intro t ht
          rcases List.mem_append.1 ht with ht | ht
          ·exact h t (List.mem_filter.1 ht).1
          ·simp only [List.mem_singleton] at ht
           subst ht
           simp
      ·exact h
     ·exact h
/-! ## the pair in memory -/
structure PTurn (B : List Nat) (w : World) (B' : List Nat) (w' : World) : Prop where
 kept : Kept B w w'
 sub : ∀ k ∈ B, k ∈ B'
 new : ∀ k ∈ B', k ∈ B ∨ w.heap.size ≤ k
theorem PTurn.of_kept {B N : List Nat} {w w' : World} (h : Kept N w w') (hN : ∀ k ∈ N, k ∈ B ∨ w.heap.size ≤ k) : PTurn B w B w' :=
 ⟨h.less fun k hk hlt => (hN k hk).elim id fun h => by omega, fun _ h => h, fun _ h => .inl h⟩
theorem PTurn.trans {B B1 B2 : List Nat} {w w1 w2 : World} (h : PTurn B w B1 w1) (k : PTurn B1 w1 B2 w2) : PTurn B w B2 w2 :=
 ⟨((h.kept.mono (N := B1) h.sub).trans k.kept).less fun i hi hlt => (h.new i hi).elim id fun h => by omega, fun i hi => k.sub i (h.sub i hi), fun i hi => (k.new i hi).elim (fun hi => h.new i hi) fun hi => .inr (Nat.le_trans h.kept.size hi)⟩
structure PM (E B : List Nat) (w0 w : World) (P p q : Nat) (tv : Value) (s : Cs) (txs : List TxI) (n : Nat) : Prop where
 ex : Ext w0 w
 row : w.heap[P]? = some (.cells #[.pointer (some ⟨p, 0, none⟩), .pointer (some ⟨q, 0, none⟩), tv] 55 (0, 0))
 co : Co (E ++ B) w p s
 rc : Rc (E ++ B) w q s
 pB : p ∈ B
 qB : q ∈ B
 PB : P ∈ B
 tB : ∀ g, tv.ownBlock = some g → g ∈ B
 lt : ∀ k ∈ E ++ B, k < w.heap.size
 ge : ∀ k ∈ B, w0.heap.size ≤ k
 dj : ∀ k ∈ E, k ∉ B
 to : OwnX w w0.heap.size tv txs
 ok : s.Ok
 few : s.Few n
section
variable {E B : List Nat} {w0 w w' : World} {P p q n : Nat} {tv : Value} {s : Cs} {txs : List TxI}
theorem PM.pE (h : PM E B w0 w P p q tv s txs n) : p ∈ E ++ B := List.mem_append.2 (.inr h.pB)
theorem PM.qE (h : PM E B w0 w P p q tv s txs n) : q ∈ E ++ B := List.mem_append.2 (.inr h.qB)
theorem PM.pq (h : PM E B w0 w P p q tv s txs n) : p ≠ q := by
 rintro rfl
 obtain ⟨c1, h1⟩ := h.co.obj
 obtain ⟨c2, h2⟩ := h.rc.obj
 rw [h1] at h2
 injection h2 with h2
 injection h2 with _ h2
 exact absurd h2 (by decide)
theorem PM.pP (h : PM E B w0 w P p q tv s txs n) : p ≠ P := by
 rintro rfl
 obtain ⟨c1, h1⟩ := h.co.obj
 rw [h.row] at h1
 injection h1 with h2
 injection h2 with _ h2
 exact absurd h2 (by decide)
theorem PM.qP (h : PM E B w0 w P p q tv s txs n) : q ≠ P := by
 rintro rfl
 obtain ⟨c1, h1⟩ := h.rc.obj
 rw [h.row] at h1
 injection h1 with h2
 injection h2 with _ h2
 exact absurd h2 (by decide)
theorem PM.ext (h : PM E B w0 w P p q tv s txs n) (hx : Ext w w') : PM E B w0 w' P p q tv s txs n :=
 ⟨h.ex.trans hx, hx.obj h.row, h.co.ext hx, h.rc.ext hx, h.pB, h.qB, h.PB, h.tB, fun k hk => Nat.lt_of_lt_of_le (h.lt k hk) hx.size, h.ge, h.dj, owns_ext h.to hx, h.ok, h.few⟩
theorem PM.mono (h : PM E B w0 w P p q tv s txs n) {m : Nat} (hm : n ≤ m) : PM E B w0 w P p q tv s txs m := ⟨h.ex, h.row, h.co, h.rc, h.pB, h.qB, h.PB, h.tB, h.lt, h.ge, h.dj, h.to, h.ok, h.few.mono hm⟩
/-- both nodes turned -/
theorem PM.turn (h : PM E B w0 w P p q tv s txs n) {s' : Cs} {m : Nat} {G : List Nat} (hG2 : ∀ k ∈ E ++ B, k ∈ G) (hk : Kept [p, q] w w') (hc : Co G w' p s') (hr : Rc G w' q s') (hok : s'.Ok) (hf : s'.Few m) : PM E B w0 w' P p q tv s' txs m := by
 have hpB := h.pB
 have hqB := h.qB
 have hkB : Kept B w w' := hk.mono (by
  intro k hk
  simp only [List.mem_cons, List.not_mem_nil, or_false] at hk
  rcases hk with rfl | rfl
  ·exact hpB
  ·exact hqB)
 have hto : OwnX w' w0.heap.size tv txs := by
  obtain ⟨c1, h1⟩ := h.co.obj
  obtain ⟨c2, h2⟩ := h.rc.obj
  have a1 := owns_obj h.to h1 (by decide)
  have a2 := owns_obj h.to h2 (by decide)
  unfold OwnX at *
  refine ⟨h.to.1, ?_⟩
  rcases h.to.2 with h0 | ⟨g, cap, cur, e1, e2, e3, e4⟩
  ·exact .inl h0
  ·refine .inr ⟨g, cap, cur, e1, e2, hk.heap e3 ?_, e4⟩
   rw [e1] at a1 a2
   simp only [List.mem_cons, List.not_mem_nil, or_false]
   rintro (rfl | rfl)
   ·rcases a1 with a | a
    ·cases a
    ·exact a rfl
   ·rcases a2 with a | a
    ·cases a
    ·exact a rfl
 exact ⟨h.ex.kept hkB (fun k hk => h.ge k hk), hk.heap h.row (by simp [h.pP.symm, h.qP.symm]), hc.old fun k hk => .inl (hG2 k hk), hr.old fun k hk => .inl (hG2 k hk), hpB, hqB, h.PB, h.tB, fun k hk2 => Nat.lt_of_lt_of_le (h.lt k hk2) hk.size, h.ge, h.dj, hto, hok, hf⟩
/-- another node turned, or other blocks -/
theorem PM.other {N : List Nat} (h : PM E B w0 w P p q tv s txs n) (hk : Kept N w w') (hN : ∀ k ∈ N, (k ∈ E ∧ w0.heap.size ≤ k) ∨ w.heap.size ≤ k) : PM E B w0 w' P p q tv s txs n := by
 have hB : ∀ k ∈ B, k ∉ N := fun k hk hm => (hN k hm).elim (fun h1 => h.dj k h1.1 hk) fun h1 => by have := h.lt k (List.mem_append.2 (.inr hk)); omega
 have hN2 : ∀ k ∈ N ++ (E ++ B), k ∈ E ++ B ∨ w.heap.size ≤ k := fun k hk => (List.mem_append.1 hk).elim (fun h1 => (hN k h1).elim (fun h2 => .inl (List.mem_append.2 (.inl h2.1))) .inr) .inl
 refine ⟨h.ex.kept hk fun k hk => (hN k hk).elim (fun h => h.2) fun h1 => Nat.le_trans h.ex.size h1, hk.heap h.row (hB _ h.PB), ((h.co.old hN2).kept hk (hB _ h.pB) fun k hk => List.mem_append.2 (.inl hk)).old fun k hk => .inl (List.mem_append.2 (.inr hk)), ((h.rc.old hN2).kept hk (hB _ h.qB) fun k hk => List.mem_append.2 (.inl hk)).old fun k hk => .inl (List.mem_append.2 (.inr hk)), h.pB, h.qB, h.PB, h.tB, fun k hk2 => Nat.lt_of_lt_of_le (h.lt k hk2) hk.size, h.ge, h.dj, ?_, h.ok, h.few⟩
 unfold OwnX at *
 refine ⟨h.to.1, ?_⟩
 rcases h.to.2 with h0 | ⟨g, cap, cur, e1, e2, e3, e4⟩
 ·exact .inl h0
 ·exact .inr ⟨g, cap, cur, e1, e2, hk.heap e3 (hB _ (h.tB g (by rw [e1]; rfl))), e4⟩
theorem PM.tx (h : PM E B w0 w P p q tv s txs n) {k : Nat} (hk : k < txs.length) : ∃ ad cap, tv = .slice (some ad) txs.length cap ∧ ∀ W, Ext w W → ∀ j v, (txiC txs[k])[j]? = some v → W.cell? ((ad.add (k * 3)).add j) = some v := by
 obtain ⟨A, cap, hv⟩ := own_form h.to
 have hs := Sl.own h.to hv
 have hg : txs.getD k ⟨0, 0, 0⟩ = txs[k] := by rw [List.getD_eq_getElem?_getD, List.getElem?_eq_getElem hk]; rfl
 obtain ⟨ad, e, _⟩ := hs (k * 3 + 0) _ (by rw [flat3_get txs k 0 hk (by omega), hg]; rfl)
 subst e
 refine ⟨ad, cap, hv, fun W hx j v hj => ?_⟩
 have hj3 : j < 3 := (List.getElem?_eq_some_iff.1 hj).1
 obtain ⟨ad', e', hc⟩ := hs (k * 3 + j) v (by rw [flat3_get txs k j hk hj3, hg]; exact hj)
 cases e'
 rw [add_addB]
 exact hx.cell hc
end
end Go.Proofs.Ytijopcdjlpafdaa
namespace Go.Proofs.Ytijopcdjlpafdaa
open Go.RowKit
theorem bootLen (s : Cs) : (bootO s).1.length ≤ 100 := by
 unfold bootO
 split
 ·simp
 ·simp [be4]
theorem putLen (t : Tr) (h : t.shards.length ≤ 4) : (putD t).length ≤ 100 := by
 unfold putD be4
 simp
 omega
theorem voteLen {s : Cs} (hs : s.Ok) (id : TxI) (shard : Int) (yes : Bool) : (voteO s id shard yes).r.length ≤ 100 := by
 unfold voteO
 cases hat : s.at_ id false with
 | none => simp
 | some i =>
  have hr := (rightF_len (hs.rows _ (row_mem (at_some hat).1)).right).2
  simp only
  split
  ·simp
  ·split
   ·split <;> simp
   ·simp only
    split
    ·exact putLen _ hr
    ·simp
theorem ackLen (s : Cs) (id : TxI) (shard : Int) : (ackO s id shard).r.length ≤ 100 := by
 unfold ackO
 cases s.at_ id true with
 | none => simp
 | some i =>
  simp only
  split
  ·simp
  ·split
   ·simp [be4]
   ·simp
theorem xor_one (x : UInt8) : ∃ y : UInt8, bits .xor .u8 (x.toNat : Int) 1 = (y.toNat : Int) := by
 have h1 := x.toNat_lt
 have h2 : x.toNat ^^^ 1 < 256 := Nat.xor_lt_two_pow (n := 8) (by omega) (by omega)
 refine ⟨UInt8.ofNat (x.toNat ^^^ 1), ?_⟩
 rw [show (1 : Int) = ((1 : Nat) : Int) from rfl, u8_xor_nat _ _ (by omega) (by omega), UInt8.toNat_ofNat']
 omega
theorem Own.one_block {w : World} {base n c : Nat} {A : Option Addr} {l : By} (h : Own w base (.slice A n c) l) (hl : 0 < l.length) : ∃ g, A = some ⟨g, 0, none⟩ ∧ base ≤ g ∧ g < w.heap.size := by
 rcases h.2 with ⟨e, hn⟩ | ⟨g, cap, cur, e, hb, hg, _⟩
 ·omega
 ·injection e with e1 e2 e3
  subst e1
  exact ⟨g, rfl, hb, obj_lt hg⟩
theorem bv_set (l : By) (j : Nat) (y : UInt8) : (bv l).set j (.int .u8 (y.toNat : Int)) = bv (l.set j y) := by simp [bv, List.map_set]
set_option maxRecDepth 20000 in
set_option maxHeartbeats 4000000 in
theorem p_redo {E B : List Nat} {w0 w : World} {P p q n : Nat} {tv : Value} {s : Cs} {txs : List TxI} (h : PM E B w0 w P p q tv s txs n) (hn : n ≤ 1000) (A : Option Addr) (c : Nat) (r : By) (hb : BsM B w A r) (hc : r.length ≤ c) (hm : r.length ≤ 140737488351232) (keep : Bool) :
 Calls Try.prog 47 #[pt P, .slice A r.length c, .bool keep] w fun e w' => e = .returned (.bool true) ∧ PM E B w0 w' P p q tv (redoK s r keep) txs n ∧ Kept [p, q] w w' := by
 have HPM := Lib.hid h
 unfold pt
 by_cases h0 : keep = false ∨ r.length = 0
 ·have HV : Hid (redoK s r keep = s) := Lib.hid (by unfold redoK; rw [if_pos h0])
  cases keep with
  | false =>
   clear h hb h0
   go_enter Try.func47, Try.ntmps47
   go_wp2
   go_ret
   rw [HV.out]
   exact ⟨rfl, HPM.out, Kept.refl _ _⟩
  | true =>
   have hr0 : r.length = 0 := by simpa using h0
   rw [hr0]
   clear h hb h0 hr0 hm hc
   go_enter Try.func47, Try.ntmps47
   go_wp2
   go_ret
   rw [HV.out]
   exact ⟨rfl, HPM.out, Kept.refl _ _⟩
 ·have HV : Hid (redoK s r keep = (redoO s r).2) := Lib.hid (by unfold redoK; rw [if_neg h0])
  simp only [not_or] at h0
  obtain ⟨hk1, hr0⟩ := h0
  have hkt : keep = true := by simpa using hk1
  subst hkt
  have hpos : 0 < r.length := by omega
  have hne : ((r.length : Int) == 0) = false := by rw [beq_eq_false_iff_ne]; omega
  have HB := Lib.hid hb
  have HBS := Lib.hid hb.bs
  have HPO := Lib.hid hpos
  have HC := Lib.hid hc
  obtain ⟨P0, P1, P2, PF⟩ := row3_at h.row
  clear h hb hk1 hr0 P1 P2 PF hpos hc
  go_enter Try.func47, Try.ntmps47
  go_wp2_with (at_builtin; refine unstop ?_)
  refine go_on (wpList_appB bytesTr (Own.empty w w.heap.size (Nat.le_refl _)) (HBS.out.ext ((Ext.refl w).alloc _)) rfl rfl rfl rfl rfl (by simp; omega) (by simp) ?_)
  intro v1 w1 ho1 hg1 _
  have hx1 : Ext w w1 := ((Ext.refl w).alloc _).own (Own.empty w w.heap.size (Nat.le_refl _)) (Nat.le_refl _) hg1
  simp only [List.nil_append] at ho1
  obtain ⟨Av, cv, rfl⟩ := ho1.form
  obtain ⟨g, rfl, hgb, hgl⟩ := ho1.one_block HPO.out
  have hG : ∀ k ∈ g :: (E ++ B), k ∈ E ++ B ∨ w.heap.size ≤ k := fun k hk => by
   rcases List.mem_cons.1 hk with rfl | hk
   ·exact .inr hgb
   ·exact .inl hk
  have hlt1 : ∀ k ∈ g :: (E ++ B), k < w1.heap.size := fun k hk => by
   rcases List.mem_cons.1 hk with rfl | hk
   ·exact hgl
   ·exact Nat.lt_of_lt_of_le (HPM.out.lt k hk) hx1.size
  have hgp : p ≠ g := by have := HPM.out.lt p HPM.out.pE; omega
  have hgq : q ≠ g := by have := HPM.out.lt q HPM.out.qE; omega
  have hgP : P ≠ g := by have := HPM.out.lt P (List.mem_append.2 (.inr HPM.out.PB)); omega
  have HCO := Lib.hid ((HPM.out.co.old hG).ext hx1)
  have HRC := Lib.hid ((HPM.out.rc.old hG).ext hx1)
  have HP1 : Hid (p ∈ g :: (E ++ B)) := Lib.hid (List.mem_cons_of_mem _ HPM.out.pE)
  have HQ1 : Hid (q ∈ g :: (E ++ B)) := Lib.hid (List.mem_cons_of_mem _ HPM.out.qE)
  have HBG : Hid (BsM (g :: B) w1 A r) := Lib.hid (BsM.kept (SlM.old HB.out (fun k hk => by
   rcases List.mem_cons.1 hk with rfl | hk
   ·exact .inr hgb
   ·exact .inl hk)) (.of_ext hx1))
  have HLT := Lib.hid hlt1
  have HGB := Lib.hid hgb
  have HGP := Lib.hid hgp
  have HGQ := Lib.hid hgq
  have HX1 := Lib.hid hx1
  have HO1 := Lib.hid ho1
  have hrow1 := hx1.obj HPM.out.row
  have HROW := Lib.hid hrow1
  obtain ⟨R0, R1, R2, RF⟩ := row3_at hrow1
  have HRD := CRedo_any HCO.out HPM.out.ok HP1.out HLT.out (some ⟨g, 0, none⟩) cv r ho1.bs ho1.cap.1 (by omega)
  unfold pt at HRD
  clear ho1 hg1 hx1 hG hlt1 hgp hgq hgb hgl P0 hrow1 R1 R2 RF
  go_wp2_with fail
  refine HRD.mono ?_
  rintro e w2 ⟨rfl, hco2, hk2⟩
  have HCO2 := Lib.hid hco2
  have HK2 := Lib.hid hk2
  obtain ⟨csp, hobp⟩ := HCO.out.obj
  have ho2 : Own w2 w.heap.size (.slice (some ⟨g, 0, none⟩) r.length cv) r := Own.kept HO1.out hk2.grown1 (owns_obj HO1.out hobp (by decide))
  have HO2 := Lib.hid ho2
  clear HRD hco2 hk2 ho2 hobp R0 HO1
  go_wp2
  go_loopw [9] (fun iv wr => ∃ (j : Nat) (l' : By), iv = .int .i64 j ∧ j ≤ r.length ∧ l'.length = r.length ∧ Hid (Own wr w.heap.size (.slice (some ⟨g, 0, none⟩) r.length cv) l') ∧ Hid (Kept [g] w2 wr)) (fun iv _ => r.length - (intOf iv).toNat)
  case atStart => exact ⟨0, r, rfl, by omega, rfl, HO2, Lib.hid (Kept.refl _ _)⟩
  case round =>
   obtain ⟨j, l', rfl, hj, hle, HO, HK⟩ := hrel
   clear HO2
   by_cases hlt : j < r.length
   ·have hjn : (j : Int) < (r.length : Int) := by omega
    have hjl : j < l'.length := by omega
    have ho := HO.out
    unfold Own at ho
    rw [hle] at ho
    have hcell := World.ownsRow.cellAt ho j (by omega)
    have hfz := World.ownsRow.frozenAt ho j
    rw [bv_get hjl] at hcell
    obtain ⟨y, hy⟩ := xor_one l'[j]
    obtain ⟨s1, s2⟩ := World.ownsRow.stored ho j (.int .u8 (y.toNat : Int))
    rw [bv_set] at s1
    have HOS : Hid (Own (wr.setCell ⟨g, j, none⟩ (.int .u8 (y.toNat : Int))) w.heap.size (.slice (some ⟨g, 0, none⟩) r.length cv) (l'.set j y)) := Lib.hid (by unfold Own; rw [List.length_set, hle]; exact s1)
    have HKS := Lib.hid (HK.out.setCell (p := ⟨g, j, none⟩) (.inl (by simp)) (.int .u8 (y.toNat : Int)))
    have HLE : Hid ((l'.set j y).length = r.length) := Lib.hid (by rw [List.length_set]; exact hle)
    have HY := Lib.hid hy
    have HJ := Lib.hid hjl
    clear ho s1 s2 hle hy
    generalize l'[j].toNat = x at *
    clear hjl
    have hy := HY.out
    go_wp2
    go_roundw
    case rel => exact ⟨j + 1, _, by go_num, by omega, HLE.out, HOS, HKS⟩
    case measure => simp [intOf]; omega
   ·have hjn : ¬ (j : Int) < (r.length : Int) := by omega
    have hkg : Kept [p, g] w1 wr := (HK2.out.mono (by simp)).trans (HK.out.mono (by simp))
    have hsubG : ∀ k ∈ [p, g], k ∈ g :: (E ++ B) := by
     intro k hk
     simp only [List.mem_cons, List.not_mem_nil, or_false] at hk
     rcases hk with rfl | rfl
     ·exact HP1.out
     ·exact List.mem_cons_self ..
    have hq3 : q ∉ [p, g] := by
     have h1 := HPM.out.pq
     have h2 := HGQ.out
     simp
     exact ⟨fun e => h1 e.symm, h2⟩
    have HRC3 := Lib.hid (HRC.out.kept hkg hq3 hsubG)
    have HCO3 := Lib.hid (HCO2.out.kept HK.out (by have := HGP.out; simpa using this) (by intro k hk; simp at hk; subst hk; exact List.mem_cons_self ..))
    have hrow3 := hkg.heap HROW.out (by
     have h1 := HPM.out.pP
     simp
     exact ⟨fun e => h1 e.symm, hgP⟩)
    obtain ⟨R0, R1, R2, RF⟩ := row3_at hrow3
    have hb3 : Bs wr A r := BsM.bs (BsM.kept HBG.out (hkg.mono (by
     intro k hk
     simp only [List.mem_cons, List.not_mem_nil, or_false] at hk
     rcases hk with rfl | rfl
     ·exact List.mem_cons_of_mem _ HPM.out.pB
     ·exact List.mem_cons_self ..)))
    have HRR := RRedo_any HRC3.out HPM.out.ok (HPM.out.few.mono hn) HQ1.out (fun k hk => Nat.lt_of_lt_of_le (HLT.out k hk) hkg.size) A c r hb3 HC.out (by omega)
    unfold pt at HRR
    have HKG := Lib.hid hkg
    clear hkg hsubG hq3 hrow3 R0 R2 RF hb3 hle
    go_wp2_with fail
    refine HRR.mono ?_
    rintro e w4 ⟨rfl, hrc4, hk4⟩
    have HRC4 := Lib.hid hrc4
    have HCO4 := Lib.hid (HCO3.out.kept hk4 (by have := HPM.out.pq; simpa using this) (by intro k hk; simp at hk; subst hk; exact HQ1.out))
    have HKF : Hid (Kept [p, q] w w4) := Lib.hid ((((Kept.of_ext (M := [p, g, q]) HX1.out).trans (HKG.out.mono (by intro k hk; simp at hk ⊢; rcases hk with h | h <;> simp [h]))).trans (hk4.mono (by simp))).less (by
     intro k hk hlt
     have := HGB.out
     simp only [List.mem_cons, List.not_mem_nil, or_false] at hk ⊢
     rcases hk with h | h | h
     ·exact .inl h
     ·omega
     ·exact .inr h))
    clear HRR hrc4 hk4 R1
    go_wp2
    go_ret
    rw [HV.out]
    exact ⟨rfl, HPM.out.turn (G := g :: (E ++ B)) (fun k hk => List.mem_cons_of_mem _ hk) HKF.out HCO4.out HRC4.out (ok_redo HPM.out.ok r) (few_redo HPM.out.few r), HKF.out⟩
end Go.Proofs.Ytijopcdjlpafdaa
namespace Go.Proofs.Ytijopcdjlpafdaa
/-- a transaction that was begun: its name, its shards, who said yes, its fate -/
structure En where
 tx : TxI
 sh : List Int
 ys : List Bool
 ft : Int
def En.say (e : En) (s : Int) : Bool := e.ys.getD s.toNat false
/-- what stays true of one -/
structure EnOk (x : Cs) (e : En) : Prop where
 y4 : e.ys.length = 4
 right : rightF e.sh = true
 given : Given x e.tx
 rows : ∀ t ∈ x.under, t.id = e.tx → t.shards = e.sh ∧ (∀ s ∈ t.yes, e.say s = true) ∧ (t.done = true → ∀ s ∈ e.sh, e.say s = true)
 gone : e.ft = 2 → ∀ t ∈ x.under, t.id ≠ e.tx
structure AInv (x : Cs) (es : List En) : Prop where
 ok : x.Ok
 ent : ∀ e ∈ es, EnOk x e
 one : es.Pairwise fun a b => a.tx ≠ b.tx
theorem AInv.start (n : Int) : AInv (N0 n) [] := ⟨ok_new n, by simp, by simp⟩
/-- rows that fall away -/
theorem EnOk.sub {x x' : Cs} {e : En} (h : EnOk x e) (hs : ∀ t ∈ x'.under, t ∈ x.under) (hg : x.boot < x'.boot ∨ (x.boot = x'.boot ∧ x.next ≤ x'.next)) : EnOk x' e :=
 ⟨h.y4, h.right, given_mono h.given hg, fun t ht => h.rows t (hs t ht), fun hf t ht => h.gone hf t (hs t ht)⟩
theorem AInv.sub {x x' : Cs} {es : List En} (h : AInv x es) (hok : x'.Ok) (hs : ∀ t ∈ x'.under, t ∈ x.under) (hg : x.boot < x'.boot ∨ (x.boot = x'.boot ∧ x.next ≤ x'.next)) : AInv x' es :=
 ⟨hok, fun e he => (h.ent e he).sub hs hg, h.one⟩
theorem AInv.same {x x' : Cs} {es : List En} (h : AInv x es) (hok : x'.Ok) (hs : ∀ t ∈ x'.under, t ∈ x.under) (hb : x'.boot = x.boot) (hn : x'.next = x.next) : AInv x' es :=
 h.sub hok hs (.inr ⟨hb.symm, by omega⟩)
/-! ## Begin -/
theorem begin_ok {x : Cs} {sh : List Int} (h : beginE x sh = 0) : rightF sh = true := by
 unfold beginE at h
 split at h
 ·cases h
 ·split at h
  ·cases h
  ·rename_i hr
   simpa using hr
theorem AInv.begin {x : Cs} {es : List En} (h : AInv x es) (sh : List Int) (he : beginE x sh = 0) : AInv (beginS x sh) (es ++ [⟨beginT x sh, sh, [false, false, false, false], 0⟩]) := by
 have hr := begin_ok he
 have hT : beginT x sh = ⟨x.node, x.boot, x.next⟩ := by unfold beginT; rw [if_pos he]
 have hS : beginS x sh = { x with next := x.next + 1, under := x.under ++ [⟨⟨x.node, x.boot, x.next⟩, sh, false, [], []⟩] } := by unfold beginS; rw [if_pos he]
 have hne : ∀ e ∈ es, e.tx ≠ ⟨x.node, x.boot, x.next⟩ := fun e hm heq => by
  have := (h.ent e hm).given
  unfold Given at this
  rw [heq] at this
  simp only at this
  omega
 have hne2 : ∀ t ∈ x.under, t.id ≠ ⟨x.node, x.boot, x.next⟩ := fun t ht heq => by
  have := (h.ok.rows t ht).next (by rw [heq])
  rw [heq] at this
  simp only at this
  omega
 refine ⟨ok_begin h.ok sh, fun e hm => ?_, ?_⟩
 ·rw [hS]
  rcases List.mem_append.1 hm with hm | hm
  ·have hE := h.ent e hm
   refine ⟨hE.y4, hE.right, given_mono hE.given (.inr ⟨rfl, by simp only; omega⟩), fun t ht hid => ?_, fun hf t ht => ?_⟩
   ·rcases List.mem_append.1 ht with ht | ht
    ·exact hE.rows t ht hid
    ·simp only [List.mem_singleton] at ht
     subst ht
     exact absurd hid.symm (hne e hm)
   ·rcases List.mem_append.1 ht with ht | ht
    ·exact hE.gone hf t ht
    ·simp only [List.mem_singleton] at ht
     subst ht
     exact fun hid => absurd hid.symm (hne e hm)
  ·simp only [List.mem_singleton] at hm
   subst hm
   rw [hT]
   refine ⟨rfl, hr, .inr ⟨rfl, by simp only; omega⟩, fun t ht hid => ?_, fun hf => by simp at hf⟩
   rcases List.mem_append.1 ht with ht | ht
   ·exact absurd hid (hne2 t ht)
   ·simp only [List.mem_singleton] at ht
    subst ht
    exact ⟨rfl, by simp, by simp⟩
 ·rw [List.pairwise_append]
  refine ⟨h.one, by simp, fun a ha b hb => ?_⟩
  simp only [List.mem_singleton] at hb
  subst hb
  rw [hT]
  exact hne a ha
/-! ## a row is written anew -/
theorem EnOk.put {x : Cs} {e : En} (h : EnOk x e) {i : Nat} (hi : i < x.under.length) {t' : Tr} (hid : t'.id = (x.row i).id) (h1 : t'.id = e.tx → t'.shards = e.sh ∧ (∀ s ∈ t'.yes, e.say s = true) ∧ (t'.done = true → ∀ s ∈ e.sh, e.say s = true)) : EnOk { x with under := x.under.set i t' } e := by
 refine ⟨h.y4, h.right, h.given, fun t ht => ?_, fun hf t ht => ?_⟩
 ·rcases List.mem_or_eq_of_mem_set ht with ht | rfl
  ·exact h.rows t ht
  ·exact h1
 ·rcases List.mem_or_eq_of_mem_set ht with ht | rfl
  ·exact h.gone hf t ht
  ·rw [hid]
   exact h.gone hf _ (row_mem hi)
theorem say_set {e : En} (h4 : e.ys.length = 4) {s : Int} (hs : 0 ≤ s ∧ s ≤ 3) : ({ e with ys := e.ys.set s.toNat true } : En).say s = true := by
 unfold En.say
 simp only
 rw [List.getD_eq_getElem?_getD, List.getElem?_set_self (by omega)]
 rfl
theorem say_more {e : En} {s r : Int} (h : e.say r = true) : ({ e with ys := e.ys.set s.toNat true } : En).say r = true := by
 unfold En.say at *
 simp only
 rw [List.getD_eq_getElem?_getD, List.getElem?_set] at *
 split
 ·split
  ·rfl
  ·rename_i h1 h2
   rw [h1] at h2
   rw [List.getElem?_eq_none (by omega)] at h
   exact h
 ·exact h
theorem EnOk.more {x : Cs} {e : En} (h : EnOk x e) (s : Int) : EnOk x { e with ys := e.ys.set s.toNat true } :=
 ⟨by simp only [List.length_set]; exact h.y4, h.right, h.given, fun t ht hid => by
  obtain ⟨a, b, c⟩ := h.rows t ht hid
  exact ⟨a, fun r hr => say_more (b r hr), fun hd r hr => say_more (c hd r hr)⟩, h.gone⟩
theorem ent_one {es : List En} (h : es.Pairwise fun a b => a.tx ≠ b.tx) {k j : Nat} (hk : k < es.length) (hj : j < es.length) (e : es[j].tx = es[k].tx) : j = k := by
 have := List.pairwise_iff_getElem.1 h
 rcases Nat.lt_trichotomy j k with h1 | h1 | h1
 ·exact absurd e (this j k hj hk h1)
 ·exact h1
 ·exact absurd e.symm (this k j hk hj h1)
theorem pair_set {es : List En} (h : es.Pairwise fun a b => a.tx ≠ b.tx) {k : Nat} (hk : k < es.length) {e' : En} (he : e'.tx = es[k].tx) : (es.set k e').Pairwise fun a b => a.tx ≠ b.tx := by
 have e : ∀ l : List En, l.Pairwise (fun a b => a.tx ≠ b.tx) ↔ (l.map (·.tx)).Pairwise (· ≠ ·) := fun l => by rw [List.pairwise_map]
 rw [e, List.map_set]
 have : (es.map (·.tx)).set k e'.tx = es.map (·.tx) := by
  rw [he]
  apply List.ext_getElem?
  intro j
  rw [List.getElem?_set]
  by_cases hj : k = j
  ·subst hj
   rw [if_pos rfl]
   simp [hk]
  ·rw [if_neg hj]
 rw [this, ← e]
 exact h
theorem AInv.set {x : Cs} {es : List En} (h : AInv x es) {k : Nat} (hk : k < es.length) {e' : En} (he : e'.tx = es[k].tx) (hE : EnOk x e') : AInv x (es.set k e') :=
 ⟨h.ok, fun e hm => by
  rcases List.mem_or_eq_of_mem_set hm with hm | rfl
  ·exact h.ent e hm
  ·exact hE, pair_set h.one hk he⟩
/-! ## Vote -/
def votedE (e : En) (o : Out) (s : Int) (yes : Bool) : En := if o.e = 0 ∧ yes = true then { e with ys := e.ys.set s.toNat true } else e
theorem vote_shard {x : Cs} (hx : x.Ok) {id : TxI} {s : Int} {yes : Bool} (h : (voteO x id s yes).e = 0) : 0 ≤ s ∧ s ≤ 3 := by
 unfold voteO at h
 cases hat : x.at_ id false with
 | none => rw [hat] at h; cases h
 | some i =>
  rw [hat] at h
  simp only at h
  split at h
  ·cases h
  ·rename_i hs
   have := rightF_mem (hx.rows _ (row_mem (at_some hat).1)).right
   exact this s (hasI_iff.1 (by simpa using hs))
theorem AInv.vote {x : Cs} {es : List En} (h : AInv x es) {k : Nat} (hk : k < es.length) (s : Int) (yes : Bool) :
 AInv (voteO x es[k].tx s yes).s (es.set k (votedE es[k] (voteO x es[k].tx s yes) s yes)) := by
 have hok := ok_vote h.ok es[k].tx s yes
 have hsr := @vote_shard x h.ok es[k].tx s yes
 have hv1 : ∀ o, votedE es[k] o s false = es[k] := fun o => by unfold votedE; rw [if_neg (by simp)]
 have hv3 : ∀ o, o.e = 0 → votedE es[k] o s true = { es[k] with ys := es[k].ys.set s.toNat true } := fun o ho => by unfold votedE; rw [if_pos ⟨ho, rfl⟩]
 have hv2 : ∀ o y, o.e ≠ 0 → votedE es[k] o s y = es[k] := fun o y ho => by unfold votedE; rw [if_neg (fun hc => ho hc.1)]
 unfold voteO at *
 cases hat : x.at_ es[k].tx false with
 | none =>
  rw [hv2 _ _ (by simp), List.set_getElem_self]
  exact h
 | some i =>
  rw [hat] at hok hsr
  obtain ⟨h1, h2, h3, _⟩ := at_some hat
  simp only at hok hsr ⊢
  split
  ·rw [hv2 _ _ (by simp), List.set_getElem_self]
   exact h
  ·rename_i hs
   rw [if_neg hs] at hok hsr
   cases yes with
   | false =>
    rw [if_pos rfl, hv1, List.set_getElem_self]
    split
    ·exact h
    ·exact h.same (ok_erase h.ok i) (fun t ht => List.mem_of_mem_eraseIdx ht) rfl rfl
   | true =>
    rw [if_neg (by simp)] at hok hsr ⊢
    have hs3 := hsr rfl
    rw [hv3 _ rfl]
    have hE := h.ent es[k] (List.getElem_mem hk)
    obtain ⟨r1, r2, r3⟩ := hE.rows _ (row_mem h1) h2
    refine ⟨hok, fun e hm => ?_, pair_set h.one hk rfl⟩
    obtain ⟨j, hj, rfl⟩ := List.mem_iff_getElem.1 hm
    rw [List.length_set] at hj
    by_cases hjk : k = j
    ·subst hjk
     rw [List.getElem_set_self]
     refine (hE.more s).put h1 rfl fun hid => ⟨r1, fun r hr => ?_, fun hd => ?_⟩
     ·simp only at hr
      rcases List.mem_append.1 hr with hr | hr
      ·exact say_more (r2 r hr)
      ·simp only [List.mem_singleton] at hr
       subst hr
       exact say_set hE.y4 hs3
     ·simp only at hd
      rw [h3] at hd
      cases hd
    ·rw [List.getElem_set_ne hjk]
     refine (h.ent es[j] (List.getElem_mem hj)).put h1 rfl fun hid => ?_
     simp only at hid
     rw [h2] at hid
     exact absurd (ent_one h.one hk hj hid.symm).symm hjk
/-! ## Drop, Ack, Ask -/
theorem AInv.drop {x : Cs} {es : List En} (h : AInv x es) (id : TxI) : AInv (dropO x id).2 es := by
 have hok := ok_drop h.ok id
 unfold dropO at *
 cases hat : x.at_ id false with
 | none => exact h
 | some i =>
  rw [hat] at hok
  simp only at hok ⊢
  split
  ·exact h
  ·exact h.same (ok_erase h.ok i) (fun t ht => List.mem_of_mem_eraseIdx ht) rfl rfl
theorem AInv.ack {x : Cs} {es : List En} (h : AInv x es) (id : TxI) (s : Int) : AInv (ackO x id s).s es := by
 have hok := ok_ack h.ok id s
 unfold ackO at *
 cases hat : x.at_ id true with
 | none => exact h
 | some i =>
  rw [hat] at hok
  obtain ⟨h1, h2, h3, _⟩ := at_some hat
  simp only at hok ⊢
  split
  ·exact h
  ·rename_i hs
   rw [if_neg hs] at hok
   refine ⟨hok, fun e he => (h.ent e he).put h1 rfl fun hid => ?_, h.one⟩
   exact (h.ent e he).rows (x.row i) (row_mem h1) hid
theorem AInv.fate {x : Cs} {es : List En} (h : AInv x es) {k : Nat} (hk : k < es.length) : AInv x (es.set k { es[k] with ft := askF x es[k].tx }) := by
 have hE := h.ent es[k] (List.getElem_mem hk)
 refine h.set hk rfl ⟨hE.y4, hE.right, hE.given, hE.rows, fun hf => ?_⟩
 simp only at hf ⊢
 unfold askF at hf
 split at hf
 ·cases hf
 ·split at hf
  ·rename_i hn
   exact findT_none.1 hn
  ·split at hf <;> cases hf
/-! ## Redo -/
theorem redo_sub {s : Cs} {r : By} (h : r.getD 0 0 ≠ 2) : ∀ t ∈ (redoO s r).2.under, t ∈ s.under := by
 unfold redoO
 split
 ·exact fun t ht => ht
 ·split
  ·unfold livesO
   split
   ·exact fun t ht => ht
   ·exact fun t ht => (List.mem_filter.1 ht).1
  ·split
   ·exact fun t ht => ht
   ·split
    ·cases s.at_ ⟨s.node, (valAt r 1 : Nat), (valAt r 5 : Nat)⟩ true with
     | none => exact fun t ht => ht
     | some i => exact fun t ht => List.mem_of_mem_eraseIdx ht
    ·rw [if_neg (fun h2 => h h2.1)]
     exact fun t ht => ht
theorem AInv.redo {x : Cs} {es : List En} (h : AInv x es) {r : By} (hr : r.getD 0 0 ≠ 2) : AInv (redoO x r).2 es :=
 h.sub (ok_redo h.ok r) (redo_sub hr) (redo_grows x r)
end Go.Proofs.Ytijopcdjlpafdaa
namespace Go.Proofs.Ytijopcdjlpafdaa
open Go.RowKit
def yb (l : List Bool) : List Value := l.map Value.bool
/-- a slice of slices of numbers, all of the call's own -/
def OwnSI (w : World) (base : Nat) (v : Value) (ls : List (List Int)) : Prop :=
 ∃ vs : List Value, w.ownsRow base 33 1 v ls.length vs ∧ ∀ (k : Nat) (l : List Int), ls[k]? = some l → ∃ u, vs[k]? = some u ∧ w.ownsRow base 3 1 u l.length (ib l)
def OwnY (w : World) (base : Nat) (v : Value) (ls : List (List Bool)) : Prop := w.ownsRow base 47 4 v ls.length (ls.flatMap yb)
def OwnF (w : World) (base : Nat) (v : Value) (ls : List Int) : Prop := w.ownsRow base 48 1 v ls.length (ib ls)
section
variable {w wr w' : World} {p base : Nat} {x : Cs}
theorem OwnSI.kept {v : Value} {ls : List (List Int)} {b : Option Nat} (h : OwnSI w base v ls) (hg : w.grownBy w' b) (h1 : ∀ e size n v xs, w.ownsRow base e size v n xs → (e = 33 ∨ e = 3) → v.ownBlock = none ∨ v.ownBlock ≠ b) : OwnSI w' base v ls := by
 obtain ⟨vs, q1, q2⟩ := h
 refine ⟨vs, q1.kept hg (h1 _ _ _ _ _ q1 (.inl rfl)), fun k l hl => ?_⟩
 obtain ⟨u, q3, q4⟩ := q2 k l hl
 exact ⟨u, q3, q4.kept hg (h1 _ _ _ _ _ q4 (.inr rfl))⟩
theorem OwnSI.ext {v : Value} {ls : List (List Int)} (h : OwnSI w base v ls) (hx : Ext w w') : OwnSI w' base v ls := by
 obtain ⟨vs, h1, h2⟩ := h
 refine ⟨vs, owns_ext h1 hx, fun k l hk => ?_⟩
 obtain ⟨u, h3, h4⟩ := h2 k l hk
 exact ⟨u, h3, owns_ext h4 hx⟩
theorem OwnSI.off {v : Value} {ls : List (List Int)} {e size n : Nat} {v2 : Value} {xs : List Value} (h : OwnSI w base v ls) (hg : w.grownBy w' v2.ownBlock) (ho : w.ownsRow base e size v2 n xs) (h1 : 33 ≠ e) (h2 : 3 ≠ e) : OwnSI w' base v ls :=
 h.kept hg fun e' _ _ _ _ hr he => by
  rcases he with rfl | rfl
  ·exact owns_apart hr ho h1
  ·exact owns_apart hr ho h2
/-- the node and the rows of the call's own -/
structure NMem (w wr : World) (p : Nat) (us : List Value) (x : Cs) : Prop where
 ex : Ext w wr
 pge : w.heap.size ≤ p
 co : ∃ M, Co M wr p x ∧ p ∈ M ∧ (∀ k ∈ M, k < wr.heap.size) ∧ (∀ u ∈ us, ∀ g, u.ownBlock = some g → g ∈ M) ∧ (∀ k ∈ M, w.heap.size ≤ k)
theorem NMem.sub {us vs : List Value} (h : NMem w wr p us x) (hs : ∀ u ∈ vs, u ∈ us) : NMem w wr p vs x := by
 obtain ⟨M, h1, h2, h3, h4, h5⟩ := h.co
 exact ⟨h.ex, h.pge, M, h1, h2, h3, fun u hu => h4 u (hs u hu), h5⟩
theorem NMem.ext {us : List Value} (h : NMem w wr p us x) (hx : Ext wr w') : NMem w w' p us x := by
 obtain ⟨M, h1, h2, h3, h4, h5⟩ := h.co
 exact ⟨h.ex.trans hx, h.pge, M, h1.ext hx, h2, fun k hk => Nat.lt_of_lt_of_le (h3 k hk) hx.size, h4, h5⟩
theorem NMem.grow {us : List Value} {v v' : Value} {e size n n' : Nat} {xs xs' : List Value} (h : NMem w wr p us x) (hv : v ∈ us) (he : e ≠ 72) (h1 : wr.ownsRow w.heap.size e size v n xs) (ho : w'.ownsRow w.heap.size e size v' n' xs') (hg : wr.grownBy w' v.ownBlock) (hor : v'.ownBlock = v.ownBlock ∨ v'.ownBlock = some wr.heap.size) : NMem w w' p (v' :: us) x := by
 obtain ⟨M, c1, c2, c3, c4, c5⟩ := h.co
 obtain ⟨cs, hob⟩ := c1.obj
 obtain ⟨M', d1, d2, d3, d4, d5, d6⟩ := co_grown c1 c2 c3 (c4 v hv) (owns_obj h1 hob he) hg (fun g hg => (ho.lt g hg).2) hor c5 fun g hg => (ho.lt g hg).1
 refine ⟨h.ex.own h1 (Nat.le_refl _) hg, h.pge, M', d1, d2, d3, fun u hu g hg => ?_, d6⟩
 rcases List.mem_cons.1 hu with rfl | hu
 ·exact d5 g hg
 ·exact d4 g (c4 u hu g hg)
theorem NMem.turn {us : List Value} (h : NMem w wr p us x) {x' : Cs} {M : List Nat} (h2 : p ∈ M) (h3 : ∀ k ∈ M, k < wr.heap.size) (h4 : ∀ u ∈ us, ∀ g, u.ownBlock = some g → g ∈ M) (h5 : ∀ k ∈ M, w.heap.size ≤ k) (hk : Kept [p] wr w') (hc : Co M w' p x') : NMem w w' p us x' :=
 ⟨h.ex.kept hk (one_ge h.pge), h.pge, M, hc, h2, fun k hk2 => Nat.lt_of_lt_of_le (h3 k hk2) hk.size, h4, h5⟩
end
/-- all of it -/
structure AMem (w wr : World) (p : Nat) (tv sv yv fv : Value) (x : Cs) (txs : List TxI) (shs : List (List Int)) (yss : List (List Bool)) (fts : List Int) : Prop where
 nm : NMem w wr p [tv, sv, yv, fv] x
 to : OwnX wr w.heap.size tv txs
 so : OwnSI wr w.heap.size sv shs
 yo : OwnY wr w.heap.size yv yss
 fo : OwnF wr w.heap.size fv fts
section
variable {w wr w' : World} {p : Nat} {tv sv yv fv : Value} {x : Cs} {txs : List TxI} {shs : List (List Int)} {yss : List (List Bool)} {fts : List Int}
theorem AMem.ext (h : AMem w wr p tv sv yv fv x txs shs yss fts) (hx : Ext wr w') : AMem w w' p tv sv yv fv x txs shs yss fts :=
 ⟨h.nm.ext hx, owns_ext h.to hx, h.so.ext hx, owns_ext h.yo hx, owns_ext h.fo hx⟩
theorem AMem.turn (h : AMem w wr p tv sv yv fv x txs shs yss fts) {x' : Cs} {M : List Nat} (h1 : Co M wr p x) (hn : NMem w w' p [tv, sv, yv, fv] x') (hk : Kept [p] wr w') : AMem w w' p tv sv yv fv x' txs shs yss fts ∧ Oth wr w' := by
 obtain ⟨cs, ho⟩ := h1.obj
 exact ⟨⟨hn, World.ownsRow.kept h.to hk.grown1 (owns_obj h.to ho (by decide)), h.so.kept hk.grown1 fun e _ _ _ _ hr he => owns_obj hr ho (by rcases he with rfl | rfl <;> decide), World.ownsRow.kept h.yo hk.grown1 (owns_obj h.yo ho (by decide)), World.ownsRow.kept h.fo hk.grown1 (owns_obj h.fo ho (by decide))⟩, .kept ho hk⟩
end
end Go.Proofs.Ytijopcdjlpafdaa
namespace Go.Proofs.Ytijopcdjlpafdaa
open Go.RowKit
section
variable {w wr w' : World} {p : Nat} {tv sv yv fv : Value} {x : Cs} {txs : List TxI} {shs : List (List Int)} {yss : List (List Bool)} {fts : List Int}
/-! ## what is read -/
theorem AMem.tx (h : AMem w wr p tv sv yv fv x txs shs yss fts) {k : Nat} (hk : k < txs.length) : ∃ ad cap, tv = .slice (some ad) txs.length cap ∧ ∀ W, Ext wr W → ∀ j v, (txiC txs[k])[j]? = some v → W.cell? ((ad.add (k * 3)).add j) = some v := by
 obtain ⟨A, cap, hv⟩ := own_form h.to
 have hs := Sl.own h.to hv
 have hg : txs.getD k ⟨0, 0, 0⟩ = txs[k] := by rw [List.getD_eq_getElem?_getD, List.getElem?_eq_getElem hk]; rfl
 obtain ⟨ad, e, _⟩ := hs (k * 3 + 0) _ (by rw [flat3_get txs k 0 hk (by omega), hg]; rfl)
 subst e
 refine ⟨ad, cap, hv, fun W hx j v hj => ?_⟩
 have hj3 : j < 3 := (List.getElem?_eq_some_iff.1 hj).1
 obtain ⟨ad', e', hc⟩ := hs (k * 3 + j) v (by rw [flat3_get txs k j hk hj3, hg]; exact hj)
 cases e'
 rw [add_addB]
 exact hx.cell hc
theorem OwnSI.at_ {base : Nat} {A : Option Addr} {n c : Nat} (h : OwnSI wr base (.slice A n c) shs) {k : Nat} (hk : k < shs.length) : ∃ ad A' c', A = some ad ∧ Sl wr A' (ib shs[k]) ∧ ∀ W, Ext wr W → W.cell? (ad.add k) = some (.slice A' shs[k].length c') := by
 obtain ⟨vs, h1, h2⟩ := h
 obtain ⟨u, h3, h4⟩ := h2 k _ (List.getElem?_eq_getElem hk)
 obtain ⟨ad, e, hc⟩ := Sl.own h1 rfl k u h3
 obtain ⟨A', c', rfl⟩ := own_form h4
 exact ⟨ad, A', c', e, Sl.own h4 rfl, fun W hx => hx.cell hc⟩
theorem flatY_get : ∀ (l : List (List Bool)) (k s : Nat) (hk : k < l.length), s < 4 → (∀ r ∈ l, r.length = 4) → (l.flatMap yb)[k * 4 + s]? = some (.bool (l[k].getD s false))
 | [], k, s, hk, _, _ => by simp at hk
 | r :: l, k, s, hk, hs, h4 => by
  have hr := h4 r (by simp)
  cases k with
  | zero =>
   simp only [List.flatMap_cons, Nat.zero_mul, Nat.zero_add, List.getElem_cons_zero]
   rw [List.getElem?_append_left (by simp [yb]; omega)]
   simp [yb, List.getD, show s < r.length by omega]
  | succ k =>
   simp only [List.flatMap_cons, List.getElem_cons_succ]
   rw [List.getElem?_append_right (by simp [yb]; omega), show (k + 1) * 4 + s - (yb r).length = k * 4 + s by simp [yb]; omega]
   exact flatY_get l k s (by simpa using hk) hs fun r hr => h4 r (by simp [hr])
theorem OwnY.at_ {base n c : Nat} {A : Option Addr} (h : OwnY wr base (.slice A n c) yss) (h4 : ∀ r ∈ yss, r.length = 4) {k : Nat} (hk : k < yss.length) : ∃ g, A = some ⟨g, 0, none⟩ ∧ (∀ s, s < 4 → wr.cell? ⟨g, k * 4 + s, none⟩ = some (.bool (yss[k].getD s false))) ∧ (∀ s, wr.frozen? ⟨g, s, none⟩ = false) ∧ n = yss.length := by
 rcases h.2 with ⟨e, hn⟩ | ⟨g, cap, cur, e, _⟩
 ·omega
 ·injection e with e1 e2 e3
  subst e1 e2 e3
  refine ⟨g, rfl, fun s hs => ?_, fun s => World.ownsRow.frozenAt h s, rfl⟩
  rw [World.ownsRow.cellAt h (k * 4 + s) (by omega)]
  exact flatY_get yss k s hk hs h4
theorem OwnF.at_ {base n c : Nat} {A : Option Addr} (h : OwnF wr base (.slice A n c) fts) {k : Nat} (hk : k < fts.length) : ∃ g, A = some ⟨g, 0, none⟩ ∧ wr.cell? ⟨g, k, none⟩ = some (.int .i64 fts[k]) ∧ wr.frozen? ⟨g, k, none⟩ = false := by
 rcases h.2 with ⟨e, hn⟩ | ⟨g, cap, cur, e, _⟩
 ·omega
 ·injection e with e1 e2 e3
  subst e1 e2 e3
  refine ⟨g, rfl, ?_, World.ownsRow.frozenAt h k⟩
  rw [World.ownsRow.cellAt h k (by omega)]
  exact ib_get hk
end
end Go.Proofs.Ytijopcdjlpafdaa
namespace Go.Proofs.Ytijopcdjlpafdaa
open Go.RowKit
theorem OwnSI.form {w : World} {base : Nat} {v : Value} {ls : List (List Int)} (h : OwnSI w base v ls) : ∃ A cap, v = .slice A ls.length cap := by
 obtain ⟨vs, h1, _⟩ := h
 exact own_form h1
def clC (d : Cl) (A1 : Option Addr) (c1 : Nat) (A2 : Option Addr) (c2 : Nat) : List Value :=
 [.int .i64 d.do_, .slice A1 d.shards.length c1, .int .i64 d.shard, .bool d.keep, .int .u8 (d.which : Int), .int .i64 d.tx.node, .int .i64 d.tx.boot, .int .i64 d.tx.n, .slice A2 d.bytes.length c2]
theorem call_info : (Try.prog.info? 37).map (fun i => (i.zero, i.size)) = some (some (.agg #[.int .i64 0, .slice none 0 0, .int .i64 0, .bool false, .int .u8 0, .int .i64 0, .int .i64 0, .int .i64 0, .slice none 0 0]), 9) := by kernel_rfl
theorem call_size (d : Cl) (A1 : Option Addr) (c1 : Nat) (A2 : Option Addr) (c2 : Nat) : (Try.prog.info? 37).map (·.size) = some (clC d A1 c1 A2 c2).toArray.size := (zero_of_info call_info).2
/-- a call stands at g -/
def ClAt (W : World) (g : Nat) (d : Cl) (A1 : Option Addr) (c1 : Nat) (A2 : Option Addr) (c2 : Nat) : Prop := W.heap[g]? = some (.cells (clC d A1 c1 A2 c2).toArray 37 (0, 0))
section
variable {w w' : World} {g : Nat} {d : Cl} {A1 : Option Addr} {c1 : Nat} {A2 : Option Addr} {c2 : Nat}
theorem ClAt.cell (h : ClAt w g d A1 c1 A2 c2) {j : Nat} {v : Value} (hj : (clC d A1 c1 A2 c2)[j]? = some v) : w.cell? ⟨g, j, none⟩ = some v := by
 unfold ClAt at h
 simp only [World.cell?, h]
 simpa using hj
theorem ClAt.oth (h : ClAt w g d A1 c1 A2 c2) (hx : Oth w w') : ClAt w' g d A1 c1 A2 c2 := hx.2 _ _ _ _ h (by decide)
theorem ClAt.ext (h : ClAt w g d A1 c1 A2 c2) (hx : Ext w w') : ClAt w' g d A1 c1 A2 c2 := h.oth (.ext hx)
theorem ClAt.grow {b e size n : Nat} {v : Value} {xs : List Value} (h : ClAt w g d A1 c1 A2 c2) (ho : w.ownsRow b e size v n xs) (he : e ≠ 37) (hg : w.grownBy w' v.ownBlock) : ClAt w' g d A1 c1 A2 c2 := by
 unfold ClAt at *
 refine (hg.block g (obj_lt h) ?_).trans h
 rcases owns_obj ho h he with h0 | h0
 ·rw [h0]; simp
 ·exact fun e => h0 e.symm
theorem ClAt.all (h : ClAt w g d A1 c1 A2 c2) : w.cell? ⟨g, 0, none⟩ = some (.int .i64 d.do_) ∧ w.cell? ⟨g, 1, none⟩ = some (.slice A1 d.shards.length c1) ∧ w.cell? ⟨g, 2, none⟩ = some (.int .i64 d.shard) ∧ w.cell? ⟨g, 3, none⟩ = some (.bool d.keep) ∧ w.cell? ⟨g, 4, none⟩ = some (.int .u8 (d.which : Int)) :=
 ⟨h.cell rfl, h.cell rfl, h.cell rfl, h.cell rfl, h.cell rfl⟩
theorem ClAt.tx (h : ClAt w g d A1 c1 A2 c2) : ∀ W, Ext w W → ∀ j v, (txiC d.tx)[j]? = some v → W.cell? ((⟨g, 5, none⟩ : Addr).add j) = some v := by
 intro W hx j v hj
 have hj3 : j < 3 := (List.getElem?_eq_some_iff.1 hj).1
 have e : (⟨g, 5, none⟩ : Addr).add j = ⟨g, 5 + j, none⟩ := by
  unfold Addr.add
  by_cases h0 : j = 0 <;> simp [h0]
 rw [e]
 refine hx.cell (h.cell ?_)
 match j, hj3 with
 | 0, _ => exact hj
 | 1, _ => exact hj
 | 2, _ => exact hj
end
/-- a store into who said yes leaves bytes and the call -/
theorem AMem.beside {w wr : World} {p gy n c : Nat} {tv sv fv : Value} {x : Cs} {txs : List TxI} {shs : List (List Int)} {yss : List (List Bool)} {fts : List Int} (h : AMem w wr p tv sv (.slice (some ⟨gy, 0, none⟩) n c) fv x txs shs yss fts) (j : Nat) (u : Value) {v : Value} {r : By} (ho : Own wr w.heap.size v r) {g : Nat} {d : Cl} {A1 : Option Addr} {c1 : Nat} {A2 : Option Addr} {c2 : Nat} (hc : ClAt wr g d A1 c1 A2 c2) :
 Own (wr.setCell ⟨gy, j, none⟩ u) w.heap.size v r ∧ ClAt (wr.setCell ⟨gy, j, none⟩ u) g d A1 c1 A2 c2 := by
 have hn : yss.length = n := by
  obtain ⟨A, c', e⟩ := own_form h.yo
  injection e with _ e _
  exact e.symm
 have hy := h.yo
 unfold OwnY at hy
 have hy' := hy
 rw [hn] at hy
 obtain ⟨_, q2⟩ := World.ownsRow.stored hy j u
 exact ⟨Own.kept ho q2 (owns_apart ho hy (by decide)), hc.grow (v := .slice (some ⟨gy, 0, none⟩) n c) hy (by decide) q2⟩
end Go.Proofs.Ytijopcdjlpafdaa
namespace Go.Proofs.Ytijopcdjlpafdaa
open Go.RowKit
theorem results_cell0 {P : Program} {fn : Func} {p : Tmp} {ty : TypeId} (h : fn.results = #[.cell p ty]) (tmps : Array Value) (w : World) (g : Nat) (t : TypeId) (cs : Array Value) (fr : Nat × Nat) (d : TypeDesc)
 (hp : tmps.getD p undef = .pointer (some ⟨g, 0, none⟩)) (hg : w.heap[g]? = some (.cells cs t fr))
 (hu : P.underlying ty = some d) (hd : (match d with | .struct _ | .array _ _ => true | _ => false) = true) (hi : (P.info? ty).map (·.size) = some cs.size) :
 (results fn tmps).run P w = .ok (.agg cs) w := by
 have hp' : tmps[p]?.getD undef = .pointer (some ⟨g, 0, none⟩) := by simpa using hp
 simp [results, h, hp', asAddr, run_loadVar_row w g t ty cs fr d hg hu hd hi]
set_option maxRecDepth 20000 in
set_option maxHeartbeats 4000000 in
theorem p_tx {E B : List Nat} {w0 w : World} {P p q n : Nat} {tv : Value} {s : Cs} {txs : List TxI} (h : PM E B w0 w P p q tv s txs n) (d : Cl) (A1 : Option Addr) (c1 : Nat) (A2 : Option Addr) (c2 : Nat) (hd : d.which < 256) (hn : txs.length ≤ 1000000) :
 Calls Try.prog 19 #[pt P, .agg (clC d A1 c1 A2 c2).toArray] w fun e w' => e = .returned (.agg (txiC (txOf txs d)).toArray) ∧ Ext w w' := by
 obtain ⟨wa, hwa⟩ : ∃ wa, wa = w.alloc (.cells (clC d A1 c1 A2 c2).toArray 37) := ⟨_, rfl⟩
 have hxa : Ext w wa := by rw [hwa]; exact (Ext.refl w).alloc _
 have HC : Hid (ClAt wa w.heap.size d A1 c1 A2 c2) := Lib.hid (by unfold ClAt; rw [hwa]; exact heap_alloc_new w _)
 have HPM := Lib.hid h
 have hrowP := hxa.obj h.row
 obtain ⟨A, cap, rfl⟩ := own_form h.to
 have hwaA := hwa.symm
 have HZ : Hid (w.heap.size < wa.heap.size) := Lib.hid (obj_lt HC.out)
 have HROWP := Lib.hid hrowP
 unfold clC
 unfold clC at hwaA
 clear h hwa hrowP
 unfold pt
 go_enter Try.func19, Try.ntmps19
 go_wp2_with (with_reducible first | refine sL 35 ?_ | refine sA 35 ?_ | refine sS 35 ?_)
 clear hwaA
 refine go_on (wpList_alloc_ rfl rfl apitx_info ?_)
 generalize hwb : wa.alloc (.cells #[.int .i64 0, .int .i64 0, .int .i64 0] 35) = wb
 have hxb : Ext wa wb := hwb ▸ (Ext.refl wa).alloc _
 have HRB : Hid (wb.heap[wa.heap.size]? = some (.cells #[.int .i64 0, .int .i64 0, .int .i64 0] 35 (0, 0))) := Lib.hid (hwb ▸ heap_alloc_new wa _)
 have HCB := Lib.hid (HC.out.ext hxb)
 obtain ⟨k0, k1, k2, k3, k4⟩ := HCB.out.all
 have hrowP := hxb.obj HROWP.out
 obtain ⟨P0, P1, P2, PF⟩ := row3_at hrowP
 have hxab := hxa.trans hxb
 clear hwb k0 k1 k2 k3 P0 P1 PF hrowP HROWP
 generalize hgg : w.heap.size = g3 at *
 have HGG := Lib.hid hgg
 clear hgg
 by_cases h0 : txs.length = 0 ∨ d.which = 255
 ·have HV : Hid (txOf txs d = d.tx) := Lib.hid (by unfold txOf; rw [if_pos h0])
  have hor : txs.length = 0 ∨ (txs.length ≠ 0 ∧ d.which = 255) := by omega
  have HTC := Lib.hid HCB.out.tx
  clear h0
  rcases hor with ht | ⟨ht, hw⟩
  ·rw [ht] at P2
   clear ht
   go_wp2_with (with_reducible first | refine sL 35 ?_ | refine sA 35 ?_ | refine sS 35 ?_)
   refine go_on (wpList_load_elem rfl 35 _ rfl ⟨g3, 5, none⟩ rfl (txiC d.tx) _ (HTC.out _ (Ext.refl _)) Try.underlying35 rfl (by kernel_rfl) ?_)
   go_wp2_with (with_reducible first | refine sL 35 ?_ | refine sA 35 ?_ | refine sS 35 ?_)
   refine go_on (wpList_store_whole rfl rfl rfl rfl HRB.out (apitx_size _ _ _) rfl (by simp [txiC, Value.oneCell']) ?_)
   intro W hrow hkW _
   have HXW := Lib.hid (hxab.kept hkW (one_ge hxa.size))
   clear hkW
   go_wp2
   ((try simp only [Exit.inBlock, Exit.then]); refine bodyPost_ret (results_cell0 rfl _ _ wa.heap.size _ _ _ _ rfl hrow Try.underlying35 rfl (by kernel_rfl)) rfl ?_)
   rw [HV.out]
   exact ⟨rfl, HXW.out⟩
  ·have hne : ((txs.length : Int) == 0) = false := by rw [beq_eq_false_iff_ne]; omega
   rw [hw] at k4
   clear ht hw
   go_wp2_with (with_reducible first | refine sL 35 ?_ | refine sA 35 ?_ | refine sS 35 ?_)
   refine go_on (wpList_load_elem rfl 35 _ rfl ⟨g3, 5, none⟩ rfl (txiC d.tx) _ (HTC.out _ (Ext.refl _)) Try.underlying35 rfl (by kernel_rfl) ?_)
   go_wp2_with (with_reducible first | refine sL 35 ?_ | refine sA 35 ?_ | refine sS 35 ?_)
   refine go_on (wpList_store_whole rfl rfl rfl rfl HRB.out (apitx_size _ _ _) rfl (by simp [txiC, Value.oneCell']) ?_)
   intro W hrow hkW _
   have HXW := Lib.hid (hxab.kept hkW (one_ge hxa.size))
   clear hkW
   go_wp2
   ((try simp only [Exit.inBlock, Exit.then]); refine bodyPost_ret (results_cell0 rfl _ _ wa.heap.size _ _ _ _ rfl hrow Try.underlying35 rfl (by kernel_rfl)) rfl ?_)
   rw [HV.out]
   exact ⟨rfl, HXW.out⟩
 ·simp only [not_or] at h0
  obtain ⟨ht, hw⟩ := h0
  have hlt3 : d.which % txs.length < txs.length := Nat.mod_lt _ (by omega)
  have HV : Hid (txOf txs d = txs[d.which % txs.length]) := Lib.hid (by
   unfold txOf
   rw [if_neg (by rintro (h | h); exact ht h; exact hw h), List.getD_eq_getElem?_getD, List.getElem?_eq_getElem hlt3]
   rfl)
  obtain ⟨ad, cap', e, hct⟩ := HPM.out.tx hlt3
  injection e with e1 e2 e3
  clear e2
  subst e1 e3
  have hct' := fun W (hx : Ext wb W) => hct W (hxab.trans hx)
  have P2' : ∀ W, Ext wb W → W.cell? ⟨P, 2, none⟩ = some (.slice (some ad) txs.length cap) := fun W hx => hx.cell P2
  have K4' : ∀ W, Ext wb W → W.cell? ⟨g3, 4, none⟩ = some (.int .u8 (d.which : Int)) := fun W hx => hx.cell k4
  have hne : ((txs.length : Int) == 0) = false := by rw [beq_eq_false_iff_ne]; omega
  have hw5 : ((d.which : Int) == 255) = false := by rw [beq_eq_false_iff_ne]; omega
  have hre : Int.tmod (d.which : Int) (txs.length : Int) = ((d.which % txs.length : Nat) : Int) := rfl
  have hte : ((d.which : Int) % (txs.length : Int)) = ((d.which % txs.length : Nat) : Int) := rfl
  have hxd : Ext wb wb.drew := (Ext.refl _).drew
  have hnil : ¬ txs = [] := fun e => ht (by rw [e]; rfl)
  have hwu : IntKind.i64.wrap (d.which : Int) = (d.which : Int) := wrap64_nat _ (by omega)
  clear ht hw
  generalize hqq : d.which % txs.length = qq at *
  have HQQ := Lib.hid hqq
  clear hqq hct
  go_wp2_with fail
  refine wp_region_phase (S := fun w' => Ext wb w') 15 (by kernel_rfl) (by kernel_rfl) ?_ (fun hHeld => ?_)
  ·exact hxd
  simp only [List.drop_succ_cons, List.drop_zero]
  refine name_head ?_
  intro wr0 hw0
  rw [hw0] at hHeld
  refine wt 0 _ ?_
  simp only [red, Act.put]
  refine wt 1 _ ?_
  simp only [red, Act.put]
  refine wt 2 _ ?_
  simp only [red, Act.put]
  refine wt 3 _ ?_
  simp only [red, Act.put]
  refine wt 4 _ ?_
  simp only [red, Act.put]
  refine wt 5 _ ?_
  simp only [red, Act.put]
  refine wt 6 _ ?_
  simp only [red, Act.put]
  refine wt 7 _ ?_
  simp only [red, Act.put]
  refine wt 8 _ ?_
  simp only [red, Act.put]
  refine wt 9 _ ?_
  simp only [red, Act.put]
  refine wt 10 _ ?_
  simp only [red, Act.put]
  refine wt 11 _ ?_
  simp only [red, Act.put]
  refine wt 12 _ ?_
  simp only [red, Act.put]
  refine wt 13 _ ?_
  simp only [red, Act.put]
  refine wy 14 (v := .agg #[.int .i64 txs[qq].node, .int .i64 txs[qq].boot, .int .i64 txs[qq].n]) (by rfl) (by exact yieldsIf_load_elem (by rfl) 35 _ rfl (ad.add (qq * 3)) rfl (txiC txs[qq]) _ (fun w' hx => hct' w' hx) Try.underlying35 rfl (by kernel_rfl)) ?_
  simp only [red, Act.put]
  refine wpHead_done (by kernel_rfl) ?_
  have hrb := hHeld.obj HRB.out
  have HXJ := Lib.hid (hxab.trans hHeld)
  generalize wr0 = wj at *
  clear hxd hHeld hct' P2' K4' P2 k4
  go_wp2_with (with_reducible first | refine sL 35 ?_ | refine sA 35 ?_ | refine sS 35 ?_)
  refine go_on (wpList_store_whole rfl rfl rfl rfl hrb (apitx_size _ _ _) rfl (by simp [Value.oneCell']) ?_)
  intro W hrow hkW _
  have HXW := Lib.hid (HXJ.out.kept hkW (one_ge hxa.size))
  clear hkW hrb
  go_wp2
  ((try simp only [Exit.inBlock, Exit.then]); refine bodyPost_ret (results_cell0 rfl _ _ wa.heap.size _ _ _ _ rfl hrow Try.underlying35 rfl (by kernel_rfl)) rfl ?_)
  rw [HV.out]
  exact ⟨rfl, HXW.out⟩
end Go.Proofs.Ytijopcdjlpafdaa
