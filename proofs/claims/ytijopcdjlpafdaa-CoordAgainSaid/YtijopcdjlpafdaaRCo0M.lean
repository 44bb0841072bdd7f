/- The reference's node in memory; the walks of its Right, in, all, find. Conditions: the hypotheses of each theorem. -/
import Derived.Test.YtijopcdjlpafdaaC2
import Derived.Test.YtijopcdjlpafdaaC4
namespace Go.Proofs.Ytijopcdjlpafdaa
open Go.RowKit
def rrC (t : Tr) (v y a : Value) : List Value := [.int .i64 t.id.node, .int .i64 t.id.boot, .int .i64 t.id.n, v, .bool t.done, y, a]
@[simp] theorem rrC_length (t : Tr) (v y a : Value) : (rrC t v y a).length = 7 := rfl
theorem rrC_one (t : Tr) (A : Option Addr) (n c : Nat) (A1 : Option Addr) (n1 c1 : Nat) (A2 : Option Addr) (n2 c2 : Nat) : ∀ u ∈ rrC t (.slice A n c) (.slice A1 n1 c1) (.slice A2 n2 c2), u.oneCell' = true := by
 intro u hu
 simp only [rrC, List.mem_cons, List.not_mem_nil, or_false] at hu
 rcases hu with rfl | rfl | rfl | rfl | rfl | rfl | rfl <;> rfl
def RRr : Reading Tr where
 says M w cs t := ∃ A c A1 c1 A2 c2, cs = rrC t (.slice A t.shards.length c) (.slice A1 t.yes.length c1) (.slice A2 t.ack.length c2) ∧ SlM M w A (ib t.shards) ∧ SlM M w A1 (ib t.yes) ∧ SlM M w A2 (ib t.ack)
 kept := by
  rintro M w w' cs x ⟨A, c, A1, c1, A2, c2, h1, h2, h3, h4⟩ hx
  exact ⟨A, c, A1, c1, A2, c2, h1, h2.kept hx, h3.kept hx, h4.kept hx⟩
 old := by
  rintro M N w cs x ⟨A, c, A1, c1, A2, c2, h1, h2, h3, h4⟩ hx
  exact ⟨A, c, A1, c1, A2, c2, h1, SlM.old h2 hx, SlM.old h3 hx, SlM.old h4 hx⟩
def zRr : Array Value := #[.int .i64 0, .int .i64 0, .int .i64 0, .slice none 0 0, .bool false, .slice none 0 0, .slice none 0 0]
theorem rrT : ElemOf Try.prog 91 98 7 104 := ElemOf.mk' (z := .agg zRr) Try.underlying91 (by kernel_rfl) rfl (by omega)
theorem rr_info : (Try.prog.info? 98).map (fun i => (i.zero, i.size)) = some (some (.agg zRr), 7) := by kernel_rfl
theorem rr_size {cs : List Value} (h : cs.length = 7) : (Try.prog.info? 98).map (·.size) = some cs.length := by
 rw [h]
 exact (zero_of_info rr_info).2
theorem sizeRr : ∀ w, (Go.sizeOf 98).run Try.prog w = .ok 7 w := fun _ => by kernel_rfl
theorem RRr.cs7 {M : List Nat} {w : World} {cs : List Value} {x : Tr} (h : RRr.says M w cs x) : cs.length = 7 ∧ ∀ u ∈ cs, u.oneCell' = true := by
 obtain ⟨A, c, A1, c1, A2, c2, rfl, _⟩ := h
 exact ⟨rfl, fun u hu => rrC_one _ _ _ _ _ _ _ _ _ _ u hu⟩
theorem RRr.one {M : List Nat} {w : World} {css : List (List Value)} {us : List Tr} (hl : css.length = us.length) (h : ∀ (k : Nat) (cs : List Value) (x : Tr), css[k]? = some cs → us[k]? = some x → RRr.says M w cs x) : ∀ u ∈ css.flatten, u.oneCell' = true := by
 intro u hu
 simp only [List.mem_flatten] at hu
 obtain ⟨cs, hc, hu⟩ := hu
 obtain ⟨k, hk, rfl⟩ := List.mem_iff_getElem.1 hc
 exact (RRr.cs7 (h k css[k] us[k] (List.getElem?_eq_getElem hk) (List.getElem?_eq_getElem (by omega)))).2 u hu
/-- the reference's node at q -/
structure RcR (M : List Nat) (w : World) (q : Nat) (s : Cs) (A : Option Addr) (cap : Nat) : Prop where
 row : w.heap[q]? = some (.cells #[.int .i64 s.node, .int .i64 s.boot, .int .i64 s.next, .slice A s.under.length cap] 93 (0, 0))
 rs : RsM RRr 7 M w A s.under
 cap : s.under.length ≤ cap
def Rc (M : List Nat) (w : World) (q : Nat) (s : Cs) : Prop := ∃ A cap, RcR M w q s A cap
/-- votes and acks are few -/
def Cs.Few (s : Cs) (n : Nat) : Prop := ∀ t ∈ s.under, t.yes.length ≤ n ∧ t.ack.length ≤ n
section
variable {M N : List Nat} {w w' : World} {q : Nat} {s : Cs}
theorem Rc.lt (h : Rc M w q s) : q < w.heap.size := by
 obtain ⟨A, cap, h⟩ := h
 exact obj_lt h.row
theorem Rc.obj (h : Rc M w q s) : ∃ cs, w.heap[q]? = some (.cells cs 93 (0, 0)) := by
 obtain ⟨A, cap, h⟩ := h
 exact ⟨_, h.row⟩
theorem Rc.kept (h : Rc M w q s) (k : Kept N w w') (hp : q ∉ N) (hs : ∀ k ∈ N, k ∈ M) : Rc M w' q s := by
 obtain ⟨A, cap, h⟩ := h
 exact ⟨A, cap, k.heap h.row hp, h.rs.kept (k.mono hs), h.cap⟩
theorem Rc.ext (h : Rc M w q s) (k : Ext w w') : Rc M w' q s := h.kept (N := []) (.of_ext k) (by simp) (by simp)
theorem Rc.old (h : Rc M w q s) (hs : ∀ k ∈ N, k ∈ M ∨ w.heap.size ≤ k) : Rc N w q s := by
 obtain ⟨A, cap, h⟩ := h
 exact ⟨A, cap, h.row, h.rs.old hs, h.cap⟩
/-- a transaction of the node's -/
theorem RsM.rr {A : Option Addr} {xs : List Tr} (h : RsM RRr 7 M w A xs) {k : Nat} (hk : k < xs.length) :
 ∃ ad A0 c0 A1 c1 A2 c2, A = some ad ∧ SlM M w A0 (ib xs[k].shards) ∧ SlM M w A1 (ib xs[k].yes) ∧ SlM M w A2 (ib xs[k].ack) ∧ (∀ W, Ext w W → ∀ j v, (rrC xs[k] (.slice A0 xs[k].shards.length c0) (.slice A1 xs[k].yes.length c1) (.slice A2 xs[k].ack.length c2))[j]? = some v → W.cell? ((ad.add (k * 7)).add j) = some v) := by
 obtain ⟨ad, cs, e, _, _, hcell, A0, c0, A1, c1, A2, c2, rfl, h1, h2, h3⟩ := h.at_ (by omega) hk
 refine ⟨ad, A0, c0, A1, c1, A2, c2, e, h1, h2, h3, fun W hx j v hj => ?_⟩
 rw [add_addB]
 exact hx.cell (hcell j v hj)
end
set_option maxHeartbeats 1000000 in
theorem rin_any (w : World) (A : Option Addr) (c : Nat) (l : List Int) (n : Int) (hb : Sl w A (ib l)) (hm : l.length ≤ 1000000) :
 Calls Try.prog 49 #[.slice A l.length c, .int .i64 n] w fun e w' => e = .returned (.bool (hasI l n)) ∧ w = w' := by
 have HB := Lib.hid hb
 clear hb
 go_enter Try.func49, Try.ntmps49
 go_wp2
 go_loop [5] (fun i => ∃ k : Nat, k ≤ l.length ∧ i = .int .i64 k ∧ Hid (∀ j (h : j < l.length), j < k → l[j] ≠ n)) (fun i => l.length - (intOf i).toNat)
 case atStart => exact ⟨0, by omega, rfl, Lib.hid fun j _ hj => absurd hj (Nat.not_lt_zero _)⟩
 case round =>
  obtain ⟨k, hk, rfl, HO⟩ := hrel
  by_cases hlt : k < l.length
  ·have hlt2 : (k : Int) < (l.length : Int) := by omega
   obtain ⟨ad, rfl, hc⟩ := HB.out.int hlt
   have hc0 := hc _ (Ext.refl _)
   clear hc
   by_cases hq : l[k] = n
   ·have HF : Hid (hasI l n = true) := Lib.hid (hasI_iff.2 (hq ▸ List.getElem_mem hlt))
    have hq2 : (l[k] == n) = true := by simpa using hq
    generalize l[k] = y at *
    clear hq
    go_wp2
    go_ret
    exact ⟨ret_bool HF.out.symm, rfl⟩
   ·have HT := Lib.hid hq
    have hq2 : (l[k] == n) = false := by simpa using hq
    clear hq
    go_wp2
    go_round
    case rel => exact ⟨k + 1, by omega, by go_num, Lib.hid fun j h hj => by
     rcases Nat.lt_or_ge j k with h' | h'
     ·exact HO.out j h h'
     ·obtain rfl : j = k := by omega
      exact HT.out⟩
    case measure => simp [intOf]; omega
  ·have hlt2 : ¬ (k : Int) < (l.length : Int) := by omega
   have HF : Hid (hasI l n = false) := Lib.hid (by
    cases h : hasI l n with
    | false => rfl
    | true =>
     obtain ⟨j, hj, e⟩ := List.mem_iff_getElem.1 (hasI_iff.1 h)
     exact absurd e (HO.out j hj (by omega)))
   go_wp2
   go_ret
   exact ⟨ret_bool HF.out.symm, rfl⟩
set_option maxHeartbeats 1000000 in
theorem rall_any (w : World) (A : Option Addr) (c : Nat) (l : List Int) (A2 : Option Addr) (c2 : Nat) (m : List Int) (hb : Sl w A (ib l)) (hb2 : Sl w A2 (ib m)) (hl : l.length ≤ 1000000) (hm : m.length ≤ 1000000) :
 Calls Try.prog 64 #[.slice A l.length c, .slice A2 m.length c2] w fun e w' => e = .returned (.bool (allIn l m)) ∧ w = w' := by
 have HB := Lib.hid hb
 have HI := fun n => rin_any w A2 c2 m n hb2 hm
 clear hb hb2
 go_enter Try.func64, Try.ntmps64
 go_wp2
 go_loop [5] (fun i => ∃ k : Nat, k ≤ l.length ∧ i = .int .i64 k ∧ Hid (∀ j (h : j < l.length), j < k → l[j] ∈ m)) (fun i => l.length - (intOf i).toNat)
 case atStart => exact ⟨0, by omega, rfl, Lib.hid fun j _ hj => absurd hj (Nat.not_lt_zero _)⟩
 case round =>
  obtain ⟨k, hk, rfl, HO⟩ := hrel
  by_cases hlt : k < l.length
  ·have hlt2 : (k : Int) < (l.length : Int) := by omega
   obtain ⟨ad, rfl, hc⟩ := HB.out.int hlt
   have hc0 := hc _ (Ext.refl _)
   have HI := HI l[k]
   clear hc
   cases hq : hasI m l[k] with
   | false =>
    rw [hq] at HI
    have HF : Hid (allIn l m = false) := Lib.hid (by
     cases h : allIn l m with
     | false => rfl
     | true =>
      have := allIn_iff.1 h _ (List.getElem_mem hlt)
      rw [hasI_iff.2 this] at hq
      cases hq)
    clear hq
    go_wp2_with fail
    refine HI.mono ?_
    rintro e _ ⟨rfl, rfl⟩
    go_wp2
    go_ret
    exact ⟨ret_bool HF.out.symm, rfl⟩
   | true =>
    rw [hq] at HI
    have HT := Lib.hid (hasI_iff.1 hq)
    clear hq
    go_wp2_with fail
    refine HI.mono ?_
    rintro e _ ⟨rfl, rfl⟩
    go_wp2
    go_round
    case rel => exact ⟨k + 1, by omega, by go_num, Lib.hid fun j h hj => by
     rcases Nat.lt_or_ge j k with h' | h'
     ·exact HO.out j h h'
     ·obtain rfl : j = k := by omega
      exact HT.out⟩
    case measure => simp [intOf]; omega
  ·have hlt2 : ¬ (k : Int) < (l.length : Int) := by omega
   have HF : Hid (allIn l m = true) := Lib.hid (allIn_iff.2 fun x hx => by
    obtain ⟨j, hj, e⟩ := List.mem_iff_getElem.1 hx
    subst e
    exact HO.out j hj (by omega))
   go_wp2
   go_ret
   exact ⟨ret_bool HF.out.symm, rfl⟩
set_option maxRecDepth 20000 in
set_option maxHeartbeats 2000000 in
theorem rfind_any {M : List Nat} {w : World} {q : Nat} {s : Cs} (h : Rc M w q s) (id : TxI) (hn : s.under.length ≤ 1000) :
 Calls Try.prog 63 #[pt q, .agg #[.int .i64 id.node, .int .i64 id.boot, .int .i64 id.n]] w fun e w' => e = .returned (.int .i64 (idI (findT s.under id))) ∧ Ext w w' := by
 obtain ⟨A, cap, h⟩ := h
 obtain ⟨c0, c1, c2, c3, cf⟩ := rows4 h.row
 have HRS := Lib.hid h.rs
 have HI : Hid (findT s.under id = s.under.findIdx? fun t => decide (t.id = id)) := Lib.hid rfl
 clear h c0 c1 c2 cf
 generalize s.under = us at *
 unfold pt
 go_enter Try.func63, Try.ntmps63
 go_wp2_with fail
 generalize hw1 : w.alloc _ = wb
 have hB : TxAt wb w.heap.size id := hw1 ▸ heap_alloc_new w _
 have hxb : Ext w wb := hw1 ▸ (Ext.refl w).alloc _
 have HB := Lib.hid hB
 have c3b := fun W (hx : Ext wb W) => c3 W (hxb.trans hx)
 have HXB := Lib.hid hxb
 obtain ⟨b0, b1, b2, bf⟩ := rows3 hB
 clear hw1 hB hxb bf c3
 generalize w.heap.size = g at *
 go_wp2
 go_loopw [5] (fun i wr => ∃ k : Nat, k ≤ us.length ∧ i = .int .i64 k ∧ Ext wb wr ∧ Hid (∀ j (h : j < us.length), j < k → us[j].id ≠ id)) (fun i _ => us.length - (intOf i).toNat)
 case atStart => exact ⟨0, by omega, rfl, Ext.refl _, Lib.hid fun j _ hj => absurd hj (Nat.not_lt_zero _)⟩
 case round =>
  obtain ⟨k, hk, rfl, hx, HO⟩ := hrel
  have c30 := c3b wr hx
  by_cases hlt : k < us.length
  ·have hlt2 : (k : Int) < (us.length : Int) := by omega
   obtain ⟨ad, A0, d0, A1, d1, A2, d2, rfl, -, -, -, hcell⟩ := HRS.out.rr hlt
   have hct : ∀ W, Ext wb W → ∀ j v, (txiC us[k].id)[j]? = some v → W.cell? ((ad.add (k * 7)).add j) = some v := fun W hW j v hj => by
    refine hcell W (HXB.out.trans hW) j v ?_
    have hj3 : j < 3 := (List.getElem?_eq_some_iff.1 hj).1
    match j, hj3 with
    | 0, _ => exact hj
    | 1, _ => exact hj
    | 2, _ => exact hj
   have hxd := hx.drew
   have hlt1000 : k < 1000 := by omega
   clear hcell
   by_cases hq : us[k].id = id
   ·have HF : Hid (findT us id = some k) := Lib.hid (by rw [HI.out]; exact findIdx_hit hlt (by simpa using hq) fun j hj => by simpa using HO.out j (by omega) hj)
    rw [hq] at hct
    clear hq hx
    go_wp2_with fail
    refine wp_region_phase (S := fun w' => Ext wb w') 9 (by kernel_rfl) (by kernel_rfl) ?_ (fun hHeld => ?_)
    ·exact hxd
    simp only [List.drop_succ_cons, List.drop_zero]
    refine name_head ?_
    intro wr0 hw0
    rw [hw0] at hHeld
    refine wt 0 _ ?_
    simp only [red, Act.put]
    refine wt 1 _ ?_
    simp only [red, Act.put]
    refine wt 2 _ ?_
    simp only [red, Act.put]
    refine wt 3 _ ?_
    simp only [red, Act.put]
    refine wt 4 _ ?_
    simp only [red, Act.put]
    refine wt 5 _ ?_
    simp only [red, Act.put]
    refine wt 6 _ ?_
    simp only [red, Act.put]
    refine wy 7 (v := .agg #[.int .i64 id.node, .int .i64 id.boot, .int .i64 id.n]) (by rfl) (by exact yieldsIf_load_elem (by rfl) 35 _ rfl (ad.add (k * 7)) rfl (txiC id) _ (fun w' hx => hct w' hx) Try.underlying35 rfl (by kernel_rfl)) ?_
    simp only [red, Act.put]
    refine wt 8 _ ?_
    simp only [red, Act.put]
    refine wpHead_done (by kernel_rfl) ?_
    have HXJ := Lib.hid hHeld
    generalize wr0 = wj at *
    clear hxd hct b0 b1 b2 hHeld c3b c30
    go_wp2
    go_ret
    exact ⟨by rw [HF.out]; rfl, HXB.out.trans HXJ.out⟩
   ·have HT := Lib.hid hq
    obtain ⟨y, hy⟩ : ∃ y, y = us[k].id := ⟨_, rfl⟩
    rw [← hy] at hct
    have HY := Lib.hid hy
    clear hq hx hy
    go_wp2_with fail
    refine wp_region_phase (S := fun w' => Ext wb w') 9 (by kernel_rfl) (by kernel_rfl) ?_ (fun hHeld => ?_)
    ·exact hxd
    simp only [List.drop_succ_cons, List.drop_zero]
    refine name_head ?_
    intro wr0 hw0
    rw [hw0] at hHeld
    refine wt 0 _ ?_
    simp only [red, Act.put]
    refine wt 1 _ ?_
    simp only [red, Act.put]
    refine wt 2 _ ?_
    simp only [red, Act.put]
    refine wt 3 _ ?_
    simp only [red, Act.put]
    refine wt 4 _ ?_
    simp only [red, Act.put]
    refine wt 5 _ ?_
    simp only [red, Act.put]
    refine wt 6 _ ?_
    simp only [red, Act.put]
    refine wy 7 (v := .agg #[.int .i64 y.node, .int .i64 y.boot, .int .i64 y.n]) (by rfl) (by exact yieldsIf_load_elem (by rfl) 35 _ rfl (ad.add (k * 7)) rfl (txiC y) _ (fun w' hx => hct w' hx) Try.underlying35 rfl (by kernel_rfl)) ?_
    simp only [red, Act.put]
    refine wt 8 _ ?_
    simp only [red, Act.put]
    refine wpHead_done (by kernel_rfl) ?_
    have HXJ := Lib.hid hHeld
    generalize wr0 = wj at *
    clear hxd hct b0 b1 b2 hHeld c3b c30
    go_wp2
    all_goals try (exfalso; exact HT.out (HY.out.symm.trans <| (txi_iff _ _).2 ⟨by assumption, by assumption, by assumption⟩))
    all_goals
     go_roundw
     case rel => exact ⟨k + 1, by omega, by go_num, HXJ.out, Lib.hid fun j h hj => by
      rcases Nat.lt_or_ge j k with h' | h'
      ·exact HO.out j h h'
      ·obtain rfl : j = k := by omega
       exact HT.out⟩
     case measure => simp [intOf]; omega
  ·have hlt2 : ¬ (k : Int) < (us.length : Int) := by omega
   have HF : Hid (findT us id = none) := Lib.hid (by rw [HI.out]; exact findIdx_miss fun j hj => by simpa using HO.out j hj (by omega))
   clear c3b
   go_wp2
   go_ret
   exact ⟨by rw [HF.out]; rfl, HXB.out.trans hx⟩
set_option maxRecDepth 20000 in
set_option maxHeartbeats 4000000 in
theorem rright_any (w : World) (A : Option Addr) (c : Nat) (l : List Int) (hb : Sl w A (ib l)) (hm : l.length ≤ 140737488355328) :
 Calls Try.prog 62 #[.slice A l.length c] w fun e w' => e = .returned (.bool (rightF l)) ∧ Ext w w' := by
 by_cases h0 : l.length < 1
 ·have HF : Hid (rightF l = false) := Lib.hid (by
   obtain rfl : l = [] := List.eq_nil_of_length_eq_zero (by omega)
   rfl)
  have h0' : (l.length : Int) < 1 := by omega
  clear h0 hb
  go_enter Try.func62, Try.ntmps62
  go_wp2
  go_ret
  exact ⟨ret_bool HF.out.symm, Ext.refl _⟩
 have h0' : ¬ (l.length : Int) < 1 := by omega
 by_cases h4 : 4 < l.length
 ·have HF : Hid (rightF l = false) := Lib.hid (by
   cases h : rightF l with
   | false => rfl
   | true => have := (rightF_len h).2; omega)
  have h4' : (4 : Int) < (l.length : Int) := by omega
  clear h0 hb
  go_enter Try.func62, Try.ntmps62
  go_wp2
  go_ret
  exact ⟨ret_bool HF.out.symm, Ext.refl _⟩
 have h4' : ¬ (4 : Int) < (l.length : Int) := by omega
 go_enter Try.func62, Try.ntmps62
 go_wp2
 go_loopw [3] (fun i wr => ∃ k : Nat, k ≤ l.length ∧ i = .int .i64 k ∧ Ext w wr ∧ Hid (∀ j, j < k → okAt l j = true)) (fun i _ => l.length - (intOf i).toNat)
 case atStart => exact ⟨0, by omega, rfl, Ext.refl _, Lib.hid fun j hj => absurd hj (Nat.not_lt_zero _)⟩
 case round =>
  obtain ⟨k, hk, rfl, hx, HO⟩ := hrel
  by_cases hlt : k < l.length
  ·have hlt2 : (k : Int) < (l.length : Int) := by omega
   obtain ⟨ad, rfl, hc⟩ := hb.int hlt
   have HE := Lib.hid (okAt_of hlt)
   have HF : okAt l k = false → Hid (rightF l = false) := fun h => Lib.hid (by unfold rightF; rw [range_all hlt h, Bool.and_false])
   have HP : 0 < k → Hid (l.getD (k - 1) 0 = l[k - 1]'(by omega)) := fun h => Lib.hid (by rw [List.getD_eq_getElem?_getD, List.getElem?_eq_getElem (by omega)]; rfl)
   have hp : 0 < k → ∀ W, Ext w W → W.cell? (ad.add (k - 1)) = some (.int .i64 (l[k - 1]'(by omega))) := fun h => by
    obtain ⟨ad', e, hc⟩ := hb.int (k := k - 1) (by omega)
    cases e
    exact hc
   have hxd := hx.drew
   clear hb hx
   by_cases h1 : l[k] < 0
   ·have h0 : ¬ 0 ≤ l[k] := by omega
    have HF := HF (by rw [HE.out]; simp [h0])
    have hd : decide (l[k] < 0) = true := by simpa using h1
    clear h0 hp HP h1
    go_wp2_with fail
    refine wp_region_phase (S := fun w' => Ext w w') 27 (by kernel_rfl) (by kernel_rfl) ?_ (fun hHeld => ?_)
    ·exact hxd
    simp only [List.drop_succ_cons, List.drop_zero]
    refine name_head ?_
    intro wr0 hw0
    rw [hw0] at hHeld
    refine wt 0 _ ?_
    simp only [red, Act.put]
    refine wt 1 _ ?_
    simp only [red, Act.put]
    refine wt 2 _ ?_
    simp only [red, Act.put]
    refine wt 3 _ ?_
    simp only [red, Act.put]
    refine wt 4 _ ?_
    simp only [red, Act.put]
    refine wt 5 _ ?_
    simp only [red, Act.put]
    refine ws 6 ?_
    simp only [red, Act.put]
    refine ws 7 ?_
    simp only [red, Act.put]
    refine ws 8 ?_
    simp only [red, Act.put]
    refine ws 9 ?_
    simp only [red, Act.put]
    refine ws 10 ?_
    simp only [red, Act.put]
    refine wt 11 _ ?_
    simp only [red, Act.put]
    refine wt 12 _ ?_
    simp only [red, Act.put]
    refine ws 13 ?_
    simp only [red, Act.put]
    refine ws 14 ?_
    simp only [red, Act.put]
    refine ws 15 ?_
    simp only [red, Act.put]
    refine ws 16 ?_
    simp only [red, Act.put]
    refine ws 17 ?_
    simp only [red, Act.put]
    refine ws 18 ?_
    simp only [red, Act.put]
    refine ws 19 ?_
    simp only [red, Act.put]
    refine ws 20 ?_
    simp only [red, Act.put]
    refine ws 21 ?_
    simp only [red, Act.put]
    refine ws 22 ?_
    simp only [red, Act.put]
    refine ws 23 ?_
    simp only [red, Act.put]
    refine ws 24 ?_
    simp only [red, Act.put]
    refine ws 25 ?_
    simp only [red, Act.put]
    refine ws 26 ?_
    simp only [red, Act.put]
    refine wpHead_done (by kernel_rfl) ?_
    have HXJ := Lib.hid hHeld
    generalize wr0 = wj at *
    clear hxd hHeld hc hd
    go_wp2
    go_ret
    exact ⟨ret_bool HF.out.symm, HXJ.out⟩
   ·have hd : decide (l[k] < 0) = false := by simpa using h1
    by_cases h2 : 3 < l[k]
    ·have h0 : ¬ l[k] ≤ 3 := by omega
     have HF := HF (by rw [HE.out]; simp [h0])
     have hd2 : decide (3 < l[k]) = true := by simpa using h2
     clear h0 hp HP h1 h2
     go_wp2_with fail
     refine wp_region_phase (S := fun w' => Ext w w') 27 (by kernel_rfl) (by kernel_rfl) ?_ (fun hHeld => ?_)
     ·exact hxd
     simp only [List.drop_succ_cons, List.drop_zero]
     refine name_head ?_
     intro wr0 hw0
     rw [hw0] at hHeld
     refine wt 0 _ ?_
     simp only [red, Act.put]
     refine wt 1 _ ?_
     simp only [red, Act.put]
     refine wt 2 _ ?_
     simp only [red, Act.put]
     refine wt 3 _ ?_
     simp only [red, Act.put]
     refine wt 4 _ ?_
     simp only [red, Act.put]
     refine wt 5 _ ?_
     simp only [red, Act.put]
     refine wt 6 _ ?_
     simp only [red, Act.put]
     refine wt 7 _ ?_
     simp only [red, Act.put]
     refine wt 8 _ ?_
     simp only [red, Act.put]
     refine wt 9 _ ?_
     simp only [red, Act.put]
     refine wt 10 _ ?_
     simp only [red, Act.put]
     refine wt 11 _ ?_
     simp only [red, Act.put]
     refine wt 12 _ ?_
     simp only [red, Act.put]
     refine ws 13 ?_
     simp only [red, Act.put]
     refine ws 14 ?_
     simp only [red, Act.put]
     refine ws 15 ?_
     simp only [red, Act.put]
     refine ws 16 ?_
     simp only [red, Act.put]
     refine ws 17 ?_
     simp only [red, Act.put]
     refine ws 18 ?_
     simp only [red, Act.put]
     refine ws 19 ?_
     simp only [red, Act.put]
     refine ws 20 ?_
     simp only [red, Act.put]
     refine ws 21 ?_
     simp only [red, Act.put]
     refine ws 22 ?_
     simp only [red, Act.put]
     refine ws 23 ?_
     simp only [red, Act.put]
     refine ws 24 ?_
     simp only [red, Act.put]
     refine ws 25 ?_
     simp only [red, Act.put]
     refine ws 26 ?_
     simp only [red, Act.put]
     refine wpHead_done (by kernel_rfl) ?_
     have HXJ := Lib.hid hHeld
     generalize wr0 = wj at *
     clear hxd hHeld hc hd hd2
     go_wp2
     go_ret
     exact ⟨ret_bool HF.out.symm, HXJ.out⟩
    ·have hd2 : decide (3 < l[k]) = false := by simpa using h2
     by_cases h3 : 0 < k
     ·have hp := hp h3
      have HP := HP h3
      have hd3 : decide (0 < k) = true := by simpa using h3
      have hkm : (k : Int) - 1 = ((k - 1 : Nat) : Int) := by omega
      have hkw : IntKind.i64.wrap ((k - 1 : Nat) : Int) = ((k - 1 : Nat) : Int) := wrap64_nat _ (by omega)
      have hkl : k - 1 < l.length := by omega
      have hkl2 : ((k - 1 : Nat) : Int) < (l.length : Int) := by omega
      by_cases h5 : l[k] ≤ l[k - 1]'(by omega)
      ·have HF := HF (by rw [HE.out, HP.out]; simp; omega)
       have hd4 : decide (l[k] ≤ l[k - 1]'(by omega)) = true := by simpa using h5
       clear h1 h2 h3 h5
       go_wp2_with fail
       refine wp_region_phase (S := fun w' => Ext w w') 27 (by kernel_rfl) (by kernel_rfl) ?_ (fun hHeld => ?_)
       ·exact hxd
       simp only [List.drop_succ_cons, List.drop_zero]
       refine name_head ?_
       intro wr0 hw0
       rw [hw0] at hHeld
       refine wt 0 _ ?_
       simp only [red, Act.put]
       refine wt 1 _ ?_
       simp only [red, Act.put]
       refine wt 2 _ ?_
       simp only [red, Act.put]
       refine wt 3 _ ?_
       simp only [red, Act.put]
       refine wt 4 _ ?_
       simp only [red, Act.put]
       refine wt 5 _ ?_
       simp only [red, Act.put]
       refine wt 6 _ ?_
       simp only [red, Act.put]
       refine wt 7 _ ?_
       simp only [red, Act.put]
       refine wt 8 _ ?_
       simp only [red, Act.put]
       refine wt 9 _ ?_
       simp only [red, Act.put]
       refine wt 10 _ ?_
       simp only [red, Act.put]
       refine wt 11 _ ?_
       simp only [red, Act.put]
       refine wt 12 _ ?_
       simp only [red, Act.put]
       refine wt 13 _ ?_
       simp only [red, Act.put]
       refine wt 14 _ ?_
       simp only [red, Act.put]
       refine wt 15 _ ?_
       simp only [red, Act.put]
       refine wt 16 _ ?_
       simp only [red, Act.put]
       refine wt 17 _ ?_
       simp only [red, Act.put]
       refine wt 18 _ ?_
       simp only [red, Act.put]
       refine wt 19 _ ?_
       simp only [red, Act.put]
       refine wt 20 _ ?_
       simp only [red, Act.put]
       refine wt 21 _ ?_
       simp only [red, Act.put]
       refine wt 22 _ ?_
       simp only [red, Act.put]
       refine wt 23 _ ?_
       simp only [red, Act.put]
       refine wt 24 _ ?_
       simp only [red, Act.put]
       refine wt 25 _ ?_
       simp only [red, Act.put]
       refine wt 26 _ ?_
       simp only [red, Act.put]
       refine wpHead_done (by kernel_rfl) ?_
       have HXJ := Lib.hid hHeld
       generalize wr0 = wj at *
       clear hxd hHeld hc hd hd2 hd3 hd4 hp
       go_wp2
       go_ret
       exact ⟨ret_bool HF.out.symm, HXJ.out⟩
      ·have HT : Hid (okAt l k = true) := Lib.hid (by rw [HE.out, HP.out]; simp; omega)
       have hd4 : decide (l[k] ≤ l[k - 1]'(by omega)) = false := by simpa using h5
       clear h1 h2 h3 h5
       go_wp2_with fail
       refine wp_region_phase (S := fun w' => Ext w w') 27 (by kernel_rfl) (by kernel_rfl) ?_ (fun hHeld => ?_)
       ·exact hxd
       simp only [List.drop_succ_cons, List.drop_zero]
       refine name_head ?_
       intro wr0 hw0
       rw [hw0] at hHeld
       refine wt 0 _ ?_
       simp only [red, Act.put]
       refine wt 1 _ ?_
       simp only [red, Act.put]
       refine wt 2 _ ?_
       simp only [red, Act.put]
       refine wt 3 _ ?_
       simp only [red, Act.put]
       refine wt 4 _ ?_
       simp only [red, Act.put]
       refine wt 5 _ ?_
       simp only [red, Act.put]
       refine wt 6 _ ?_
       simp only [red, Act.put]
       refine wt 7 _ ?_
       simp only [red, Act.put]
       refine wt 8 _ ?_
       simp only [red, Act.put]
       refine wt 9 _ ?_
       simp only [red, Act.put]
       refine wt 10 _ ?_
       simp only [red, Act.put]
       refine wt 11 _ ?_
       simp only [red, Act.put]
       refine wt 12 _ ?_
       simp only [red, Act.put]
       refine wt 13 _ ?_
       simp only [red, Act.put]
       refine wt 14 _ ?_
       simp only [red, Act.put]
       refine wt 15 _ ?_
       simp only [red, Act.put]
       refine wt 16 _ ?_
       simp only [red, Act.put]
       refine wt 17 _ ?_
       simp only [red, Act.put]
       refine wt 18 _ ?_
       simp only [red, Act.put]
       refine wt 19 _ ?_
       simp only [red, Act.put]
       refine wt 20 _ ?_
       simp only [red, Act.put]
       refine wt 21 _ ?_
       simp only [red, Act.put]
       refine wt 22 _ ?_
       simp only [red, Act.put]
       refine wt 23 _ ?_
       simp only [red, Act.put]
       refine wt 24 _ ?_
       simp only [red, Act.put]
       refine wt 25 _ ?_
       simp only [red, Act.put]
       refine wt 26 _ ?_
       simp only [red, Act.put]
       refine wpHead_done (by kernel_rfl) ?_
       have HXJ := Lib.hid hHeld
       generalize wr0 = wj at *
       clear hxd hHeld hc hd hd2 hd3 hd4 hp
       go_wp2
       go_roundw
       case rel => exact ⟨k + 1, by omega, by go_num, HXJ.out, Lib.hid fun j hj => by
        rcases Nat.lt_or_ge j k with h | h
        ·exact HO.out j h
        ·obtain rfl : j = k := by omega
         exact HT.out⟩
       case measure => simp [intOf]; omega
     ·have hd3 : decide (0 < k) = false := by simpa using h3
      have HT : Hid (okAt l k = true) := Lib.hid (by rw [HE.out]; simp; omega)
      clear hp HP h1 h2 h3
      go_wp2_with fail
      refine wp_region_phase (S := fun w' => Ext w w') 27 (by kernel_rfl) (by kernel_rfl) ?_ (fun hHeld => ?_)
      ·exact hxd
      simp only [List.drop_succ_cons, List.drop_zero]
      refine name_head ?_
      intro wr0 hw0
      rw [hw0] at hHeld
      refine wt 0 _ ?_
      simp only [red, Act.put]
      refine wt 1 _ ?_
      simp only [red, Act.put]
      refine wt 2 _ ?_
      simp only [red, Act.put]
      refine wt 3 _ ?_
      simp only [red, Act.put]
      refine wt 4 _ ?_
      simp only [red, Act.put]
      refine wt 5 _ ?_
      simp only [red, Act.put]
      refine wt 6 _ ?_
      simp only [red, Act.put]
      refine wt 7 _ ?_
      simp only [red, Act.put]
      refine wt 8 _ ?_
      simp only [red, Act.put]
      refine wt 9 _ ?_
      simp only [red, Act.put]
      refine wt 10 _ ?_
      simp only [red, Act.put]
      refine wt 11 _ ?_
      simp only [red, Act.put]
      refine wt 12 _ ?_
      simp only [red, Act.put]
      refine wt 13 _ ?_
      simp only [red, Act.put]
      refine wt 14 _ ?_
      simp only [red, Act.put]
      refine wt 15 _ ?_
      simp only [red, Act.put]
      refine ws 16 ?_
      simp only [red, Act.put]
      refine ws 17 ?_
      simp only [red, Act.put]
      refine ws 18 ?_
      simp only [red, Act.put]
      refine ws 19 ?_
      simp only [red, Act.put]
      refine ws 20 ?_
      simp only [red, Act.put]
      refine ws 21 ?_
      simp only [red, Act.put]
      refine ws 22 ?_
      simp only [red, Act.put]
      refine ws 23 ?_
      simp only [red, Act.put]
      refine ws 24 ?_
      simp only [red, Act.put]
      refine ws 25 ?_
      simp only [red, Act.put]
      refine wt 26 _ ?_
      simp only [red, Act.put]
      refine wpHead_done (by kernel_rfl) ?_
      have HXJ := Lib.hid hHeld
      generalize wr0 = wj at *
      clear hxd hHeld hc hd hd2 hd3
      go_wp2
      go_roundw
      case rel => exact ⟨k + 1, by omega, by go_num, HXJ.out, Lib.hid fun j hj => by
       rcases Nat.lt_or_ge j k with h | h
       ·exact HO.out j h
       ·obtain rfl : j = k := by omega
        exact HT.out⟩
      case measure => simp [intOf]; omega
  ·have hlt2 : ¬ (k : Int) < (l.length : Int) := by omega
   obtain rfl : k = l.length := by omega
   have HR : Hid (rightF l = true) := Lib.hid (by
    have : (List.range l.length).all (okAt l) = true := List.all_eq_true.2 fun j hj => HO.out j (by simpa using hj)
    unfold rightF
    rw [this, Bool.and_true]
    cases l with
    | nil => simp at h0
    | cons x l => simp)
   clear hb
   go_wp2
   go_ret
   exact ⟨ret_bool HR.out.symm, hx⟩
end Go.Proofs.Ytijopcdjlpafdaa
