/- The walks of the law's do, todos and play. Conditions: the hypotheses of each theorem. -/
import Derived.Test.YtijopcdjlpafdaaC2
import Derived.Test.YtijopcdjlpafdaaCoP5M
namespace Go.Proofs.Ytijopcdjlpafdaa
open Go.RowKit
theorem old_slM {w0 w : World} {A : Option Addr} {xs : List Value} {M : List Nat} (h : Sl w0 A xs) (hx : Ext w0 w) (hM : ∀ k ∈ M, w0.heap.size ≤ k) : SlM M w A xs := fun k v hk => by
 obtain ⟨ad, e, hc⟩ := h k v hk
 refine ⟨ad, e, fun hm => ?_, hx.cell hc⟩
 have := World.block_lt_of_cell? w0 _ hc
 rw [addr_add_block] at this
 have := hM _ hm
 omega
/-- a call of the script, as it stands in old memory -/
def OldC (w0 : World) (d : Cl) (A1 : Option Addr) (A2 : Option Addr) (c2 : Nat) : Prop :=
 Sl w0 A1 (ib d.shards) ∧ Bs w0 A2 d.bytes ∧ d.shards.length ≤ 140737488355328 ∧ d.bytes.length ≤ 140737488351232 ∧ d.bytes.length ≤ c2 ∧ d.which < 256
theorem RsM.clO {w : World} {A : Option Addr} {l : List Cl} (h : RsM RCl 9 [] w A l) {k : Nat} (hk : k < l.length) :
 ∃ ad A1 c1 A2 c2, A = some ad ∧ OldC w l[k] A1 A2 c2 ∧ ∀ W, Ext w W → ∀ j v, (clC l[k] A1 c1 A2 c2)[j]? = some v → W.cell? ((ad.add (k * 9)).add j) = some v := by
 obtain ⟨ad, cs, e, _, _, hcell, A1, c1, A2, c2, rfl, h1, h2, h3, h4, h5, h6⟩ := h.at_ (by omega) hk
 exact ⟨ad, A1, c1, A2, c2, e, ⟨h1.sl, BsM.bs h2, h3, h4, h5, h6⟩, fun W hx j v hj => hx.cell (by rw [add_addB]; exact hcell j v hj)⟩
theorem OldC.ext {w0 w : World} {d : Cl} {A1 A2 : Option Addr} {c2 : Nat} (h : OldC w0 d A1 A2 c2) (hx : Ext w0 w) : OldC w d A1 A2 c2 := ⟨h.1.ext hx, h.2.1.ext hx, h.2.2⟩
section
variable {E B : List Nat} {w0 w : World} {P p q n : Nat} {tv : Value} {s : Cs} {txs : List TxI}
theorem do_any (h : PM E B w0 w P p q tv s txs n) (hE : ∀ k ∈ E, w0.heap.size ≤ k) (hn : n ≤ 900) (d : Cl) (A1 : Option Addr) (c1 : Nat) (A2 : Option Addr) (c2 : Nat) (htn : txs.length ≤ 1000000) (hO : OldC w0 d A1 A2 c2) :
 Calls Try.prog 18 #[pt P, .agg (clC d A1 c1 A2 c2).toArray] w (DidP E B w0 w P p q s txs n d) := by
 obtain ⟨h1, h2, h3, h4, h5, h6⟩ := hO
 have hEB : ∀ k ∈ E ++ B, w0.heap.size ≤ k := fun k hk => (List.mem_append.1 hk).elim (hE k) (h.ge k)
 by_cases d0 : d.do_ = 0
 ·exact do_boot h hn d A1 c1 A2 c2 h6 htn d0
 by_cases d1 : d.do_ = 1
 ·exact do_begin h d A1 c1 A2 c2 h6 htn (old_slM h1 h.ex hEB) h3 d1
 by_cases d2 : d.do_ = 2
 ·exact do_yes h hn d A1 c1 A2 c2 h6 htn d2
 by_cases d3 : d.do_ = 3
 ·exact do_no h hn d A1 c1 A2 c2 h6 htn d3
 by_cases d4 : d.do_ = 4
 ·exact do_drop h hn d A1 c1 A2 c2 h6 htn d4
 by_cases d5 : d.do_ = 5
 ·exact do_ack h hn d A1 c1 A2 c2 h6 htn d5
 by_cases d6 : d.do_ = 6
 ·exact do_redo h hn d A1 c1 A2 c2 h6 htn (old_slM h2 h.ex h.ge) h5 h4 d6
 ·exact do_ask h d A1 c1 A2 c2 h6 htn ⟨d0, d1, d2, d3, d4, d5, d6⟩
theorem doS_len (s : Cs) (txs : List TxI) (d : Cl) : (doS s txs d).2.length ≤ txs.length + 1 := by
 unfold doS
 repeat' split
 all_goals simp
end
theorem td_at {w : World} {A : Option Addr} {l : List (TxI × Int × Int)} (h : Sl w A (l.flatMap tdC)) {k : Nat} (hk : k < l.length) : ∃ ad, A = some ad ∧ ∀ W, Ext w W → ∀ j v, (tdC l[k])[j]? = some v → W.cell? ((ad.add (k * 5)).add j) = some v := by
 have e : l.flatMap tdC = (l.map tdC).flatten := by rw [List.flatMap_def]
 rw [e] at h
 have hg := fun j (hj : j < 5) => flatten_get (css := l.map tdC) (s := 5) (by intro cs hc; obtain ⟨t, _, rfl⟩ := List.mem_map.1 hc; rfl) k j (tdC l[k]) (by simp [hk]) hj
 obtain ⟨ad, e1, _⟩ := h (k * 5 + 0) _ (by rw [hg 0 (by omega)]; rfl)
 subst e1
 refine ⟨ad, rfl, fun W hx j v hj => ?_⟩
 have hj5 : j < 5 := (List.getElem?_eq_some_iff.1 hj).1
 obtain ⟨ad', e', hc⟩ := h (k * 5 + j) v (by rw [hg j hj5]; exact hj)
 cases e'
 rw [add_addB]
 exact hx.cell hc
set_option maxRecDepth 20000 in
set_option maxHeartbeats 2000000 in
theorem todos_same (w : World) (A B : Option Addr) (ca cb : Nat) (l : List (TxI × Int × Int)) (h1 : Sl w A (l.flatMap tdC)) (h2 : Sl w B (l.flatMap tdC)) (hl : l.length ≤ 1000000) :
 Calls Try.prog 24 #[.slice A l.length ca, .slice B l.length cb] w fun e w' => e = .returned (.bool true) ∧ Ext w w' := by
 have H1 := Lib.hid h1
 have H2 := Lib.hid h2
 have hne : ((l.length : Int) != (l.length : Int)) = false := by simp
 clear h1 h2
 go_enter Try.func24, Try.ntmps24
 go_wp2
 go_loopw [5] (fun iv wr => ∃ k : Nat, iv = .int .i64 k ∧ k ≤ l.length ∧ Ext w wr) (fun iv _ => l.length - (intOf iv).toNat)
 case atStart => exact ⟨0, rfl, by omega, Ext.refl _⟩
 case round =>
  obtain ⟨k, rfl, hk, hx⟩ := hrel
  by_cases hlt : k < l.length
  ·have hlt2 : (k : Int) < (l.length : Int) := by omega
   obtain ⟨ad, rfl, hc1⟩ := td_at H1.out hlt
   obtain ⟨bd, rfl, hc2⟩ := td_at H2.out hlt
   have hxd := hx.drew
   generalize l[k] = x at *
   clear hx
   go_wp2_with fail
   refine wp_region_phase (S := fun w' => Ext w w') 8 (by kernel_rfl) (by kernel_rfl) ?_ (fun hHeld => ?_)
   ·exact hxd
   simp only [List.drop_succ_cons, List.drop_zero]
   refine name_head ?_
   intro wr0 hw0
   rw [hw0] at hHeld
   refine wt 0 _ ?_
   simp only [red, Act.put]
   refine wt 1 _ ?_
   simp only [red, Act.put]
   refine wt 2 _ ?_
   simp only [red, Act.put]
   refine wy 3 (v := .agg #[.int .i64 x.1.node, .int .i64 x.1.boot, .int .i64 x.1.n, .int .i64 x.2.1, .int .i64 x.2.2]) (by rfl) (by exact yieldsIf_load_elem (by rfl) 96 _ rfl (ad.add (k * 5)) rfl (tdC x) _ (fun w' hx => hc1 w' hx) Try.underlying96 rfl (by kernel_rfl)) ?_
   simp only [red, Act.put]
   refine wt 4 _ ?_
   simp only [red, Act.put]
   refine wt 5 _ ?_
   simp only [red, Act.put]
   refine wt 6 _ ?_
   simp only [red, Act.put]
   refine wy 7 (v := .agg #[.int .i64 x.1.node, .int .i64 x.1.boot, .int .i64 x.1.n, .int .i64 x.2.1, .int .i64 x.2.2]) (by rfl) (by exact yieldsIf_load_elem (by rfl) 96 _ rfl (bd.add (k * 5)) rfl (tdC x) _ (fun w' hx => hc2 w' hx) Try.underlying96 rfl (by kernel_rfl)) ?_
   simp only [red, Act.put]
   refine wpHead_done (by kernel_rfl) ?_
   have HXJ := Lib.hid hHeld
   generalize wr0 = wj at *
   clear hxd hHeld hc1 hc2
   go_wp2
   go_roundw
   case rel => exact ⟨k + 1, by go_num, by omega, HXJ.out⟩
   case measure => simp [intOf]; omega
  ·have hlt2 : ¬ (k : Int) < (l.length : Int) := by omega
   go_wp2
   go_ret
   exact ⟨rfl, hx⟩
/-- old memory stands, and the pair's pointers -/
def SP (w : World) (P p q : Nat) (W : World) : Prop := Ext w W ∧ W.cell? ⟨P, 0, none⟩ = some (.pointer (some ⟨p, 0, none⟩)) ∧ W.cell? ⟨P, 1, none⟩ = some (.pointer (some ⟨q, 0, none⟩))
theorem SP.ext {w W W' : World} {P p q : Nat} (h : SP w P p q W) (hx : Ext W W') : SP w P p q W' := ⟨h.1.trans hx, hx.cell h.2.1, hx.cell h.2.2⟩
theorem PM.sp {E B : List Nat} {w0 w : World} {P p q n : Nat} {tv : Value} {s : Cs} {txs : List TxI} (h : PM E B w0 w P p q tv s txs n) : SP w0 P p q w := by
 obtain ⟨R0, R1, _⟩ := row3_at h.row
 exact ⟨h.ex, R0, R1⟩
theorem todo_len {s : Cs} (h : s.Ok) : (todoF s).length ≤ 100 := by
 have := flatT_len s.under (fun t ht => (rightF_len (h.rows t ht).right).2)
 have h8 := h.few
 unfold todoF
 omega
theorem snap_len {s : Cs} (h : s.Ok) : (snapF s).length ≤ 100 := by
 unfold snapF
 split
 ·simp
 ·have := List.length_filter_le (fun t : Tr => t.done) s.under
  have := h.few
  simp
  omega
theorem same_snap (w : World) (A B : Option Addr) (ca cb : Nat) (ls : List By) (hA : BsS w A ls) (hB : BsS w B ls) (hl : ls.length ≤ 100) :
 Calls Try.prog 21 #[.slice A ls.length ca, .slice B ls.length cb] w fun e w' => e = .returned (.bool true) ∧ Ext w w' :=
 (RSame_any A B ca cb ls.length ls.length ls ls w hA hB rfl rfl (by omega)).mono fun _ _ ⟨h1, h2⟩ => ⟨by rw [h1]; simp, h2⟩
set_option maxRecDepth 20000 in
set_option maxHeartbeats 4000000 in
theorem play_any (node : Int) (l : List Cl) (A : Option Addr) (c : Nat) (w : World) (h0 : 0 ≤ node) (h255 : node ≤ 255) (hl : RsM RCl 9 [] w A l) :
 Calls Try.prog 22 #[.int .i64 node, .slice A l.length c] w fun e w' => ∃ P p q B tv s txs, e = .returned (.tuple #[.pointer (some ⟨P, 0, none⟩), .bool true]) ∧ PM [] B w w' P p q tv s txs 120 ∧ txs.length ≤ 120 := by
 have HLS := Lib.hid hl
 obtain ⟨wa, hwa⟩ : ∃ wa, wa = w.alloc (.cells #[.pointer none, .pointer none, .slice none 0 0] 55) := ⟨_, rfl⟩
 have hxa : Ext w wa := by rw [hwa]; exact (Ext.refl w).alloc _
 have hrow : wa.heap[w.heap.size]? = some (.cells #[.pointer none, .pointer none, .slice none 0 0] 55 (0, 0)) := by rw [hwa]; exact heap_alloc_new w _
 have HN := CNew_any node wa h0 h255
 unfold pt at HN
 have hwaA := hwa.symm
 have HROW := Lib.hid hrow
 have HZ := Lib.hid (obj_lt hrow)
 clear hwa hrow hl
 go_enter Try.func22, Try.ntmps22
 go_wp2_with fail
 clear hwaA
 generalize hPP : w.heap.size = P at *
 have HPP := Lib.hid hPP
 clear hPP
 refine HN.mono ?_
 rintro e w1 ⟨rfl, hx1, hz1, hco1⟩
 generalize hpp : wa.heap.size = p at *
 have HPp := Lib.hid (show P < p from HZ.out)
 have HPW := Lib.hid (Nat.le_of_eq hpp)
 clear hpp HZ
 have hr1 := hx1.obj HROW.out
 obtain ⟨R0, R1, R2, RF⟩ := row3_at hr1
 have hk2 : Kept [P] w1 (w1.setCell ⟨P, 0, none⟩ (.pointer (some ⟨p, 0, none⟩))) := (Kept.refl _ _).setCell (.inl (by simp)) _
 have hset2 : (w1.setCell ⟨P, 0, none⟩ (.pointer (some ⟨p, 0, none⟩))).heap[P]? = some (.cells #[.pointer (some ⟨p, 0, none⟩), .pointer none, .slice none 0 0] 55 (0, 0)) := by simpa using heap_setCell_same w1 P 0 _ _ (.pointer (some ⟨p, 0, none⟩)) hr1
 have HX1 := Lib.hid (hxa.trans hx1)
 have HCO1 := Lib.hid hco1
 have HK2 := Lib.hid hk2
 have HS2 := Lib.hid hset2
 have HZ1 := Lib.hid hz1
 clear hr1 hx1 hz1 hco1 hk2 hset2 hxa HN HROW
 go_wp2_with fail
 have HZ2 : Hid ((w1.setCell ⟨P, 0, none⟩ (.pointer (some ⟨p, 0, none⟩))).heap.size = w1.heap.size) := Lib.hid (by simp [World.setCell])
 generalize w1.setCell ⟨P, 0, none⟩ (.pointer (some ⟨p, 0, none⟩)) = w2 at *
 clear R0 R1 R2 RF
 have HN2 := RNew_any node w2 h0 h255
 unfold pt at HN2
 refine HN2.mono ?_
 rintro e w3 ⟨rfl, hx3, hz3, hrc3⟩
 generalize hqq : w2.heap.size = q at *
 have HPQ : Hid (p < q) := Lib.hid (by have := HZ1.out; have := HZ2.out; omega)
 have HQW := Lib.hid (Nat.le_of_eq hqq)
 clear hqq HN2
 have hr3 := hx3.obj HS2.out
 obtain ⟨R0, R1, R2, RF⟩ := row3_at hr3
 have hk4 : Kept [P] w3 (w3.setCell ⟨P, 1, none⟩ (.pointer (some ⟨q, 0, none⟩))) := (Kept.refl _ _).setCell (.inl (by simp)) _
 have hset4 : (w3.setCell ⟨P, 1, none⟩ (.pointer (some ⟨q, 0, none⟩))).heap[P]? = some (.cells #[.pointer (some ⟨p, 0, none⟩), .pointer (some ⟨q, 0, none⟩), .slice none 0 0] 55 (0, 0)) := by simpa using heap_setCell_same w3 P 1 _ _ (.pointer (some ⟨q, 0, none⟩)) hr3
 have hPM : PM [] [P, p, q] w (w3.setCell ⟨P, 1, none⟩ (.pointer (some ⟨q, 0, none⟩))) P p q (.slice none 0 0) ⟨node, 0, 1, []⟩ [] 0 := by
  have a1 := HPp.out
  have a2 := HPQ.out
  have a3 := HPP.out
  have hge : ∀ k ∈ [P], w.heap.size ≤ k := by intro k hk; simp at hk; omega
  have hs : ∀ k ∈ [P], k ∈ [P, p, q] := by simp
  refine ⟨((HX1.out.kept HK2.out hge).trans hx3).kept hk4 hge, hset4, (((HCO1.out [P, p, q]).kept HK2.out (by simp; omega) hs).ext hx3).kept hk4 (by simp; omega) hs, (hrc3 [P, p, q]).kept hk4 (by simp; omega) hs, by simp, by simp, by simp, by simp [Value.ownBlock], fun k hk => ?_, fun k hk => ?_, by simp, World.ownsRow_nil _ _ _ _, ok_new node, by intro t ht; simp at ht⟩
  ·have := hk4.size
   simp only [List.nil_append, List.mem_cons, List.not_mem_nil, or_false] at hk
   rcases hk with rfl | rfl | rfl <;> omega
  ·simp only [List.mem_cons, List.not_mem_nil, or_false] at hk
   rcases hk with rfl | rfl | rfl <;> omega
 have HPM0 := Lib.hid hPM
 clear hk4 hset4 hPM hr3 hx3 hz3 hrc3 HCO1 HK2 HS2 HX1
 go_wp2_with fail
 generalize w3.setCell ⟨P, 1, none⟩ (.pointer (some ⟨q, 0, none⟩)) = w4 at *
 have hsp := HPM0.out.sp
 have F0 : ∀ W, SP w P p q W → W.cell? ⟨P, 0, none⟩ = some (.pointer (some ⟨p, 0, none⟩)) := fun W h => h.2.1
 have F1 : ∀ W, SP w P p q W → W.cell? ⟨P, 1, none⟩ = some (.pointer (some ⟨q, 0, none⟩)) := fun W h => h.2.2
 clear R0 R1 R2 RF
 refine wp_region_phase (S := fun w' => SP w P p q w') 15 (by kernel_rfl) (by kernel_rfl) ?_ (fun hHeld => ?_)
 ·exact hsp.ext (Ext.refl _).drew
 simp only [List.drop_succ_cons, List.drop_zero]
 refine name_head ?_
 intro wr0 hw0
 rw [hw0] at hHeld
 have hx40 : Ext w4 wr0 := hw0 ▸ (Ext.refl w4).drew
 refine wt 0 _ ?_
 simp only [red, Act.put]
 refine wt 1 _ ?_
 simp only [red, Act.put]
 refine wt 2 _ ?_
 simp only [red, Act.put]
 refine wt 3 _ ?_
 simp only [red, Act.put]
 refine wt 4 _ ?_
 simp only [red, Act.put]
 refine wt 5 _ ?_
 simp only [red, Act.put]
 refine wt 6 _ ?_
 simp only [red, Act.put]
 refine wt 7 _ ?_
 simp only [red, Act.put]
 refine wt 8 _ ?_
 simp only [red, Act.put]
 refine wt 9 _ ?_
 simp only [red, Act.put]
 refine wt 10 _ ?_
 simp only [red, Act.put]
 refine wt 11 _ ?_
 simp only [red, Act.put]
 refine wt 12 _ ?_
 simp only [red, Act.put]
 refine wt 13 _ ?_
 simp only [red, Act.put]
 refine wt 14 _ ?_
 simp only [red, Act.put]
 refine wpHead_done (by kernel_rfl) ?_
 have HPM := Lib.hid (HPM0.out.ext hx40)
 clear hHeld hsp hx40 hw0 F0 F1 HPM0
 generalize wr0 = w5 at *
 go_wp2
 go_loopw [9] (fun iv wr => ∃ (i : Nat) (B : List Nat) (tv : Value) (s : Cs) (txs : List TxI), iv = .int .i64 i ∧ i ≤ l.length ∧ i ≤ 120 ∧ Hid (PM [] B w wr P p q tv s txs i) ∧ txs.length ≤ i) (fun iv _ => l.length - (intOf iv).toNat)
 case atStart => exact ⟨0, _, _, _, _, rfl, by omega, by omega, HPM, by simp⟩
 case round =>
  obtain ⟨i, B, tv, s, txs, rfl, hil, hi, HPM2, htl⟩ := hrel
  clear HPM
  have hsp := HPM2.out.sp
  have F0 : ∀ W, SP w P p q W → W.cell? ⟨P, 0, none⟩ = some (.pointer (some ⟨p, 0, none⟩)) := fun W h => h.2.1
  have F1 : ∀ W, SP w P p q W → W.cell? ⟨P, 1, none⟩ = some (.pointer (some ⟨q, 0, none⟩)) := fun W h => h.2.2
  have f0 := F0 _ hsp
  by_cases hlt : i < l.length ∧ i < 120
  ·obtain ⟨hlt, hlt120⟩ := hlt
   have q1 : (i : Int) < (l.length : Int) := by omega
   have q2 : (i : Int) < 120 := by omega
   obtain ⟨ad, A1, c1, A2, c2, rfl, hO, hcl⟩ := HLS.out.clO hlt
   have hcs : ∀ W, SP w P p q W → ∀ j v, (clC l[i] A1 c1 A2 c2)[j]? = some v → W.cell? ((ad.add (i * 9)).add j) = some v := fun W h => hcl W h.1
   have HO := Lib.hid hO
   have hdl := doS_len s txs l[i]
   have hi1000 : i < 1000 := by omega
   generalize l[i] = d at *
   clear hO hcl
   have hpmd := HPM2.out.ext (Ext.refl wr).drew
   go_wp2_with fail
   clear f0
   refine wp_region_phase (S := fun w' => SP w P p q w') 20 (by kernel_rfl) (by kernel_rfl) ?_ (fun hHeld => ?_)
   ·exact hsp.ext (Ext.refl _).drew
   simp only [List.drop_succ_cons, List.drop_zero]
   refine name_head ?_
   intro wr0 hw0
   rw [hw0] at hHeld
   have hpm := hw0 ▸ hpmd
   refine wt 0 _ ?_
   simp only [red, Act.put]
   refine wt 1 _ ?_
   simp only [red, Act.put]
   refine wt 2 _ ?_
   simp only [red, Act.put]
   refine wt 3 _ ?_
   simp only [red, Act.put]
   refine wy 4 (v := .agg (clC d A1 c1 A2 c2).toArray) (by rfl) (by exact yieldsIf_load_elem (by rfl) 37 _ rfl (ad.add (i * 9)) rfl (clC d A1 c1 A2 c2) _ (fun w' hx => hcs w' hx) Try.underlying37 rfl (by kernel_rfl)) ?_
   simp only [red, Act.put]
   refine rd [5] ?_
   refine ac (fun K hK => ?_) ?_
   ·refine step_callG (by rfl) (by kernel_rfl) (do_any hpm (by simp) (by omega) d A1 c1 A2 c2 (by omega) HO.out) ?_
    rintro e wr5 ⟨rfl, B5, tv5, hpm5, hpt5⟩
    refine ⟨_, rfl, ?_⟩
    refine hK.out _ _ ?_ (fun hHeld => ?_)
    ·exact hpm5.sp
    clear hK K
    try simp only [red, Act.put]
    refine wt 6 _ ?_
    simp only [red, Act.put]
    refine wt 7 _ ?_
    simp only [red, Act.put]
    refine wt 8 _ ?_
    simp only [red, Act.put]
    refine wt 9 _ ?_
    simp only [red, Act.put]
    refine wt 10 _ ?_
    simp only [red, Act.put]
    refine wt 11 _ ?_
    simp only [red, Act.put]
    refine wt 13 _ ?_
    simp only [red, Act.put]
    refine wt 14 _ ?_
    simp only [red, Act.put]
    refine wt 15 _ ?_
    simp only [red, Act.put]
    refine wt 16 _ ?_
    simp only [red, Act.put]
    refine rd [12] ?_
    refine ac (fun K hK => ?_) ?_
    ·refine step_callG (by rfl) (by kernel_rfl) (CTodo_any hpm5.co hpm5.ok) ?_
     rintro e wr12 ⟨v12, rfl, ho12, hx12⟩
     obtain ⟨A12, c12, rfl⟩ := own_form ho12
     have hpm12 := hpm5.ext hx12
     refine ⟨_, rfl, ?_⟩
     refine hK.out _ _ ?_ (fun hHeld => ?_)
     ·exact hHeld.ext hx12
     clear hK K
     try simp only [red, Act.put]
     refine rd [17] ?_
     refine ac (fun K hK => ?_) ?_
     ·refine step_callG (by rfl) (by kernel_rfl) (RTodo_any hpm12.rc hpm12.ok (hpm12.few.mono (by omega))) ?_
      rintro e wr17 ⟨v17, rfl, ho17, hx17⟩
      obtain ⟨A17, c17, rfl⟩ := own_form ho17
      have hpm17 := hpm12.ext hx17
      refine ⟨_, rfl, ?_⟩
      refine hK.out _ _ ?_ (fun hHeld => ?_)
      ·exact hHeld.ext hx17
      clear hK K
      try simp only [red, Act.put]
      refine rd [18] ?_
      refine ac (fun K hK => ?_) ?_
      ·refine step_callG (by rfl) (by kernel_rfl) (todos_same _ A12 A17 c12 c17 _ (Sl.own (owns_ext ho12 hx17) rfl) (Sl.own ho17 rfl) (by have := todo_len hpm17.ok; omega)) ?_
       rintro e wr18 ⟨rfl, hx18⟩
       have hpm18 := hpm17.ext hx18
       refine ⟨_, rfl, ?_⟩
       refine hK.out _ _ ?_ (fun hHeld => ?_)
       ·exact hHeld.ext hx18
       clear hK K
       try simp only [red, Act.put]
       refine wt 19 _ ?_
       simp only [red, Act.put]
       refine wpHead_done (by kernel_rfl) ?_
       have HPM9 := Lib.hid hpm18
       generalize wr18 = w9 at *
       clear hHeld hpm18 hpm17 hpm12 hpm5 hpm hpt5 ho12 ho17 hx12 hx17 hx18 hsp F0 F1 hcs hw0
       go_wp2
       go_roundw
       case rel => exact ⟨i + 1, _, _, _, _, by go_num, by omega, by omega, HPM9, by omega⟩
       case measure => simp [intOf]; omega
      exact AllHead.nil
     exact AllHead.nil
    exact AllHead.nil
   exact AllHead.nil
  ·have hor : ¬ (i : Int) < (l.length : Int) ∨ ((i : Int) < (l.length : Int) ∧ ¬ (i : Int) < 120) := by omega
   clear hlt
   have hpmd := HPM2.out.ext (Ext.refl wr).drew
   have hm : PM [] B w wr P p q tv s txs 120 := HPM2.out.mono hi
   have HTL := Lib.hid (show txs.length ≤ 120 by omega)
   clear hm
   rcases hor with q1 | ⟨q1, q2⟩
   all_goals
    go_wp2_with fail
    clear f0
    refine wp_region_phase (S := fun w' => SP w P p q w') 20 (by kernel_rfl) (by kernel_rfl) ?_ (fun hHeld => ?_)
    ·exact hsp.ext (Ext.refl _).drew
    simp only [List.drop_succ_cons, List.drop_zero]
    refine name_head ?_
    intro wr0 hw0
    rw [hw0] at hHeld
    have hpm := hw0 ▸ hpmd
    refine wt 0 _ ?_
    simp only [red, Act.put]
    refine wt 1 _ ?_
    simp only [red, Act.put]
    refine wt 2 _ ?_
    simp only [red, Act.put]
    refine wt 3 _ ?_
    simp only [red, Act.put]
    refine wt 4 _ ?_
    simp only [red, Act.put]
    refine wt 5 _ ?_
    simp only [red, Act.put]
    refine wt 6 _ ?_
    simp only [red, Act.put]
    refine wt 7 _ ?_
    simp only [red, Act.put]
    refine wt 8 _ ?_
    simp only [red, Act.put]
    refine wt 9 _ ?_
    simp only [red, Act.put]
    refine wt 10 _ ?_
    simp only [red, Act.put]
    refine wt 12 _ ?_
    simp only [red, Act.put]
    refine wt 13 _ ?_
    simp only [red, Act.put]
    refine wt 14 _ ?_
    simp only [red, Act.put]
    refine wt 15 _ ?_
    simp only [red, Act.put]
    refine rd [11] ?_
    refine ac (fun K hK => ?_) ?_
    ·refine step_callG (by rfl) (by kernel_rfl) (CSnap_any hpm.co hpm.ok) ?_
     rintro e wr11 ⟨v11, rfl, ho11, hx11⟩
     obtain ⟨A11, c11, rfl⟩ := ho11.form
     have hpm11 := hpm.ext hx11
     refine ⟨_, rfl, ?_⟩
     refine hK.out _ _ ?_ (fun hHeld => ?_)
     ·exact hHeld.ext hx11
     clear hK K
     try simp only [red, Act.put]
     refine rd [16] ?_
     refine ac (fun K hK => ?_) ?_
     ·refine step_callG (by rfl) (by kernel_rfl) (RSnap_any hpm11.rc hpm11.ok) ?_
      rintro e wr16 ⟨v16, rfl, ho16, hx16⟩
      obtain ⟨A16, c16, rfl⟩ := ho16.form
      have hpm16 := hpm11.ext hx16
      refine ⟨_, rfl, ?_⟩
      refine hK.out _ _ ?_ (fun hHeld => ?_)
      ·exact hHeld.ext hx16
      clear hK K
      try simp only [red, Act.put]
      refine rd [17] ?_
      refine ac (fun K hK => ?_) ?_
      ·refine step_callG (by rfl) (by kernel_rfl) (same_snap wr16 A11 A16 c11 c16 _ (ho11.ext hx16).bss ho16.bss (snap_len hpm16.ok)) ?_
       rintro e wr17 ⟨rfl, hx17⟩
       have hpm17 := hpm16.ext hx17
       refine ⟨_, rfl, ?_⟩
       refine hK.out _ _ ?_ (fun hHeld => ?_)
       ·exact hHeld.ext hx17
       clear hK K
       try simp only [red, Act.put]
       refine wt 18 _ ?_
       simp only [red, Act.put]
       refine wt 19 _ ?_
       simp only [red, Act.put]
       refine wpHead_done (by kernel_rfl) ?_
       have HPM9 := Lib.hid (hpm17.mono hi)
       generalize wr17 = w9 at *
       clear hHeld hpm17 hpm16 hpm11 hpm ho11 ho16 hx11 hx16 hx17 hsp F0 F1 hpmd hw0
       go_wp2
       go_ret2
       exact ⟨P, p, q, B, tv, s, txs, rfl, HPM9.out, HTL.out⟩
      exact AllHead.nil
     exact AllHead.nil
    exact AllHead.nil
end Go.Proofs.Ytijopcdjlpafdaa
