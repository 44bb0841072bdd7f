/- The walk of the law CoordAgain: it answers true. Conditions: the script stands in memory. -/
import Derived.Test.YtijopcdjlpafdaaC2
import Derived.Test.YtijopcdjlpafdaaC9
import Derived.Deep.Cut
import Derived.Deep.CutRange
import Derived.Deep.CutBlock
namespace Go.Proofs.Ytijopcdjlpafdaa
open Go.RowKit
theorem QM.start {w w1 w2 w3 w4 w5 : World} {p Y Z P q : Nat} (ep : w.heap.size = p) (eY : w1.heap.size = Y) (eZ : w2.heap.size = Z) (eP : w3.heap.size = P) (eq : w4.heap.size = q)
 (hx1 : Ext w w1) (hz1 : p < Y) (hc1 : ∀ M, Co M w1 p (N0 3)) (hx2 : Ext w1 w2) (hz2 : Y < Z) (hc2 : ∀ M, Co M w2 Y (N0 3)) (hx3 : Ext w2 w3) (hz3 : Z < P) (hc3 : ∀ M, Co M w3 Z (N0 3))
 (hx4 : Ext w3 w4) (hr4 : w4.heap[P]? = some (.cells #[.pointer (some ⟨p, 0, none⟩), .pointer none, .slice none 0 0] 55 (0, 0))) (hx5 : Ext w4 w5) (hz5 : q < w5.heap.size) (hc5 : ∀ M, Rc M w5 q (N0 3)) :
 QM [Y, Z] [P, p, q] w (w5.setCell ⟨P, 1, none⟩ (.pointer (some ⟨q, 0, none⟩))) P p q (.slice none 0 0) (N0 3) [] 0 Y Z (N0 3) (N0 3) := by
 have hr5 := hx5.obj hr4
 have hlt4 := obj_lt hr4
 have hk : Kept [P] w5 (w5.setCell ⟨P, 1, none⟩ (.pointer (some ⟨q, 0, none⟩))) := (Kept.refl _ _).setCell (.inl (by simp)) _
 have hs : (w5.setCell ⟨P, 1, none⟩ (.pointer (some ⟨q, 0, none⟩))).heap[P]? = some (.cells #[.pointer (some ⟨p, 0, none⟩), .pointer (some ⟨q, 0, none⟩), .slice none 0 0] 55 (0, 0)) := by simpa using heap_setCell_same w5 P 1 _ _ (.pointer (some ⟨q, 0, none⟩)) hr5
 have hsz := hk.size
 have x35 := hx4.trans hx5
 have x25 := hx3.trans x35
 have x15 := hx2.trans x25
 have x05 := hx1.trans x15
 have s5 := hx5.size
 generalize w5.setCell ⟨P, 1, none⟩ (.pointer (some ⟨q, 0, none⟩)) = w6 at *
 have hM : ∀ k ∈ [P], k ∈ [Y, Z] ++ [P, p, q] := by simp
 have hge : ∀ k ∈ [P], w.heap.size ≤ k := by intro k hk; simp at hk; omega
 refine ⟨⟨x05.kept hk hge, hs, ((hc1 _).ext x15).kept hk (by simp; omega) hM, (hc5 _).kept hk (by simp; omega) hM, by simp, by simp, by simp, by simp [Value.ownBlock], fun k hk => ?_, fun k hk => ?_, fun k hk => ?_, World.ownsRow_nil _ _ _ _, ok_new 3, by intro t ht; simp [N0] at ht⟩, ((hc2 _).ext x25).kept hk (by simp; omega) hM, ((hc3 _).ext x35).kept hk (by simp; omega) hM, by simp, by simp, by omega, fun k hk => ?_⟩
 ·simp only [List.cons_append, List.nil_append, List.mem_cons, List.not_mem_nil, or_false] at hk
  rcases hk with rfl | rfl | rfl | rfl | rfl <;> omega
 ·simp only [List.mem_cons, List.not_mem_nil, or_false] at hk
  rcases hk with rfl | rfl | rfl <;> omega
 ·simp only [List.mem_cons, List.not_mem_nil, or_false] at hk ⊢
  rcases hk with rfl | rfl <;> omega
 ·simp only [List.mem_cons, List.not_mem_nil, or_false] at hk
  rcases hk with rfl | rfl <;> omega
theorem Ag.start (n : Int) : Ag (N0 n) (N0 n) := ⟨ok_new n, ok_new n, rfl, rfl, fun t ht => absurd ht (by simp [N0]), by simp [N0]⟩
/-- old memory stands, and of what is new all but b -/
def SB (w : World) (b : Nat) (w7 W : World) : Prop := Ext w W ∧ Kept [b] w7 W
theorem SB.ext {w w7 W W' : World} {b : Nat} (h : SB w b w7 W) (hx : Ext W W') : SB w b w7 W' := ⟨h.1.trans hx, h.2.trans (.of_ext hx)⟩
theorem SB.kept {w w7 W W' : World} {b : Nat} (h : SB w b w7 W) (hk : Kept [b] W W') (hb : w.heap.size ≤ b) : SB w b w7 W' := ⟨h.1.kept hk (by simpa using hb), h.2.trans hk⟩
theorem SB.tx {w w7 : World} {b g : Nat} {id : TxI} (hr : w7.heap[g]? = some (.cells (txiC id).toArray 35 (0, 0))) (hg : g ≠ b) : ∀ W, SB w b w7 W → ∀ j v, (txiC id)[j]? = some v → W.cell? ((⟨g, 0, none⟩ : Addr).add j) = some v := fun W h =>
 tx_at (h.2.heap hr (by simpa using hg))
set_option maxRecDepth 20000 in
set_option maxHeartbeats 8000000 in
theorem Again_any (l : List Cl) (A : Option Addr) (c : Nat) (w : World) (hl : RsM RCl 9 [] w A l) :
 Calls Try.prog 5 #[.slice A l.length c] w (Yes w) := by
 have HLS := Lib.hid hl
 have HN := CNew_any 3 w (by omega) (by omega)
 unfold pt at HN
 unfold Yes
 clear hl
 go_enter Try.func5, Try.ntmps5
 go_wp2_with fail
 refine HN.mono ?_
 rintro e w1 ⟨rfl, hx1, hz1, hc1⟩
 generalize hpp : w.heap.size = p at *
 have HN2 := CNew_any 3 w1 (by omega) (by omega)
 unfold pt at HN2
 have E1 := Lib.hid (And.intro hpp (And.intro hx1 (And.intro hz1 hc1)))
 clear HN hpp hx1 hz1 hc1
 go_wp2_with fail
 refine HN2.mono ?_
 rintro e w2 ⟨rfl, hx1, hz1, hc1⟩
 generalize hpp : w1.heap.size = Y at *
 have HN3 := CNew_any 3 w2 (by omega) (by omega)
 unfold pt at HN3
 have E2 := Lib.hid (And.intro hpp (And.intro hx1 (And.intro hz1 hc1)))
 clear HN2 hpp hx1 hz1 hc1
 go_wp2_with fail
 refine HN3.mono ?_
 rintro e w3 ⟨rfl, hx1, hz1, hc1⟩
 generalize hpp : w2.heap.size = Z at *
 have E3 := Lib.hid (And.intro hpp (And.intro hx1 (And.intro hz1 hc1)))
 clear HN3 hpp hx1 hz1 hc1
 obtain ⟨w4, hw4⟩ : ∃ x, x = w3.alloc (.cells #[.pointer (some ⟨p, 0, none⟩), .pointer none, .slice none 0 0] 55) := ⟨_, rfl⟩
 have hx4 : Ext w3 w4 := by rw [hw4]; exact (Ext.refl w3).alloc _
 have hr4 : w4.heap[w3.heap.size]? = some (.cells #[.pointer (some ⟨p, 0, none⟩), .pointer none, .slice none 0 0] 55 (0, 0)) := by rw [hw4]; exact heap_alloc_new w3 _
 have HN4 := RNew_any 3 w4 (by omega) (by omega)
 unfold pt at HN4
 have E4 := Lib.hid (And.intro hx4 hr4)
 have hwaA := hw4.symm
 clear hw4 hx4 hr4
 go_wp2_with fail
 clear hwaA
 generalize hpp : w3.heap.size = P at *
 have E5 := Lib.hid hpp
 clear hpp
 refine HN4.mono ?_
 rintro e w5 ⟨rfl, hx5, hz5, hc5⟩
 generalize hpp : w4.heap.size = q at *
 have hr5 := hx5.obj E4.out.2
 obtain ⟨R0, R1, R2, RF⟩ := row3_at hr5
 have HQ0 := Lib.hid (QM.start E1.out.1 E2.out.1 E3.out.1 E5.out hpp E1.out.2.1 E1.out.2.2.1 E1.out.2.2.2 E2.out.2.1 E2.out.2.2.1 E2.out.2.2.2 E3.out.2.1 E3.out.2.2.1 E3.out.2.2.2 E4.out.1 E4.out.2 hx5 hz5 hc5)
 have HA0 := Lib.hid (Ag.start 3)
 clear HN4 hpp hx5 hz5 hc5 E1 E2 E3 E4 E5 hr5
 go_wp2
 generalize w5.setCell ⟨P, 1, none⟩ (.pointer (some ⟨q, 0, none⟩)) = w6 at *
 clear R0 R1 R2 RF
 go_loopw [10] (fun iv wr => ∃ (i : Nat) (B : List Nat) (tv : Value) (s : Cs) (txs : List TxI) (y : Cs), iv = .int .i64 i ∧ i ≤ l.length ∧ i ≤ 120 ∧ Hid (QM [Y, Z] B w wr P p q tv s txs i Y Z y (N0 3)) ∧ Hid (Ag s y) ∧ txs.length ≤ i ∧ Hid (s.node = 3)) (fun iv _ => l.length - (intOf iv).toNat)
 case atStart => exact ⟨0, _, _, _, _, _, rfl, by omega, by omega, HQ0, HA0, by simp, Lib.hid rfl⟩
 case round =>
  obtain ⟨i, B, tv, s, txs, y, rfl, hil, hi, HQ, HA, htl, HNODE⟩ := hrel
  clear HQ0 HA0
  by_cases hlt : i < l.length ∧ i < 120
  ·obtain ⟨hlt, hlt120⟩ := hlt
   have q1 : (i : Int) < (l.length : Int) := by omega
   have q2 : (i : Int) < 120 := by omega
   obtain ⟨ad, A1, c1, A2, c2, rfl, hO, hcl⟩ := HLS.out.clO hlt
   have HO := Lib.hid hO
   have HCL := Lib.hid hcl
   have hdl := doS_len s txs l[i]
   generalize l[i] = d at *
   clear hO
   have K0 : ∀ W, Ext w W → W.cell? (ad.add (i * 9)) = some (.int .i64 d.do_) := fun W hx => by have := hcl W hx 0 _ rfl; rwa [add_addB, Nat.add_zero] at this
   clear hcl
   by_cases h6 : d.do_ = 6
   ·as_aux_lemma =>
    have q6 : (d.do_ == 6) = true := by simpa using h6
    have k0 := K0 wr HQ.out.pm.ex
    have HQ9 := Lib.hid (HQ.out.mono (Nat.le_succ i))
    clear h6 K0
    go_wp2_with fail
    go_roundw
    case rel => exact ⟨i + 1, _, _, _, _, _, by go_num, by omega, by omega, HQ9, HA, by omega, HNODE⟩
    case measure => simp [intOf]; omega
   ·as_aux_lemma =>
    have q6 : (d.do_ == 6) = false := by simpa using h6
    have HAG := Lib.hid (HA.out.step txs d h6)
    have HLEN := Lib.hid (recS_len HA.out.ok txs d)
    have HND : Hid ((doS s txs d).1.node = 3) := Lib.hid (by rw [doS_node]; exact HNODE.out)
    have HF := CFork_any HQ.out.pm.co HQ.out.pm.lt (by have := HQ.out.pm.ok.few; omega)
    have k0 := K0 wr HQ.out.pm.ex
    have HLTW := Lib.hid (HQ.out.pm.ex.size)
    unfold pt at HF
    clear h6
    go_wp2_with fail
    clear k0
    refine HF.mono ?_
    rintro e w2 ⟨rfl, hx2, hz2, hc2⟩
    have HFM := Lib.hid (HQ.out.fork hx2 hz2 hc2)
    generalize hbb : wr.heap.size = b at *
    clear HF hx2 hz2 hc2 hbb HQ
    have HD := do_any HFM.out.qm.pm (fun k hk => HFM.out.qm.geE k hk) (by omega) d A1 c1 A2 c2 (by omega) HO.out
    unfold pt at HD
    have hx := HFM.out.qm.pm.ex
    go_wp2_with (with_reducible first | refine sL 37 ?_ | refine sL 35 ?_ | refine sA 35 ?_ | refine sS 35 ?_)
    refine go_on (wpList_load_elem rfl 37 _ rfl (ad.add (i * 9)) rfl (clC d A1 c1 A2 c2) _ (HCL.out _ hx) Try.underlying37 rfl (by kernel_rfl) ?_)
    clear hx
    go_wp2_with fail
    refine HD.mono ?_
    rintro e w5 ⟨rfl, B5, tv5, hpm5, hpt5⟩
    have HF5 := Lib.hid (HFM.out.turn hpm5 hpt5)
    clear HD hpm5 hpt5 HFM
    have HT := p_tx HF5.out.qm.pm d A1 c1 A2 c2 HO.out.2.2.2.2.2 (by omega)
    unfold pt at HT
    have hx := HF5.out.qm.pm.ex
    go_wp2_with (with_reducible first | refine sL 37 ?_ | refine sL 35 ?_ | refine sA 35 ?_ | refine sS 35 ?_)
    refine go_on (wpList_load_elem rfl 37 _ rfl (ad.add (i * 9)) rfl (clC d A1 c1 A2 c2) _ (HCL.out _ hx) Try.underlying37 rfl (by kernel_rfl) ?_)
    clear hx
    go_wp2_with fail
    refine HT.mono ?_
    rintro e w6 ⟨rfl, hx6⟩
    clear HT
    go_wp2_with (with_reducible first | refine sL 37 ?_ | refine sL 35 ?_ | refine sA 35 ?_ | refine sS 35 ?_)
    refine go_on (wpList_alloc_ rfl rfl apitx_info ?_)
    go_wp2_with (with_reducible first | refine sL 37 ?_ | refine sL 35 ?_ | refine sA 35 ?_ | refine sS 35 ?_)
    refine go_on (wpList_store_last rfl rfl rfl rfl (apitx_size _ _ _) rfl (by simp [txiC, Value.oneCell']) ?_)
    intro w7 hrow7 hx7 hz7
    have HGB : Hid (w6.heap.size ≠ b) := Lib.hid (by have := HF5.out.qm.pm.lt b HF5.out.bM; have := hx6.size; omega)
    have HF7 := Lib.hid (HF5.out.ext (hx6.trans hx7))
    have HROW := Lib.hid hrow7
    have HLTB : Hid (w.heap.size ≤ b) := Lib.hid (HF5.out.qm.geE b (by simp))
    have k7 := K0 w7 HF7.out.qm.pm.ex
    clear hrow7 hx7 hz7 hx6 HF5
    generalize w6.heap.size = g at *
    go_upto_block 2 with fail
    clear k7
    go_cut [12] from 92 to 131 (fun rv wx => ∃ (A5 : Option Addr) (c5 : Nat), rv = .slice A5 (recS s txs d).length c5 ∧ Hid (QM [Y, Z] B5 w wx P p q tv5 (doS s txs d).1 (doS s txs d).2 (i + 1) Y Z y (N0 3)) ∧ Hid (Bs wx A5 (recS s txs d) ∧ (recS s txs d).length ≤ c5))
    case first =>
     by_cases h0 : d.do_ = 0
     ·as_aux_lemma =>
      have q0 : (d.do_ == 0) = true := by simpa using h0
      have HE : Hid (recS s txs d = (bootO s).1) := Lib.hid (by unfold recS; rw [if_pos h0])
      have HB := CBoot_any HF7.out.bc HA.out.ok
      unfold pt at HB
      clear h0
      go_wp2_with fail
      refine HB.mono ?_
      rintro e w8 ⟨v8, rfl, ho8, hx8⟩
      obtain ⟨A5, c5, rfl⟩ := ho8.form
      have HQ8 := Lib.hid (HF7.out.ext hx8).done
      have HB8 := Lib.hid (And.intro ho8.bs ho8.cap.1)
      rw [← HE.out] at HB8
      clear HB ho8 hx8
      go_wp2_with fail
      go_meet
      exact ⟨A5, c5, by rw [HE.out], HQ8, HB8⟩
     have q0 : (d.do_ == 0) = false := by simpa using h0
     by_cases h23 : d.do_ = 2 ∨ d.do_ = 3
     ·have HT2 : Hid ((doS s txs d).2 = txs) := Lib.hid (by unfold doS; rw [if_neg h0, if_neg (by omega), if_pos h23])
      have HE : Hid (recS s txs d = (voteO s (txOf txs d) d.shard (d.do_ == 2)).r) := Lib.hid (by unfold recS; rw [if_neg h0, if_pos h23])
      clear h0
      rcases h23 with h2 | h2
      ·have q2 : (d.do_ == 2) = true := by simpa using h2
       clear h2
       rw [q2] at HE
       as_aux_lemma =>
       have hF7 := HF7.out.ext (Ext.refl _).drew
       have hsb : SB w b w7 w7.drew := ⟨hF7.qm.pm.ex, .of_ext (Ext.refl _).drew⟩
       have hrw := HROW.out
       rw [HT2.out] at hrw
       have F0 : ∀ W, SB w b w7 W → W.cell? (ad.add (i * 9)) = some (.int .i64 d.do_) := fun W h => K0 W h.1
       have F2 : ∀ W, SB w b w7 W → W.cell? ⟨(ad.add (i * 9)).block, (ad.add (i * 9)).off + 2, none⟩ = some (.int .i64 d.shard) := fun W h => HCL.out W h.1 2 _ rfl
       clear K0
       generalize txOf txs d = id at *
       have i0 : ∀ W, SB w b w7 W → W.cell? ⟨g, 0, none⟩ = some (.int .i64 id.node) := fun W h => (row3_at (h.2.heap hrw (by simpa using HGB.out))).1
       have i1 : ∀ W, SB w b w7 W → W.cell? ⟨g, 1, none⟩ = some (.int .i64 id.boot) := fun W h => (row3_at (h.2.heap hrw (by simpa using HGB.out))).2.1
       have i2 : ∀ W, SB w b w7 W → W.cell? ⟨g, 2, none⟩ = some (.int .i64 id.n) := fun W h => (row3_at (h.2.heap hrw (by simpa using HGB.out))).2.2.1
       have HV := CVote_any hF7.bc HA.out.ok hF7.bM hF7.qm.pm.lt id d.shard true
       unfold pt at HV
       have HF7D := Lib.hid hF7
       clear hrw hF7
       go_wp2_with fail
       go_region_held3 (fun w' => SB w b w7 w') (first | exact hsb | assumption) ((go_at_call 11; refine HV.mono ?_; rintro e w8 ⟨v8, rfl, ho8, -, hk8⟩; obtain ⟨A5, c5, rfl⟩ := ho8.form; have hs8 : SB w b w7 w8 := hsb.kept hk8 HLTB.out))
       have HQ8 := Lib.hid (HF7D.out.bdo hk8)
       have HB8 := Lib.hid (And.intro ho8.bs ho8.cap.1)
       rw [← HE.out] at HB8
       clear HV ho8 hk8 hs8 hsb F0 F2 i0 i1 i2
       go_wp2_with fail
       go_meet
       exact ⟨A5, c5, by rw [HE.out], HQ8, HB8⟩
      ·have q2 : (d.do_ == 2) = false := by simp; omega
       have q3 : (d.do_ == 3) = true := by simpa using h2
       clear h2
       rw [q2] at HE
       as_aux_lemma =>
       have hF7 := HF7.out.ext (Ext.refl _).drew
       have hsb : SB w b w7 w7.drew := ⟨hF7.qm.pm.ex, .of_ext (Ext.refl _).drew⟩
       have hrw := HROW.out
       rw [HT2.out] at hrw
       have F0 : ∀ W, SB w b w7 W → W.cell? (ad.add (i * 9)) = some (.int .i64 d.do_) := fun W h => K0 W h.1
       have F2 : ∀ W, SB w b w7 W → W.cell? ⟨(ad.add (i * 9)).block, (ad.add (i * 9)).off + 2, none⟩ = some (.int .i64 d.shard) := fun W h => HCL.out W h.1 2 _ rfl
       clear K0
       generalize txOf txs d = id at *
       have i0 : ∀ W, SB w b w7 W → W.cell? ⟨g, 0, none⟩ = some (.int .i64 id.node) := fun W h => (row3_at (h.2.heap hrw (by simpa using HGB.out))).1
       have i1 : ∀ W, SB w b w7 W → W.cell? ⟨g, 1, none⟩ = some (.int .i64 id.boot) := fun W h => (row3_at (h.2.heap hrw (by simpa using HGB.out))).2.1
       have i2 : ∀ W, SB w b w7 W → W.cell? ⟨g, 2, none⟩ = some (.int .i64 id.n) := fun W h => (row3_at (h.2.heap hrw (by simpa using HGB.out))).2.2.1
       have HV := CVote_any hF7.bc HA.out.ok hF7.bM hF7.qm.pm.lt id d.shard false
       unfold pt at HV
       have HF7D := Lib.hid hF7
       clear hrw hF7
       go_wp2_with fail
       go_region_held3 (fun w' => SB w b w7 w') (first | exact hsb | assumption) ((go_at_call 11; refine HV.mono ?_; rintro e w8 ⟨v8, rfl, ho8, -, hk8⟩; obtain ⟨A5, c5, rfl⟩ := ho8.form; have hs8 : SB w b w7 w8 := hsb.kept hk8 HLTB.out))
       have HQ8 := Lib.hid (HF7D.out.bdo hk8)
       have HB8 := Lib.hid (And.intro ho8.bs ho8.cap.1)
       rw [← HE.out] at HB8
       clear HV ho8 hk8 hs8 hsb F0 F2 i0 i1 i2
       go_wp2_with fail
       go_meet
       exact ⟨A5, c5, by rw [HE.out], HQ8, HB8⟩
     have q2 : (d.do_ == 2) = false := by simp; omega
     have q3 : (d.do_ == 3) = false := by simp; omega
     by_cases h5 : d.do_ = 5
     ·have HT2 : Hid ((doS s txs d).2 = txs) := Lib.hid (by unfold doS; rw [if_neg h0, if_neg (by omega), if_neg h23, if_neg (by omega), if_pos h5])
      have HE : Hid (recS s txs d = (ackO s (txOf txs d) d.shard).r) := Lib.hid (by unfold recS; rw [if_neg h0, if_neg h23, if_pos h5])
      have q5 : (d.do_ == 5) = true := by simpa using h5
      clear h0 h5 h23
      as_aux_lemma =>
      have hF7 := HF7.out.ext (Ext.refl _).drew
      have hsb : SB w b w7 w7.drew := ⟨hF7.qm.pm.ex, .of_ext (Ext.refl _).drew⟩
      have hrw := HROW.out
      rw [HT2.out] at hrw
      have F2 : ∀ W, SB w b w7 W → W.cell? ⟨(ad.add (i * 9)).block, (ad.add (i * 9)).off + 2, none⟩ = some (.int .i64 d.shard) := fun W h => HCL.out W h.1 2 _ rfl
      clear K0
      generalize txOf txs d = id at *
      have i0 : ∀ W, SB w b w7 W → W.cell? ⟨g, 0, none⟩ = some (.int .i64 id.node) := fun W h => (row3_at (h.2.heap hrw (by simpa using HGB.out))).1
      have i1 : ∀ W, SB w b w7 W → W.cell? ⟨g, 1, none⟩ = some (.int .i64 id.boot) := fun W h => (row3_at (h.2.heap hrw (by simpa using HGB.out))).2.1
      have i2 : ∀ W, SB w b w7 W → W.cell? ⟨g, 2, none⟩ = some (.int .i64 id.n) := fun W h => (row3_at (h.2.heap hrw (by simpa using HGB.out))).2.2.1
      have HV := CAck_any hF7.bc HA.out.ok hF7.bM hF7.qm.pm.lt id d.shard
      unfold pt at HV
      have HF7D := Lib.hid hF7
      clear hrw hF7
      go_wp2_with fail
      go_region_held3 (fun w' => SB w b w7 w') (first | exact hsb | assumption) ((go_at_call 12; refine HV.mono ?_; rintro e w8 ⟨v8, rfl, ho8, -, hk8⟩; obtain ⟨A5, c5, rfl⟩ := ho8.form; have hs8 : SB w b w7 w8 := hsb.kept hk8 HLTB.out))
      have HQ8 := Lib.hid (HF7D.out.bdo hk8)
      have HB8 := Lib.hid (And.intro ho8.bs ho8.cap.1)
      rw [← HE.out] at HB8
      clear HV ho8 hk8 hs8 hsb F2 i0 i1 i2
      go_wp2_with fail
      go_meet
      exact ⟨A5, c5, by rw [HE.out], HQ8, HB8⟩
     ·as_aux_lemma =>
      have q5 : (d.do_ == 5) = false := by simpa using h5
      have HE : Hid (recS s txs d = []) := Lib.hid (by unfold recS; rw [if_neg h0, if_neg h23, if_neg h5])
      clear h0 h5 h23
      have HQ8 := Lib.hid HF7.out.done
      go_wp2_with fail
      go_meet
      exact ⟨none, 0, by rw [HE.out]; rfl, HQ8, by rw [HE.out]; exact Lib.hid ⟨Sl.nil _ _, Nat.le_refl _⟩⟩
    case rest =>
    obtain ⟨A5, c5, rfl, HQ5, HB5⟩ := hcut
    clear HF7 HROW HGB HLTB HO K0 q6
    generalize recS s txs d = r at *
    generalize (doS s txs d).1 = s' at *
    generalize hts : (doS s txs d).2 = txs' at *
    rename_i wc
    have K3 : wc.cell? ⟨(ad.add (i * 9)).block, (ad.add (i * 9)).off + 3, none⟩ = some (.bool d.keep) := HCL.out wc HQ5.out.pm.ex 3 _ rfl
    by_cases hr0 : 0 < r.length
    ·have q5 : (0 : Int) < (r.length : Int) := by omega
     by_cases hkp : d.keep = true
     ·rw [hkp] at K3
      have hag := HAG.out
      rw [if_pos ⟨hr0, hkp⟩] at hag
      have HRD := CRedo_any HQ5.out.y HA.out.oky HQ5.out.yM HQ5.out.pm.lt A5 c5 r HB5.out.1 HB5.out.2 (by have := HLEN.out; omega)
      rw [hag.1] at HRD
      unfold pt at HRD
      have HA9 := Lib.hid hag.2
      clear hag hkp hr0
      go_wp2_with fail
      refine HRD.mono ?_
      rintro e w9 ⟨rfl, hy9, hk9⟩
      have HQ9 := Lib.hid (HQ5.out.ydo hk9 hy9)
      clear HRD hy9 hk9 K3
      go_wp2_with fail
      go_roundw
      case rel => exact ⟨i + 1, _, _, _, _, _, by go_num, by omega, by omega, HQ9, HA9, by omega, HND⟩
      case measure => simp [intOf]; omega
     ·have hkf : d.keep = false := by simpa using hkp
      have hag := HAG.out
      rw [if_neg (fun h => hkp h.2)] at hag
      have HA9 := Lib.hid hag
      have HQ9 := HQ5
      rw [hkf] at K3
      clear hag hkp hr0
      go_wp2_with fail
      go_roundw
      case rel => exact ⟨i + 1, _, _, _, _, _, by go_num, by omega, by omega, HQ9, HA9, by omega, HND⟩
      case measure => simp [intOf]; omega
    ·have q5 : ¬ (0 : Int) < (r.length : Int) := by omega
     have hag := HAG.out
     rw [if_neg (fun h => hr0 h.1)] at hag
     have HA9 := Lib.hid hag
     have HQ9 := HQ5
     clear hag hr0
     go_wp2_with fail
     go_roundw
     case rel => exact ⟨i + 1, _, _, _, _, _, by go_num, by omega, by omega, HQ9, HA9, by omega, HND⟩
     case measure => simp [intOf]; omega
  ·have hor : ¬ (i : Int) < (l.length : Int) ∨ ((i : Int) < (l.length : Int) ∧ ¬ (i : Int) < 120) := by omega
   clear hlt
   go_upto_region 9 with fail
   go_cut [63] from 56 to 63 (fun s wx => s = .bool false ∧ wr = wx)
   case first =>
    rcases hor with q1 | ⟨q1, q2⟩
    ·go_wp2_with fail
     go_meet
     exact ⟨rfl, rfl⟩
    ·go_wp2_with fail
     go_meet
     exact ⟨rfl, rfl⟩
   case rest =>
   obtain ⟨rfl, rfl⟩ := hcut
   clear hor
   as_aux_lemma =>
   have HS := CSnap_any HQ.out.pm.co HQ.out.pm.ok
   unfold pt at HS
   have HOK := Lib.hid HQ.out.pm.ok
   have HREC := Lib.hid (fun r (hr : r ∈ snapF s) => snap_rec HQ.out.pm.ok hr)
   have HZK := Lib.hid (zK_ok HQ.out.pm.ok)
   rw [HNODE.out] at HZK
   have HSL := Lib.hid (snap_len HQ.out.pm.ok)
   have hsl : (snapF s).length ≤ 100 := HSL.out
   go_wp2_with fail
   refine HS.mono ?_
   rintro e w2 ⟨v2, rfl, ho2, hx2⟩
   obtain ⟨sA, sc, rfl⟩ := ho2.form
   have HQ2 := Lib.hid (HQ.out.ext hx2)
   have HO2 := Lib.hid ho2
   clear HS ho2 hx2 HQ HLS
   generalize wr.heap.size = base at *
   go_wp2
   go_loopw [15] (fun jv wx => ∃ (j : Nat), jv = .int .i64 j ∧ j ≤ (snapF s).length ∧ Hid (QM [Y, Z] B w wx P p q tv s txs i Y Z y (zAt 3 (snapF s) j)) ∧ Hid (OwnS wx base (.slice sA (snapF s).length sc) (snapF s))) (fun jv _ => (snapF s).length - (intOf jv).toNat)
   case atStart => exact ⟨0, rfl, by omega, HQ2, HO2⟩
   case round =>
    obtain ⟨j, rfl, hj, HQJ, HOJ⟩ := hrel
    clear HQ2 HO2
    by_cases hjl : j < (snapF s).length
    ·as_aux_lemma =>
     have hjl2 : (j : Int) < ((snapF s).length : Int) := by omega
     obtain ⟨adr, Ar, cr, rfl, hcr, hbr, hlr⟩ := HOJ.out.recAt hjl
     have hgood := (HZK.out (snapF s).length (Nat.le_refl _)).2 j hjl hjl
     have HZ := Lib.hid (zAt_succ 3 (snapF s) j hjl)
     have HRD := CRedo_any HQJ.out.z (zAt_ok 3 (snapF s) j) HQJ.out.zM HQJ.out.pm.lt Ar cr (snapF s)[j] hbr hlr (by have := HREC.out _ (List.getElem_mem hjl); omega)
     rw [hgood, ← HZ.out] at HRD
     unfold pt at HRD
     have hcw := hcr wr (Ext.refl _)
     clear hgood hbr hlr hcr
     go_wp2_with fail
     refine HRD.mono ?_
     rintro e w4 ⟨rfl, hz4, hk4⟩
     have HQ4 := Lib.hid (HQJ.out.zdo hk4 hz4)
     have HO4 : Hid (OwnS w4 base (.slice (some adr) (snapF s).length sc) (snapF s)) := Lib.hid (by
      obtain ⟨c1, h1⟩ := HQJ.out.z.obj
      exact HOJ.out.off h1 (by decide) (by decide) hk4)
     clear HRD hz4 hk4 hcw
     go_wp2
     go_roundw
     case rel => exact ⟨j + 1, by go_num, by omega, HQ4, HO4⟩
     case measure => simp [intOf]; omega
    ·have hjl2 : ¬ (j : Int) < ((snapF s).length : Int) := by omega
     obtain rfl : j = (snapF s).length := by omega
     as_aux_lemma =>
     have HAZ : Hid (Ag s (zAt 3 (snapF s) (snapF s).length)) := Lib.hid (by have := zK_ag HA.out; rw [HNODE.out] at this; exact this)
     generalize zAt 3 (snapF s) (snapF s).length = z at *
     have HSY := CSnap_any HQJ.out.y HA.out.oky
     rw [HA.out.snap] at HSY
     unfold pt at HSY
     clear hjl HZK HREC hj
     go_wp2_with fail
     refine HSY.mono ?_
     rintro e w3 ⟨v3, rfl, ho3, hx3⟩
     obtain ⟨yA, yc, rfl⟩ := ho3.form
     have HQ3 := Lib.hid (HQJ.out.ext hx3)
     have HO3 := Lib.hid (HOJ.out.ext hx3)
     have HS3 := same_snap w3 yA sA yc sc (snapF s) ho3.bss HO3.out.bss hsl
     clear HSY ho3 hx3 HQJ HOJ
     go_wp2_with fail
     refine HS3.mono ?_
     rintro e w4 ⟨rfl, hx4⟩
     have HQ4 := Lib.hid (HQ3.out.ext hx4)
     have HO4 := Lib.hid (HO3.out.ext hx4)
     have HSZ := CSnap_any HQ4.out.z HAZ.out.oky
     rw [HAZ.out.snap] at HSZ
     unfold pt at HSZ
     clear HS3 hx4 HQ3 HO3
     go_wp2_with fail
     refine HSZ.mono ?_
     rintro e w5 ⟨v5, rfl, ho5, hx5⟩
     obtain ⟨zA, zc, rfl⟩ := ho5.form
     have HQ5 := Lib.hid (HQ4.out.ext hx5)
     have HO5 := Lib.hid (HO4.out.ext hx5)
     have HS5 := same_snap w5 zA sA zc sc (snapF s) ho5.bss HO5.out.bss hsl
     clear HSZ ho5 hx5 HQ4 HO4
     go_wp2_with fail
     refine HS5.mono ?_
     rintro e w9 ⟨rfl, hx9⟩
     have HQ9 := Lib.hid (HQ5.out.ext hx9)
     clear HS5 hx9 HQ5 HO5 hjl2 HSL
     have HTL := Lib.hid (show txs.length ≤ 120 by omega)
     have htl120 : txs.length ≤ 120 := HTL.out
     obtain ⟨tA, tc, htv⟩ := own_form HQ9.out.pm.to
     subst htv
     obtain ⟨R0, R1, R2, -⟩ := row3_at HQ9.out.pm.row
     have F2 : ∀ W, Ext w9 W → W.cell? ⟨P, 2, none⟩ = some (.slice tA txs.length tc) := fun W hx => hx.cell R2
     clear R0 R1 R2
     go_wp2
     go_loopw [16] (fun kv wx => ∃ k : Nat, kv = .int .i64 k ∧ k ≤ txs.length ∧ Ext w9 wx) (fun kv _ => txs.length - (intOf kv).toNat)
     case atStart => exact ⟨0, rfl, by omega, Ext.refl _⟩
     case round =>
      obtain ⟨k, rfl, hk, hxk⟩ := hrel
      have f2 := F2 _ hxk
      by_cases hkt : k < txs.length
      ·as_aux_lemma =>
       have hkt2 : (k : Int) < (txs.length : Int) := by omega
       obtain ⟨adt, cpt, htv, hct⟩ := HQ9.out.pm.tx hkt
       injection htv with r1 _ r3
       subst r1 r3
       have HIFF1 := Lib.hid (HA.out.ask txs[k])
       have HIFF2 := Lib.hid (HAZ.out.ask txs[k])
       generalize txs[k] = id at *
       have HCT := Lib.hid hct
       clear hct
       have hct0 := HCT.out _ hxk
       go_wp2_with (with_reducible first | refine sL 37 ?_ | refine sL 35 ?_ | refine sA 35 ?_ | refine sS 35 ?_)
       refine go_on (wpList_load_elem rfl 35 _ rfl (adt.add (k * 3)) rfl (txiC id) _ hct0 Try.underlying35 rfl (by kernel_rfl) ?_)
       have HA1 := CAsk_any (HQ9.out.pm.co.ext hxk) id (by have := HA.out.ok.few; omega)
       unfold pt at HA1
       clear hct0
       go_wp2_with fail
       refine HA1.mono ?_
       rintro e w10 ⟨rfl, hx10⟩
       have hxd := (hxk.trans hx10).drew
       have hct := HCT.out
       generalize askF s id = a at *
       clear HA1 hx10 hxk f2
       go_wp2_with fail
       refine wp_region_phase (S := fun w' => Ext w9 w') 19 (by kernel_rfl) (by kernel_rfl) ?_ (fun hHeld => ?_)
       ·exact hxd
       simp only [List.drop_succ_cons, List.drop_zero]
       refine name_head ?_
       intro wr0 hw0
       rw [hw0] at hHeld
       refine wt 0 _ ?_
       simp only [red, Act.put]
       refine wt 1 _ ?_
       simp only [red, Act.put]
       refine wt 2 _ ?_
       simp only [red, Act.put]
       refine wt 3 _ ?_
       simp only [red, Act.put]
       refine wt 4 _ ?_
       simp only [red, Act.put]
       refine wt 5 _ ?_
       simp only [red, Act.put]
       refine wt 6 _ ?_
       simp only [red, Act.put]
       refine wy 7 (v := .agg #[.int .i64 id.node, .int .i64 id.boot, .int .i64 id.n]) (by rfl) (by exact yieldsIf_load_elem (by rfl) 35 _ rfl (adt.add (k * 3)) rfl (txiC id) _ (fun w' hx => hct w' hx) Try.underlying35 rfl (by kernel_rfl)) ?_
       simp only [red, Act.put]
       refine wt 9 _ ?_
       simp only [red, Act.put]
       refine wt 10 _ ?_
       simp only [red, Act.put]
       refine wt 11 _ ?_
       simp only [red, Act.put]
       refine wt 12 _ ?_
       simp only [red, Act.put]
       refine wt 13 _ ?_
       simp only [red, Act.put]
       refine wt 14 _ ?_
       simp only [red, Act.put]
       refine wt 15 _ ?_
       simp only [red, Act.put]
       refine wy 16 (v := .agg #[.int .i64 id.node, .int .i64 id.boot, .int .i64 id.n]) (by rfl) (by exact yieldsIf_load_elem (by rfl) 35 _ rfl (adt.add (k * 3)) rfl (txiC id) _ (fun w' hx => hct w' hx) Try.underlying35 rfl (by kernel_rfl)) ?_
       simp only [red, Act.put]
       refine rd [8] ?_
       refine ac (fun K hK => ?_) ?_
       ·refine step_callG (by rfl) (by kernel_rfl) (CAsk_any (HQ9.out.y.ext hHeld) id (by have := HA.out.oky.few; omega)) ?_
        rintro e wr8 ⟨rfl, hx8⟩
        refine ⟨_, rfl, ?_⟩
        refine hK.out _ _ ?_ (fun hHeld => ?_)
        ·exact hHeld.trans hx8
        clear hK K
        try simp only [red, Act.put]
        refine rd [17] ?_
        refine ac (fun K hK => ?_) ?_
        ·refine step_callG (by rfl) (by kernel_rfl) (CAsk_any (HQ9.out.z.ext hHeld) id (by have := HAZ.out.oky.few; omega)) ?_
         rintro e wr17 ⟨rfl, hx17⟩
         refine ⟨_, rfl, ?_⟩
         refine hK.out _ _ ?_ (fun hHeld => ?_)
         ·exact hHeld.trans hx17
         clear hK K
         try simp only [red, Act.put]
         refine wt 18 _ ?_
         simp only [red, Act.put]
         refine wpHead_done (by kernel_rfl) ?_
         have HXJ := Lib.hid hHeld
         generalize wr17 = wj at *
         clear hxd hHeld hct F2
         generalize askF y id = b at *
         generalize askF z id = c at *
         by_cases ha : a = 1
         ·obtain rfl := HIFF1.out.2 ha
          obtain rfl := HIFF2.out.2 ha
          subst ha
          clear HIFF1 HIFF2
          go_wp2_with fail
          go_roundw
          case rel => exact ⟨k + 1, by go_num, by omega, HXJ.out⟩
          case measure => simp [intOf]; omega
         ·have qa : (a == 1) = false := by simpa using ha
          have qb : (b == 1) = false := by simpa using fun h => ha (HIFF1.out.1 h)
          have qc : (c == 1) = false := by simpa using fun h => ha (HIFF2.out.1 h)
          have qa2 : (a != 1) = true := by simpa using ha
          clear HIFF1 HIFF2 ha
          go_wp2_with fail
          go_roundw
          case rel => exact ⟨k + 1, by go_num, by omega, HXJ.out⟩
          case measure => simp [intOf]; omega
        exact AllHead.nil
       exact AllHead.nil
      ·as_aux_lemma =>
       have hkt2 : ¬ (k : Int) < (txs.length : Int) := by omega
       go_wp2_with fail
       refine (live_any _).mono ?_
       rintro e w11 ⟨rfl, hx11⟩
       have HXE := Lib.hid ((HQ9.out.pm.ex.trans hxk).trans hx11)
       clear hx11 f2 F2
       go_wp2
       go_ret
       exact ⟨rfl, HXE.out⟩
end Go.Proofs.Ytijopcdjlpafdaa
