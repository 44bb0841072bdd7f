/- The walk of the reference's TakeAll. Conditions: the hypotheses of each theorem; the library's two tables. -/
import Derived.Test.YthlppbbejdeeoaaGreatDoorC14
import Derived.Test.YthlppbbejdeeoaaGreatDoorRDd7M
import Derived.Test.YthlppbbejdeeoaaGreatDoorC6
namespace Go.Proofs.YthlppbbejdeeoaaGreatDoor
open Go.RowKit
/-- a deed that is being read: the reader at p, the deed at D, and that nothing of old but the reader has turned -/
structure TD (w wo : World) (p D : Nat) (q : Option By) (cs : Array Value) (wX : World) : Prop where
 r : RdAt w wX p q
 d : wX.heap[D]? = some (.cells cs 90 (0, 0))
 k : Kept [p] wo wX
 lo : wo.heap.size ≤ D
 ne : p ≠ D
 w0 : w.heap.size ≤ wo.heap.size
section
variable {w wo w1 w2 : World} {p D : Nat} {q q' : Option By} {cs : Array Value}
theorem TD.step (h : TD w wo p D q cs w1) (hr : RdAt w w2 p q') (hk : Kept [p] w1 w2) : TD w wo p D q' cs w2 :=
 ⟨hr, hk.heap h.d (by simpa using h.ne.symm), h.k.trans hk, h.lo, h.ne, h.w0⟩
theorem TD.set (h : TD w wo p D q cs w1) {k : Nat} {v : Value} (cs' : Array Value) (hc : cs.setIfInBounds k v = cs') (hw : w2 = w1.setCell ⟨D, k, none⟩ v) : TD w wo p D q cs' w2 := by
 have hk : Kept [D] w1 w2 := hw ▸ (Kept.refl _ _).setCell (.inl (by simp)) _
 have hlo := h.lo
 have hw0 := h.w0
 refine ⟨h.r.kept hk (by simpa using h.ne) (by intro k hk; simp at hk; omega), ?_, Kept.new (M := [p, D]) ((h.k.mono (by simp)).trans (hk.mono (by simp))) (by intro k hk; simp at hk; rcases hk with rfl | rfl <;> simp; omega), hlo, h.ne, hw0⟩
 rw [hw, heap_setCell_same w1 D k _ _ _ h.d, ← hc]
theorem TD.cell (h : TD w wo p D q cs w1) (k : Nat) (v : Value) (hv : cs[k]? = some v) : w1.cell? ⟨D, k, none⟩ = some v := by
 rw [cell_of_row w1 D k _ _ _ h.d]
 exact hv
theorem TD.frz (h : TD w wo p D q cs w1) (j : Nat) : w1.frozen? ⟨D, j, none⟩ = false := frozen_of_row w1 D j _ _ h.d
end
theorem dedV_ok (q : Option By) : okD (dedV q) := by
 have h1 := valB_cut 1 q
 have h4 := valB_cut 4 (dedQ0 q)
 have h5 := valB_cut 1 (cutQ 4 (dedQ0 q))
 have h7 := valB_cut 1 (cutQ 1 (cutQ 1 (cutQ 4 (dedQ0 q))))
 have h8 := valB_cut 4 (cutQ 1 (cutQ 1 (cutQ 1 (cutQ 4 (dedQ0 q)))))
 have h9 := valB_cut 2 (cutQ 4 (cutQ 1 (cutQ 1 (cutQ 1 (cutQ 4 (dedQ0 q))))))
 have h10 := cutV_le (valB (cutV 2 (cutQ 4 (cutQ 1 (cutQ 1 (cutQ 1 (cutQ 4 (dedQ0 q)))))))) (cutQ 2 (cutQ 4 (cutQ 1 (cutQ 1 (cutQ 1 (cutQ 4 (dedQ0 q)))))))
 refine ⟨⟨by simp [dedV], by simp only [dedV]; omega⟩, shV_len _, shV_len _, shV_len _, ⟨by simp [dedV], by simp only [dedV]; omega⟩, ⟨by simp [dedV], by simp only [dedV]; omega⟩, ⟨by simp [dedV], by simp only [dedV]; omega⟩, ⟨by simp [dedV], by simp only [dedV]; omega⟩, ?_⟩
 simp only [dedV, loV]
 omega
theorem repV_okD : ∀ (n : Nat) (q : Option By), ∀ d ∈ repV dedQ dedV n q, okD d
 | 0, _, d, hd => by simp [repV] at hd
 | _ + 1, none, d, hd => by simp [repV] at hd
 | n + 1, some l, d, hd => by
  simp only [repV, List.mem_cons] at hd
  rcases hd with rfl | hd
  ·exact dedV_ok (some l)
  ·exact repV_okD n _ d hd
set_option maxRecDepth 20000 in
set_option maxHeartbeats 8000000 in
theorem RTakeAll_any (A : Option Addr) (cap : Nat) (l : By) (w : World) (hb : Bs w A l) (hlc : l.length ≤ cap) (hT : Tabs w) : Calls Tryz.prog 25 #[.slice A l.length cap] w (TASays l w) := by
 by_cases h18 : (1800 : Int) < (l.length : Int)
 ·have HT : Hid (takeAllT l = .inl 6) := Lib.hid ((takeAllT_sim l).trans (if_pos (by omega)))
  go_enter Tryz.func25, Tryz.ntmps25
  go_wp2
  go_ret2
  exact TASays.no HT.out (Ext.refl w)
 have HT1 := Lib.hid ((takeAllT_sim l).trans (if_neg (by omega)))
 obtain ⟨wp, hwp⟩ : ∃ wp, wp = w.alloc (.cells #[.slice A l.length cap, .bool false] 63) := ⟨_, rfl⟩
 have hxp : Ext w wp := by rw [hwp]; exact (Ext.refl w).alloc _
 have hR : RdAt w wp w.heap.size (some l) := ⟨by omega, hxp, A, cap, by
  have := heap_alloc_new w (.cells #[.slice A l.length cap, .bool false] 63)
  rw [hwp]; simpa using this, hlc, hb⟩
 obtain ⟨p, hp⟩ : ∃ p, p = w.heap.size := ⟨_, rfl⟩
 have HP := Lib.hid hp
 rw [← hp] at hR
 have hN := fun (w1 : World) (q : Option By) (n : Nat) (hn : n ≤ 4) (h1 : RdAt w w1 p q) => RRNum_any w w1 p n q h1 hn
 have hC := fun (w1 : World) (q : Option By) (n : Nat) (hn : n ≤ 100000) (h1 : RdAt w w1 p q) => RCut_any w w1 p n q h1 hn
 have HWP := Lib.hid hwp
 unfold pt at hN hC
 obtain ⟨n, hn⟩ : ∃ n, n = valB (cutV 1 (some l)) := ⟨_, rfl⟩
 obtain ⟨q1, hq1⟩ : ∃ q, q = cutQ 1 (some l) := ⟨_, rfl⟩
 rw [← hn, ← hq1] at HT1
 have hn256 : n < 256 := by rw [hn]; exact valB_cut 1 (some l)
 have HNN := Lib.hid hn
 have HQ1 := Lib.hid hq1
 clear hwp hb hlc hp hn hq1 hxp
 go_enter Tryz.func25, Tryz.ntmps25
 go_wp2_with fail
 rw [← HWP.out, ← HP.out]
 refine (hN _ _ 1 (by omega) hR).mono ?_
 rintro e w1 ⟨rfl, hr1, -⟩
 have hr1 : RdAt w w1 p q1 := by rw [HQ1.out]; exact hr1
 rw [← HNN.out]
 clear hR
 cases q1 with
 | none =>
  have HT : Hid (takeAllT l = .inl 3) := Lib.hid HT1.out
  obtain ⟨Ar, nr, cr, hrowR⟩ := hr1.2.2
  obtain ⟨R0, R1, RF⟩ := row2_at hrowR
  have hx := hr1.2.1
  clear hrowR HT1 hr1
  go_wp2
  go_ret2
  exact TASays.no HT.out hx
 | some r =>
  have HT2 := Lib.hid HT1.out
  obtain ⟨Ar, cr, hrowR, -, -⟩ := hr1.2.2
  obtain ⟨R0, R1, RF⟩ := row2_at hrowR
  have hx1 := hr1.2.1
  clear hrowR HT1
  by_cases hn1 : (n : Int) < 1
  ·have HT : Hid (takeAllT l = .inl 4) := Lib.hid (HT2.out.trans (if_pos (by omega)))
   clear HT2 hr1
   go_wp2
   go_ret2
   exact TASays.no HT.out hx1
  by_cases hn12 : (12 : Int) < (n : Int)
  ·have HT : Hid (takeAllT l = .inl 4) := Lib.hid (HT2.out.trans (if_pos (by omega)))
   clear HT2 hr1
   go_wp2
   go_ret2
   exact TASays.no HT.out hx1
  have HT3 := Lib.hid (HT2.out.trans (if_neg (by omega)))
  have hnew : OwnDs (w1.alloc (.cells #[] 90)) w.heap.size (.slice (some ⟨w1.heap.size, 0, none⟩) 0 0) [] := ⟨[], rfl, by simp, ⟨by simp, .inr ⟨w1.heap.size, 0, #[], rfl, hx1.size, heap_alloc_new w1 _, by simp, by simp [maxLen], by simp, by simp⟩⟩, by simp⟩
  have hra := hr1.ext ((Ext.refl w1).alloc (.cells #[] 90))
  clear HT2 hr1
  go_wp2
  go_loopw [6, 7] (fun bv iv wr => ∃ (i : Nat) (ds : List Dd) (l1 : By), iv = .int .i64 i ∧ i ≤ n ∧ ds.length = i ∧ RdAt w wr p (some l1) ∧ OwnDs wr w.heap.size bv ds ∧
   ds ++ repV dedQ dedV (n - i) (some l1) = repV dedQ dedV n (some r) ∧ repQ dedQ (n - i) (some l1) = repQ dedQ n (some r)) (fun _ iv _ => n - (intOf iv).toNat)
  case atStart => exact ⟨0, [], r, rfl, by omega, rfl, hra, hnew, rfl, rfl⟩
  case round =>
   clear hra hnew hx1 R0 R1 RF
   obtain ⟨i, ds, l1, rfl, hi, hdl, hr, hds, hrv, hrq⟩ := hrel
   by_cases hlt : i < n
   ·have hlt2 : (i : Int) < (n : Int) := by omega
    obtain ⟨v0, hv0⟩ : ∃ x, x = valB (cutV 1 (some l1)) := ⟨_, rfl⟩
    obtain ⟨e1, he1⟩ : ∃ x, x = cutQ 1 (some l1) := ⟨_, rfl⟩
    obtain ⟨s1, hs1⟩ : ∃ x, x = shV e1 := ⟨_, rfl⟩
    obtain ⟨e2, he2⟩ : ∃ x, x = shQ e1 := ⟨_, rfl⟩
    obtain ⟨s2, hs2⟩ : ∃ x, x = shV e2 := ⟨_, rfl⟩
    obtain ⟨e3, he3⟩ : ∃ x, x = shQ e2 := ⟨_, rfl⟩
    obtain ⟨s3, hs3⟩ : ∃ x, x = shV e3 := ⟨_, rfl⟩
    obtain ⟨e4, he4⟩ : ∃ x, x = shQ e3 := ⟨_, rfl⟩
    obtain ⟨v4, hv4⟩ : ∃ x, x = valB (cutV 4 e4) := ⟨_, rfl⟩
    obtain ⟨e5, he5⟩ : ∃ x, x = cutQ 4 e4 := ⟨_, rfl⟩
    obtain ⟨v5, hv5⟩ : ∃ x, x = valB (cutV 1 e5) := ⟨_, rfl⟩
    obtain ⟨e6, he6⟩ : ∃ x, x = cutQ 1 e5 := ⟨_, rfl⟩
    obtain ⟨v6, hv6⟩ : ∃ x, x = valB (cutV 1 e6) := ⟨_, rfl⟩
    obtain ⟨e7, he7⟩ : ∃ x, x = cutQ 1 e6 := ⟨_, rfl⟩
    obtain ⟨v7, hv7⟩ : ∃ x, x = valB (cutV 1 e7) := ⟨_, rfl⟩
    obtain ⟨e8, he8⟩ : ∃ x, x = cutQ 1 e7 := ⟨_, rfl⟩
    obtain ⟨v8, hv8⟩ : ∃ x, x = valB (cutV 4 e8) := ⟨_, rfl⟩
    obtain ⟨e9, he9⟩ : ∃ x, x = cutQ 4 e8 := ⟨_, rfl⟩
    obtain ⟨lb, hlb⟩ : ∃ x, x = loV e9 := ⟨_, rfl⟩
    obtain ⟨e10, he10⟩ : ∃ x, x = loQ e9 := ⟨_, rfl⟩
    have HDQ : Hid (dedQ (some l1) = e10) := Lib.hid (by rw [he10, he9, he8, he7, he6, he5, he4, he3, he2, he1]; rfl)
    have HDV : Hid (dedV (some l1) = ⟨(v0 : Nat), s1, s2, s3, (v4 : Nat), (v5 : Nat), UInt8.ofNat v6, (v7 : Nat), (v8 : Nat), lb⟩) := Lib.hid (by rw [hlb, hv8, hv7, hv6, hv5, hv4, hs3, hs2, hs1, hv0, he9, he8, he7, he6, he5, he4, he3, he2, he1]; rfl)
    have HOK := dedV_ok (some l1)
    rw [HDV.out] at HOK
    obtain ⟨-, hs1l, hs2l, hs3l, -, -, -, -, hlbl⟩ := HOK
    simp only at hs1l hs2l hs3l hlbl
    have HRV : Hid (ds ++ [dedV (some l1)] ++ repV dedQ dedV (n - (i + 1)) (dedQ (some l1)) = repV dedQ dedV n (some r)) := Lib.hid (by
     rw [← hrv, show n - i = (n - (i + 1)) + 1 by omega, repV, List.append_assoc]; rfl)
    have HRQ : Hid (repQ dedQ (n - (i + 1)) (dedQ (some l1)) = repQ dedQ n (some r)) := Lib.hid (by
     rw [← hrq, show n - i = (n - (i + 1)) + 1 by omega, repQ])
    have H_v0 := Lib.hid hv0
    have H_e1 := Lib.hid he1
    have H_s1 := Lib.hid hs1
    have H_e2 := Lib.hid he2
    have H_s2 := Lib.hid hs2
    have H_e3 := Lib.hid he3
    have H_s3 := Lib.hid hs3
    have H_e4 := Lib.hid he4
    have H_v4 := Lib.hid hv4
    have H_e5 := Lib.hid he5
    have H_v5 := Lib.hid hv5
    have H_e6 := Lib.hid he6
    have H_v6 := Lib.hid hv6
    have H_e7 := Lib.hid he7
    have H_v7 := Lib.hid hv7
    have H_e8 := Lib.hid he8
    have H_v8 := Lib.hid hv8
    have H_e9 := Lib.hid he9
    have H_lb := Lib.hid hlb
    have H_e10 := Lib.hid he10
    clear hrv hrq hv0 he1 hs1 he2 hs2 he3 hs3 he4 hv4 he5 hv5 he6 hv6 he7 hv7 he8 hv8 he9 hlb he10
    have HDS := Lib.hid hds
    have hxr := hr.2.1
    have hplt := hr.lt
    obtain ⟨vR0, hrowR0⟩ := hr.row
    have HRW := Lib.hid hrowR0
    have HDL := Lib.hid hdl
    have hdl12 : ds.length ≤ 12 := by omega
    clear hds hrowR0 hdl
    go_wp2_with (with_reducible first | refine sA 90 ?_ | refine sS 90 ?_ | refine sL 90 ?_)
    refine go_on (wpList_alloc_ rfl rfl deed_info ?_)
    go_wp2_with (with_reducible first | refine sA 90 ?_ | refine sS 90 ?_ | refine sL 90 ?_)
    refine go_on (wpList_store_last (c' := zDeed) rfl rfl rfl rfl (by kernel_rfl) rfl (by simp [zDeed, Value.oneCell']) ?_)
    intro wd hrowD hxd hszd
    obtain ⟨D, hDe⟩ : ∃ D, D = wr.heap.size := ⟨_, rfl⟩
    rw [← hDe] at hrowD
    have HDE := Lib.hid hDe
    have t0 : TD w wr p D (some l1) zDeed wd := ⟨hr.ext hxd, hrowD, (Kept.refl _ _).ext hxd, by omega, by omega, hxr.size⟩
    clear hrowD hxd hszd hDe hr
    -- field 0
    go_wp2_with (with_reducible first | refine sA 90 ?_ | refine sS 90 ?_ | refine sL 90 ?_)
    rw [← HDE.out]
    refine (hN _ _ 1 (by omega) (TD.r t0)).mono ?_
    rintro e a0 ⟨rfl, hr1, hk1⟩
    have b0 : TD w wr p D e1 #[.int .i64 0, .string ⟨#[]⟩, .string ⟨#[]⟩, .string ⟨#[]⟩, .int .i64 0, .int .i64 0, .int .u8 0, .int .i64 0, .int .i64 0, .slice none 0 0] a0 := TD.step t0 (by rw [H_e1.out]; exact hr1) hk1
    rw [← H_v0.out]
    clear hr1 hk1 t0
    have C := b0.cell 0 _ rfl
    have F := b0.frz
    obtain ⟨w0_, hw_⟩ : ∃ x, x = a0.setCell ⟨D, 0, none⟩ (.int .i64 (v0 : Nat)) := ⟨_, rfl⟩
    have t1 := b0.set #[.int .i64 (v0 : Nat), .string ⟨#[]⟩, .string ⟨#[]⟩, .string ⟨#[]⟩, .int .i64 0, .int .i64 0, .int .u8 0, .int .i64 0, .int .i64 0, .slice none 0 0] rfl hw_
    have HW0 := Lib.hid hw_
    clear hw_ b0
    -- field 1
    go_wp2_with (with_reducible first | refine sA 90 ?_ | refine sS 90 ?_ | refine sL 90 ?_)
    rw [← HW0.out]
    clear C F HW0
    refine (hN _ _ 1 (by omega) (TD.r t1)).mono ?_
    rintro e a1' ⟨rfl, hr1, hk1⟩
    have hvc := valB_cut 1 e1
    go_wp2_with (with_reducible first | refine sA 90 ?_ | refine sS 90 ?_ | refine sL 90 ?_)
    refine (hC _ _ _ (by omega) hr1).mono ?_
    rintro e a1 ⟨vb, rfl, ho1, hr2, hk2⟩
    have b1 : TD w wr p D e2 #[.int .i64 (v0 : Nat), .string ⟨#[]⟩, .string ⟨#[]⟩, .string ⟨#[]⟩, .int .i64 0, .int .i64 0, .int .u8 0, .int .i64 0, .int .i64 0, .slice none 0 0] a1 := TD.step t1 (by rw [H_e2.out]; exact hr2) (hk1.trans hk2)
    have hsz1 := (t1.k.trans hk1).size
    have ho1 : Own a1 a1'.heap.size vb s1 := by rw [H_s1.out]; exact ho1
    obtain ⟨A2, c2, rfl⟩ := ho1.form
    have s_ := run_str (P := Tryz.prog) Tryz.underlying22 Tryz.underlying5 Tryz.underlying9 ho1.bs s1.length c2 rfl a1 (Ext.refl a1)
    clear hr1 hr2 hk1 hk2 hsz1 ho1 hvc t1
    have C := b1.cell 1 _ rfl
    have F := b1.frz
    obtain ⟨w1_, hw_⟩ : ∃ x, x = a1.setCell ⟨D, 1, none⟩ (.string (st s1)) := ⟨_, rfl⟩
    have t2 := b1.set #[.int .i64 (v0 : Nat), .string (st s1), .string ⟨#[]⟩, .string ⟨#[]⟩, .int .i64 0, .int .i64 0, .int .u8 0, .int .i64 0, .int .i64 0, .slice none 0 0] rfl hw_
    have HW1 := Lib.hid hw_
    clear hw_ b1
    -- field 2
    go_wp2_with (with_reducible first | refine sA 90 ?_ | refine sS 90 ?_ | refine sL 90 ?_)
    rw [← HW1.out]
    clear C F HW1
    refine (hN _ _ 1 (by omega) (TD.r t2)).mono ?_
    rintro e a2' ⟨rfl, hr1, hk1⟩
    have hvc := valB_cut 1 e2
    go_wp2_with (with_reducible first | refine sA 90 ?_ | refine sS 90 ?_ | refine sL 90 ?_)
    refine (hC _ _ _ (by omega) hr1).mono ?_
    rintro e a2 ⟨vb, rfl, ho1, hr2, hk2⟩
    have b2 : TD w wr p D e3 #[.int .i64 (v0 : Nat), .string (st s1), .string ⟨#[]⟩, .string ⟨#[]⟩, .int .i64 0, .int .i64 0, .int .u8 0, .int .i64 0, .int .i64 0, .slice none 0 0] a2 := TD.step t2 (by rw [H_e3.out]; exact hr2) (hk1.trans hk2)
    have hsz1 := (t2.k.trans hk1).size
    have ho1 : Own a2 a2'.heap.size vb s2 := by rw [H_s2.out]; exact ho1
    obtain ⟨A2, c2, rfl⟩ := ho1.form
    have s_ := run_str (P := Tryz.prog) Tryz.underlying22 Tryz.underlying5 Tryz.underlying9 ho1.bs s2.length c2 rfl a2 (Ext.refl a2)
    clear hr1 hr2 hk1 hk2 hsz1 ho1 hvc t2
    have C := b2.cell 2 _ rfl
    have F := b2.frz
    obtain ⟨w2_, hw_⟩ : ∃ x, x = a2.setCell ⟨D, 2, none⟩ (.string (st s2)) := ⟨_, rfl⟩
    have t3 := b2.set #[.int .i64 (v0 : Nat), .string (st s1), .string (st s2), .string ⟨#[]⟩, .int .i64 0, .int .i64 0, .int .u8 0, .int .i64 0, .int .i64 0, .slice none 0 0] rfl hw_
    have HW2 := Lib.hid hw_
    clear hw_ b2
    -- field 3
    go_wp2_with (with_reducible first | refine sA 90 ?_ | refine sS 90 ?_ | refine sL 90 ?_)
    rw [← HW2.out]
    clear C F HW2
    refine (hN _ _ 1 (by omega) (TD.r t3)).mono ?_
    rintro e a3' ⟨rfl, hr1, hk1⟩
    have hvc := valB_cut 1 e3
    go_wp2_with (with_reducible first | refine sA 90 ?_ | refine sS 90 ?_ | refine sL 90 ?_)
    refine (hC _ _ _ (by omega) hr1).mono ?_
    rintro e a3 ⟨vb, rfl, ho1, hr2, hk2⟩
    have b3 : TD w wr p D e4 #[.int .i64 (v0 : Nat), .string (st s1), .string (st s2), .string ⟨#[]⟩, .int .i64 0, .int .i64 0, .int .u8 0, .int .i64 0, .int .i64 0, .slice none 0 0] a3 := TD.step t3 (by rw [H_e4.out]; exact hr2) (hk1.trans hk2)
    have hsz1 := (t3.k.trans hk1).size
    have ho1 : Own a3 a3'.heap.size vb s3 := by rw [H_s3.out]; exact ho1
    obtain ⟨A2, c2, rfl⟩ := ho1.form
    have s_ := run_str (P := Tryz.prog) Tryz.underlying22 Tryz.underlying5 Tryz.underlying9 ho1.bs s3.length c2 rfl a3 (Ext.refl a3)
    clear hr1 hr2 hk1 hk2 hsz1 ho1 hvc t3
    have C := b3.cell 3 _ rfl
    have F := b3.frz
    obtain ⟨w3_, hw_⟩ : ∃ x, x = a3.setCell ⟨D, 3, none⟩ (.string (st s3)) := ⟨_, rfl⟩
    have t4 := b3.set #[.int .i64 (v0 : Nat), .string (st s1), .string (st s2), .string (st s3), .int .i64 0, .int .i64 0, .int .u8 0, .int .i64 0, .int .i64 0, .slice none 0 0] rfl hw_
    have HW3 := Lib.hid hw_
    clear hw_ b3
    -- field 4
    go_wp2_with (with_reducible first | refine sA 90 ?_ | refine sS 90 ?_ | refine sL 90 ?_)
    rw [← HW3.out]
    clear C F HW3
    refine (hN _ _ 4 (by omega) (TD.r t4)).mono ?_
    rintro e a4 ⟨rfl, hr1, hk1⟩
    have b4 : TD w wr p D e5 #[.int .i64 (v0 : Nat), .string (st s1), .string (st s2), .string (st s3), .int .i64 0, .int .i64 0, .int .u8 0, .int .i64 0, .int .i64 0, .slice none 0 0] a4 := TD.step t4 (by rw [H_e5.out]; exact hr1) hk1
    rw [← H_v4.out]
    clear hr1 hk1 t4
    have C := b4.cell 4 _ rfl
    have F := b4.frz
    obtain ⟨w4_, hw_⟩ : ∃ x, x = a4.setCell ⟨D, 4, none⟩ (.int .i64 (v4 : Nat)) := ⟨_, rfl⟩
    have t5 := b4.set #[.int .i64 (v0 : Nat), .string (st s1), .string (st s2), .string (st s3), .int .i64 (v4 : Nat), .int .i64 0, .int .u8 0, .int .i64 0, .int .i64 0, .slice none 0 0] rfl hw_
    have HW4 := Lib.hid hw_
    clear hw_ b4
    -- field 5
    go_wp2_with (with_reducible first | refine sA 90 ?_ | refine sS 90 ?_ | refine sL 90 ?_)
    rw [← HW4.out]
    clear C F HW4
    refine (hN _ _ 1 (by omega) (TD.r t5)).mono ?_
    rintro e a5 ⟨rfl, hr1, hk1⟩
    have b5 : TD w wr p D e6 #[.int .i64 (v0 : Nat), .string (st s1), .string (st s2), .string (st s3), .int .i64 (v4 : Nat), .int .i64 0, .int .u8 0, .int .i64 0, .int .i64 0, .slice none 0 0] a5 := TD.step t5 (by rw [H_e6.out]; exact hr1) hk1
    rw [← H_v5.out]
    clear hr1 hk1 t5
    have C := b5.cell 5 _ rfl
    have F := b5.frz
    obtain ⟨w5_, hw_⟩ : ∃ x, x = a5.setCell ⟨D, 5, none⟩ (.int .i64 (v5 : Nat)) := ⟨_, rfl⟩
    have t6 := b5.set #[.int .i64 (v0 : Nat), .string (st s1), .string (st s2), .string (st s3), .int .i64 (v4 : Nat), .int .i64 (v5 : Nat), .int .u8 0, .int .i64 0, .int .i64 0, .slice none 0 0] rfl hw_
    have HW5 := Lib.hid hw_
    clear hw_ b5
    -- field 6
    go_wp2_with (with_reducible first | refine sA 90 ?_ | refine sS 90 ?_ | refine sL 90 ?_)
    rw [← HW5.out]
    clear C F HW5
    refine (hN _ _ 1 (by omega) (TD.r t6)).mono ?_
    rintro e a6 ⟨rfl, hr1, hk1⟩
    have b6 : TD w wr p D e7 #[.int .i64 (v0 : Nat), .string (st s1), .string (st s2), .string (st s3), .int .i64 (v4 : Nat), .int .i64 (v5 : Nat), .int .u8 0, .int .i64 0, .int .i64 0, .slice none 0 0] a6 := TD.step t6 (by rw [H_e7.out]; exact hr1) hk1
    rw [← H_v6.out]
    clear hr1 hk1 t6
    have C := b6.cell 6 _ rfl
    have F := b6.frz
    obtain ⟨w6_, hw_⟩ : ∃ x, x = a6.setCell ⟨D, 6, none⟩ (.int .u8 ((v6 : Int) % 256)) := ⟨_, rfl⟩
    have t7 := b6.set #[.int .i64 (v0 : Nat), .string (st s1), .string (st s2), .string (st s3), .int .i64 (v4 : Nat), .int .i64 (v5 : Nat), .int .u8 ((v6 : Int) % 256), .int .i64 0, .int .i64 0, .slice none 0 0] rfl hw_
    have HW6 := Lib.hid hw_
    clear hw_ b6
    -- field 7
    go_wp2_with (with_reducible first | refine sA 90 ?_ | refine sS 90 ?_ | refine sL 90 ?_)
    rw [← HW6.out]
    clear C F HW6
    refine (hN _ _ 1 (by omega) (TD.r t7)).mono ?_
    rintro e a7 ⟨rfl, hr1, hk1⟩
    have b7 : TD w wr p D e8 #[.int .i64 (v0 : Nat), .string (st s1), .string (st s2), .string (st s3), .int .i64 (v4 : Nat), .int .i64 (v5 : Nat), .int .u8 ((v6 : Int) % 256), .int .i64 0, .int .i64 0, .slice none 0 0] a7 := TD.step t7 (by rw [H_e8.out]; exact hr1) hk1
    rw [← H_v7.out]
    clear hr1 hk1 t7
    have C := b7.cell 7 _ rfl
    have F := b7.frz
    obtain ⟨w7_, hw_⟩ : ∃ x, x = a7.setCell ⟨D, 7, none⟩ (.int .i64 (v7 : Nat)) := ⟨_, rfl⟩
    have t8 := b7.set #[.int .i64 (v0 : Nat), .string (st s1), .string (st s2), .string (st s3), .int .i64 (v4 : Nat), .int .i64 (v5 : Nat), .int .u8 ((v6 : Int) % 256), .int .i64 (v7 : Nat), .int .i64 0, .slice none 0 0] rfl hw_
    have HW7 := Lib.hid hw_
    clear hw_ b7
    -- field 8
    go_wp2_with (with_reducible first | refine sA 90 ?_ | refine sS 90 ?_ | refine sL 90 ?_)
    rw [← HW7.out]
    clear C F HW7
    refine (hN _ _ 4 (by omega) (TD.r t8)).mono ?_
    rintro e a8 ⟨rfl, hr1, hk1⟩
    have b8 : TD w wr p D e9 #[.int .i64 (v0 : Nat), .string (st s1), .string (st s2), .string (st s3), .int .i64 (v4 : Nat), .int .i64 (v5 : Nat), .int .u8 ((v6 : Int) % 256), .int .i64 (v7 : Nat), .int .i64 0, .slice none 0 0] a8 := TD.step t8 (by rw [H_e9.out]; exact hr1) hk1
    rw [← H_v8.out]
    clear hr1 hk1 t8
    have C := b8.cell 8 _ rfl
    have F := b8.frz
    obtain ⟨w8_, hw_⟩ : ∃ x, x = a8.setCell ⟨D, 8, none⟩ (.int .i64 (v8 : Nat)) := ⟨_, rfl⟩
    have t9 := b8.set #[.int .i64 (v0 : Nat), .string (st s1), .string (st s2), .string (st s3), .int .i64 (v4 : Nat), .int .i64 (v5 : Nat), .int .u8 ((v6 : Int) % 256), .int .i64 (v7 : Nat), .int .i64 (v8 : Nat), .slice none 0 0] rfl hw_
    have HW8 := Lib.hid hw_
    clear hw_ b8
    -- field 9
    go_wp2_with (with_reducible first | refine sA 90 ?_ | refine sS 90 ?_ | refine sL 90 ?_)
    rw [← HW8.out]
    clear C F HW8
    refine (hN _ _ 2 (by omega) (TD.r t9)).mono ?_
    rintro e a9' ⟨rfl, hr1, hk1⟩
    have hvc := valB_cut 2 e9
    go_wp2_with (with_reducible first | refine sA 90 ?_ | refine sS 90 ?_ | refine sL 90 ?_)
    refine (hC _ _ _ (by omega) hr1).mono ?_
    rintro e a9 ⟨vb, rfl, ho1, hr2, hk2⟩
    have b9 : TD w wr p D e10 #[.int .i64 (v0 : Nat), .string (st s1), .string (st s2), .string (st s3), .int .i64 (v4 : Nat), .int .i64 (v5 : Nat), .int .u8 ((v6 : Int) % 256), .int .i64 (v7 : Nat), .int .i64 (v8 : Nat), .slice none 0 0] a9 := TD.step t9 (by rw [H_e10.out]; exact hr2) (hk1.trans hk2)
    have hsz1 := (t9.k.trans hk1).size
    have ho1 : Own a9 a9'.heap.size vb lb := by rw [H_lb.out]; exact ho1
    obtain ⟨Ab, cb, rfl⟩ := ho1.form
    clear hr1 hr2 hk1 hk2 hvc t9
    have C := b9.cell 9 _ rfl
    have F := b9.frz
    obtain ⟨w9_, hw_⟩ : ∃ x, x = a9.setCell ⟨D, 9, none⟩ (.slice Ab lb.length cb) := ⟨_, rfl⟩
    have t10 := b9.set #[.int .i64 (v0 : Nat), .string (st s1), .string (st s2), .string (st s3), .int .i64 (v4 : Nat), .int .i64 (v5 : Nat), .int .u8 ((v6 : Int) % 256), .int .i64 (v7 : Nat), .int .i64 (v8 : Nat), .slice Ab lb.length cb] rfl hw_
    have HW9 := Lib.hid hw_
    have hov := ho1.off b9.d (by decide) (hw_ ▸ (Kept.refl _ _).setCell (.inl (by simp)) _ : Kept [D] a9 w9_)
    clear ho1
    clear hw_ b9
    cases e10 with
    | none =>
     have HT : Hid (takeAllT l = .inl 3) := Lib.hid (by rw [HT3.out, ← HRQ.out, HDQ.out, repQ_none])
     obtain ⟨Ar, nr, cr, hrowR⟩ := t10.r.2.2
     obtain ⟨-, R1, -⟩ := row2_at hrowR
     have hx := t10.r.2.1
     rw [HW9.out] at R1
     clear t10 hrowR hov
     go_wp2
     go_ret2
     rw [← HW9.out]
     exact TASays.no HT.out hx
    | some l2 =>
     obtain ⟨Ar, cr, hrowR, -, -⟩ := t10.r.2.2
     obtain ⟨-, R1, -⟩ := row2_at hrowR
     rw [HW9.out] at R1
     clear hrowR
     go_wp2_with (with_reducible refine sL 90 ?_)
     rw [← HW9.out]
     clear R1 HW9 C F
     refine go_on (wpList_load_row rfl 90 _ rfl D rfl 90 _ (0, 0) _ t10.d Tryz.underlying90 rfl (by kernel_rfl) ?_)
     have hst : Stp [5, 90] wr (w9_.alloc (.cells #[.int .i64 (v0 : Nat), .string (st s1), .string (st s2), .string (st s3), .int .i64 (v4 : Nat), .int .i64 (v5 : Nat), .int .u8 ((v6 : Int) % 256), .int .i64 (v7 : Nat), .int .i64 (v8 : Nat), .slice Ab lb.length cb] 90)) := (Stp.kept t10.k (by intro k hk hlt; simp at hk; subst hk; exact ⟨_, _, _, HRW.out, by decide⟩)).trans (.of_ext ((Ext.refl _).alloc _))
     obtain ⟨css, q1, q2, q3, q4⟩ := HDS.out.stp hst
     have hxt : Ext w9_ (w9_.alloc (.cells #[.int .i64 (v0 : Nat), .string (st s1), .string (st s2), .string (st s3), .int .i64 (v4 : Nat), .int .i64 (v5 : Nat), .int .u8 ((v6 : Int) % 256), .int .i64 (v7 : Nat), .int .i64 (v8 : Nat), .slice Ab lb.length cb] 90)) := (Ext.refl _).alloc _
     have hrowt := heap_alloc_new w9_ (.cells #[.int .i64 (v0 : Nat), .string (st s1), .string (st s2), .string (st s3), .int .i64 (v4 : Nat), .int .i64 (v5 : Nat), .int .u8 ((v6 : Int) % 256), .int .i64 (v7 : Nat), .int .i64 (v8 : Nat), .slice Ab lb.length cb] 90)
     have hret := t10.r.ext hxt
     have hovt := hov.ext hxt
     generalize hwt : w9_.alloc (.cells #[.int .i64 (v0 : Nat), .string (st s1), .string (st s2), .string (st s3), .int .i64 (v4 : Nat), .int .i64 (v5 : Nat), .int .u8 ((v6 : Int) % 256), .int .i64 (v7 : Nat), .int .i64 (v8 : Nat), .slice Ab lb.length cb] 90) = wt at *
     have HWT := Lib.hid hwt
     have hszw : wr.heap.size ≤ wt.heap.size := hst.1
     have hszo := hxr.size
     clear hwt t10 hov hst hxt HDS
     go_wp2_with (at_builtin; refine unstop ?_)
     rw [HWT.out]
     refine go_on (wpList_app deedT q3 (Sl.row hrowt) rfl rfl rfl rfl rfl (by intro u hu; simp at hu; rcases hu with rfl | rfl | rfl | rfl | rfl | rfl | rfl | rfl | rfl | rfl <;> rfl) (by omega) (by omega) (by omega) ?_)
     intro v' wf hof hgf _
     obtain ⟨Af, cf, rfl⟩ := own_form hof
     obtain ⟨N, hkN, hN'⟩ := Kept.row q3 hgf
     obtain ⟨vRt, hrowRt⟩ := hret.row
     have hRN : p ∉ N := fun hm => by obtain ⟨_, cs, hc⟩ := hN' p hm; exact obj_ne hc hrowRt (by decide) rfl
     have hstf : Stp [5] wt wf := .kept hkN (by intro k hk _; obtain ⟨_, cs, hc⟩ := hN' k hk; exact ⟨_, _, _, hc, by decide⟩)
     have hdsG : OwnDs wf w.heap.size (.slice Af (ds.length + 1) cf) (ds ++ [⟨(v0 : Nat), s1, s2, s3, (v4 : Nat), (v5 : Nat), UInt8.ofNat v6, (v7 : Nat), (v8 : Nat), lb⟩]) := OwnG.push q1 q2 hof (fun k cs x a b => (q4 k cs x a b).stp hstf (by simp)) rfl ⟨_, by rw [ddC, ← u8_of], (hovt.low (by omega)).stp hstf (by simp)⟩
     have hrG : RdAt w wf p (some l2) := hret.kept hkN hRN (fun k hk => by have := (hN' k hk).1; omega)
     clear q1 q2 q3 q4 hof hgf hkN hN' hstf hret hovt hrowt hrowRt
     go_wp2
     go_roundw
     case rel => exact ⟨i + 1, _, l2, by go_num, by omega, by simp [HDL.out], hrG, hdsG, by rw [← HDV.out, ← HDQ.out]; exact HRV.out, by rw [← HDQ.out]; exact HRQ.out⟩
     case measure => simp [intOf]; omega
   ·have hlt2 : ¬ (i : Int) < (n : Int) := by omega
    obtain rfl : i = n := by omega
    rw [Nat.sub_self] at hrv hrq
    have hdsr : repV dedQ dedV i (some r) = ds := by rw [← hrv]; simp [repV]
    have hqr : repQ dedQ i (some r) = some l1 := by rw [← hrq]; rfl
    have hokD : ∀ d ∈ ds, okD d := by rw [← hdsr]; exact repV_okD _ _
    have HT4 : Hid (takeAllT l = if l1 = [] then (if firstC ds ≠ 0 then .inl (firstC ds) else .inr ds) else .inl 4) := Lib.hid (by rw [HT3.out, hqr, hdsr])
    obtain ⟨Ar, cr, hrowR, -, -⟩ := hr.2.2
    obtain ⟨R0, R1, RF⟩ := row2_at hrowR
    have hx := hr.2.1
    clear hrv hrq hdsr hqr hrowR hr
    by_cases hr0 : l1 = []
    ·have HT5 := Lib.hid (HT4.out.trans (if_pos hr0))
     have hr0' : ¬ (0 : Int) < (l1.length : Int) := by rw [hr0]; simp
     obtain ⟨Av, cv, rfl⟩ := hds.form
     have h := hds.rsm hokD
     have HDS := Lib.hid hds
     have HOKD := Lib.hid hokD
     obtain ⟨m, hm⟩ : ∃ m, m = ds.length := ⟨_, rfl⟩
     subst hdl
     clear HT4 hr0 hds hokD hm
     go_wp2
     obtain ⟨wo, rfl⟩ : ∃ x, x = wr := ⟨wr, rfl⟩
     go_loopw [9] (fun iv wr2 => ∃ k : Nat, iv = .int .i64 k ∧ k ≤ ds.length ∧ (∀ d ∈ ds.take k, checkD d = 0) ∧ Ext wo wr2) (fun iv _ => ds.length - (intOf iv).toNat)
     case atStart => exact ⟨0, rfl, by omega, by simp, Ext.refl _⟩
     case round =>
      clear R0 R1 RF
      obtain ⟨k, rfl, hk, hok, hx2⟩ := hrel
      by_cases hlt : k < ds.length
      ·have hlt2 : (k : Int) < ds.length := by omega
       obtain ⟨ad, cs, hA, had, hcs, hcell, A2, cap2, hcs2, hby, hc2, hb1, hb2, hb3, hb4⟩ := h.at_ (by omega) hlt
       subst hA hcs2
       have hcl := fun j v hj => hx2.cell (show wo.cell? ((ad.add (k * 10)).add j) = some v by rw [add_addB]; exact hcell j v hj)
       have HFC := Lib.hid (fun h0 => firstC_at hlt hok h0)
       have hTK : Hid (ds.take (k + 1) = ds.take k ++ [ds[k]]) := Lib.hid (by rw [List.take_add_one, List.getElem?_eq_getElem hlt]; rfl)
       obtain ⟨-, o1, o2, o3, -⟩ := HOKD.out _ (List.getElem_mem hlt)
       have hCK := RCheck_any ds[k] A2 cap2 wr (hby.bs.ext hx2) hc2 (by omega) (by omega) (by omega) (hT.ext (hx.trans hx2))
       clear hcs hcell hby had hb1 hb2 hb3 hb4 o1 o2 o3
       generalize ds[k] = dd at *
       obtain ⟨dw, du, db, dt, di, dh, df, dsh, de, dby⟩ := dd
       unfold ddC at hCK hcl
       simp only at hcl hCK hc2
       go_wp2_with (with_reducible first | refine sA 90 ?_ | refine sS 90 ?_ | refine sL 90 ?_)
       refine go_on (wpList_load_elem rfl 90 _ rfl (ad.add (k * 10)) rfl _ _ hcl Tryz.underlying90 rfl (by kernel_rfl) ?_)
       go_wp2_with fail
       refine hCK.mono ?_
       rintro e w3 ⟨rfl, hx3⟩
       have hx03 := hx2.trans hx3
       clear hCK hcl hx3
       by_cases hc0 : checkD ⟨dw, du, db, dt, di, dh, df, dsh, de, dby⟩ = 0
       ·have HC0 := Lib.hid hc0
        rw [hc0]
        clear hc0
        go_wp2
        go_roundw
        case rel =>
         refine ⟨k + 1, by go_num, by omega, ?_, hx03⟩
         rw [hTK.out]
         intro d hd
         rcases List.mem_append.1 hd with hd | hd
         ·exact hok d hd
         ·simp only [List.mem_singleton] at hd
          subst hd
          exact HC0.out
        case measure => simp [intOf]; omega
       ·have hc2 : (((checkD ⟨dw, du, db, dt, di, dh, df, dsh, de, dby⟩ : Nat) : Int) == 0) = false := by simpa using hc0
        have hc3 : ¬ checkD ⟨dw, du, db, dt, di, dh, df, dsh, de, dby⟩ = 0 := hc0
        have HB : Hid (takeAllT l = .inl (checkD ⟨dw, du, db, dt, di, dh, df, dsh, de, dby⟩)) := Lib.hid (by rw [HT5.out, HFC.out hc0]; simp [hc0])
        generalize checkD ⟨dw, du, db, dt, di, dh, df, dsh, de, dby⟩ = z at *
        clear HFC hTK hok
        go_wp2
        go_ret2
        exact TASays.no HB.out (hx.trans hx03)
      ·have hlt2 : ¬ (k : Int) < ds.length := by omega
       obtain rfl : k = ds.length := by omega
       rw [List.take_length] at hok
       have HB : Hid (takeAllT l = .inr ds) := Lib.hid (by rw [HT5.out, firstC_ok hok]; simp)
       clear hok h hlt
       go_wp2
       go_ret2
       refine ⟨hx.trans hx2, ?_⟩
       rw [HB.out]
       exact ⟨_, rfl, HDS.out.stp (.of_ext hx2)⟩
    ·have HT5 : Hid (takeAllT l = .inl 4) := Lib.hid (HT4.out.trans (if_neg hr0))
     have hr0' : (0 : Int) < (l1.length : Int) := by have := List.length_pos_iff.2 hr0; omega
     clear HT4 hr0 hds
     go_wp2
     go_ret2
     exact TASays.no HT5.out hx
end Go.Proofs.YthlppbbejdeeoaaGreatDoor
