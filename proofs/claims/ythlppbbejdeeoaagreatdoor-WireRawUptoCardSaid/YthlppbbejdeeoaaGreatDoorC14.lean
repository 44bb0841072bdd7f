/- The walk of the reference's PutUser. Conditions: the bounds named; the library's two tables. The walk of the reference's TakeUser. Conditions: the hypotheses of each theorem; the library's two tables. -/
import Derived.Test.YthlppbbejdeeoaaGreatDoorC12
import Derived.Test.YthlppbbejdeeoaaGreatDoorRDd4M
import Derived.Test.YthlppbbejdeeoaaGreatDoorC11
import Derived.Test.YthlppbbejdeeoaaGreatDoorC3
import Derived.Test.YthlppbbejdeeoaaGreatDoorC7
import Derived.Test.YthlppbbejdeeoaaGreatDoorC8
import Derived.Test.YthlppbbejdeeoaaGreatDoorC6
namespace Go.Proofs.YthlppbbejdeeoaaGreatDoor
open Go.RowKit
theorem new_byte {n : Nat} {x : Int} (h : x = (n : Int) % 256) (W : World) : Bs (W.alloc (.cells #[.int .u8 x] 5)) (some ⟨W.heap.size, 0, none⟩) (beN 1 n) := by
 subst h
 exact Bs.new W (beN 1 n) _ (by rw [u8_of]; simp [beN, bv]) _ _
end Go.Proofs.YthlppbbejdeeoaaGreatDoor
namespace Go.Proofs.YthlppbbejdeeoaaGreatDoor
open Go.RowKit
theorem shV_len (q : Option By) : (shV q).length < 256 := by
 have := cutV_le (valB (cutV 1 q)) (cutQ 1 q)
 have := valB_cut 1 q
 unfold shV
 omega
theorem repV_names : ∀ (n : Nat) (q : Option By), ∀ b ∈ repV boxQ boxV n q, b.name.length < 256
 | 0, _, b, hb => by simp [repV] at hb
 | _ + 1, none, b, hb => by simp [repV] at hb
 | n + 1, some l, b, hb => by
  simp only [repV, List.mem_cons] at hb
  rcases hb with rfl | hb
  ·exact shV_len (some l)
  ·exact repV_names n _ b hb
set_option maxRecDepth 20000 in
set_option maxHeartbeats 8000000 in
theorem RTakeUser_any (A : Option Addr) (cap : Nat) (l : By) (w : World) (hb : Bs w A l) (hlc : l.length ≤ cap) (hT : Tabs w) : Calls Tryz.prog 76 #[.slice A l.length cap] w (TUSays l w) := by
 obtain ⟨wp, hwp⟩ : ∃ wp, wp = (w.alloc (.cells zUser 116)).alloc (.cells #[.slice A l.length cap, .bool false] 63) := ⟨_, rfl⟩
 have hxp : Ext w wp := by rw [hwp]; exact ((Ext.refl w).alloc _).alloc _
 have hszp : wp.heap.size = w.heap.size + 2 := by rw [hwp]; simp
 have hG : wp.heap[w.heap.size]? = some (.cells zUser 116 (0, 0)) := by rw [hwp]; exact ((Ext.refl _).alloc _).obj (heap_alloc_new w _)
 have hR : RdAt w wp (w.heap.size + 1) (some l) := ⟨by omega, hxp, A, cap, by
  have := heap_alloc_new (w.alloc (.cells zUser 116)) (.cells #[.slice A l.length cap, .bool false] 63)
  rw [hwp]; simpa using this, hlc, hb⟩
 obtain ⟨p, hp⟩ : ∃ p, p = w.heap.size + 1 := ⟨_, rfl⟩
 obtain ⟨G, hGG⟩ : ∃ G, G = w.heap.size := ⟨_, rfl⟩
 have HP := Lib.hid hp
 have HG := Lib.hid hGG
 rw [← hp] at hR
 rw [← hGG] at hG
 have hpG : p ≠ G := by omega
 have hN := fun (w1 : World) (q : Option By) (n : Nat) (hn : n ≤ 4) (h1 : RdAt w w1 p q) => RRNum_any w w1 p n q h1 hn
 have hC := fun (w1 : World) (q : Option By) (n : Nat) (hn : n ≤ 100000) (h1 : RdAt w w1 p q) => RCut_any w w1 p n q h1 hn
 have HTS := Lib.hid (takeUs_sim l)
 have HWP := Lib.hid hwp
 unfold pt at hN hC
 obtain ⟨q2, hq2⟩ : ∃ q, q = shQ (some l) := ⟨_, rfl⟩
 obtain ⟨un, hun⟩ : ∃ x, x = shV (some l) := ⟨_, rfl⟩
 obtain ⟨uv, huv⟩ : ∃ x, x = valB (cutV 4 q2) := ⟨_, rfl⟩
 obtain ⟨q3, hq3⟩ : ∃ q, q = cutQ 4 q2 := ⟨_, rfl⟩
 obtain ⟨n, hn⟩ : ∃ n, n = valB (cutV 1 q3) := ⟨_, rfl⟩
 obtain ⟨q4, hq4⟩ : ∃ q, q = cutQ 1 q3 := ⟨_, rfl⟩
 have HU1 : Hid (usrQ (some l) = repQ boxQ n q4) := Lib.hid (by rw [hq4, hn, hq3, hq2]; rfl)
 have HU2 : Hid (usrV (some l) = ⟨un, (uv : Nat), repV boxQ boxV n q4⟩) := Lib.hid (by rw [hq4, hn, hq3, huv, hun, hq2]; rfl)
 have hn256 : n < 256 := by rw [hn]; exact valB_cut 1 q3
 have hunl : un.length < 256 := by rw [hun]; have := cutV_le (valB (cutV 1 (some l))) (cutQ 1 (some l)); have := valB_cut 1 (some l); unfold shV; omega
 have HQ2 := Lib.hid hq2
 have HUN := Lib.hid hun
 have HUVV := Lib.hid huv
 have HQ3 := Lib.hid hq3
 have HNN := Lib.hid hn
 have HQ4 := Lib.hid hq4
 clear hwp hb hlc hp hGG hq2 hun huv hq3 hn hq4
 go_enter Tryz.func76, Tryz.ntmps76
 go_wp2_with (with_reducible first | refine sA 116 ?_ | refine sS 116 ?_ | refine sL 116 ?_ | refine sA 136 ?_ | refine sS 136 ?_ | refine sL 136 ?_ | refine sA 138 ?_ | refine sS 138 ?_ | refine sL 138 ?_)
 refine go_on (wpList_alloc_ rfl rfl user_info ?_)
 go_wp2_with (with_reducible first | refine sA 116 ?_ | refine sS 116 ?_ | refine sL 116 ?_ | refine sA 136 ?_ | refine sS 136 ?_ | refine sL 136 ?_ | refine sA 138 ?_ | refine sS 138 ?_ | refine sL 138 ?_)
 rw [← HWP.out, ← HP.out]
 have hv1 := valB_cut 1 (some l)
 refine (hN _ _ 1 (by omega) hR).mono ?_
 rintro e w1 ⟨rfl, hr1, hk1⟩
 go_wp2_with (with_reducible first | refine sA 116 ?_ | refine sS 116 ?_ | refine sL 116 ?_ | refine sA 136 ?_ | refine sS 136 ?_ | refine sL 136 ?_ | refine sA 138 ?_ | refine sS 138 ?_ | refine sL 138 ?_)
 refine (hC _ _ _ (by omega) hr1).mono ?_
 rintro e w2 ⟨v2, rfl, ho2, hr2, hk2⟩
 have hr2 : RdAt w w2 p q2 := by rw [HQ2.out]; exact hr2
 have ho2 : Own w2 w1.heap.size v2 un := by rw [HUN.out]; exact ho2
 obtain ⟨A2, c2, rfl⟩ := ho2.form
 have s1 := run_str (P := Tryz.prog) Tryz.underlying22 Tryz.underlying5 Tryz.underlying9 ho2.bs un.length c2 rfl w2 (Ext.refl w2)
 have hk12 := hk1.trans hk2
 have hG2 := hk12.heap hG (by simpa using hpG.symm)
 go_wp2_with (with_reducible first | refine sA 116 ?_ | refine sS 116 ?_ | refine sL 116 ?_ | refine sA 136 ?_ | refine sS 136 ?_ | refine sL 136 ?_ | refine sA 138 ?_ | refine sS 138 ?_ | refine sL 138 ?_)
 refine go_on (wpList_alloc_ rfl rfl user_info ?_)
 go_wp2_with (with_reducible first | refine sA 116 ?_ | refine sS 116 ?_ | refine sL 116 ?_ | refine sA 136 ?_ | refine sS 136 ?_ | refine sL 136 ?_ | refine sA 138 ?_ | refine sS 138 ?_ | refine sL 138 ?_)
 refine go_on (wpList_store_last (c' := #[.string (st un), .int .i64 0, .slice none 0 0]) rfl rfl rfl rfl (by kernel_rfl) rfl (by simp [Value.oneCell']) ?_)
 intro wu hrowU hxu hszu
 obtain ⟨U, hU⟩ : ∃ U, U = w2.heap.size := ⟨_, rfl⟩
 rw [← hU] at hrowU
 have HUE := Lib.hid hU
 have hpU : p ≠ U := by have := hr2.lt; omega
 have hwU : w.heap.size ≤ U := by have := hr2.2.1.size; omega
 have hGU : G ≠ U := by have := obj_lt hG2; omega
 have hGu := hxu.obj hG2
 have hru := hr2.ext hxu
 clear s1 ho2 hr2 hG2 hxu hszu hU hr1 hk1 hk2 hk12 hG hR hv1
 go_wp2_with (with_reducible first | refine sA 116 ?_ | refine sS 116 ?_ | refine sL 116 ?_ | refine sA 136 ?_ | refine sS 136 ?_ | refine sL 136 ?_ | refine sA 138 ?_ | refine sS 138 ?_ | refine sL 138 ?_)
 rw [← HUE.out]
 refine (hN _ _ 4 (by omega) hru).mono ?_
 rintro e w3 ⟨rfl, hr3, hk3⟩
 have hr3 : RdAt w w3 p q3 := by rw [HQ3.out]; exact hr3
 rw [← HUVV.out]
 have hU3 := hk3.heap hrowU (by simpa using hpU.symm)
 have hG3 := hk3.heap hGu (by simpa using hpG.symm)
 obtain ⟨C0, C1, C2, F⟩ := row3_at hU3
 obtain ⟨w4, hw4⟩ : ∃ w4, w4 = w3.setCell ⟨U, 1, none⟩ (.int .i64 (uv : Nat)) := ⟨_, rfl⟩
 have hk4 : Kept [U] w3 w4 := hw4 ▸ (Kept.refl _ _).setCell (.inl (by simp)) _
 have hU4 : w4.heap[U]? = some (.cells #[.string (st un), .int .i64 (uv : Nat), .slice none 0 0] 116 (0, 0)) := by
  rw [hw4, heap_setCell_same w3 U 1 _ _ _ hU3]; rfl
 have hG4 := hk4.heap hG3 (by simpa using hGU)
 have hr4 := hr3.kept hk4 (by simpa using hpU) (by intro k hk; simp at hk; omega)
 have HW4 := Lib.hid hw4
 clear hrowU hGu hru hr3 hk3 hG3 hU3 hk4 hw4
 go_wp2_with (with_reducible first | refine sA 116 ?_ | refine sS 116 ?_ | refine sL 116 ?_ | refine sA 136 ?_ | refine sS 136 ?_ | refine sL 136 ?_ | refine sA 138 ?_ | refine sS 138 ?_ | refine sL 138 ?_)
 rw [← HW4.out]
 clear C0 C1 C2 F HW4
 refine (hN _ _ 1 (by omega) hr4).mono ?_
 rintro e w5 ⟨rfl, hr5, hk5⟩
 have hr5 : RdAt w w5 p q4 := by rw [HQ4.out]; exact hr5
 rw [← HNN.out]
 have hU5 := hk5.heap hU4 (by simpa using hpU.symm)
 have hG5 := hk5.heap hG4 (by simpa using hpG.symm)
 clear hr4 hk5 hU4 hG4
 go_wp2
 go_loopw [7] (fun iv wr => ∃ (i : Nat) (bs : List Bx) (q : Option By) (bv : Value), iv = .int .i64 i ∧ i ≤ n ∧ bs.length ≤ i ∧ RdAt w wr p q ∧ wr.heap[U]? = some (.cells #[.string (st un), .int .i64 (uv : Nat), bv] 116 (0, 0)) ∧ wr.heap[G]? = some (.cells zUser 116 (0, 0)) ∧ OwnXs wr w.heap.size bv bs ∧
  bs ++ repV boxQ boxV (n - i) q = repV boxQ boxV n q4 ∧ repQ boxQ (n - i) q = repQ boxQ n q4) (fun iv _ => n - (intOf iv).toNat)
 case atStart => exact ⟨0, [], q4, _, rfl, by omega, by simp, hr5, hU5, hG5, OwnG.nil _ _ _ _ _, rfl, rfl⟩
 case round =>
  clear hr5 hU5 hG5
  obtain ⟨i, bs, q, bv, rfl, hi, hbl, hr, hU, hG, hxs, hrv, hrq⟩ := hrel
  by_cases hlt : i < n
  ·have hlt2 : (i : Int) < (n : Int) := by omega
   cases q with
   | none =>
    obtain ⟨Ar, nr, cr, hrowR⟩ := hr.2.2
    obtain ⟨R0, R1, RF⟩ := row2_at hrowR
    clear hrowR
    have HT : Hid (takeUs l = .inl 3) := Lib.hid (by rw [HTS.out, HU1.out, ← hrq, repQ_none])
    go_wp2_with (with_reducible first | refine sA 116 ?_ | refine sS 116 ?_ | refine sL 116 ?_ | refine sA 136 ?_ | refine sS 136 ?_ | refine sL 136 ?_ | refine sA 138 ?_ | refine sS 138 ?_ | refine sL 138 ?_)
    refine go_on (wpList_store_whole (c := zUser) (c' := zUser) rfl rfl (congrArg (fun g => Value.pointer (some ⟨g, 0, none⟩)) HG.out.symm) rfl hG (by kernel_rfl) rfl (by simp [zUser, Value.oneCell']) ?_)
    intro wv hrow hkv _
    rw [HG.out] at hrow
    have hxv : Ext w wv := hr.2.1.kept hkv (by intro k hk; simp at hk; subst hk; exact Nat.le_of_eq HG.out.symm)
    clear hr hG hxs hrv hrq
    go_wp2
    ((try simp only [Exit.inBlock, Exit.then]); refine bodyPost_ret (results_cell1 rfl _ _ w.heap.size _ _ _ _ rfl hrow Tryz.underlying116 rfl (by kernel_rfl)) rfl ?_)
    refine ⟨hxv, ?_⟩
    rw [HT.out]
    rfl
   | some l1 =>
    obtain ⟨b2, hb2⟩ : ∃ q, q = shQ (some l1) := ⟨_, rfl⟩
    obtain ⟨bn, hbn⟩ : ∃ x, x = shV (some l1) := ⟨_, rfl⟩
    obtain ⟨bval, hbval⟩ : ∃ x, x = valB (cutV 4 b2) := ⟨_, rfl⟩
    obtain ⟨b3, hb3⟩ : ∃ q, q = cutQ 4 b2 := ⟨_, rfl⟩
    obtain ⟨bnx, hbnx⟩ : ∃ x, x = valB (cutV 4 b3) := ⟨_, rfl⟩
    obtain ⟨b4, hb4⟩ : ∃ q, q = cutQ 4 b3 := ⟨_, rfl⟩
    obtain ⟨m, hm⟩ : ∃ n, n = valB (cutV 1 b4) := ⟨_, rfl⟩
    obtain ⟨b5, hb5⟩ : ∃ q, q = cutQ 1 b4 := ⟨_, rfl⟩
    have HBQ : Hid (boxQ (some l1) = repQ letQ m b5) := Lib.hid (by rw [hb5, hm, hb4, hb3, hb2]; rfl)
    have HBV : Hid (boxV (some l1) = ⟨bn, (bval : Nat), (bnx : Nat), repV letQ letV m b5⟩) := Lib.hid (by rw [hb5, hm, hbnx, hb4, hbval, hb3, hbn, hb2]; rfl)
    have hm256 : m < 256 := by rw [hm]; exact valB_cut 1 b4
    have HRV : Hid (bs ++ [boxV (some l1)] ++ repV boxQ boxV (n - (i + 1)) (boxQ (some l1)) = repV boxQ boxV n q4) := Lib.hid (by
     rw [← hrv, show n - i = (n - (i + 1)) + 1 by omega, repV, List.append_assoc]; rfl)
    have HRQ : Hid (repQ boxQ (n - (i + 1)) (boxQ (some l1)) = repQ boxQ n q4) := Lib.hid (by
     rw [← hrq, show n - i = (n - (i + 1)) + 1 by omega, repQ])
    have HB2 := Lib.hid hb2
    have HBN := Lib.hid hbn
    have HBVAL := Lib.hid hbval
    have HB3 := Lib.hid hb3
    have HBNX := Lib.hid hbnx
    have HB4 := Lib.hid hb4
    have HM := Lib.hid hm
    have HB5 := Lib.hid hb5
    obtain ⟨Ar, cr, hrowR, hlr, hbr⟩ := hr.2.2
    obtain ⟨R0, R1, RF⟩ := row2_at hrowR
    have HXS := Lib.hid hxs
    have HRW := Lib.hid hrowR
    have hxr := hr.2.1
    have hw1 := valB_cut 1 (some l1)
    have hplt := hr.lt
    clear hrv hrq hb2 hbn hbval hb3 hbnx hb4 hm hb5 hrowR hlr hbr hxs
    go_wp2_with (with_reducible first | refine sA 116 ?_ | refine sS 116 ?_ | refine sL 116 ?_ | refine sA 136 ?_ | refine sS 136 ?_ | refine sL 136 ?_ | refine sA 138 ?_ | refine sS 138 ?_ | refine sL 138 ?_)
    refine (hN _ _ 1 (by omega) hr).mono ?_
    rintro e w1 ⟨rfl, hr1, hk1⟩
    clear R0 R1 RF
    go_wp2_with (with_reducible first | refine sA 116 ?_ | refine sS 116 ?_ | refine sL 116 ?_ | refine sA 136 ?_ | refine sS 136 ?_ | refine sL 136 ?_ | refine sA 138 ?_ | refine sS 138 ?_ | refine sL 138 ?_)
    refine (hC _ _ _ (by omega) hr1).mono ?_
    rintro e w2 ⟨v2, rfl, ho2, hr2, hk2⟩
    have hr2 : RdAt w w2 p b2 := by rw [HB2.out]; exact hr2
    have ho2 : Own w2 w1.heap.size v2 bn := by rw [HBN.out]; exact ho2
    obtain ⟨A2, c2, rfl⟩ := ho2.form
    have s1 := run_str (P := Tryz.prog) Tryz.underlying22 Tryz.underlying5 Tryz.underlying9 ho2.bs bn.length c2 rfl w2 (Ext.refl w2)
    have hk12 := hk1.trans hk2
    go_wp2_with (with_reducible first | refine sA 116 ?_ | refine sS 116 ?_ | refine sL 116 ?_ | refine sA 136 ?_ | refine sS 136 ?_ | refine sL 136 ?_ | refine sA 138 ?_ | refine sS 138 ?_ | refine sL 138 ?_)
    refine go_on (wpList_alloc_ rfl rfl box_info ?_)
    go_wp2_with (with_reducible first | refine sA 116 ?_ | refine sS 116 ?_ | refine sL 116 ?_ | refine sA 136 ?_ | refine sS 136 ?_ | refine sL 136 ?_ | refine sA 138 ?_ | refine sS 138 ?_ | refine sL 138 ?_)
    refine go_on (wpList_store_last (c' := #[.string (st bn), .int .i64 0, .int .i64 0, .slice none 0 0]) rfl rfl rfl rfl (by kernel_rfl) rfl (by simp [Value.oneCell']) ?_)
    intro wx hrowX hxx hszx
    obtain ⟨X, hXe⟩ : ∃ X, X = w2.heap.size := ⟨_, rfl⟩
    rw [← hXe] at hrowX
    have HXE := Lib.hid hXe
    have hpX : p ≠ X := by have := hr2.lt; omega
    have hwrX : wr.heap.size ≤ X := by have := hk12.size; omega
    have hrx := hr2.ext hxx
    have hkx := hk12.ext hxx
    clear s1 ho2 hr2 hxx hszx hXe hr1 hk1 hk2 hk12 hw1
    go_wp2_with (with_reducible first | refine sA 116 ?_ | refine sS 116 ?_ | refine sL 116 ?_ | refine sA 136 ?_ | refine sS 136 ?_ | refine sL 136 ?_ | refine sA 138 ?_ | refine sS 138 ?_ | refine sL 138 ?_)
    rw [← HXE.out]
    refine (hN _ _ 4 (by omega) hrx).mono ?_
    rintro e w3 ⟨rfl, hr3, hk3⟩
    have hr3 : RdAt w w3 p b3 := by rw [HB3.out]; exact hr3
    rw [← HBVAL.out]
    have hX3 := hk3.heap hrowX (by simpa using hpX.symm)
    have hkx3 := hkx.trans hk3
    obtain ⟨C0, C1, C2, C3, F⟩ := row4_at hX3
    obtain ⟨w4, hw4⟩ : ∃ w4, w4 = w3.setCell ⟨X, 1, none⟩ (.int .i64 (bval : Nat)) := ⟨_, rfl⟩
    have hk4 : Kept [X] w3 w4 := hw4 ▸ (Kept.refl _ _).setCell (.inl (by simp)) _
    have hX4 : w4.heap[X]? = some (.cells #[.string (st bn), .int .i64 (bval : Nat), .int .i64 0, .slice none 0 0] 136 (0, 0)) := by
     rw [hw4, heap_setCell_same w3 X 1 _ _ _ hX3]; rfl
    have hr4 := hr3.kept hk4 (by simpa using hpX) (by intro k hk; simp at hk; have := hxr.size; omega)
    have hkx4 : Kept [p] wr w4 := Kept.new (M := [p, X]) ((hkx3.mono (by simp)).trans (hk4.mono (by simp))) (by intro k hk; simp at hk; rcases hk with rfl | rfl <;> simp; omega)
    have HW4 := Lib.hid hw4
    clear hrowX hrx hkx hr3 hk3 hX3 hk4 hw4 hkx3
    go_wp2_with (with_reducible first | refine sA 116 ?_ | refine sS 116 ?_ | refine sL 116 ?_ | refine sA 136 ?_ | refine sS 136 ?_ | refine sL 136 ?_ | refine sA 138 ?_ | refine sS 138 ?_ | refine sL 138 ?_)
    rw [← HW4.out]
    clear C0 C1 C2 C3 F HW4
    refine (hN _ _ 4 (by omega) hr4).mono ?_
    rintro e w5 ⟨rfl, hr5, hk5⟩
    have hr5 : RdAt w w5 p b4 := by rw [HB4.out]; exact hr5
    rw [← HBNX.out]
    have hX5 := hk5.heap hX4 (by simpa using hpX.symm)
    have hkx5 := hkx4.trans hk5
    obtain ⟨C0, C1, C2, C3, F⟩ := row4_at hX5
    obtain ⟨w6, hw6⟩ : ∃ w6, w6 = w5.setCell ⟨X, 2, none⟩ (.int .i64 (bnx : Nat)) := ⟨_, rfl⟩
    have hk6 : Kept [X] w5 w6 := hw6 ▸ (Kept.refl _ _).setCell (.inl (by simp)) _
    have hX6 : w6.heap[X]? = some (.cells #[.string (st bn), .int .i64 (bval : Nat), .int .i64 (bnx : Nat), .slice none 0 0] 136 (0, 0)) := by
     rw [hw6, heap_setCell_same w5 X 2 _ _ _ hX5]; rfl
    have hr6 := hr5.kept hk6 (by simpa using hpX) (by intro k hk; simp at hk; have := hxr.size; omega)
    have hkx6 : Kept [p] wr w6 := Kept.new (M := [p, X]) ((hkx5.mono (by simp)).trans (hk6.mono (by simp))) (by intro k hk; simp at hk; rcases hk with rfl | rfl <;> simp; omega)
    have HW6 := Lib.hid hw6
    clear hX4 hkx4 hr4 hr5 hk5 hX5 hk6 hw6 hkx5
    go_wp2_with (with_reducible first | refine sA 116 ?_ | refine sS 116 ?_ | refine sL 116 ?_ | refine sA 136 ?_ | refine sS 136 ?_ | refine sL 136 ?_ | refine sA 138 ?_ | refine sS 138 ?_ | refine sL 138 ?_)
    rw [← HW6.out]
    clear C0 C1 C2 C3 F HW6
    refine (hN _ _ 1 (by omega) hr6).mono ?_
    rintro e w7 ⟨rfl, hr7, hk7⟩
    have hr7 : RdAt w w7 p b5 := by rw [HB5.out]; exact hr7
    rw [← HM.out]
    have hX7 := hk7.heap hX6 (by simpa using hpX.symm)
    have hkx7 := hkx6.trans hk7
    clear hX6 hkx6 hr6 hk7
    go_wp2
    obtain ⟨wo, rfl⟩ : ∃ x, x = wr := ⟨wr, rfl⟩
    go_loopw [10] (fun jv wi => ∃ (j : Nat) (ls : List Lt) (q' : Option By) (lv : Value), jv = .int .i64 j ∧ j ≤ m ∧ ls.length ≤ j ∧ RdAt w wi p q' ∧ Kept [p] wo wi ∧ wi.heap[X]? = some (.cells #[.string (st bn), .int .i64 (bval : Nat), .int .i64 (bnx : Nat), lv] 136 (0, 0)) ∧ OwnLs wi wo.heap.size lv ls ∧
     ls ++ repV letQ letV (m - j) q' = repV letQ letV m b5 ∧ repQ letQ (m - j) q' = repQ letQ m b5) (fun jv _ => m - (intOf jv).toNat)
    case atStart => exact ⟨0, [], b5, _, rfl, by omega, by simp, hr7, hkx7, hX7, OwnG.nil _ _ _ _ _, rfl, rfl⟩
    case round =>
     clear hr7 hX7 hkx7 hr
     obtain ⟨j, ls, q', lv, rfl, hj, hll, hri, hki, hXi, hls, hlv, hlq⟩ := hrel
     by_cases hltj : j < m
     ·have hltj2 : (j : Int) < (m : Int) := by omega
      cases q' with
      | none =>
       obtain ⟨Ar, nr, cr, hrowR⟩ := hri.2.2
       obtain ⟨R0, R1, RF⟩ := row2_at hrowR
       clear hrowR
       have hl1 : ls = repV letQ letV m b5 := by rw [← hlv, repV_none]; simp
       have hl2 : none = repQ letQ m b5 := by rw [← hlq, repQ_none]
       have HBXV : Hid (boxV (some l1) = ⟨bn, (bval : Nat), (bnx : Nat), ls⟩) := Lib.hid (by rw [HBV.out, hl1])
       have HBXQ : Hid (boxQ (some l1) = none) := Lib.hid (by rw [HBQ.out, hl2])
       clear hl1 hl2 hlv hlq
       obtain ⟨Al, cl, rfl⟩ := hls.form
       have hUi := hki.heap hU (by simpa using hpU.symm)
       have hGi := hki.heap hG (by simpa using hpG.symm)
       have C2 := fun w' (hx' : Ext wr w') => (row3_at (hx'.obj hUi)).2.2.1
       obtain ⟨vR, hrowR'⟩ := hri.row
       have hrowi' : wr.heap[X]? = some (.cells (bxC ⟨bn, (bval : Nat), (bnx : Nat), ls⟩ (.slice Al ls.length cl)) 136 (0, 0)) := hXi
       have hst : Stp [5, 138, 136] wo (wr.alloc (.cells (bxC ⟨bn, (bval : Nat), (bnx : Nat), ls⟩ (.slice Al ls.length cl)) 136)) := (Stp.kept hki (by intro k hk hlt; simp at hk; subst hk; exact ⟨_, _, _, HRW.out, by decide⟩)).trans (.of_ext ((Ext.refl _).alloc _))
       obtain ⟨css, q1, q2, q3, q4'⟩ := HXS.out.stp hst (by simp) (by simp) (by simp)
       have hxt : Ext wr (wr.alloc (.cells (bxC ⟨bn, (bval : Nat), (bnx : Nat), ls⟩ (.slice Al ls.length cl)) 136)) := (Ext.refl _).alloc _
       have hrowt := heap_alloc_new wr (.cells (bxC ⟨bn, (bval : Nat), (bnx : Nat), ls⟩ (.slice Al ls.length cl)) 136)
       have hUt := hxt.obj hUi
       have hGt := hxt.obj hGi
       have hret := hri.ext hxt
       have hlst := hls.stp (.of_ext hxt) (ts := [5, 138]) (by simp) (by simp)
       generalize hwt : wr.alloc (.cells (bxC ⟨bn, (bval : Nat), (bnx : Nat), ls⟩ (.slice Al ls.length cl)) 136) = wt at *
       have HWT := Lib.hid hwt
       unfold bxC at HWT
       clear hwt hls
       go_wp2_with (with_reducible refine sL 136 ?_)
       refine go_on (wpList_load_row rfl 136 _ rfl X rfl 136 _ (0, 0) _ hXi Tryz.underlying136 rfl (by kernel_rfl) ?_)
       go_wp2_with (at_builtin; refine unstop ?_)
       rw [HWT.out]
       have hszw : wo.heap.size ≤ wt.heap.size := hst.1
       have hszo := hxr.size
       have hbl' : bs.length ≤ 255 := by omega
       refine go_on (wpList_app boxT q3 (Sl.row hrowt) rfl rfl rfl rfl rfl (bxC_one _ Al ls.length cl) (by omega) (by omega) (by omega) ?_)
       intro v' wf hof hgf _
       obtain ⟨Af, cf, rfl⟩ := own_form hof
       obtain ⟨N, hkN, hN'⟩ := Kept.row q3 hgf
       have hUN : U ∉ N := fun hm => by obtain ⟨_, cs, hc⟩ := hN' U hm; exact obj_ne hc hUt (by decide) rfl
       have hGN : G ∉ N := fun hm => by obtain ⟨_, cs, hc⟩ := hN' G hm; exact obj_ne hc hGt (by decide) rfl
       obtain ⟨vRt, hrowRt⟩ := hret.row
       have hRN : p ∉ N := fun hm => by obtain ⟨_, cs, hc⟩ := hN' p hm; exact obj_ne hc hrowRt (by decide) rfl
       have hUf := hkN.heap hUt hUN
       have hGf := hkN.heap hGt hGN
       have hstf : Stp [5, 138] wt wf := .kept hkN (by intro k hk _; obtain ⟨_, cs, hc⟩ := hN' k hk; exact ⟨_, _, _, hc, by decide⟩)
       obtain ⟨_, _, CUf, FUf⟩ := rows3 hUf
       have FUf := fun w' hx => FUf w' 2 hx
       obtain ⟨wg, hwg⟩ : ∃ wg, wg = wf.setCell ⟨U, 2, none⟩ (.slice Af (bs.length + 1) cf) := ⟨_, rfl⟩
       have hsetU : wg.heap[U]? = some (.cells #[.string (st un), .int .i64 (uv : Nat), .slice Af (bs.length + 1) cf] 116 (0, 0)) := by
        rw [hwg, heap_setCell_same wf U 2 _ _ _ hUf]
        rfl
       have hkG : Kept [U] wf wg := hwg ▸ (Kept.refl _ _).setCell (.inl (by simp)) _
       have hGg := hkG.heap hGf (by simpa using hGU)
       have hstG : Stp [5, 138, 136] wf wg := .kept hkG (by intro k hk _; simp at hk; subst hk; exact ⟨_, _, _, hUf, by decide⟩)
       have hst8 := hstf.trans (hstG.less (us := [5, 138]) (by simp))
       have hxsG : OwnXs wg w.heap.size (.slice Af (bs.length + 1) cf) (bs ++ [⟨bn, (bval : Nat), (bnx : Nat), ls⟩]) := OwnG.push q1 q2 (owns_stp hof hstG (by simp)) (fun k cs x a b => (q4' k cs x a b).stp hst8 (by simp) (by simp)) rfl
        ⟨_, rfl, (hlst.low (by omega)).stp hst8 (by simp) (by simp)⟩
       have hrG : RdAt w wg p none := (hret.kept hkN hRN (fun k hk => (hN' k hk).1)).kept hkG (by simpa using hpU) (by intro k hk; simp at hk; omega)
       have HWG := Lib.hid hwg
       clear hwg HXS q1 q2 q3 q4' hst hstf hstG hst8 hgf hof hkN hN' hkG hlst hrowt hrowi' hXi C2
       go_wp2
       go_roundw
       rw [← HWG.out]
       case rel => exact ⟨i + 1, _, none, _, by go_num, by omega, by simp; omega, hrG, hsetU, hGg, hxsG, by rw [← HBXV.out, ← HBXQ.out]; exact HRV.out, by rw [← HBXQ.out]; exact HRQ.out⟩
       case measure => simp [intOf]; omega
      | some l2 =>
       obtain ⟨lu, hlu⟩ : ∃ x, x = valB (cutV 4 (some l2)) := ⟨_, rfl⟩
       obtain ⟨e1, he1⟩ : ∃ q, q = cutQ 4 (some l2) := ⟨_, rfl⟩
       obtain ⟨lf, hlf⟩ : ∃ x, x = valB (cutV 1 e1) := ⟨_, rfl⟩
       obtain ⟨e2, he2⟩ : ∃ q, q = cutQ 1 e1 := ⟨_, rfl⟩
       obtain ⟨lb, hlb⟩ : ∃ x, x = loV e2 := ⟨_, rfl⟩
       obtain ⟨e3, he3⟩ : ∃ q, q = loQ e2 := ⟨_, rfl⟩
       have HLQ : Hid (letQ (some l2) = e3) := Lib.hid (by rw [he3, he2, he1]; rfl)
       have HLV : Hid (letV (some l2) = ⟨(lu : Nat), UInt8.ofNat lf, lb⟩) := Lib.hid (by rw [hlb, hlf, he2, hlu, he1]; rfl)
       have HRV2 : Hid (ls ++ [letV (some l2)] ++ repV letQ letV (m - (j + 1)) (letQ (some l2)) = repV letQ letV m b5) := Lib.hid (by
        rw [← hlv, show m - j = (m - (j + 1)) + 1 by omega, repV, List.append_assoc]; rfl)
       have HRQ2 : Hid (repQ letQ (m - (j + 1)) (letQ (some l2)) = repQ letQ m b5) := Lib.hid (by
        rw [← hlq, show m - j = (m - (j + 1)) + 1 by omega, repQ])
       have hlbl : lb.length ≤ 65535 := by
        rw [hlb]
        have := cutV_le (valB (cutV 2 e2)) (cutQ 2 e2)
        have := valB_cut 2 e2
        unfold loV
        omega
       have hln := valB_cut 2 e2
       have HLU := Lib.hid hlu
       have HE1 := Lib.hid he1
       have HLF := Lib.hid hlf
       have HE2 := Lib.hid he2
       have HLB := Lib.hid hlb
       have HE3 := Lib.hid he3
       obtain ⟨Ar, cr, hrowR, _, _⟩ := hri.2.2
       obtain ⟨R0, R1, RF⟩ := row2_at hrowR
       have HLS := Lib.hid hls
       have hxi := hri.2.1
       have halL : ls.length ≤ 255 := by omega
       have hXw := hxi.size
       clear hlv hlq hlu he1 hlf he2 hlb he3 hls
       go_wp2_with (with_reducible first | refine sA 116 ?_ | refine sS 116 ?_ | refine sL 116 ?_ | refine sA 136 ?_ | refine sS 136 ?_ | refine sL 136 ?_ | refine sA 138 ?_ | refine sS 138 ?_ | refine sL 138 ?_)
       refine (hN _ _ 4 (by omega) hri).mono ?_
       rintro e y1 ⟨rfl, ht1, hm1⟩
       clear R0 R1 RF
       have ht1 : RdAt w y1 p e1 := by rw [HE1.out]; exact ht1
       rw [← HLU.out]
       go_wp2_with (with_reducible first | refine sA 116 ?_ | refine sS 116 ?_ | refine sL 116 ?_ | refine sA 136 ?_ | refine sS 136 ?_ | refine sL 136 ?_ | refine sA 138 ?_ | refine sS 138 ?_ | refine sL 138 ?_)
       refine go_on (wpList_alloc_ rfl rfl letter_info ?_)
       go_wp2_with (with_reducible first | refine sA 116 ?_ | refine sS 116 ?_ | refine sL 116 ?_ | refine sA 136 ?_ | refine sS 136 ?_ | refine sL 136 ?_ | refine sA 138 ?_ | refine sS 138 ?_ | refine sL 138 ?_)
       refine go_on (wpList_store_last (c' := #[.int .i64 (lu : Nat), .int .u8 0, .slice none 0 0]) rfl rfl rfl rfl (by kernel_rfl) rfl (by simp [Value.oneCell']) ?_)
       intro y2 hrowY hxy hszy
       obtain ⟨Y, hYe⟩ : ∃ Y, Y = y1.heap.size := ⟨_, rfl⟩
       rw [← hYe] at hrowY
       have HYE := Lib.hid hYe
       have hpY : p ≠ Y := by have := ht1.lt; omega
       have hwY : wr.heap.size ≤ Y := by have := hm1.size; omega
       have hXlt := obj_lt hXi
       have hXY : X ≠ Y := by omega
       have ht2 := ht1.ext hxy
       have hm2 := hm1.ext hxy
       clear hxy hszy hYe ht1 hm1
       go_wp2_with (with_reducible first | refine sA 116 ?_ | refine sS 116 ?_ | refine sL 116 ?_ | refine sA 136 ?_ | refine sS 136 ?_ | refine sL 136 ?_ | refine sA 138 ?_ | refine sS 138 ?_ | refine sL 138 ?_)
       rw [← HYE.out]
       refine (hN _ _ 1 (by omega) ht2).mono ?_
       rintro e y3 ⟨rfl, ht3, hm3⟩
       have ht3 : RdAt w y3 p e2 := by rw [HE2.out]; exact ht3
       rw [← HLF.out]
       have hY3 := hm3.heap hrowY (by simpa using hpY.symm)
       obtain ⟨C0, C1, C2, F⟩ := row3_at hY3
       obtain ⟨fl, hfl⟩ : ∃ fl : UInt8, fl = UInt8.ofNat lf := ⟨_, rfl⟩
       rw [← hfl] at HLV
       have hfl2 : ((lf : Int) % 256) = (fl.toNat : Int) := by rw [hfl, ← u8_of]
       obtain ⟨y4, hy4⟩ : ∃ y4, y4 = y3.setCell ⟨Y, 1, none⟩ (.int .u8 ((lf : Int) % 256)) := ⟨_, rfl⟩
       have hk4 : Kept [Y] y3 y4 := hy4 ▸ (Kept.refl _ _).setCell (.inl (by simp)) _
       have hY4 : y4.heap[Y]? = some (.cells #[.int .i64 (lu : Nat), .int .u8 (fl.toNat : Int), .slice none 0 0] 138 (0, 0)) := by
        rw [hy4, heap_setCell_same y3 Y 1 _ _ _ hY3, hfl2]; rfl
       have ht4 := ht3.kept hk4 (by simpa using hpY) (by intro k hk; simp at hk; omega)
       have hm4 : Kept [p] wr y4 := Kept.new (M := [p, Y]) (((hm2.trans hm3).mono (by simp)).trans (hk4.mono (by simp))) (by intro k hk; simp at hk; rcases hk with rfl | rfl <;> simp; omega)
       have HY4 := Lib.hid hy4
       clear hrowY ht2 hm2 ht3 hm3 hY3 hk4 hy4 hfl hfl2
       go_wp2_with (with_reducible first | refine sA 116 ?_ | refine sS 116 ?_ | refine sL 116 ?_ | refine sA 136 ?_ | refine sS 136 ?_ | refine sL 136 ?_ | refine sA 138 ?_ | refine sS 138 ?_ | refine sL 138 ?_)
       rw [← HY4.out]
       clear C0 C1 C2 F HY4
       refine (hN _ _ 2 (by omega) ht4).mono ?_
       rintro e y5 ⟨rfl, ht5, hm5⟩
       have hY5 := hm5.heap hY4 (by simpa using hpY.symm)
       go_wp2_with (with_reducible first | refine sA 116 ?_ | refine sS 116 ?_ | refine sL 116 ?_ | refine sA 136 ?_ | refine sS 136 ?_ | refine sL 136 ?_ | refine sA 138 ?_ | refine sS 138 ?_ | refine sL 138 ?_)
       refine (hC _ _ _ (by omega) ht5).mono ?_
       rintro e y6 ⟨v6, rfl, ho6, ht6, hm6⟩
       have ht6 : RdAt w y6 p e3 := by rw [HE3.out]; exact ht6
       have ho6 : Own y6 y5.heap.size v6 lb := by rw [HLB.out]; exact ho6
       obtain ⟨Ab, cb, rfl⟩ := ho6.form
       have hY6 := hm6.heap hY5 (by simpa using hpY.symm)
       obtain ⟨C0, C1, C2, F⟩ := row3_at hY6
       obtain ⟨y7, hy7⟩ : ∃ y7, y7 = y6.setCell ⟨Y, 2, none⟩ (.slice Ab lb.length cb) := ⟨_, rfl⟩
       have hkY : Kept [Y] y6 y7 := hy7 ▸ (Kept.refl _ _).setCell (.inl (by simp)) _
       have hset : y7.heap[Y]? = some (.cells (ltC ⟨(lu : Nat), fl, lb⟩ (.slice Ab lb.length cb)) 138 (0, 0)) := by
        rw [hy7, heap_setCell_same y6 Y 2 _ _ _ hY6]; rfl
       have hovS := ho6.off hY6 (by decide) hkY
       have hreS := ht6.kept hkY (by simpa using hpY) (by intro k hk; simp at hk; omega)
       have hm6' : Kept [p] wr y6 := (hm4.trans hm5).trans hm6
       have hrowXs := hkY.heap (hm6'.heap hXi (by simpa using hpX.symm)) (by simpa using hXY)
       have hkS : Kept [p] wr y7 := Kept.new (M := [p, Y]) ((hm6'.mono (by simp)).trans (hkY.mono (by simp))) (by intro k hk; simp at hk; rcases hk with rfl | rfl <;> simp; omega)
       have CX := fun w' (hx' : Ext y7 w') => (row4_at (hx'.obj hrowXs)).2.2.2.1
       have hb56 : wr.heap.size ≤ y5.heap.size := by have := (hm4.trans hm5).size; omega
       have HWS := Lib.hid hy7
       clear hy7 ht4 hm4 hY4 ht5 hm5 hY5 ho6 ht6 hm6 hY6 hkY hm6'
       go_wp2_with (with_reducible first | refine sL 134 ?_ | refine sL 114 ?_)
       refine go_on ?_
       rw [← HWS.out]
       clear C0 C1 C2 F
       go_wp2_with (with_reducible refine sL 138 ?_)
       refine go_on (wpList_load_row rfl 138 _ rfl Y rfl 138 _ (0, 0) _ hset Tryz.underlying138 rfl (by kernel_rfl) ?_)
       obtain ⟨vR, hrowR⟩ := hri.row
       have hst : Stp [5, 138] wr (y7.alloc (.cells (ltC ⟨(lu : Nat), fl, lb⟩ (.slice Ab lb.length cb)) 138)) := (Stp.kept hkS (by intro k hk hlt; simp at hk; subst hk; exact ⟨_, _, _, hrowR, by decide⟩)).trans (.of_ext ((Ext.refl _).alloc _))
       obtain ⟨css, q1, q2, q3, q4⟩ := HLS.out.stp hst (by simp) (by simp)
       have hxt : Ext y7 (y7.alloc (.cells (ltC ⟨(lu : Nat), fl, lb⟩ (.slice Ab lb.length cb)) 138)) := (Ext.refl _).alloc _
       have hrowt := heap_alloc_new y7 (.cells (ltC ⟨(lu : Nat), fl, lb⟩ (.slice Ab lb.length cb)) 138)
       have hrowXt := hxt.obj hrowXs
       have hret := hreS.ext hxt
       have hovt := hovS.ext hxt
       generalize hwt : y7.alloc (.cells (ltC ⟨(lu : Nat), fl, lb⟩ (.slice Ab lb.length cb)) 138) = wt at *
       have HWT := Lib.hid hwt
       clear hwt
       unfold ltC at HWT
       unfold ltC
       go_wp2_with (at_builtin; refine unstop ?_)
       rw [HWT.out]
       have hszw : wr.heap.size ≤ wt.heap.size := hst.1
       have hszo := hki.size
       refine go_on (wpList_app letT q3 (Sl.row hrowt) rfl rfl rfl rfl rfl (ltC_one _ Ab lb.length cb) (by omega) (by omega) (by omega) ?_)
       intro v' wf hof hgf _
       obtain ⟨Af, cf, rfl⟩ := own_form hof
       obtain ⟨N, hkN, hN'⟩ := Kept.row q3 hgf
       have hXN : X ∉ N := fun hm => by obtain ⟨_, cs, hc⟩ := hN' X hm; exact obj_ne hc hrowXt (by decide) rfl
       obtain ⟨vRt, hrowRt⟩ := hret.row
       have hRN : p ∉ N := fun hm => by obtain ⟨_, cs, hc⟩ := hN' p hm; exact obj_ne hc hrowRt (by decide) rfl
       have hrowXf := hkN.heap hrowXt hXN
       have hstf : Stp [5] wt wf := .kept hkN (by intro k hk _; obtain ⟨_, cs, hc⟩ := hN' k hk; exact ⟨_, _, _, hc, by decide⟩)
       obtain ⟨_, _, _, CXf, FXf⟩ := rows4 hrowXf
       have FXf := fun w' hx => FXf w' 3 hx
       obtain ⟨wg, hwg⟩ : ∃ wg, wg = wf.setCell ⟨X, 3, none⟩ (.slice Af (ls.length + 1) cf) := ⟨_, rfl⟩
       have hsetX : wg.heap[X]? = some (.cells #[.string (st bn), .int .i64 (bval : Nat), .int .i64 (bnx : Nat), .slice Af (ls.length + 1) cf] 136 (0, 0)) := by
        rw [hwg, heap_setCell_same wf X 3 _ _ _ hrowXf]
        rfl
       have hkG : Kept [X] wf wg := hwg ▸ (Kept.refl _ _).setCell (.inl (by simp)) _
       have hstG : Stp [5, 138] wf wg := .kept hkG (by intro k hk _; simp at hk; subst hk; exact ⟨_, _, _, hrowXf, by decide⟩)
       have hst8 := hstf.trans (hstG.less (us := [5]) (by simp))
       have hlsG : OwnLs wg wo.heap.size (.slice Af (ls.length + 1) cf) (ls ++ [⟨(lu : Nat), fl, lb⟩]) := OwnG.push q1 q2 (owns_stp hof hstG (by simp)) (fun k cs x a b => (q4 k cs x a b).stp hst8 (by simp)) rfl
        ⟨_, rfl, (hovt.low (by omega)).stp hst8 (by simp)⟩
       have hrG : RdAt w wg p e3 := (hret.kept hkN hRN (fun k hk => by have := (hN' k hk).1; have := hxr.size; omega)).kept hkG (by simpa using hpX) (by intro k hk; simp at hk; have := hxr.size; omega)
       have hkiG : Kept [p] wo wg := Kept.new (M := [p, X] ++ N) (((hki.trans (hkS.ext hxt)).mono (by simp)).trans ((hkN.mono (by intro k hk; simp [hk])).trans (hkG.mono (by simp)))) (by
        intro k hk
        simp only [List.mem_append, List.mem_cons, List.not_mem_nil, or_false] at hk ⊢
        rcases hk with (rfl | rfl) | hk
        ·exact .inl rfl
        ·exact .inr hwrX
        ·exact .inr (by have := (hN' k hk).1; omega))
       have HWG := Lib.hid hwg
       clear hwg HLS q1 q2 q3 q4 hst hstf hstG hst8 hgf hof hkN hN' hkG hovt hovS hreS hkS
       go_wp2
       go_roundw
       rw [← HWG.out]
       case rel => exact ⟨j + 1, _, e3, _, by go_num, by omega, by simp; omega, hrG, hkiG, hsetX, hlsG, by rw [← HLV.out, ← HLQ.out]; exact HRV2.out, by rw [← HLQ.out]; exact HRQ2.out⟩
       case measure => simp [intOf]; omega
     ·have hltj2 : ¬ (j : Int) < (m : Int) := by omega
      obtain rfl : j = m := by omega
      rw [Nat.sub_self] at hlv hlq
      have hl1 : ls = repV letQ letV j b5 := by rw [← hlv]; simp [repV]
      have hl2 : q' = repQ letQ j b5 := by rw [← hlq]; rfl
      have HBXV : Hid (boxV (some l1) = ⟨bn, (bval : Nat), (bnx : Nat), ls⟩) := Lib.hid (by rw [HBV.out, hl1])
      have HBXQ : Hid (boxQ (some l1) = q') := Lib.hid (by rw [HBQ.out, hl2])
      clear hl1 hl2 hlv hlq
      obtain ⟨Al, cl, rfl⟩ := hls.form
      have hUi := hki.heap hU (by simpa using hpU.symm)
      have hGi := hki.heap hG (by simpa using hpG.symm)
      have C2 := fun w' (hx' : Ext wr w') => (row3_at (hx'.obj hUi)).2.2.1
      obtain ⟨vR, hrowR'⟩ := hri.row
      have hrowi' : wr.heap[X]? = some (.cells (bxC ⟨bn, (bval : Nat), (bnx : Nat), ls⟩ (.slice Al ls.length cl)) 136 (0, 0)) := hXi
      have hst : Stp [5, 138, 136] wo (wr.alloc (.cells (bxC ⟨bn, (bval : Nat), (bnx : Nat), ls⟩ (.slice Al ls.length cl)) 136)) := (Stp.kept hki (by intro k hk hlt; simp at hk; subst hk; exact ⟨_, _, _, HRW.out, by decide⟩)).trans (.of_ext ((Ext.refl _).alloc _))
      obtain ⟨css, q1, q2, q3, q4'⟩ := HXS.out.stp hst (by simp) (by simp) (by simp)
      have hxt : Ext wr (wr.alloc (.cells (bxC ⟨bn, (bval : Nat), (bnx : Nat), ls⟩ (.slice Al ls.length cl)) 136)) := (Ext.refl _).alloc _
      have hrowt := heap_alloc_new wr (.cells (bxC ⟨bn, (bval : Nat), (bnx : Nat), ls⟩ (.slice Al ls.length cl)) 136)
      have hUt := hxt.obj hUi
      have hGt := hxt.obj hGi
      have hret := hri.ext hxt
      have hlst := hls.stp (.of_ext hxt) (ts := [5, 138]) (by simp) (by simp)
      generalize hwt : wr.alloc (.cells (bxC ⟨bn, (bval : Nat), (bnx : Nat), ls⟩ (.slice Al ls.length cl)) 136) = wt at *
      have HWT := Lib.hid hwt
      unfold bxC at HWT
      clear hwt hls
      go_wp2_with (with_reducible refine sL 136 ?_)
      refine go_on (wpList_load_row rfl 136 _ rfl X rfl 136 _ (0, 0) _ hXi Tryz.underlying136 rfl (by kernel_rfl) ?_)
      go_wp2_with (at_builtin; refine unstop ?_)
      rw [HWT.out]
      have hszw : wo.heap.size ≤ wt.heap.size := hst.1
      have hszo := hxr.size
      have hbl' : bs.length ≤ 255 := by omega
      refine go_on (wpList_app boxT q3 (Sl.row hrowt) rfl rfl rfl rfl rfl (bxC_one _ Al ls.length cl) (by omega) (by omega) (by omega) ?_)
      intro v' wf hof hgf _
      obtain ⟨Af, cf, rfl⟩ := own_form hof
      obtain ⟨N, hkN, hN'⟩ := Kept.row q3 hgf
      have hUN : U ∉ N := fun hm => by obtain ⟨_, cs, hc⟩ := hN' U hm; exact obj_ne hc hUt (by decide) rfl
      have hGN : G ∉ N := fun hm => by obtain ⟨_, cs, hc⟩ := hN' G hm; exact obj_ne hc hGt (by decide) rfl
      obtain ⟨vRt, hrowRt⟩ := hret.row
      have hRN : p ∉ N := fun hm => by obtain ⟨_, cs, hc⟩ := hN' p hm; exact obj_ne hc hrowRt (by decide) rfl
      have hUf := hkN.heap hUt hUN
      have hGf := hkN.heap hGt hGN
      have hstf : Stp [5, 138] wt wf := .kept hkN (by intro k hk _; obtain ⟨_, cs, hc⟩ := hN' k hk; exact ⟨_, _, _, hc, by decide⟩)
      obtain ⟨_, _, CUf, FUf⟩ := rows3 hUf
      have FUf := fun w' hx => FUf w' 2 hx
      obtain ⟨wg, hwg⟩ : ∃ wg, wg = wf.setCell ⟨U, 2, none⟩ (.slice Af (bs.length + 1) cf) := ⟨_, rfl⟩
      have hsetU : wg.heap[U]? = some (.cells #[.string (st un), .int .i64 (uv : Nat), .slice Af (bs.length + 1) cf] 116 (0, 0)) := by
       rw [hwg, heap_setCell_same wf U 2 _ _ _ hUf]
       rfl
      have hkG : Kept [U] wf wg := hwg ▸ (Kept.refl _ _).setCell (.inl (by simp)) _
      have hGg := hkG.heap hGf (by simpa using hGU)
      have hstG : Stp [5, 138, 136] wf wg := .kept hkG (by intro k hk _; simp at hk; subst hk; exact ⟨_, _, _, hUf, by decide⟩)
      have hst8 := hstf.trans (hstG.less (us := [5, 138]) (by simp))
      have hxsG : OwnXs wg w.heap.size (.slice Af (bs.length + 1) cf) (bs ++ [⟨bn, (bval : Nat), (bnx : Nat), ls⟩]) := OwnG.push q1 q2 (owns_stp hof hstG (by simp)) (fun k cs x a b => (q4' k cs x a b).stp hst8 (by simp) (by simp)) rfl
       ⟨_, rfl, (hlst.low (by omega)).stp hst8 (by simp) (by simp)⟩
      have hrG : RdAt w wg p q' := (hret.kept hkN hRN (fun k hk => (hN' k hk).1)).kept hkG (by simpa using hpU) (by intro k hk; simp at hk; omega)
      have HWG := Lib.hid hwg
      clear hwg HXS q1 q2 q3 q4' hst hstf hstG hst8 hgf hof hkN hN' hkG hlst hrowt hrowi' hXi C2
      go_wp2
      go_roundw
      rw [← HWG.out]
      case rel => exact ⟨i + 1, _, q', _, by go_num, by omega, by simp; omega, hrG, hsetU, hGg, hxsG, by rw [← HBXV.out, ← HBXQ.out]; exact HRV.out, by rw [← HBXQ.out]; exact HRQ.out⟩
      case measure => simp [intOf]; omega
  ·have hlt2 : ¬ (i : Int) < (n : Int) := by omega
   obtain rfl : i = n := by omega
   rw [Nat.sub_self] at hrv hrq
   cases q with
   | none =>
    obtain ⟨Ar, nr, cr, hrowR⟩ := hr.2.2
    obtain ⟨R0, R1, RF⟩ := row2_at hrowR
    clear hrowR
    have HT : Hid (takeUs l = .inl 3) := Lib.hid (by rw [HTS.out, HU1.out, ← hrq, repQ_none])
    go_wp2_with (with_reducible first | refine sA 116 ?_ | refine sS 116 ?_ | refine sL 116 ?_ | refine sA 136 ?_ | refine sS 136 ?_ | refine sL 136 ?_ | refine sA 138 ?_ | refine sS 138 ?_ | refine sL 138 ?_)
    refine go_on (wpList_store_whole (c := zUser) (c' := zUser) rfl rfl (congrArg (fun g => Value.pointer (some ⟨g, 0, none⟩)) HG.out.symm) rfl hG (by kernel_rfl) rfl (by simp [zUser, Value.oneCell']) ?_)
    intro wv hrow hkv _
    rw [HG.out] at hrow
    have hxv : Ext w wv := hr.2.1.kept hkv (by intro k hk; simp at hk; subst hk; exact Nat.le_of_eq HG.out.symm)
    clear hr hG hxs hrv hrq
    go_wp2
    ((try simp only [Exit.inBlock, Exit.then]); refine bodyPost_ret (results_cell1 rfl _ _ w.heap.size _ _ _ _ rfl hrow Tryz.underlying116 rfl (by kernel_rfl)) rfl ?_)
    refine ⟨hxv, ?_⟩
    rw [HT.out]
    rfl
   | some r =>
    have hbs : bs = repV boxQ boxV i q4 := by rw [← hrv]; simp [repV]
    have HNM : Hid (∀ b ∈ bs, b.name.length < 256) := Lib.hid (by rw [hbs]; exact repV_names _ _)
    have HUS : Hid (usrV (some l) = ⟨un, (uv : Nat), bs⟩) := Lib.hid (by rw [HU2.out, hbs])
    have HT : Hid (takeUs l = if r = [] then (if checkU ⟨un, (uv : Nat), bs⟩ ≠ 0 then .inl (checkU ⟨un, (uv : Nat), bs⟩) else .inr ⟨un, (uv : Nat), bs⟩) else .inl 4) := Lib.hid (by rw [HTS.out, HU1.out, ← hrq, HUS.out]; rfl)
    obtain ⟨Ar, cr, hrowR, hlr, hbr⟩ := hr.2.2
    obtain ⟨R0, R1, RF⟩ := row2_at hrowR
    obtain ⟨Ab, cb, rfl⟩ := hxs.form
    clear hrowR hlr hbr hrv hrq hbs
    by_cases hr0 : r = []
    ·have HT2 := Lib.hid (HT.out.trans (if_pos hr0))
     have hr0' : ¬ (0 : Int) < (r.length : Int) := by rw [hr0]; simp
     have hbn : ∀ b ∈ bs, b.name.length ≤ 8796093022000 := fun b hb => by have := HNM.out b hb; omega
     have hx := hr.2.1
     have HCU := RCheckUser_any ⟨un, (uv : Nat), bs⟩ Ab cb wr hxs.rsm (show un.length ≤ 8796093022000 by omega) hbn (hT.ext hx)
     have HXS := Lib.hid hxs
     clear hr HT hr0 hbn hxs
     go_wp2_with (with_reducible refine sL 116 ?_)
     refine go_on (wpList_load_row rfl 116 _ rfl U rfl 116 _ (0, 0) _ hU Tryz.underlying116 rfl (by kernel_rfl) ?_)
     go_wp2_with fail
     refine HCU.mono ?_
     rintro e w2 ⟨rfl, hx2⟩
     have hU2 := hx2.obj hU
     have hG2 := hx2.obj hG
     have hx02 := hx.trans hx2
     clear HCU
     by_cases hc : checkU ⟨un, (uv : Nat), bs⟩ = 0
     ·have HT3 := Lib.hid (HT2.out.trans (if_neg (by simpa using hc)))
      rw [hc]
      clear HT2 hc
      go_wp2_with (with_reducible refine sL 116 ?_)
      refine go_on (wpList_load_row rfl 116 _ rfl U rfl 116 _ (0, 0) _ hU2 Tryz.underlying116 rfl (by kernel_rfl) ?_)
      go_wp2_with (with_reducible first | refine sA 116 ?_ | refine sS 116 ?_ | refine sL 116 ?_ | refine sA 136 ?_ | refine sS 136 ?_ | refine sL 136 ?_ | refine sA 138 ?_ | refine sS 138 ?_ | refine sL 138 ?_)
      refine go_on (wpList_store_whole (c := zUser) (c' := #[.string (st un), .int .i64 (uv : Nat), .slice Ab bs.length cb]) rfl rfl (congrArg (fun g => Value.pointer (some ⟨g, 0, none⟩)) HG.out.symm) rfl hG2 (by kernel_rfl) rfl (by simp [Value.oneCell']) ?_)
      intro wv hrow hkv _
      rw [HG.out] at hrow
      have hxv : Ext w wv := hx02.kept hkv (by intro k hk; simp at hk; subst hk; exact Nat.le_of_eq HG.out.symm)
      go_wp2
      ((try simp only [Exit.inBlock, Exit.then]); refine bodyPost_ret (results_cell1 rfl _ _ w.heap.size _ _ _ _ rfl hrow Tryz.underlying116 rfl (by kernel_rfl)) rfl ?_)
      refine ⟨hxv, ?_⟩
      rw [HT3.out]
      refine ⟨_, rfl, ?_⟩
      exact (HXS.out.stp (.of_ext hx2) (ts := [5, 138, 136]) (by simp) (by simp) (by simp)).stp (.kept hkv (by intro k hk _; simp at hk; subst hk; exact ⟨_, _, _, hG2, by decide⟩) : Stp [5, 138, 136] w2 wv) (by simp) (by simp) (by simp)
     ·have HT3 := Lib.hid (HT2.out.trans (if_pos hc))
      have k1 : (((checkU ⟨un, (uv : Nat), bs⟩ : Nat) : Int) == 0) = false := by simpa using hc
      have k2 : ¬ checkU ⟨un, (uv : Nat), bs⟩ = 0 := hc
      clear HT2 hc
      generalize checkU ⟨un, (uv : Nat), bs⟩ = z at *
      go_wp2_with (with_reducible first | refine sA 116 ?_ | refine sS 116 ?_ | refine sL 116 ?_ | refine sA 136 ?_ | refine sS 136 ?_ | refine sL 136 ?_ | refine sA 138 ?_ | refine sS 138 ?_ | refine sL 138 ?_)
      refine go_on (wpList_store_whole (c := zUser) (c' := zUser) rfl rfl (congrArg (fun g => Value.pointer (some ⟨g, 0, none⟩)) HG.out.symm) rfl hG2 (by kernel_rfl) rfl (by simp [zUser, Value.oneCell']) ?_)
      intro wv hrow hkv _
      rw [HG.out] at hrow
      have hxv : Ext w wv := Ext.kept hx02 hkv (by intro k hk; simp at hk; subst hk; exact Nat.le_of_eq HG.out.symm)
      go_wp2
      ((try simp only [Exit.inBlock, Exit.then]); refine bodyPost_ret (results_cell1 rfl _ _ w.heap.size _ _ _ _ rfl hrow Tryz.underlying116 rfl (by kernel_rfl)) rfl ?_)
      refine ⟨hxv, ?_⟩
      rw [HT3.out]
      rfl
    ·have HT2 : Hid (takeUs l = .inl 4) := Lib.hid (HT.out.trans (if_neg hr0))
     have hr0' : (0 : Int) < (r.length : Int) := by have := List.length_pos_iff.2 hr0; omega
     clear HT hr0
     go_wp2_with (with_reducible first | refine sA 116 ?_ | refine sS 116 ?_ | refine sL 116 ?_ | refine sA 136 ?_ | refine sS 136 ?_ | refine sL 136 ?_ | refine sA 138 ?_ | refine sS 138 ?_ | refine sL 138 ?_)
     refine go_on (wpList_store_whole (c := zUser) (c' := zUser) rfl rfl (congrArg (fun g => Value.pointer (some ⟨g, 0, none⟩)) HG.out.symm) rfl hG (by kernel_rfl) rfl (by simp [zUser, Value.oneCell']) ?_)
     intro wv hrow hkv _
     rw [HG.out] at hrow
     have hxv : Ext w wv := hr.2.1.kept hkv (by intro k hk; simp at hk; subst hk; exact Nat.le_of_eq HG.out.symm)
     clear hr hG hxs
     go_wp2
     ((try simp only [Exit.inBlock, Exit.then]); refine bodyPost_ret (results_cell1 rfl _ _ w.heap.size _ _ _ _ rfl hrow Tryz.underlying116 rfl (by kernel_rfl)) rfl ?_)
     refine ⟨hxv, ?_⟩
     rw [HT2.out]
     rfl
end Go.Proofs.YthlppbbejdeeoaaGreatDoor
