/- The reference's Redo, Fork and Same; the walks of coord.Snapshot and Fork, and of the reference's Snapshot. Conditions: the hypotheses of each theorem. -/
import Derived.Test.YtijopcdjlpafdaaRCo10M
namespace Go.Proofs.Ytijopcdjlpafdaa
open Go.RowKit
theorem RRedo_any {M : List Nat} {w : World} {q : Nat} {s : Cs} (h : Rc M w q s) (hs : s.Ok) (hf : s.Few 1000) (hq : q ∈ M) (hM : ∀ k ∈ M, k < w.heap.size) (A : Option Addr) (c : Nat) (r : By) (hb : Bs w A r) (hc : r.length ≤ c) (hm : r.length ≤ 140737488355328) :
 Calls Try.prog 66 #[pt q, .slice A r.length c] w fun e w' => e = .returned (.int .i64 (redoO s r).1) ∧ Rc M w' q (redoO s r).2 ∧ Kept [q] w w' := by
 by_cases hbad : (q2 r).isNone = true ∨ btN r < 1 ∨ 2147483647 < btN r ∨ kdN r < 1 ∨ 3 < kdN r
 ·exact RRedo_bad h A c r hb hc hbad
 ·simp only [not_or] at hbad
  obtain ⟨h1, h2, h3, h4, h5⟩ := hbad
  have hl : 5 ≤ r.length := by
   rcases Nat.lt_or_ge r.length 5 with h | h
   ·rw [q2_short h] at h1
    exact absurd rfl h1
   ·exact h
  have hfew : s.under.length ≤ 1000 := by have := hs.few; omega
  by_cases k1 : kdN r = 1
  ·exact RRedo_life h hfew hq hM A c r hb hc hm hl (by omega) (by omega) k1
  ·by_cases k3 : kdN r = 3
   ·exact RRedo_over h hfew hq hM A c r hb hc hm hl (by omega) (by omega) k3
   ·exact RRedo_done h hs hf hq hM A c r hb hc hm hl (by omega) (by omega) (by omega)
theorem rcoord_info : (Try.prog.info? 93).map (fun i => (i.zero, i.size)) = some (some (.agg #[.int .i64 0, .int .i64 0, .int .i64 0, .slice none 0 0]), 4) := by kernel_rfl
theorem rcoord_size (a b c : Int) (A : Option Addr) (n m : Nat) : (Try.prog.info? 93).map (·.size) = some (#[Value.int .i64 a, .int .i64 b, .int .i64 c, .slice A n m] : Array Value).size := (zero_of_info rcoord_info).2
theorem coord_info : (Try.prog.info? 72).map (fun i => (i.zero, i.size)) = some (some (.agg #[.int .i64 0, .int .i64 0, .int .i64 0, .slice none 0 0]), 4) := by kernel_rfl
theorem coord_size (a b c : Int) (A : Option Addr) (n m : Nat) : (Try.prog.info? 72).map (·.size) = some (#[Value.int .i64 a, .int .i64 b, .int .i64 c, .slice A n m] : Array Value).size := (zero_of_info coord_info).2
theorem RFork_any {M : List Nat} {w : World} {q : Nat} {s : Cs} (h : Rc M w q s) :
 Calls Try.prog 23 #[pt q] w fun e w' => e = .returned (pt w.heap.size) ∧ Ext w w' ∧ w.heap.size < w'.heap.size ∧ ∀ N : List Nat, (∀ k ∈ N, k ∈ M ∨ w.heap.size ≤ k) → Rc N w' w.heap.size s := by
 obtain ⟨A, cap, h⟩ := h
 have HH := Lib.hid h
 obtain ⟨s0, s1, s2, s3⟩ := s
 have hrow := h.row
 simp only at hrow
 have HROW := Lib.hid hrow
 clear h hrow
 unfold pt
 go_enter Try.func23, Try.ntmps23
 go_wp2_with (with_reducible refine sL 93 ?_)
 refine go_on (wpList_load_row rfl 93 _ rfl q rfl 93 _ (0, 0) _ HROW.out Try.underlying93 rfl (rcoord_size _ _ _ _ _ _) ?_)
 go_wp2_with (with_reducible first | refine sL 93 ?_ | refine sA 93 ?_ | refine sS 93 ?_)
 refine go_on (wpList_alloc_ rfl rfl rcoord_info ?_)
 go_wp2_with (with_reducible first | refine sL 93 ?_ | refine sA 93 ?_ | refine sS 93 ?_)
 refine go_on (wpList_store_last rfl rfl rfl rfl (rcoord_size _ _ _ _ _ _) rfl (by simp [Value.oneCell']) ?_)
 intro w1 hrow1 hx1 hz1
 have HR1 := Lib.hid hrow1
 have HX1 := Lib.hid hx1
 have HZ1 : Hid (w.heap.size < w1.heap.size) := Lib.hid (obj_lt hrow1)
 clear hrow1 hx1 hz1
 go_wp2
 go_ret
 exact ⟨rfl, HX1.out, HZ1.out, fun N hN => ⟨A, cap, HR1.out, (HH.out.rs.old hN).kept (.of_ext HX1.out), HH.out.cap⟩⟩
theorem CFork_any {M : List Nat} {w : World} {p : Nat} {s : Cs} (h : Co M w p s) (hM : ∀ k ∈ M, k < w.heap.size) (hn : s.under.length ≤ 1000) :
 Calls Try.prog 17 #[pt p] w fun e w' => e = .returned (pt w.heap.size) ∧ Ext w w' ∧ w.heap.size < w'.heap.size ∧ ∀ N : List Nat, (∀ k ∈ N, k ∈ M ∨ k = w.heap.size) → Co N w' w.heap.size s := by
 obtain ⟨A, cap, h⟩ := h
 have HH := Lib.hid h
 have hrow := h.row
 obtain ⟨s0, s1, s2, s3⟩ := s
 simp only at hrow hn
 obtain ⟨c0, c1, c2, c3, cf⟩ := rows4 hrow
 have HROW := Lib.hid hrow
 have HM := Lib.hid hM
 clear h hrow c0 c1 c2 cf hM
 unfold pt
 go_enter Try.func17, Try.ntmps17
 go_wp2_with (with_reducible refine sL 72 ?_)
 refine go_on (wpList_load_row rfl 72 _ rfl p rfl 72 _ (0, 0) _ HROW.out Try.underlying72 rfl (coord_size _ _ _ _ _ _) ?_)
 go_wp2_with (with_reducible first | refine sL 72 ?_ | refine sA 72 ?_ | refine sS 72 ?_)
 refine go_on (wpList_alloc_ rfl rfl coord_info ?_)
 go_wp2_with (with_reducible first | refine sL 72 ?_ | refine sA 72 ?_ | refine sS 72 ?_)
 refine go_on (wpList_store_last rfl rfl rfl rfl (coord_size _ _ _ _ _ _) rfl (by simp [Value.oneCell']) ?_)
 intro w1 hrow1 hx1 hz1
 have HR1 := Lib.hid hrow1
 have HX1 := Lib.hid hx1
 have HZ1 : Hid (w.heap.size < w1.heap.size) := Lib.hid (obj_lt hrow1)
 have c31 := c3 w1 hx1
 have hrs := (HH.out.rs.old (N := w.heap.size :: M) (by
  intro k hk
  rcases List.mem_cons.1 hk with rfl | hk
  ·exact .inr (Nat.le_refl _)
  ·exact .inl hk)).kept (.of_ext hx1)
 have HC := tclone_any A cap s3 (w.heap.size :: M) w1 w1 hrs (Ext.refl _) (by omega)
 have HMF : Hid (∀ k ∈ w.heap.size :: M, k < w1.heap.size) := Lib.hid (by
  intro k hk
  rcases List.mem_cons.1 hk with rfl | hk
  ·exact HZ1.out
  ·exact Nat.lt_of_lt_of_le (HM.out k hk) HX1.out.size)
 have HFM : Hid (w.heap.size ∈ w.heap.size :: M) := Lib.hid (by simp)
 have HNN : Hid (∀ N : List Nat, (∀ k ∈ N, k ∈ M ∨ k = w.heap.size) → ∀ k ∈ N, k ∈ w.heap.size :: M) := Lib.hid fun N h k hk => (h k hk).elim (fun h => List.mem_cons_of_mem _ h) (fun h => by subst h; exact List.mem_cons_self ..)
 have HWW := Lib.hid (Nat.le_refl w.heap.size)
 clear hrow1 hx1 hz1 hrs c3
 generalize w.heap.size :: M = M2 at *
 generalize hg : w.heap.size = g at *
 have HGE : Hid (w.heap.size ≤ g) := Lib.hid (Nat.le_of_eq hg)
 have HGG := Lib.hid hg
 clear hg
 go_wp2_with fail
 refine HC.mono ?_
 rintro e w2 ⟨v2, rfl, ho2, hx2⟩
 obtain ⟨A2, c2, rfl⟩ := ho2.form
 have hr2 := hx2.obj HR1.out
 have hfr := fun j => frozen_of_row _ g j _ _ hr2
 have hset := heap_setCell_same w2 g 3 _ _ (.slice A2 s3.length c2) hr2
 have hk3 : Kept [g] w2 (w2.setCell ⟨g, 3, none⟩ (.slice A2 s3.length c2)) := (Kept.refl _ _).setCell (.inl (by simp)) _
 have HFIN : Hid (Co M2 (w2.setCell ⟨g, 3, none⟩ (.slice A2 s3.length c2)) g ⟨s0, s1, s2, s3⟩) := Lib.hid ⟨A2, c2, by simpa using hset, (ho2.rsm (.of_ext hx2) (fun k hk => HMF.out k hk)).kept (hk3.mono (by intro k hk; simp at hk; subst hk; exact HFM.out))⟩
 have HXX := Lib.hid ((HX1.out.trans hx2).kept hk3 (one_ge HGE.out))
 have HZZ : Hid (g < (w2.setCell ⟨g, 3, none⟩ (.slice A2 s3.length c2)).heap.size) := Lib.hid (by have := HZ1.out; have := hx2.size; have := hk3.size; omega)
 have hc3 : w2.cell? ⟨g, 3, none⟩ = some (.slice A s3.length cap) := by rw [cell_of_row _ _ _ _ _ _ hr2]; rfl
 clear hr2 hset hk3 ho2 hx2 HC c31
 go_wp2
 go_ret
 obtain rfl := HGG.out
 exact ⟨rfl, HXX.out, HZZ.out, fun N hN => HFIN.out.old fun k hk => .inl (HNN.out N hN k hk)⟩
theorem take_ext {α : Type} (a b : List α) (k : Nat) (ha : k < a.length) (hb : k < b.length) (h : a.take k = b.take k) (he : a[k] = b[k]) : a.take (k + 1) = b.take (k + 1) := by
 rw [List.take_succ_eq_append_getElem ha, List.take_succ_eq_append_getElem hb, h, he]
set_option maxHeartbeats 1000000 in
theorem RSame_any (A B : Option Addr) (ca cb n m : Nat) (ls ms : List (List UInt8)) (w : World) (hA : BsS w A ls) (hB : BsS w B ms) (hn : n = ls.length) (hm : m = ms.length) (hb1 : ls.length ≤ 9223372036854775807) :
 Calls Try.prog 21 #[.slice A n ca, .slice B m cb] w fun e w' => e = .returned (.bool (decide (ls = ms))) ∧ Ext w w' := by
 subst hn hm
 by_cases hl : ls.length = ms.length
 ·have h0 : ((ls.length : Int) != (ms.length : Int)) = false := by rw [hl]; exact bne_self_eq_false _
  go_enter Try.func21, Try.ntmps21
  go_wp2
  go_loopw [5] (fun i wr => ∃ k : Nat, k ≤ ls.length ∧ i = .int .i64 k ∧ Ext w wr ∧ ls.take k = ms.take k) (fun i _ => ls.length - (intOf i).toNat)
  case atStart => exact ⟨0, by omega, rfl, Ext.refl _, by simp⟩
  case round =>
   obtain ⟨k, hk, rfl, hx, ht⟩ := hrel
   have HT := Lib.hid ht
   have HL := Lib.hid hl
   clear ht h0 hl
   by_cases hlt : k < ls.length
   ·obtain ⟨a1, A1, c1, rfl, e1, b1⟩ := hA.at_ hlt
    obtain ⟨a2, A2, c2, rfl, e2, b2⟩ := hB.at_ (k := k) (by rw [← HL.out]; exact hlt)
    have s1 := run_str (P := Try.prog) Try.underlying23 Try.underlying5 Try.underlying9 b1 _ c1 rfl
    have s2 := run_str (P := Try.prog) Try.underlying23 Try.underlying5 Try.underlying9 b2 _ c2 rfl
    have hk0 : (0 : Int) ≤ (k : Int) := by omega
    have hk1 : (k : Int) < (ls.length : Int) := by omega
    have hk2 : (k : Int) < (ms.length : Int) := by have := HL.out; omega
    have htx := fun he => take_ext ls ms k hlt (by rw [← HL.out]; exact hlt) HT.out he
    have hno : ls[k] ≠ ms[k]'(by rw [← HL.out]; exact hlt) → ls ≠ ms := by intro h e; subst e; exact h rfl
    generalize hl1 : ls[k] = l1 at *
    generalize hl2 : ms[k]'(by rw [← HL.out]; exact hlt) = l2 at *
    have HX := Lib.hid htx
    have HNO := Lib.hid hno
    clear htx hl1 hl2 hno
    by_cases he : l1 = l2
    ·have h1 : (l1 == l2) = true := by rw [he]; exact beq_self_eq_true _
     have HX' := Lib.hid (HX.out he)
     clear he
     go_wp2_with fail
     go_quiet (fail)
     go_wp2
     go_roundw
     case rel => exact ⟨k + 1, by omega, by go_num, hx.drewN _, HX'.out⟩
     case measure => simp [intOf]; omega
    ·have h1 : (l1 == l2) = false := beq_eq_false_iff_ne.2 he
     have hf := Lib.hid (decide_eq_false (HNO.out he))
     clear he
     go_wp2_with fail
     go_quiet (fail)
     go_wp2
     go_ret
     exact ⟨ret_bool hf.out.symm, hx.drewN _⟩
   ·have hk1 : ¬ (k : Int) < (ls.length : Int) := by omega
    have hf0 : decide (ls = ms) = true := by
     have h1 := HT.out
     rw [List.take_of_length_le (by omega), List.take_of_length_le (by rw [← HL.out]; omega)] at h1
     exact decide_eq_true h1
    have hf := Lib.hid hf0
    clear hf0
    go_wp2
    go_ret
    exact ⟨ret_bool hf.out.symm, hx⟩
 ·have h0 : ((ls.length : Int) != (ms.length : Int)) = true := by rw [bne_iff_ne]; omega
  have hf := Lib.hid (decide_eq_false (fun e : ls = ms => hl (by rw [e])))
  clear hl
  go_enter Try.func21, Try.ntmps21
  go_wp2
  go_ret
  exact ⟨ret_bool hf.out.symm, Ext.refl _⟩
end Go.Proofs.Ytijopcdjlpafdaa
