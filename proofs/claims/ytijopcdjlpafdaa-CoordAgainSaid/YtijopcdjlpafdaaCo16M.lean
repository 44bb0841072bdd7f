/- The walk of coord.Todo. Conditions: the hypotheses of the theorem. -/
import Derived.Test.YtijopcdjlpafdaaCo15M
namespace Go.Proofs.Ytijopcdjlpafdaa
open Go.RowKit
def tdC (x : TxI × Int × Int) : List Value := [.int .i64 x.1.node, .int .i64 x.1.boot, .int .i64 x.1.n, .int .i64 x.2.1, .int .i64 x.2.2]
theorem tdC_one (x : TxI × Int × Int) : ∀ u ∈ tdC x, u.oneCell' = true := by
 intro u hu
 simp only [tdC, List.mem_cons, List.not_mem_nil, or_false] at hu
 rcases hu with rfl | rfl | rfl | rfl | rfl <;> rfl
theorem todoT' : ElemOf Try.prog 67 96 5 40 := ElemOf.mk' (z := .agg #[.int .i64 0, .int .i64 0, .int .i64 0, .int .i64 0, .int .i64 0]) Try.underlying67 (by kernel_rfl) rfl (by omega)
/-- what is to be told of one shard -/
def todoN (t : Tr) (n : Int) : List (TxI × Int × Int) :=
 if t.done = true ∧ hasI t.ack n = false then [(t.id, n, 1)] else if t.done = false ∧ hasI t.yes n = false then [(t.id, n, 0)] else []
theorem todoT_eq (t : Tr) : todoT t = t.shards.flatMap (todoN t) := rfl
def OwnTd (w : World) (base : Nat) (v : Value) (l : List (TxI × Int × Int)) : Prop := w.ownsRow base 96 5 v l.length (l.flatMap tdC)
theorem todoN_len (t : Tr) (n : Int) : (todoN t n).length ≤ 1 := by
 unfold todoN
 split
 ·simp
 ·split <;> simp
theorem flatN_len (t : Tr) (l : List Int) : (l.flatMap (todoN t)).length ≤ l.length := by
 induction l with
 | nil => simp
 | cons n l ih =>
  have := todoN_len t n
  simp only [List.flatMap_cons, List.length_append, List.length_cons]
  omega
theorem flatT_len (l : List Tr) (h : ∀ t ∈ l, t.shards.length ≤ 4) : (l.flatMap todoT).length ≤ 4 * l.length := by
 induction l with
 | nil => simp
 | cons t l ih =>
  have h1 := h t (by simp)
  have h2 := flatN_len t t.shards
  have h3 := ih fun t ht => h t (by simp [ht])
  rw [← todoT_eq] at h2
  simp only [List.flatMap_cons, List.length_append, List.length_cons]
  omega
set_option maxRecDepth 20000 in
set_option maxHeartbeats 4000000 in
theorem CTodo_any {M : List Nat} {w : World} {p : Nat} {s : Cs} (h : Co M w p s) (hs : s.Ok) :
 Calls Try.prog 25 #[pt p] w fun e w' => ∃ v, e = .returned v ∧ OwnTd w' w.heap.size v (todoF s) ∧ Ext w w' := by
 have HS := Lib.hid hs
 have hfew := hs.few
 obtain ⟨A, cap, h⟩ := h
 obtain ⟨c0, c1', c2', c3, cf⟩ := rows4 h.row
 have HH := Lib.hid h
 have hx0 := Ext.refl w
 have HT : Hid (todoF s = s.under.flatMap todoT) := Lib.hid rfl
 clear h c0 c1' c2' cf hs
 unfold pt
 go_enter Try.func25, Try.ntmps25
 go_wp2
 go_loopw [3, 15] (fun ov i wr => ∃ j : Nat, i = .int .i64 j ∧ j ≤ s.under.length ∧ OwnTd wr w.heap.size ov ((s.under.take j).flatMap todoT) ∧ Ext w wr) (fun _ i _ => s.under.length - (intOf i).toNat)
 case atStart => exact ⟨0, rfl, by omega, World.ownsRow_nil _ _ _ _, hx0⟩
 case round =>
  obtain ⟨j, rfl, hj, hown, hxj⟩ := hrel
  by_cases hlt : j < s.under.length
  ·have hlt2 : (j : Int) < (s.under.length : Int) := by omega
   obtain ⟨ad, A1, c1, rfl, hsl, hcell, _⟩ := HH.out.rs.tr hlt
   have hok := HS.out.rows _ (List.getElem_mem hlt)
   have hrl := rightF_mem hok.right
   have hlen := (rightF_len hok.right).2
   have HJS : Hid ((s.under.take (j + 1)).flatMap todoT = (s.under.take j).flatMap todoT ++ s.under[j].shards.flatMap (todoN s.under[j])) := Lib.hid (by
    rw [List.take_succ_eq_append_getElem hlt, List.flatMap_append]
    simp [todoT_eq])
   have hprel := flatT_len (s.under.take j) (fun t ht => (rightF_len (HS.out.rows t (List.mem_of_mem_take ht)).right).2)
   have htl : (s.under.take j).length ≤ 8 := by rw [List.length_take]; omega
   generalize (s.under.take j).flatMap todoT = pre at *
   generalize s.under[j] = t at *
   have HC := Lib.hid hcell
   have HRL := Lib.hid hrl
   have HSL := Lib.hid hsl
   obtain ⟨Ao, co, rfl⟩ := own_form hown
   have HOW0 := Lib.hid hown
   clear hcell hok hsl hrl hown
   obtain ⟨wo, rfl⟩ : ∃ x, x = wr := ⟨wr, rfl⟩
   go_wp2_with (with_reducible first | refine sL 85 ?_ | refine sA 85 ?_ | refine sS 85 ?_)
   refine go_on (wpList_load_elem rfl 85 _ rfl (ad.add (j * 13)) rfl (trC t (.slice A1 t.shards.length c1)) _ (HC.out _ hxj) Try.underlying85 rfl (tx_size rfl) ?_)
   go_wp2_with (with_reducible first | refine sL 85 ?_ | refine sA 85 ?_ | refine sS 85 ?_)
   refine go_on (wpList_alloc_ rfl rfl tx_info ?_)
   go_wp2_with (with_reducible first | refine sL 85 ?_ | refine sA 85 ?_ | refine sS 85 ?_)
   refine go_on (wpList_store_last rfl rfl rfl rfl (by simpa using tx_size (trC_length t (.slice A1 t.shards.length c1))) rfl (all_oneCell_toArray (trC_one _ _ _ _)) ?_)
   intro wc hrowc hxc _
   have hxwc := hxj.trans hxc
   have HOWC : Hid (OwnTd wc w.heap.size (.slice Ao pre.length co) pre) := Lib.hid (owns_ext HOW0.out hxc)
   generalize wo.heap.size = gt at *
   have HRC := Lib.hid hrowc
   have T3 : ∀ W, Ext wc W → W.cell? ⟨gt, 3, none⟩ = some (.slice A1 t.shards.length c1) := fun W hx => by rw [cell_of_row _ _ _ _ _ _ (hx.obj hrowc)]; rfl
   have hxcc := Ext.refl wc
   clear hxc hrowc hxj HOW0
   go_wp2
   clear T3 hxcc
   go_loopw [3, 7, 22] (fun ov _ i wr => ∃ k : Nat, i = .int .i64 k ∧ k ≤ t.shards.length ∧ OwnTd wr w.heap.size ov (pre ++ (t.shards.take k).flatMap (todoN t)) ∧ Hid (wr.heap[gt]? = some (.cells (trC t (.slice A1 t.shards.length c1)).toArray 85 (0, 0))) ∧ Ext w wr) (fun _ _ i _ => t.shards.length - (intOf i).toNat)
   case atStart => exact ⟨0, rfl, by omega, by simpa using HOWC.out, HRC, hxwc⟩
   case round =>
    obtain ⟨k, rfl, hk, hown, HGT, hxk⟩ := hrel
    clear HOWC HRC hxwc
    obtain ⟨Av, cv, rfl⟩ := own_form hown
    have HOW := Lib.hid hown
    clear hown
    by_cases hltk : k < t.shards.length
    ·have hltk2 : (k : Int) < (t.shards.length : Int) := by omega
     obtain ⟨ad2, rfl, hc2⟩ := HSL.out.int hltk
     have hc20 := hc2 _ hxk
     obtain ⟨m0, m3⟩ := HRL.out _ (List.getElem_mem hltk)
     have HSTEP : Hid (pre ++ (t.shards.take (k + 1)).flatMap (todoN t) = (pre ++ (t.shards.take k).flatMap (todoN t)) ++ todoN t t.shards[k]) := Lib.hid (by
      rw [List.take_succ_eq_append_getElem hltk, List.flatMap_append]
      simp)
     have hfl := flatN_len t (t.shards.take k)
     have hpl : (pre ++ (t.shards.take k).flatMap (todoN t)).length ≤ 100 := by
      rw [List.length_append]
      rw [List.length_take] at hfl
      omega
     obtain ⟨m, hm⟩ := Int.eq_ofNat_of_zero_le m0
     rw [hm] at hc20 m3 HSTEP
     have hm3 : m ≤ 3 := by omega
     have hm4 : (m : Int) < 4 := by omega
     have hcells := tr_cell HGT.out
     have t0 : wr.cell? ⟨gt, 0, none⟩ = some (.int .i64 t.id.node) := by have := hcells 0 _ rfl; rwa [add0] at this
     have t1 : wr.cell? ⟨gt, 1, none⟩ = some (.int .i64 t.id.boot) := by have := hcells 1 _ rfl; rwa [add0] at this
     have t2 : wr.cell? ⟨gt, 2, none⟩ = some (.int .i64 t.id.n) := by have := hcells 2 _ rfl; rwa [add0] at this
     have t4 : wr.cell? ⟨gt, 4, none⟩ = some (.bool t.done) := by have := hcells 4 _ rfl; rwa [add0] at this
     have ty : wr.cell? ⟨gt, 5 + m, none⟩ = some (.bool (hasI t.yes m)) := by have := hcells (5 + m) _ (trC_said t _ (saidC_get t.yes hm3)); rwa [add0] at this
     have ta : wr.cell? ⟨gt, 9 + m, none⟩ = some (.bool (hasI t.ack m)) := by have := hcells (9 + m) _ (trC_ack t _ (saidC_get t.ack hm3)); rwa [add0] at this
     clear hcells hc2 m0 m3 hm hfl
     generalize pre ++ (t.shards.take k).flatMap (todoN t) = cur at *
     cases hdd : t.done with
     | true =>
      rw [hdd] at t4
      cases hq : hasI t.ack m with
      | true =>
       rw [hq] at ta
       have HN : Hid (todoN t m = []) := Lib.hid (by unfold todoN; simp [hdd, hq])
       have HST := Lib.hid (HSTEP.out.trans (congrArg (cur ++ ·) HN.out))
       have HO5 : Hid (OwnTd wr w.heap.size (.slice Av cur.length cv) (pre ++ ((t.shards.take (k + 1)).flatMap (todoN t)))) := Lib.hid (by
        rw [HST.out, List.append_nil]
        exact HOW.out)
       go_wp2
       go_roundw
       case rel => exact ⟨k + 1, by go_num, by omega, HO5.out, HGT, hxk⟩
       case measure => simp [intOf]; omega
      | false =>
       rw [hq] at ta
       have hnew : Sl (wr.alloc (.cells #[.int .i64 t.id.node, .int .i64 t.id.boot, .int .i64 t.id.n, .int .i64 (m : Int), .int .i64 1] 96)) (some ⟨wr.heap.size, 0, none⟩) (tdC (t.id, (m : Int), 1)) := Sl.new wr (tdC (t.id, (m : Int), 1)) _ _
       have HN : Hid (todoN t m = [(t.id, (m : Int), 1)]) := Lib.hid (by unfold todoN; simp [hdd, hq])
       have HST := Lib.hid (HSTEP.out.trans (congrArg (cur ++ ·) HN.out))
       go_wp2_with (at_builtin; refine unstop ?_)
       refine go_on (wpList_app todoT' (HOW.out.alloc _) hnew rfl rfl rfl rfl rfl (tdC_one _) (by have := hpl; simp; omega) (by have := hpl; simp; omega) (by have := hxk.size; simp; omega) ?_)
       intro v' w5 ho5 hg5 _
       have HG5 : Hid (w5.heap[gt]? = some (.cells (trC t (.slice _ t.shards.length c1)).toArray 85 (0, 0))) := Lib.hid (by
        have h1 := ((Ext.refl wr).alloc (.cells #[.int .i64 t.id.node, .int .i64 t.id.boot, .int .i64 t.id.n, .int .i64 (m : Int), .int .i64 1] 96)).obj HGT.out
        have h2 := owns_obj (HOW.out.alloc (.cells #[.int .i64 t.id.node, .int .i64 t.id.boot, .int .i64 t.id.n, .int .i64 (m : Int), .int .i64 1] 96)) h1 (by decide)
        exact (hg5.block gt (obj_lt h1) (by rcases h2 with h | h; rw [h]; simp; exact fun e => h e.symm)).trans h1)
       have HO5 : Hid (OwnTd w5 w.heap.size v' (pre ++ ((t.shards.take (k + 1)).flatMap (todoN t)))) := Lib.hid (by
        unfold OwnTd
        rw [HST.out]
        simpa [List.flatMap_append] using ho5)
       have HX5 : Hid (Ext w w5) := Lib.hid ((hxk.alloc _).own (HOW.out.alloc _) (Nat.le_refl _) hg5)
       clear hnew ho5 hg5 hxk
       go_wp2
       go_roundw
       case rel => exact ⟨k + 1, by go_num, by omega, HO5.out, HG5, HX5.out⟩
       case measure => simp [intOf]; omega
     | false =>
      rw [hdd] at t4
      cases hq : hasI t.yes m with
      | true =>
       rw [hq] at ty
       have HN : Hid (todoN t m = []) := Lib.hid (by unfold todoN; simp [hdd, hq])
       have HST := Lib.hid (HSTEP.out.trans (congrArg (cur ++ ·) HN.out))
       have HO5 : Hid (OwnTd wr w.heap.size (.slice Av cur.length cv) (pre ++ ((t.shards.take (k + 1)).flatMap (todoN t)))) := Lib.hid (by
        rw [HST.out, List.append_nil]
        exact HOW.out)
       go_wp2
       go_roundw
       case rel => exact ⟨k + 1, by go_num, by omega, HO5.out, HGT, hxk⟩
       case measure => simp [intOf]; omega
      | false =>
       rw [hq] at ty
       have hnew : Sl (wr.alloc (.cells #[.int .i64 t.id.node, .int .i64 t.id.boot, .int .i64 t.id.n, .int .i64 (m : Int), .int .i64 0] 96)) (some ⟨wr.heap.size, 0, none⟩) (tdC (t.id, (m : Int), 0)) := Sl.new wr (tdC (t.id, (m : Int), 0)) _ _
       have HN : Hid (todoN t m = [(t.id, (m : Int), 0)]) := Lib.hid (by unfold todoN; simp [hdd, hq])
       have HST := Lib.hid (HSTEP.out.trans (congrArg (cur ++ ·) HN.out))
       go_wp2_with (at_builtin; refine unstop ?_)
       refine go_on (wpList_app todoT' (HOW.out.alloc _) hnew rfl rfl rfl rfl rfl (tdC_one _) (by have := hpl; simp; omega) (by have := hpl; simp; omega) (by have := hxk.size; simp; omega) ?_)
       intro v' w5 ho5 hg5 _
       have HG5 : Hid (w5.heap[gt]? = some (.cells (trC t (.slice _ t.shards.length c1)).toArray 85 (0, 0))) := Lib.hid (by
        have h1 := ((Ext.refl wr).alloc (.cells #[.int .i64 t.id.node, .int .i64 t.id.boot, .int .i64 t.id.n, .int .i64 (m : Int), .int .i64 0] 96)).obj HGT.out
        have h2 := owns_obj (HOW.out.alloc (.cells #[.int .i64 t.id.node, .int .i64 t.id.boot, .int .i64 t.id.n, .int .i64 (m : Int), .int .i64 0] 96)) h1 (by decide)
        exact (hg5.block gt (obj_lt h1) (by rcases h2 with h | h; rw [h]; simp; exact fun e => h e.symm)).trans h1)
       have HO5 : Hid (OwnTd w5 w.heap.size v' (pre ++ ((t.shards.take (k + 1)).flatMap (todoN t)))) := Lib.hid (by
        unfold OwnTd
        rw [HST.out]
        simpa [List.flatMap_append] using ho5)
       have HX5 : Hid (Ext w w5) := Lib.hid ((hxk.alloc _).own (HOW.out.alloc _) (Nat.le_refl _) hg5)
       clear hnew ho5 hg5 hxk
       go_wp2
       go_roundw
       case rel => exact ⟨k + 1, by go_num, by omega, HO5.out, HG5, HX5.out⟩
       case measure => simp [intOf]; omega
    ·have hltk2 : ¬ (k : Int) < (t.shards.length : Int) := by omega
     obtain rfl : k = t.shards.length := by omega
     have HO6 : Hid (OwnTd wr w.heap.size (.slice Av (pre ++ (t.shards.take t.shards.length).flatMap (todoN t)).length cv) ((s.under.take (j + 1)).flatMap todoT)) := Lib.hid (by
      have := HOW.out
      rw [List.take_length] at *
      rw [HJS.out]
      exact this)
     go_wp2
     go_roundw
     case rel => exact ⟨j + 1, by go_num, by omega, HO6.out, hxk⟩
     case measure => simp [intOf]; omega
  ·have hlt2 : ¬ (j : Int) < (s.under.length : Int) := by omega
   obtain rfl : j = s.under.length := by omega
   rw [List.take_length] at hown
   generalize s.under.flatMap todoT = L at *
   have HO := Lib.hid hown
   have HX := Lib.hid hxj
   obtain ⟨Ao, co, rfl⟩ := own_form hown
   clear hown hxj
   go_wp2
   go_ret
   rw [HT.out]
   exact ⟨_, rfl, HO.out, HX.out⟩
end Go.Proofs.Ytijopcdjlpafdaa
