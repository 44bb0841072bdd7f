/- The walk of the reference's Redo: a transaction is done. Conditions: the hypotheses of the theorem. -/
import Derived.Test.YtijopcdjlpafdaaC2
import Derived.Test.YtijopcdjlpafdaaC6
namespace Go.Proofs.Ytijopcdjlpafdaa
open Go.RowKit
theorem rc_next {M : List Nat} {w : World} {q : Nat} {s : Cs} (h : Rc M w q s) (hq : q ∈ M) (v : Int) : Rc M (w.setCell ⟨q, 2, none⟩ (.int .i64 v)) q { s with next := v } := by
 obtain ⟨A, cap, h⟩ := h
 have hk : Kept [q] w (w.setCell ⟨q, 2, none⟩ (.int .i64 v)) := (Kept.refl _ _).setCell (.inl (by simp)) _
 refine ⟨A, cap, ?_, h.rs.kept (hk.mono (by intro k hk; simp at hk; subst hk; exact hq)), h.cap⟩
 have := heap_setCell_same w q 2 _ _ (.int .i64 v) h.row
 simpa using this
set_option maxRecDepth 20000 in
set_option maxHeartbeats 8000000 in
theorem RRedo_done {M : List Nat} {w : World} {q : Nat} {s : Cs} (h : Rc M w q s) (hs : s.Ok) (hf : s.Few 1000) (hq : q ∈ M) (hM : ∀ k ∈ M, k < w.heap.size) (A : Option Addr) (c : Nat) (r : By) (hb : Bs w A r) (hc : r.length ≤ c) (hm : r.length ≤ 140737488355328) (h5 : 5 ≤ r.length) (hb1 : 1 ≤ btN r) (hb2 : btN r ≤ 2147483647) (hk : kdN r = 2) :
 Calls Try.prog 66 #[pt q, .slice A r.length c] w fun e w' => e = .returned (.int .i64 (redoO s r).1) ∧ Rc M w' q (redoO s r).2 ∧ Kept [q] w w' := by
 have hfew : s.under.length ≤ 1000 := by have := hs.few; omega
 have HF := fun W (hx : Ext w W) id => rfind_any (h.ext hx) id hfew
 have HSET := fun W (hx : Ext w W) (i : Nat) (hi : i < s.under.length) A2 c2 ys (h2 : RsM RRr 7 M W A2 ys) (hy : ys.length ≤ 1000) => rset_any (h.ext hx) hq (fun k hk => Nat.lt_of_lt_of_le (hM k hk) hx.size) i hi A2 c2 ys h2 hfew hy
 have HCO := Lib.hid h
 have HQ := Lib.hid hq
 have HM := Lib.hid hM
 have HPL := Lib.hid h.lt
 have HS := Lib.hid hs
 have HFW := Lib.hid hf
 have hlate := fun h => Lib.hid (rr_late (s := s) h5 hb1 hb2 (by omega) h)
 have hnone := fun h => Lib.hid (rr_none (s := s) h5 hb1 hb2 hk h)
 have hdone := fun hn1 hn2 h10 hl => Lib.hid (rr_done (s := s) hb1 hb2 hk hn1 hn2 h10 hl)
 obtain ⟨Ac, cap, h⟩ := h
 obtain ⟨c0, c1, c2, c3, cf⟩ := rows4 h.row
 have HRS := Lib.hid h.rs
 clear h hM c2 cf hs hf
 unfold pt at *
 obtain ⟨wa, hwa⟩ : ∃ wa, wa = w.alloc (.cells #[.slice A r.length c, .bool false] 112) := ⟨_, rfl⟩
 have hxa : Ext w wa := by rw [hwa]; exact (Ext.refl w).alloc _
 have hrow : wa.heap[w.heap.size]? = some (.cells #[.slice A r.length c, .bool false] 112 (0, 0)) := by rw [hwa]; exact heap_alloc_new w _
 have hra : RdAt w wa w.heap.size (some r) := ⟨Nat.le_refl _, hxa, A, c, hrow, hc, hb⟩
 have HPG := Lib.hid (Nat.le_refl w.heap.size)
 have HN1 := RRNum_any w wa w.heap.size 1 (some r) hra (by omega)
 have HN2 := fun W (h : RdAt w W w.heap.size (cutQ 1 (some r))) => RRNum_any w W w.heap.size 4 (cutQ 1 (some r)) h (by omega)
 rw [show valB (cutV 1 (some r)) = kdN r from rfl] at HN1
 rw [show valB (cutV 4 (cutQ 1 (some r))) = btN r from rfl, show cutQ 4 (cutQ 1 (some r)) = q2 r from rfl] at HN2
 unfold pt at HN1 HN2
 have hwaA := hwa.symm
 have hkd := kd_bound r
 have hbt := bt_bound r
 clear hwa hrow hra hb hc
 go_enter Try.func66, Try.ntmps66
 go_wp2_with fail
 clear hwaA
 refine HN1.mono ?_
 rintro e w1 ⟨rfl, hr1, -⟩
 go_wp2_with fail
 refine (HN2 _ hr1).mono ?_
 rintro e w2 ⟨rfl, hr2, -⟩
 clear HN1 HN2 hxa
 generalize hpe : w.heap.size = p at *
 have HPE := Lib.hid hpe
 clear hpe
 rw [q2_long h5] at hr2
 have HN3 := RRNum_any w w2 p 4 (some (r.drop 5)) hr2 (by omega)
 rw [show valB (cutV 4 (some (r.drop 5))) = nN r from rfl, show cutQ 4 (some (r.drop 5)) = q3 r from rfl] at HN3
 have HN4 := fun W (h : RdAt w W p (q3 r)) => RRNum_any w W p 1 (q3 r) h (by omega)
 rw [show valB (cutV 1 (q3 r)) = kN r from rfl, show cutQ 1 (q3 r) = q4 r from rfl] at HN4
 have HN5 := fun W l (h : RdAt w W p (some l)) => RRNum_any w W p 1 (some l) h (by omega)
 unfold pt at HN3 HN4 HN5
 obtain ⟨Ar, cr, hrow2, -, -⟩ := hr2.2.2
 obtain ⟨R0, R1, RF⟩ := row2_at hrow2
 clear hr1 hr2 hrow2 RF R0
 have hnb := nN_bound r
 have hkb := kN_bound r
 generalize btN r = bt at *
 clear hkd hk
 have k1 : ¬ (bt : Int) < 1 := by omega
 have k2 : ¬ (2147483647 : Int) < bt := by omega
 go_wp2_with fail
 refine HN3.mono ?_
 rintro e w3 ⟨rfl, hr3, -⟩
 have hx3 : Ext w3 (w3.alloc (.cells #[] 3)) := (Ext.refl w3).alloc _
 have hp3 : p ≤ w3.heap.size := HPE.out ▸ hr3.2.1.size
 have hoi : (w3.alloc (.cells #[] 3)).ownsRow p 3 1 (.slice (some ⟨w3.heap.size, 0, none⟩) 0 0) 0 [] := World.ownsRow_made w3 #[] 0 hp3 (by simp [maxLen]) rfl
 have HR3 := Lib.hid (hr3.ext hx3)
 have HOI := Lib.hid hoi
 have HN4' := HN4 _ HR3.out
 clear hr3 hx3 hp3 hoi HN3 HN4 R1
 go_wp2_with fail
 refine HN4'.mono ?_
 rintro e w4 ⟨rfl, hr4, hk4⟩
 obtain ⟨rv, hrr⟩ := HR3.out.row
 have HO4 := Lib.hid (World.ownsRow.kept HOI.out hk4.grown1 (owns_obj HOI.out hrr (by decide)))
 have HR4 := Lib.hid hr4
 clear hr4 hk4 hrr HN4' HOI HR3
 generalize hkk : kN r = k at *
 have HKK := Lib.hid hkk
 generalize hnn : nN r = n at *
 clear hkk hnn
 go_wp2_with fail
 go_loopw [11, 13] (fun sv iv wr => ∃ (i : Nat) (sh : List Int), iv = .int .i64 i ∧ i ≤ k ∧ sh.length ≤ i ∧ Hid (wr.ownsRow p 3 1 sv sh.length (ib sh)) ∧ ((∃ l, Hid (RdAt w wr p (some l)) ∧ Hid (10 ≤ r.length ∧ i ≤ (r.drop 10).length ∧ l = (r.drop 10).drop i ∧ sh = ((r.drop 10).take i).map fun c => ((c.toNat : Nat) : Int))) ∨ (Hid (RdAt w wr p none) ∧ Hid (redoO s r = (4, s))))) (fun _ iv _ => k - (intOf iv).toNat)
 case atStart =>
  refine ⟨0, [], rfl, by omega, by simp, HO4, ?_⟩
  have h4 := HR4.out
  by_cases h10 : r.length < 10
  ·rw [(q4_short h10).1] at h4
   exact .inr ⟨Lib.hid h4, hnone (.inr h10)⟩
  ·rw [(q4_long (by omega)).1] at h4
   exact .inl ⟨_, Lib.hid h4, Lib.hid ⟨by omega, by omega, by simp, by simp⟩⟩
 case round =>
  obtain ⟨i, sh, rfl, hi, hsh, HO, hrel⟩ := hrel
  clear HO4 HR4
  obtain ⟨As, cs, rfl⟩ := own_form HO.out
  rcases hrel with ⟨l, HR, HL⟩ | ⟨HR, HV⟩
  ·obtain ⟨Ar, cr, hrowr, -, -⟩ := HR.out.2.2
   obtain ⟨R0, R1, RF⟩ := row2_at hrowr
   have HRW := Lib.hid hrowr
   clear hrowr RF
   by_cases hlt : i < k
   ·have hlt2 : (i : Int) < (k : Int) := by omega
    have HN := HN5 wr l HR.out
    clear R0
    go_wp2_with fail
    refine HN.mono ?_
    rintro e w5 ⟨rfl, hr5, hk5⟩
    have ho5 := World.ownsRow.kept HO.out hk5.grown1 (owns_obj HO.out HRW.out (by decide))
    have HO5 := Lib.hid ho5
    have HR5 := Lib.hid hr5
    have hp5 : p ≤ w5.heap.size := HPE.out ▸ hr5.2.1.size
    clear hr5 hk5 ho5 HN R1
    obtain ⟨vv, hvv⟩ : ∃ vv, vv = valB (cutV 1 (some l)) := ⟨_, rfl⟩
    rw [← hvv]
    have HVV := Lib.hid hvv
    clear hvv
    go_wp2_with (at_builtin; refine unstop ?_)
    have hnw : Sl (w5.alloc (.cells #[.int .i64 (vv : Nat)] 3)) (some ⟨w5.heap.size, 0, none⟩) [.int .i64 (vv : Nat)] := Sl.new w5 _ _ _
    refine go_on (wpList_app intsT (HO5.out.alloc _) hnw rfl rfl rfl rfl rfl (by intro u hu; simp at hu; subst hu; rfl) (by omega) (by omega) (by simp; omega) ?_)
    intro v6 w6 ho6 hg6 _
    have hx6 : Ext w w6 := (HR5.out.2.1.alloc _).own (HO5.out.alloc _) (Nat.le_of_eq HPE.out) hg6
    have HR6 : Hid (RdAt w w6 p (cutQ 1 (some l))) := Lib.hid (by
     have h1 := HR5.out.ext ((Ext.refl w5).alloc (.cells #[.int .i64 (vv : Nat)] 3))
     obtain ⟨v, hrw⟩ := h1.row
     refine h1.kept (M := (Value.slice As sh.length cs).ownBlock.toList) ((Kept.refl _ _).grown hg6 fun k hk => .inl (by simp [hk])) (fun hm => ?_) (fun k hk => ?_)
     ·have := owns_obj (HO5.out.alloc (.cells #[.int .i64 (vv : Nat)] 3)) hrw (by decide)
      rcases this with e | e
      ·rw [e] at hm; simp at hm
      ·exact e (by simpa using hm)
     ·have := (HO5.out.lt k (by simpa using hk)).1
      exact HPE.out ▸ this)
    have HO6 : Hid (w6.ownsRow p 3 1 v6 (sh ++ [(vv : Int)]).length (ib (sh ++ [(vv : Int)]))) := Lib.hid (by simpa [ib] using ho6)
    have hrel : (∃ l', Hid (RdAt w w6 p (some l')) ∧ Hid (10 ≤ r.length ∧ i + 1 ≤ (r.drop 10).length ∧ l' = (r.drop 10).drop (i + 1) ∧ sh ++ [(vv : Int)] = ((r.drop 10).take (i + 1)).map fun c => ((c.toNat : Nat) : Int))) ∨ (Hid (RdAt w w6 p none) ∧ Hid (redoO s r = (4, s))) := by
     obtain ⟨h10, hil, hl, hshe⟩ := HL.out
     have h6 := HR6.out
     rcases Nat.lt_or_ge i (r.drop 10).length with hlt3 | hge
     ·left
      have hcons : l = (r.drop 10)[i] :: (r.drop 10).drop (i + 1) := by rw [hl]; exact List.drop_eq_getElem_cons hlt3
      have hq : cutQ 1 (some l) = some ((r.drop 10).drop (i + 1)) := by rw [hcons]; simp [cutQ]
      have hv : vv = ((r.drop 10)[i]).toNat := by rw [HVV.out, hcons]; simp [cutV, valB, valF]
      rw [hq] at h6
      refine ⟨_, Lib.hid h6, Lib.hid ⟨h10, by omega, rfl, ?_⟩⟩
      rw [hshe, hv, List.take_succ_eq_append_getElem hlt3, List.map_append]
      rfl
     ·right
      have hnil : l = [] := by rw [hl]; exact List.drop_of_length_le hge
      have hq : cutQ 1 (some l) = none := by rw [hnil]; rfl
      rw [hq] at h6
      refine ⟨Lib.hid h6, hnone (.inl ?_)⟩
      have := HKK.out
      rw [List.length_drop] at hge hil
      omega
    clear hnw ho6 hg6 hx6 HR6 hp5
    go_wp2
    go_roundw
    case rel => exact ⟨i + 1, _, by go_num, by omega, by simp; omega, HO6, hrel⟩
    case measure => simp [intOf]; omega
   ·have hlt2 : ¬ (i : Int) < (k : Int) := by omega
    obtain rfl : i = k := by omega
    obtain ⟨h10, hil, hl, hshe⟩ := HL.out
    have HX3 := Lib.hid HR.out.2.1
    have hll : l.length = r.length - 10 - i := by rw [hl, List.length_drop, List.length_drop]
    rw [hll] at R0
    clear hll hl HL
    by_cases hle : r.length = 10 + i; rotate_left
    ·have HV := hnone (.inl hle)
     have hgt : (0 : Int) < ((r.length - 10 - i : Nat) : Int) := by
      have : i ≤ r.length - 10 := by simpa using hil
      omega
     clear hshe hlate hnone hdone c0 c1 c3 HF HSET HN5 hil
     go_wp2
     go_ret
     rw [HV.out]
     exact ⟨rfl, HCO.out.ext HX3.out, .of_ext HX3.out⟩
    have hgt : ¬ (0 : Int) < ((r.length - 10 - i : Nat) : Int) := by omega
    by_cases hn1 : n < 1
    ·have hn1' : (n : Int) < 1 := by omega
     have HV := hlate (.inr (.inl hn1))
     clear hshe hlate hnone hdone c0 c1 c3 HF HSET HN5 hil
     go_wp2
     go_ret
     rw [HV.out]
     exact ⟨rfl, HCO.out.ext HX3.out, .of_ext HX3.out⟩
    have hn1' : ¬ (n : Int) < 1 := by omega
    by_cases hn2 : 2147483647 < n
    ·have hn2' : (2147483647 : Int) < n := by omega
     have HV := hlate (.inr (.inr hn2))
     clear hshe hlate hnone hdone c0 c1 c3 HF HSET HN5 hil
     go_wp2
     go_ret
     rw [HV.out]
     exact ⟨rfl, HCO.out.ext HX3.out, .of_ext HX3.out⟩
    have hn2' : ¬ (2147483647 : Int) < n := by omega
    have hsh2 : sh = (r.drop 10).map fun c => ((c.toNat : Nat) : Int) := by
     rw [hshe, List.take_of_length_le (by rw [List.length_drop]; omega)]
    have HV := hdone (by omega) (by omega) h10 hle
    rw [← hsh2] at HV
    have HRI := rright_any wr As cs sh (Sl.own HO.out rfl) (by omega)
    clear hshe hsh2 hlate hnone hdone HN5 hil
    cases hrt : rightF sh with
    | false =>
     rw [hrt, if_neg (by simp)] at HV
     rw [hrt] at HRI
     clear c0 c1 c3 HF HSET
     go_wp2_with fail
     refine HRI.mono ?_
     rintro e w5 ⟨rfl, hx5⟩
     have HX3 := Lib.hid (HX3.out.trans hx5)
     clear hx5 HRI R0 R1
     go_wp2
     go_ret
     rw [HV.out]
     exact ⟨rfl, HCO.out.ext HX3.out, .of_ext HX3.out⟩
    | true =>
     rw [hrt, if_pos rfl] at HV
     rw [hrt] at HRI
     go_wp2_with fail
     refine HRI.mono ?_
     rintro e w5 ⟨rfl, hx5⟩
     have HX5 := Lib.hid (HX3.out.trans hx5)
     have HO5 := Lib.hid (owns_ext HO.out hx5)
     have R15 := (row2_at (hx5.obj HRW.out)).2.1
     have R05 := (row2_at (hx5.obj HRW.out)).1
     have c05 := c0 w5 HX5.out
     clear hx5 HRI R0 R1 c0 HO HRW
     go_wp2_with (with_reducible first | refine sL 35 ?_ | refine sA 35 ?_ | refine sS 35 ?_)
     refine go_on (wpList_alloc_ rfl rfl apitx_info ?_)
     go_wp2_with (with_reducible first | refine sL 35 ?_ | refine sA 35 ?_ | refine sS 35 ?_)
     refine go_on (wpList_store_last rfl rfl rfl rfl (apitx_size _ _ _) rfl (by simp [Value.oneCell']) ?_)
     intro w6 hrow6 hx6 _
     have hxa := HX5.out.trans hx6
     have HSS := Lib.hid (owns_ext HO5.out hx6)
     have HG4 : Hid (q < w5.heap.size) := Lib.hid (by have := HPL.out; have := HX5.out.size; have := HPE.out; omega)
     generalize w5.heap.size = g4 at *
     have HT6 := Lib.hid hrow6
     go_wp2_with (with_reducible refine sL 35 ?_)
     refine go_on (wpList_load_row rfl 35 _ rfl g4 rfl 35 _ (0, 0) _ HT6.out Try.underlying35 rfl (apitx_size _ _ _) ?_)
     clear hrow6 hx6 c05 R15 R05
     go_wp2_with fail
     refine (HF _ hxa ⟨s.node, (bt : Nat), (n : Nat)⟩).mono ?_
     rintro e w7 ⟨rfl, hx7⟩
     replace hxa := hxa.trans hx7
     have HTX := Lib.hid (hx7.obj HT6.out)
     have HSS := Lib.hid (owns_ext HSS.out hx7)
     have c17 := c1 w7 hxa
     have c37 := c3 w7 hxa
     clear hx7 HT6 c1 HO5
     by_cases hbo : s.boot < (bt : Int)
     ·have HV : Hid (redoO s r = (13, s)) := Lib.hid (by rw [HV.out]; unfold isDoneO; rw [if_pos hbo])
      clear c3
      generalize idI (findT s.under ⟨s.node, (bt : Nat), (n : Nat)⟩) = z
      clear HSET HF
      go_wp2
      go_ret
      rw [HV.out]
      exact ⟨rfl, HCO.out.ext hxa, .of_ext hxa⟩
     have HV : Hid (redoO s r = if badF s ⟨s.node, (bt : Nat), (n : Nat)⟩ sh = true then (13, s)
      else if findT s.under ⟨s.node, (bt : Nat), (n : Nat)⟩ = none ∧ 8 ≤ s.under.length then (8, s)
      else (0, ⟨s.node, s.boot, if (bt : Int) = s.boot then max s.next ((n : Int) + 1) else s.next, (s.under.filter fun t => decide (t.id ≠ ⟨s.node, (bt : Nat), (n : Nat)⟩)) ++ [⟨⟨s.node, (bt : Nat), (n : Nat)⟩, sh, true, [], []⟩]⟩)) := Lib.hid (by rw [HV.out]; unfold isDoneO; rw [if_neg hbo])
     cases hfi : findT s.under ⟨s.node, (bt : Nat), (n : Nat)⟩ with
     | none =>
      have hm : idI none = -1 := rfl
      rw [hm]
      have HV : Hid (redoO s r = if 8 ≤ s.under.length then (8, s) else (0, ⟨s.node, s.boot, if (bt : Int) = s.boot then max s.next ((n : Int) + 1) else s.next, s.under ++ [⟨⟨s.node, (bt : Nat), (n : Nat)⟩, sh, true, [], []⟩]⟩)) := Lib.hid (by
       rw [HV.out, filter_none hfi, if_neg (by unfold badF; rw [hfi]; simp)]
       simp only [hfi, true_and])
      clear hm hfi
      by_cases h8 : 8 ≤ s.under.length
      ·rw [if_pos h8] at HV
       have h8' : (8 : Int) ≤ (s.under.length : Int) := by omega
       clear c3
       clear HSET HF
       go_wp2
       go_ret
       rw [HV.out]
       exact ⟨rfl, HCO.out.ext hxa, .of_ext hxa⟩
      ·rw [if_neg h8] at HV
       have h8' : ¬ (8 : Int) ≤ (s.under.length : Int) := by omega
       have HRC : Hid (Rc M w7 q ⟨s.node, s.boot, s.next, s.under⟩) := Lib.hid (HCO.out.ext hxa)
       have HKW : Hid (Kept [q] w w7) := Lib.hid (.of_ext hxa)
       clear HSET HF c3 h8
       obtain ⟨Ac2, cap2, hh⟩ := HRC.out
       obtain ⟨e0, e1, e2, e3, ef⟩ := rows4 hh.row
       simp only at e0 e1 e2 e3
       have e30 := e3 _ (Ext.refl _)
       obtain ⟨ca, p1, p2, p3, p4⟩ := hh.rs
       simp only at p1 p4
       have HROW := Lib.hid hh.row
       have HP1 := Lib.hid p1
       have HP2 := Lib.hid p2
       have HP4 := Lib.hid p4
       have HSA := Lib.hid p3.sl
       have HOA := Lib.hid (RRr.one p1 p4)
       have HLA : Hid (ca.flatten.length = s.under.length * 7) := Lib.hid (by rw [flatten_length p2, p1])
       obtain ⟨t0, t1, t2, tf⟩ := rows3 HTX.out
       have htx : ∀ W, Ext w7 W → ∀ j v, (txiC ⟨s.node, (bt : Nat), (n : Nat)⟩)[j]? = some v → W.cell? ((⟨g4, 0, none⟩ : Addr).add j) = some v := fun W hx j v hj => by
        have hj3 : j < 3 := (List.getElem?_eq_some_iff.1 hj).1
        have e : (⟨g4, 0, none⟩ : Addr).add j = ⟨g4, j, none⟩ := by
         unfold Addr.add
         by_cases h0 : j = 0 <;> simp [h0]
        rw [e]
        match j, hj3 with
        | 0, _ => simp [txiC] at hj; subst hj; exact t0 W hx
        | 1, _ => simp [txiC] at hj; subst hj; exact t1 W hx
        | 2, _ => simp [txiC] at hj; subst hj; exact t2 W hx
       have hb0 : w7.heap.size ≤ w7.heap.size := Nat.le_refl _
       have hx3 : Ext w7 w7.drew := (Ext.refl _).drew
       have HPW : Hid (p ≤ w7.heap.size) := Lib.hid (HPE.out ▸ HKW.out.size)
       have HMW : Hid (∀ k ∈ M, k < w7.heap.size) := Lib.hid fun k hk => Nat.lt_of_lt_of_le (HM.out k hk) HPW.out
       clear hh p1 p2 p3 p4 t0 t1 t2 tf
       go_wp2_with fail
       refine wp_region_phase (S := fun w' => Ext w7 w') 14 (by kernel_rfl) (by kernel_rfl) ?_ (fun hHeld => ?_)
       ·exact hx3
       simp only [List.drop_succ_cons, List.drop_zero]
       refine name_head ?_
       intro wr0 hw0
       rw [hw0] at hHeld
       refine wt 0 _ ?_
       simp only [red, Act.put]
       refine wt 2 _ ?_
       simp only [red, Act.put]
       refine wt 3 _ ?_
       simp only [red, Act.put]
       refine wt 4 _ ?_
       simp only [red, Act.put]
       refine wt 5 _ ?_
       simp only [red, Act.put]
       refine wy 7 (v := .agg #[.int .i64 s.node, .int .i64 (bt : Nat), .int .i64 (n : Nat)]) (by rfl) (by exact yieldsIf_load_elem (by rfl) 35 _ rfl ⟨g4, 0, none⟩ rfl (txiC ⟨s.node, (bt : Nat), (n : Nat)⟩) _ (fun w' hx => htx w' hx) Try.underlying35 rfl (by kernel_rfl)) ?_
       simp only [red, Act.put]
       refine wt 8 _ ?_
       simp only [red, Act.put]
       refine wt 9 _ ?_
       simp only [red, Act.put]
       refine rd [1, 10] ?_
       refine ac (fun K hK => ?_) ?_
       ·go_simp
        refine name_world ?_
        rintro wr1 hw1
        have hxn1 : Ext wr0 wr1 := hw1 ▸ (Ext.refl _).alloc _
        have hrow1 : wr1.heap[wr0.heap.size]? = some (.cells #[] 98) := hw1 ▸ heap_alloc_new wr0 _
        have ho1 : wr1.ownsRow w7.heap.size 98 7 (.slice (some ⟨wr0.heap.size, 0, none⟩) 0 0) 0 [] := hw1 ▸ World.ownsRow_made wr0 #[] 0 hHeld.size (by simp [maxLen]) rfl
        try have hne12 := hsl12.ne_new
        try replace hsl12 := hsl12.ext hxn1
        refine hK.out _ _ ?_ (fun hHeld => ?_)
        ·first | assumption | exact Ext.trans (by assumption) (by assumption)
        clear hK K
        try simp only [red, Act.put]
        refine rd [6, 10] ?_
        refine ac (fun K hK => ?_) ?_
        ·refine step_ap rrT ho1 (HSA.out.ext hHeld) rfl rfl rfl rfl HLA.out HOA.out (by omega) (by omega) hHeld.size ?_
         rintro v6 wr6 ho6 hg6 hor6
         rw [Nat.zero_add] at ho6
         obtain ⟨A6, c6, rfl⟩ := own_form ho6
         have hx6 := hHeld.own ho1 hb0 hg6
         try replace hsl12 := hsl12.grown hg6 (fun ad e => by cases e; exact hne12)
         refine hK.out _ _ ?_ (fun hHeld => ?_)
         ·exact hx6
         clear hK K
         try simp only [red, Act.put]
         refine rd [10] ?_
         refine ac (fun K hK => ?_) ?_
         ·go_simp
          refine name_world ?_
          rintro wr10 hw10
          have hxn10 : Ext wr6 wr10 := hw10 ▸ (Ext.refl _).alloc _
          have hrow10 : wr10.heap[wr6.heap.size]? = some (.cells #[.int .i64 s.node, .int .i64 (bt : Nat), .int .i64 (n : Nat), .slice As sh.length cs, .bool true, .slice none 0 0, .slice none 0 0] 98) := hw10 ▸ heap_alloc_new wr6 _
          try have hne12 := own_ne ho1
          try replace ho1 := owns_ext ho1 hxn10
          try replace ho6 := owns_ext ho6 hxn10
          have hsl12 : Sl wr10 (some ⟨wr6.heap.size, 0, none⟩) (rrC ⟨⟨s.node, (bt : Nat), (n : Nat)⟩, sh, true, [], []⟩ (.slice As sh.length cs) (.slice none 0 0) (.slice none 0 0)) := Sl.of_row hrow10
          refine hK.out _ _ ?_ (fun hHeld => ?_)
          ·first | assumption | exact Ext.trans (by assumption) (by assumption)
          clear hK K
          try simp only [red, Act.put]
          refine rd [11] ?_
          refine ac (fun K hK => ?_) ?_
          ·refine step_ap rrT ho6 hsl12 rfl rfl rfl rfl rfl (rrC_one _ _ _ _ _ _ _ _ _ _) (by omega) (by omega) hHeld.size ?_
           rintro v13 wr11 ho13 hg13 hor13
           have hx13 := hHeld.own ho6 hb0 hg13
           obtain ⟨A13, c13, rfl⟩ := own_form ho13
           refine hK.out _ _ ?_ (fun hHeld => ?_)
           ·exact hx13
           clear hK K
           try simp only [red, Act.put]
           refine wt 12 _ ?_
           simp only [red, Act.put]
           refine wt 13 _ ?_
           simp only [red, Act.put]
           refine wpHead_done (by kernel_rfl) ?_
           have hss : SlM M wr11 As (ib sh) := SlM.own (owns_ext HSS.out hHeld) rfl (fun k hk => HM.out k hk)
           have HN : OwnR RRr 7 98 M wr11 wr11 w7.heap.size (.slice A13 (s.under.length + 1) c13) (s.under ++ [⟨⟨s.node, (bt : Nat), (n : Nat)⟩, sh, true, [], []⟩]) := OwnR.push HP1.out HP2.out (fun k cs x h1 h2 => RRr.kept (HP4.out k cs x h1 h2) (.of_ext hHeld)) rfl ⟨As, cs, none, 0, none, 0, rfl, hss, SlM.nil _ _ _, SlM.nil _ _ _⟩ ho13
           have HST := Lib.hid (rc_storeR (hHeld.obj HROW.out) HQ.out HMW.out (.of_ext hHeld) (Kept.refl _ _) HN)
           have f3 := e3 _ hHeld
           have ff := fun j => ef _ j hHeld
           obtain ⟨Ac9, cap9, hh9⟩ := HST.out.1
           have HR9 := Lib.hid hh9.row
           have hkk : Kept [q] w (wr11.setCell ⟨q, 3, none⟩ (.slice A13 (s.under.length + 1) c13)) := HKW.out.trans HST.out.2
           have HKK := Lib.hid hkk
           have HRC9 := Lib.hid HST.out.1
           clear HN hss ho13 hg13 hor13 hsl12 hrow10 hx13 e0 e1 e2 e3 ef hHeld hh9 hkk HST
           have hrow9 := HR9.out
           obtain ⟨d0, d1, d2, d3, df⟩ := rows4 hrow9
           replace d1 := d1 _ (Ext.refl _)
           replace d2 := d2 _ (Ext.refl _)
           replace df := fun j => df _ j (Ext.refl _)
           have hkn := fun v => (Kept.refl [q] (wr11.setCell ⟨q, 3, none⟩ (.slice A13 (s.under.length + 1) c13))).setCell (p := ⟨q, 2, none⟩) (.inl (by simp)) (.int .i64 v)
           have HRN := Lib.hid (rc_next HRC9.out HQ.out ((n : Int) + 1))
           have HKN := Lib.hid (HKK.out.trans (hkn ((n : Int) + 1)))
           have hwn : IntKind.i64.wrap ((n : Int) + 1) = (n : Int) + 1 := wrap64_nat (n + 1) (by omega)
           clear hkn d0 d3 hrow9
           simp only at d1 d2
           by_cases hbe : (bt : Int) = s.boot
           ·rw [if_pos hbe] at HV
            have k5 : ((bt : Int) == s.boot) = true := by simpa using hbe
            by_cases hnx : s.next ≤ (n : Int)
            ·have hmx : max s.next ((n : Int) + 1) = (n : Int) + 1 := by omega
             rw [hmx] at HV
             clear hmx
             go_wp2
             go_ret
             rw [HV.out]
             exact ⟨rfl, HRN.out, HKN.out⟩
            ·have hmx : max s.next ((n : Int) + 1) = s.next := by omega
             rw [hmx] at HV
             clear hmx
             go_wp2
             go_ret
             rw [HV.out]
             exact ⟨rfl, HRC9.out, HKK.out⟩
           ·rw [if_neg hbe] at HV
            have k5 : ((bt : Int) == s.boot) = false := by simpa using hbe
            go_wp2
            go_ret
            rw [HV.out]
            exact ⟨rfl, HRC9.out, HKK.out⟩
          exact AllHead.nil
         exact AllHead.nil
        refine ac (fun K hK => ?_) ?_
        ·go_simp
         refine name_world ?_
         rintro wr10 hw10
         have hxn10 : Ext wr1 wr10 := hw10 ▸ (Ext.refl _).alloc _
         have hrow10 : wr10.heap[wr1.heap.size]? = some (.cells #[.int .i64 s.node, .int .i64 (bt : Nat), .int .i64 (n : Nat), .slice As sh.length cs, .bool true, .slice none 0 0, .slice none 0 0] 98) := hw10 ▸ heap_alloc_new wr1 _
         try have hne12 := own_ne ho1
         try replace ho1 := owns_ext ho1 hxn10
         try replace ho6 := owns_ext ho6 hxn10
         have hsl12 : Sl wr10 (some ⟨wr1.heap.size, 0, none⟩) (rrC ⟨⟨s.node, (bt : Nat), (n : Nat)⟩, sh, true, [], []⟩ (.slice As sh.length cs) (.slice none 0 0) (.slice none 0 0)) := Sl.of_row hrow10
         refine hK.out _ _ ?_ (fun hHeld => ?_)
         ·first | assumption | exact Ext.trans (by assumption) (by assumption)
         clear hK K
         try simp only [red, Act.put]
         refine rd [6] ?_
         refine ac (fun K hK => ?_) ?_
         ·refine step_ap rrT ho1 (HSA.out.ext hHeld) rfl rfl rfl rfl HLA.out HOA.out (by omega) (by omega) hHeld.size ?_
          rintro v6 wr6 ho6 hg6 hor6
          rw [Nat.zero_add] at ho6
          obtain ⟨A6, c6, rfl⟩ := own_form ho6
          have hx6 := hHeld.own ho1 hb0 hg6
          try replace hsl12 := hsl12.grown hg6 (fun ad e => by cases e; exact hne12)
          refine hK.out _ _ ?_ (fun hHeld => ?_)
          ·exact hx6
          clear hK K
          try simp only [red, Act.put]
          refine rd [11] ?_
          refine ac (fun K hK => ?_) ?_
          ·refine step_ap rrT ho6 hsl12 rfl rfl rfl rfl rfl (rrC_one _ _ _ _ _ _ _ _ _ _) (by omega) (by omega) hHeld.size ?_
           rintro v13 wr11 ho13 hg13 hor13
           have hx13 := hHeld.own ho6 hb0 hg13
           obtain ⟨A13, c13, rfl⟩ := own_form ho13
           refine hK.out _ _ ?_ (fun hHeld => ?_)
           ·exact hx13
           clear hK K
           try simp only [red, Act.put]
           refine wt 12 _ ?_
           simp only [red, Act.put]
           refine wt 13 _ ?_
           simp only [red, Act.put]
           refine wpHead_done (by kernel_rfl) ?_
           have hss : SlM M wr11 As (ib sh) := SlM.own (owns_ext HSS.out hHeld) rfl (fun k hk => HM.out k hk)
           have HN : OwnR RRr 7 98 M wr11 wr11 w7.heap.size (.slice A13 (s.under.length + 1) c13) (s.under ++ [⟨⟨s.node, (bt : Nat), (n : Nat)⟩, sh, true, [], []⟩]) := OwnR.push HP1.out HP2.out (fun k cs x h1 h2 => RRr.kept (HP4.out k cs x h1 h2) (.of_ext hHeld)) rfl ⟨As, cs, none, 0, none, 0, rfl, hss, SlM.nil _ _ _, SlM.nil _ _ _⟩ ho13
           have HST := Lib.hid (rc_storeR (hHeld.obj HROW.out) HQ.out HMW.out (.of_ext hHeld) (Kept.refl _ _) HN)
           have f3 := e3 _ hHeld
           have ff := fun j => ef _ j hHeld
           obtain ⟨Ac9, cap9, hh9⟩ := HST.out.1
           have HR9 := Lib.hid hh9.row
           have hkk : Kept [q] w (wr11.setCell ⟨q, 3, none⟩ (.slice A13 (s.under.length + 1) c13)) := HKW.out.trans HST.out.2
           have HKK := Lib.hid hkk
           have HRC9 := Lib.hid HST.out.1
           clear HN hss ho13 hg13 hor13 hsl12 hrow10 hx13 e0 e1 e2 e3 ef hHeld hh9 hkk HST
           have hrow9 := HR9.out
           obtain ⟨d0, d1, d2, d3, df⟩ := rows4 hrow9
           replace d1 := d1 _ (Ext.refl _)
           replace d2 := d2 _ (Ext.refl _)
           replace df := fun j => df _ j (Ext.refl _)
           have hkn := fun v => (Kept.refl [q] (wr11.setCell ⟨q, 3, none⟩ (.slice A13 (s.under.length + 1) c13))).setCell (p := ⟨q, 2, none⟩) (.inl (by simp)) (.int .i64 v)
           have HRN := Lib.hid (rc_next HRC9.out HQ.out ((n : Int) + 1))
           have HKN := Lib.hid (HKK.out.trans (hkn ((n : Int) + 1)))
           have hwn : IntKind.i64.wrap ((n : Int) + 1) = (n : Int) + 1 := wrap64_nat (n + 1) (by omega)
           clear hkn d0 d3 hrow9
           simp only at d1 d2
           by_cases hbe : (bt : Int) = s.boot
           ·rw [if_pos hbe] at HV
            have k5 : ((bt : Int) == s.boot) = true := by simpa using hbe
            by_cases hnx : s.next ≤ (n : Int)
            ·have hmx : max s.next ((n : Int) + 1) = (n : Int) + 1 := by omega
             rw [hmx] at HV
             clear hmx
             go_wp2
             go_ret
             rw [HV.out]
             exact ⟨rfl, HRN.out, HKN.out⟩
            ·have hmx : max s.next ((n : Int) + 1) = s.next := by omega
             rw [hmx] at HV
             clear hmx
             go_wp2
             go_ret
             rw [HV.out]
             exact ⟨rfl, HRC9.out, HKK.out⟩
           ·rw [if_neg hbe] at HV
            have k5 : ((bt : Int) == s.boot) = false := by simpa using hbe
            go_wp2
            go_ret
            rw [HV.out]
            exact ⟨rfl, HRC9.out, HKK.out⟩
          exact AllHead.nil
         exact AllHead.nil
        exact AllHead.nil
       refine ac (fun K hK => ?_) ?_
       ·go_simp
        refine name_world ?_
        rintro wr10 hw10
        have hxn10 : Ext wr0 wr10 := hw10 ▸ (Ext.refl _).alloc _
        have hrow10 : wr10.heap[wr0.heap.size]? = some (.cells #[.int .i64 s.node, .int .i64 (bt : Nat), .int .i64 (n : Nat), .slice As sh.length cs, .bool true, .slice none 0 0, .slice none 0 0] 98) := hw10 ▸ heap_alloc_new wr0 _
        try have hne12 := own_ne ho1
        try replace ho1 := owns_ext ho1 hxn10
        try replace ho6 := owns_ext ho6 hxn10
        have hsl12 : Sl wr10 (some ⟨wr0.heap.size, 0, none⟩) (rrC ⟨⟨s.node, (bt : Nat), (n : Nat)⟩, sh, true, [], []⟩ (.slice As sh.length cs) (.slice none 0 0) (.slice none 0 0)) := Sl.of_row hrow10
        refine hK.out _ _ ?_ (fun hHeld => ?_)
        ·first | assumption | exact Ext.trans (by assumption) (by assumption)
        clear hK K
        try simp only [red, Act.put]
        refine rd [1] ?_
        refine ac (fun K hK => ?_) ?_
        ·go_simp
         refine name_world ?_
         rintro wr1 hw1
         have hxn1 : Ext wr10 wr1 := hw1 ▸ (Ext.refl _).alloc _
         have hrow1 : wr1.heap[wr10.heap.size]? = some (.cells #[] 98) := hw1 ▸ heap_alloc_new wr10 _
         have ho1 : wr1.ownsRow w7.heap.size 98 7 (.slice (some ⟨wr10.heap.size, 0, none⟩) 0 0) 0 [] := hw1 ▸ World.ownsRow_made wr10 #[] 0 hHeld.size (by simp [maxLen]) rfl
         try have hne12 := hsl12.ne_new
         try replace hsl12 := hsl12.ext hxn1
         refine hK.out _ _ ?_ (fun hHeld => ?_)
         ·first | assumption | exact Ext.trans (by assumption) (by assumption)
         clear hK K
         try simp only [red, Act.put]
         refine rd [6] ?_
         refine ac (fun K hK => ?_) ?_
         ·refine step_ap rrT ho1 (HSA.out.ext hHeld) rfl rfl rfl rfl HLA.out HOA.out (by omega) (by omega) hHeld.size ?_
          rintro v6 wr6 ho6 hg6 hor6
          rw [Nat.zero_add] at ho6
          obtain ⟨A6, c6, rfl⟩ := own_form ho6
          have hx6 := hHeld.own ho1 hb0 hg6
          try replace hsl12 := hsl12.grown hg6 (fun ad e => by cases e; exact hne12)
          refine hK.out _ _ ?_ (fun hHeld => ?_)
          ·exact hx6
          clear hK K
          try simp only [red, Act.put]
          refine rd [11] ?_
          refine ac (fun K hK => ?_) ?_
          ·refine step_ap rrT ho6 hsl12 rfl rfl rfl rfl rfl (rrC_one _ _ _ _ _ _ _ _ _ _) (by omega) (by omega) hHeld.size ?_
           rintro v13 wr11 ho13 hg13 hor13
           have hx13 := hHeld.own ho6 hb0 hg13
           obtain ⟨A13, c13, rfl⟩ := own_form ho13
           refine hK.out _ _ ?_ (fun hHeld => ?_)
           ·exact hx13
           clear hK K
           try simp only [red, Act.put]
           refine wt 12 _ ?_
           simp only [red, Act.put]
           refine wt 13 _ ?_
           simp only [red, Act.put]
           refine wpHead_done (by kernel_rfl) ?_
           have hss : SlM M wr11 As (ib sh) := SlM.own (owns_ext HSS.out hHeld) rfl (fun k hk => HM.out k hk)
           have HN : OwnR RRr 7 98 M wr11 wr11 w7.heap.size (.slice A13 (s.under.length + 1) c13) (s.under ++ [⟨⟨s.node, (bt : Nat), (n : Nat)⟩, sh, true, [], []⟩]) := OwnR.push HP1.out HP2.out (fun k cs x h1 h2 => RRr.kept (HP4.out k cs x h1 h2) (.of_ext hHeld)) rfl ⟨As, cs, none, 0, none, 0, rfl, hss, SlM.nil _ _ _, SlM.nil _ _ _⟩ ho13
           have HST := Lib.hid (rc_storeR (hHeld.obj HROW.out) HQ.out HMW.out (.of_ext hHeld) (Kept.refl _ _) HN)
           have f3 := e3 _ hHeld
           have ff := fun j => ef _ j hHeld
           obtain ⟨Ac9, cap9, hh9⟩ := HST.out.1
           have HR9 := Lib.hid hh9.row
           have hkk : Kept [q] w (wr11.setCell ⟨q, 3, none⟩ (.slice A13 (s.under.length + 1) c13)) := HKW.out.trans HST.out.2
           have HKK := Lib.hid hkk
           have HRC9 := Lib.hid HST.out.1
           clear HN hss ho13 hg13 hor13 hsl12 hrow10 hx13 e0 e1 e2 e3 ef hHeld hh9 hkk HST
           have hrow9 := HR9.out
           obtain ⟨d0, d1, d2, d3, df⟩ := rows4 hrow9
           replace d1 := d1 _ (Ext.refl _)
           replace d2 := d2 _ (Ext.refl _)
           replace df := fun j => df _ j (Ext.refl _)
           have hkn := fun v => (Kept.refl [q] (wr11.setCell ⟨q, 3, none⟩ (.slice A13 (s.under.length + 1) c13))).setCell (p := ⟨q, 2, none⟩) (.inl (by simp)) (.int .i64 v)
           have HRN := Lib.hid (rc_next HRC9.out HQ.out ((n : Int) + 1))
           have HKN := Lib.hid (HKK.out.trans (hkn ((n : Int) + 1)))
           have hwn : IntKind.i64.wrap ((n : Int) + 1) = (n : Int) + 1 := wrap64_nat (n + 1) (by omega)
           clear hkn d0 d3 hrow9
           simp only at d1 d2
           by_cases hbe : (bt : Int) = s.boot
           ·rw [if_pos hbe] at HV
            have k5 : ((bt : Int) == s.boot) = true := by simpa using hbe
            by_cases hnx : s.next ≤ (n : Int)
            ·have hmx : max s.next ((n : Int) + 1) = (n : Int) + 1 := by omega
             rw [hmx] at HV
             clear hmx
             go_wp2
             go_ret
             rw [HV.out]
             exact ⟨rfl, HRN.out, HKN.out⟩
            ·have hmx : max s.next ((n : Int) + 1) = s.next := by omega
             rw [hmx] at HV
             clear hmx
             go_wp2
             go_ret
             rw [HV.out]
             exact ⟨rfl, HRC9.out, HKK.out⟩
           ·rw [if_neg hbe] at HV
            have k5 : ((bt : Int) == s.boot) = false := by simpa using hbe
            go_wp2
            go_ret
            rw [HV.out]
            exact ⟨rfl, HRC9.out, HKK.out⟩
          exact AllHead.nil
         exact AllHead.nil
        exact AllHead.nil
       exact AllHead.nil
     | some i =>
      obtain ⟨hi, hid⟩ := findT_some hfi
      have hm : idI (some i) = (i : Int) := rfl
      rw [hm]
      obtain ⟨ad, A0, d0, A1, d1, A2, d2, rfl, hs0, hs1, hs2, hcell⟩ := HRS.out.rr hi
      have hok := HS.out.rows _ (List.getElem_mem hi)
      have hfw := HFW.out _ (List.getElem_mem hi)
      have hidt : s.under[i].id = ⟨s.node, (bt : Nat), (n : Nat)⟩ := by
       rw [← row_of hi]
       exact hid
      have HFE := Lib.hid (filter_erase HS.out.one hi hidt)
      have HBF : Hid (badF s ⟨s.node, (bt : Nat), (n : Nat)⟩ sh = (s.under[i].done || !allIn s.under[i].shards s.under[i].yes || (!allIn s.under[i].shards sh || !allIn sh s.under[i].shards))) := Lib.hid (by
       unfold badF
       rw [hfi]
       simp only
       rw [row_of hi, right_same hok.right hrt])
      have HV : Hid (redoO s r = if badF s ⟨s.node, (bt : Nat), (n : Nat)⟩ sh = true then (13, s) else (0, ⟨s.node, s.boot, if (bt : Int) = s.boot then max s.next ((n : Int) + 1) else s.next, s.under.eraseIdx i ++ [⟨⟨s.node, (bt : Nat), (n : Nat)⟩, sh, true, [], []⟩]⟩)) := Lib.hid (by
       rw [HV.out, HFE.out, hfi]
       simp)
      rw [HBF.out] at HV
      have hnneg : (0 : Int) ≤ (i : Int) := by omega
      have hilt : (i : Int) < (s.under.length : Int) := by omega
      have hsl : s.under[i].shards.length ≤ 4 := (rightF_len hok.right).2
      have hyl : s.under[i].yes.length ≤ 1000 := hfw.1
      have hshl : sh.length ≤ 4 := (rightF_len hrt).2
      clear hm hfi hid HFE HBF hok hfw hidt
      generalize htt : s.under[i] = t at *
      clear htt
      go_wp2_with (with_reducible first | refine sL 98 ?_ | refine sA 98 ?_ | refine sS 98 ?_)
      refine go_on (wpList_load_elem rfl 98 _ rfl (ad.add (i * 7)) rfl (rrC t (.slice A0 t.shards.length d0) (.slice A1 t.yes.length d1) (.slice A2 t.ack.length d2)) _ (hcell _ hxa) Try.underlying98 rfl (rr_size rfl) ?_)
      go_wp2_with (with_reducible first | refine sL 98 ?_ | refine sA 98 ?_ | refine sS 98 ?_)
      refine go_on (wpList_alloc_ rfl rfl rr_info ?_)
      go_wp2_with (with_reducible first | refine sL 98 ?_ | refine sA 98 ?_ | refine sS 98 ?_)
      refine go_on (wpList_store_last rfl rfl rfl rfl (by simpa using rr_size (rrC_length t (.slice A0 t.shards.length d0) (.slice A1 t.yes.length d1) (.slice A2 t.ack.length d2))) rfl (all_oneCell_toArray (rrC_one _ _ _ _ _ _ _ _ _ _)) ?_)
      intro wc hrowc hxc _
      have HTX := Lib.hid (hxc.obj HTX.out)
      have HSS := Lib.hid (owns_ext HSS.out hxc)
      replace hxa := hxa.trans hxc
      generalize w7.heap.size = g at *
      have g3 : wc.cell? ⟨g, 3, none⟩ = some (.slice A0 t.shards.length d0) := by rw [cell_of_row _ _ _ _ _ _ hrowc]; rfl
      have g4' : wc.cell? ⟨g, 4, none⟩ = some (.bool t.done) := by rw [cell_of_row _ _ _ _ _ _ hrowc]; rfl
      have g5' : wc.cell? ⟨g, 5, none⟩ = some (.slice A1 t.yes.length d1) := by rw [cell_of_row _ _ _ _ _ _ hrowc]; rfl
      have HL1 := rall_any wc A0 d0 t.shards A1 d1 t.yes (hs0.sl.ext hxa) (hs1.sl.ext hxa) (by omega) (by omega)
      have HL2 := rall_any wc A0 d0 t.shards As cs sh (hs0.sl.ext hxa) (Sl.own HSS.out rfl) (by omega) (by omega)
      have HL3 := rall_any wc As cs sh A0 d0 t.shards (Sl.own HSS.out rfl) (hs0.sl.ext hxa) (by omega) (by omega)
      clear hrowc hxc hs0 hs1 hs2 hcell c37 c17
      cases hdd : t.done with
      | true =>
       rw [hdd] at HV g4'
       have HV : Hid (redoO s r = (13, s)) := Lib.hid (by rw [HV.out]; simp)
       clear c3 HL1 HL2 HL3 hdd
       clear HSET HF
       go_wp2
       go_ret
       rw [HV.out]
       exact ⟨rfl, HCO.out.ext hxa, .of_ext hxa⟩
      | false =>
       rw [hdd] at HV g4'
       cases ha1 : allIn t.shards t.yes with
       | false =>
        rw [ha1] at HV HL1
        have HV : Hid (redoO s r = (13, s)) := Lib.hid (by rw [HV.out]; simp)
        clear c3 HL2 HL3 hdd ha1
        go_wp2_with fail
        refine HL1.mono ?_
        rintro e _ ⟨rfl, rfl⟩
        clear HSET HF
        go_wp2
        go_ret
        rw [HV.out]
        exact ⟨rfl, HCO.out.ext hxa, .of_ext hxa⟩
       | true =>
        rw [ha1] at HV HL1
        cases ha2 : allIn t.shards sh with
        | false =>
         rw [ha2] at HV HL2
         have HV : Hid (redoO s r = (13, s)) := Lib.hid (by rw [HV.out]; simp)
         clear c3 HL3 hdd ha1 ha2
         go_wp2_with fail
         refine HL1.mono ?_
         rintro e _ ⟨rfl, rfl⟩
         go_wp2_with fail
         refine HL2.mono ?_
         rintro e _ ⟨rfl, rfl⟩
         clear HSET HF
         go_wp2
         go_ret
         rw [HV.out]
         exact ⟨rfl, HCO.out.ext hxa, .of_ext hxa⟩
        | true =>
         rw [ha2] at HV HL2
         cases ha3 : allIn sh t.shards with
         | false =>
          rw [ha3] at HV HL3
          have HV : Hid (redoO s r = (13, s)) := Lib.hid (by rw [HV.out]; simp)
          clear c3 hdd ha1 ha2 ha3
          go_wp2_with fail
          refine HL1.mono ?_
          rintro e _ ⟨rfl, rfl⟩
          go_wp2_with fail
          refine HL2.mono ?_
          rintro e _ ⟨rfl, rfl⟩
          go_wp2_with fail
          refine HL3.mono ?_
          rintro e _ ⟨rfl, rfl⟩
          clear HSET HF
          go_wp2
          go_ret
          rw [HV.out]
          exact ⟨rfl, HCO.out.ext hxa, .of_ext hxa⟩
         | true =>
          rw [ha3] at HV HL3
          have HV : Hid (redoO s r = (0, ⟨s.node, s.boot, if (bt : Int) = s.boot then max s.next ((n : Int) + 1) else s.next, s.under.eraseIdx i ++ [⟨⟨s.node, (bt : Nat), (n : Nat)⟩, sh, true, [], []⟩]⟩)) := Lib.hid (by rw [HV.out]; simp)
          have HS2 := HSET wc hxa i hi none 0 [] (RsM.nil _ _ _ _ _) (by simp)
          rw [erase_cut] at HS2
          clear c3 hdd ha1 ha2 ha3 HF HSET
          go_wp2_with fail
          refine HL1.mono ?_
          rintro e _ ⟨rfl, rfl⟩
          go_wp2_with fail
          refine HL2.mono ?_
          rintro e _ ⟨rfl, rfl⟩
          go_wp2_with fail
          refine HL3.mono ?_
          rintro e _ ⟨rfl, rfl⟩
          clear HL1 HL2 HL3 g3 g4' g5'
          go_wp2_with fail
          refine HS2.mono ?_
          rintro e w9 ⟨rfl, hr9, hk9⟩
          obtain ⟨csq, hobq⟩ := (HCO.out.ext hxa).obj
          have HRC : Hid (Rc M w9 q ⟨s.node, s.boot, s.next, s.under.eraseIdx i⟩) := Lib.hid hr9
          have HKW : Hid (Kept [q] w w9) := Lib.hid ((Kept.of_ext hxa).trans hk9)
          have HTX := Lib.hid (hk9.heap HTX.out (by have := HG4.out; simp; omega))
          have HSS := Lib.hid (World.ownsRow.kept HSS.out hk9.grown1 (owns_obj HSS.out hobq (by decide)))
          have hul : (s.under.eraseIdx i).length ≤ 7 := by rw [List.length_eraseIdx]; simp [hi]; have := HS.out.few; omega
          have h8' : ¬ (8 : Int) ≤ ((s.under.eraseIdx i).length : Int) := by omega
          clear hr9 hk9 hobq HS2 hxa
          generalize s.under.eraseIdx i = us at *
          obtain ⟨Ac2, cap2, hh⟩ := HRC.out
          obtain ⟨e0, e1, e2, e3, ef⟩ := rows4 hh.row
          simp only at e0 e1 e2 e3
          have e30 := e3 _ (Ext.refl _)
          obtain ⟨ca, p1, p2, p3, p4⟩ := hh.rs
          simp only at p1 p4
          have HROW := Lib.hid hh.row
          have HP1 := Lib.hid p1
          have HP2 := Lib.hid p2
          have HP4 := Lib.hid p4
          have HSA := Lib.hid p3.sl
          have HOA := Lib.hid (RRr.one p1 p4)
          have HLA : Hid (ca.flatten.length = us.length * 7) := Lib.hid (by rw [flatten_length p2, p1])
          obtain ⟨t0, t1, t2, tf⟩ := rows3 HTX.out
          have htx : ∀ W, Ext w9 W → ∀ j v, (txiC ⟨s.node, (bt : Nat), (n : Nat)⟩)[j]? = some v → W.cell? ((⟨g4, 0, none⟩ : Addr).add j) = some v := fun W hx j v hj => by
           have hj3 : j < 3 := (List.getElem?_eq_some_iff.1 hj).1
           have e : (⟨g4, 0, none⟩ : Addr).add j = ⟨g4, j, none⟩ := by
            unfold Addr.add
            by_cases h0 : j = 0 <;> simp [h0]
           rw [e]
           match j, hj3 with
           | 0, _ => simp [txiC] at hj; subst hj; exact t0 W hx
           | 1, _ => simp [txiC] at hj; subst hj; exact t1 W hx
           | 2, _ => simp [txiC] at hj; subst hj; exact t2 W hx
          have hb0 : w9.heap.size ≤ w9.heap.size := Nat.le_refl _
          have hx3 : Ext w9 w9.drew := (Ext.refl _).drew
          have HPW : Hid (p ≤ w9.heap.size) := Lib.hid (HPE.out ▸ HKW.out.size)
          have HMW : Hid (∀ k ∈ M, k < w9.heap.size) := Lib.hid fun k hk => Nat.lt_of_lt_of_le (HM.out k hk) HPW.out
          clear hh p1 p2 p3 p4 t0 t1 t2 tf
          go_wp2_with fail
          refine wp_region_phase (S := fun w' => Ext w9 w') 14 (by kernel_rfl) (by kernel_rfl) ?_ (fun hHeld => ?_)
          ·exact hx3
          simp only [List.drop_succ_cons, List.drop_zero]
          refine name_head ?_
          intro wr0 hw0
          rw [hw0] at hHeld
          refine wt 0 _ ?_
          simp only [red, Act.put]
          refine wt 2 _ ?_
          simp only [red, Act.put]
          refine wt 3 _ ?_
          simp only [red, Act.put]
          refine wt 4 _ ?_
          simp only [red, Act.put]
          refine wt 5 _ ?_
          simp only [red, Act.put]
          refine wy 7 (v := .agg #[.int .i64 s.node, .int .i64 (bt : Nat), .int .i64 (n : Nat)]) (by rfl) (by exact yieldsIf_load_elem (by rfl) 35 _ rfl ⟨g4, 0, none⟩ rfl (txiC ⟨s.node, (bt : Nat), (n : Nat)⟩) _ (fun w' hx => htx w' hx) Try.underlying35 rfl (by kernel_rfl)) ?_
          simp only [red, Act.put]
          refine wt 8 _ ?_
          simp only [red, Act.put]
          refine wt 9 _ ?_
          simp only [red, Act.put]
          refine rd [1, 10] ?_
          refine ac (fun K hK => ?_) ?_
          ·go_simp
           refine name_world ?_
           rintro wr1 hw1
           have hxn1 : Ext wr0 wr1 := hw1 ▸ (Ext.refl _).alloc _
           have hrow1 : wr1.heap[wr0.heap.size]? = some (.cells #[] 98) := hw1 ▸ heap_alloc_new wr0 _
           have ho1 : wr1.ownsRow w9.heap.size 98 7 (.slice (some ⟨wr0.heap.size, 0, none⟩) 0 0) 0 [] := hw1 ▸ World.ownsRow_made wr0 #[] 0 hHeld.size (by simp [maxLen]) rfl
           try have hne12 := hsl12.ne_new
           try replace hsl12 := hsl12.ext hxn1
           refine hK.out _ _ ?_ (fun hHeld => ?_)
           ·first | assumption | exact Ext.trans (by assumption) (by assumption)
           clear hK K
           try simp only [red, Act.put]
           refine rd [6, 10] ?_
           refine ac (fun K hK => ?_) ?_
           ·refine step_ap rrT ho1 (HSA.out.ext hHeld) rfl rfl rfl rfl HLA.out HOA.out (by omega) (by omega) hHeld.size ?_
            rintro v6 wr6 ho6 hg6 hor6
            rw [Nat.zero_add] at ho6
            obtain ⟨A6, c6, rfl⟩ := own_form ho6
            have hx6 := hHeld.own ho1 hb0 hg6
            try replace hsl12 := hsl12.grown hg6 (fun ad e => by cases e; exact hne12)
            refine hK.out _ _ ?_ (fun hHeld => ?_)
            ·exact hx6
            clear hK K
            try simp only [red, Act.put]
            refine rd [10] ?_
            refine ac (fun K hK => ?_) ?_
            ·go_simp
             refine name_world ?_
             rintro wr10 hw10
             have hxn10 : Ext wr6 wr10 := hw10 ▸ (Ext.refl _).alloc _
             have hrow10 : wr10.heap[wr6.heap.size]? = some (.cells #[.int .i64 s.node, .int .i64 (bt : Nat), .int .i64 (n : Nat), .slice As sh.length cs, .bool true, .slice none 0 0, .slice none 0 0] 98) := hw10 ▸ heap_alloc_new wr6 _
             try have hne12 := own_ne ho1
             try replace ho1 := owns_ext ho1 hxn10
             try replace ho6 := owns_ext ho6 hxn10
             have hsl12 : Sl wr10 (some ⟨wr6.heap.size, 0, none⟩) (rrC ⟨⟨s.node, (bt : Nat), (n : Nat)⟩, sh, true, [], []⟩ (.slice As sh.length cs) (.slice none 0 0) (.slice none 0 0)) := Sl.of_row hrow10
             refine hK.out _ _ ?_ (fun hHeld => ?_)
             ·first | assumption | exact Ext.trans (by assumption) (by assumption)
             clear hK K
             try simp only [red, Act.put]
             refine rd [11] ?_
             refine ac (fun K hK => ?_) ?_
             ·refine step_ap rrT ho6 hsl12 rfl rfl rfl rfl rfl (rrC_one _ _ _ _ _ _ _ _ _ _) (by omega) (by omega) hHeld.size ?_
              rintro v13 wr11 ho13 hg13 hor13
              have hx13 := hHeld.own ho6 hb0 hg13
              obtain ⟨A13, c13, rfl⟩ := own_form ho13
              refine hK.out _ _ ?_ (fun hHeld => ?_)
              ·exact hx13
              clear hK K
              try simp only [red, Act.put]
              refine wt 12 _ ?_
              simp only [red, Act.put]
              refine wt 13 _ ?_
              simp only [red, Act.put]
              refine wpHead_done (by kernel_rfl) ?_
              have hss : SlM M wr11 As (ib sh) := SlM.own (owns_ext HSS.out hHeld) rfl (fun k hk => HM.out k hk)
              have HN : OwnR RRr 7 98 M wr11 wr11 w9.heap.size (.slice A13 (us.length + 1) c13) (us ++ [⟨⟨s.node, (bt : Nat), (n : Nat)⟩, sh, true, [], []⟩]) := OwnR.push HP1.out HP2.out (fun k cs x h1 h2 => RRr.kept (HP4.out k cs x h1 h2) (.of_ext hHeld)) rfl ⟨As, cs, none, 0, none, 0, rfl, hss, SlM.nil _ _ _, SlM.nil _ _ _⟩ ho13
              have HST := Lib.hid (rc_storeR (hHeld.obj HROW.out) HQ.out HMW.out (.of_ext hHeld) (Kept.refl _ _) HN)
              have f3 := e3 _ hHeld
              have ff := fun j => ef _ j hHeld
              obtain ⟨Ac9, cap9, hh9⟩ := HST.out.1
              have HR9 := Lib.hid hh9.row
              have hkk : Kept [q] w (wr11.setCell ⟨q, 3, none⟩ (.slice A13 (us.length + 1) c13)) := HKW.out.trans HST.out.2
              have HKK := Lib.hid hkk
              have HRC9 := Lib.hid HST.out.1
              clear HN hss ho13 hg13 hor13 hsl12 hrow10 hx13 e0 e1 e2 e3 ef hHeld hh9 hkk HST
              have hrow9 := HR9.out
              obtain ⟨d0, d1, d2, d3, df⟩ := rows4 hrow9
              replace d1 := d1 _ (Ext.refl _)
              replace d2 := d2 _ (Ext.refl _)
              replace df := fun j => df _ j (Ext.refl _)
              have hkn := fun v => (Kept.refl [q] (wr11.setCell ⟨q, 3, none⟩ (.slice A13 (us.length + 1) c13))).setCell (p := ⟨q, 2, none⟩) (.inl (by simp)) (.int .i64 v)
              have HRN := Lib.hid (rc_next HRC9.out HQ.out ((n : Int) + 1))
              have HKN := Lib.hid (HKK.out.trans (hkn ((n : Int) + 1)))
              have hwn : IntKind.i64.wrap ((n : Int) + 1) = (n : Int) + 1 := wrap64_nat (n + 1) (by omega)
              clear hkn d0 d3 hrow9
              simp only at d1 d2
              by_cases hbe : (bt : Int) = s.boot
              ·rw [if_pos hbe] at HV
               have k5 : ((bt : Int) == s.boot) = true := by simpa using hbe
               by_cases hnx : s.next ≤ (n : Int)
               ·have hmx : max s.next ((n : Int) + 1) = (n : Int) + 1 := by omega
                rw [hmx] at HV
                clear hmx
                go_wp2
                go_ret
                rw [HV.out]
                exact ⟨rfl, HRN.out, HKN.out⟩
               ·have hmx : max s.next ((n : Int) + 1) = s.next := by omega
                rw [hmx] at HV
                clear hmx
                go_wp2
                go_ret
                rw [HV.out]
                exact ⟨rfl, HRC9.out, HKK.out⟩
              ·rw [if_neg hbe] at HV
               have k5 : ((bt : Int) == s.boot) = false := by simpa using hbe
               go_wp2
               go_ret
               rw [HV.out]
               exact ⟨rfl, HRC9.out, HKK.out⟩
             exact AllHead.nil
            exact AllHead.nil
           refine ac (fun K hK => ?_) ?_
           ·go_simp
            refine name_world ?_
            rintro wr10 hw10
            have hxn10 : Ext wr1 wr10 := hw10 ▸ (Ext.refl _).alloc _
            have hrow10 : wr10.heap[wr1.heap.size]? = some (.cells #[.int .i64 s.node, .int .i64 (bt : Nat), .int .i64 (n : Nat), .slice As sh.length cs, .bool true, .slice none 0 0, .slice none 0 0] 98) := hw10 ▸ heap_alloc_new wr1 _
            try have hne12 := own_ne ho1
            try replace ho1 := owns_ext ho1 hxn10
            try replace ho6 := owns_ext ho6 hxn10
            have hsl12 : Sl wr10 (some ⟨wr1.heap.size, 0, none⟩) (rrC ⟨⟨s.node, (bt : Nat), (n : Nat)⟩, sh, true, [], []⟩ (.slice As sh.length cs) (.slice none 0 0) (.slice none 0 0)) := Sl.of_row hrow10
            refine hK.out _ _ ?_ (fun hHeld => ?_)
            ·first | assumption | exact Ext.trans (by assumption) (by assumption)
            clear hK K
            try simp only [red, Act.put]
            refine rd [6] ?_
            refine ac (fun K hK => ?_) ?_
            ·refine step_ap rrT ho1 (HSA.out.ext hHeld) rfl rfl rfl rfl HLA.out HOA.out (by omega) (by omega) hHeld.size ?_
             rintro v6 wr6 ho6 hg6 hor6
             rw [Nat.zero_add] at ho6
             obtain ⟨A6, c6, rfl⟩ := own_form ho6
             have hx6 := hHeld.own ho1 hb0 hg6
             try replace hsl12 := hsl12.grown hg6 (fun ad e => by cases e; exact hne12)
             refine hK.out _ _ ?_ (fun hHeld => ?_)
             ·exact hx6
             clear hK K
             try simp only [red, Act.put]
             refine rd [11] ?_
             refine ac (fun K hK => ?_) ?_
             ·refine step_ap rrT ho6 hsl12 rfl rfl rfl rfl rfl (rrC_one _ _ _ _ _ _ _ _ _ _) (by omega) (by omega) hHeld.size ?_
              rintro v13 wr11 ho13 hg13 hor13
              have hx13 := hHeld.own ho6 hb0 hg13
              obtain ⟨A13, c13, rfl⟩ := own_form ho13
              refine hK.out _ _ ?_ (fun hHeld => ?_)
              ·exact hx13
              clear hK K
              try simp only [red, Act.put]
              refine wt 12 _ ?_
              simp only [red, Act.put]
              refine wt 13 _ ?_
              simp only [red, Act.put]
              refine wpHead_done (by kernel_rfl) ?_
              have hss : SlM M wr11 As (ib sh) := SlM.own (owns_ext HSS.out hHeld) rfl (fun k hk => HM.out k hk)
              have HN : OwnR RRr 7 98 M wr11 wr11 w9.heap.size (.slice A13 (us.length + 1) c13) (us ++ [⟨⟨s.node, (bt : Nat), (n : Nat)⟩, sh, true, [], []⟩]) := OwnR.push HP1.out HP2.out (fun k cs x h1 h2 => RRr.kept (HP4.out k cs x h1 h2) (.of_ext hHeld)) rfl ⟨As, cs, none, 0, none, 0, rfl, hss, SlM.nil _ _ _, SlM.nil _ _ _⟩ ho13
              have HST := Lib.hid (rc_storeR (hHeld.obj HROW.out) HQ.out HMW.out (.of_ext hHeld) (Kept.refl _ _) HN)
              have f3 := e3 _ hHeld
              have ff := fun j => ef _ j hHeld
              obtain ⟨Ac9, cap9, hh9⟩ := HST.out.1
              have HR9 := Lib.hid hh9.row
              have hkk : Kept [q] w (wr11.setCell ⟨q, 3, none⟩ (.slice A13 (us.length + 1) c13)) := HKW.out.trans HST.out.2
              have HKK := Lib.hid hkk
              have HRC9 := Lib.hid HST.out.1
              clear HN hss ho13 hg13 hor13 hsl12 hrow10 hx13 e0 e1 e2 e3 ef hHeld hh9 hkk HST
              have hrow9 := HR9.out
              obtain ⟨d0, d1, d2, d3, df⟩ := rows4 hrow9
              replace d1 := d1 _ (Ext.refl _)
              replace d2 := d2 _ (Ext.refl _)
              replace df := fun j => df _ j (Ext.refl _)
              have hkn := fun v => (Kept.refl [q] (wr11.setCell ⟨q, 3, none⟩ (.slice A13 (us.length + 1) c13))).setCell (p := ⟨q, 2, none⟩) (.inl (by simp)) (.int .i64 v)
              have HRN := Lib.hid (rc_next HRC9.out HQ.out ((n : Int) + 1))
              have HKN := Lib.hid (HKK.out.trans (hkn ((n : Int) + 1)))
              have hwn : IntKind.i64.wrap ((n : Int) + 1) = (n : Int) + 1 := wrap64_nat (n + 1) (by omega)
              clear hkn d0 d3 hrow9
              simp only at d1 d2
              by_cases hbe : (bt : Int) = s.boot
              ·rw [if_pos hbe] at HV
               have k5 : ((bt : Int) == s.boot) = true := by simpa using hbe
               by_cases hnx : s.next ≤ (n : Int)
               ·have hmx : max s.next ((n : Int) + 1) = (n : Int) + 1 := by omega
                rw [hmx] at HV
                clear hmx
                go_wp2
                go_ret
                rw [HV.out]
                exact ⟨rfl, HRN.out, HKN.out⟩
               ·have hmx : max s.next ((n : Int) + 1) = s.next := by omega
                rw [hmx] at HV
                clear hmx
                go_wp2
                go_ret
                rw [HV.out]
                exact ⟨rfl, HRC9.out, HKK.out⟩
              ·rw [if_neg hbe] at HV
               have k5 : ((bt : Int) == s.boot) = false := by simpa using hbe
               go_wp2
               go_ret
               rw [HV.out]
               exact ⟨rfl, HRC9.out, HKK.out⟩
             exact AllHead.nil
            exact AllHead.nil
           exact AllHead.nil
          refine ac (fun K hK => ?_) ?_
          ·go_simp
           refine name_world ?_
           rintro wr10 hw10
           have hxn10 : Ext wr0 wr10 := hw10 ▸ (Ext.refl _).alloc _
           have hrow10 : wr10.heap[wr0.heap.size]? = some (.cells #[.int .i64 s.node, .int .i64 (bt : Nat), .int .i64 (n : Nat), .slice As sh.length cs, .bool true, .slice none 0 0, .slice none 0 0] 98) := hw10 ▸ heap_alloc_new wr0 _
           try have hne12 := own_ne ho1
           try replace ho1 := owns_ext ho1 hxn10
           try replace ho6 := owns_ext ho6 hxn10
           have hsl12 : Sl wr10 (some ⟨wr0.heap.size, 0, none⟩) (rrC ⟨⟨s.node, (bt : Nat), (n : Nat)⟩, sh, true, [], []⟩ (.slice As sh.length cs) (.slice none 0 0) (.slice none 0 0)) := Sl.of_row hrow10
           refine hK.out _ _ ?_ (fun hHeld => ?_)
           ·first | assumption | exact Ext.trans (by assumption) (by assumption)
           clear hK K
           try simp only [red, Act.put]
           refine rd [1] ?_
           refine ac (fun K hK => ?_) ?_
           ·go_simp
            refine name_world ?_
            rintro wr1 hw1
            have hxn1 : Ext wr10 wr1 := hw1 ▸ (Ext.refl _).alloc _
            have hrow1 : wr1.heap[wr10.heap.size]? = some (.cells #[] 98) := hw1 ▸ heap_alloc_new wr10 _
            have ho1 : wr1.ownsRow w9.heap.size 98 7 (.slice (some ⟨wr10.heap.size, 0, none⟩) 0 0) 0 [] := hw1 ▸ World.ownsRow_made wr10 #[] 0 hHeld.size (by simp [maxLen]) rfl
            try have hne12 := hsl12.ne_new
            try replace hsl12 := hsl12.ext hxn1
            refine hK.out _ _ ?_ (fun hHeld => ?_)
            ·first | assumption | exact Ext.trans (by assumption) (by assumption)
            clear hK K
            try simp only [red, Act.put]
            refine rd [6] ?_
            refine ac (fun K hK => ?_) ?_
            ·refine step_ap rrT ho1 (HSA.out.ext hHeld) rfl rfl rfl rfl HLA.out HOA.out (by omega) (by omega) hHeld.size ?_
             rintro v6 wr6 ho6 hg6 hor6
             rw [Nat.zero_add] at ho6
             obtain ⟨A6, c6, rfl⟩ := own_form ho6
             have hx6 := hHeld.own ho1 hb0 hg6
             try replace hsl12 := hsl12.grown hg6 (fun ad e => by cases e; exact hne12)
             refine hK.out _ _ ?_ (fun hHeld => ?_)
             ·exact hx6
             clear hK K
             try simp only [red, Act.put]
             refine rd [11] ?_
             refine ac (fun K hK => ?_) ?_
             ·refine step_ap rrT ho6 hsl12 rfl rfl rfl rfl rfl (rrC_one _ _ _ _ _ _ _ _ _ _) (by omega) (by omega) hHeld.size ?_
              rintro v13 wr11 ho13 hg13 hor13
              have hx13 := hHeld.own ho6 hb0 hg13
              obtain ⟨A13, c13, rfl⟩ := own_form ho13
              refine hK.out _ _ ?_ (fun hHeld => ?_)
              ·exact hx13
              clear hK K
              try simp only [red, Act.put]
              refine wt 12 _ ?_
              simp only [red, Act.put]
              refine wt 13 _ ?_
              simp only [red, Act.put]
              refine wpHead_done (by kernel_rfl) ?_
              have hss : SlM M wr11 As (ib sh) := SlM.own (owns_ext HSS.out hHeld) rfl (fun k hk => HM.out k hk)
              have HN : OwnR RRr 7 98 M wr11 wr11 w9.heap.size (.slice A13 (us.length + 1) c13) (us ++ [⟨⟨s.node, (bt : Nat), (n : Nat)⟩, sh, true, [], []⟩]) := OwnR.push HP1.out HP2.out (fun k cs x h1 h2 => RRr.kept (HP4.out k cs x h1 h2) (.of_ext hHeld)) rfl ⟨As, cs, none, 0, none, 0, rfl, hss, SlM.nil _ _ _, SlM.nil _ _ _⟩ ho13
              have HST := Lib.hid (rc_storeR (hHeld.obj HROW.out) HQ.out HMW.out (.of_ext hHeld) (Kept.refl _ _) HN)
              have f3 := e3 _ hHeld
              have ff := fun j => ef _ j hHeld
              obtain ⟨Ac9, cap9, hh9⟩ := HST.out.1
              have HR9 := Lib.hid hh9.row
              have hkk : Kept [q] w (wr11.setCell ⟨q, 3, none⟩ (.slice A13 (us.length + 1) c13)) := HKW.out.trans HST.out.2
              have HKK := Lib.hid hkk
              have HRC9 := Lib.hid HST.out.1
              clear HN hss ho13 hg13 hor13 hsl12 hrow10 hx13 e0 e1 e2 e3 ef hHeld hh9 hkk HST
              have hrow9 := HR9.out
              obtain ⟨d0, d1, d2, d3, df⟩ := rows4 hrow9
              replace d1 := d1 _ (Ext.refl _)
              replace d2 := d2 _ (Ext.refl _)
              replace df := fun j => df _ j (Ext.refl _)
              have hkn := fun v => (Kept.refl [q] (wr11.setCell ⟨q, 3, none⟩ (.slice A13 (us.length + 1) c13))).setCell (p := ⟨q, 2, none⟩) (.inl (by simp)) (.int .i64 v)
              have HRN := Lib.hid (rc_next HRC9.out HQ.out ((n : Int) + 1))
              have HKN := Lib.hid (HKK.out.trans (hkn ((n : Int) + 1)))
              have hwn : IntKind.i64.wrap ((n : Int) + 1) = (n : Int) + 1 := wrap64_nat (n + 1) (by omega)
              clear hkn d0 d3 hrow9
              simp only at d1 d2
              by_cases hbe : (bt : Int) = s.boot
              ·rw [if_pos hbe] at HV
               have k5 : ((bt : Int) == s.boot) = true := by simpa using hbe
               by_cases hnx : s.next ≤ (n : Int)
               ·have hmx : max s.next ((n : Int) + 1) = (n : Int) + 1 := by omega
                rw [hmx] at HV
                clear hmx
                go_wp2
                go_ret
                rw [HV.out]
                exact ⟨rfl, HRN.out, HKN.out⟩
               ·have hmx : max s.next ((n : Int) + 1) = s.next := by omega
                rw [hmx] at HV
                clear hmx
                go_wp2
                go_ret
                rw [HV.out]
                exact ⟨rfl, HRC9.out, HKK.out⟩
              ·rw [if_neg hbe] at HV
               have k5 : ((bt : Int) == s.boot) = false := by simpa using hbe
               go_wp2
               go_ret
               rw [HV.out]
               exact ⟨rfl, HRC9.out, HKK.out⟩
             exact AllHead.nil
            exact AllHead.nil
           exact AllHead.nil
          exact AllHead.nil
  ·obtain ⟨Ar, nr, cr, hrowr⟩ := HR.out.2.2
   obtain ⟨R0, R1, RF⟩ := row2_at hrowr
   have HX3 := Lib.hid HR.out.2.1
   clear hrowr RF R0 hlate hnone hdone c0 c1 c3 HF HSET HN5
   by_cases hlt : i < k
   ·have hlt2 : (i : Int) < (k : Int) := by omega
    go_wp2
    go_ret
    rw [HV.out]
    exact ⟨rfl, HCO.out.ext HX3.out, .of_ext HX3.out⟩
   ·have hlt2 : ¬ (i : Int) < (k : Int) := by omega
    go_wp2
    go_ret
    rw [HV.out]
    exact ⟨rfl, HCO.out.ext HX3.out, .of_ext HX3.out⟩
end Go.Proofs.Ytijopcdjlpafdaa
