/- The walk of the law BagTakes: it answers true. Conditions: the script stands in memory, and it has at most 2^47 calls. -/
import Derived.Test.YtbanjhfmddhndaaBag14
import Derived.Deep.RegionHeld3
namespace Go.Proofs.Ytbanjhfmddhndaa
open Go.RowKit
attribute [local go_sem] pt uv
def Mo (p : Nat) (vc vt : Value) : List Nat := p :: (vc.ownBlock.toList ++ vt.ownBlock.toList)
theorem Mo.lt {p m : Nat} {w : World} {b1 b2 e1 e2 s1 s2 n1 n2 : Nat} {vc vt : Value} {xc xt : List Value} (hp : p < w.heap.size) (h1 : w.ownsRow b1 e1 s1 vc n1 xc) (h2 : w.ownsRow b2 e2 s2 vt n2 xt) (hm : w.heap.size ≤ m) : ∀ k ∈ Mo p vc vt, k < m := by
  intro k hk
  simp only [Mo, List.mem_cons, List.mem_append, Option.mem_toList] at hk
  rcases hk with rfl | hk | hk
  · omega
  · have := (h1.lt k hk).2; omega
  · have := (h2.lt k hk).2; omega
theorem Mo.ge {p m : Nat} {w : World} {b1 b2 e1 e2 s1 s2 n1 n2 : Nat} {vc vt : Value} {xc xt : List Value} (hp : m ≤ p) (h1 : w.ownsRow b1 e1 s1 vc n1 xc) (h2 : w.ownsRow b2 e2 s2 vt n2 xt) (hm1 : m ≤ b1) (hm2 : m ≤ b2) : ∀ k ∈ Mo p vc vt, m ≤ k := by
  intro k hk
  simp only [Mo, List.mem_cons, List.mem_append, Option.mem_toList] at hk
  rcases hk with rfl | hk | hk
  · omega
  · have := (h1.lt k hk).1; omega
  · have := (h2.lt k hk).1; omega
set_option maxHeartbeats 4000000 in
set_option maxRecDepth 100000 in
theorem takes_any (A : Option Addr) (cap : Nat) (l : List C) (w : World) (h : RsM RC 6 [] w A l) (hl : l.length ≤ 140737488355328) :
    Calls Try.prog 3 #[.slice A l.length cap] w (Yes w) := by
  have hne1 : (30 : Nat) ≠ 54 := by decide
  have hne2 : (5 : Nat) ≠ 54 := by decide
  have hne3 : (5 : Nat) ≠ 30 := by decide
  go_enter Try.func3, Try.ntmps3
  go_wp2_with fail
  refine (New_ok 9 _ (by omega) (by omega)).mono ?_
  rintro e w1 ⟨rfl, hx1, hb1⟩
  unfold pt
  go_wp2
  go_loopw [5, 6, 8] (fun came taken i wr => ∃ (k : Nat) (b : Bg) (cl tl : List U), k ≤ l.length ∧ k ≤ 100 ∧ i = .int .i64 k ∧ Ext w wr ∧ IsBag (Mo w.heap.size came taken) wr w.heap.size b ∧ Tk k b cl tl ∧ OwnR RU 3 30 [] w wr w.heap.size came cl ∧ OwnU wr w.heap.size taken tl ∧ (came.ownBlock = none ∨ came.ownBlock ≠ taken.ownBlock)) (fun _ _ i _ => 100 - (intOf i).toNat)
  case atStart => exact ⟨0, _, [], [], by omega, by omega, rfl, hx1, hb1 _, ⟨⟨0, 0, ⟨by simp, by simp, by simp, by simp⟩, rfl, by simp, by simp, by simp, by simp, by simp⟩, by simp, by simp, by simp [cntU]⟩, OwnR.nil _ _ _ _ _ _ _, OwnU.nil _ _, .inl rfl⟩
  case round =>
    obtain ⟨k, b, cl, tl, hk1, hk2, rfl, hx, hb, hT, hcame, htaken, hap⟩ := hrel
    by_cases hlt : k < l.length
    · by_cases hlt2 : k < 100
      · obtain ⟨ad, A2, cap2, rfl, hby, hbl, E0, E1, E2, E3, E4, E5⟩ := h.call hlt
        obtain ⟨Ac, cc, rfl⟩ := hcame.form
        obtain ⟨At, ct, rfl⟩ := htaken.form
        obtain ⟨xc, hcrow⟩ := hcame.row
        obtain ⟨xt, htrow⟩ := htaken.row
        have hp := hb.lt
        have hMlt := Mo.lt hp hcrow htrow (Nat.le_refl _)
        have hMge := Mo.ge (Nat.le_refl w.heap.size) hcrow htrow (Nat.le_refl _) (Nat.le_refl _)
        have hpM : w.heap.size ∈ Mo w.heap.size (.slice Ac cl.length cc) (.slice At tl.length ct) := by simp [Mo]
        obtain ⟨A9, c9, hrow, _⟩ := id hb
        have hsm : Small b := by obtain ⟨_, _, hc⟩ := hT.cnt; exact hc.small
        have hbyM : BsM (Mo w.heap.size (.slice Ac cl.length cc) (.slice At tl.length ct)) wr A2 l[k].u.by_ := (SlM.old hby (fun k hk => .inr (hMge k hk))).kept (.of_ext hx)
        have hlt3 : (k : Int) < 100 := by omega
        have hlt4 : (k : Int) < l.length := by omega
        have hcl := hT.hcl
        have htl := hT.htl
        have hb63 : cl.length + 1 ≤ 140737488355328 := by omega
        have hb40 : (cl.length + 1) * 40 ≤ 140737488355328 := by omega
        have hb63t : tl.length + 1 ≤ 140737488355328 := by omega
        have hb40t : (tl.length + 1) * 40 ≤ 140737488355328 := by omega
        generalize l[k] = q at *
        generalize hM : Mo w.heap.size (.slice Ac cl.length cc) (.slice At tl.length ct) = M at *
        have HM := Lib.hid hM
        clear hM
        by_cases d0 : q.do_ = 0
        · have e0 : (q.do_ == 0) = true := by simpa using d0
          clear d0
          by_cases ha : addE b q.u = 0
          · have e1 : (addE b q.u == 0) = true := by simpa using ha
            have hT := hT.add_ok (by omega) q.u ha
            clear ha
            go_wp2_with fail
            refine (Add_any w.heap.size q.u A2 cap2 b M wr hb hMlt hpM hsm hbyM).mono ?_
            rintro e w2 ⟨rfl, hk2, hb2⟩
            have hcf := hcame.kept hk2.grows (owns_obj hcrow hrow hne1)
            have htf := htaken.obj hk2 hrow hne1 hne2
            have hxf := hx.kept hk2 (one_ge (Nat.le_refl _))
            generalize addB b q.u = b2 at *
            obtain ⟨css, q1, q2, q3, q4⟩ := hcf
            obtain ⟨xt2, htrow2⟩ := htf.row
            have hp2 := hb2.lt
            go_wp2_with (at_builtin; refine unstop ?_)
            refine go_on (wpList_app undT (World.ownsRow.alloc q3 (.cells #[.int .i64 q.u.from_, .int .i64 q.u.to_, .slice A2 q.u.by_.length cap2] 30)) (Sl.new w2 [.int .i64 q.u.from_, .int .i64 q.u.to_, .slice A2 q.u.by_.length cap2] 30 (0, 0)) rfl rfl rfl rfl rfl (by simp [Value.oneCell']) hb40 hb63 (by simp; omega) ?_)
            rintro v' w4 hown4 hg4 hor4
            have hsz4 := hg4.size
            simp at hsz4
            have hx4 := Ext.own (hxf.alloc _) (World.ownsRow.alloc q3 _) (Nat.le_refl _) hg4
            have hcf := OwnR.push (R := RU) q1 q2 q4 (cs := [.int .i64 q.u.from_, .int .i64 q.u.to_, .slice A2 q.u.by_.length cap2]) rfl ⟨A2, cap2, rfl, hby⟩ hown4
            have hap' : (Value.slice At tl.length ct).ownBlock = none ∨ (Value.slice At tl.length ct).ownBlock ≠ (Value.slice Ac cl.length cc).ownBlock := by
              rcases hap with h | h
              · rw [h]; cases (Value.slice At tl.length ct).ownBlock <;> simp
              · exact .inr (Ne.symm h)
            have htf := (htf.ext ((Ext.refl _).alloc _)).kept hg4 hap' (fun u l ho => owns_apart ho (World.ownsRow.alloc q3 _) hne3)
            have hbf : IsBag (Mo w.heap.size v' (.slice At tl.length ct)) w4 w.heap.size b2 := by
              refine hb2.grow ((Ext.refl _).alloc _) hg4 (ne_obj (owns_obj hcrow hrow hne1)) (fun k hk => by rw [← HM.out]; simp [Mo, hk]) (fun k hk => ?_)
              simp only [Mo, List.mem_cons, List.mem_append, Option.mem_toList] at hk
              rcases hk with rfl | hk | hk
              · exact .inl hpM
              · rcases hor4 with h | h
                · left; rw [← HM.out]; rw [h] at hk; simp only [Mo, List.mem_cons, List.mem_append, Option.mem_toList]; exact .inr (.inl hk)
                · right; rw [h] at hk; simp at hk; omega
              · left; rw [← HM.out]; simp only [Mo, List.mem_cons, List.mem_append, Option.mem_toList]; exact .inr (.inr hk)
            have haf : v'.ownBlock = none ∨ v'.ownBlock ≠ (Value.slice At tl.length ct).ownBlock := by
              rcases hor4 with h | h
              · rw [h]; exact hap
              · right
                rw [h]
                intro e0
                have := (htrow2.lt _ e0.symm).2
                simp at this
                omega
            have hxf := hx4
            go_wp2
            go_roundw
            case rel => exact ⟨k + 1, b2, (cl ++ [q.u]), tl, by omega, by omega, by go_num, hxf, hbf, hT, hcf, htf, haf⟩
            case measure => simp [intOf]; omega
          · have e1 : (addE b q.u == 0) = false := by simpa using ha
            have hT := hT.add_no (by omega) q.u ha
            clear ha
            go_wp2_with fail
            refine (Add_any w.heap.size q.u A2 cap2 b M wr hb hMlt hpM hsm hbyM).mono ?_
            rintro e w2 ⟨rfl, hk2, hb2⟩
            have hcf := hcame.kept hk2.grows (owns_obj hcrow hrow hne1)
            have htf := htaken.obj hk2 hrow hne1 hne2
            have hxf := hx.kept hk2 (one_ge (Nat.le_refl _))
            have haf := hap
            have hbf := hb2
            rw [← HM.out] at hbf
            generalize addB b q.u = b2 at *
            go_wp2
            go_roundw
            case rel => exact ⟨k + 1, b2, cl, tl, by omega, by omega, by go_num, hxf, hbf, hT, hcf, htf, haf⟩
            case measure => simp [intOf]; omega
        · have e0 : (q.do_ == 0) = false := by simpa using d0
          by_cases d1 : q.do_ = 1
          · have e1 : (q.do_ == 1) = true := by simpa using d1
            clear d0 d1
            have HT : ∀ W N, Ext wr W → (∀ k ∈ M, k ∈ N) → (∀ k ∈ N, k ∈ M ∨ (wr.heap.size ≤ k ∧ k < W.heap.size)) → Calls Try.prog 11 #[pt w.heap.size, .int .i64 q.i, .bool q.keep] W fun e w2 => ∃ A3 c3, e = .returned (.tuple #[uv (takeU b q.i) A3 c3, .int .i64 (takeE b q.i)]) ∧ Own w2 W.heap.size (.slice A3 (takeU b q.i).by_.length c3) (takeU b q.i).by_ ∧ Kept [w.heap.size] W w2 ∧ Ext w w2 ∧ IsBag N w2 w.heap.size (takeB b q.i q.keep) := by
              intro W N hq hN1 hN2
              have hsz := hq.size
              refine (Take_any w.heap.size q.i q.keep b N W ((hb.old (fun k hk => ?_)).ext hq) (fun k hk => ?_) (hN1 _ hpM) hsm).mono ?_
              · rcases hN2 k hk with h | h
                · exact .inl h
                · exact .inr h.1
              · rcases hN2 k hk with h | h
                · have := hMlt k h; omega
                · exact h.2
              · rintro e w2 ⟨A3, c3, he, ho, hk, hb'⟩
                exact ⟨A3, c3, he, ho, hk, (hx.trans hq).kept hk (one_ge (Nat.le_refl _)), hb'.old (fun k hk => .inl (by simp [hk]))⟩
            have hne : ¬ wr.heap.size = w.heap.size := by omega
            have hsz := hx.size
            have hT1 := fun he : takeE b q.i ≠ 0 => hT.take_no q.i q.keep he
            have hT2 := fun he : takeE b q.i = 0 => hT.take q.i he
            have hT3 := fun he : takeE b q.i = 0 => hT.drop q.i he
            obtain ⟨kp, hkp⟩ : ∃ kp, kp = q.keep := ⟨_, rfl⟩
            rw [← hkp] at HT hT1 E5
            generalize hb' : takeB b q.i kp = b' at *
            generalize takeU b q.i = u' at *
            generalize takeE b q.i = e' at *
            have HKP := Lib.hid hkp
            have HB' := Lib.hid hb'
            clear hkp hb'
            go_wp2_with fail
            go_region_held3 (fun w' => Ext w w') (first | exact hx.drew | assumption | exact Ext.alloc (by assumption) _ | exact ((Ext.setCell (by assumption) hsz _).setCell hsz _).setCell hsz _ | (simp [*, Ext.alloc_iff, Ext.setCell_iff])) ((first
              | (go_at_call 11; refine (HT _ (M ++ [wr.heap.size]) ((Ext.refl wr).alloc (.cells #[.int .i64 0, .int .i64 0, .slice none 0 0] 30)).drew (by intro k hk; exact List.mem_append_left _ hk) (by intro k hk; rcases List.mem_append.1 hk with h | h; exact .inl h; simp at h; subst h; exact .inr ⟨Nat.le_refl _, by simp⟩)).mono ?_; rintro e w2 ⟨A3, c3, rfl, ho2, hk2, hx2, hb2⟩; obtain ⟨r0, r1, r2, r3⟩ := row3_at (hk2.heap (heap_alloc_new wr _) (by simpa using hne)))
              | (go_at_call 11; refine (HT _ M (Ext.refl wr).drew (fun k hk => hk) (fun k hk => .inl hk)).mono ?_; rintro e w2 ⟨A3, c3, rfl, ho2, hk2, hx2, hb2⟩)))
            · have hcf2 := (hcame.ext (Ext.refl wr).drew).kept hk2.grows (owns_obj hcrow hrow hne1)
              have htf2 := (htaken.ext (Ext.refl wr).drew).obj hk2 hrow hne1 hne2
              have hxA := (Ext.refl w2).alloc (.cells #[.int .i64 u'.from_, .int .i64 u'.to_, .slice A3 u'.by_.length c3] 30)
              have hxf := hx2.trans hxA
              have hbf := hb2.ext hxA
              have hcf := hcf2.ext hxA
              have htf := htf2.ext hxA
              have hu := (ho2.ext hxA).low hsz
              have Rg := heap_alloc_new w2 (.cells #[.int .i64 u'.from_, .int .i64 u'.to_, .slice A3 u'.by_.length c3] 30)
              obtain ⟨xt2, htrow2⟩ := htf2.row
              have hgt : (Value.slice At tl.length ct).ownBlock ≠ some w2.heap.size := fun e0 => Nat.lt_irrefl _ (htrow2.lt _ e0).2
              have hgw : w.heap.size ≤ w2.heap.size := hx2.size
              generalize w2.alloc (.cells #[.int .i64 u'.from_, .int .i64 u'.to_, .slice A3 u'.by_.length c3] 30) = W4 at hxf hbf hcf htf hu Rg ⊢
              clear hxA hb2 hk2 hx2 ho2 hcf2 htf2 htrow2
              by_cases he : e' = 0
              · have e2 : (e' != 0) = false := by simpa using he
                cases kp with
                | true =>
                  have hT := (hT2 he).1
                  have hq1 := (hT2 he).2.1
                  have hq2 := (hT2 he).2.2
                  have haf := hap
                  rw [HB'.out] at hT
                  clear he hT1 hT2 hT3 HT
                  go_wp2_with fail
                  obtain ⟨R0, R1, R2, R3⟩ := rows3 Rg
                  have C1 := fun W (q : Ext W4 W) => count_any cl u' Ac A3 cc c3 W ((hcf.rsm (.of_ext hxf) (by simp)).kept (.of_ext q)) (hu.bs.ext q) (by omega)
                  have C2 := fun W (q : Ext W4 W) => count_any tl u' At A3 ct c3 W (htf.rsm.kept (.of_ext q)) (hu.bs.ext q) (by omega)
                  unfold uv at C1 C2
                  generalize cntU cl u' = n1 at *
                  generalize cntU tl u' = n2 at *
                  have hq3 : (n2 : Int) ≤ (n1 : Int) := by omega
                  have hq4 : (1 : Int) ≤ (n1 : Int) := by omega
                  clear hq1 hq2
                  generalize (n1 : Int) = z1 at *
                  generalize (n2 : Int) = z2 at *
                  have hn : decide (z1 < z2) = false := decide_eq_false (by omega)
                  have hn1 : ¬ z1 < z2 := by omega
                  have hn0 : (z1 == 0) = false := beq_eq_false_iff_ne.2 (by omega)
                  go_region_held3 (fun w' => Ext W4 w') (first | exact (Ext.refl _).drew | assumption) ((first
                    | (go_at_call 8; ((with_reducible refine (C1 _ ?_).mono ?_)); (focus first | assumption | exact (Ext.refl _).drew); rintro e wA ⟨rfl, hxA0⟩; have hxA : Ext W4 wA := Ext.trans (by first | assumption | exact (Ext.refl _).drew) hxA0; clear hxA0)
                    | (go_at_call 8; ((with_reducible refine (C2 _ ?_).mono ?_)); (focus first | assumption | exact (Ext.refl _).drew); rintro e wA ⟨rfl, hxA0⟩; have hxA : Ext W4 wA := Ext.trans (by first | assumption | exact (Ext.refl _).drew) hxA0; clear hxA0)))
                  have hxf := hxf.trans hxA
                  have hbf := hbf.ext hxA
                  rw [← HM.out] at hbf
                  have hcf := hcf.ext hxA
                  have htf := htf.ext hxA
                  go_wp2
                  go_roundw
                  case rel => exact ⟨k + 1, b', cl, tl, by omega, by omega, by go_num, hxf, hbf, hT, hcf, htf, haf⟩
                  case measure => simp [intOf]; omega
                | false =>
                  have hT := (hT3 he).1
                  have hq1 := (hT3 he).2.1
                  have hq2 := (hT3 he).2.2
                  rw [HB'.out] at hT
                  clear he hT1 hT2 hT3 HT
                  obtain ⟨css, q1, q2, q3, q4⟩ := htf
                  obtain ⟨xc2, hcrow2⟩ := hcf.row
                  have hp2 := hbf.lt
                  obtain ⟨g0, g1, g2, g3⟩ := row3_at Rg
                  go_wp2_with (at_builtin; refine unstop ?_)
                  refine go_on (wpList_app undT (World.ownsRow.alloc q3 (.cells #[.int .i64 u'.from_, .int .i64 u'.to_, .slice A3 u'.by_.length c3] 30)) (Sl.new W4 [.int .i64 u'.from_, .int .i64 u'.to_, .slice A3 u'.by_.length c3] 30 (0, 0)) rfl rfl rfl rfl rfl (by simp [Value.oneCell']) hb40t hb63t (by simp; omega) ?_)
                  rintro v' w5 hown5 hg5 hor5
                  have hx5 := Ext.own (hxf.alloc _) (World.ownsRow.alloc q3 _) (Nat.le_refl _) hg5
                  have htf5 := OwnU.push q1 q2 q3 q4 hu ((Ext.refl W4).alloc _) hown5 hg5
                  have hcf5 := (hcf.ext ((Ext.refl W4).alloc (.cells #[.int .i64 u'.from_, .int .i64 u'.to_, .slice A3 u'.by_.length c3] 30))).kept hg5 hap
                  have hu5 := (hu.ext ((Ext.refl W4).alloc (.cells #[.int .i64 u'.from_, .int .i64 u'.to_, .slice A3 u'.by_.length c3] 30))).kept hg5 (owns_apart hu q3 hne3)
                  have hRlt := obj_lt Rg
                  have Rg5 : w5.heap[w2.heap.size]? = some (.cells #[.int .i64 u'.from_, .int .i64 u'.to_, .slice A3 u'.by_.length c3] 30 (0, 0)) :=
                    (hg5.block _ (by simp; omega) (fun e0 => hgt e0.symm)).trans (((Ext.refl W4).alloc _).obj Rg)
                  obtain ⟨A10, c10, hrow4, _⟩ := id hbf
                  have hbf5 : IsBag (Mo w.heap.size (.slice Ac cl.length cc) v') w5 w.heap.size b' := by
                    refine hbf.grow ((Ext.refl _).alloc _) hg5 (ne_obj (owns_obj q3 hrow4 hne1)) (fun k hk => by rw [← HM.out]; simp [Mo, hk]) (fun k hk => ?_)
                    simp only [Mo, List.mem_cons, List.mem_append, Option.mem_toList] at hk
                    rcases hk with rfl | hk | hk
                    · exact .inl hpM
                    · left; rw [← HM.out]; simp only [Mo, List.mem_cons, List.mem_append, Option.mem_toList]; exact .inr (.inl hk)
                    · rcases hor5 with h | h
                      · left; rw [← HM.out]; rw [h] at hk; simp only [Mo, List.mem_cons, List.mem_append, Option.mem_toList]; exact .inr (.inr hk)
                      · right; rw [h] at hk; simp at hk; omega
                  have haf : (Value.slice Ac cl.length cc).ownBlock = none ∨ (Value.slice Ac cl.length cc).ownBlock ≠ v'.ownBlock := by
                    rcases hor5 with h | h
                    · rw [h]; exact hap
                    · right
                      rw [h]
                      intro e0
                      have := (hcrow2.lt _ e0).2
                      simp at this
                      omega
                  have hl2 : (tl ++ [u']).length ≤ 1000 := by simp; omega
                  generalize tl ++ [u'] = tl2 at *
                  obtain ⟨At', ct', rfl⟩ := htf5.form
                  clear hgt hown5 hg5 hor5 q1 q2 q3 q4 g0 g1 g2 g3 hu
                  go_wp2_with fail
                  obtain ⟨R0, R1, R2, R3⟩ := rows3 Rg5
                  have C1 := fun W (q : Ext w5 W) => count_any cl u' Ac A3 cc c3 W ((hcf5.rsm (.of_ext hx5) (by simp)).kept (.of_ext q)) (hu5.bs.ext q) (by omega)
                  have C2 := fun W (q : Ext w5 W) => count_any tl2 u' At' A3 ct' c3 W (htf5.rsm.kept (.of_ext q)) (hu5.bs.ext q) (by omega)
                  unfold uv at C1 C2
                  generalize cntU cl u' = n1 at *
                  generalize cntU tl2 u' = n2 at *
                  have hq3 : (n2 : Int) ≤ (n1 : Int) := by omega
                  have hq4 : (1 : Int) ≤ (n1 : Int) := by omega
                  clear hq1 hq2
                  generalize (n1 : Int) = z1 at *
                  generalize (n2 : Int) = z2 at *
                  have hn : decide (z1 < z2) = false := decide_eq_false (by omega)
                  have hn1 : ¬ z1 < z2 := by omega
                  have hn0 : (z1 == 0) = false := beq_eq_false_iff_ne.2 (by omega)
                  go_region_held3 (fun w' => Ext w5 w') (first | exact (Ext.refl _).drew | assumption) ((first
                    | (go_at_call 8; ((with_reducible refine (C1 _ ?_).mono ?_)); (focus first | assumption | exact (Ext.refl _).drew); rintro e wA ⟨rfl, hxA0⟩; have hxA : Ext w5 wA := Ext.trans (by first | assumption | exact (Ext.refl _).drew) hxA0; clear hxA0)
                    | (go_at_call 8; ((with_reducible refine (C2 _ ?_).mono ?_)); (focus first | assumption | exact (Ext.refl _).drew); rintro e wA ⟨rfl, hxA0⟩; have hxA : Ext w5 wA := Ext.trans (by first | assumption | exact (Ext.refl _).drew) hxA0; clear hxA0)))
                  have hxf := hx5.trans hxA
                  have hbf := hbf5.ext hxA
                  have hcf := hcf5.ext hxA
                  have htf := htf5.ext hxA
                  go_wp2
                  go_roundw
                  case rel => exact ⟨k + 1, b', cl, tl2, by omega, by omega, by go_num, hxf, hbf, hT, hcf, htf, haf⟩
                  case measure => simp [intOf]; omega
              · have e2 : (e' != 0) = true := by simpa using he
                have hT := hT1 he
                have haf := hap
                rw [← HM.out] at hbf
                clear he hT1 hT2 hT3 HT
                go_wp2
                go_roundw
                case rel => exact ⟨k + 1, b', cl, tl, by omega, by omega, by go_num, hxf, hbf, hT, hcf, htf, haf⟩
                case measure => simp [intOf]; omega
            · have Rg2 := hk2.heap (heap_alloc_new wr (.cells #[.int .i64 0, .int .i64 0, .slice none 0 0] 30)) (by simpa using hne)
              have K0 := (((Kept.refl [wr.heap.size] w2).setCell (p := ⟨wr.heap.size, 0, none⟩) (.inl (by simp)) (.int .i64 u'.from_)).setCell (p := ⟨wr.heap.size, 1, none⟩) (.inl (by simp)) (.int .i64 u'.to_)).setCell (p := ⟨wr.heap.size, 2, none⟩) (.inl (by simp)) (.slice A3 u'.by_.length c3)
              have hxf := ((hx2.setCell (p := ⟨wr.heap.size, 0, none⟩) hsz (.int .i64 u'.from_)).setCell (p := ⟨wr.heap.size, 1, none⟩) hsz (.int .i64 u'.to_)).setCell (p := ⟨wr.heap.size, 2, none⟩) hsz (.slice A3 u'.by_.length c3)
              have hxW : Ext wr (wr.alloc (.cells #[.int .i64 0, .int .i64 0, .slice none 0 0] 30)).drew := ((Ext.refl wr).alloc _).drew
              have hcf2 := (hcame.ext hxW).kept hk2.grows (owns_obj hcrow hrow hne1)
              have htf2 := (htaken.ext hxW).obj hk2 (hxW.obj hrow) hne1 hne2
              have hgc : (Value.slice Ac cl.length cc).ownBlock ≠ some wr.heap.size := fun e0 => Nat.lt_irrefl _ (hcrow.lt _ e0).2
              have hgt : (Value.slice At tl.length ct).ownBlock ≠ some wr.heap.size := fun e0 => Nat.lt_irrefl _ (htrow.lt _ e0).2
              have hcf := hcf2.kept K0.grows (.inr hgc)
              have htf := htf2.kept K0.grows (.inr hgt) (fun u l ho => owns_obj ho Rg2 hne3)
              have hu := (ho2.kept K0.grows (owns_obj ho2 Rg2 hne3)).low (Nat.le_trans hsz hxW.size)
              have hbf := (hb2.kept K0 (by simp; omega) (by intro k hk; exact List.mem_append_right _ hk)).old (N := M) (by intro k hk; exact .inl (List.mem_append_left _ hk))
              have Rg := heap_setCell_same _ wr.heap.size 2 _ _ (.slice A3 u'.by_.length c3) (heap_setCell_same _ wr.heap.size 1 _ _ (.int .i64 u'.to_) (heap_setCell_same w2 wr.heap.size 0 _ _ (.int .i64 u'.from_) Rg2))
              simp at Rg
              have hgw : w.heap.size ≤ wr.heap.size := hsz
              generalize ((w2.setCell ⟨wr.heap.size, 0, none⟩ (.int .i64 u'.from_)).setCell ⟨wr.heap.size, 1, none⟩ (.int .i64 u'.to_)).setCell ⟨wr.heap.size, 2, none⟩ (.slice A3 u'.by_.length c3) = W4 at hxf hbf hcf htf hu Rg ⊢
              clear hb2 hk2 hx2 ho2 hcf2 htf2 K0 Rg2 r0 r1 r2 r3 hxW
              by_cases he : e' = 0
              · have e2 : (e' != 0) = false := by simpa using he
                cases kp with
                | true =>
                  have hT := (hT2 he).1
                  have hq1 := (hT2 he).2.1
                  have hq2 := (hT2 he).2.2
                  have haf := hap
                  rw [HB'.out] at hT
                  clear he hT1 hT2 hT3 HT
                  go_wp2_with fail
                  obtain ⟨R0, R1, R2, R3⟩ := rows3 Rg
                  have C1 := fun W (q : Ext W4 W) => count_any cl u' Ac A3 cc c3 W ((hcf.rsm (.of_ext hxf) (by simp)).kept (.of_ext q)) (hu.bs.ext q) (by omega)
                  have C2 := fun W (q : Ext W4 W) => count_any tl u' At A3 ct c3 W (htf.rsm.kept (.of_ext q)) (hu.bs.ext q) (by omega)
                  unfold uv at C1 C2
                  generalize cntU cl u' = n1 at *
                  generalize cntU tl u' = n2 at *
                  have hq3 : (n2 : Int) ≤ (n1 : Int) := by omega
                  have hq4 : (1 : Int) ≤ (n1 : Int) := by omega
                  clear hq1 hq2
                  generalize (n1 : Int) = z1 at *
                  generalize (n2 : Int) = z2 at *
                  have hn : decide (z1 < z2) = false := decide_eq_false (by omega)
                  have hn1 : ¬ z1 < z2 := by omega
                  have hn0 : (z1 == 0) = false := beq_eq_false_iff_ne.2 (by omega)
                  go_region_held3 (fun w' => Ext W4 w') (first | exact (Ext.refl _).drew | assumption) ((first
                    | (go_at_call 8; ((with_reducible refine (C1 _ ?_).mono ?_)); (focus first | assumption | exact (Ext.refl _).drew); rintro e wA ⟨rfl, hxA0⟩; have hxA : Ext W4 wA := Ext.trans (by first | assumption | exact (Ext.refl _).drew) hxA0; clear hxA0)
                    | (go_at_call 8; ((with_reducible refine (C2 _ ?_).mono ?_)); (focus first | assumption | exact (Ext.refl _).drew); rintro e wA ⟨rfl, hxA0⟩; have hxA : Ext W4 wA := Ext.trans (by first | assumption | exact (Ext.refl _).drew) hxA0; clear hxA0)))
                  have hxf := hxf.trans hxA
                  have hbf := hbf.ext hxA
                  rw [← HM.out] at hbf
                  have hcf := hcf.ext hxA
                  have htf := htf.ext hxA
                  go_wp2
                  go_roundw
                  case rel => exact ⟨k + 1, b', cl, tl, by omega, by omega, by go_num, hxf, hbf, hT, hcf, htf, haf⟩
                  case measure => simp [intOf]; omega
                | false =>
                  have hT := (hT3 he).1
                  have hq1 := (hT3 he).2.1
                  have hq2 := (hT3 he).2.2
                  rw [HB'.out] at hT
                  clear he hT1 hT2 hT3 HT
                  obtain ⟨css, q1, q2, q3, q4⟩ := htf
                  obtain ⟨xc2, hcrow2⟩ := hcf.row
                  have hp2 := hbf.lt
                  obtain ⟨g0, g1, g2, g3⟩ := row3_at Rg
                  go_wp2_with (at_builtin; refine unstop ?_)
                  refine go_on (wpList_app undT (World.ownsRow.alloc q3 (.cells #[.int .i64 u'.from_, .int .i64 u'.to_, .slice A3 u'.by_.length c3] 30)) (Sl.new W4 [.int .i64 u'.from_, .int .i64 u'.to_, .slice A3 u'.by_.length c3] 30 (0, 0)) rfl rfl rfl rfl rfl (by simp [Value.oneCell']) hb40t hb63t (by simp; omega) ?_)
                  rintro v' w5 hown5 hg5 hor5
                  have hx5 := Ext.own (hxf.alloc _) (World.ownsRow.alloc q3 _) (Nat.le_refl _) hg5
                  have htf5 := OwnU.push q1 q2 q3 q4 hu ((Ext.refl W4).alloc _) hown5 hg5
                  have hcf5 := (hcf.ext ((Ext.refl W4).alloc (.cells #[.int .i64 u'.from_, .int .i64 u'.to_, .slice A3 u'.by_.length c3] 30))).kept hg5 hap
                  have hu5 := (hu.ext ((Ext.refl W4).alloc (.cells #[.int .i64 u'.from_, .int .i64 u'.to_, .slice A3 u'.by_.length c3] 30))).kept hg5 (owns_apart hu q3 hne3)
                  have hRlt := obj_lt Rg
                  have Rg5 : w5.heap[wr.heap.size]? = some (.cells #[.int .i64 u'.from_, .int .i64 u'.to_, .slice A3 u'.by_.length c3] 30 (0, 0)) :=
                    (hg5.block _ (by simp; omega) (fun e0 => hgt e0.symm)).trans (((Ext.refl W4).alloc _).obj Rg)
                  obtain ⟨A10, c10, hrow4, _⟩ := id hbf
                  have hbf5 : IsBag (Mo w.heap.size (.slice Ac cl.length cc) v') w5 w.heap.size b' := by
                    refine hbf.grow ((Ext.refl _).alloc _) hg5 (ne_obj (owns_obj q3 hrow4 hne1)) (fun k hk => by rw [← HM.out]; simp [Mo, hk]) (fun k hk => ?_)
                    simp only [Mo, List.mem_cons, List.mem_append, Option.mem_toList] at hk
                    rcases hk with rfl | hk | hk
                    · exact .inl hpM
                    · left; rw [← HM.out]; simp only [Mo, List.mem_cons, List.mem_append, Option.mem_toList]; exact .inr (.inl hk)
                    · rcases hor5 with h | h
                      · left; rw [← HM.out]; rw [h] at hk; simp only [Mo, List.mem_cons, List.mem_append, Option.mem_toList]; exact .inr (.inr hk)
                      · right; rw [h] at hk; simp at hk; omega
                  have haf : (Value.slice Ac cl.length cc).ownBlock = none ∨ (Value.slice Ac cl.length cc).ownBlock ≠ v'.ownBlock := by
                    rcases hor5 with h | h
                    · rw [h]; exact hap
                    · right
                      rw [h]
                      intro e0
                      have := (hcrow2.lt _ e0).2
                      simp at this
                      omega
                  have hl2 : (tl ++ [u']).length ≤ 1000 := by simp; omega
                  generalize tl ++ [u'] = tl2 at *
                  obtain ⟨At', ct', rfl⟩ := htf5.form
                  clear hgt hown5 hg5 hor5 q1 q2 q3 q4 g0 g1 g2 g3 hu
                  go_wp2_with fail
                  obtain ⟨R0, R1, R2, R3⟩ := rows3 Rg5
                  have C1 := fun W (q : Ext w5 W) => count_any cl u' Ac A3 cc c3 W ((hcf5.rsm (.of_ext hx5) (by simp)).kept (.of_ext q)) (hu5.bs.ext q) (by omega)
                  have C2 := fun W (q : Ext w5 W) => count_any tl2 u' At' A3 ct' c3 W (htf5.rsm.kept (.of_ext q)) (hu5.bs.ext q) (by omega)
                  unfold uv at C1 C2
                  generalize cntU cl u' = n1 at *
                  generalize cntU tl2 u' = n2 at *
                  have hq3 : (n2 : Int) ≤ (n1 : Int) := by omega
                  have hq4 : (1 : Int) ≤ (n1 : Int) := by omega
                  clear hq1 hq2
                  generalize (n1 : Int) = z1 at *
                  generalize (n2 : Int) = z2 at *
                  have hn : decide (z1 < z2) = false := decide_eq_false (by omega)
                  have hn1 : ¬ z1 < z2 := by omega
                  have hn0 : (z1 == 0) = false := beq_eq_false_iff_ne.2 (by omega)
                  go_region_held3 (fun w' => Ext w5 w') (first | exact (Ext.refl _).drew | assumption) ((first
                    | (go_at_call 8; ((with_reducible refine (C1 _ ?_).mono ?_)); (focus first | assumption | exact (Ext.refl _).drew); rintro e wA ⟨rfl, hxA0⟩; have hxA : Ext w5 wA := Ext.trans (by first | assumption | exact (Ext.refl _).drew) hxA0; clear hxA0)
                    | (go_at_call 8; ((with_reducible refine (C2 _ ?_).mono ?_)); (focus first | assumption | exact (Ext.refl _).drew); rintro e wA ⟨rfl, hxA0⟩; have hxA : Ext w5 wA := Ext.trans (by first | assumption | exact (Ext.refl _).drew) hxA0; clear hxA0)))
                  have hxf := hx5.trans hxA
                  have hbf := hbf5.ext hxA
                  have hcf := hcf5.ext hxA
                  have htf := htf5.ext hxA
                  go_wp2
                  go_roundw
                  case rel => exact ⟨k + 1, b', cl, tl2, by omega, by omega, by go_num, hxf, hbf, hT, hcf, htf, haf⟩
                  case measure => simp [intOf]; omega
              · have e2 : (e' != 0) = true := by simpa using he
                have hT := hT1 he
                have haf := hap
                rw [← HM.out] at hbf
                clear he hT1 hT2 hT3 HT
                go_wp2
                go_roundw
                case rel => exact ⟨k + 1, b', cl, tl, by omega, by omega, by go_num, hxf, hbf, hT, hcf, htf, haf⟩
                case measure => simp [intOf]; omega
          · have e1 : (q.do_ == 1) = false := by simpa using d1
            by_cases d2 : q.do_ = 2
            · have e2 : (q.do_ == 2) = true := by simpa using d2
              have hT := hT.lose (by omega) q.i
              clear d0 d1 d2
              go_wp2_with fail
              refine (Lose_any w.heap.size q.i b M wr hb hMlt hpM hsm).mono ?_
              rintro e w2 ⟨rfl, hk2, hb2⟩
              have hcf := hcame.kept hk2.grows (owns_obj hcrow hrow hne1)
              have htf := htaken.obj hk2 hrow hne1 hne2
              have hxf := hx.kept hk2 (one_ge (Nat.le_refl _))
              have haf := hap
              have hbf := hb2
              rw [← HM.out] at hbf
              generalize loseB b q.i = b2 at *
              go_wp2
              go_roundw
              case rel => exact ⟨k + 1, b2, cl, tl, by omega, by omega, by go_num, hxf, hbf, hT, hcf, htf, haf⟩
              case measure => simp [intOf]; omega
            · have e2 : (q.do_ == 2) = false := by simpa using d2
              have hT := hT.on
              clear d0 d1 d2
              have hcf := hcame
              have htf := htaken
              have hxf := hx
              have haf := hap
              have hbf := hb
              rw [← HM.out] at hbf
              go_wp2
              go_roundw
              case rel => exact ⟨k + 1, b, cl, tl, by omega, by omega, by go_num, hxf, hbf, hT, hcf, htf, haf⟩
              case measure => simp [intOf]; omega
      · have hk0 : k = 100 := by omega
        subst hk0
        have hlt4 : ((100 : Nat) : Int) < l.length := by omega
        have hlt4' : (100 : Int) < l.length := by omega
        go_wp2_with fail
        refine (live_any _).mono ?_
        rintro e w2 ⟨rfl, hx2⟩
        go_wp2
        go_ret
        exact Yes.mk' rfl (hx.trans hx2)
    · have hlt4 : ¬ (k : Int) < l.length := by omega
      go_wp2_with fail
      refine (live_any _).mono ?_
      rintro e w2 ⟨rfl, hx2⟩
      go_wp2
      go_ret
      exact Yes.mk' rfl (hx.trans hx2)
end Go.Proofs.Ytbanjhfmddhndaa
