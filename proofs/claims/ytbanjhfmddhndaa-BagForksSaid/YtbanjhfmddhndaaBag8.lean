/- The walk of bag.Add where the message is laid in. Conditions: those of IsBag; the bag's own block is older than the call. -/
import Derived.Test.YtbanjhfmddhndaaChecked
import Derived.Test.YtbanjhfmddhndaaBag7
import Derived.Deep.RegionHeld3
import Derived.Deep.RegionLaw
import Derived.BigQuiet
import Derived.Deep.QuietTactic
namespace Go.Proofs.Ytbanjhfmddhndaa
open Go.RowKit
/-- append onto a row of the call's own, as one step of a region that draws -/
theorem step_app {P : Program} {ops : Array Oper} {o : Oper} {a : Act} {w : World} {K : Act → World → Prop} {Q : Exit → Act → World → Prop} {E : Prop} {t e size bytes : Nat} (T : ElemOf P t e size bytes) {s x : Operand}
    {base n m c : Nat} {v : Value} {xs news : List Value} {A : Option Addr} (hown : w.ownsRow base e size v n xs) (hr : Sl w A news)
    (hgd : o.guard = none) (ho : o.op = .call { callee := .builtin .append, args := #[s, x], argTypes := #[t, t] })
    (hs : a.eval s = v) (hx : a.eval x = .slice A m c)
    (hl : news.length = m * size) (h1 : ∀ u ∈ news, u.oneCell' = true)
    (hb : (n + m) * bytes ≤ 140737488355328) (h63 : n + m ≤ 140737488355328) (hbase : base ≤ w.heap.size)
    (h : ∀ v' w', w'.ownsRow base e size v' (n + m) (xs ++ news) → w.grownBy w' v.ownBlock → (v'.ownBlock = v.ownBlock ∨ v'.ownBlock = some w.heap.size) → K (a.put o.dst v') w') :
    if Region.wanted o (yielded ops a.tmps) = true then Oper.wp P o a w K Q else E := by
  have hw : Region.wanted o (yielded ops a.tmps) = true := by simp [Region.wanted, hgd]
  rw [if_pos hw]
  obtain ⟨i, z, hi, hz, hsize, hby, hzs⟩ := T.hi
  obtain ⟨v', w', hrun, h2, h3, h4⟩ := run_app (P := P) w base t o.type e i z size bytes T.ht hi hz hsize hby hzs T.hs v n xs hown A m c news hl hr h1 hb h63 hbase
  unfold Oper.wp execOp
  simp only [ho, resolve, invoke, builtin, Sem.run_bind, Sem.run_pure, Result.andThen_ok, List.map_toArray, List.map_cons, List.map_nil, hs, hx, hrun]
  exact h v' w' h2 h3 h4
set_option maxHeartbeats 1000000 in
theorem Add_ok (p : Nat) (u : U) (A : Option Addr) (cap : Nat) (b : Bg) (M : List Nat) (w : World) (h : IsBag M w p b) (hM : ∀ k ∈ M, k < w.heap.size) (hp : p ∈ M) (hu : addOk u) (hf : (b.l.length : Int) ≠ b.most) (hl : b.l.length ≤ 1000000) (hA : Bs w A u.by_) :
    Calls Try.prog 10 #[pt p, uv u A cap] w fun e w' => e = .returned (.int .i64 0) ∧ Kept [p] w w' ∧ IsBag M w' p ⟨b.most, b.lost, b.l ++ [u]⟩ := by
  obtain ⟨c1, c2, c3, c4⟩ := hu
  have H1 := fun w => node_any u.from_ w
  simp only [decide_eq_true c1] at H1
  have H2 := fun w => node_any u.to_ w
  simp only [decide_eq_true c2] at H2
  have d3 : ((u.by_.length : Int) == 0) = false := by simp; exact fun e => c3 (by rw [e]; rfl)
  have d4 : ¬ (2006 : Int) < (u.by_.length : Int) := by omega
  obtain ⟨A1, cap1, h1, h2⟩ := h
  have hplt : p < w.heap.size := hM p hp
  have hx1 := (Ext.refl w).alloc (.cells #[.int .i64 u.from_, .int .i64 u.to_, .slice A u.by_.length cap] 30)
  have B1 : ∀ w', Ext w w' → w'.heap[p]? = some (.cells #[.int .i64 b.most, .int .i64 b.lost, .slice A1 b.l.length cap1] 54 (0, 0)) := fun w' hx => (hx.block p hplt).trans h1
  have C0 : ∀ w', Ext w w' → w'.cell? ⟨p, 0, none⟩ = some (.int .i64 b.most) := fun w' hx => by rw [cell_of_row w' p 0 _ _ _ (B1 w' hx)]; rfl
  have C1 : ∀ w', Ext w w' → w'.cell? ⟨p, 1, none⟩ = some (.int .i64 b.lost) := fun w' hx => by rw [cell_of_row w' p 1 _ _ _ (B1 w' hx)]; rfl
  have C2 : ∀ w', Ext w w' → w'.cell? ⟨p, 2, none⟩ = some (.slice A1 b.l.length cap1) := fun w' hx => by rw [cell_of_row w' p 2 _ _ _ (B1 w' hx)]; rfl
  have F0 : ∀ w' j, Ext w w' → w'.frozen? ⟨p, j, none⟩ = false := fun w' j hx => frozen_of_row w' p j _ _ (B1 w' hx)
  have d5 : ((b.l.length : Int) == b.most) = false := beq_eq_false_iff_ne.2 hf
  have E0 : ∀ w', Ext (w.alloc (.cells #[.int .i64 u.from_, .int .i64 u.to_, .slice A u.by_.length cap] 30)) w' → w'.cell? ⟨w.heap.size, 0, none⟩ = some (.int .i64 u.from_) := fun w' hx => by rw [cell_of_row w' _ 0 _ _ _ ((hx.block _ (by simp)).trans (heap_alloc_new w _))]; rfl
  have E1 : ∀ w', Ext (w.alloc (.cells #[.int .i64 u.from_, .int .i64 u.to_, .slice A u.by_.length cap] 30)) w' → w'.cell? ⟨w.heap.size, 1, none⟩ = some (.int .i64 u.to_) := fun w' hx => by rw [cell_of_row w' _ 1 _ _ _ ((hx.block _ (by simp)).trans (heap_alloc_new w _))]; rfl
  have E2 : ∀ w', Ext (w.alloc (.cells #[.int .i64 u.from_, .int .i64 u.to_, .slice A u.by_.length cap] 30)) w' → w'.cell? ⟨w.heap.size, 2, none⟩ = some (.slice A u.by_.length cap) := fun w' hx => by rw [cell_of_row w' _ 2 _ _ _ ((hx.block _ (by simp)).trans (heap_alloc_new w _))]; rfl
  obtain ⟨w0, hw0⟩ : ∃ w0, w0 = w.alloc (.cells #[.int .i64 u.from_, .int .i64 u.to_, .slice A u.by_.length cap] 30) := ⟨_, rfl⟩
  rw [← hw0] at E0 E1 E2 hx1
  have HC : ∀ w', Ext w0 w' → Calls Try.prog 23 #[.slice A1 b.l.length cap1] w' fun e w'' => ∃ v, e = .returned v ∧ OwnR RU 3 30 M w w'' w0.heap.size v b.l ∧ Ext w0 w'' := by
    intro w' hx
    refine (uclone_any A1 cap1 b.l M w w' h2 (hx1.trans hx) hl).mono ?_
    rintro e w'' ⟨v, rfl, ho, hx'⟩
    exact ⟨v, rfl, ho.low hx.size, hx.trans hx'⟩
  have HO : ∀ w' v, OwnR RU 3 30 M w w' w0.heap.size v b.l → Ext w0 w' → Calls Try.prog 24 #[.agg #[.int .i64 u.from_, .int .i64 u.to_, .slice A u.by_.length cap]] w' fun e w'' => ∃ g, e = .returned (.agg #[.int .i64 u.from_, .int .i64 u.to_, .slice (some ⟨g, 0, none⟩) u.by_.length u.by_.length]) ∧
      Own w'' w0.heap.size (.slice (some ⟨g, 0, none⟩) u.by_.length u.by_.length) u.by_ ∧ OwnR RU 3 30 M w w'' w0.heap.size v b.l ∧ Ext w0 w'' := by
    intro w' v ho hx
    refine (ownU_any _ _ A cap u.by_ [] w' (SlM.of_sl (hA.ext (hx1.trans hx))) (by omega)).mono ?_
    rintro e w'' ⟨g, rfl, hg, hx'⟩
    exact ⟨g, rfl, hg.low hx.size, ho.ext hx', hx.trans hx'⟩
  have HF := Lib.hid hf
  have HB := Lib.hid B1
  have H2' := Lib.hid h2
  have HM := Lib.hid hM
  clear hf B1 h1 h2 hA c1 c2 c3 hM
  unfold pt uv
  go_enter Try.func10, Try.ntmps10
  go_wp2_with fail
  refine (H1 _).mono ?_
  rintro e w1 ⟨rfl, rfl⟩
  go_wp2_with fail
  refine (H2 _).mono ?_
  rintro e w1 ⟨rfl, rfl⟩
  go_wp2_with fail
  rw [← hw0]
  have HW0 := Lib.hid hw0
  clear hw0
  go_quiet (fail)
  go_wp2_with fail
  have C2' : ∀ w', Ext w0 w' → w'.cell? ⟨p, 2, none⟩ = some (.slice A1 b.l.length cap1) := fun w' hx => C2 w' (hx1.trans hx)
  have F0' : ∀ w' j, Ext w0 w' → w'.frozen? ⟨p, j, none⟩ = false := fun w' j hx => F0 w' j (hx1.trans hx)
  have hbytes : (b.l.length + 1) * 40 ≤ 140737488355328 := by omega
  have h63 : b.l.length + 1 ≤ 140737488355328 := by omega
  clear C0 C1 C2 F0
  have hx00 : ∀ n, Ext w0 (w0.drewN n) := fun n => (Ext.refl w0).drewN n
  go_region_law ((first
    | (rw [if_pos (by rfl)]; go_simp; go_at_call 23; refine (HC _ (hx00 _)).mono ?_; rintro e w2 ⟨v, rfl, hown, hx2⟩)
    | (rw [if_pos (by rfl)]; go_simp; go_at_call 24; refine (HO _ v hown hx2).mono ?_; rintro e w3 ⟨g, rfl, hg, hown3, hx3⟩)
    | (obtain ⟨css, q1, q2, q3, q4⟩ := hown3; refine step_app undT (World.ownsRow.alloc q3 _) (Sl.new w3 [.int .i64 u.from_, .int .i64 u.to_, .slice (some ⟨g, 0, none⟩) u.by_.length u.by_.length] 30 (0, 0)) rfl rfl rfl rfl rfl (by simp [Value.oneCell']) hbytes h63 (by have := hx3.size; simp; omega) ?_; rintro v' w4 hown4 hg4 -; obtain ⟨A', cap', rfl⟩ := own_form hown4; have hx4 := Ext.own (Ext.alloc hx3 _) (World.ownsRow.alloc q3 _) (Nat.le_refl _) hg4; have k2 := C2' _ hx4; have k3 := F0' _ 2 hx4)))
  all_goals
    have hne : (5 : Nat) ≠ 30 := by decide
    have hg3 : Own w4 w0.heap.size (.slice (some ⟨g, 0, none⟩) u.by_.length u.by_.length) u.by_ := Own.kept (hg.alloc _) hg4 (owns_apart hg q3 hne)
    have HB4 := HB.out _ (hx1.trans hx4)
    have hk5 : Kept [p] w (w4.setCell ⟨p, 2, none⟩ (.slice A' (b.l.length + 1) cap')) := (Kept.of_ext (hx1.trans hx4)).setCell (.inl (by simp)) _
    have hkM : Kept M w (w4.setCell ⟨p, 2, none⟩ (.slice A' (b.l.length + 1) cap')) := hk5.mono (by simp; exact hp)
    have hk4 : Kept M w4 (w4.setCell ⟨p, 2, none⟩ (.slice A' (b.l.length + 1) cap')) := (Kept.refl M w4).setCell (.inl hp) _
    have hrow := heap_setCell_same w4 p 2 _ _ (.slice A' (b.l.length + 1) cap') HB4
    have hMw : ∀ k ∈ M, k < w0.heap.size := fun k hk => by have := HM.out k hk; have := hx1.size; omega
    have hfin : IsBag M (w4.setCell ⟨p, 2, none⟩ (.slice A' (b.l.length + 1) cap')) p ⟨b.most, b.lost, b.l ++ [u]⟩ := by
      refine ⟨A', cap', by simpa using hrow, css ++ [[.int .i64 u.from_, .int .i64 u.to_, .slice (some ⟨g, 0, none⟩) u.by_.length u.by_.length]], by simp [q1], ?_, ?_, ?_⟩
      · intro cs hcs
        rcases List.mem_append.1 hcs with h | h
        · exact q2 cs h
        · simp at h; subst h; rfl
      · have := (SlM.own (M := M) hown4 rfl hMw).kept hk4
        simpa using this
      · intro k cs x hk hx
        rw [List.getElem?_append] at hk hx
        by_cases hlt : k < css.length
        · rw [if_pos hlt] at hk
          rw [if_pos (by omega)] at hx
          exact RU.kept (q4 k cs x hk hx) hkM
        · rw [if_neg hlt] at hk
          rw [if_neg (by omega)] at hx
          have hk0 : k - css.length = 0 := by
            rcases Nat.eq_zero_or_pos (k - css.length) with h | h
            · exact h
            · rw [List.getElem?_eq_none (by simp; omega)] at hk; cases hk
          rw [hk0] at hk
          rw [show k - b.l.length = 0 by omega] at hx
          simp at hk hx
          subst hk hx
          exact ⟨some ⟨g, 0, none⟩, _, rfl, (BsM.own hg3 hMw).kept hk4⟩
    generalize w4.setCell ⟨p, 2, none⟩ (.slice A' (b.l.length + 1) cap') = w5 at *
    clear hrow hkM hk4 HB4 hg3 k2 k3 hown4 hg4 q1 q2 q3 q4 hg hown C2' F0' hx00
    go_wp2
    go_ret
    exact ⟨rfl, hk5, hfin⟩
end Go.Proofs.Ytbanjhfmddhndaa
