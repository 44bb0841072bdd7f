/- The walk of the log's lay, the loop over its iterator. Conditions: the hypotheses of the theorem. -/
import Derived.Test.YtklodimokhndoaaWa8
import Derived.Shelf.Abstract
namespace Go.Proofs.Ytklodimokhndoaa
open Go.RowKit
attribute [local go_sem] Oper.semAt_some
def prs (l : List Hand) : List (Nat × By) := l.map fun x => (x.1, x.2.1)
theorem prs_app (a b : List Hand) : prs (a ++ b) = prs a ++ prs b := by simp [prs]
/-- between two rounds -/
structure LayI (B : List Nat) (w : World) (p q : Nat) (s : Dk) (g : Lg) (A : Option Addr) (c : Nat) (v : Value) (b4 b7 b8 : Nat) (must : Bool) (pre : List Hand) (W : World) : Prop where
  disk : ∃ B1, Disk B1 W p (wrF s (prs pre)).2 ∧ Turn B w B1 W
  ok : (wrF s (prs pre)).1 = 0
  row : LgRow W q p g A c v
  box4 : W.heap[b4]? = some (.cells #[pt q] 29 (0, 0))
  box7 : W.heap[b7]? = some (.cells #[.bool (must || decide (pre ≠ []))] 4 (0, 0))
  box8 : W.heap[b8]? = some (.cells #[.int .i64 0] 23 (0, 0))
/-- a round has left -/
structure LayX (B : List Nat) (w : World) (p : Nat) (s : Dk) (b8 : Nat) (pre : List Hand) (W : World) : Prop where
  disk : ∃ B1, Disk B1 W p (wrF s (prs pre)).2 ∧ Turn B w B1 W
  bad : (wrF s (prs pre)).1 ≠ 0
  box8 : W.heap[b8]? = some (.cells #[.int .i64 (wrF s (prs pre)).1] 23 (0, 0))
section
variable {B : List Nat} {w : World} {p q : Nat} {s : Dk} {g : Lg} {A : Option Addr} {c : Nat} {v : Value} {b4 b7 b8 : Nat} {must : Bool}
theorem Disk.keptT {M : List Nat} {w' : World} (h : Disk B w p s) (hk : Kept M w w') (hM : ∀ k ∈ M, ∃ cs t fr, w.heap[k]? = some (Obj.cells cs t fr) ∧ t ≠ 68 ∧ t ≠ 104 ∧ t ≠ 106) : Disk B w' p s := by
  obtain ⟨B0, ⟨g0, cap, v0, hi⟩, hs0, ht0⟩ := h.thin
  refine Disk.mono (B := B0) ⟨g0, cap, v0, hi.kept hk fun k hkB hm => ?_⟩ hs0 fun k hk2 => Nat.lt_of_lt_of_le (h.lt k hk2) hk.size
  obtain ⟨cs, t, fr, h1, h2, h3, h4⟩ := hM k hm
  obtain ⟨cs', t', h5, h6⟩ := ht0 k hkB
  rw [h1] at h5
  injection h5 with h5
  injection h5 with _ h5 _
  subst h5
  rcases h6 with h6 | h6 | h6
  · exact h2 h6
  · exact h3 h6
  · exact h4 h6
theorem Flush_kd {n : Nat} (h : Disk B w p s) (hs : s.Ok) (hf : s.Few n) (hn : n ≤ 1000000) :
    Calls Try.prog 52 #[pt p] w fun e w' => e = .returned (.int .i64 (flushE s)) ∧ Disk B w' p (flushS s) ∧ Turn B w B w' ∧ Kd w w' := by
  obtain ⟨B0, h0, hs0, ht0⟩ := h.thin
  refine (Flush_any h0 hs hf hn).mono ?_
  rintro e w' ⟨rfl, hd, ht⟩
  exact ⟨rfl, hd.mono hs0 fun k hk => Nat.lt_of_lt_of_le (h.lt k hk) ht.kept.size, .of_kept (ht.kept.mono hs0), Kd.kept ht.kept ht0⟩
theorem Kept.trans_new {M N : List Nat} {a b c : World} (h : Kept M a b) (k : Kept N b c) (hN : ∀ x ∈ N, a.heap.size ≤ x) : Kept M a c := (h.mono (N := M ++ N) (fun x hx => List.mem_append.2 (.inl hx))).trans (k.mono (fun x hx => List.mem_append.2 (.inr hx))) |>.less fun x hx hlt => by
  rcases List.mem_append.1 hx with hx | hx
  · exact hx
  · have := hN x hx; omega
theorem Sl.kept1 {M : List Nat} {w' : World} {ad : Addr} {xs : List Value} (h : Sl w (some ad) xs) (hk : Kept M w w') (hn : ad.block ∉ M) : Sl w' (some ad) xs := fun j u hj => by
  obtain ⟨ad', e, hc⟩ := h j u hj
  cases e
  exact ⟨_, rfl, hk.cell hc (by rw [addr_add_block]; exact hn)⟩
theorem Kd.others {w' : World} (h : Kd w w') (hs : w.heap.size ≤ w'.heap.size) (m : Nat) : KeepsFrom m w w' := ⟨hs, fun k o _ hk ho => h k o hk fun cs t fr e => by subst e; cases ho⟩
theorem KeepsFrom.kept1 {k0 : Nat} {cs : Array Value} {t : TypeId} {fr : Nat × Nat} {w' : World} (h : Kept [k0] w w') (hc : w.heap[k0]? = some (Obj.cells cs t fr)) (m : Nat) : KeepsFrom m w w' := ⟨h.size, fun k o _ hk ho => h.heap hk (by
  intro hm
  simp at hm
  subst hm
  rw [hc] at hk
  injection hk with hk
  subst hk
  cases ho)⟩
theorem Kt.kept1 {k0 : Nat} {cs : Array Value} {t : TypeId} {fr : Nat × Nat} {w' : World} (h : Kept [k0] w w') (hc : w.heap[k0]? = some (Obj.cells cs t fr)) (ht : ¬ (t = 5 ∨ t = 29 ∨ t = 3 ∨ t = 46 ∨ t = 77)) : Kt w w' := fun k cs' t' fr' h1 h2 => h.heap h1 (by
  intro hm
  simp at hm
  subst hm
  rw [hc] at h1
  injection h1 with h1
  injection h1 with _ h1 _
  subst h1
  exact ht h2)
theorem wrF_snoc {s s1 : Dk} {a : List (Nat × By)} {y : Nat × By} (h : wrF s a = (0, s1)) : wrF s (a ++ [y]) = (writeE s1 y.1 y.2, writeS s1 y.1 y.2) := by
  rw [wrF_app _ _ _ _ h]
  unfold wrF
  split
  · rfl
  · rename_i h1
    rw [Decidable.not_not.1 h1]
    rfl
theorem cells_others {W W' : World} {row : Option Nat} {k : Nat} {cs : Array Value} {t : TypeId} {fr : Nat × Nat} (h : W.heap[k]? = some (Obj.cells cs t fr)) (hg : W.grownBy W' row) (hr : ∀ r, row = some r → ∃ o : Obj, W.heap[r]? = some o ∧ o.isCells = false) : W'.heap[k]? = some (Obj.cells cs t fr) :=
  (hg.block k (Array.getElem?_eq_some_iff.1 h).1 fun e => by
    obtain ⟨o, h1, h2⟩ := hr k e.symm
    rw [h] at h1
    injection h1 with h1
    subst h1
    cases h2).trans h
theorem Turn.others {B1 : List Nat} {W W' : World} {row : Option Nat} (t : Turn B w B1 W) (hg : W.grownBy W' row) (hr : ∀ r, row = some r → w.heap.size ≤ r) : Turn B w B1 W' :=
  ⟨t.kept.grown hg fun k hk => .inr (hr k hk), t.sub, t.new⟩
/-- at the return behind the loop: the result lies in its cell -/
theorem lay_end {D b8 : Nat} {W : World} {e : Int} {r : Int × Dk} {B1 : List Nat} (hK : W.heap[D]? = some (.deferred (some []))) (h8 : W.heap[b8]? = some (.cells #[.int .i64 e] 23 (0, 0))) (hd : Disk B1 W p r.2) (ht : Turn B w B1 W) (hD : w.heap.size ≤ D) :
    (W.putObj D (.deferred none)).cell? ⟨b8, 0, none⟩ = some (.int .i64 e) ∧ ∃ B', Disk B' (W.putObj D (.deferred none)) p r.2 ∧ Turn B w B' (W.putObj D (.deferred none)) := by
  have hg := grownBy_putObj' W D (.deferred none)
  have hr : ∀ k, some D = some k → ∃ o : Obj, W.heap[k]? = some o ∧ o.isCells = false := fun k e => by cases e; exact ⟨_, hK, rfl⟩
  exact ⟨(row_at (cells_others h8 hg hr)).1, B1, hd.others hg hr, ht.others hg fun k e => by cases e; exact hD⟩
theorem LayI.own {m : Nat} (hm : w.heap.size ≤ m) : OwnFrom m (LayI B w p q s g A c v b4 b7 b8 must) := fun pre W W' row h hg hr => by
  obtain ⟨⟨B1, h1, h2⟩, h3, h4, h5, h6, h7⟩ := h
  have hr2 := fun r e => (hr r e).2
  exact ⟨⟨B1, h1.others hg hr2, h2.others hg fun r e => Nat.le_trans hm (hr r e).1⟩, h3, cells_others h4 hg hr2, cells_others h5 hg hr2, cells_others h6 hg hr2, cells_others h7 hg hr2⟩
theorem LayX.own {m : Nat} (hm : w.heap.size ≤ m) : OwnFrom m (LayX B w p s b8) := fun pre W W' row h hg hr => by
  obtain ⟨⟨B1, h1, h2⟩, h3, h4⟩ := h
  have hr2 := fun r e => (hr r e).2
  exact ⟨⟨B1, h1.others hg hr2, h2.others hg fun r e => Nat.le_trans hm (hr r e).1⟩, h3, cells_others h4 hg hr2⟩
theorem Hd.own (m : Nat) : OwnFrom m Hd := fun x W W' row h hg hr => by
  obtain ⟨h1, ⟨cs, fr, h2⟩, h3⟩ := h
  have h4 := cells_others h2 hg fun r e => (hr r e).2
  refine ⟨h1, ⟨cs, fr, h4⟩, fun k v hk => ?_⟩
  obtain ⟨ad, e, hc⟩ := h3 k v hk
  refine ⟨ad, e, ?_⟩
  injection e with e
  subst e
  have hb : (Addr.add ⟨x.2.2.1, x.2.2.2, none⟩ k).block = x.2.2.1 := addr_add_block _ _
  refine (World.cell?_of_block (w := W) ?_).trans hc
  rw [hb, h4, h2]
end
set_option maxRecDepth 20000 in
set_option maxHeartbeats 2000000 in
theorem wlay_any {B : List Nat} {w : World} {q p : Nat} {g : Lg} {A : Option Addr} {c : Nat} {v : Value} {s : Dk} {n : Nat} (h : LgRow w q p g A c v) (hD : Disk B w p s) (hs : s.Ok) (hf : s.Few n) (hn : n ≤ 100000) (hd : s.down = false)
    (k : Nat) (hb : g.base ≤ 512) (h1 : 2 ≤ g.size) (h2 : g.size ≤ 256) (hk : k ≤ 1) (hin : g.at_ k + g.size ≤ s.sure.length) (Ai : Option Addr) (ci : Nat) (is : By) (hi : Bs w Ai is) (hil : is.length ≤ 64 * (g.size - 1)) (must : Bool) :
    Calls Try.prog 31 #[pt q, .int .i64 k, .slice Ai is.length ci, .bool must] w fun e w' => ∃ B', e = .returned (.int .i64 (layD s (g.at_ k) (g.size - 1) is must).1) ∧ Disk B' w' p (layD s (g.at_ k) (g.size - 1) is must).2 ∧ Turn B w B' w' := by
  have hx0 := ((((Ext.refl w).alloc (.cells #[pt q] 29)).alloc (.cells #[.bool must] 4)).alloc (.cells #[.int .i64 0] 23))
  have k4 := heap_alloc_new w (.cells #[pt q] 29)
  have k7 := heap_alloc_new (w.alloc (.cells #[pt q] 29)) (.cells #[.bool must] 4)
  have k8 := heap_alloc_new ((w.alloc (.cells #[pt q] 29)).alloc (.cells #[.bool must] 4)) (.cells #[.int .i64 0] 23)
  have hx2 := ((Ext.refl (w.alloc (.cells #[pt q] 29))).alloc (.cells #[.bool must] 4)).alloc (.cells #[.int .i64 0] 23)
  have hx3 := (Ext.refl ((w.alloc (.cells #[pt q] 29)).alloc (.cells #[.bool must] 4))).alloc (.cells #[.int .i64 0] 23)
  replace k4 := hx2.obj k4
  replace k7 := hx3.obj k7
  simp only [World.size_alloc] at k7 k8
  obtain ⟨w0, hw0⟩ : ∃ w0, ((w.alloc (.cells #[pt q] 29)).alloc (.cells #[.bool must] 4)).alloc (.cells #[.int .i64 0] 23) = w0 := ⟨_, rfl⟩
  rw [hw0] at hx0 k4 k7 k8
  have HW := Lib.hid hw0
  have HOT := wother_any q k Ai is.length ci w0
  have HX0 := Lib.hid hx0
  have K4 := Lib.hid k4
  have K7 := Lib.hid k7
  have K8 := Lib.hid k8
  obtain ⟨c4, -⟩ := row_at k4
  clear hx2 hx3 k4 k7 k8 hx0
  unfold pt at *
  refine (callsIn_wide (n := 4)).1 ?_
  refine callsIn_of_wp_marks Try.func31 rfl trivial ?_ rfl
  simp only [Try.ntmps31, List.size_toArray, List.length_cons, List.length_nil, Nat.reduceAdd, Nat.reduceSub, Array.replicate_succ, Array.replicate_zero, List.push_toArray, List.append_toArray, List.nil_append, List.cons_append]
  refine wpIn_wide.2 ?_
  go_wp2_with fail
  refine HOT.mono ?_
  rintro e w1 ⟨rfl, hx1, k1, k2, k3⟩
  clear HOT c4
  have HX1 := Lib.hid (HX0.out.trans hx1)
  have HM := other1_mem (h.ext HX1.out) (hD.ext HX1.out) hs hf (by omega) hd k hb h1 h2 hk hin Ai ci is (hi.ext HX1.out) hil _ _ _ 3 k1 k2 k3
  have HI0 : LayI B w p q s g A c v w.heap.size (w.heap.size + 1) (w.heap.size + 1 + 1) must [] w1 :=
    ⟨⟨B, hD.ext HX1.out, .of_ext HX1.out⟩, rfl, h.ext HX1.out, hx1.obj K4.out, by simpa using hx1.obj K7.out, hx1.obj K8.out⟩
  have HL1 : w.heap.size ≤ w1.heap.size := HX1.out.size
  have HL0 : Hid (∀ k ∈ [w.heap.size + 1], w.heap.size ≤ k) := Lib.hid (by simp)
  clear k1 k2 k3 K4 K7 K8 HX0 HW hw0 h hi
  go_wp2_with fail
  refine (wpIn_wide (n := 4)).1 ?_
  unfold pt at HM
  refine wpIn_rangeMem rfl (by omega) (gf := 72) rfl trivial (enters_of Try.func72 (by kernel_rfl) rfl) HM Kt.trans (fun W l o o' _ hl ho _ => Kt.putObj W l o o' hl ho) (Below.refl _ _) (fun _ => rfl)
    (LayI B w p q s g A c v w.heap.size (w.heap.size + 1) (w.heap.size + 1 + 1) must) (LayX B w p s (w.heap.size + 1 + 1)) (LayI.own HL1) (LayX.own HL1) (Hd.own _) HI0
    (fun x => { tmps := #[.pointer (some ⟨q, 0, none⟩), .int .i64 k, .slice Ai is.length ci, .bool must, .pointer (some ⟨w.heap.size, 0, none⟩), undef, undef, .pointer (some ⟨w.heap.size + 1, 0, none⟩), .pointer (some ⟨w.heap.size + 1 + 1, 0, none⟩), .int .i64 x.1, .slice (some ⟨x.2.2.1, x.2.2.2, none⟩) 64 64, undef,
      .pointer (some ⟨q, 0, none⟩), .int .i64 k, .slice Ai is.length ci, .func (.func 72) #[] #[.pointer (some ⟨w0.heap.size, 0, none⟩), .pointer (some ⟨w0.heap.size + 1, 0, none⟩), .pointer (some ⟨w0.heap.size + 1 + 1, 0, none⟩)], .int .i64 x.1, .slice (some ⟨x.2.2.1, x.2.2.2, none⟩) 64 64,
      undef, undef, undef, undef, undef, undef, undef, undef, undef, undef, undef, undef, undef, undef, undef, undef], defers := [] }) ?assign ?body ?done ?stop
  case assign =>
    intro l x W K hK
    unfold hnd
    gi_wp2
    exact hK
  case body =>
    rintro l pre x W HI hx hlt
    obtain ⟨⟨B1, hd1, ht1⟩, he1, hr1, q4, q7, q8⟩ := HI
    obtain ⟨c4, -⟩ := row_at q4
    obtain ⟨c7, f7⟩ := row_at q7
    obtain ⟨c8, f8⟩ := row_at q8
    obtain ⟨c0, -⟩ := hr1.cell
    have c0 := c0 W (Ext.refl _)
    have f70 := f7 0
    have f80 := f8 0
    have hq7 : ¬ q = w.heap.size + 1 := fun e => by have h9 : W.heap[q]? = _ := hr1; rw [e, q7] at h9; injection h9 with h9; injection h9 with _ h9 _; exact absurd h9 (by decide)
    have hq8 : ¬ w.heap.size + 1 = q := fun e => hq7 e.symm
    unfold pt at *
    gi_wp2
    obtain ⟨hx1', hx2, hx3⟩ := hx
    obtain ⟨Wd, hWd⟩ : ∃ Wd, Wd = W.setCell ⟨w.heap.size + 1, 0, none⟩ (.bool true) := ⟨_, rfl⟩
    have hkd : Kept [w.heap.size + 1] W Wd := by rw [hWd]; exact (Kept.refl _ _).setCell (.inl (by simp)) _
    have e7 : Wd.heap[w.heap.size + 1]? = some (.cells #[.bool true] 4 (0, 0)) := by rw [hWd, one_setCell q7]
    have e4 := hkd.heap q4 (by simp)
    have e8 := hkd.heap q8 (by simp)
    have er := hr1.kept hkd (by simpa using hq7)
    have hdd := hd1.keptT hkd (by intro k hk; simp at hk; subst hk; exact ⟨_, _, _, q7, by decide⟩)
    have hwlen := wrF_few (prs pre) s n hf
    have hWR := Write_kd hdd (wrF_ok _ _ hs) hwlen (by simp [prs]; omega) (x.1 : Int) x.2.2.1 x.2.2.2 64 x.2.1 (Sl.kept1 hx3 hkd (by obtain ⟨cs, fr, h9⟩ := hx2; simp; intro e; rw [e, q7] at h9; injection h9 with h9; injection h9 with _ h9 _; exact absurd h9 (by decide))) (by obtain ⟨cs, fr, h9⟩ := hx2; exact ⟨cs, fr, hkd.heap h9 (by simp; intro e; rw [e, q7] at h9; injection h9 with h9; injection h9 with _ h9 _; exact absurd h9 (by decide))⟩)
    rw [hx1', hWd] at hWR
    refine ⟨trivial, (CallsIn.inRound l (callsIn_wide.2 hWR)).mono ?_⟩
    rintro e W2 ⟨B2, rfl, hd2, ht2', hk2⟩
    rw [← hWd] at ht2' hk2
    have ht2 : Turn B w B2 W2 := (show Turn B w B1 Wd from ⟨ht1.kept.trans_new hkd HL0.out, ht1.sub, ht1.new⟩).trans ht2'
    have HWF : Hid (wrF s (prs (pre ++ [x])) = (writeE (wrF s (prs pre)).2 x.1 x.2.1, writeS (wrF s (prs pre)).2 x.1 x.2.1)) := Lib.hid (by rw [prs_app]; exact wrF_snoc (y := (x.1, x.2.1)) (Prod.ext he1 rfl))
    have m7 := hk2.cells e7 (by decide)
    have m4 := hk2.cells e4 (by decide)
    have m8 := hk2.cells e8 (by decide)
    have mr : LgRow W2 q p g A c v := hk2.cells er (by decide)
    have hkf : KeepsFrom w1.heap.size W W2 := (KeepsFrom.kept1 hkd q7 _).trans (hk2.others ht2'.kept.size _)
    have hkt : Kt W W2 := (Kt.kept1 hkd q7 (by decide)).trans hk2.kt
    have hne : pre ++ [x] ≠ [] := by simp
    clear e7 e4 e8 er hWR hk2 ht2' hkd c4 c7 f7 c8 f8 c0 f70 f80 hdd hx2 hx3 hwlen q4 q7 q8 hr1 hd1 ht1
    generalize writeE (wrF s (prs pre)).2 x.1 x.2.1 = ew at *
    generalize writeS (wrF s (prs pre)).2 x.1 x.2.1 = s2 at *
    obtain ⟨c8, f8⟩ := row_at m8
    have f80 := f8 0
    have HM4 := Lib.hid m4
    have HM7 := Lib.hid m7
    have HM8 := Lib.hid m8
    have HMR := Lib.hid mr
    have HD2 := Lib.hid hd2
    clear m4 m7 m8 mr f8 hd2
    by_cases hw : ew = 0
    · have dw : (ew != 0) = false := by simp [hw]
      have HW0 := Lib.hid hw
      clear hw
      gi_wp2
      exact ⟨hkf, hkt, ⟨B2, by rw [HWF.out]; exact HD2.out, ht2⟩, by rw [HWF.out]; exact HW0.out, HMR.out, HM4.out, by rw [HM7.out]; simp, HM8.out⟩
    · have dw : (ew != 0) = true := by simpa using hw
      have HW0 := Lib.hid hw
      clear hw
      gi_wp2
      have hk8 : Kept [w.heap.size + 1 + 1] W2 (W2.setCell ⟨w.heap.size + 1 + 1, 0, none⟩ (.int .i64 ew)) := (Kept.refl _ _).setCell (.inl (by simp)) _
      refine ⟨hkf.trans (KeepsFrom.kept1 hk8 HM8.out _), ⟨B2, by rw [HWF.out]; exact HD2.out.keptT hk8 (by intro k hk; simp at hk; subst hk; exact ⟨_, _, _, HM8.out, by decide⟩), ?_⟩, by rw [HWF.out]; exact HW0.out, by rw [HWF.out, one_setCell HM8.out]⟩
      exact ⟨ht2.kept.trans_new hk8 (by simp; omega), ht2.sub, ht2.new⟩
  case done =>
    rintro D xs W hDl hS HI hK
    obtain ⟨⟨B1, hd1, ht1⟩, he1, hr1, q4, q7, q8⟩ := HI
    have hS : prs xs = _ := hS
    obtain ⟨c4, -⟩ := row_at q4
    obtain ⟨c7, -⟩ := row_at q7
    obtain ⟨c8, f8⟩ := row_at q8
    obtain ⟨c0, -⟩ := hr1.cell
    have c0 := c0 W (Ext.refl _)
    have f80 := f8 0
    have HLD : Hid (layD s (g.at_ k) (g.size - 1) is must = if must = true ∨ prs xs ≠ [] then (flushE (wrF s (prs xs)).2, flushS (wrF s (prs xs)).2) else (0, (wrF s (prs xs)).2)) := Lib.hid (by unfold layD; rw [← hS, if_neg (by rw [he1]; decide)])
    have HSL := Lib.hid hS
    have hxs : (decide (xs ≠ []) = true) ↔ prs xs ≠ [] := by simp [prs]
    have HQ4 := Lib.hid q4
    have HQ7 := Lib.hid q7
    have HQ8 := Lib.hid q8
    have HDD := Lib.hid hd1
    have HKD := Lib.hid hK
    clear q4 q7 q8 hd1 hK hr1 hS f8
    unfold pt at *
    by_cases hm : (must || decide (xs ≠ [])) = true
    · rw [hm] at c7
      have HLV : Hid (layD s (g.at_ k) (g.size - 1) is must = (flushE (wrF s (prs xs)).2, flushS (wrF s (prs xs)).2)) := Lib.hid (by rw [HLD.out]; exact if_pos (by rw [← hxs]; simpa using hm))
      clear hm HLD
      have hfw := wrF_few (prs xs) s n hf
      have hnl : (prs xs).length ≤ 256 := by rw [HSL.out]; have := difs_len (g.at_ k) (allG s (g.at_ k) (g.size - 1)) (is ++ List.replicate (64 * (g.size - 1) - is.length) 0) (g.size - 1); omega
      have HFL := Flush_kd HDD.out (wrF_ok _ _ hs) hfw (by omega)
      unfold pt at HFL
      go_wp2_with fail
      refine HFL.mono ?_
      rintro e W2 ⟨rfl, hd2, ht2, hkd2⟩
      have e8 := hkd2.cells HQ8.out (by decide)
      have HKD2 := hkd2 D _ HKD.out (by intro cs t fr e; cases e)
      obtain ⟨c82, f82⟩ := row_at e8
      have f820 := f82 0
      clear f82 HFL
      have HD2 := Lib.hid hd2
      clear hd2 c8 c7 c4 c0 f80
      go_wp2
      have hk8 : Kept [w.heap.size + 1 + 1] W2 (W2.setCell ⟨w.heap.size + 1 + 1, 0, none⟩ (.int .i64 (flushE (wrF s (prs xs)).2))) := (Kept.refl _ _).setCell (.inl (by simp)) _
      have hDne : D ≠ w.heap.size + 1 + 1 := fun e => by subst e; rw [HQ8.out] at HKD; exact absurd HKD.out (by simp)
      have hK8 := hk8.heap HKD2 (by simpa using hDne)
      refine ⟨by simp, .inl ⟨_, _, rfl, run_takeDeferred hK8, ?_⟩⟩
      have ht8 : Turn B w B1 (W2.setCell ⟨w.heap.size + 1 + 1, 0, none⟩ (.int .i64 (flushE (wrF s (prs xs)).2))) := ⟨(ht1.trans ht2).kept.trans_new hk8 (by simp; omega), ht1.sub, ht1.new⟩
      obtain ⟨hc5, B5, hd5, ht5⟩ := lay_end (r := layD s (g.at_ k) (g.size - 1) is must) hK8 (one_setCell e8) (by rw [HLV.out]; exact HD2.out.keptT hk8 (by intro k hk; simp at hk; subst hk; exact ⟨_, _, _, e8, by decide⟩)) ht8 (by omega)
      refine ⟨.int .i64 (flushE (wrF s (prs xs)).2), ?_, B5, congrArg (fun z => Ending.returned (.int .i64 z)) (congrArg Prod.fst HLV.out).symm, hd5, ht5⟩
      simp [results, Try.f31, go_sem, hc5]
    · have hmf : (must || decide (xs ≠ [])) = false := by simpa using hm
      rw [hmf] at c7
      have HLV : Hid (layD s (g.at_ k) (g.size - 1) is must = (0, (wrF s (prs xs)).2)) := Lib.hid (by rw [HLD.out]; exact if_neg (fun h => hm (by rcases h with h | h; (simp [h]); (rw [hxs.2 h]; simp))))
      clear hm hmf HLD hxs c4 c0
      go_wp2
      have hk8 : Kept [w.heap.size + 1 + 1] W (W.setCell ⟨w.heap.size + 1 + 1, 0, none⟩ (.int .i64 0)) := (Kept.refl _ _).setCell (.inl (by simp)) _
      have hDne : D ≠ w.heap.size + 1 + 1 := fun e => by subst e; rw [HQ8.out] at HKD; exact absurd HKD.out (by simp)
      have hK8 := hk8.heap HKD.out (by simpa using hDne)
      refine ⟨by simp, .inl ⟨_, _, rfl, run_takeDeferred hK8, ?_⟩⟩
      have ht8 : Turn B w B1 (W.setCell ⟨w.heap.size + 1 + 1, 0, none⟩ (.int .i64 0)) := ⟨ht1.kept.trans_new hk8 (by simp; omega), ht1.sub, ht1.new⟩
      obtain ⟨hc5, B5, hd5, ht5⟩ := lay_end (r := layD s (g.at_ k) (g.size - 1) is must) hK8 (one_setCell HQ8.out) (by rw [HLV.out]; exact HDD.out.keptT hk8 (by intro k hk; simp at hk; subst hk; exact ⟨_, _, _, HQ8.out, by decide⟩)) ht8 (by omega)
      refine ⟨.int .i64 0, ?_, B5, congrArg (fun z => Ending.returned (.int .i64 z)) (congrArg Prod.fst HLV.out).symm, hd5, ht5⟩
      simp [results, Try.f31, go_sem, hc5]
  case stop =>
    rintro D pre x rest W hDl hS HX hK
    obtain ⟨⟨B1, hd1, ht1⟩, he1, q8⟩ := HX
    have hS : prs (pre ++ x :: rest) = _ := hS
    have HLV : Hid (layD s (g.at_ k) (g.size - 1) is must = ((wrF s (prs (pre ++ [x]))).1, (wrF s (prs (pre ++ [x]))).2)) := Lib.hid (by
      have e := wrF_bad (prs (pre ++ [x])) s _ _ (prs rest) he1 rfl
      rw [← prs_app, show pre ++ [x] ++ rest = pre ++ x :: rest by simp, hS] at e
      unfold layD
      rw [e, if_pos he1])
    have HQ8 := Lib.hid q8
    have HKD := Lib.hid hK
    clear q8 hK hS
    gi_wp2
    refine ⟨by simp, .inl ⟨_, _, rfl, run_takeDeferred HKD.out, ?_⟩⟩
    obtain ⟨hc5, B5, hd5, ht5⟩ := lay_end (r := layD s (g.at_ k) (g.size - 1) is must) HKD.out HQ8.out (by rw [HLV.out]; exact hd1) ht1 (by omega)
    refine ⟨.int .i64 (wrF s (prs (pre ++ [x]))).1, ?_, B5, congrArg (fun z => Ending.returned (.int .i64 z)) (congrArg Prod.fst HLV.out).symm, hd5, ht5⟩
    simp [results, Try.f31, go_sem, hc5]
end Go.Proofs.Ytklodimokhndoaa
