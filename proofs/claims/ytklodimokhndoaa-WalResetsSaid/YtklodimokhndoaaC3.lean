/- A run of the law (a disk, a log, what it was told, how much must last) in memory; the walk of begun. Conditions: the hypotheses of each theorem. The walk of the law's begun. No condition. What a step of the law does to a run, in plain words. Conditions: the hypotheses of each theorem. The walk of a step of the law. Conditions: the hypotheses of the theorem. -/
import Derived.Test.YtklodimokhndoaaC1
import Derived.Test.YtklodimokhndoaaC2
namespace Go.Proofs.Ytklodimokhndoaa
open Go.RowKit
/-- others turn, and more blocks are told of -/
theorem SysI.others {M N N' K : List Nat} {w w' : World} {p q : Nat} {s : Dk} {g : Lg} {B : List Nat} {A : Option Addr} {c : Nat} {v : Value} {vs : List Value} (h : SysI M N w p q s g B A c v vs) (hk : Kept K w w') (hK : ∀ k ∈ K, k ∉ M) (hKN : ∀ k ∈ K, k ∈ N')
    (hs : ∀ k ∈ N', k ∈ N ∨ w.heap.size ≤ k) (hNN : ∀ k ∈ N, k ∈ N') (hl : ∀ k ∈ N', k < w'.heap.size) : SysI M N' w' p q s g B A c v vs := by
  refine ⟨?_, h.row.kept hk (fun hq => hK q hq h.qM), h.BM, h.qM, h.vM, h.qB, h.vB, fun k hk => hNN k (h.MN k hk), hl, (SlM.old h.sp hs).kept (hk.mono hKN), h.cap, ?_, fun k l hk2 => ?_⟩
  · obtain ⟨g0, cap0, v0, hi⟩ := h.disk
    exact ⟨g0, cap0, v0, hi.kept hk fun k hkB hm => hK k hm (h.BM k hkB)⟩
  · obtain ⟨h1, h2⟩ := h.own
    refine ⟨h1, ?_⟩
    rcases h2 with h2 | ⟨g', cap', cur, e, hb, hg, h3⟩
    · exact .inl h2
    · exact .inr ⟨g', cap', cur, e, hb, hk.heap hg (fun hm => hK g' hm (h.vM g' (by rw [e]; rfl))), h3⟩
  · obtain ⟨A', c', h1, h2, h3⟩ := h.els k l hk2
    exact ⟨A', c', h1, h2, (SlM.old h3 hs).kept (hk.mono hKN)⟩
/-- a run at P -/
structure RunI (M N : List Nat) (w0 w : World) (P p q : Nat) (s : Dk) (g : Lg) (all : List By) (sure : Nat) (v : Value) (vs : List Value) : Prop where
  ex : Ext w0 w
  row : w.heap[P]? = some (.cells #[pt p, pt q, v, .int .i64 sure] 52 (0, 0))
  sys : Sys M N w p q s g
  PM : P ∉ M
  PN : P ∈ N
  new : ∀ k ∈ N, w0.heap.size ≤ k
  vM : ∀ k, v.ownBlock = some k → k ∉ M
  vN : ∀ k, v.ownBlock = some k → k ∈ N
  own : w.ownsRow 0 46 1 v all.length vs
  els : ∀ (k : Nat) (l : By), all[k]? = some l → ∃ A' c', vs[k]? = some (.slice A' l.length c') ∧ l.length ≤ c' ∧ BsM N w A' l
/-- a run: its disk's and log's state, what it was told, how much of it must last -/
structure Rs where
  s : Dk
  g : Lg
  all : List By
  sure : Nat
def RunM (w0 w : World) (P : Nat) (x : Rs) : Prop := ∃ M N p q v vs, RunI M N w0 w P p q x.s x.g x.all x.sure v vs
section
variable {M N : List Nat} {w0 w w' : World} {P p q : Nat} {s s' : Dk} {g g' : Lg} {all : List By} {sure : Nat} {v : Value} {vs : List Value}
theorem Sys.MN (h : Sys M N w p q s g) : ∀ k ∈ M, k ∈ N := by
  obtain ⟨B, A, c, v, vs, hI⟩ := h
  exact hI.MN
theorem RunI.lt (h : RunI M N w0 w P p q s g all sure v vs) : ∀ k ∈ N, k < w.heap.size := h.sys.lt
theorem RunI.ext (h : RunI M N w0 w P p q s g all sure v vs) (hx : Ext w w') : RunI M N w0 w' P p q s g all sure v vs :=
  ⟨h.ex.trans hx, hx.obj h.row, h.sys.ext hx, h.PM, h.PN, h.new, h.vM, h.vN, owns_ext h.own hx, fun k l hk => by
    obtain ⟨A', c', h1, h2, h3⟩ := h.els k l hk
    exact ⟨A', c', h1, h2, h3.kept (.of_ext hx)⟩⟩
/-- the disk and the log turn -/
theorem RunI.aft (h : RunI M N w0 w P p q s g all sure v vs) (ha : Aft M N w w' p q s' g') : ∃ M' N', RunI M' N' w0 w' P p q s' g' all sure v vs := by
  obtain ⟨M', N', h1, h2, h3, h4⟩ := ha
  have hP := h.lt P h.PN
  have hout : ∀ k, k < w.heap.size → k ∉ M → k ∉ M' := fun k hk hn hm => by
    rcases h2.new k hm with h5 | h5
    · exact hn h5
    · omega
  refine ⟨M', N', h.ex.kept h2.kept fun k hk => h.new k (h.sys.MN k hk), h2.kept.heap h.row h.PM, h1, hout P hP h.PM, h3 P h.PN, fun k hk => ?_, fun k hk => hout k (h.lt k (h.vN k hk)) (h.vM k hk), fun k hk => h3 k (h.vN k hk), ?_, fun k l hk => ?_⟩
  · rcases h4 k hk with h5 | h5
    · exact h.new k h5
    · exact Nat.le_trans h.ex.size h5
  · obtain ⟨o1, o2⟩ := h.own
    refine ⟨o1, ?_⟩
    rcases o2 with o2 | ⟨g', cap', cur, e, hb, hg, o3⟩
    · exact .inl o2
    · exact .inr ⟨g', cap', cur, e, hb, h2.kept.heap hg (h.vM g' (by rw [e]; rfl)), o3⟩
  · obtain ⟨A', c', e1, e2, e3⟩ := h.els k l hk
    exact ⟨A', c', e1, e2, (SlM.old e3 h4).kept (h2.kept.mono fun k hk => h3 k (h.sys.MN k hk))⟩
/-- one more that it was told -/
theorem RunI.push {w1 : World} (h : RunI M N w0 w P p q s g all sure v vs) {v1 : Value} {r : By} {Au : Option Addr} {cu base : Nat} (hk : Kept v.ownBlock.toList w w1) (ho : w1.ownsRow 0 46 1 v1 (all.length + 1) (vs ++ [.slice Au r.length cu])) (hor : v1.ownBlock = v.ownBlock ∨ ∃ k, v1.ownBlock = some k ∧ w.heap.size ≤ k)
    (hu : Own w1 base (.slice Au r.length cu) r) (hb : w.heap.size ≤ base) :
    RunI M (v1.ownBlock.toList ++ N) w0 (w1.setCell ⟨P, 2, none⟩ v1) P p q s g (all ++ [r]) sure v1 (vs ++ [.slice Au r.length cu]) := by
  have hne : (5 : Nat) ≠ 46 := by decide
  have hnew : ∀ k ∈ v1.ownBlock.toList, (k ∈ N ∧ k ∉ M) ∨ w.heap.size ≤ k := fun k hk2 => by
    have hk2 : v1.ownBlock = some k := by simpa using hk2
    rcases hor with e | ⟨j, e, hj⟩
    · exact .inl ⟨h.vN k (by rw [← e]; exact hk2), h.vM k (by rw [← e]; exact hk2)⟩
    · rw [e] at hk2; injection hk2 with hk2; exact .inr (hk2 ▸ hj)
  have hnN : ∀ k ∈ v1.ownBlock.toList ++ N, k ∈ N ∨ w.heap.size ≤ k := fun k hk2 => by
    rcases List.mem_append.1 hk2 with hk2 | hk2
    · rcases hnew k hk2 with h1 | h1
      · exact .inl h1.1
      · exact .inr h1
    · exact .inl hk2
  have hPv : P ∉ v.ownBlock.toList := fun hm => by
    have hm : v.ownBlock = some P := by simpa using hm
    rcases owns_obj h.own h.row (by decide) with e | e
    · rw [e] at hm; cases hm
    · exact e hm
  have hrow1 := hk.heap h.row hPv
  have hv1P : v1.ownBlock = none ∨ v1.ownBlock ≠ some P := owns_obj ho hrow1 (by decide)
  have hk2 : Kept [P] w1 (w1.setCell ⟨P, 2, none⟩ v1) := (Kept.refl _ _).setCell (.inl (by simp)) _
  have hkk : Kept (v.ownBlock.toList ++ [P]) w (w1.setCell ⟨P, 2, none⟩ v1) := (hk.mono fun k hk2 => List.mem_append.2 (.inl hk2)).trans (hk2.mono fun k hk2 => List.mem_append.2 (.inr hk2))
  have hsc : (w1.setCell ⟨P, 2, none⟩ v1).heap.size = w1.heap.size := by simp
  have hlt : ∀ k ∈ v1.ownBlock.toList ++ N, k < (w1.setCell ⟨P, 2, none⟩ v1).heap.size := fun k hk2 => by
    rw [hsc]
    rcases List.mem_append.1 hk2 with hk2 | hk2
    · exact (ho.lt k (by simpa using hk2)).2
    · exact Nat.lt_of_lt_of_le (h.lt k hk2) hk.size
  have hKM : ∀ k ∈ v.ownBlock.toList ++ [P], k ∉ M := fun k hk2 => by
    rcases List.mem_append.1 hk2 with hk2 | hk2
    · exact h.vM k (by simpa using hk2)
    · simp at hk2; subst hk2; exact h.PM
  have hKN : ∀ k ∈ v.ownBlock.toList ++ [P], k ∈ v1.ownBlock.toList ++ N := fun k hk2 => by
    rcases List.mem_append.1 hk2 with hk2 | hk2
    · exact List.mem_append.2 (.inr (h.vN k (by simpa using hk2)))
    · simp at hk2; subst hk2; exact List.mem_append.2 (.inr h.PN)
  refine ⟨h.ex.kept hkk fun k hk2 => ?_, ?_, ?_, h.PM, List.mem_append.2 (.inr h.PN), fun k hk2 => ?_, fun k hk2 => ?_, fun k hk2 => List.mem_append.2 (.inl (by simp [hk2])), ?_, fun k l hk2 => ?_⟩
  · rcases List.mem_append.1 hk2 with hk2 | hk2
    · exact h.new k (h.vN k (by simpa using hk2))
    · simp at hk2; subst hk2; exact h.new _ h.PN
  · have := heap_setCell_same w1 P 2 _ _ v1 hrow1
    simpa using this
  · obtain ⟨B, A, c, u, us, hI⟩ := h.sys
    exact ⟨B, A, c, u, us, hI.others hkk hKM hKN hnN (fun k hk => List.mem_append.2 (.inr hk)) hlt⟩
  · rcases hnN k hk2 with h5 | h5
    · exact h.new k h5
    · exact Nat.le_trans h.ex.size h5
  · rcases hnew k (by simp [hk2]) with h1 | h1
    · exact h1.2
    · intro hm; have := h.lt k (h.sys.MN k hm); omega
  · have e : (all ++ [r]).length = all.length + 1 := by simp
    rw [e]
    exact ho.kept (row := some P) ⟨rfl, rfl, rfl, by simp, fun k _ hk2 => heap_setCell_other w1 ⟨P, 2, none⟩ k _ (fun e => hk2 (by simp [e]))⟩ hv1P
  · have hvl : vs.length = all.length := by have := h.own.1; omega
    by_cases hlt : k < all.length
    · rw [List.getElem?_append_left hlt] at hk2
      obtain ⟨A', c', h1, h2, h3⟩ := h.els k l hk2
      exact ⟨A', c', by rw [List.getElem?_append_left (by omega)]; exact h1, h2, (SlM.old h3 hnN).kept (hkk.mono hKN)⟩
    · rw [List.getElem?_append_right (by omega)] at hk2
      have hk0 : k - all.length = 0 := by
        rcases Nat.eq_zero_or_pos (k - all.length) with h | h
        · exact h
        · rw [List.getElem?_eq_none (by simp; omega)] at hk2; cases hk2
      rw [hk0] at hk2
      simp at hk2
      subst hk2
      refine ⟨Au, cu, by rw [List.getElem?_append_right (by omega), show k - vs.length = 0 by omega]; rfl, hu.cap.1, ?_⟩
      have hu2 : Own (w1.setCell ⟨P, 2, none⟩ v1) base (.slice Au r.length cu) r := hu.setOther hrow1 (by decide)
      intro j x hj
      obtain ⟨ad, e, hc⟩ := hu2.bs j x hj
      refine ⟨ad, e, fun hm => ?_, hc⟩
      subst e
      have hbl := hu.lt ad.block rfl
      rcases List.mem_append.1 hm with hm | hm
      · have hm : v1.ownBlock = some ad.block := by simpa using hm
        rcases owns_apart hu ho hne with e | e
        · cases e
        · exact e (by rw [hm]; rfl)
      · have := h.lt _ hm
        omega
/-- so many must last -/
theorem RunI.set (h : RunI M N w0 w P p q s g all sure v vs) (n : Nat) : RunI M N w0 (w.setCell ⟨P, 3, none⟩ (.int .i64 n)) P p q s g all n v vs := by
  have hk : Kept [P] w (w.setCell ⟨P, 3, none⟩ (.int .i64 n)) := (Kept.refl _ _).setCell (.inl (by simp)) _
  have hPM : ∀ k ∈ [P], k ∉ M := fun k hk2 => by simp at hk2; subst hk2; exact h.PM
  have hPN : ∀ k ∈ [P], k ∈ N := fun k hk2 => by simp at hk2; subst hk2; exact h.PN
  refine ⟨h.ex.kept hk fun k hk2 => h.new k (hPN k hk2), ?_, ?_, h.PM, h.PN, h.new, h.vM, h.vN, ?_, fun k l hk2 => ?_⟩
  · have := heap_setCell_same w P 3 _ _ (.int .i64 n) h.row
    simpa using this
  · obtain ⟨B, A, c, u, us, hI⟩ := h.sys
    exact ⟨B, A, c, u, us, hI.other hk hPM hPN⟩
  · exact h.own.kept (row := some P) ⟨rfl, rfl, rfl, by simp, fun k _ hk2 => heap_setCell_other w ⟨P, 3, none⟩ k _ (fun e => hk2 (by simp [e]))⟩ (owns_obj h.own h.row (by decide))
  · obtain ⟨A', c', h1, h2, h3⟩ := h.els k l hk2
    exact ⟨A', c', h1, h2, h3.kept (hk.mono hPN)⟩
end
end Go.Proofs.Ytklodimokhndoaa
namespace Go.Proofs.Ytklodimokhndoaa
open Go.RowKit
def rs0 : Rs := ⟨lvA.2.1, lvA.2.2, [], 0⟩
theorem lvA_zero : (openR lvN 1 (21 / 2)).1 = 0 := lv_true.1
set_option maxRecDepth 20000 in
set_option maxHeartbeats 4000000 in
theorem begun_any (w0 : World) : Calls Try.prog 15 #[] w0 fun e w' => ∃ P, e = .returned (.tuple #[pt P, .bool true]) ∧ RunM w0 w' P rs0 := by
  have HN := New_ok 23 w0 (by omega) (by omega)
  go_enter Try.func15, Try.ntmps15
  go_wp2_with fail
  refine HN.mono ?_
  rintro e w1 ⟨p, B, rfl, hx1, hd1, hB1⟩
  clear HN
  have HO := wopen_any (B := B) [] hd1 lvN_ok lvN_few (by omega) 1 21 (by rfl) (by omega) (by omega) (by omega) (by decide) (by simp)
  have HX1 := Lib.hid hx1
  have HB1 := Lib.hid hB1
  clear hx1 hB1 hd1
  unfold pt at *
  go_wp2_with fail
  refine HO.mono ?_
  rintro e w2 hs2
  clear HO
  rcases hs2 with ⟨hne, -⟩ | ⟨-, q, M, rfl, hsys, ht⟩
  · exact absurd lvA_zero hne
  have hN : ∀ k ∈ M ++ [], w0.heap.size ≤ k := fun k hk => by
    simp only [List.append_nil] at hk
    rcases ht.new k hk with h | h
    · exact HB1.out k h
    · exact Nat.le_trans HX1.out.size h
  have hx2 : Ext w0 w2 := HX1.out.kept ht.kept HB1.out
  have HR : Hid (RunM w0 (w2.alloc (.cells #[.pointer (some ⟨p, 0, none⟩), .pointer (some ⟨q, 0, none⟩), .slice none 0 0, .int .i64 0] 52)) w2.heap.size rs0) := Lib.hid (by
    have hxa := (Ext.refl w2).alloc (.cells #[.pointer (some ⟨p, 0, none⟩), .pointer (some ⟨q, 0, none⟩), .slice none 0 0, .int .i64 0] 52)
    obtain ⟨B2, A, c, v, vs, hI⟩ := hsys
    have hlt := hI.lt
    have hMN := hI.MN
    refine ⟨M, w2.heap.size :: (M ++ []), p, q, .slice none 0 0, [], hx2.trans hxa, heap_alloc_new w2 _, ⟨B2, A, c, v, vs, ?_⟩, fun hm => ?_, List.mem_cons_self .., fun k hk => ?_, (fun k hk => by cases hk), (fun k hk => by cases hk), World.ownsRow_nil _ _ _ _, fun k l hk => by simp [rs0] at hk⟩
    · refine hI.others (K := []) (.of_ext hxa) (by simp) (by simp) (fun k hk => ?_) (fun k hk => List.mem_cons_of_mem _ hk) (fun k hk => ?_)
      · rcases List.mem_cons.1 hk with rfl | hk
        · exact .inr (Nat.le_refl _)
        · exact .inl hk
      · rcases List.mem_cons.1 hk with rfl | hk
        · simp
        · have := hlt k hk; simp; omega
    · have := hlt _ (hMN _ hm); omega
    · rcases List.mem_cons.1 hk with rfl | hk
      · exact hx2.size
      · exact hN k hk)
  clear hN hx2 ht hsys
  unfold pt at *
  go_wp2
  go_ret2
  exact ⟨_, rfl, HR.out⟩
end Go.Proofs.Ytklodimokhndoaa
namespace Go.Proofs.Ytklodimokhndoaa
theorem writeE_code {s : Dk} {i : Nat} {l : By} (hi : i < s.sure.length) (hl : l.length ≤ 64) : writeE s i l = 0 ∨ writeE s i l = 7 := by
  unfold writeE wrongE
  by_cases hd : s.down = true
  · simp [hd]
  · have : (0 : Int) ≤ (i : Int) ∧ (i : Int) < (s.sure.length : Int) := by omega
    simp only [hd, this, and_true, if_true]
    rw [if_neg (by decide), if_neg (by omega)]
    split
    · exact .inr rfl
    · exact .inl rfl
theorem writeS_age (s : Dk) (i : Int) (l : By) : (writeS s i l).age = s.age := by
  unfold writeS
  split
  · rfl
  · split
    · rfl
    · split
      · exact spent_age s
      · simp [wrote, spent_age]
theorem wrF_age : ∀ (a : List (Nat × By)) (s : Dk), (wrF s a).2.age = s.age
  | [], s => rfl
  | x :: r, s => by
    unfold wrF
    split
    · exact writeS_age _ _ _
    · rw [wrF_age r]; exact writeS_age _ _ _
theorem wrF_code : ∀ (a : List (Nat × By)) (s : Dk), (∀ x ∈ a, x.1 < s.sure.length ∧ x.2.length ≤ 64) → (wrF s a).1 = 0 ∨ (wrF s a).1 = 7
  | [], s, _ => .inl rfl
  | x :: r, s, h => by
    have h0 := h x (List.mem_cons_self ..)
    unfold wrF
    split
    · exact writeE_code h0.1 h0.2
    · exact wrF_code r _ fun y hy => by rw [writeS_len]; exact h y (List.mem_cons_of_mem _ hy)
theorem pgO_le (l : By) (k : Nat) : (pgO l k).length ≤ 64 := by unfold pgO; simp; omega
theorem apW_in {b k0 k : Nat} {sp : By} {x : Nat × By} (h : x ∈ apW b k0 sp k) : x.1 ≤ b + k0 + k ∧ b + 1 ≤ x.1 ∧ x.2.length ≤ 64 := by
  unfold apW at h
  obtain ⟨i, hi, rfl⟩ := List.mem_map.1 h
  simp only [List.mem_range'_1] at hi
  exact ⟨by simp only; omega, by simp only; omega, pgO_le _ _⟩
theorem appendR_age (s : Dk) (g : Lg) (r : By) : (appendR s g r).2.1.age = s.age ∧ (appendR s g r).2.2.age = g.age := by
  unfold appendR
  split
  · exact ⟨rfl, rfl⟩
  · split
    · exact ⟨rfl, rfl⟩
    · split
      · exact ⟨rfl, rfl⟩
      · split
        · exact ⟨wrF_age _ _, rfl⟩
        · exact ⟨wrF_age _ _, rfl⟩
theorem appendR_recs (s : Dk) (g : Lg) (r : By) : (appendR s g r).2.2.recs = if (appendR s g r).1 = 0 then g.recs ++ [r] else g.recs := by
  unfold appendR
  by_cases h1 : beginE s g ≠ 0
  · rw [if_pos h1, if_neg h1]
  · rw [if_neg h1]
    by_cases h2 : wrongR r ≠ 0
    · rw [if_pos h2, if_neg h2]
    · rw [if_neg h2]
      by_cases h3 : 64 * (g.size - 1) < (layF g.space r).length
      · rw [if_pos h3, if_neg (show ¬ (8 : Int) = 0 by decide)]
      · rw [if_neg h3]
        by_cases h4 : (wrF s (apW (g.at_ g.half) (skipF g.space.length / 64) (layF g.space r) (apP g.space.length (layF g.space r)))).1 ≠ 0
        · rw [if_pos h4, if_neg h4]
        · rw [if_neg h4, if_pos rfl]
theorem skipF_div (n : Nat) : skipF n / 64 ≤ (n + 63) / 64 := by have := skipF_le n; have := skipF_ge n; unfold skipF; split <;> omega
theorem apW_room {g : Lg} {n : Nat} {s : Dk} {r : By} (h : Gd n s g) (hr : wrongR r = 0) (hfull : (layF g.space r).length ≤ 64 * (g.size - 1)) :
    ∀ x ∈ apW (g.at_ g.half) (skipF g.space.length / 64) (layF g.space r) (apP g.space.length (layF g.space r)), g.at_ g.half + 1 ≤ x.1 ∧ x.1 < g.at_ g.half + g.size ∧ x.1 < s.sure.length ∧ x.2.length ≤ 64 := by
  intro x hx
  obtain ⟨h1, h2, h3⟩ := apW_in hx
  have hgt := layF_gt g.space r (by intro e; subst e; simp [wrongR] at hr)
  have hs := h.fit.s1
  have h4 : g.at_ g.half + g.size ≤ s.sure.length := by
    have := h.len
    have h5 := h.fit.half
    have : g.half = 0 ∨ g.half = 1 := by omega
    rcases this with e | e <;> simp [Lg.at_, e] <;> omega
  have h6 : skipF g.space.length / 64 + apP g.space.length (layF g.space r) ≤ (layF g.space r).length / 64 + 1 := by unfold apP; omega
  have h7 : skipF g.space.length / 64 + apP g.space.length (layF g.space r) ≤ g.size - 1 := by unfold apP; omega
  exact ⟨h2, by omega, by omega, h3⟩
/-- what Append answers when no crash was -/
theorem appendR_code {s : Dk} {g : Lg} {n : Nat} (h : Gd n s g) (ha : g.age = s.age) (r : By) :
    (appendR s g r).1 = 0 ∨ (appendR s g r).1 = 7 ∨ (appendR s g r).1 = 8 ∨ ((appendR s g r).1 = 2 ∧ r.length = 0) ∨ ((appendR s g r).1 = 6 ∧ 2000 < r.length) := by
  unfold appendR
  split
  · refine .inr (.inl ?_)
    rename_i h1
    unfold beginE at h1 ⊢
    rw [if_neg (by omega)] at h1 ⊢
    split
    · rfl
    · rename_i h2
      rw [if_neg h2] at h1
      exact absurd rfl h1
  · split
    · rename_i h1
      unfold wrongR at h1 ⊢
      by_cases h2 : r.length = 0
      · exact .inr (.inr (.inr (.inl ⟨by rw [if_pos h2], h2⟩)))
      · rw [if_neg h2] at h1 ⊢
        split at h1
        · rename_i h3
          exact .inr (.inr (.inr (.inr ⟨by rw [if_pos h3], h3⟩)))
        · exact absurd rfl h1
    · rename_i h1
      split
      · exact .inr (.inr (.inl rfl))
      · rename_i h2
        split
        · rcases wrF_code _ s (fun x hx => (apW_room h (Decidable.not_not.1 h1) (by omega) x hx).2.2) with e | e
          · exact .inl e
          · exact .inr (.inl e)
        · exact .inl rfl
def cutN (n : Int) : Int := n % 18446744073709551616 % 20
theorem cutN_in (n : Int) : 0 ≤ cutN n ∧ cutN n < 20 := by unfold cutN; omega
def stepR (x : Rs) (d : WDe) : Rs :=
  if d.do_ = 0 then ⟨(appendR x.s x.g d.by_).2.1, (appendR x.s x.g d.by_).2.2, if (appendR x.s x.g d.by_).1 = 0 then x.all ++ [d.by_] else x.all, x.sure⟩
  else if d.do_ = 1 then ⟨forceS x.s x.g, x.g, x.all, if forceE x.s x.g = 0 then x.all.length else x.sure⟩
  else if d.do_ = 3 then ⟨cutS x.s (cutN d.n), x.g, x.all, x.sure⟩
  else x
/-- a run on which at most n deeds were done -/
structure Rs.Good (n : Nat) (x : Rs) : Prop where
  gd : Gd n x.s x.g
  age : x.g.age = x.s.age
  all : x.g.recs = x.all
  sure : x.sure ≤ x.all.length
theorem forceS_age (s : Dk) (g : Lg) : (forceS s g).age = s.age := by
  unfold forceS
  split
  · rfl
  · unfold flushS
    split
    · rfl
    · split
      · exact spent_age s
      · rfl
theorem cutS_age (s : Dk) (n : Int) : (cutS s n).age = s.age := by unfold cutS; split <;> rfl
theorem cutS_len (s : Dk) (n : Int) : (cutS s n).sure = s.sure := by unfold cutS; split <;> rfl
theorem Gd.mono {n m : Nat} {s : Dk} {g : Lg} (h : Gd n s g) (hn : n ≤ m) : Gd m s g := ⟨h.ok, h.few.mono hn, h.fit, h.sp, Nat.le_trans h.rl hn, h.rs, h.len⟩
theorem cutS_gd {n : Nat} {s : Dk} {g : Lg} (h : Gd n s g) {i : Int} (hi : i ≤ 9223372036854775807) : Gd (n + 1) (cutS s i) g :=
  ⟨cutS_ok h.ok i, cutS_few h.few hi, h.fit, h.sp, by have := h.rl; omega, h.rs, by rw [cutS_len]; exact h.len⟩
theorem stepR_good {n : Nat} {x : Rs} (h : x.Good n) (d : WDe) : (stepR x d).Good (n + 300) := by
  unfold stepR
  split
  · refine ⟨appendR_gd h.gd _, ?_, ?_, ?_⟩
    · rw [(appendR_age _ _ _).1, (appendR_age _ _ _).2]; exact h.age
    · simp only
      rw [appendR_recs, h.all]
    · have := h.sure
      simp only
      split <;> simp <;> omega
  · split
    · refine ⟨(forceS_gd h.gd).mono (by omega), ?_, h.all, ?_⟩
      · simp only
        rw [forceS_age]; exact h.age
      · have := h.sure
        simp only
        split <;> omega
    · split
      · refine ⟨(cutS_gd h.gd (by have := cutN_in d.n; omega)).mono (by omega), ?_, h.all, h.sure⟩
        simp only
        rw [cutS_age]; exact h.age
      · exact ⟨h.gd.mono (by omega), h.age, h.all, h.sure⟩
theorem lvA_age : lvA.2.2.age = lvA.2.1.age := by decide +kernel
theorem rs_good {s : Dk} {g : Lg} {n : Nat} (h1 : Gd n s g) (h2 : g.age = s.age) (h3 : g.recs = []) : Rs.Good n ⟨s, g, [], 0⟩ := ⟨h1, h2, h3, Nat.le_refl _⟩
theorem rs0_good : rs0.Good 5000 := by unfold rs0; exact rs_good lvA_gd lvA_age lv_true.2.1
end Go.Proofs.Ytklodimokhndoaa
namespace Go.Proofs.Ytklodimokhndoaa
open Go.RowKit
theorem deed_by {N : List Nat} {w0 w : World} {d : WDe} {A1 : Option Addr} {c1 : Nat} {A2 : Option Addr} {c2 : Nat} {A3 : Option Addr} (h : WDeR [] w0 d A1 c1 A2 c2 A3) (hx : Ext w0 w) (hN : ∀ k ∈ N, w0.heap.size ≤ k) : BsM N w A1 d.by_ :=
  BsM.kept (SlM.old h.by_ fun k hk => .inr (hN k hk)) (.of_ext hx)
theorem cut_eq (n : Int) : wrap64 ((IntKind.u64.wrap n).tmod 20) = cutN n := by
  have e : IntKind.u64.wrap n = n % 18446744073709551616 := by
    simp only [IntKind.wrap, IntKind.bits, IntKind.signed]
    simp
  rw [e, Int.tmod_eq_emod_of_nonneg (by omega)]
  unfold cutN
  rw [IntWalk.wrap64_in _ ⟨by omega, by omega⟩]
theorem row7_at {w : World} {b t : Nat} {c0 c1 c2 c3 c4 c5 c6 : Value} (h : w.heap[b]? = some (.cells #[c0, c1, c2, c3, c4, c5, c6] t (0, 0))) : w.cell? ⟨b, 0, none⟩ = some c0 ∧ w.cell? ⟨b, 1, none⟩ = some c1 ∧ w.cell? ⟨b, 2, none⟩ = some c2 := by
  refine ⟨?_, ?_, ?_⟩ <;> simp [World.cell?, h]
set_option maxRecDepth 20000 in
set_option maxHeartbeats 4000000 in
theorem wstep_any {w0 w : World} {P n : Nat} {x : Rs} (h : RunM w0 w P x) (hg : x.Good n) (hn : n ≤ 90000) (d : WDe) (A1 : Option Addr) (c1 : Nat) (A2 : Option Addr) (c2 : Nat) (A3 : Option Addr) (c3 : Nat) (hd : WDeR [] w0 d A1 c1 A2 c2 A3) :
    Calls Try.prog 16 #[pt P, .agg (dec d A1 c1 A2 c2 A3 c3).toArray] w fun e w' => e = .returned (.bool true) ∧ RunM w0 w' P (stepR x d) := by
  obtain ⟨M, N, p, q, v, vs, hR0⟩ := h
  obtain ⟨s, g, all, sure⟩ := x
  have HB := Lib.hid (deed_by hd hR0.ex hR0.new)
  have hby : d.by_.length ≤ c1 ∧ c1 ≤ 9223372036854775807 ∧ d.by_.length ≤ 140737488351232 := ⟨hd.bc, hd.bm, hd.bl⟩
  have HG := Lib.hid hg
  obtain ⟨do_, dn, by_, recs, cr⟩ := d
  clear hd hg
  simp only [dec] at *
  obtain ⟨hby1, hby2, hby3⟩ := hby
  have hbox0 := heap_alloc_new w (.cells #[.int .i64 do_, .int .i64 dn, .slice A1 by_.length c1, .slice A2 recs.length c2, .slice A3 cr.keep.length c3, .int .i64 cr.torn, .int .i64 cr.at_] 49)
  have hxa := (Ext.refl w).alloc (.cells #[.int .i64 do_, .int .i64 dn, .slice A1 by_.length c1, .slice A2 recs.length c2, .slice A3 cr.keep.length c3, .int .i64 cr.torn, .int .i64 cr.at_] 49)
  obtain ⟨wa, hwa⟩ : ∃ wa, w.alloc (.cells #[.int .i64 do_, .int .i64 dn, .slice A1 by_.length c1, .slice A2 recs.length c2, .slice A3 cr.keep.length c3, .int .i64 cr.torn, .int .i64 cr.at_] 49) = wa := ⟨_, rfl⟩
  rw [hwa] at hxa hbox0
  have HWA := Lib.hid hwa
  have HR := Lib.hid (hR0.ext hxa)
  have HB := Lib.hid (BsM.kept HB.out (.of_ext hxa))
  have hbN : w.heap.size ∉ N := fun hm => Nat.lt_irrefl _ (hR0.lt _ hm)
  generalize hbe : w.heap.size = bx at *
  have HBE := Lib.hid hbe
  have HBX := Lib.hid hbox0
  clear hwa hR0 hxa hbox0 hbe
  obtain ⟨r0, r1, r2, r3, -⟩ := row4_at HR.out.row
  obtain ⟨b0, b1, b2⟩ := row7_at HBX.out
  unfold pt at *
  go_enter Try.func16, Try.ntmps16
  go_upto_region 1 with fail
  rw [HWA.out, HBE.out]
  by_cases h0 : do_ = 0
  · subst h0
    have C1 : ∀ V, Ext wa V → V.cell? ⟨P, 1, none⟩ = some (pt q) := fun V hx => hx.cell r1
    have C2 : ∀ V, Ext wa V → V.cell? ⟨bx, 2, none⟩ = some (.slice A1 by_.length c1) := fun V hx => hx.cell b2
    unfold pt at *
    go_wp2_with fail
    refine wp_region_phase (S := fun V => Ext wa V) 6 (by kernel_rfl) (by kernel_rfl) ?_ (fun hHeld => ?_)
    · exact (Ext.refl wa).drew
    simp only [List.drop_succ_cons, List.drop_zero]
    refine name_head ?_
    intro wr0 hw0
    rw [hw0] at hHeld
    refine wpHead_take (i := 0) (v := ?_) (by rfl) (by kernel_rfl) (by kernel_rfl) (by exact fun _ _ _ h => h) (Or.inl ⟨by rfl, ?_⟩) (by assumption) ?_
    rotate_left
    · intro w hSw
      first | (go_simp; done) | (go_simp; with_reducible rfl)
    simp only [List.getElem_toArray, List.getElem_cons_zero, Act.put, List.setIfInBounds_toArray, List.set_cons_zero, List.set_cons_succ]
    refine wpHead_take (i := 1) (v := ?_) (by rfl) (by kernel_rfl) (by kernel_rfl) (by exact fun _ _ _ h => h) (Or.inl ⟨by rfl, ?_⟩) (by assumption) ?_
    rotate_left
    · intro w hSw
      first | (go_simp; done) | (go_simp; with_reducible rfl)
    simp only [List.getElem_toArray, List.getElem_cons_succ, List.getElem_cons_zero, Act.put, List.setIfInBounds_toArray, List.set_cons_zero, List.set_cons_succ]
    refine wpHead_take (i := 2) (v := ?_) (by rfl) (by kernel_rfl) (by kernel_rfl) (by exact fun _ _ _ h => h) (Or.inl ⟨by rfl, ?_⟩) (by assumption) ?_
    rotate_left
    · intro w hSw
      first | (go_simp; done) | (go_simp; with_reducible rfl)
    simp only [List.getElem_toArray, List.getElem_cons_succ, List.getElem_cons_zero, Act.put, List.setIfInBounds_toArray, List.set_cons_zero, List.set_cons_succ]
    refine wpHead_take (i := 3) (v := ?_) (by rfl) (by kernel_rfl) (by kernel_rfl) (by exact fun _ _ _ h => h) (Or.inl ⟨by rfl, ?_⟩) (by assumption) ?_
    rotate_left
    · intro w hSw
      first | (go_simp; done) | (go_simp; with_reducible rfl)
    simp only [List.getElem_toArray, List.getElem_cons_succ, List.getElem_cons_zero, Act.put, List.setIfInBounds_toArray, List.set_cons_zero, List.set_cons_succ]
    refine wpHead_take (i := 4) (v := ?_) (by rfl) (by kernel_rfl) (by kernel_rfl) (by exact fun _ _ _ h => h) (Or.inl ⟨by rfl, ?_⟩) (by assumption) ?_
    rotate_left
    · intro w hSw
      first | (go_simp; done) | (go_simp; with_reducible rfl)
    simp only [List.getElem_toArray, List.getElem_cons_succ, List.getElem_cons_zero, Act.put, List.setIfInBounds_toArray, List.set_cons_zero, List.set_cons_succ]
    refine wpHead_take (i := 5) (v := ?_) (by rfl) (by kernel_rfl) (by kernel_rfl) (by exact fun _ _ _ h => h) (Or.inl ⟨by rfl, ?_⟩) (by assumption) ?_
    rotate_left
    · intro w hSw
      first | (go_simp; done) | (go_simp; with_reducible rfl)
    simp only [List.getElem_toArray, List.getElem_cons_succ, List.getElem_cons_zero, Act.put, List.setIfInBounds_toArray, List.set_cons_zero, List.set_cons_succ]
    refine wpHead_done (by kernel_rfl) ?_
    clear C1 C2 r0 r1 r2 r3 b0 b1 b2
    have HA := wappend_sys (HR.out.sys.ext hHeld) HG.out.gd (by omega) A1 c1 by_ (BsM.kept HB.out (.of_ext hHeld)) hby1
    have hcode := appendR_code HG.out.gd HG.out.age by_
    have HST : Hid (stepR ⟨s, g, all, sure⟩ ⟨0, dn, by_, recs, cr⟩ = ⟨(appendR s g by_).2.1, (appendR s g by_).2.2, if (appendR s g by_).1 = 0 then all ++ [by_] else all, sure⟩) := Lib.hid (if_pos rfl)
    simp only at hcode
    have HRV := HR.out.ext hHeld
    have HVN := Lib.hid HR.out.vN
    have hall : all.length ≤ 90000 := by have h1 := HG.out.all; have h2 := HG.out.gd.rl; simp only at h1 h2; rw [h1] at h2; omega
    have HBV := Lib.hid (hHeld.obj HBX.out)
    have HBY := Lib.hid (BsM.kept HB.out (.of_ext hHeld))
    clear HBX HB HWA HR hHeld
    generalize appendR s g by_ = ar at *
    obtain ⟨e3, s3, g3⟩ := ar
    simp only at *
    have HRV := Lib.hid HRV
    unfold pt at *
    go_wp2_with fail
    refine HA.mono ?_
    rintro e w2 ⟨rfl, ha2⟩
    clear HA
    obtain ⟨M2, N2, hR2⟩ := RunI.aft HRV.out ha2
    obtain ⟨M', N', -, hT, -, hNN⟩ := ha2
    have hB2 := hT.kept.heap HBV.out (fun hm => hbN (HRV.out.sys.MN _ hm))
    have HB3 := Lib.hid (BsM.kept HBY.out (hT.kept.mono HRV.out.sys.MN))
    clear HBY HBV hT hNN HRV
    have HR2 := Lib.hid hR2
    have HB2 := Lib.hid hB2
    obtain ⟨b0, b1, b2⟩ := row7_at hB2
    obtain ⟨r0, r1, r2, r3, -⟩ := row4_at hR2.row
    clear hR2 hB2
    by_cases he : e3 = 0
    · subst he
      simp only [if_true] at HST
      obtain ⟨Av, cv, rfl⟩ := own_form HR2.out.own
      have hPR : P ∉ (Value.slice Av all.length cv).ownBlock.toList := fun hm => by
        have hm : (Value.slice Av all.length cv).ownBlock = some P := by simpa using hm
        rcases owns_obj HR2.out.own HR2.out.row (by decide) with e | e
        · rw [e] at hm; cases hm
        · exact e hm
      have hbR : bx ∉ (Value.slice Av all.length cv).ownBlock.toList := fun hm => by
        have hm : (Value.slice Av all.length cv).ownBlock = some bx := by simpa using hm
        rcases owns_obj HR2.out.own HB2.out (by decide) with e | e
        · rw [e] at hm; cases hm
        · exact e hm
      have HRN : Hid (∀ k ∈ (Value.slice Av all.length cv).ownBlock.toList, k ∈ N) := Lib.hid fun k hk => HVN.out k (by simpa using hk)
      generalize hR : (Value.slice Av all.length cv).ownBlock.toList = R at *
      have HRR := Lib.hid hR
      have C2 : ∀ V, Kept R w2 V → V.cell? ⟨P, 2, none⟩ = some (.slice Av all.length cv) := fun V hx => (row4_at (hx.heap HR2.out.row hPR)).2.2.1
      have F2 : ∀ V, Kept R w2 V → V.frozen? ⟨P, 2, none⟩ = false := fun V hx => (row4_at (hx.heap HR2.out.row hPR)).2.2.2.2 2
      have D2 : ∀ V, Kept R w2 V → V.cell? ⟨bx, 2, none⟩ = some (.slice A1 by_.length c1) := fun V hx => (row7_at (hx.heap HB2.out hbR)).2.2
      clear hR r0 r1 r2 r3 b0 b1 b2 hPR hbR HVN
      unfold pt at *
      go_wp2_with fail
      refine wp_region_phase (S := fun V => Kept R w2 V) 11 (by kernel_rfl) (by kernel_rfl) ?_ (fun hHeld => ?_)
      · exact Kept.of_ext (Ext.refl w2).drew
      simp only [List.drop_succ_cons, List.drop_zero]
      refine name_head ?_
      intro wr0 hw0
      rw [hw0] at hHeld
      have ho : wr0.ownsRow 0 46 1 (.slice Av all.length cv) all.length vs := hw0 ▸ HR2.out.own
      refine wpHead_take (i := 0) (v := ?_) (by rfl) (by kernel_rfl) (by kernel_rfl) (by exact fun _ _ _ h => h) (Or.inl ⟨by rfl, ?_⟩) (by assumption) ?_
      rotate_left
      · intro w hSw
        first | (go_simp; done) | (go_simp; with_reducible rfl)
      simp only [List.getElem_toArray, List.getElem_cons_zero, Act.put, List.setIfInBounds_toArray, List.set_cons_zero, List.set_cons_succ]
      refine wpHead_take (i := 1) (v := ?_) (by rfl) (by kernel_rfl) (by kernel_rfl) (by exact fun _ _ _ h => h) (Or.inl ⟨by rfl, ?_⟩) (by assumption) ?_
      rotate_left
      · intro w hSw
        first | (go_simp; done) | (go_simp; with_reducible rfl)
      simp only [List.getElem_toArray, List.getElem_cons_succ, List.getElem_cons_zero, Act.put, List.setIfInBounds_toArray, List.set_cons_zero, List.set_cons_succ]
      refine wpHead_take (i := 2) (v := ?_) (by rfl) (by kernel_rfl) (by kernel_rfl) (by exact fun _ _ _ h => h) (Or.inl ⟨by rfl, ?_⟩) (by assumption) ?_
      rotate_left
      · intro w hSw
        first | (go_simp; done) | (go_simp; with_reducible rfl)
      simp only [List.getElem_toArray, List.getElem_cons_succ, List.getElem_cons_zero, Act.put, List.setIfInBounds_toArray, List.set_cons_zero, List.set_cons_succ]
      refine wpHead_take (i := 3) (v := ?_) (by rfl) (by kernel_rfl) (by kernel_rfl) (by exact fun _ _ _ h => h) (Or.inl ⟨by rfl, ?_⟩) (by assumption) ?_
      rotate_left
      · intro w hSw
        first | (go_simp; done) | (go_simp; with_reducible rfl)
      simp only [List.getElem_toArray, List.getElem_cons_succ, List.getElem_cons_zero, Act.put, List.setIfInBounds_toArray, List.set_cons_zero, List.set_cons_succ]
      refine wpHead_take (i := 4) (v := ?_) (by rfl) (by kernel_rfl) (by kernel_rfl) (by exact fun _ _ _ h => h) (Or.inl ⟨by rfl, ?_⟩) (by assumption) ?_
      rotate_left
      · intro w hSw
        first | (go_simp; done) | (go_simp; with_reducible rfl)
      simp only [List.getElem_toArray, List.getElem_cons_succ, List.getElem_cons_zero, Act.put, List.setIfInBounds_toArray, List.set_cons_zero, List.set_cons_succ]
      refine wpHead_take (i := 6) (v := ?_) (by rfl) (by kernel_rfl) (by kernel_rfl) (by exact fun _ _ _ h => h) (Or.inl ⟨by rfl, ?_⟩) (by assumption) ?_
      rotate_left
      · intro w hSw
        first | (go_simp; done) | (go_simp; with_reducible rfl)
      simp only [List.getElem_toArray, List.getElem_cons_succ, List.getElem_cons_zero, Act.put, List.setIfInBounds_toArray, List.set_cons_zero, List.set_cons_succ]
      refine wpHead_take (i := 7) (v := ?_) (by rfl) (by kernel_rfl) (by kernel_rfl) (by exact fun _ _ _ h => h) (Or.inl ⟨by rfl, ?_⟩) (by assumption) ?_
      rotate_left
      · intro w hSw
        first | (go_simp; done) | (go_simp; with_reducible rfl)
      simp only [List.getElem_toArray, List.getElem_cons_succ, List.getElem_cons_zero, Act.put, List.setIfInBounds_toArray, List.set_cons_zero, List.set_cons_succ]
      refine wpHead_ready (rs := [5]) (by kernel_rfl) (by simp) (by kernel_rfl) ?_
      refine AllHead.cons (by rfl) (fun K hK => ?_) ?_
      · go_simp
        refine name_world ?_
        rintro wr5 hw5
        have hxn5 : Ext wr0 wr5 := hw5 ▸ (Ext.refl _).alloc _
        have hrow5 : wr5.heap[wr0.heap.size]? = some (.cells #[] 5) := hw5 ▸ heap_alloc_new wr0 _
        replace ho := owns_ext ho hxn5
        have hu0 : Own wr5 w2.heap.size (.slice (some ⟨wr0.heap.size, 0, none⟩) 0 0) [] := hw5 ▸ Own.empty wr0 w2.heap.size hHeld.size
        have hk5 := hHeld.ext hxn5
        refine hK.out _ _ ?_ (fun hHeld => ?_)
        · exact hk5
        clear hK K
        try simp only [List.getElem_toArray, List.getElem_cons_succ, List.getElem_cons_zero, Act.put, List.setIfInBounds_toArray, List.set_cons_zero, List.set_cons_succ]
        refine wpHead_ready (rs := [8]) (by kernel_rfl) (by simp) (by kernel_rfl) ?_
        refine AllHead.cons (by rfl) (fun K hK => ?_) ?_
        · refine step_apB bytesT hu0 (BsM.kept HB3.out (hHeld.mono HRN.out)).bs rfl rfl rfl rfl rfl (by simp; omega) hHeld.size ?_
          rintro v8 wr8 hu8 hg8 hor8
          simp only [List.nil_append] at hu8
          obtain ⟨Au, cu, rfl⟩ := hu8.form
          have hbu := hHeld.size
          replace ho := World.ownsRow.kept ho hg8 (owns_apart ho hu0 (by decide))
          have hk8 := hHeld.grown hg8 fun k hk => .inr (hu0.lt k hk).1
          clear hu0 hg8 hor8
          refine hK.out _ _ ?_ (fun hHeld => ?_)
          · exact hk8
          clear hK K
          try simp only [List.getElem_toArray, List.getElem_cons_succ, List.getElem_cons_zero, Act.put, List.setIfInBounds_toArray, List.set_cons_zero, List.set_cons_succ]
          refine wpHead_ready (rs := [9]) (by kernel_rfl) (by simp) (by kernel_rfl) ?_
          refine AllHead.cons (by rfl) (fun K hK => ?_) ?_
          · go_simp
            refine name_world ?_
            rintro wr9 hw9
            have hxn9 : Ext wr8 wr9 := hw9 ▸ (Ext.refl _).alloc _
            have hrow9 : wr9.heap[wr8.heap.size]? = some (.cells #[.slice Au by_.length cu] 46) := hw9 ▸ heap_alloc_new wr8 _
            replace ho := owns_ext ho hxn9
            replace hu8 := hu8.ext hxn9
            have hk9 := hHeld.ext hxn9
            refine hK.out _ _ ?_ (fun hHeld => ?_)
            · exact hk9
            clear hK K
            try simp only [List.getElem_toArray, List.getElem_cons_succ, List.getElem_cons_zero, Act.put, List.setIfInBounds_toArray, List.set_cons_zero, List.set_cons_succ]
            refine wpHead_ready (rs := [10]) (by kernel_rfl) (by simp) (by kernel_rfl) ?_
            refine AllHead.cons (by rfl) (fun K hK => ?_) ?_
            · refine step_ap bytessT ho (Sl.of_row (l := [.slice Au by_.length cu]) hrow9) rfl rfl rfl rfl rfl (by simp [Value.oneCell']) (by omega) (by omega) (Nat.zero_le _) ?_
              rintro v10 wr10 ho10 hg10 hor10
              have hk10 : Kept R w2 wr10 := hHeld.grown hg10 fun k hk => .inl (by rw [← HRR.out]; simp [hk])
              replace hu8 := hu8.kept hg10 (owns_apart hu8 ho (by decide))
              have hor11 : v10.ownBlock = (Value.slice Av all.length cv).ownBlock ∨ ∃ k, v10.ownBlock = some k ∧ w2.heap.size ≤ k := by
                rcases hor10 with e | e
                · exact .inl e
                · exact .inr ⟨_, e, hHeld.size⟩
              obtain ⟨A10, c10, rfl⟩ := own_form ho10
              refine hK.out _ _ ?_ (fun hHeld => ?_)
              · exact hk10
              clear hK K
              try simp only [List.getElem_toArray, List.getElem_cons_succ, List.getElem_cons_zero, Act.put, List.setIfInBounds_toArray, List.set_cons_zero, List.set_cons_succ]
              refine wpHead_done (by kernel_rfl) ?_
              have hkz : Kept (Value.slice Av all.length cv).ownBlock.toList w2 wr10 := by rw [HRR.out]; exact hk10
              have HP := Lib.hid (HR2.out.push hkz ho10 hor11 hu8 (Nat.le_refl _))
              have c78 := C2 wr10 hk10
              have f78 := F2 wr10 hk10
              clear hkz ho10 hor11 hu8 hbu hg10 hor10 ho hk10 hk9 hk8 hk5 hHeld C2 F2 D2
              go_wp2
              go_ret
              exact ⟨rfl, HST.out ▸ ⟨_, _, _, _, _, _, HP.out⟩⟩
            exact AllHead.nil
          exact AllHead.nil
        exact AllHead.nil
      exact AllHead.nil
    · have HV : Hid (stepR ⟨s, g, all, sure⟩ ⟨0, dn, by_, recs, cr⟩ = ⟨s3, g3, all, sure⟩) := Lib.hid (by rw [HST.out, if_neg he])
      clear HST
      unfold pt at *
      rcases hcode with rfl | rfl | rfl | ⟨rfl, h9⟩ | ⟨rfl, h9⟩
      · exact absurd rfl he
      · clear he
        go_wp2
        go_ret
        exact ⟨rfl, HV.out ▸ ⟨_, _, _, _, _, _, HR2.out⟩⟩
      · clear he
        go_wp2
        go_ret
        exact ⟨rfl, HV.out ▸ ⟨_, _, _, _, _, _, HR2.out⟩⟩
      · clear he
        have h8 : ((by_.length : Int) == 0) = true := by simp [h9]
        go_wp2
        go_ret
        exact ⟨rfl, HV.out ▸ ⟨_, _, _, _, _, _, HR2.out⟩⟩
      · clear he
        have h8 : (2000 : Int) < (by_.length : Int) := by omega
        go_wp2
        go_ret
        exact ⟨rfl, HV.out ▸ ⟨_, _, _, _, _, _, HR2.out⟩⟩
  · have z0 : (do_ == 0) = false := by simpa using h0
    by_cases h1 : do_ = 1
    · subst h1
      have HST : Hid (stepR ⟨s, g, all, sure⟩ ⟨1, dn, by_, recs, cr⟩ = ⟨forceS s g, g, all, if forceE s g = 0 then all.length else sure⟩) := Lib.hid rfl
      have HF := wforce_sys HR.out.sys HG.out.gd.ok HG.out.gd.few (by omega)
      unfold pt at HF
      go_wp2_with fail
      refine HF.mono ?_
      rintro e w2 ⟨rfl, ha2⟩
      clear HF r0 r1 r2 r3 b0 b1 b2 HBX HB
      obtain ⟨M2, N2, hR2⟩ := RunI.aft HR.out ha2
      have HR2 := Lib.hid hR2
      obtain ⟨r0, r1, r2, r3, rf⟩ := row4_at hR2.row
      have rf3 := rf 3
      clear ha2 hR2 HR rf
      obtain ⟨Av, cv, rfl⟩ := own_form HR2.out.own
      unfold pt at *
      generalize forceE s g = fe at *
      by_cases he : fe = 0
      · subst he
        simp only [if_true] at HST
        have HS := Lib.hid (HR2.out.set all.length)
        go_wp2
        go_ret
        exact ⟨rfl, HST.out ▸ ⟨_, _, _, _, _, _, HS.out⟩⟩
      · have hz : (fe == 0) = false := by simpa using he
        have HV : Hid (stepR ⟨s, g, all, sure⟩ ⟨1, dn, by_, recs, cr⟩ = ⟨forceS s g, g, all, sure⟩) := Lib.hid (by rw [HST.out, if_neg he])
        go_wp2
        go_ret
        exact ⟨rfl, HV.out ▸ ⟨_, _, _, _, _, _, HR2.out⟩⟩
    · have z1 : (do_ == 1) = false := by simpa using h1
      by_cases h3 : do_ = 3
      · subst h3
        have HST : Hid (stepR ⟨s, g, all, sure⟩ ⟨3, dn, by_, recs, cr⟩ = ⟨cutS s (cutN dn), g, all, sure⟩) := Lib.hid rfl
        have HF := fun V (hx : Ext wa V) => wcut_sys (HR.out.sys.ext hx) HG.out.gd.ok (cutN dn)
        rw [← show wrap64 ((IntKind.u64.wrap dn).tmod 20) = cutN dn from cut_eq dn] at HF
        unfold pt at HF
        have C0 : ∀ V, Ext wa V → V.cell? ⟨P, 0, none⟩ = some (pt p) := fun V hx => hx.cell r0
        have B1 : ∀ V, Ext wa V → V.cell? ⟨bx, 1, none⟩ = some (.int .i64 dn) := fun V hx => hx.cell b1
        unfold pt at *
        go_wp2_with fail
        refine wp_region_phase (S := fun V => Ext wa V) 9 (by kernel_rfl) (by kernel_rfl) ?_ (fun hHeld => ?_)
        · exact (Ext.refl wa).drew
        simp only [List.drop_succ_cons, List.drop_zero]
        refine name_head ?_
        intro wr0 hw0
        rw [hw0] at hHeld
        refine wpHead_take (i := 0) (v := ?_) (by rfl) (by kernel_rfl) (by kernel_rfl) (by exact fun _ _ _ h => h) (Or.inl ⟨by rfl, ?_⟩) (by assumption) ?_
        rotate_left
        · intro w hSw
          first | (go_simp; done) | (go_simp; with_reducible rfl)
        simp only [List.getElem_toArray, List.getElem_cons_zero, Act.put, List.setIfInBounds_toArray, List.set_cons_zero, List.set_cons_succ]
        refine wpHead_take (i := 1) (v := ?_) (by rfl) (by kernel_rfl) (by kernel_rfl) (by exact fun _ _ _ h => h) (Or.inl ⟨by rfl, ?_⟩) (by assumption) ?_
        rotate_left
        · intro w hSw
          first | (go_simp; done) | (go_simp; with_reducible rfl)
        simp only [List.getElem_toArray, List.getElem_cons_succ, List.getElem_cons_zero, Act.put, List.setIfInBounds_toArray, List.set_cons_zero, List.set_cons_succ]
        refine wpHead_take (i := 2) (v := ?_) (by rfl) (by kernel_rfl) (by kernel_rfl) (by exact fun _ _ _ h => h) (Or.inl ⟨by rfl, ?_⟩) (by assumption) ?_
        rotate_left
        · intro w hSw
          first | (go_simp; done) | (go_simp; with_reducible rfl)
        simp only [List.getElem_toArray, List.getElem_cons_succ, List.getElem_cons_zero, Act.put, List.setIfInBounds_toArray, List.set_cons_zero, List.set_cons_succ]
        refine wpHead_take (i := 3) (v := ?_) (by rfl) (by kernel_rfl) (by kernel_rfl) (by exact fun _ _ _ h => h) (Or.inl ⟨by rfl, ?_⟩) (by assumption) ?_
        rotate_left
        · intro w hSw
          first | (go_simp; done) | (go_simp; with_reducible rfl)
        simp only [List.getElem_toArray, List.getElem_cons_succ, List.getElem_cons_zero, Act.put, List.setIfInBounds_toArray, List.set_cons_zero, List.set_cons_succ]
        refine wpHead_take (i := 4) (v := ?_) (by rfl) (by kernel_rfl) (by kernel_rfl) (by exact fun _ _ _ h => h) (Or.inl ⟨by rfl, ?_⟩) (by assumption) ?_
        rotate_left
        · intro w hSw
          first | (go_simp; done) | (go_simp; with_reducible rfl)
        simp only [List.getElem_toArray, List.getElem_cons_succ, List.getElem_cons_zero, Act.put, List.setIfInBounds_toArray, List.set_cons_zero, List.set_cons_succ]
        refine wpHead_take (i := 5) (v := ?_) (by rfl) (by kernel_rfl) (by kernel_rfl) (by exact fun _ _ _ h => h) (Or.inl ⟨by rfl, ?_⟩) (by assumption) ?_
        rotate_left
        · intro w hSw
          first | (go_simp; done) | (go_simp; with_reducible rfl)
        simp only [List.getElem_toArray, List.getElem_cons_succ, List.getElem_cons_zero, Act.put, List.setIfInBounds_toArray, List.set_cons_zero, List.set_cons_succ]
        refine wpHead_take (i := 6) (v := ?_) (by rfl) (by kernel_rfl) (by kernel_rfl) (by exact fun _ _ _ h => h) (Or.inl ⟨by rfl, ?_⟩) (by assumption) ?_
        rotate_left
        · intro w hSw
          first | (go_simp; done) | (go_simp; with_reducible rfl)
        simp only [List.getElem_toArray, List.getElem_cons_succ, List.getElem_cons_zero, Act.put, List.setIfInBounds_toArray, List.set_cons_zero, List.set_cons_succ]
        refine wpHead_take (i := 7) (v := ?_) (by rfl) (by kernel_rfl) (by kernel_rfl) (by exact fun _ _ _ h => h) (Or.inl ⟨by rfl, ?_⟩) (by assumption) ?_
        rotate_left
        · intro w hSw
          first | (go_simp; done) | (go_simp; with_reducible rfl)
        simp only [List.getElem_toArray, List.getElem_cons_succ, List.getElem_cons_zero, Act.put, List.setIfInBounds_toArray, List.set_cons_zero, List.set_cons_succ]
        refine wpHead_take (i := 8) (v := ?_) (by rfl) (by kernel_rfl) (by kernel_rfl) (by exact fun _ _ _ h => h) (Or.inl ⟨by rfl, ?_⟩) (by assumption) ?_
        rotate_left
        · intro w hSw
          first | (go_simp; done) | (go_simp; with_reducible rfl)
        simp only [List.getElem_toArray, List.getElem_cons_succ, List.getElem_cons_zero, Act.put, List.setIfInBounds_toArray, List.set_cons_zero, List.set_cons_succ]
        refine wpHead_done (by kernel_rfl) ?_
        have HF := HF _ hHeld
        go_wp2_with fail
        refine HF.mono ?_
        rintro e w2 ⟨rfl, ha2⟩
        obtain ⟨M2, N2, hR2⟩ := RunI.aft (HR.out.ext hHeld) ha2
        rw [show wrap64 ((IntKind.u64.wrap dn).tmod 20) = cutN dn from cut_eq dn] at hR2
        have HR2 := Lib.hid hR2
        clear hR2 ha2 HF hHeld C0 B1 r0 r1 r2 r3 b0 b1 b2 HR
        go_wp2
        go_ret
        exact ⟨rfl, HST.out ▸ ⟨_, _, _, _, _, _, HR2.out⟩⟩
      · have z3 : (do_ == 3) = false := by simpa using h3
        have HST : Hid (stepR ⟨s, g, all, sure⟩ ⟨do_, dn, by_, recs, cr⟩ = ⟨s, g, all, sure⟩) := Lib.hid (by unfold stepR; rw [if_neg h0, if_neg h1, if_neg h3])
        go_wp2
        go_ret
        exact ⟨rfl, by rw [HST.out]; exact ⟨_, _, _, _, _, _, HR.out⟩⟩
end Go.Proofs.Ytklodimokhndoaa
