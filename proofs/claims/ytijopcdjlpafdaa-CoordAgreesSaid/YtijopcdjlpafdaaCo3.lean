/- The walks of slices.DeleteFunc and slices.Delete at transactions, on a row of the call's own. Conditions: the hypotheses of each theorem. -/
import Derived.Test.YtijopcdjlpafdaaCo2
namespace Go.Proofs.Ytijopcdjlpafdaa
open Go.RowKit
section
variable {P : Program}
theorem run_storeVar_at (w : World) (g o : Nat) (ty t : TypeId) (cs : List Value) (cur : Array Value) (hg : w.heap[g]? = some (.cells cur t (0, 0))) (hl : o + cs.length ≤ cur.size)
    (hi : (P.info? ty).map (·.size) = some cs.length) (h1 : ∀ v ∈ cs, v.oneCell' = true) :
    (storeVar ty ⟨g, o, none⟩ (.agg cs.toArray)).run P w = .ok () (w.setRow g (cur.toList.take o ++ cs ++ cur.toList.drop (o + cs.length)).toArray) := by
  have := run_storeCells_at P g o t cs 0 cur w hg (by omega) h1
  cases hq : P.info? ty with
  | none => simp [hq] at hi
  | some i =>
    have hs : cs.length = i.size := by simp [hq] at hi; omega
    simp only [Nat.add_zero] at this
    simp [storeVar, sizeOf, typeInfo, hq, Value.cells, ← hs, this]
theorem wpList_store_at {ops : Array Oper} {rest : List Oper} {op : Oper} {a : Act} {w : World} {Q : Exit → Act → World → Prop} (hgd : op.guard = none) (ty : TypeId) (x y : Operand) (ho : op.op = .store ty x y)
    {g o t : Nat} {ad : Addr} {cs : List Value} {cur : Array Value} (had : ad = ⟨g, o, none⟩) (hx : a.eval x = .pointer (some ad)) (hy : a.eval y = .agg cs.toArray) (hg : w.heap[g]? = some (.cells cur t (0, 0))) (hl : o + cs.length ≤ cur.size)
    (hi : (P.info? ty).map (·.size) = some cs.length) (h1 : ∀ v ∈ cs, v.oneCell' = true)
    (h : ∀ W, W.heap[g]? = some (.cells (cur.toList.take o ++ cs ++ cur.toList.drop (o + cs.length)).toArray t (0, 0)) → Kept [g] w W → W.heap.size = w.heap.size → wpList P ops Q rest (a.put op.dst undef) W) : wpList P ops Q (op :: rest) a w := by
  subst had
  refine wpList_plain hgd fun K hK => ?_
  unfold Oper.wp execOp
  simp only [ho, hx, hy, Instr.storeAt, Instr.sureAddr, Sem.run_bind, Sem.run_pure, Result.andThen_ok, run_storeVar_at w g o ty t cs cur hg hl hi h1]
  exact hK _ _ (h _ (setRow_heap w g _ _ t _ hg) ⟨rfl, rfl, rfl, by simp [World.setRow], fun k _ hk => setRow_other w g k _ (by simpa using hk)⟩ (by simp [World.setRow]))
/-- clear(s[n:n+m]) -/
theorem run_clear_many {t e size bytes : Nat} (T : ElemOf P t e size bytes) {z : Value} (hz : ∀ w, (zeroValue e).run P w = .ok z w) (hzs : z.cells.size = size) (hz1 : ∀ u ∈ z.cells.toList, u.oneCell' = true) {w : World} {g n m cap : Nat} {cur : Array Value}
    (hg : w.heap[g]? = some (.cells cur e (0, 0))) (hm : 0 < m) (hn : n + m ≤ cap) (hc : cur.size = cap * size) (ty c : Nat) (ad : Addr) (had : ad = ⟨g, n * size, none⟩) :
    ∃ X : List Value, X.length = m * size ∧ (Builtin.clear_ #[t] ty #[.slice (some ad) m c]).run P w = .ok (.tuple #[]) (w.setRow g (cur.toList.take (n * size) ++ X ++ cur.toList.drop (n * size + m * size)).toArray) := by
  subst had
  have hl : (Builtin.zeroCells z.cells m).toList.length = m * size := by rw [Array.length_toList, size_zeroCells, hzs]
  have h1 : ∀ u ∈ (Builtin.zeroCells z.cells m).toList, u.oneCell' = true := by
    intro u hu
    simp only [Builtin.zeroCells] at hu
    simp at hu
    obtain ⟨i, hi, rfl⟩ := hu
    have hpos : 0 < z.cells.size := Nat.pos_of_ne_zero fun e => by rw [e, Nat.mul_zero] at hi; omega
    rw [getElem!_pos z.cells _ (Nat.mod_lt _ hpos)]
    exact hz1 _ (by simp)
  have hle : n * size + m * size ≤ cap * size := by rw [← Nat.add_mul]; exact Nat.mul_le_mul_right _ hn
  have hst := run_storeCells_at P g (n * size) e (Builtin.zeroCells z.cells m).toList 0 cur w hg (by rw [hl, hc]; omega) h1
  simp only [Nat.add_zero, hl] at hst
  refine ⟨_, hl, ?_⟩
  obtain ⟨k, rfl⟩ : ∃ k, m = k + 1 := ⟨m - 1, by omega⟩
  simp [Builtin.clear_, run_underlying T.ht, hz, hst]
end
theorem zTx_one : ∀ u ∈ (Value.agg zTx).cells.toList, u.oneCell' = true := by
  intro u hu
  simp [Value.cells, zTx] at hu
  rcases hu with rfl | rfl | rfl <;> rfl
theorem RTr.cs13 {M : List Nat} {w : World} {cs : List Value} {x : Tr} (h : RTr.says M w cs x) : cs.length = 13 ∧ ∀ u ∈ cs, u.oneCell' = true := by
  obtain ⟨A, c, rfl, _⟩ := h
  exact ⟨rfl, trC_one _ _ _ _⟩
/-- what lies in the row while it is sifted: i that stay, then the old ones from j on -/
structure Sift (M : List Nat) (w0 : World) (css : List (List Value)) (ys : List Tr) (cap i j n : Nat) (cur : Array Value) : Prop where
  size : cur.size = cap * 13
  stay : ∃ ks : List (List Value), ks.length = i ∧ (∀ cs ∈ ks, cs.length = 13) ∧ cur.toList.take (i * 13) = ks.flatten ∧ ys.length = i ∧ ∀ (k : Nat) (cs : List Value) (x : Tr), ks[k]? = some cs → ys[k]? = some x → RTr.says M w0 cs x
  old : (cur.toList.drop (j * 13)).take ((n - j) * 13) = (css.drop j).flatten
theorem Sift.skip {M : List Nat} {w0 : World} {css : List (List Value)} {ys : List Tr} {cap i j n : Nat} {cur : Array Value} (h : Sift M w0 css ys cap i j n cur) (hj : j < n) (hl : css.length = n) (h2 : ∀ cs ∈ css, cs.length = 13) : Sift M w0 css ys cap i (j + 1) n cur := by
  refine ⟨h.size, h.stay, ?_⟩
  have := congrArg (List.drop 13) h.old
  rw [List.drop_take, List.drop_drop] at this
  rw [show (j + 1) * 13 = j * 13 + 13 by omega, show (n - (j + 1)) * 13 = (n - j) * 13 - 13 by omega, this]
  rw [List.drop_eq_getElem_cons (show j < css.length by omega), List.flatten_cons, List.drop_left' (h2 _ (List.getElem_mem _))]
theorem Sift.put {M : List Nat} {w0 : World} {css : List (List Value)} {ys : List Tr} {cap i j n : Nat} {cur : Array Value} (h : Sift M w0 css ys cap i j n cur) (hij : i ≤ j) (hj : j < n) (hn : n ≤ cap) (hl : css.length = n) (h2 : ∀ cs ∈ css, cs.length = 13) {x : Tr} {cs : List Value} (hs : RTr.says M w0 cs x) :
    Sift M w0 css (ys ++ [x]) cap (i + 1) (j + 1) n (cur.toList.take (i * 13) ++ cs ++ cur.toList.drop (i * 13 + cs.length)).toArray := by
  obtain ⟨hc, _⟩ := RTr.cs13 hs
  have hsz := h.size
  obtain ⟨ks, k1, k2, k3, k4, k5⟩ := h.stay
  have ht : (cur.toList.take (i * 13)).length = i * 13 := by rw [List.length_take, Array.length_toList]; omega
  refine ⟨by simp [hsz, hc]; omega, ⟨ks ++ [cs], by simp [k1], ?_, ?_, by simp [k4], ?_⟩, ?_⟩
  · intro d hd
    rcases List.mem_append.1 hd with h | h
    · exact k2 d h
    · simp at h; subst h; exact hc
  · simp only []
    rw [List.take_left' (by rw [List.length_append, ht, hc]; omega), k3]
    simp
  · intro k d z hk hz
    rw [List.getElem?_append] at hk hz
    by_cases hlt : k < ks.length
    · rw [if_pos hlt] at hk
      rw [if_pos (by omega)] at hz
      exact k5 k d z hk hz
    · rw [if_neg hlt] at hk
      rw [if_neg (by omega)] at hz
      have hk0 : k - ks.length = 0 := by
        rcases Nat.eq_zero_or_pos (k - ks.length) with h | h
        · exact h
        · rw [List.getElem?_eq_none (by simp; omega)] at hk; cases hk
      rw [hk0] at hk
      rw [show k - ys.length = 0 by omega] at hz
      simp at hk hz
      subst hk hz
      exact hs
  · rw [← (h.skip hj hl h2).old]
    congr 1
    simp only []
    have hA : (cur.toList.take (i * 13) ++ cs).length = i * 13 + 13 := by rw [List.length_append, ht, hc]
    rw [List.drop_append, List.drop_of_length_le (by rw [hA]; omega), List.nil_append, hA, List.drop_drop]
    congr 1
    omega
theorem Sift.own {M : List Nat} {w0 w : World} {css : List (List Value)} {ys : List Tr} {base g cap i j n : Nat} {cur : Array Value} (h : Sift M w0 css ys cap i j n cur) (X : List Value) (hX : X.length = (n - i) * 13) (hin : i ≤ n) (hn : n ≤ cap) (hcap : cap ≤ maxLen) (hb : base ≤ g)
    (hg : w.heap[g]? = some (.cells (cur.toList.take (i * 13) ++ X ++ cur.toList.drop (i * 13 + (n - i) * 13)).toArray 85 (0, 0))) : OwnR RTr 13 85 M w0 w base (.slice (some ⟨g, 0, none⟩) i cap) ys := by
  obtain ⟨ks, k1, k2, k3, k4, k5⟩ := h.stay
  have hsz := h.size
  have ht : (cur.toList.take (i * 13)).length = i * 13 := by rw [List.length_take, Array.length_toList]; omega
  refine ⟨ks, by omega, k2, ⟨by rw [flatten_length k2]; omega, .inr ⟨g, cap, _, by rw [k4], hb, hg, by omega, hcap, ?_, ?_⟩⟩, k5⟩
  · simp
    omega
  · simp only []
    rw [List.append_assoc, List.take_left' (by rw [ht]; omega), k3]
theorem Sift.cell {M : List Nat} {w0 w : World} {css : List (List Value)} {ys : List Tr} {g cap i j n : Nat} {cur : Array Value} (h : Sift M w0 css ys cap i j n cur) (hj : j < n) (hl : css.length = n) (h2 : ∀ cs ∈ css, cs.length = 13)
    (hg : w.heap[g]? = some (.cells cur 85 (0, 0))) : ∀ q v, (css[j]'(by omega))[q]? = some v → w.cell? ((⟨g, j * 13, none⟩ : Addr).add q) = some v := by
  intro q v hq
  have hq13 : q < 13 := by rw [← h2 _ (List.getElem_mem (show j < css.length by omega))]; exact (List.getElem?_eq_some_iff.1 hq).1
  have e := congrArg (fun l => l[q]?) h.old
  rw [List.getElem?_take_of_lt (by omega), List.getElem?_drop, List.drop_eq_getElem_cons (show j < css.length by omega), List.flatten_cons, List.getElem?_append_left (by rw [h2 _ (List.getElem_mem _)]; exact hq13), hq] at e
  rw [Addr.add_mid, cell_of_row _ _ _ cur 85 _ hg]
  simpa using e
theorem take_filter_hit {xs : List Tr} {p : Tr → Bool} {j : Nat} (hj : j < xs.length) (h : p xs[j] = true) : (xs.take (j + 1)).filter (fun t => !p t) = (xs.take j).filter fun t => !p t := by
  rw [List.take_succ_eq_append_getElem hj, List.filter_append]
  simp [h]
theorem take_filter_miss {xs : List Tr} {p : Tr → Bool} {j : Nat} (hj : j < xs.length) (h : p xs[j] = false) : (xs.take (j + 1)).filter (fun t => !p t) = ((xs.take j).filter fun t => !p t) ++ [xs[j]] := by
  rw [List.take_succ_eq_append_getElem hj, List.filter_append]
  simp [h]
theorem add0 (g k : Nat) : (⟨g, 0, none⟩ : Addr).add k = ⟨g, k, none⟩ := by unfold Addr.add; split <;> simp_all
set_option maxRecDepth 20000 in
set_option maxHeartbeats 2000000 in
theorem tdelf_any (f : Nat) (lb : Array Value) (eg : ∀ args w, (callFunc f args).run Try.prog w = .ok (.enter f args) w) (p : Tr → Bool) (M : List Nat) (base : Nat) (v : Value) (xs : List Tr) (w0 w : World) (h : OwnR RTr 13 85 M w0 w base v xs) (hx : Ext w0 w) (hb : w0.heap.size ≤ base) (hM : ∀ k ∈ M, k < w0.heap.size)
    (hp : TellsT f lb p M w0) (hn : xs.length ≤ 1000) :
    Calls Try.prog 52 #[v, .func (.func f) #[] lb] w fun e w' => ∃ v', e = .returned v' ∧ OwnR RTr 13 85 M w0 w' base v' (xs.filter fun t => !p t) ∧ Ext w0 w' := by
  have HOWN := Lib.hid h
  obtain ⟨A, cap, rfl⟩ := h.form
  have HT := tindex_any f lb eg p M A cap xs w (h.rsm (.of_ext hx) fun k hk => Nat.lt_of_lt_of_le (hM k hk) hb) (hp.ext hx) (by omega)
  have HP := Lib.hid hp
  have HX := Lib.hid hx
  obtain ⟨css, h1, h2, h3, h4⟩ := h
  have H2 := Lib.hid h2
  have H4 := Lib.hid h4
  cases hf : xs.findIdx? p with
  | none =>
    rw [hf] at HT
    have HF : Hid (xs.filter (fun t => !p t) = xs) := Lib.hid (List.filter_eq_self.2 fun x hx => by simpa using List.findIdx?_eq_none_iff.1 hf x hx)
    have hm : idI none = -1 := rfl
    rw [hm] at HT
    clear h2 h3 h4 hp hf hm hx
    go_enter Try.func52, Try.ntmps52
    go_wp2_with fail
    refine HT.mono ?_
    rintro e w1 ⟨rfl, hx1⟩
    go_wp2
    go_ret
    exact ⟨_, rfl, by rw [HF.out]; exact HOWN.out.ext hx1, HX.out.trans hx1⟩
  | some i0 =>
    rw [hf] at HT
    have hm : idI (some i0) = (i0 : Int) := rfl
    rw [hm] at HT
    obtain ⟨hi0, hpi, hbef⟩ := List.findIdx?_eq_some_iff_getElem.1 hf
    have hne : ((i0 : Int) == -1) = false := beq_eq_false_iff_ne.2 (by omega)
    rcases h3.2 with ⟨_, h0⟩ | ⟨g, cap', cur0, e1, hbg, hg, hnc, hcm, hsz, htk⟩
    · exact absurd h0 (by omega)
    injection e1 with e1 e2 e3
    subst e1 e3
    have HS0 : Hid (Sift M w0 css ((xs.take (i0 + 1)).filter fun t => !p t) cap i0 (i0 + 1) xs.length cur0) := Lib.hid (by
      have e : (xs.take (i0 + 1)).filter (fun t => !p t) = xs.take i0 := by
        rw [take_filter_hit hi0 hpi]
        refine List.filter_eq_self.2 fun x hx => ?_
        obtain ⟨j, hj, rfl⟩ := List.mem_iff_getElem.1 hx
        rw [List.length_take] at hj
        rw [List.getElem_take]
        have := hbef j (by omega)
        simpa using this
      rw [e]
      refine ⟨hsz, ⟨css.take i0, by rw [List.length_take]; omega, fun cs hcs => h2 cs (List.mem_of_mem_take hcs), ?_, by rw [List.length_take]; omega, fun k cs x hk hx => h4 k cs x (by rw [List.getElem?_take] at hk; split at hk; exact hk; cases hk) (by rw [List.getElem?_take] at hx; split at hx; exact hx; cases hx)⟩, ?_⟩
      · rw [← flatten_take h2, ← htk, List.take_take]
        congr 1
        omega
      · rw [← flatten_drop h2, ← htk, List.drop_take]
        congr 1
        omega)
    have HB := Lib.hid hb
    have HBG := Lib.hid hbg
    have HCM := Lib.hid hcm
    have HG := Lib.hid hg
    have HMB := Lib.hid hM
    have HHB : Hid (base ≤ g) := Lib.hid hbg
    have h1' : css.length = xs.length := h1
    clear h2 h3 h4 hp hf hm hx hbef hpi htk hsz hb hbg hcm hg hM
    go_enter Try.func52, Try.ntmps52
    go_wp2_with fail
    refine HT.mono ?_
    rintro e w1 ⟨rfl, hx1⟩
    have HG1 := Lib.hid (hx1.obj HG.out)
    have HX1 := Lib.hid (HX.out.trans hx1)
    clear hx1 HT HG HX HOWN
    go_wp2
    go_loopw [5, 6] (fun a b wr => ∃ (i j : Nat) (cur : Array Value), a = .int .i64 i ∧ b = .int .i64 j ∧ i < j ∧ j ≤ xs.length ∧ Hid (wr.heap[g]? = some (.cells cur 85 (0, 0))) ∧ Hid (Sift M w0 css ((xs.take j).filter fun t => !p t) cap i j xs.length cur) ∧ Hid (Ext w0 wr)) (fun _ b _ => xs.length - (intOf b).toNat)
    case atStart => exact ⟨i0, i0 + 1, cur0, rfl, rfl, by omega, by omega, HG1, HS0, HX1⟩
    case round =>
      obtain ⟨i, j, cur, rfl, rfl, hij, hj, HGR, HSI, HXR⟩ := hrel
      clear HG1 HS0 HX1
      by_cases hlt : j < xs.length
      · have hlt2 : (j : Int) < (xs.length : Int) := by omega
        have HSY : Hid (RTr.says M w0 (css[j]'(by omega)) xs[j]) := Lib.hid (H4.out j _ _ (List.getElem?_eq_getElem (by omega)) (List.getElem?_eq_getElem hlt))
        have HCE := Lib.hid (HSI.out.cell hlt h1' H2.out HGR.out)
        have HSK := Lib.hid (HSI.out.skip hlt h1' H2.out)
        have HPU := Lib.hid (HSI.out.put (by omega) hlt hnc h1' H2.out HSY.out)
        obtain ⟨hc13, hone⟩ := RTr.cs13 HSY.out
        have HONE := Lib.hid hone
        have HSZ := Lib.hid HSI.out.size
        have HIT := fun h => Lib.hid (take_filter_hit (p := p) hlt h)
        have MISS := fun h => Lib.hid (take_filter_miss (p := p) hlt h)
        generalize css[j]'(by omega) = cs at *
        clear hone
        obtain ⟨wo, rfl⟩ : ∃ x, x = wr := ⟨wr, rfl⟩
        go_wp2_with (first | (with_reducible refine stop_load 85 ?_) | (with_reducible refine stop_alloc 85 ?_) | (with_reducible refine stop_store 85 ?_))
        refine go_on (wpList_load_elem rfl 85 _ rfl ⟨g, j * 13, none⟩ rfl cs _ HCE.out Try.underlying85 rfl (tx_size hc13) ?_)
        go_wp2_with (first | (with_reducible refine stop_load 85 ?_) | (with_reducible refine stop_alloc 85 ?_) | (with_reducible refine stop_store 85 ?_))
        refine go_on (wpList_alloc_ rfl rfl tx_info ?_)
        go_wp2_with (first | (with_reducible refine stop_load 85 ?_) | (with_reducible refine stop_alloc 85 ?_) | (with_reducible refine stop_store 85 ?_))
        refine go_on (wpList_store_last rfl rfl rfl rfl (by simpa using tx_size hc13) (by simp [zTx, hc13]) (all_oneCell_toArray HONE.out) ?_)
        intro W hW hxW hszW
        have hx2 := HXR.out.trans hxW
        have HGW := Lib.hid (hxW.obj HGR.out)
        have HW := Lib.hid hW
        have hcall := HP.out W xs[j] cs hx2 (RTr.kept HSY.out (.of_ext hx2))
        have HX2 := Lib.hid hx2
        clear hW hxW hszW hx2
        cases hq : p xs[j] with
        | true =>
          rw [hq] at hcall
          have HIT := HIT hq
          clear hq MISS
          go_wp2_with (first | (with_reducible refine stop_load 85 ?_) | (with_reducible refine stop_alloc 85 ?_) | (with_reducible refine stop_store 85 ?_))
          refine go_on (wpList_load_row rfl 85 _ rfl wo.heap.size rfl 85 cs.toArray (0, 0) _ HW.out Try.underlying85 rfl (by simpa using tx_size hc13) ?_)
          go_wp2_with fail
          refine hcall.mono ?_
          rintro e w3 ⟨rfl, hx3⟩
          have HG3 := Lib.hid (hx3.obj HGW.out)
          have HX3 := Lib.hid (HX2.out.trans hx3)
          clear hx3
          go_wp2
          go_roundw
          case rel => exact ⟨i, j + 1, cur, rfl, by go_num, by omega, by omega, HG3, Lib.hid (by rw [HIT.out]; exact HSK.out), HX3⟩
          case measure => simp [intOf]; omega
        | false =>
          rw [hq] at hcall
          have MISS := MISS hq
          clear hq HIT
          go_wp2_with (first | (with_reducible refine stop_load 85 ?_) | (with_reducible refine stop_alloc 85 ?_) | (with_reducible refine stop_store 85 ?_))
          refine go_on (wpList_load_row rfl 85 _ rfl wo.heap.size rfl 85 cs.toArray (0, 0) _ HW.out Try.underlying85 rfl (by simpa using tx_size hc13) ?_)
          go_wp2_with fail
          refine hcall.mono ?_
          rintro e w3 ⟨rfl, hx3⟩
          have HG3 := Lib.hid (hx3.obj HGW.out)
          have HW3 := Lib.hid (hx3.obj HW.out)
          have HX3 := Lib.hid (HX2.out.trans hx3)
          clear hx3
          go_wp2_with (first | (with_reducible refine stop_load 85 ?_) | (with_reducible refine stop_alloc 85 ?_) | (with_reducible refine stop_store 85 ?_))
          refine go_on (wpList_load_row rfl 85 _ rfl wo.heap.size rfl 85 cs.toArray (0, 0) _ HW3.out Try.underlying85 rfl (by simpa using tx_size hc13) ?_)
          go_wp2_with (first | (with_reducible refine stop_load 85 ?_) | (with_reducible refine stop_alloc 85 ?_) | (with_reducible refine stop_store 85 ?_))
          refine go_on (wpList_store_at rfl 85 _ _ rfl (o := i * 13) rfl rfl rfl HG3.out (by rw [HSZ.out, hc13]; omega) (tx_size hc13) HONE.out ?_)
          intro W4 hW4 hk4 hz4
          have HG4 := Lib.hid hW4
          have HX4 := Lib.hid (HX3.out.kept hk4 (by intro k hk; simp at hk; subst hk; exact Nat.le_trans HB.out HBG.out))
          clear hW4 hk4 hz4
          go_wp2
          go_roundw
          case rel => exact ⟨i + 1, j + 1, _, by go_num, by go_num, by omega, by omega, HG4, Lib.hid (by rw [MISS.out]; exact HPU.out), HX4⟩
          case measure => simp [intOf]; omega
      · have hlt2 : ¬ (j : Int) < (xs.length : Int) := by omega
        obtain rfl : j = xs.length := by omega
        have hel : Try.prog.elem 70 = 85 := by kernel_rfl
        have hut : Try.prog.underlying 70 = some (.slice (Try.prog.elem 70)) := by rw [hel]; exact Try.underlying70
        have s1 : ∀ W, (Instr.slice 70 (.slice (some ⟨g, 0, none⟩) xs.length cap) none (some (.int .i64 (i : Int))) none).run Try.prog W = .ok (.slice (some ⟨g, 0, none⟩) i cap) W := fun W => by
          rw [run_slice_h W 70 _ _ _ hut .i64 _ (by omega) (by omega), hel, size13]
          simp [Result.andThen, sliced, Addr.add]
        have s2 : ∀ W, (Instr.slice 70 (.slice (some ⟨g, 0, none⟩) xs.length cap) (some (.int .i64 (i : Int))) none none).run Try.prog W = .ok (.slice (some ⟨g, i * 13, none⟩) (xs.length - i) (cap - i)) W := fun W => by
          rw [run_slice_l W 70 _ _ _ hut .i64 _ (by omega) (by omega), hel, size13]
          have q : ¬ cap = i := by omega
          simp [Result.andThen, sliced, q, add0]
        obtain ⟨X, hX, hcl⟩ := run_clear_many txT zeroTx rfl zTx_one HGR.out (n := i) (m := xs.length - i) (by omega) (by omega) HSI.out.size 0 (cap - i) _ rfl
        have HSE : Hid (OwnR RTr 13 85 M w0 (wr.setRow g (cur.toList.take (i * 13) ++ X ++ cur.toList.drop (i * 13 + (xs.length - i) * 13)).toArray) base (.slice (some ⟨g, 0, none⟩) i cap) (xs.filter fun t => !p t)) := Lib.hid (by
          have := HSI.out
          rw [List.take_length] at this
          exact this.own X hX (by omega) hnc HCM.out HBG.out (setRow_heap wr g cur _ 85 _ HGR.out))
        have HXE : Hid (Ext w0 (wr.setRow g (cur.toList.take (i * 13) ++ X ++ cur.toList.drop (i * 13 + (xs.length - i) * 13)).toArray)) := Lib.hid (HXR.out.grown (setRow_grown _) (by intro k hk; injection hk with hk; subst hk; exact Nat.le_trans HB.out HBG.out))
        generalize wr.setRow g (cur.toList.take (i * 13) ++ X ++ cur.toList.drop (i * 13 + (xs.length - i) * 13)).toArray = W2 at *
        clear hel hut hX
        go_wp2
        go_ret
        exact ⟨_, rfl, HSE.out, HXE.out⟩
end Go.Proofs.Ytijopcdjlpafdaa
