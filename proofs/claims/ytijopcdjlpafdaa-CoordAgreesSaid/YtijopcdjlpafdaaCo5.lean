/- A node in memory; the walks of coord.New, find, at, remove; slices.Contains and Equal of ints. Conditions: the hypotheses of each theorem. -/
import Derived.Test.YtijopcdjlpafdaaCo4
import Derived.Deep.QuietTactic
namespace Go.Proofs.Ytijopcdjlpafdaa
open Go.RowKit
set_option maxHeartbeats 1000000 in
theorem iindex_any (x : Int) (A : Option Addr) (cap : Nat) (l : List Int) (w : World) (h : Sl w A (ib l)) (hn : l.length ≤ 1000000) :
    Calls Try.prog 57 #[.slice A l.length cap, .int .i64 x] w fun e w' => e = .returned (.int .i64 (idI (l.findIdx? fun y => decide (y = x)))) ∧ w = w' := by
  have HH := Lib.hid h
  clear h
  go_enter Try.func57, Try.ntmps57
  go_wp2
  go_loop [5, 8] (fun _ i => ∃ k : Nat, k ≤ l.length ∧ i = .int .i64 k ∧ Hid (∀ j (h : j < l.length), j < k → decide (l[j] = x) = false)) (fun _ i => l.length - (intOf i).toNat)
  case atStart => exact ⟨0, by omega, rfl, Lib.hid fun j _ hj => absurd hj (Nat.not_lt_zero _)⟩
  case round =>
    obtain ⟨k, hk, rfl, HO⟩ := hrel
    by_cases hlt : k < l.length
    · have hlt2 : (k : Int) < (l.length : Int) := by omega
      obtain ⟨ad, rfl, hc⟩ := HH.out.int hlt
      have hc0 := hc _ (Ext.refl _)
      clear hc
      by_cases hq : l[k] = x
      · have HF : Hid (l.findIdx? (fun y => decide (y = x)) = some k) := Lib.hid (findIdx_hit hlt (by simpa using hq) fun j hj => HO.out j (by omega) hj)
        have hq2 : (x == l[k]) = true := by rw [hq]; simp
        generalize l[k] = y at *
        clear hq
        go_wp2
        go_ret
        exact ⟨by rw [HF.out]; rfl, rfl⟩
      · have HT : Hid (decide (l[k] = x) = false) := Lib.hid (by simpa using hq)
        have hq2 : (x == l[k]) = false := by simpa using fun e => hq e.symm
        clear hq
        go_wp2
        go_round
        case rel => exact ⟨k + 1, by omega, by go_num, Lib.hid fun j h hj => by
          rcases Nat.lt_or_ge j k with h' | h'
          · exact HO.out j h h'
          · obtain rfl : j = k := by omega
            exact HT.out⟩
        case measure => simp [intOf]; omega
    · have hlt2 : ¬ (k : Int) < (l.length : Int) := by omega
      have HF : Hid (l.findIdx? (fun y => decide (y = x)) = none) := Lib.hid (findIdx_miss fun j hj => HO.out j hj (by omega))
      go_wp2
      go_ret
      exact ⟨by rw [HF.out]; rfl, rfl⟩
theorem icont_any (x : Int) (A : Option Addr) (cap : Nat) (l : List Int) (w : World) (h : Sl w A (ib l)) (hn : l.length ≤ 1000000) :
    Calls Try.prog 38 #[.slice A l.length cap, .int .i64 x] w fun e w' => e = .returned (.bool (hasI l x)) ∧ w = w' := by
  have HC := iindex_any x A cap l w h hn
  have HE := Lib.hid (idI_any l fun y => decide (y = x))
  have HI : Hid (hasI l x = l.any fun y => decide (y = x)) := Lib.hid rfl
  generalize idI (l.findIdx? fun y => decide (y = x)) = z at *
  go_enter Try.func38, Try.ntmps38
  go_wp2_with fail
  refine HC.mono ?_
  rintro e w1 ⟨rfl, rfl⟩
  go_wp2
  go_ret
  exact ⟨ret_bool (HE.out.trans HI.out.symm), rfl⟩
set_option maxHeartbeats 1000000 in
theorem iequal_any (A B : Option Addr) (c1 c2 : Nat) (l m : List Int) (w : World) (h : Sl w A (ib l)) (h2 : Sl w B (ib m)) (hn : l.length ≤ 1000000) :
    Calls Try.prog 55 #[.slice A l.length c1, .slice B m.length c2] w fun e w' => e = .returned (.bool (decide (l = m))) ∧ Ext w w' := by
  by_cases hlen : l.length = m.length
  · have HL := Lib.hid h
    have HM := Lib.hid h2
    have hle : (l.length : Int) = (m.length : Int) := by omega
    rw [← hlen]
    have HLEN := Lib.hid hlen
    have hne : ((l.length : Int) != (l.length : Int)) = false := by simp
    clear h h2 hlen hle
    go_enter Try.func55, Try.ntmps55
    go_wp2
    go_loopw [5, 13] (fun _ i wr => ∃ k : Nat, k ≤ l.length ∧ i = .int .i64 k ∧ Ext w wr ∧ Hid (∀ j (h : j < l.length), j < k → l[j] = m[j]'(by have := HLEN.out; omega))) (fun _ i _ => l.length - (intOf i).toNat)
    case atStart => exact ⟨0, by omega, rfl, Ext.refl _, Lib.hid fun j _ hj => absurd hj (Nat.not_lt_zero _)⟩
    case round =>
      obtain ⟨k, hk, rfl, hx, HO⟩ := hrel
      by_cases hlt : k < l.length
      · have hlt2 : (k : Int) < (l.length : Int) := by omega
        have hltm : k < m.length := by have := HLEN.out; omega
        obtain ⟨ad, rfl, hc⟩ := HL.out.int hlt
        obtain ⟨ad2, rfl, hc2⟩ := HM.out.int hltm
        have hxd := hx.drew
        have HXD := Lib.hid hxd
        clear hxd
        by_cases hq : l[k] = m[k]
        · have HT : ∀ j (h : j < l.length), j < k + 1 → l[j] = m[j]'(by have := HLEN.out; omega) := fun j h hj => by
            rcases Nat.lt_or_ge j k with h' | h'
            · exact HO.out j h h'
            · obtain rfl : j = k := by omega
              exact hq
          have HT := Lib.hid HT
          have hq2 : (l[k] != m[k]) = false := by rw [hq]; simp
          generalize l[k] = y at hc hq2
          generalize m[k] = z at hc2 hq2
          clear hq
          go_wp2_with fail
          go_quiet (fail)
          go_wp2
          go_roundw
          case rel => exact ⟨k + 1, by omega, by go_num, hx.drewN _, HT⟩
          case measure => simp [intOf]; omega
        · have HT : Hid (decide (l = m) = false) := Lib.hid (by simpa using fun e => hq (by subst e; rfl))
          have hq2 : (l[k] != m[k]) = true := by simpa using hq
          generalize l[k] = y at *
          generalize m[k] = z at *
          clear hq
          go_wp2_with fail
          go_quiet (fail)
          go_wp2
          go_ret
          exact ⟨ret_bool HT.out.symm, hx.drewN _⟩
      · have hlt2 : ¬ (k : Int) < (l.length : Int) := by omega
        have HT : Hid (decide (l = m) = true) := Lib.hid (by
          have := HLEN.out
          simpa using List.ext_getElem this fun j h1 h2 => HO.out j h1 (by omega))
        go_wp2
        go_ret
        exact ⟨ret_bool HT.out.symm, hx⟩
  · have hne : ((l.length : Int) != (m.length : Int)) = true := by simp; omega
    have HT : Hid (decide (l = m) = false) := Lib.hid (by simpa using fun e => hlen (by rw [e]))
    clear hlen h h2
    go_enter Try.func55, Try.ntmps55
    go_wp2
    go_ret
    exact ⟨ret_bool HT.out.symm, Ext.refl _⟩
/-! ## a node in memory -/
structure CoR (M : List Nat) (w : World) (p : Nat) (s : Cs) (A : Option Addr) (cap : Nat) : Prop where
  row : w.heap[p]? = some (.cells #[.int .i64 s.node, .int .i64 s.boot, .int .i64 s.next, .slice A s.under.length cap] 72 (0, 0))
  rs : RsM RTr 13 M w A s.under
def Co (M : List Nat) (w : World) (p : Nat) (s : Cs) : Prop := ∃ A cap, CoR M w p s A cap
section
variable {M N : List Nat} {w w' : World} {p : Nat} {s : Cs}
theorem Co.lt (h : Co M w p s) : p < w.heap.size := by
  obtain ⟨A, cap, h⟩ := h
  exact obj_lt h.row
theorem Co.kept (h : Co M w p s) (k : Kept N w w') (hp : p ∉ N) (hs : ∀ k ∈ N, k ∈ M) : Co M w' p s := by
  obtain ⟨A, cap, h⟩ := h
  obtain ⟨css, h1, h2, h3, h4⟩ := h.rs
  have hk : Kept M w w' := k.mono hs
  exact ⟨A, cap, k.heap h.row hp, h.rs.kept hk⟩
theorem Co.ext (h : Co M w p s) (k : Ext w w') : Co M w' p s := h.kept (N := []) (.of_ext k) (by simp) (by simp)
theorem Co.old (h : Co M w p s) (hs : ∀ k ∈ N, k ∈ M ∨ w.heap.size ≤ k) : Co N w p s := by
  obtain ⟨A, cap, h⟩ := h
  exact ⟨A, cap, h.row, h.rs.old hs⟩
/-- a transaction of the node's -/
theorem RsM.tr {A : Option Addr} {xs : List Tr} (h : RsM RTr 13 M w A xs) {k : Nat} (hk : k < xs.length) :
    ∃ ad A1 c1, A = some ad ∧ Sl w A1 (ib xs[k].shards) ∧ (∀ W, Ext w W → ∀ j v, (trC xs[k] (.slice A1 xs[k].shards.length c1))[j]? = some v → W.cell? ((ad.add (k * 13)).add j) = some v) ∧
      (∀ W, Ext w W → W.cell? ⟨(ad.add (k * 13)).block, (ad.add (k * 13)).off + 4, none⟩ = some (.bool xs[k].done)) := by
  obtain ⟨ad, cs, e, _, _, hcell, A1, c1, rfl, h1⟩ := h.at_ (by omega) hk
  refine ⟨ad, A1, c1, e, h1.sl, fun W hx j v hj => ?_, fun W hx => ?_⟩
  · rw [add_addB]
    exact hx.cell (hcell j v hj)
  · have := hx.cell (hcell 4 _ rfl)
    rw [← add_addB, add_pos'] at this
    exact this
end
set_option maxHeartbeats 1000000 in
theorem cfind_any {M : List Nat} {w : World} {p : Nat} {s : Cs} (h : Co M w p s) (id : TxI) (hn : s.under.length ≤ 1000) :
    Calls Try.prog 41 #[pt p, .agg #[.int .i64 id.node, .int .i64 id.boot, .int .i64 id.n]] w fun e w' => e = .returned (.int .i64 (idI (findT s.under id))) ∧ Ext w w' := by
  obtain ⟨A, cap, h⟩ := h
  obtain ⟨c0, c1, c2, c3, cf⟩ := rows4 h.row
  have HRS := Lib.hid h.rs
  have HI : Hid (findT s.under id = s.under.findIdx? fun t => decide (t.id = id)) := Lib.hid rfl
  clear h c0 c1 c2 cf
  unfold pt
  go_enter Try.func41, Try.ntmps41
  go_wp2_with fail
  generalize hw1 : w.alloc _ = wb
  have hB : TxAt wb w.heap.size id := hw1 ▸ heap_alloc_new w _
  have hxb : Ext w wb := hw1 ▸ (Ext.refl w).alloc _
  clear hw1 c3
  refine (tindex_any 61 _ enters_find _ M A cap s.under wb (HRS.out.kept (.of_ext hxb)) (find_tells id _ M wb hB) (by omega)).mono ?_
  rintro e w2 ⟨rfl, hx2⟩
  go_wp2
  go_ret
  exact ⟨by rw [HI.out]; rfl, hxb.trans hx2⟩
/-- what at answers -/
def atV (s : Cs) (id : TxI) (d : Bool) : Value := match s.at_ id d with
  | some i => .tuple #[.int .i64 i, .int .i64 0]
  | none => .tuple #[.int .i64 0, .int .i64 9]
set_option maxHeartbeats 1000000 in
theorem cat_any {M : List Nat} {w : World} {p : Nat} {s : Cs} (h : Co M w p s) (id : TxI) (d : Bool) (hn : s.under.length ≤ 1000) :
    Calls Try.prog 31 #[pt p, .agg #[.int .i64 id.node, .int .i64 id.boot, .int .i64 id.n], .bool d] w fun e w' => e = .returned (atV s id d) ∧ Ext w w' := by
  have HF := fun W (hx : Ext w W) => cfind_any (h.ext hx) id hn
  obtain ⟨A, cap, h⟩ := h
  obtain ⟨c0, c1, c2, c3, cf⟩ := rows4 h.row
  have HRS := Lib.hid h.rs
  clear h c0 c1 c2 cf
  have hx0 := Ext.refl w
  cases hf : findT s.under id with
  | none =>
    rw [hf] at HF
    have HV : Hid (atV s id d = .tuple #[.int .i64 0, .int .i64 9]) := Lib.hid (by unfold atV Cs.at_; rw [hf])
    have hm : idI none = -1 := rfl
    rw [hm] at HF
    clear hm hf
    unfold pt at *
    go_enter Try.func31, Try.ntmps31
    go_wp2_with fail
    generalize hw1 : w.alloc _ = wb
    have hxb : Ext w wb := hw1 ▸ (Ext.refl w).alloc _
    clear hw1
    refine (HF _ hxb).mono ?_
    rintro e w2 ⟨rfl, hx2⟩
    go_wp2
    go_ret2
    exact ⟨by rw [HV.out]; rfl, hxb.trans hx2⟩
  | some i =>
    rw [hf] at HF
    obtain ⟨hi, hid⟩ := findT_some hf
    have hm : idI (some i) = (i : Int) := rfl
    rw [hm] at HF
    have hrow : s.row i = s.under[i] := by unfold Cs.row; rw [List.getD_eq_getElem?_getD, List.getElem?_eq_getElem hi]; rfl
    obtain ⟨ad, A1, c1', rfl, _, _, hd⟩ := HRS.out.tr hi
    have hnneg : ¬ (i : Int) < 0 := by omega
    have hilt : (i : Int) < (s.under.length : Int) := by omega
    have HV : Hid (atV s id d = if s.under[i].done = d then .tuple #[.int .i64 i, .int .i64 0] else .tuple #[.int .i64 0, .int .i64 9]) := Lib.hid (by
      unfold atV Cs.at_
      rw [hf]
      simp only
      rw [hrow]
      by_cases hdd : s.under[i].done = d
      · rw [if_pos hdd, if_pos hdd]
      · rw [if_neg hdd, if_neg hdd])
    generalize s.under[i].done = dd at *
    clear hm hf hid hrow
    unfold pt at *
    cases dd <;> cases d
    all_goals
      go_enter Try.func31, Try.ntmps31
      go_wp2_with fail
      generalize hw1 : w.alloc _ = wb
      have hxb : Ext w wb := hw1 ▸ (Ext.refl w).alloc _
      clear hw1
      refine (HF _ hxb).mono ?_
      rintro e w2 ⟨rfl, hx2⟩
      have hx3 := hxb.trans hx2
      clear hxb hx2 HF
      go_wp2
      go_ret2
      exact ⟨by rw [HV.out]; rfl, hx3⟩
end Go.Proofs.Ytijopcdjlpafdaa
