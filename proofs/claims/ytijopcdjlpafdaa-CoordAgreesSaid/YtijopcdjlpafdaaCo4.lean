/- The walks of slices.Delete at transactions; of the tests of shards (slices.IndexFunc, ContainsFunc, Contains, Equal at ints); of coord.tx.all. Conditions: the hypotheses of each theorem. -/
import Derived.Test.YtijopcdjlpafdaaCo3
namespace Go.Proofs.Ytijopcdjlpafdaa
open Go.RowKit
set_option maxHeartbeats 1000000 in
theorem tdel_row (g n cap i : Nat) (cur : Array Value) (w : World) (hg : w.heap[g]? = some (.cells cur 85 (0, 0))) (hn : n ≤ cap) (hc : cur.size = cap * 13) (hi : i < n) (h1 : ∀ u ∈ cur.toList.take (n * 13), u.oneCell' = true) :
    Calls Try.prog 54 #[.slice (some ⟨g, 0, none⟩) n cap, .int .i64 i, .int .i64 ((i : Int) + 1)] w fun e w' => e = .returned (.slice (some ⟨g, 0, none⟩) (n - 1) cap) ∧ w.grownBy w' (some g) ∧
      ∃ rest, w'.heap[g]? = some (.cells (cur.toList.take (i * 13) ++ (cur.toList.drop ((i + 1) * 13)).take ((n - (i + 1)) * 13) ++ rest).toArray 85 (0, 0)) ∧ i * 13 + (n - (i + 1)) * 13 + rest.length = cap * 13 := by
  obtain ⟨ad, had⟩ : ∃ ad : Addr, ad = if cap = i + 1 then ⟨g, 0, none⟩ else (⟨g, 0, none⟩ : Addr).add ((i + 1) * 13) := ⟨_, rfl⟩
  have hap := run_del_append txT hg hn hc hi h1 70 (cap - (i + 1)) (n - (i + 1)) rfl
  rw [← had] at hap
  have hel : Try.prog.elem 70 = 85 := by kernel_rfl
  have hut : Try.prog.underlying 70 = some (.slice (Try.prog.elem 70)) := by rw [hel]; exact Try.underlying70
  have e1 : ∀ W, (Instr.slice 70 (.slice (some ⟨g, 0, none⟩) n cap) none (some (.int .i64 (i : Int))) none).run Try.prog W = .ok (.slice (some ⟨g, 0, none⟩) i cap) W := fun W => by
    rw [run_slice_h W 70 _ _ _ hut .i64 _ (by omega) (by omega), hel, size13]
    simp [Result.andThen, sliced, Addr.add]
  have e2 : ∀ W, (Instr.slice 70 (.slice (some ⟨g, 0, none⟩) n cap) (some (.int .i64 ((i : Int) + 1))) none none).run Try.prog W = .ok (.slice (some ad) (n - (i + 1)) (cap - (i + 1))) W := fun W => by
    rw [run_slice_l W 70 _ _ _ hut .i64 _ (by omega) (by omega), hel, size13]
    have q : ((i : Int) + 1).toNat = i + 1 := by omega
    simp only [Result.andThen, sliced, q]
    rw [had]
    by_cases hq : cap = i + 1 <;> simp [hq]
  have hm1 : i + (n - (i + 1)) = n - 1 := by omega
  rw [hm1] at hap
  have hne : ((i : Int) == (i : Int) + 1) = false := beq_eq_false_iff_ne.2 (by omega)
  have e3 : ∀ W, (Instr.slice 70 (.slice (some ⟨g, 0, none⟩) (n - 1) cap) (some (.int .i64 ((n - 1 : Nat) : Int))) (some (.int .i64 (n : Int))) none).run Try.prog W = .ok (.slice (some ⟨g, (n - 1) * 13, none⟩) 1 (cap - (n - 1))) W := fun W => by
    rw [run_slice_lh W 70 _ _ _ hut .i64 .i64 _ _ (by omega) (by omega) (by omega), hel, size13]
    have q : n - (n - 1) = 1 := by omega
    have q2 : ¬ cap = n - 1 := by omega
    simp [Result.andThen, sliced, q, q2, Addr.add]
    intro h
    rw [h]
  have HAD := Lib.hid had
  have HM1 := Lib.hid hm1
  clear had hm1 hut hel
  go_enter Try.func54, Try.ntmps54
  go_wp2_with fail
  go_region_law (refine step_app_run (t := 70) (s := .tmp 22) (x := .tmp 25) rfl rfl (hap _ (Ext.refl _).drew) ?_)
  generalize hcl : (cur.toList.take (i * 13) ++ ((cur.toList.drop ((i + 1) * 13)).take ((n - (i + 1)) * 13) ++ cur.toList.drop (i * 13 + (n - (i + 1)) * 13))) = cl
  have hW : (w.drew.setRow g cl.toArray).heap[g]? = some (.cells cl.toArray 85 (0, 0)) := setRow_heap w.drew g cur cl.toArray 85 (0, 0) hg
  have hG : w.grownBy (w.drew.setRow g cl.toArray) (some g) := grown_drew (setRow_grown (w := w.drew) (g := g) cl.toArray)
  have hcs : cl.toArray.size = cap * 13 := by
    rw [← hcl]
    simp
    omega
  generalize w.drew.setRow g cl.toArray = W1 at hW hG
  have hcl := Lib.hid hcl
  have hn3 : n - 1 + 1 ≤ cap := by omega
  have hc3 := run_clear_one txT zeroTx rfl zTx_one hW hn3 hcs 0 (cap - (n - 1)) _ rfl
  generalize hcl2 : ((cl.toArray.toList.take ((n - 1) * 13)) ++ (Value.agg zTx).cells.toList ++ cl.toArray.toList.drop ((n - 1) * 13 + 13)) = cl2 at hc3
  have hW2 : (W1.setRow g cl2.toArray).heap[g]? = some (.cells cl2.toArray 85 (0, 0)) := setRow_heap W1 g cl.toArray cl2.toArray 85 (0, 0) hW
  have hG2 : w.grownBy (W1.setRow g cl2.toArray) (some g) := grown_step hG (setRow_grown cl2.toArray) (.inl rfl)
  have hcl2 := Lib.hid hcl2
  generalize W1.setRow g cl2.toArray = W2 at hc3 hW2 hG2
  go_wp2
  go_ret
  refine ⟨rfl, hG2, (Value.agg zTx).cells.toList ++ cl.drop ((n - 1) * 13 + 13), ?_, ?_⟩
  · have hA : cl.toArray.toList.take ((n - 1) * 13) = cur.toList.take (i * 13) ++ (cur.toList.drop ((i + 1) * 13)).take ((n - (i + 1)) * 13) := by
      rw [← hcl.out]
      rw [← List.append_assoc, List.take_left' (by simp; omega)]
    rw [hW2, ← hcl2.out, hA]
    simp
  · have := hcl.out
    rw [← this]
    simp [Value.cells, zTx]
    omega
theorem tdel_own (us : List Tr) (i base : Nat) (M : List Nat) (v : Value) (wr w : World) (h : OwnR RTr 13 85 M wr w base v us) (hi : i < us.length) :
    Calls Try.prog 54 #[v, .int .i64 i, .int .i64 ((i : Int) + 1)] w fun e w' => ∃ v', e = .returned v' ∧ OwnR RTr 13 85 M wr w' base v' (us.eraseIdx i) ∧ ∀ w0, Ext w0 w → w0.heap.size ≤ base → Ext w0 w' := by
  obtain ⟨css, h1, h2, h3, h4⟩ := h
  rcases h3.2 with ⟨_, hn⟩ | ⟨g, cap, cur, rfl, hb, hg, hc, hm, hs, ht⟩
  · omega
  refine (tdel_row g us.length cap i cur w hg hc hs hi (by rw [ht]; exact RTr.one h1 h4)).mono ?_
  rintro e w' ⟨rfl, hG, rest, hw', hr⟩
  have hl : (us.eraseIdx i).length = us.length - 1 := by rw [List.length_eraseIdx]; simp [hi]
  have h2' : ∀ cs ∈ css.eraseIdx i, cs.length = 13 := fun cs hcs => h2 cs (List.mem_of_mem_eraseIdx hcs)
  have hl' : (css.eraseIdx i).length = us.length - 1 := by rw [List.length_eraseIdx]; simp [hi, h1]
  refine ⟨_, rfl, ⟨css.eraseIdx i, by rw [hl, hl'], h2', ⟨by rw [flatten_length h2', hl, hl'], .inr ⟨g, cap, _, by rw [hl], hb, hw', by omega, hm, ?_, ?_⟩⟩, ?_⟩, ?_⟩
  · have := hs
    simp [List.length_take]
    omega
  · have e1 : (cur.toList.drop ((i + 1) * 13)).take ((us.length - (i + 1)) * 13) = (css.drop (i + 1)).flatten := by
      rw [← flatten_drop h2, ← ht, List.drop_take]
      congr 1
      omega
    have e2 : cur.toList.take (i * 13) = (css.take i).flatten := by
      rw [← flatten_take h2, ← ht, List.take_take]
      congr 1
      omega
    simp only []
    rw [hl, e1, e2, List.eraseIdx_eq_take_drop_succ, List.flatten_append, List.take_left']
    rw [List.length_append, flatten_length fun cs hcs => h2 cs (List.mem_of_mem_take hcs), flatten_length fun cs hcs => h2 cs (List.mem_of_mem_drop hcs)]
    simp
    omega
  · intro k cs x hk hx
    rw [List.getElem?_eraseIdx] at hk hx
    split at hk
    · exact h4 k cs x hk (by simpa [*] using hx)
    · exact h4 (k + 1) cs x hk (by simpa [*] using hx)
  · intro w0 hx hb0
    exact hx.grown hG (by intro k hk; injection hk with hk; omega)

/-! ## shards -/
def TellsI (f : Nat) (lb : Array Value) (q : Int → Bool) (w : World) : Prop :=
  ∀ (W : World) (x : Int), Ext w W → 0 ≤ x → x ≤ 3 → Calls Try.prog f (#[.int .i64 x] ++ lb) W fun e W' => e = .returned (.bool (q x)) ∧ Ext W W'
set_option maxHeartbeats 1000000 in
theorem iindexf_any (f : Nat) (lb : Array Value) (eg : ∀ args w, (callFunc f args).run Try.prog w = .ok (.enter f args) w) (q : Int → Bool) (A : Option Addr) (cap : Nat) (l : List Int) (w : World) (h : Sl w A (ib l)) (hl : ∀ x ∈ l, 0 ≤ x ∧ x ≤ 3) (hp : TellsI f lb q w) (hn : l.length ≤ 1000000) :
    Calls Try.prog 67 #[.slice A l.length cap, .func (.func f) #[] lb] w fun e w' => e = .returned (.int .i64 (idI (l.findIdx? q))) ∧ Ext w w' := by
  have HP := Lib.hid hp
  have HH := Lib.hid h
  have HL := Lib.hid hl
  clear hp h hl
  go_enter Try.func67, Try.ntmps67
  go_wp2
  go_loopw [5, 8] (fun _ i wr => ∃ k : Nat, k ≤ l.length ∧ i = .int .i64 k ∧ Ext w wr ∧ Hid (∀ j (h : j < l.length), j < k → q l[j] = false)) (fun _ i _ => l.length - (intOf i).toNat)
  case atStart => exact ⟨0, by omega, rfl, Ext.refl _, Lib.hid fun j _ hj => absurd hj (Nat.not_lt_zero _)⟩
  case round =>
    obtain ⟨k, hk, rfl, hx, HO⟩ := hrel
    by_cases hlt : k < l.length
    · have hlt2 : (k : Int) < (l.length : Int) := by omega
      obtain ⟨ad, rfl, hc⟩ := HH.out.int hlt
      have hc0 := hc _ hx
      obtain ⟨hx0, hx3⟩ := HL.out _ (List.getElem_mem hlt)
      have hcall := HP.out wr l[k] hx hx0 hx3
      have HX := Lib.hid hx
      clear hc hx hx0 hx3
      cases hq : q l[k] with
      | true =>
        rw [hq] at hcall
        have HF : Hid (l.findIdx? q = some k) := Lib.hid (findIdx_hit hlt hq fun j hj => HO.out j (by omega) hj)
        clear hq
        go_wp2_with fail
        refine hcall.mono ?_
        rintro e w2 ⟨rfl, hx2⟩
        go_wp2
        go_ret
        exact ⟨by rw [HF.out]; rfl, HX.out.trans hx2⟩
      | false =>
        rw [hq] at hcall
        have HT := Lib.hid hq
        clear hq
        go_wp2_with fail
        refine hcall.mono ?_
        rintro e w2 ⟨rfl, hx2⟩
        go_wp2
        go_roundw
        case rel => exact ⟨k + 1, by omega, by go_num, HX.out.trans hx2, Lib.hid fun j h hj => by
          rcases Nat.lt_or_ge j k with h' | h'
          · exact HO.out j h h'
          · obtain rfl : j = k := by omega
            exact HT.out⟩
        case measure => simp [intOf]; omega
    · have hlt2 : ¬ (k : Int) < (l.length : Int) := by omega
      have HF : Hid (l.findIdx? q = none) := Lib.hid (findIdx_miss fun j hj => HO.out j hj (by omega))
      have HX := Lib.hid hx
      go_wp2
      go_ret
      exact ⟨by rw [HF.out]; rfl, HX.out⟩
theorem idI_any {α : Type} (l : List α) (q : α → Bool) : decide (0 ≤ idI (l.findIdx? q)) = l.any q := by
  cases hf : l.findIdx? q with
  | none =>
    have : l.any q = false := by
      rw [List.any_eq_false]
      intro x hx
      simp [List.findIdx?_eq_none_iff.1 hf x hx]
    rw [this]; rfl
  | some i =>
    obtain ⟨hi, hp, _⟩ := List.findIdx?_eq_some_iff_getElem.1 hf
    have : l.any q = true := List.any_eq_true.2 ⟨_, List.getElem_mem hi, hp⟩
    rw [this]
    simp [idI]
theorem icontf_any (f : Nat) (lb : Array Value) (eg : ∀ args w, (callFunc f args).run Try.prog w = .ok (.enter f args) w) (q : Int → Bool) (A : Option Addr) (cap : Nat) (l : List Int) (w : World) (h : Sl w A (ib l)) (hl : ∀ x ∈ l, 0 ≤ x ∧ x ≤ 3) (hp : TellsI f lb q w) (hn : l.length ≤ 1000000) :
    Calls Try.prog 58 #[.slice A l.length cap, .func (.func f) #[] lb] w fun e w' => e = .returned (.bool (l.any q)) ∧ Ext w w' := by
  have HC := iindexf_any f lb eg q A cap l w h hl hp hn
  rw [← idI_any]
  generalize idI (l.findIdx? q) = z at *
  go_enter Try.func58, Try.ntmps58
  go_wp2_with fail
  refine HC.mono ?_
  rintro e w1 ⟨rfl, hx1⟩
  go_wp2
  go_ret
  exact ⟨rfl, hx1⟩
def saidC (m : List Int) : List Value := [.bool (hasI m 0), .bool (hasI m 1), .bool (hasI m 2), .bool (hasI m 3)]
theorem saidC_get (m : List Int) {x : Nat} (h : x ≤ 3) : (saidC m)[x]? = some (.bool (hasI m x)) := by
  rcases x with _ | _ | _ | _ | x
  · rfl
  · rfl
  · rfl
  · rfl
  · omega
theorem enters_all : ∀ args w, (callFunc 59 args).run Try.prog w = .ok (.enter 59 args) w := enters_of Try.func59 (by kernel_rfl) rfl
theorem all_tells (m : List Int) (B : Nat) (w : World) (h : w.heap[B]? = some (.cells (saidC m).toArray 83 (0, 0))) : TellsI 59 #[.pointer (some ⟨B, 0, none⟩)] (fun x => !hasI m x) w := by
  intro W x hx h0 h3
  obtain ⟨k, rfl⟩ := Int.eq_ofNat_of_zero_le h0
  have hk : k ≤ 3 := by omega
  have hB := hx.obj h
  have hc : W.cell? ⟨B, k, none⟩ = some (.bool (hasI m k)) := by
    rw [cell_of_row _ _ _ _ _ _ hB]
    simpa using saidC_get m hk
  have hk4 : (k : Int) < 4 := by omega
  clear h hB h3 hx
  show Calls Try.prog 59 #[.int .i64 (k : Int), .pointer (some ⟨B, 0, none⟩)] W _
  go_enter Try.func59, Try.ntmps59
  go_wp2
  go_ret
  exact ⟨rfl, Ext.refl _⟩
set_option maxHeartbeats 1000000 in
theorem txall_any (t : Tr) (m : List Int) (A : Option Addr) (cap : Nat) (w : World) (h : Sl w A (ib t.shards)) (hl : ∀ x ∈ t.shards, 0 ≤ x ∧ x ≤ 3) (hn : t.shards.length ≤ 1000000) :
    Calls Try.prog 39 #[.agg (trC t (.slice A t.shards.length cap)).toArray, .agg (saidC m).toArray] w fun e w' => e = .returned (.bool (allIn t.shards m)) ∧ Ext w w' := by
  have hmf : ∀ (fn : Fn) (first cap : Array Value) (w : World), (Instr.makeFunc fn first cap).run Try.prog w = .ok (.func fn first cap) w := fun _ _ _ _ => rfl
  have HL := Lib.hid hl
  have HH := Lib.hid h
  have HE : Hid ((!t.shards.any fun x => !hasI m x) = allIn t.shards m) := Lib.hid (by unfold allIn; simp [List.any_eq_not_all_not])
  have hx2 : ∀ o1 o2, Ext w ((w.alloc o1).alloc o2) := fun o1 o2 => ((Ext.refl w).alloc o1).alloc o2
  clear h hl
  unfold trC saidC
  go_enter Try.func39, Try.ntmps39
  go_wp2_with fail
  generalize hw1 : w.alloc _ = w1
  have hx1 : Ext w w1 := hw1 ▸ (Ext.refl w).alloc _
  have hz1 : w1.heap.size = w.heap.size + 1 := by rw [← hw1]; simp
  clear hw1
  generalize hw2 : w1.alloc _ = wb
  have hB : wb.heap[w1.heap.size]? = some (.cells (saidC m).toArray 83 (0, 0)) := hw2 ▸ heap_alloc_new w1 _
  have hxb : Ext w wb := hx1.trans (hw2 ▸ (Ext.refl w1).alloc _)
  rw [hz1] at hB
  clear hw2 hz1
  refine (icontf_any 59 _ enters_all _ A cap t.shards wb (HH.out.ext hxb) HL.out (all_tells m _ _ hB) hn).mono ?_
  rintro e w3 ⟨rfl, hx3⟩
  go_wp2
  go_ret
  exact ⟨ret_bool HE.out, hxb.trans hx3⟩
end Go.Proofs.Ytijopcdjlpafdaa
