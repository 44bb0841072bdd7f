/- The walks of slices.IndexFunc and ContainsFunc at addresses, of the closure that rcpt hands over, and of the session's rcpt. Conditions: the hypotheses of each theorem. -/
import Derived.Test.YtchokelpimibdaaSm4
namespace Go.Proofs.Ytchokelpimibdaa
open Go.RowKit
def idI : Option Nat → Int
  | some i => i
  | none => -1
theorem idI_any {α : Type} (l : List α) (q : α → Bool) : decide (0 ≤ idI (l.findIdx? q)) = l.any q := by
  cases hf : l.findIdx? q with
  | none =>
    have : l.any q = false := by
      rw [List.any_eq_false]
      intro x hx
      simp [List.findIdx?_eq_none_iff.1 hf x hx]
    rw [this]; rfl
  | some i =>
    obtain ⟨hi, hp, _⟩ := List.findIdx?_eq_some_iff_getElem.1 hf
    have : l.any q = true := List.any_eq_true.2 ⟨_, List.getElem_mem hi, hp⟩
    rw [this]
    simp [idI]
/-- what a predicate's closure tells of an address -/
def TellsA (g : Nat) (lb : Array Value) (p : Ad → Bool) (w : World) : Prop :=
  ∀ (W : World) (x : Ad), Ext w W → x.1.length ≤ 64 → Calls Try.prog g (#[.agg #[.string (st x.1), .string (st x.2)]] ++ lb) W fun e W' => e = .returned (.bool (p x)) ∧ Ext W W'
theorem findIdx_hit {α : Type} {l : List α} {p : α → Bool} {k : Nat} (hk : k < l.length) (h1 : p l[k] = true) (h2 : ∀ j (h : j < k), p (l[j]'(by omega)) = false) : l.findIdx? p = some k := by
  rw [List.findIdx?_eq_some_iff_getElem]
  exact ⟨hk, h1, fun j hj => by simp [h2 j hj]⟩
theorem findIdx_miss {α : Type} {l : List α} {p : α → Bool} (h2 : ∀ j (h : j < l.length), p l[j] = false) : l.findIdx? p = none := by
  rw [List.findIdx?_eq_none_iff]
  intro x hx
  obtain ⟨i, hi, rfl⟩ := List.mem_iff_getElem.1 hx
  exact h2 i hi
set_option maxHeartbeats 1000000 in
theorem aindexf_any (g : Nat) (lb : Array Value) (eg : ∀ args w, (callFunc g args).run Try.prog w = .ok (.enter g args) w) (p : Ad → Bool) (M : List Nat) (A : Option Addr) (cap : Nat) (xs : List Ad) (w : World) (h : RsM RAd 2 M w A xs) (hl : ∀ x ∈ xs, x.1.length ≤ 64) (hp : TellsA g lb p w) (hn : xs.length ≤ 1000000) :
    Calls Try.prog 62 #[.slice A xs.length cap, .func (.func g) #[] lb] w fun e w' => e = .returned (.int .i64 (idI (xs.findIdx? p))) ∧ Ext w w' := by
  have HP := Lib.hid hp
  have HH := Lib.hid h
  have HL := Lib.hid hl
  clear hp h hl
  go_enter Try.func62, Try.ntmps62
  go_wp2
  go_loopw [5, 8] (fun _ i wr => ∃ k : Nat, k ≤ xs.length ∧ i = .int .i64 k ∧ Ext w wr ∧ Hid (∀ j (h : j < xs.length), j < k → p xs[j] = false)) (fun _ i _ => xs.length - (intOf i).toNat)
  case atStart => exact ⟨0, by omega, rfl, Ext.refl _, Lib.hid fun j _ hj => absurd hj (Nat.not_lt_zero _)⟩
  case round =>
    obtain ⟨k, hk, rfl, hx, HO⟩ := hrel
    by_cases hlt : k < xs.length
    · have hlt2 : (k : Int) < (xs.length : Int) := by omega
      obtain ⟨ad, cs, rfl, _, hcl, hcell, hsays⟩ := HH.out.at_ (by omega) hlt
      have hcell : ∀ j v, cs[j]? = some v → wr.cell? ((ad.add (k * 2)).add j) = some v := fun j v hj => by
        rw [add_addB]
        exact hx.cell (hcell j v hj)
      have hcall := HP.out wr xs[k] hx (HL.out _ (List.getElem_mem hlt))
      obtain rfl : cs = [.string (st xs[k].1), .string (st xs[k].2)] := hsays
      clear hcl
      have HX := Lib.hid hx
      cases hq : p xs[k] with
      | true =>
        rw [hq] at hcall
        have HF : Hid (xs.findIdx? p = some k) := Lib.hid (findIdx_hit hlt hq fun j hj => HO.out j (by omega) hj)
        clear hq
        generalize xs[k] = x at *
        go_wp2_with (with_reducible refine stop_load 35 ?_)
        refine go_on (wpList_load_elem rfl 35 _ rfl (ad.add (k * 2)) rfl [.string (st x.1), .string (st x.2)] _ hcell Try.underlying35 rfl (ad_size _ _) ?_)
        go_wp2_with fail
        refine hcall.mono ?_
        rintro e w2 ⟨rfl, hx2⟩
        go_wp2
        go_ret
        exact ⟨by rw [HF.out]; rfl, HX.out.trans hx2⟩
      | false =>
        rw [hq] at hcall
        have HT := Lib.hid hq
        clear hq
        generalize hxk : xs[k] = x at *
        have HXK := Lib.hid hxk
        clear hxk
        go_wp2_with (with_reducible refine stop_load 35 ?_)
        refine go_on (wpList_load_elem rfl 35 _ rfl (ad.add (k * 2)) rfl [.string (st x.1), .string (st x.2)] _ hcell Try.underlying35 rfl (ad_size _ _) ?_)
        go_wp2_with fail
        refine hcall.mono ?_
        rintro e w2 ⟨rfl, hx2⟩
        go_wp2
        go_roundw
        case rel => exact ⟨k + 1, by omega, by go_num, HX.out.trans hx2, Lib.hid fun j h hj => by
          rcases Nat.lt_or_ge j k with h' | h'
          · exact HO.out j h h'
          · obtain rfl : j = k := by omega
            rw [HXK.out]
            exact HT.out⟩
        case measure => simp [intOf]; omega
    · have hlt2 : ¬ (k : Int) < (xs.length : Int) := by omega
      have HF : Hid (xs.findIdx? p = none) := Lib.hid (findIdx_miss fun j hj => HO.out j hj (by omega))
      have HX := Lib.hid hx
      go_wp2
      go_ret
      exact ⟨by rw [HF.out]; rfl, HX.out⟩
theorem acontf_any (g : Nat) (lb : Array Value) (eg : ∀ args w, (callFunc g args).run Try.prog w = .ok (.enter g args) w) (p : Ad → Bool) (M : List Nat) (A : Option Addr) (cap : Nat) (xs : List Ad) (w : World) (h : RsM RAd 2 M w A xs) (hl : ∀ x ∈ xs, x.1.length ≤ 64) (hp : TellsA g lb p w) (hn : xs.length ≤ 1000000) :
    Calls Try.prog 57 #[.slice A xs.length cap, .func (.func g) #[] lb] w fun e w' => e = .returned (.bool (xs.any p)) ∧ Ext w w' := by
  have HC := aindexf_any g lb eg p M A cap xs w h hl hp hn
  rw [← idI_any]
  generalize idI (xs.findIdx? p) = z at *
  go_enter Try.func57, Try.ntmps57
  go_wp2_with fail
  refine HC.mono ?_
  rintro e w1 ⟨rfl, hx1⟩
  go_wp2
  go_ret
  exact ⟨rfl, hx1⟩
theorem enters_rcpt : ∀ args w, (callFunc 58 args).run Try.prog w = .ok (.enter 58 args) w := enters_of Try.func58 (by kernel_rfl) rfl
/-- rcpt's closure: is it the user whose name lies at B? -/
theorem rcpt_tells (u : By) (B : Nat) (w : World) (h : w.cell? ⟨B, 0, none⟩ = some (.string (st u))) : TellsA 58 #[.pointer (some ⟨B, 0, none⟩)] (fun a => decide (lowL a.1 = u)) w := by
  intro W x hx hl
  have hB := hx.cell h
  clear h hx
  obtain ⟨x1, x2⟩ := x
  have HU := fun W => AUser_any x1 x2 W (by simp only at hl; omega)
  show Calls Try.prog 58 #[.agg #[.string (st x1), .string (st x2)], .pointer (some ⟨B, 0, none⟩)] W _
  obtain ⟨W0, hW0⟩ : ∃ W0, W0 = W.alloc (.cells #[.string (st x1), .string (st x2)] 35) := ⟨_, rfl⟩
  have hx0 : Ext W W0 := hW0 ▸ (Ext.refl W).alloc _
  have hr0 : W0.heap[W.heap.size]? = some (.cells #[.string (st x1), .string (st x2)] 35 (0, 0)) := hW0 ▸ heap_alloc_new W _
  have c0 := hx0.cell hB
  have hW1 := hW0.symm
  clear hW0 hB hl
  have cc : ∀ V, Ext W0 V → V.cell? ⟨B, 0, none⟩ = some (.string (st u)) := fun V hv => hv.cell c0
  have HR : ∀ V, Ext W0 V → V.rangeAt W.heap.size 0 [.string (st x1), .string (st x2)] := fun V hv => by
    have := World.rangeAt_of_block (hv.obj hr0) 0 2
    simpa using this
  clear c0 hr0
  have hxd : Ext W0 W0.drew := (Ext.refl _).drew
  show Calls Try.prog 58 #[.agg #[.string (st x1), .string (st x2)], .pointer (some ⟨B, 0, none⟩)] W (fun e W' => e = .returned (.bool (decide (lowL x1 = u))) ∧ Ext W W')
  have HX0 := Lib.hid hx0
  clear hx0
  go_enter Try.func58, Try.ntmps58
  go_wp2_with fail
  refine wp_region_phase (S := fun V => Ext W0 V) 4 (by kernel_rfl) (by kernel_rfl) ?_ (fun hHeld => ?_)
  · exact hxd
  simp only [List.drop_succ_cons, List.drop_zero]
  refine name_head ?_
  intro wr0 hw0
  rw [hw0] at hHeld
  refine wpHead_take (i := 0) (v := (Value.agg #[.string (st x1), .string (st x2)])) (by rfl) (by kernel_rfl) (by kernel_rfl) (by exact fun _ _ _ h => h) (by exact yieldsIf_load_mid (by rfl) 35 _ rfl W.heap.size 0 rfl [.string (st x1), .string (st x2)] _ (fun w' hx => HR w' hx) Try.underlying35 rfl (ad_size (.string (st [])) (.string (st [])))) (by assumption) ?_
  simp only [List.getElem_toArray, List.getElem_cons_zero, Act.put, List.setIfInBounds_toArray, List.set_cons_zero, List.set_cons_succ]
  refine wpHead_take (i := 2) (v := ?_) (by rfl) (by kernel_rfl) (by kernel_rfl) (by exact fun _ _ _ h => h) (Or.inl ⟨by rfl, ?_⟩) (by assumption) ?_
  rotate_left
  · intro w hSw
    first | (go_simp; done) | (go_simp; with_reducible rfl)
  simp only [List.getElem_toArray, List.getElem_cons_succ, List.getElem_cons_zero, Act.put, List.setIfInBounds_toArray, List.set_cons_zero, List.set_cons_succ]
  refine wpHead_ready (rs := [1]) (by kernel_rfl) (by simp) (by kernel_rfl) ?_
  refine AllHead.cons (by rfl) (fun K hK => ?_) ?_
  · refine step_callG (by rfl) (by kernel_rfl) (HU wr0) ?_
    rintro e wr1 ⟨rfl, hx1⟩
    refine ⟨_, rfl, ?_⟩
    refine hK.out _ _ ?_ (fun hHeld => ?_)
    · exact hHeld.trans hx1
    clear hK K
    try simp only [List.getElem_toArray, List.getElem_cons_succ, List.getElem_cons_zero, Act.put, List.setIfInBounds_toArray, List.set_cons_zero, List.set_cons_succ]
    refine wpHead_take (i := 3) (v := ?_) (by rfl) (by kernel_rfl) (by kernel_rfl) (by exact fun _ _ _ h => h) (Or.inl ⟨by rfl, ?_⟩) (by assumption) ?_
    rotate_left
    · intro w hSw
      first | (go_simp; done) | (go_simp; with_reducible rfl)
    simp only [List.getElem_toArray, List.getElem_cons_succ, List.getElem_cons_zero, Act.put, List.setIfInBounds_toArray, List.set_cons_zero, List.set_cons_succ]
    refine wpHead_done (by kernel_rfl) ?_
    have hx1 := HX0.out.trans hHeld
    go_wp2
    go_ret
    exact ⟨ret_bool (by rw [Bool.eq_iff_iff, beq_iff_eq, decide_eq_true_iff]), hx1⟩
  exact AllHead.nil
end Go.Proofs.Ytchokelpimibdaa
