/- Transactions in memory; the walks of slices.Clone, IndexFunc, DeleteFunc, Delete at them, and of the closures that coord hands over. Conditions: the hypotheses of each theorem. -/
import Derived.Test.YtijopcdjlpafdaaCo1
import Derived.Test.YtijopcdjlpafdaaStop
import Derived.Test.YtijopcdjlpafdaaElem
import Derived.Test.YtijopcdjlpafdaaPhase
import Derived.Deep.RegionLaw
import Derived.Shelf.Abstract
namespace Go.Proofs.Ytijopcdjlpafdaa
open Go.RowKit
def trC (t : Tr) (v : Value) : List Value := [.int .i64 t.id.node, .int .i64 t.id.boot, .int .i64 t.id.n, v, .bool t.done, .bool (hasI t.yes 0), .bool (hasI t.yes 1), .bool (hasI t.yes 2), .bool (hasI t.yes 3), .bool (hasI t.ack 0), .bool (hasI t.ack 1), .bool (hasI t.ack 2), .bool (hasI t.ack 3)]
@[simp] theorem trC_length (t : Tr) (v : Value) : (trC t v).length = 13 := rfl
def RTr : Reading Tr where
  says M w cs t := ∃ A cap, cs = trC t (.slice A t.shards.length cap) ∧ SlM M w A (ib t.shards)
  kept := by
    rintro M w w' cs x ⟨A, cap, h1, h2⟩ hx
    exact ⟨A, cap, h1, h2.kept hx⟩
  old := by
    rintro M N w cs x ⟨A, cap, h1, h2⟩ hx
    exact ⟨A, cap, h1, SlM.old h2 hx⟩
def zTx : Array Value := #[.int .i64 0, .int .i64 0, .int .i64 0, .slice none 0 0, .bool false, .bool false, .bool false, .bool false, .bool false, .bool false, .bool false, .bool false, .bool false]
theorem txT : ElemOf Try.prog 70 85 13 64 := ElemOf.mk' (z := .agg zTx) Try.underlying70 (by kernel_rfl) rfl (by omega)
theorem tx_info : (Try.prog.info? 85).map (fun i => (i.zero, i.size)) = some (some (.agg zTx), 13) := by kernel_rfl
theorem tx_size {cs : List Value} (h : cs.length = 13) : (Try.prog.info? 85).map (·.size) = some cs.length := by
  rw [h]
  exact (zero_of_info tx_info).2
theorem zeroTx : ∀ w, (zeroValue 85).run Try.prog w = .ok (.agg zTx) w := fun _ => by kernel_rfl
theorem size13 : ∀ w, (Go.sizeOf 85).run Try.prog w = .ok 13 w := fun _ => by kernel_rfl
theorem trC_one (t : Tr) (A : Option Addr) (n c : Nat) : ∀ u ∈ trC t (.slice A n c), u.oneCell' = true := by
  intro u hu
  simp only [trC, List.mem_cons, List.not_mem_nil, or_false] at hu
  rcases hu with rfl | rfl | rfl | rfl | rfl | rfl | rfl | rfl | rfl | rfl | rfl | rfl | rfl <;> rfl
theorem RTr.one {M : List Nat} {w : World} {css : List (List Value)} {us : List Tr} (hl : css.length = us.length) (h : ∀ (k : Nat) (cs : List Value) (x : Tr), css[k]? = some cs → us[k]? = some x → RTr.says M w cs x) : ∀ u ∈ css.flatten, u.oneCell' = true := by
  intro u hu
  simp only [List.mem_flatten] at hu
  obtain ⟨cs, hc, hu⟩ := hu
  obtain ⟨k, hk, rfl⟩ := List.mem_iff_getElem.1 hc
  obtain ⟨A, cap, e, _⟩ := h k css[k] us[k] (List.getElem?_eq_getElem hk) (List.getElem?_eq_getElem (by omega))
  rw [e] at hu
  exact trC_one _ _ _ _ u hu
theorem tclone_any (A : Option Addr) (cap : Nat) (us : List Tr) (M : List Nat) (wr w : World) (h : RsM RTr 13 M wr A us) (hr : Ext wr w) (hn : us.length ≤ 1000000) :
    Calls Try.prog 36 #[.slice A us.length cap] w fun e w' => ∃ v, e = .returned v ∧ OwnR RTr 13 85 M wr w' w.heap.size v us ∧ Ext w w' := by
  have hnil := fun w A n c => Lib.run_eql_slice_nil (P := Try.prog) w 70 85 A n c 0 0 Try.underlying70
  cases A with
  | none =>
    have h0 : us = [] := by
      cases us with
      | nil => rfl
      | cons c l => obtain ⟨ad, cs, e, _⟩ := h.at_ (by omega) (k := 0) (by simp); cases e
    subst h0
    go_enter Try.func36, Try.ntmps36
    go_wp2
    go_ret
    exact ⟨_, rfl, OwnR.nil _ _ _ _ _ _ _, Ext.refl _⟩
  | some ad =>
    obtain ⟨css, h1, h2, h3, h4⟩ := h
    have hone := RTr.one h1 h4
    have hlen := flatten_length h2
    have hsl := h3.sl.ext hr
    go_enter Try.func36, Try.ntmps36
    go_wp2_with (at_builtin; refine unstop ?_)
    refine go_on (wpList_app txT (xs := []) (World.ownsRow_made w #[] 0 (Nat.le_refl _) (by simp [maxLen]) rfl) (hsl.ext ((Ext.refl _).alloc _)) rfl rfl rfl rfl (by rw [hlen, h1]) hone (by omega) (by omega) (by simp) ?_)
    intro v' w1 hown1 hg1 hor1
    go_wp2
    go_ret
    exact ⟨_, rfl, ⟨css, h1, h2, by simpa using hown1, h4⟩, ((Ext.refl _).alloc _).grown hg1 (by intro k hk; simp [Value.ownBlock] at hk; omega)⟩
def idI : Option Nat → Int
  | some i => i
  | none => -1
/-- what a predicate's closure tells of a transaction -/
def TellsT (g : Nat) (lb : Array Value) (p : Tr → Bool) (M : List Nat) (w : World) : Prop :=
  ∀ (W : World) (x : Tr) (cs : List Value), Ext w W → RTr.says M W cs x → Calls Try.prog g (#[.agg cs.toArray] ++ lb) W fun e W' => e = .returned (.bool (p x)) ∧ Ext W W'
theorem TellsT.ext {g : Nat} {lb : Array Value} {p : Tr → Bool} {M : List Nat} {w w' : World} (h : TellsT g lb p M w) (hx : Ext w w') : TellsT g lb p M w' :=
  fun W x cs hW hs => h W x cs (hx.trans hW) hs
theorem findIdx_hit {α : Type} {l : List α} {p : α → Bool} {k : Nat} (hk : k < l.length) (h1 : p l[k] = true) (h2 : ∀ j (h : j < k), p (l[j]'(by omega)) = false) : l.findIdx? p = some k := by
  rw [List.findIdx?_eq_some_iff_getElem]
  exact ⟨hk, h1, fun j hj => by simp [h2 j hj]⟩
theorem findIdx_miss {α : Type} {l : List α} {p : α → Bool} (h2 : ∀ j (h : j < l.length), p l[j] = false) : l.findIdx? p = none := by
  rw [List.findIdx?_eq_none_iff]
  intro x hx
  obtain ⟨i, hi, rfl⟩ := List.mem_iff_getElem.1 hx
  exact h2 i hi
set_option maxHeartbeats 1000000 in
theorem tindex_any (g : Nat) (lb : Array Value) (eg : ∀ args w, (callFunc g args).run Try.prog w = .ok (.enter g args) w) (p : Tr → Bool) (M : List Nat) (A : Option Addr) (cap : Nat) (xs : List Tr) (w : World) (h : RsM RTr 13 M w A xs) (hp : TellsT g lb p M w) (hn : xs.length ≤ 1000000) :
    Calls Try.prog 60 #[.slice A xs.length cap, .func (.func g) #[] lb] w fun e w' => e = .returned (.int .i64 (idI (xs.findIdx? p))) ∧ Ext w w' := by
  have HP := Lib.hid hp
  have HH := Lib.hid h
  clear hp h
  go_enter Try.func60, Try.ntmps60
  go_wp2
  go_loopw [5, 8] (fun _ i wr => ∃ k : Nat, k ≤ xs.length ∧ i = .int .i64 k ∧ Ext w wr ∧ Hid (∀ j (h : j < xs.length), j < k → p xs[j] = false)) (fun _ i _ => xs.length - (intOf i).toNat)
  case atStart => exact ⟨0, by omega, rfl, Ext.refl _, Lib.hid fun j _ hj => absurd hj (Nat.not_lt_zero _)⟩
  case round =>
    obtain ⟨k, hk, rfl, hx, HO⟩ := hrel
    by_cases hlt : k < xs.length
    · have hlt2 : (k : Int) < (xs.length : Int) := by omega
      obtain ⟨ad, cs, rfl, _, hcl, hcell, hsays⟩ := HH.out.at_ (by omega) hlt
      have hcell : ∀ j v, cs[j]? = some v → wr.cell? ((ad.add (k * 13)).add j) = some v := fun j v hj => by
        rw [add_addB]
        exact hx.cell (hcell j v hj)
      have hcall := HP.out wr xs[k] cs hx (RTr.kept hsays (.of_ext hx))
      clear hsays
      have HX := Lib.hid hx
      cases hq : p xs[k] with
      | true =>
        rw [hq] at hcall
        have HF : Hid (xs.findIdx? p = some k) := Lib.hid (findIdx_hit hlt hq fun j hj => HO.out j (by omega) hj)
        clear hq
        go_wp2_with (with_reducible refine stop_load 85 ?_)
        refine go_on (wpList_load_elem rfl 85 _ rfl (ad.add (k * 13)) rfl cs _ hcell Try.underlying85 rfl (tx_size hcl) ?_)
        go_wp2_with fail
        refine hcall.mono ?_
        rintro e w2 ⟨rfl, hx2⟩
        go_wp2
        go_ret
        exact ⟨by rw [HF.out]; rfl, HX.out.trans hx2⟩
      | false =>
        rw [hq] at hcall
        have HT := Lib.hid hq
        clear hq
        go_wp2_with (with_reducible refine stop_load 85 ?_)
        refine go_on (wpList_load_elem rfl 85 _ rfl (ad.add (k * 13)) rfl cs _ hcell Try.underlying85 rfl (tx_size hcl) ?_)
        go_wp2_with fail
        refine hcall.mono ?_
        rintro e w2 ⟨rfl, hx2⟩
        go_wp2
        go_roundw
        case rel => exact ⟨k + 1, by omega, by go_num, HX.out.trans hx2, Lib.hid fun j h hj => by
          rcases Nat.lt_or_ge j k with h' | h'
          · exact HO.out j h h'
          · obtain rfl : j = k := by omega
            exact HT.out⟩
        case measure => simp [intOf]; omega
    · have hlt2 : ¬ (k : Int) < (xs.length : Int) := by omega
      have HF : Hid (xs.findIdx? p = none) := Lib.hid (findIdx_miss fun j hj => HO.out j hj (by omega))
      have HX := Lib.hid hx
      go_wp2
      go_ret
      exact ⟨by rw [HF.out]; rfl, HX.out⟩
/-! ## the closures -/
theorem enters_find : ∀ args w, (callFunc 61 args).run Try.prog w = .ok (.enter 61 args) w := enters_of Try.func61 (by kernel_rfl) rfl
theorem enters_lives : ∀ args w, (callFunc 53 args).run Try.prog w = .ok (.enter 53 args) w := enters_of Try.func53 (by kernel_rfl) rfl
theorem enters_done : ∀ args w, (callFunc 56 args).run Try.prog w = .ok (.enter 56 args) w := enters_of Try.func56 (by kernel_rfl) rfl
theorem txi_iff (x y : TxI) : x = y ↔ x.node = y.node ∧ x.boot = y.boot ∧ x.n = y.n := by
  cases x; cases y; simp
def TxAt (w : World) (B : Nat) (id : TxI) : Prop := w.heap[B]? = some (.cells #[.int .i64 id.node, .int .i64 id.boot, .int .i64 id.n] 35 (0, 0))
/-- find's closure: is it the transaction whose name lies at B? -/
theorem find_tells (id : TxI) (B : Nat) (M : List Nat) (w : World) (h : TxAt w B id) :
    TellsT 61 #[.pointer (some ⟨B, 0, none⟩)] (fun t => decide (t.id = id)) M w := by
  intro W x cs hx hs
  obtain ⟨A, cap, rfl, _⟩ := hs
  have hB := hx.obj h
  obtain ⟨c0, c1, c2, cf⟩ := rows3 hB
  clear h cf hB hx
  show Calls Try.prog 61 #[.agg (trC x (.slice A x.shards.length cap)).toArray, .pointer (some ⟨B, 0, none⟩)] W _
  unfold trC
  go_enter Try.func61, Try.ntmps61
  go_wp2
  all_goals
    go_ret
    exact ⟨ret_bool (by simp [txi_iff, *]), (Ext.refl _).alloc _⟩
theorem done_tells (id : TxI) (B : Nat) (M : List Nat) (w : World) (h : TxAt w B id) :
    TellsT 56 #[.pointer (some ⟨B, 0, none⟩)] (fun t => decide (t.id = id)) M w := by
  intro W x cs hx hs
  obtain ⟨A, cap, rfl, _⟩ := hs
  have hB := hx.obj h
  obtain ⟨c0, c1, c2, cf⟩ := rows3 hB
  clear h cf hB hx
  show Calls Try.prog 56 #[.agg (trC x (.slice A x.shards.length cap)).toArray, .pointer (some ⟨B, 0, none⟩)] W _
  unfold trC
  go_enter Try.func56, Try.ntmps56
  go_wp2
  all_goals
    go_ret
    exact ⟨ret_bool (by simp [txi_iff, *]), (Ext.refl _).alloc _⟩
theorem lives_tells (M : List Nat) (w : World) : TellsT 53 #[] (fun t => !t.done) M w := by
  intro W x cs hx hs
  obtain ⟨A, cap, rfl, _⟩ := hs
  clear hx
  show Calls Try.prog 53 #[.agg (trC x (.slice A x.shards.length cap)).toArray] W _
  unfold trC
  go_enter Try.func53, Try.ntmps53
  go_wp2
  go_ret
  exact ⟨rfl, (Ext.refl _).alloc _⟩
end Go.Proofs.Ytijopcdjlpafdaa
