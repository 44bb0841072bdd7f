/- Messages (api.Under) in memory; the walks of slices.Delete and slices.Clone at them, of bag.own and bag.node. Conditions: the lengths named in each theorem. -/
import Derived.Test.YtbanjhfmddhndaaChecked
import Derived.Test.YtbanjhfmddhndaaMut
import Derived.Deep.RegionLaw
namespace Go.Proofs.Ytbanjhfmddhndaa
open Go.RowKit
structure U where
  from_ : Int
  to_ : Int
  by_ : List UInt8
def RU : Reading U where
  says M w cs u := ∃ A cap, cs = [.int .i64 u.from_, .int .i64 u.to_, .slice A u.by_.length cap] ∧ BsM M w A u.by_
  kept := by
    rintro M w w' cs x ⟨A, cap, h1, h2⟩ hx
    exact ⟨A, cap, h1, h2.kept hx⟩
  old := by
    rintro M N w cs x ⟨A, cap, h1, h2⟩ hx
    exact ⟨A, cap, h1, SlM.old h2 hx⟩
theorem undT : ElemOf Try.prog 27 30 3 40 := ElemOf.mk' (z := .agg #[.int .i64 0, .int .i64 0, .slice none 0 0]) Try.underlying27 (by kernel_rfl) rfl (by omega)
theorem RU.one {M : List Nat} {w : World} {css : List (List Value)} {us : List U} (hl : css.length = us.length) (h : ∀ (k : Nat) (cs : List Value) (x : U), css[k]? = some cs → us[k]? = some x → RU.says M w cs x) : ∀ u ∈ css.flatten, u.oneCell' = true := by
  intro u hu
  simp only [List.mem_flatten] at hu
  obtain ⟨cs, hc, hu⟩ := hu
  obtain ⟨k, hk, rfl⟩ := List.mem_iff_getElem.1 hc
  obtain ⟨A, cap, e, _⟩ := h k css[k] us[k] (List.getElem?_eq_getElem hk) (List.getElem?_eq_getElem (by omega))
  rw [e] at hu
  simp at hu
  rcases hu with rfl | rfl | rfl <;> rfl
theorem size3 : ∀ w, (Go.sizeOf 30).run Try.prog w = .ok 3 w := fun _ => by kernel_rfl
theorem zeroU : ∀ w, (zeroValue 30).run Try.prog w = .ok (.agg #[.int .i64 0, .int .i64 0, .slice none 0 0]) w := fun _ => by kernel_rfl
theorem node_any (n : Int) (w : World) : Calls Try.prog 22 #[.int .i64 n] w fun e w' => e = .returned (.bool (decide (0 ≤ n ∧ n < 8))) ∧ w = w' := by
  by_cases h1 : 0 ≤ n
  · go_enter Try.func22, Try.ntmps22
    go_wp2
    all_goals
      go_ret
      exact ⟨ret_bool (by simp [h1]), rfl⟩
  · go_enter Try.func22, Try.ntmps22
    go_wp2
    go_ret
    exact ⟨ret_bool (by simp; omega), rfl⟩
theorem uclone_any (A : Option Addr) (cap : Nat) (us : List U) (M : List Nat) (wr w : World) (h : RsM RU 3 M wr A us) (hr : Ext wr w) (hn : us.length ≤ 1000000) :
    Calls Try.prog 23 #[.slice A us.length cap] w fun e w' => ∃ v, e = .returned v ∧ OwnR RU 3 30 M wr w' w.heap.size v us ∧ Ext w w' := by
  have hnil := fun w A n c => Lib.run_eql_slice_nil (P := Try.prog) w 27 30 A n c 0 0 Try.underlying27
  cases A with
  | none =>
    have h0 : us = [] := by
      cases us with
      | nil => rfl
      | cons c l => obtain ⟨ad, cs, e, _⟩ := h.at_ (by omega) (k := 0) (by simp); cases e
    subst h0
    go_enter Try.func23, Try.ntmps23
    go_wp2
    go_ret
    exact ⟨_, rfl, OwnR.nil _ _ _ _ _ _ _, Ext.refl _⟩
  | some ad =>
    obtain ⟨css, h1, h2, h3, h4⟩ := h
    have hone := RU.one h1 h4
    have hlen := flatten_length h2
    have hsl := h3.sl.ext hr
    go_enter Try.func23, Try.ntmps23
    go_wp2_with (at_builtin; refine unstop ?_)
    refine go_on (wpList_app undT (xs := []) (World.ownsRow_made w #[] 0 (Nat.le_refl _) (by simp [maxLen]) rfl) (hsl.ext ((Ext.refl _).alloc _)) rfl rfl rfl rfl (by rw [hlen, h1]) hone (by omega) (by omega) (by simp) ?_)
    intro v' w1 hown1 hg1 hor1
    go_wp2
    go_ret
    exact ⟨_, rfl, ⟨css, h1, h2, by simpa using hown1, h4⟩, ((Ext.refl _).alloc _).grown hg1 (by intro k hk; simp [Value.ownBlock] at hk; omega)⟩
end Go.Proofs.Ytbanjhfmddhndaa
