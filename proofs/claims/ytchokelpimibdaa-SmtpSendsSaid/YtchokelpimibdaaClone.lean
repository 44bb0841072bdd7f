/- The walk of slices.Clone at bytes: what it answers, and that nothing that was there has turned. Conditions: the lengths named in each theorem. -/
import Derived.Test.YtchokelpimibdaaChecked
import Derived.Test.YtchokelpimibdaaMem
namespace Go.Proofs.Ytchokelpimibdaa
open Go.RowKit
theorem bytesTc : ElemOf Try.prog 22 5 1 1 := ElemOf.mk' (z := .int .u8 0) Try.underlying22 (by kernel_rfl) rfl (by omega)
set_option maxHeartbeats 400000 in
theorem clone_any (A : Option Addr) (cap n : Nat) (l : List UInt8) (w : World) (h : Bs w A l) (hn : l.length ≤ 140737488355328) (hl : n = l.length) :
    Calls Try.prog 35 #[.slice A n cap] w fun e w' => ∃ v, e = .returned v ∧ Own w' w.heap.size v l ∧ Ext w w' := by
  subst hl
  have hnil := fun w A n c => Lib.run_eql_slice_nil (P := Try.prog) w 22 5 A n c 0 0 Try.underlying22
  cases A with
  | none =>
    have h0 : l = [] := by
      cases l with
      | nil => rfl
      | cons c l => obtain ⟨ad, e, _⟩ := h 0 _ (bv_get (l := c :: l) (k := 0) (by simp)); cases e
    subst h0
    go_enter Try.func35, Try.ntmps35
    go_wp2
    go_ret
    exact ⟨_, rfl, Own.nil _ _, Ext.refl _⟩
  | some ad =>
    go_enter Try.func35, Try.ntmps35
    go_wp2_with (at_builtin; refine unstop ?_)
    refine go_on (wpList_appB bytesTc (l := []) (own_of (World.ownsRow_made w #[] 0 (Nat.le_refl _) (by simp [maxLen]) rfl) rfl) (h.ext ((Ext.refl _).alloc _)) rfl rfl rfl rfl rfl (by simp; omega) (by simp) ?_)
    intro v' w1 hown1 hg1 hor1
    go_wp2
    go_ret
    exact ⟨_, rfl, by simpa using hown1, ((Ext.refl _).alloc _).grown hg1 (by intro k hk; simp [Value.ownBlock] at hk; omega)⟩
end Go.Proofs.Ytchokelpimibdaa
