/- The walks of slices.Clone at addresses, and of the session's mail. Conditions: the hypotheses of each theorem. -/
import Derived.Test.YtchokelpimibdaaSm2
import Derived.Deep.RegionLaw
namespace Go.Proofs.Ytchokelpimibdaa
open Go.RowKit
theorem adT : ElemOf Try.prog 36 35 2 32 := ElemOf.mk' (z := .agg zAddr) Try.underlying36 (by kernel_rfl) rfl (by omega)
theorem RAd.one {M : List Nat} {w : World} {css : List (List Value)} {us : List Ad} (hl : css.length = us.length) (h : ∀ (k : Nat) (cs : List Value) (x : Ad), css[k]? = some cs → us[k]? = some x → RAd.says M w cs x) : ∀ u ∈ css.flatten, u.oneCell' = true := by
  intro u hu
  simp only [List.mem_flatten] at hu
  obtain ⟨cs, hc, hu⟩ := hu
  obtain ⟨k, hk, rfl⟩ := List.mem_iff_getElem.1 hc
  have e : css[k] = _ := h k css[k] us[k] (List.getElem?_eq_getElem hk) (List.getElem?_eq_getElem (by omega))
  rw [e] at hu
  simp at hu
  rcases hu with rfl | rfl <;> rfl
theorem aclone_any (A : Option Addr) (cap : Nat) (us : List Ad) (M : List Nat) (w : World) (h : RsM RAd 2 M w A us) (hn : us.length ≤ 1000000) :
    Calls Try.prog 25 #[.slice A us.length cap] w fun e w' => ∃ v, e = .returned v ∧ OwnR RAd 2 35 [] w' w' w.heap.size v us ∧ Ext w w' := by
  have hnil := fun w A n c => Lib.run_eql_slice_nil (P := Try.prog) w 36 35 A n c 0 0 Try.underlying36
  cases A with
  | none =>
    have h0 : us = [] := by
      cases us with
      | nil => rfl
      | cons c l => obtain ⟨ad, cs, e, _⟩ := h.at_ (by omega) (k := 0) (by simp); cases e
    subst h0
    go_enter Try.func25, Try.ntmps25
    go_wp2
    go_ret
    exact ⟨_, rfl, OwnR.nil _ _ _ _ _ _ _, Ext.refl _⟩
  | some ad =>
    obtain ⟨css, h1, h2, h3, h4⟩ := h
    have hone := RAd.one h1 h4
    have hlen := flatten_length h2
    have hsl := h3.sl
    go_enter Try.func25, Try.ntmps25
    go_wp2_with (at_builtin; refine unstop ?_)
    refine go_on (wpList_app adT (xs := []) (World.ownsRow_made w #[] 0 (Nat.le_refl _) (by simp [maxLen]) rfl) (hsl.ext ((Ext.refl _).alloc _)) rfl rfl rfl rfl (by rw [hlen, h1]) hone (by omega) (by omega) (by simp) ?_)
    intro v' w1 hown1 hg1 hor1
    go_wp2
    go_ret
    exact ⟨_, rfl, ⟨css, h1, h2, by simpa using hown1, fun k cs x hk hx => h4 k cs x hk hx⟩, ((Ext.refl _).alloc _).grown hg1 (by intro k hk; simp [Value.ownBlock] at hk; omega)⟩
/-! ## mail -/
theorem st_len (l : By) : (st l).size = l.length := by simp [st]; rfl
theorem tl_st' (l : By) : tl (st l) = l := tl_st l
theorem behind_st (s word : By) (w : World) (hw : word.length ≤ 140737488355328) :
    Calls Try.prog 51 #[.string (st s), .string (st word)] w fun e w' => e = .returned (.tuple #[.string (st (behindT s word).1), .bool (behindT s word).2]) ∧ Ext w w' := by
  have := behind_any (st s) (st word) w (by rw [st_len]; exact hw)
  rw [tl_st, tl_st] at this
  exact this
theorem path_st (s : By) (w : World) (hs : s.length ≤ 140737488355320) : Calls Try.prog 52 #[.string (st s)] w fun e w' => e = .returned (.tuple #[.agg #[.string (st (pathT s).1), .string (st (pathT s).2.1)], .string (st (pathT s).2.2.1), .int .i64 ((pathT s).2.2.2 : Nat)]) ∧ Ext w w' := by
  have := Path_any (st s) w (by rw [st_len]; exact hs)
  rw [tl_st] at this
  exact this
theorem number_st (s : By) (w : World) (hs : s.length ≤ 140737488355328) : Calls Try.prog 53 #[.string (st s)] w fun e w' => e = .returned (.tuple #[.int .i64 (numberL s).1, .int .i64 (numberL s).2.1, .int .i64 (numberL s).2.2]) ∧ Ext w w' := by
  have := Number_any (st s) w (by rw [st_len]; exact hs)
  rw [tl_st] at this
  exact this
theorem behindT_le (s word : By) : (behindT s word).1.length ≤ s.length := by
  unfold behindT
  split
  · simp
  · simp
theorem pathT_more (s : By) : (pathT s).2.2.1.length ≤ s.length := by
  unfold pathT
  split
  · simp
  · split
    · simp
    · simp
end Go.Proofs.Ytchokelpimibdaa
