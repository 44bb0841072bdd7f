/- The walk of AddrSames: it answers true. Conditions: the bounds named. -/
import Derived.Test.YtigkmlhkfpdajaaAd5
namespace Go.Proofs.Ytigkmlhkfpdajaa
open Go.RowKit
set_option maxRecDepth 20000 in
set_option maxHeartbeats 1600000 in
theorem AddrSames_any (a b c d : List UInt8) (w : World) (ha : a.length ≤ 140737488355328) (hb : b.length ≤ 140737488355328) (hd : d.length ≤ 140737488355328) :
    Calls Try.prog 3 #[.agg #[.string (st a), .string (st b)], .agg #[.string (st c), .string (st d)]] w fun e w' => e = .returned (.bool true) ∧ Ext w w' := by
  have h1 := heap_alloc_new w (.cells #[.string (st a), .string (st b)] 23 (0, 0))
  have h2 := heap_alloc2_new w (.cells #[.string (st a), .string (st b)] 23 (0, 0)) (.cells #[.string (st c), .string (st d)] 23 (0, 0))
  have hx0 := ((Ext.refl w).alloc (.cells #[.string (st a), .string (st b)] 23)).alloc (.cells #[.string (st c), .string (st d)] 23)
  have HS1 := fun w => ASame_any a b c d w hb hd
  have HS2 := fun w => ASame_any a b a b w hb hb
  have HU := fun w => AUser_any a b w ha
  have HL := fun (l : List UInt8) (h : l = a ∨ l = b ∨ l = d) w => RLower_any (st l) w (by rw [st_size]; rcases h with rfl | rfl | rfl <;> assumption)
  rw [show decide (a = a ∧ lowL b = lowL b) = true by simp] at HS2
  simp only [tl_st] at HL
  go_enter Try.func3, Try.ntmps3
  obtain ⟨C0, C1, C2⟩ := rows2 (((Ext.refl _).alloc (.cells #[.string (st c), .string (st d)] 23)).obj h1)
  obtain ⟨D0, D1, D2⟩ := rows2 h2
  go_wp2_with fail
  generalize (w.alloc (.cells #[.string (st a), .string (st b)] 23)).alloc (.cells #[.string (st c), .string (st d)] 23) = w0 at *
  clear h1 h2
  by_cases hac : a = c
  · have hq : (a == c) = true := by simpa using hac
    rw [show decide (a = c ∧ lowL b = lowL d) = (lowL b == lowL d) by simp [hac, Bool.beq_eq_decide_eq]] at HS1
    clear hac
    go_region_held3 (fun w' => Ext w0 w') (first | exact (Ext.refl _).drew | assumption) ((go_at_call 5; refine (HL _ ?_ _).mono ?_; (focus (first | exact .inr (.inl rfl) | exact .inr (.inr rfl) | exact .inl rfl)); rintro e w3 ⟨rfl, hx3'⟩; have hx3 : Ext w0 w3 := (by first | exact ((Ext.refl _).drew).trans hx3' | exact Ext.trans (by assumption) hx3'); clear hx3'))
    all_goals
      go_wp2_with fail
      go_region_held3 (fun w' => Ext w0 w') (first | exact hx3.drew | assumption) ((first
        | (go_at_call 6; refine (live_any _).mono ?_; rintro e w5 ⟨rfl, hx5'⟩; have hx5 : Ext w0 w5 := (by first | exact (hx3.drew).trans hx5' | exact Ext.trans (by assumption) hx5'); clear hx5')
        | (go_at_call 5; refine (HL _ ?_ _).mono ?_; (focus (first | exact .inr (.inl rfl) | exact .inr (.inr rfl) | exact .inl rfl)); rintro e w5 ⟨rfl, hx5'⟩; have hx5 : Ext w0 w5 := (by first | exact (hx3.drew).trans hx5' | exact Ext.trans (by assumption) hx5'); clear hx5')
        | (go_at_call 8; refine (HU _).mono ?_; rintro e w5 ⟨rfl, hx5'⟩; have hx5 : Ext w0 w5 := (by first | exact (hx3.drew).trans hx5' | exact Ext.trans (by assumption) hx5'); clear hx5')
        | (go_at_call 7; (first | with_reducible refine (HS2 _).mono ?_ | with_reducible refine (HS1 _).mono ?_); rintro e w5 ⟨rfl, hx5'⟩; have hx5 : Ext w0 w5 := (by first | exact (hx3.drew).trans hx5' | exact Ext.trans (by assumption) hx5'); clear hx5')))
      all_goals
        go_wp2
        go_ret
        exact ⟨by first | rfl | simp, hx0.trans (by assumption)⟩
  · have hq : (a == c) = false := by simpa using hac
    rw [decide_eq_false (by simp [hac])] at HS1
    clear hac
    go_quiet (fail)
    have hx3 : Ext w0 (w0.drewN nq) := (Ext.refl _).drewN _
    go_wp2_with fail
    go_region_held3 (fun w' => Ext w0 w') (first | exact hx3.drew | assumption) ((first
      | (go_at_call 6; refine (live_any _).mono ?_; rintro e w5 ⟨rfl, hx5'⟩; have hx5 : Ext w0 w5 := (by first | exact (hx3.drew).trans hx5' | exact Ext.trans (by assumption) hx5'); clear hx5')
      | (go_at_call 5; refine (HL _ ?_ _).mono ?_; (focus (first | exact .inr (.inl rfl) | exact .inr (.inr rfl) | exact .inl rfl)); rintro e w5 ⟨rfl, hx5'⟩; have hx5 : Ext w0 w5 := (by first | exact (hx3.drew).trans hx5' | exact Ext.trans (by assumption) hx5'); clear hx5')
      | (go_at_call 8; refine (HU _).mono ?_; rintro e w5 ⟨rfl, hx5'⟩; have hx5 : Ext w0 w5 := (by first | exact (hx3.drew).trans hx5' | exact Ext.trans (by assumption) hx5'); clear hx5')
      | (go_at_call 7; (first | with_reducible refine (HS2 _).mono ?_ | with_reducible refine (HS1 _).mono ?_); rintro e w5 ⟨rfl, hx5'⟩; have hx5 : Ext w0 w5 := (by first | exact (hx3.drew).trans hx5' | exact Ext.trans (by assumption) hx5'); clear hx5')))
    all_goals
      go_wp2
      go_ret
      exact ⟨by first | rfl | simp, hx0.trans (by assumption)⟩
end Go.Proofs.Ytigkmlhkfpdajaa
