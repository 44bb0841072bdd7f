/- The walk of TextUnquotes: it answers true. Conditions: the text is at most 2^43 bytes long, and the library's two tables are laid. -/
import Derived.Test.YtkjklpalpodbgaaDoorRUnq
namespace Go.Proofs.YtkjklpalpodbgaaDoor
open Go.RowKit
theorem TextUnquotes_l (l : List UInt8) (w : World) (hs : l.length ≤ 8796093022000) (hT : Tabs w) : Calls Tryd.prog 5 #[.string (st l)] w fun e w' => e = .returned (.bool true) ∧ Ext w w' := by
  have hN1 := Unquote_any (st l) w (by rw [st_size]; omega)
  have hN2 := fun wz (hx : Ext w wz) => RUnq_any l wz hs (hT.ext hx)
  rw [tl_st] at hN1
  unfold USays at hN1 hN2
  generalize unqT l = q at *
  obtain ⟨qa, qb, qc⟩ := q
  dsimp only at hN1 hN2
  clear hT hs
  go_enter Tryd.func5, Tryd.ntmps5
  go_wp2_with fail
  refine hN1.mono ?_
  rintro e w1 ⟨rfl, hx1⟩
  go_wp2_with fail
  refine (hN2 _ hx1).mono ?_
  rintro e w2 ⟨rfl, hx2⟩
  go_wp2_with fail
  refine (live_any _).mono ?_
  rintro e w5 ⟨rfl, hx5⟩
  go_wp2
  go_ret
  exact ⟨rfl, hx1.trans (hx2.trans hx5)⟩
theorem TextUnquotes_any (a : ByteArray) (w : World) (ha : a.size ≤ 8796093022000) (hT : Tabs w) : Calls Tryd.prog 5 #[.string a] w fun e w' => e = .returned (.bool true) ∧ Ext w w' := by
  have := TextUnquotes_l (tl a) w (by rw [tl_length]; exact ha) hT
  rwa [st_tl] at this
end Go.Proofs.YtkjklpalpodbgaaDoor
