/- The walk of TextQuoteBack: it answers true. Condition: the lengths named in the theorem. -/
import Derived.Test.YtkjklpalpodbgaaText15
namespace Go.Proofs.Ytkjklpalpodbgaa
open Go.RowKit
theorem TextQuoteBack_l (l m : List UInt8) (w : World) (hl : l.length ≤ 140737488351232) (hm : m.length ≤ 140737488351232) : Calls Try.prog 6 #[.string (st l), .string (st m)] w fun e w' => e = .returned (.bool true) ∧ Ext w w' := by
  have hQ := Quote_any (st l) w (by rw [st_size]; omega)
  rw [tl_st] at hQ
  have hqu := fun h => unq_quote (l := l) m h
  have hqb := fun h => quote_bad (l := l) h
  have hql := quote_len l
  unfold QSays at hQ
  obtain ⟨q, place, er, hq⟩ : ∃ q place er, quoteT l = (q, place, er) := ⟨_, _, _, rfl⟩
  rw [hq] at hQ hqu hqb hql
  dsimp only at hQ hqu hqb hql
  by_cases h0 : er = 0
  · subst h0
    have hu := hqu rfl
    have hU := fun wz => Unquote_any (st (q ++ m)) wz (by rw [st_size]; simp; omega)
    rw [tl_st] at hU
    unfold USays at hU
    rw [hu] at hU
    dsimp only at hU
    have hc1 : ¬ 9223372036854775807 < q.length + m.length := by omega
    clear hqu hqb hu hq
    go_enter Try.func6, Try.ntmps6
    go_wp2_with fail
    refine hQ.mono ?_
    rintro e w1 ⟨rfl, hx1⟩
    clear hQ
    go_wp2_with fail
    refine (hU _).mono ?_
    rintro e w2 ⟨rfl, hx2⟩
    clear hU
    go_wp2_with fail
    refine (live_any _).mono ?_
    rintro e w3 ⟨rfl, hx3⟩
    go_wp2
    go_ret
    exact ⟨rfl, hx1.trans (hx2.trans hx3)⟩
  · have hb := hqb h0
    subst hb
    have h2 : ((er : Int) != 0) = true := by simpa using h0
    clear hqu hqb hq h0
    go_enter Try.func6, Try.ntmps6
    go_wp2_with fail
    refine hQ.mono ?_
    rintro e w1 ⟨rfl, hx1⟩
    clear hQ
    go_wp2_with fail
    refine (live_any _).mono ?_
    rintro e w3 ⟨rfl, hx3⟩
    go_wp2
    go_ret
    exact ⟨rfl, hx1.trans hx3⟩
theorem TextQuoteBack_any (a b : ByteArray) (w : World) (ha : a.size ≤ 140737488351232) (hb : b.size ≤ 140737488351232) : Calls Try.prog 6 #[.string a, .string b] w fun e w' => e = .returned (.bool true) ∧ Ext w w' := by
  have := TextQuoteBack_l (tl a) (tl b) w (by rw [tl_length]; exact ha) (by rw [tl_length]; exact hb)
  rwa [st_tl, st_tl] at this
end Go.Proofs.Ytkjklpalpodbgaa
