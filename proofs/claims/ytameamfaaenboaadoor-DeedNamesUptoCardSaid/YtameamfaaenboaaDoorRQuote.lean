/- The walk of the reference's Quote. Conditions: the text is at most 2^43 bytes long, and the library's two tables are laid. -/
import Derived.Test.YtameamfaaenboaaDoorPlain
namespace Go.Proofs.YtameamfaaenboaaDoor
open Go.RowKit
theorem lets_get {l : List UInt8} {k : Nat} {d : Nat × List UInt8} (h : (letL l)[k]? = some d) : (lets l)[k]? = some d.2 := by
  unfold lets
  rw [List.getElem?_map, h]
  rfl
theorem lets_length (l : List UInt8) : (lets l).length = (letL l).length := by simp [lets]
theorem runE_34 : runE 34 = [34] := by decide
theorem runE_92 : runE 92 = [92] := by decide
theorem runE_inj {c n : Nat} (hc : validN c) (hn : validN n) (h : runE c = runE n) : c = n := by
  have h1 := dec_enc c hc []
  have h2 := dec_enc n hn []
  rw [h] at h1
  rw [h1] at h2
  exact congrArg Prod.fst h2
theorem good_34 {c : Nat} {b : List UInt8} (h : goodD (c, b)) : b = [34] ↔ c = 34 := by
  obtain ⟨hv, hb, _⟩ := h
  simp only at hv hb
  subst hb
  constructor
  · intro e
    exact runE_inj hv (by unfold validN; omega) (by rw [runE_34]; exact e)
  · rintro rfl
    exact runE_34
theorem good_92 {c : Nat} {b : List UInt8} (h : goodD (c, b)) : b = [92] ↔ c = 92 := by
  obtain ⟨hv, hb, _⟩ := h
  simp only at hv hb
  subst hb
  constructor
  · intro e
    exact runE_inj hv (by unfold validN; omega) (by rw [runE_92]; exact e)
  · rintro rfl
    exact runE_92
/-- a row of strings of the call's own: its cells in every world behind -/
theorem OwnL.cells {w : World} {base : Nat} {v : Value} {ls : List (List UInt8)} (h : OwnL w base v ls) (h0 : 0 < ls.length) :
    ∃ ad cap, v = .slice (some ad) ls.length cap ∧ ls.length ≤ cap ∧ cap ≤ 9223372036854775807 ∧ ∀ k b w', ls[k]? = some b → Ext w w' → w'.cell? (ad.add k) = some (.string (st b)) := by
  obtain ⟨A, cap, rfl⟩ := h.form
  have hsl := h.sl
  have hcapn : ls.length ≤ cap ∧ cap ≤ 9223372036854775807 := by
    rcases h.2 with ⟨e, _⟩ | ⟨g, c, cur, e, _, _, h1, h2, _⟩
    · injection e with e1 e2 e3
      omega
    · injection e with e1 e2 e3
      subst e3
      exact ⟨h1, by unfold maxLen at h2; omega⟩
  obtain ⟨ad, rfl⟩ : ∃ ad, A = some ad := by
    obtain ⟨ad, e, _⟩ := hsl 0 ((sv ls)[0]'(by simpa using h0)) (List.getElem?_eq_getElem _)
    exact ⟨ad, e⟩
  refine ⟨ad, cap, rfl, hcapn.1, hcapn.2, fun k b w' hk hx => ?_⟩
  obtain ⟨ad', e, hc⟩ := hsl k (.string (st b)) (by simp [sv, hk])
  cases e
  exact hx.cell hc
end Go.Proofs.YtameamfaaenboaaDoor
