/- Worlds in which nothing has turned but bytes into bytes. Conditions: the hypotheses of each theorem. -/
import Derived.Test.YthlppbbejdeeoaaDd15
import Derived.Laws.BitsAllLaws
namespace Go.Proofs.Ythlppbbejdeeoaa
open Go.RowKit
theorem xor_one (x : UInt8) : ∃ y : UInt8, bits .xor .u8 (x.toNat : Int) 1 = (y.toNat : Int) := by
  have h1 := x.toNat_lt
  have h2 : x.toNat ^^^ 1 < 256 := Nat.xor_lt_two_pow (n := 8) (by omega) (by omega)
  refine ⟨UInt8.ofNat (x.toNat ^^^ 1), ?_⟩
  rw [show (1 : Int) = ((1 : Nat) : Int) from rfl, u8_xor_nat _ _ (by omega) (by omega), UInt8.toNat_ofNat']
  omega
/-- nothing has turned but bytes into bytes -/
def Shp (w w' : World) : Prop := ∀ (g : Nat) cs t fr, w.heap[g]? = some (.cells cs t fr) →
  ∃ cs', w'.heap[g]? = some (.cells cs' t fr) ∧ (t ≠ 5 → cs' = cs) ∧ ∀ (k : Nat) (b : UInt8), cs[k]? = some (.int .u8 (b.toNat : Int)) → ∃ b' : UInt8, cs'[k]? = some (.int .u8 (b'.toNat : Int))
theorem Shp.refl (w : World) : Shp w w := fun _ cs _ _ h => ⟨cs, h, fun _ => rfl, fun _ b hk => ⟨b, hk⟩⟩
theorem Shp.set {w w' : World} {g : Nat} {cs : Array Value} (h : Shp w w') (hg : w'.heap[g]? = some (.cells cs 5 (0, 0))) (k : Nat) (y : UInt8) : Shp w (w'.setCell ⟨g, k, none⟩ (.int .u8 (y.toNat : Int))) := by
  intro g' cs' t fr' hw
  obtain ⟨cs2, h1, h2, h3⟩ := h g' cs' t fr' hw
  by_cases he : g' = g
  · subst he
    rw [hg] at h1
    cases h1
    refine ⟨cs.setIfInBounds k (.int .u8 (y.toNat : Int)), heap_setCell_same w' g' k _ _ _ hg, fun hne => absurd rfl hne, fun j b hj => ?_⟩
    obtain ⟨b', hb⟩ := h3 j b hj
    rw [Array.getElem?_setIfInBounds]
    split
    · rename_i e
      subst e
      split
      · exact ⟨y, rfl⟩
      · rename_i hlt
        rw [Array.getElem?_eq_none (by omega)] at hb
        cases hb
    · exact ⟨b', hb⟩
  · have hk : Kept [g] w' (w'.setCell ⟨g, k, none⟩ (.int .u8 (y.toNat : Int))) := (Kept.refl _ _).setCell (.inl (by simp)) _
    exact ⟨cs2, hk.heap h1 (by simpa using he), h2, h3⟩
theorem Own.shp {w w' : World} {base n c : Nat} {A : Option Addr} {l : By} (h : Own w base (.slice A n c) l) (hs : Shp w w') {k : Nat} (hk : k < l.length) :
    ∃ (g : Nat) (b : UInt8) (cs : Array Value), A = some ⟨g, 0, none⟩ ∧ base ≤ g ∧ w'.cell? ⟨g, k, none⟩ = some (.int .u8 (b.toNat : Int)) ∧ w'.frozen? ⟨g, k, none⟩ = false ∧ w'.heap[g]? = some (.cells cs 5 (0, 0)) := by
  obtain ⟨g, rfl, hg, _⟩ := h.some_ (by omega)
  have hc := h.cell hk
  rcases owns_type h with h0 | ⟨g', cur, h1, h2⟩
  · cases h0
  · simp [Value.ownBlock] at h1
    subst h1
    rw [cell_of_row w g k _ _ _ h2] at hc
    obtain ⟨cs', q1, _, q3⟩ := hs _ _ _ _ h2
    obtain ⟨b', hb⟩ := q3 k _ hc
    exact ⟨g, b', cs', rfl, hg, by rw [cell_of_row w' g k _ _ _ q1, hb], frozen_of_row w' g k _ _ q1, q1⟩
theorem OwnDs.shp {w w' : World} {base n c : Nat} {A : Option Addr} {ds : List Dd} (h : OwnDs w base (.slice A n c) ds) (hs : Shp w w') {i : Nat} (hi : i < ds.length) :
    ∃ (ad : Addr) (A' : Option Addr) (c' : Nat), A = some ad ∧ w'.cell? ⟨(ad.add (i * 10)).block, (ad.add (i * 10)).off + 9, none⟩ = some (.slice A' ds[i].bytes.length c') ∧ Own w base (.slice A' ds[i].bytes.length c') ds[i].bytes := by
  obtain ⟨css, h1, h2, h3, h4⟩ := h
  have hi' : i < css.length := by omega
  obtain ⟨pv, h5, h6⟩ := h4 i css[i] ds[i] (List.getElem?_eq_getElem hi') (List.getElem?_eq_getElem hi)
  obtain ⟨A', c', rfl⟩ := h6.form
  have hv := flatten_get h2 i 9 _ (List.getElem?_eq_getElem hi') (by omega)
  rw [h5] at hv
  have hv : css.flatten[i * 10 + 9]? = some (.slice A' ds[i].bytes.length c') := by rw [hv]; rfl
  rcases h3.2 with ⟨e, hn⟩ | ⟨g, cap, cur, e, hb, hg, _⟩
  · omega
  · injection e with e1 e2 e3
    subst e1
    obtain ⟨ad, e, hc⟩ := (Sl.own h3 rfl) _ _ hv
    injection e with e
    subst e
    rw [add_pos' _ (i * 10 + 8)] at hc
    simp only [Nat.zero_add] at hc
    rw [cell_of_row w g _ _ _ _ hg] at hc
    obtain ⟨cs', q1, q2, _⟩ := hs _ _ _ _ hg
    have q2 := q2 (by decide)
    subst q2
    refine ⟨_, A', c', rfl, ?_, h6⟩
    have e1 : ((⟨g, 0, none⟩ : Addr).add (i * 10)).block = g := addr_add_block _ _
    have e2 : ((⟨g, 0, none⟩ : Addr).add (i * 10)).off = i * 10 := by unfold Addr.add; split <;> simp_all
    rw [e1, e2, cell_of_row w' g _ _ _ _ q1]
    exact hc
theorem putAllT_no {ds : List Dd} (h : (putAllT ds).2 ≠ 0) : (putAllT ds).1 = [] := by
  unfold putAllT at *
  split
  · rfl
  · rename_i h1
    split
    · rfl
    · rename_i h2
      split
      · rfl
      · rename_i h3
        split
        · rfl
        · rename_i h4
          rw [if_neg h1, if_neg h2, if_neg h3, if_neg h4] at h
          exact absurd rfl h
end Go.Proofs.Ythlppbbejdeeoaa
