/- Worlds in which nothing has turned but bytes into bytes; calls on no log. Conditions: the hypotheses of each theorem. -/
import Derived.Test.YtklodimokhndoaaC3
import Derived.Laws.BitsAllLaws
namespace Go.Proofs.Ytklodimokhndoaa
open Go.RowKit
theorem xor_one (x : UInt8) : ∃ y : UInt8, bits .xor .u8 (x.toNat : Int) 1 = (y.toNat : Int) := by
  have h1 := x.toNat_lt
  have h2 : x.toNat ^^^ 1 < 256 := Nat.xor_lt_two_pow (n := 8) (by omega) (by omega)
  refine ⟨UInt8.ofNat (x.toNat ^^^ 1), ?_⟩
  rw [show (1 : Int) = ((1 : Nat) : Int) from rfl, u8_xor_nat _ _ (by omega) (by omega), UInt8.toNat_ofNat']
  omega
/-- nothing has turned but bytes into bytes -/
def Shp (w w' : World) : Prop := ∀ (g : Nat) cs t fr, w.heap[g]? = some (.cells cs t fr) →
  ∃ cs', w'.heap[g]? = some (.cells cs' t fr) ∧ (t ≠ 5 → cs' = cs) ∧ ∀ (k : Nat) (b : UInt8), cs[k]? = some (.int .u8 (b.toNat : Int)) → ∃ b' : UInt8, cs'[k]? = some (.int .u8 (b'.toNat : Int))
theorem Shp.refl (w : World) : Shp w w := fun _ cs _ _ h => ⟨cs, h, fun _ => rfl, fun _ b hk => ⟨b, hk⟩⟩
theorem Shp.set {w w' : World} {g : Nat} {cs : Array Value} (h : Shp w w') (hg : w'.heap[g]? = some (.cells cs 5 (0, 0))) (k : Nat) (y : UInt8) : Shp w (w'.setCell ⟨g, k, none⟩ (.int .u8 (y.toNat : Int))) := by
  intro g' cs' t fr' hw
  obtain ⟨cs2, h1, h2, h3⟩ := h g' cs' t fr' hw
  by_cases he : g' = g
  · subst he
    rw [hg] at h1
    cases h1
    refine ⟨cs.setIfInBounds k (.int .u8 (y.toNat : Int)), heap_setCell_same w' g' k _ _ _ hg, fun hne => absurd rfl hne, fun j b hj => ?_⟩
    obtain ⟨b', hb⟩ := h3 j b hj
    rw [Array.getElem?_setIfInBounds]
    split
    · rename_i e
      subst e
      split
      · exact ⟨y, rfl⟩
      · rename_i hlt
        rw [Array.getElem?_eq_none (by omega)] at hb
        cases hb
    · exact ⟨b', hb⟩
  · have hk : Kept [g] w' (w'.setCell ⟨g, k, none⟩ (.int .u8 (y.toNat : Int))) := (Kept.refl _ _).setCell (.inl (by simp)) _
    exact ⟨cs2, hk.heap h1 (by simpa using he), h2, h3⟩
theorem Own.shp {w w' : World} {base n c : Nat} {A : Option Addr} {l : By} (h : Own w base (.slice A n c) l) (hs : Shp w w') {k : Nat} (hk : k < l.length) :
    ∃ (g : Nat) (b : UInt8) (cs : Array Value), A = some ⟨g, 0, none⟩ ∧ base ≤ g ∧ w'.cell? ⟨g, k, none⟩ = some (.int .u8 (b.toNat : Int)) ∧ w'.frozen? ⟨g, k, none⟩ = false ∧ w'.heap[g]? = some (.cells cs 5 (0, 0)) := by
  obtain ⟨g, rfl, hg, _⟩ := h.some_ (by omega)
  have hc := h.cell hk
  rcases owns_type h with h0 | ⟨g', cur, h1, h2⟩
  · cases h0
  · simp [Value.ownBlock] at h1
    subst h1
    rw [cell_of_row w g k _ _ _ h2] at hc
    obtain ⟨cs', q1, _, q3⟩ := hs _ _ _ _ h2
    obtain ⟨b', hb⟩ := q3 k _ hc
    exact ⟨g, b', cs', rfl, hg, by rw [cell_of_row w' g k _ _ _ q1, hb], frozen_of_row w' g k _ _ q1, q1⟩
theorem OwnS.shp {w w' : World} {base n c : Nat} {A : Option Addr} {ls : List By} (h : OwnS w base (.slice A n c) ls) (hs : Shp w w') {i : Nat} (hi : i < ls.length) :
    ∃ (ad : Addr) (A' : Option Addr) (c' : Nat), A = some ad ∧ w'.cell? (ad.add i) = some (.slice A' ls[i].length c') ∧ Own w base (.slice A' ls[i].length c') ls[i] := by
  obtain ⟨vs, h1, h2⟩ := h
  obtain ⟨v, h3, h4⟩ := h2 i ls[i] (List.getElem?_eq_getElem hi)
  obtain ⟨A', c', rfl⟩ := h4.form
  rcases h1.2 with ⟨e, hn⟩ | ⟨g, cap, cur, e, hb, hg, _⟩
  · omega
  · injection e with e1 e2 e3
    subst e1
    obtain ⟨ad, e, hc⟩ := (Sl.own h1 rfl) _ _ h3
    injection e with e
    subst e
    have e1 : ((⟨g, 0, none⟩ : Addr).add i) = ⟨g, i, none⟩ := by unfold Addr.add; split <;> simp_all
    rw [e1, cell_of_row w g _ _ _ _ hg] at hc
    obtain ⟨cs', q1, q2, _⟩ := hs _ _ _ _ hg
    have q2 := q2 (by decide)
    subst q2
    exact ⟨_, A', c', rfl, by rw [e1, cell_of_row w' g _ _ _ _ q1]; exact hc, h4⟩
set_option maxRecDepth 20000 in
theorem wappend_nil (Ar : Option Addr) (m c : Nat) (w : World) : Calls Try.prog 20 #[.pointer none, .slice Ar m c] w fun e w' => e = .returned (.int .i64 1) ∧ Ext w w' := by
  have HB := wbegin_nil w
  go_enter Try.func20, Try.ntmps20
  go_wp2_with fail
  refine HB.mono ?_
  rintro e w1 ⟨rfl, hx1⟩
  go_wp2
  go_ret
  exact ⟨rfl, hx1⟩
set_option maxRecDepth 20000 in
theorem wreset_nil (Ar : Option Addr) (m c : Nat) (w : World) : Calls Try.prog 23 #[.pointer none, .slice Ar m c] w fun e w' => e = .returned (.int .i64 1) ∧ Ext w w' := by
  have HB := wbegin_nil w
  go_enter Try.func23, Try.ntmps23
  go_wp2_with fail
  refine HB.mono ?_
  rintro e w1 ⟨rfl, hx1⟩
  go_wp2
  go_ret
  exact ⟨rfl, hx1⟩
end Go.Proofs.Ytklodimokhndoaa
