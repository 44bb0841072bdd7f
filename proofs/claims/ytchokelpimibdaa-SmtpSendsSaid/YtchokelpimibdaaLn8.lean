/- The walks of Body, the program's and the reference's; both buffers side by side. Conditions: those of IsLn and IsBuf. -/
import Derived.Test.YtchokelpimibdaaLn7
namespace Go.Proofs.Ytchokelpimibdaa
open Go.RowKit
theorem own_keptN {N : List Nat} {w w' : World} {base : Nat} {v : Value} {l : List UInt8} (h : Own w base v l) (hk : Kept N w w') (hn : ∀ k, v.ownBlock = some k → k ∉ N) : Own w' base v l := by
  refine ⟨h.1, ?_⟩
  rcases h.2 with h0 | ⟨g, cap, cur, h1, h2, h3, h4⟩
  · exact .inl h0
  · exact .inr ⟨g, cap, cur, h1, h2, hk.heap h3 (hn g (by rw [h1]; rfl)), h4⟩
theorem own_keptP {w w' : World} {base p : Nat} {v : Value} {l : List UInt8} (h : Own w base v l) (hk : Kept [p] w w') (hp : p < base) : Own w' base v l :=
  own_keptN h hk fun k hk' hm => by
    have := (h.lt k hk').1
    simp at hm
    omega
theorem unE_or (l : List UInt8) : unE l = 0 ∨ (unE l = 3 ∧ unN l = 0) := by
  unfold unE unN
  cases fin l <;> simp
section
variable {M : List Nat} {p : Nat} {l : List UInt8}
set_option maxHeartbeats 1000000 in
theorem LBody_any (w : World) (h : IsLn M w p l) (hp : p ∈ M) (hM : ∀ k ∈ M, k < w.heap.size) (hll : l.length ≤ 16384) (hm : ML w) :
    Calls Try.prog 23 #[pt p] w fun e w' => ∃ A c, e = .returned (.tuple #[.slice A (unL l).length c, .int .i64 (unE l)]) ∧ Own w' w.heap.size (.slice A (unL l).length c) (unL l) ∧ Kept [p] w w' ∧ IsLn M w' p (l.drop (unN l)) := by
  have h' := h
  obtain ⟨A, c, hr, hb, hlc, hcm, hA⟩ := h
  have c0 := (row1_cell hr).1 w (Ext.refl _)
  have hpl := hM p hp
  have H1 := LUnstuff_any A l.length c l w hb.bs rfl hlc hA hm (by omega)
  have HT := fun W (hx : Ext w W) => take_any W (h'.ext hx) hp (fun k hk => Nat.lt_of_lt_of_le (hM k hk) hx.size) hll (unN l : Nat) 0 (unN l) (unN l) rfl (by omega) (unN_le l) (by omega)
  have H' := Lib.hid h'
  clear h' hr hb hM hA hm
  have hun : (unN l : Int) ≤ 16384 := by have := unN_le l; omega
  have hun0 : (0 : Int) ≤ (unN l : Int) := by omega
  unfold pt at *
  unfold UnSays at H1
  rcases unE_or l with h0 | ⟨h0, h1⟩
  · rw [h0] at H1 ⊢
    clear h0
    generalize unN l = n at *
    generalize unL l = lu at *
    go_enter Try.func23, Try.ntmps23
    go_wp2_with fail
    refine H1.mono ?_
    rintro e w1 ⟨B, b, rfl, ho, hx⟩
    go_wp2_with fail
    refine (HT w1 hx).mono ?_
    rintro e w2 ⟨B2, b2, rfl, -, hk, h3⟩
    have H3 := Lib.hid (h3.old (N := M) (fun k hk => .inl (List.mem_append_right _ hk)))
    have HO := Lib.hid (own_keptP ho hk hpl)
    clear h3 ho H1 HT
    go_wp2
    go_ret2
    exact ⟨B, b, rfl, HO.out, (Kept.of_ext hx).trans hk, H3.out⟩
  · rw [h0] at H1 ⊢
    rw [h1] at H1 ⊢
    rw [List.drop_zero]
    clear h0 h1 HT hun hun0
    generalize unL l = lu at *
    go_enter Try.func23, Try.ntmps23
    go_wp2_with fail
    refine H1.mono ?_
    rintro e w1 ⟨B, b, rfl, ho, hx⟩
    have HO := Lib.hid ho
    clear ho H1
    go_wp2
    go_ret2
    exact ⟨B, b, rfl, HO.out, .of_ext hx, H'.out.ext hx⟩
end
end Go.Proofs.Ytchokelpimibdaa
