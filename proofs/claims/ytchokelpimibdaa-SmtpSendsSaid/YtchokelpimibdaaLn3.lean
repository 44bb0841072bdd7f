/- The walks of lines.Line and Raw, and of the reference's ends, begins, New, take, Feed, Line, Raw, Fork. Conditions: those of IsLn and IsBuf, the lengths named. -/
import Derived.Test.YtchokelpimibdaaLn2
namespace Go.Proofs.Ytchokelpimibdaa
open Go.RowKit
section
variable {M : List Nat} {p : Nat} {l : List UInt8}
set_option maxHeartbeats 2000000 in
theorem LLine_any (w : World) (h : IsLn M w p l) (hp : p ∈ M) (hM : ∀ k ∈ M, k < w.heap.size) (hll : l.length ≤ 16384) (hm : ML w) :
    Calls Try.prog 26 #[pt p] w fun e w' => e = .returned (.tuple #[.string (st (lineS l)), .int .i64 (lineE l)]) ∧ Kept [p] w w' ∧ IsLn M w' p (lineL l) := by
  have h' := h
  obtain ⟨A, c, hr, hb, hlc, hcm, hA⟩ := h
  have C0 := (row1_cell hr).1
  have HI := fun W g (hx : Ext w W) (hb2 : Bs W (some ⟨g, 0, none⟩) [13, 10]) => index_any A l.length c l ⟨g, 0, none⟩ W (hb.bs.ext hx) hb2 (hm.ext hx) hA rfl hlc (by omega)
  have HT := fun W (hx : Ext w W) N (n m : Nat) h1 h2 h3 => take_any W (h'.ext hx) hp (fun k hk => Nat.lt_of_lt_of_le (hM k hk) hx.size) hll N 2 n m h1 h2 h3 (by omega)
  have H' := Lib.hid h'
  clear h' hr hb hM hA
  unfold pt at *
  go_enter Try.func26, Try.ntmps26
  go_wp2_with fail
  go_region_held3 (fun w' => Ext w w') (first | exact (Ext.refl _).drew | assumption) ((first
    | (go_at_call 30; refine (end_any _).mono ?_; rintro e w1 ⟨g, rfl, hx1, hb1⟩; have hx1' : Ext w w1 := (Ext.refl w).drew.trans hx1)
    | (go_at_call 29; refine (HI _ g hx1' hb1).mono ?_; rintro e w2 ⟨rfl, hx2⟩; have hx2' : Ext w w2 := hx1'.trans hx2)))
  have hsp := fun k => fnd_lt (l := l) (k := k)
  cases hf : fnd l with
  | none =>
    have e1 : idxI l = -1 := by unfold idxI; rw [hf]
    have e2 : lineS l = [] := by unfold lineS; rw [hf]
    have e3 : lineE l = 3 := by unfold lineE; rw [hf]
    have e4 : lineL l = l := by unfold lineL; rw [hf]
    rw [e1]
    have E2 := Lib.hid e2
    have E3 := Lib.hid e3
    have E4 := Lib.hid e4
    clear hx1 hx1' hb1 hx2 HI HT C0 hsp e1 e2 e3 e4 hf
    go_wp2
    go_ret2
    rw [E2.out, E3.out, E4.out]
    exact ⟨rfl, .of_ext hx2', H'.out.ext hx2'⟩
  | some k =>
    have hk := hsp k hf
    have e1 : idxI l = k := by unfold idxI; rw [hf]
    have hk0 : (0 : Int) ≤ (k : Int) := by omega
    have hk1 : (k : Int) ≤ 16384 := by omega
    have HTT := HT w2 hx2' ((k : Int) + 2) (k + 2) k (by omega) (by omega) (by omega)
    rw [e1]
    by_cases hbig : 1024 < k
    · have e2 : lineS l = [] := by unfold lineS; rw [hf]; simp only; rw [if_pos hbig]
      have e3 : lineE l = 6 := by unfold lineE; rw [hf]; simp only; rw [if_pos hbig]
      have e4 : lineL l = l.drop (k + 2) := by unfold lineL; rw [hf]
      have E2 := Lib.hid e2
      have E3 := Lib.hid e3
      have E4 := Lib.hid e4
      have hbi : (1024 : Int) < (k : Int) := by omega
      clear hx1 hx1' hb1 hx2 HI HT C0 hsp e1 e2 e3 e4 hf hbig
      go_wp2_with fail
      refine HTT.mono ?_
      rintro e w3 ⟨B, b, rfl, ho, hk3, h3⟩
      have h3 := h3.old (N := M) (fun k hk => .inl (List.mem_append_right _ hk))
      have H3 := Lib.hid h3
      clear h3 ho HTT
      go_wp2
      go_ret2
      rw [E2.out, E3.out, E4.out]
      exact ⟨rfl, (Kept.of_ext hx2').trans hk3, H3.out⟩
    · have e2 : lineS l = l.take k := by unfold lineS; rw [hf]; simp only; rw [if_neg hbig]
      have e3 : lineE l = 0 := by unfold lineE; rw [hf]; simp only; rw [if_neg hbig]
      have e4 : lineL l = l.drop (k + 2) := by unfold lineL; rw [hf]
      have E2 := Lib.hid e2
      have E3 := Lib.hid e3
      have E4 := Lib.hid e4
      have hbi : ¬ (1024 : Int) < (k : Int) := by omega
      clear hx1 hx1' hb1 hx2 HI HT C0 hsp e1 e2 e3 e4 hf hbig
      go_wp2_with fail
      refine HTT.mono ?_
      rintro e w3 ⟨B, b, rfl, ho, hk3, h3⟩
      have h3 := h3.old (N := M) (fun k hk => .inl (List.mem_append_right _ hk))
      have hcv := run_str (P := Try.prog) Try.underlying22 Try.underlying5 Try.underlying9 ho.bs k b (by simp; omega)
      have H3 := Lib.hid h3
      clear h3 ho HTT
      go_wp2
      go_ret2
      rw [E2.out, E3.out, E4.out]
      exact ⟨rfl, (Kept.of_ext hx2').trans hk3, H3.out⟩
end
theorem u8_ne {x : UInt8} (n : Nat) (hn : n < 256) (h : x ≠ UInt8.ofNat n) : ((x.toNat : Int) == (n : Int)) = false := by
  rw [beq_eq_false_iff_ne]
  intro e
  apply h
  apply UInt8.toNat_inj.1
  rw [UInt8.toNat_ofNat']
  omega
/-! ## the reference's -/
theorem REnds_any (A : Option Addr) (n c : Nat) (l : List UInt8) (k : Nat) (w : World) (h : Bs w A l) (hn : n = l.length) (hk : k ≤ 140737488355328) : Calls Try.prog 42 #[.slice A n c, .int .i64 k] w fun e w' => e = .returned (.bool (endsB l k)) ∧ w' = w := by
  subst hn
  by_cases hlt : k + 1 < l.length
  · obtain ⟨ad, rfl, h0⟩ := h.at_ (k := k) (by omega)
    obtain ⟨ad', e, h1⟩ := h.at_ (k := k + 1) hlt
    cases e
    have c0 := h0 w (Ext.refl _)
    have c1 := h1 w (Ext.refl _)
    rw [add_pos'] at c1
    have hE : endsB l k = (l[k] == 13 && l[k + 1] == 10) := by
      unfold endsB
      rw [List.getElem?_eq_getElem (by omega), List.getElem?_eq_getElem hlt]
      simp
    rw [hE]
    have hlt1 : (k : Int) + 1 < (l.length : Int) := by omega
    have hlt2 : (k : Int) < (l.length : Int) := by omega
    generalize l[k] = x at *
    generalize l[k + 1] = y at *
    clear h h0 h1 hE hlt
    by_cases hx : x = 13
    · subst hx
      by_cases hy : y = 10
      · subst hy
        go_enter Try.func42, Try.ntmps42
        go_wp2
        go_ret
        exact ⟨rfl, rfl⟩
      · have hy' : ((y.toNat : Int) == 10) = false := u8_ne 10 (by omega) hy
        have hz : (y == 10) = false := by simpa using hy
        rw [hz]
        clear hy
        go_enter Try.func42, Try.ntmps42
        go_wp2
        go_ret
        exact ⟨rfl, rfl⟩
    · have hx' : ((x.toNat : Int) == 13) = false := u8_ne 13 (by omega) hx
      have hz : (x == 13) = false := by simpa using hx
      rw [hz]
      clear hx
      go_enter Try.func42, Try.ntmps42
      go_wp2
      go_ret
      exact ⟨rfl, rfl⟩
  · have hE : endsB l k = false := by
      cases he : endsB l k with
      | false => rfl
      | true => have := ends_lt he; omega
    rw [hE]
    have hlt1 : ¬ (k : Int) + 1 < (l.length : Int) := by omega
    clear h hE hlt
    go_enter Try.func42, Try.ntmps42
    go_wp2
    go_ret
    exact ⟨rfl, rfl⟩
theorem RBegins_any (A : Option Addr) (n c : Nat) (l : List UInt8) (k : Nat) (w : World) (h : Bs w A l) (hn : n = l.length) (hk : k ≤ 140737488355328) : Calls Try.prog 28 #[.slice A n c, .int .i64 k] w fun e w' => e = .returned (.bool (beg l k)) ∧ w' = w := by
  subst hn
  by_cases h0 : k = 0
  · subst h0
    rw [beg_zero]
    clear h
    go_enter Try.func28, Try.ntmps28
    go_wp2
    go_ret
    exact ⟨rfl, rfl⟩
  · have hk0 : ((k : Int) == 0) = false := by simpa using h0
    by_cases h2 : 2 ≤ k
    · have HE := REnds_any A l.length c l (k - 2) w h rfl (by omega)
      have e1 : ((k - 2 : Nat) : Int) = (k : Int) - 2 := by omega
      rw [e1] at HE
      have e2 : beg l k = endsB l (k - 2) := by
        unfold beg
        simp [h0, h2]
      rw [e2]
      generalize endsB l (k - 2) = b at *
      have hk2 : (2 : Int) ≤ (k : Int) := by omega
      clear h h0 e1 e2 h2
      go_enter Try.func28, Try.ntmps28
      go_wp2_with fail
      refine HE.mono ?_
      rintro e w1 ⟨rfl, rfl⟩
      go_wp2
      go_ret
      exact ⟨rfl, rfl⟩
    · have e2 : beg l k = false := by
        unfold beg
        simp [h0, h2]
      rw [e2]
      have hk2 : ¬ (2 : Int) ≤ (k : Int) := by omega
      clear h h0 e2 h2
      go_enter Try.func28, Try.ntmps28
      go_wp2
      go_ret
      exact ⟨rfl, rfl⟩
end Go.Proofs.Ytchokelpimibdaa
