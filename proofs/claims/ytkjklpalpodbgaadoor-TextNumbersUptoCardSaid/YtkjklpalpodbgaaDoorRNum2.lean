/- The walk of the reference's Number. Conditions: the text is at most 2^43 bytes long, and the library's two tables are laid. -/
import Derived.Test.YtkjklpalpodbgaaDoorRNum
namespace Go.Proofs.YtkjklpalpodbgaaDoor
open Go.RowKit
set_option maxHeartbeats 1000000 in
theorem RNumber_any (l : List UInt8) (w : World) (hs : l.length ≤ 8796093022000) (hT : Tabs w) : Calls Tryd.prog 7 #[.string (st l)] w (NSays l w) := by
  have hL := Letters_any l w hs hT
  have hll := lets_len _ l (Nat.le_refl _)
  clear hT
  go_enter Tryd.func7, Tryd.ntmps7
  go_wp2_with fail
  refine hL.mono ?_
  rintro e w1 ⟨v, rfl, ho, hx⟩
  clear hL
  obtain ⟨A, cap, rfl⟩ := ho.form
  have hsl := ho.sl
  have hcapn : (lets l).length ≤ cap ∧ cap ≤ 9223372036854775807 := by
    rcases ho.2 with ⟨e, _⟩ | ⟨g, c, cur, e, _, _, h1, h2, _⟩
    · injection e with e1 e2 e3
      simp only [e2, e3]
      omega
    · injection e with e1 e2 e3
      subst e3
      exact ⟨h1, by unfold maxLen at h2; omega⟩
  by_cases hne : l = []
  · subst hne
    rw [lets_nil]
    go_wp2
    go_ret3
    exact NSays.empty hx
  · have h0 : 0 < l.length := List.length_pos_iff.2 hne
    have h00 := (Ahead.zero l).lt.2 h0
    obtain ⟨ad, rfl, hc0⟩ : ∃ ad, A = some ad ∧ True := by
      obtain ⟨ad, e, _⟩ := hsl 0 ((sv (lets l))[0]'(by simpa using h00)) (List.getElem?_eq_getElem _)
      exact ⟨ad, e, trivial⟩
    have hcell : ∀ k b, (lets l)[k]? = some b → w1.cell? (ad.add k) = some (.string (st b)) := by
      intro k b hk
      obtain ⟨ad', e, hc⟩ := hsl k (.string (st b)) (by simp [sv, hk])
      cases e
      exact hc
    have HC := Lib.hid hcell
    have HNE := Lib.hid hne
    have hneq : ((lets l).length == 0) = false := beq_eq_false_iff_ne.2 (by omega)
    have hneqi : (((lets l).length : Int) == 0) = false := beq_eq_false_iff_ne.2 (by omega)
    clear hcell hne hc0 ho hsl
    go_wp2
    go_loopw [6] (fun i wr => ∃ k : Nat, i = .int .i64 k ∧ wr = w1 ∧ Ahead l k) (fun i _ => (lets l).length - (intOf i).toNat)
    case atStart => exact ⟨0, rfl, rfl, Ahead.zero l⟩
    case round =>
      obtain ⟨k, rfl, rfl, hA⟩ := hrel
      have hle := hA.le
      have hlt := hA.lt
      have HA := Lib.hid hA
      have HLT := Lib.hid hlt
      clear hA hlt
      by_cases hk : k < l.length
      · obtain ⟨b, c, h1, h2, h3, h4, h5, h6⟩ := HA.out.here hk
        have hkn : (k : Int) < ((lets l).length : Int) := by have := HLT.out.2 hk; omega
        have hkn2 : k < (lets l).length := HLT.out.2 hk
        have hck := HC.out k b h1
        have hbadQ : Hid (∀ W, badAt l k = true → Ext w W → NSays l w (.returned (.tuple #[.int .i64 0, .int .i64 k, .int .i64 4])) W) := Lib.hid (fun W hb hx => NSays.bad hk HA.out.ok hb hx)
        have H2 := Lib.hid h2
        have H5 := Lib.hid h5
        have hcl := c.toNat_lt
        by_cases hb1 : b.length = 1
        · obtain ⟨c', rfl⟩ : ∃ c', b = [c'] := by
            match b, hb1 with
            | [c'], _ => exact ⟨c', rfl⟩
          obtain rfl : c' = c := by simpa using h3
          have hix : ∀ h, ((st [c'])[0]'h).toNat = c'.toNat := fun _ => rfl
          clear h1 h2 h3 h4 h5 hb1
          by_cases hc1 : c'.toNat < 48
          · have t0 : (c'.toNat : Int) < 48 := by omega
            have HB := Lib.hid (badAt_no H2.out (by omega))
            clear hc1 h6
            go_wp2
            go_ret3
            exact hbadQ.out _ HB.out hx
          · have t0 : ¬ (c'.toNat : Int) < 48 := by omega
            by_cases hc2 : 57 < c'.toNat
            · have t1 : (57 : Int) < (c'.toNat : Int) := by omega
              have HB := Lib.hid (badAt_no H2.out (by omega))
              clear hc1 hc2 h6
              go_wp2
              go_ret3
              exact hbadQ.out _ HB.out hx
            · have t1 : ¬ (57 : Int) < (c'.toNat : Int) := by omega
              by_cases hz : 0 < k
              · have hz' : (0 : Int) < (k : Int) := by omega
                obtain ⟨d, h7, h8⟩ := h6 hz
                have hc00 := HC.out 0 _ h7
                have e00 : ad.add 0 = ad := by simp [Addr.add]
                rw [e00] at hc00
                clear e00
                by_cases h48 : d = 48
                · subst h48
                  have HB := Lib.hid (badAt_zero h8 hz rfl)
                  clear hc1 hc2 h6 h7 h8 hz
                  go_wp2
                  go_ret3
                  exact hbadQ.out _ HB.out hx
                · have HB := Lib.hid (badAt_ok H2.out (by omega) h8 (.inr (fun e => h48 (UInt8.toNat_inj.1 e))))
                  have hd48 : ([d] == [48]) = false := by simpa using h48
                  clear hc1 hc2 h6 h7 h8 hz
                  go_wp2
                  go_roundw
                  case rel => exact ⟨k + 1, by go_num, by first | rfl | trivial, H5.out HB.out⟩
                  case measure => simp [intOf]; omega
              · have hz' : ¬ (0 : Int) < (k : Int) := by omega
                have hk0 : k = 0 := by omega
                have h20 : l[0]? = some c' := by rw [← hk0]; exact H2.out
                have HB := Lib.hid (badAt_ok H2.out (by omega) h20 (.inl hk0))
                clear hk0 h20 hz
                clear hc1 hc2 h6
                go_wp2
                go_roundw
                case rel => exact ⟨k + 1, by go_num, by first | rfl | trivial, H5.out HB.out⟩
                case measure => simp [intOf]; omega
        · have hbn : ((b.length : Int) != 1) = true := by simp; omega
          have HB := Lib.hid (h4 hb1)
          clear h1 h2 h3 h4 h5 h6 hb1
          go_wp2
          go_ret3
          exact hbadQ.out _ HB.out hx
      · have hkn : ¬ (k : Int) < ((lets l).length : Int) := by
          intro h
          exact hk (HLT.out.1 (by omega))
        have hkl : k = l.length := by omega
        subst hkl
        have hnone : ∀ j, j < l.length → badAt l j = false := HA.out.ok
        have heq : lets l = l.map fun c => [c] := by
          have := HA.out.eq
          rw [List.take_length, List.drop_length, lets_nil, List.append_nil] at this
          exact this
        have hllen : (lets l).length = l.length := by rw [heq]; simp
        have hcb : ∀ j c, l[j]? = some c → wr.cell? (ad.add j) = some (.string (st [c])) := fun j c hj => HC.out j [c] (by rw [heq]; simp [hj])
        have HN := Lib.hid hnone
        have HCB := Lib.hid hcb
        have HLL := Lib.hid hllen
        have hll2 : (lets l).length ≤ l.length := by omega
        have hll3 : l.length ≤ (lets l).length := by omega
        clear heq hnone hcb hllen
        go_wp2
        go_loopw [7, 8] (fun n i w2 => ∃ j : Nat, i = .int .i64 j ∧ n = .int .i64 (satV (l.take j) : Nat) ∧ w2 = wr ∧ j ≤ l.length ∧ satV (l.take j) ≤ 4294967295) (fun _ i _ => l.length - (intOf i).toNat)
        case atStart => exact ⟨0, rfl, rfl, rfl, by omega, by simp [satV]⟩
        case round =>
          obtain ⟨j, rfl, rfl, rfl, hj, hsv⟩ := hrel
          by_cases hjl : j < l.length
          · have hjn : (j : Int) < ((lets l).length : Int) := by omega
            have hgj : l[j]? = some l[j] := List.getElem?_eq_getElem hjl
            have hcj := HCB.out j _ hgj
            have hst := satV_take hgj
            have hdig : 48 ≤ l[j].toNat ∧ l[j].toNat ≤ 57 := by
              have h1 := HN.out j hjl
              unfold badAt at h1
              rw [hgj] at h1
              simp only [Option.map_some, Option.getD_some, Bool.or_eq_false_iff, Bool.not_eq_false'] at h1
              have h2 := h1.1
              unfold digit at h2
              simpa using h2
            have hbig := satV_take_le l (j + 1)
            have hle1 := satV_le (l.take (j + 1))
            generalize l[j] = c at *
            generalize satV (l.take j) = m at *
            generalize hm2 : satV (l.take (j + 1)) = m2 at *
            have hix : ∀ h, ((st [c])[0]'h).toNat = c.toNat := fun _ => rfl
            have hm3 : m2 = min (m * 10 + (c.toNat - 48)) 4294967296 := hst
            have HM2 := Lib.hid hm2
            have HBIG := Lib.hid hbig
            obtain ⟨hd1, hd2⟩ := hdig
            clear hgj hst hm2 hbig
            by_cases hm4 : 4294967295 < m * 10 + (c.toNat - 48)
            · have hm5 : (4294967295 : Int) < 10 * (m : Int) + (c.toNat : Int) - 48 := by omega
              have HM5 : Hid (m2 > 4294967295) := Lib.hid (by omega)
              clear hm3 hm4
              go_wp2
              go_ret3
              exact NSays.big HNE.out HN.out (HBIG.out HM5.out) hx
            · have hm5 : ¬ (4294967295 : Int) < 10 * (m : Int) + (c.toNat : Int) - 48 := by omega
              have HM6 : Hid (m2 = m * 10 + (c.toNat - 48)) := Lib.hid (by omega)
              have HM7 : Hid (m2 ≤ 4294967295) := Lib.hid (by omega)
              clear hm3 hm4
              go_wp2
              go_roundw
              case rel => exact ⟨j + 1, by go_num, by rw [HM2.out, HM6.out]; exact congrArg (Value.int .i64) (by omega), by first | rfl | trivial, by omega, by rw [HM2.out]; exact HM7.out⟩
              case measure => simp [intOf]; omega
          · have hjn : ¬ (j : Int) < ((lets l).length : Int) := by omega
            have hjl2 : l.take j = l := List.take_of_length_le (by omega)
            rw [hjl2] at hsv ⊢
            clear hjl2
            go_wp2
            go_ret3
            exact NSays.good HNE.out HN.out rfl hsv hx
end Go.Proofs.YtkjklpalpodbgaaDoor
