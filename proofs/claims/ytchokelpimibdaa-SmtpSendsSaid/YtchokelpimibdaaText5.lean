/- The walk of text.Number. Condition: the length named in the theorem. -/
import Derived.Test.YtchokelpimibdaaText4
namespace Go.Proofs.Ytchokelpimibdaa
open Go.RowKit
theorem badAt_no {l : List UInt8} {k : Nat} {c : UInt8} (h : l[k]? = some c) (hc : ¬ (48 ≤ c.toNat ∧ c.toNat ≤ 57)) : badAt l k = true := by
  unfold badAt digit
  rw [h]
  simp only [Option.map_some, Option.getD_some, decide_eq_false hc, Bool.not_false, Bool.true_or]
theorem badAt_zero {l : List UInt8} {k : Nat} {c : UInt8} (h : l[0]? = some c) (hk : 0 < k) (hc : c.toNat = 48) : badAt l k = true := by
  unfold badAt
  have : c = 48 := UInt8.toNat_inj.1 hc
  rw [h, this]
  simp [hk]
theorem badAt_ok {l : List UInt8} {k : Nat} {c d : UInt8} (h : l[k]? = some c) (hc : 48 ≤ c.toNat ∧ c.toNat ≤ 57) (h0 : l[0]? = some d) (hd : k = 0 ∨ d.toNat ≠ 48) : badAt l k = false := by
  unfold badAt digit
  rw [h, h0]
  simp only [Option.map_some, Option.getD_some, decide_eq_true hc, Bool.not_true, Bool.false_or]
  rcases hd with rfl | hd
  · simp
  · have : ¬ d = 48 := fun e => hd (by rw [e]; rfl)
    simp [this]
theorem stepV_val (n : Nat) (c : UInt8) (hc : 48 ≤ c.toNat) : ((stepV n c : Nat) : Int) = min ((n : Int) * 10 + ((c.toNat : Int) - 48)) 4294967296 := by
  unfold stepV
  omega
set_option maxHeartbeats 1000000 in
theorem Number_any (s : ByteArray) (w : World) (hs : s.size ≤ 140737488355328) : Calls Try.prog 53 #[.string s] w (NSays (tl s) w) := by
  by_cases h0 : s.size = 0
  · have hs0 : s.toList = [] := by
      rw [ByteArray.toList_eq]
      have := tl_length s
      unfold tl at this
      exact List.eq_nil_of_length_eq_zero (by omega)
    have ht : tl s = [] := List.eq_nil_of_length_eq_zero (by simpa using h0)
    have HQ : Hid (∀ W, Ext w W → NSays (tl s) w (.returned (.tuple #[.int .i64 0, .int .i64 0, .int .i64 3])) W) := Lib.hid (fun W hx => by rw [ht]; exact NSays.empty hx)
    clear h0 ht
    go_enter Try.func53, Try.ntmps53
    go_wp2
    go_ret3
    exact HQ.out _ (Ext.refl _)
  · have hs0 : ¬ s.toList = [] := by
      rw [ByteArray.toList_eq]
      have := tl_length s
      unfold tl at this
      intro e
      rw [e] at this
      simp at this
      omega
    have hs1 : s.toList.isEmpty = false := by simpa using hs0
    have hp0 : 0 < s.size := by omega
    have hne : tl s ≠ [] := by intro e; have := tl_length s; rw [e] at this; simp at this; omega
    have HNE := Lib.hid hne
    have hit0 : It (w.iter s 0) w.heap.size s 0 := World.iter_heap w s 0
    have hx0 : Ext w (w.iter s 0) := (Ext.refl w).alloc _
    have h00 := s[0].toNat_lt
    have G0 := Lib.hid (tl_get? s 0 hp0)
    clear h0 hne
    go_enter Try.func53, Try.ntmps53
    go_wp2
    go_loopw [5, 6] (fun n p wr => ∃ k : Nat, k ≤ s.size ∧ p = .int .i64 k ∧ n = .int .i64 (satV ((tl s).take k) : Nat) ∧ It wr w.heap.size s k ∧ Ext w wr ∧ ∀ j, j < k → badAt (tl s) j = false) (fun _ _ wr => s.size - wr.iterPos w.heap.size)
    case atStart => exact ⟨0, by omega, rfl, rfl, hit0, hx0, by omega⟩
    case round =>
      obtain ⟨k, hk, rfl, rfl, hit, hx, hall⟩ := hrel
      clear hit0 hx0
      have hpos := iterPos_of hit
      have HA := Lib.hid hall
      have hsv := satV_le ((tl s).take k)
      clear hall
      by_cases hlt : k < s.size
      · have hgk := tl_get? s k hlt
        have hbad : Hid (∀ W, badAt (tl s) k = true → Ext w W → NSays (tl s) w (.returned (.tuple #[.int .i64 0, .int .i64 k, .int .i64 4])) W) := Lib.hid (fun W hb hx => NSays.bad (by simpa using hlt) HA.out hb hx)
        have hstep := satV_take hgk
        have GK := Lib.hid hgk
        have hnx := hit.next hlt
        have hcl := s[k].toNat_lt
        have hit2 := hit.at_ (k + (Utf8.decode s k).2)
        have hx2 := hx.iterAt (pos := k + (Utf8.decode s k).2) (s := s) (Nat.le_refl w.heap.size)
        have HPOS := Lib.hid hpos
        have HST := Lib.hid hstep
        clear hgk hstep hpos
        generalize satV ((tl s).take k) = n at *
        by_cases h128 : s[k].toNat < 128
        · have hd := decode_ascii s k hlt h128
          rw [hd] at hnx hit2 hx2
          simp only [] at hnx hit2 hx2
          have hpos2 := Lib.hid (iterPos_of hit2)
          clear hd
          by_cases hc1 : s[k].toNat < 48
          · have t0 : (s[k].toNat : Int) < 48 := by omega
            have HB := Lib.hid (badAt_no GK.out (by omega))
            clear hc1
            go_wp2
            go_ret3
            exact hbad.out _ HB.out hx2
          · have t0 : ¬ (s[k].toNat : Int) < 48 := by omega
            by_cases hc2 : 57 < s[k].toNat
            · have t1 : (57 : Int) < (s[k].toNat : Int) := by omega
              have HB := Lib.hid (badAt_no GK.out (by omega))
              clear hc1 hc2
              go_wp2
              go_ret3
              exact hbad.out _ HB.out hx2
            · have t1 : ¬ (57 : Int) < (s[k].toNat : Int) := by omega
              have hsv2 := stepV_val n s[k] (by omega)
              have HSV := Lib.hid hsv2
              have hc48 : (48 : Int) ≤ s[k].toNat := by omega
              have hc57 : (s[k].toNat : Int) ≤ 57 := by omega
              clear hsv2
              by_cases hz : 0 < k
              · have hz' : (0 : Int) < (k : Int) := by omega
                by_cases h48 : s[0].toNat = 48
                · have e0 : ((s[0].toNat : Int) == 48) = true := by rw [h48]; rfl
                  have HB := Lib.hid (badAt_zero G0.out hz h48)
                  clear h48 hz
                  go_wp2
                  go_ret3
                  exact hbad.out _ HB.out hx2
                · have e0 : ((s[0].toNat : Int) == 48) = false := beq_eq_false_iff_ne.2 (by omega)
                  have HB := Lib.hid (badAt_ok GK.out (by omega) G0.out (.inr h48))
                  clear h48 hz hc1 hc2
                  go_wp2
                  go_roundw
                  case rel => exact ⟨k + 1, by omega, by go_num, by rw [HST.out]; exact congrArg (Value.int .i64) (by rw [HSV.out]; simp only [Int.min_def]; split <;> split <;> omega), hit2, hx2, fun j hj => by
                    rcases Nat.lt_or_ge j k with h | h
                    · exact HA.out j h
                    · have e : j = k := by omega
                      rw [e]; exact HB.out⟩
                  case measure => rw [hpos2.out, HPOS.out]; omega
              · have hz' : ¬ (0 : Int) < (k : Int) := by omega
                have HB := Lib.hid (badAt_ok GK.out (by omega) G0.out (.inl (by omega)))
                clear hc1 hc2
                go_wp2
                go_roundw
                case rel => exact ⟨k + 1, by omega, by go_num, by rw [HST.out]; exact congrArg (Value.int .i64) (by rw [HSV.out]; simp only [Int.min_def]; split <;> split <;> omega), hit2, hx2, fun j hj => by
                  rcases Nat.lt_or_ge j k with h | h
                  · exact HA.out j h
                  · have e : j = k := by omega
                    rw [e]; exact HB.out⟩
                case measure => rw [hpos2.out, HPOS.out]; omega
        · have hd := decode_high s k hlt (by omega)
          have HB := Lib.hid (badAt_no GK.out (by omega))
          have t0 : ¬ (((Utf8.decode s k).1 : Nat) : Int) < 48 := by omega
          have t1 : (57 : Int) < (((Utf8.decode s k).1 : Nat) : Int) := by omega
          clear hd
          go_wp2
          go_ret3
          exact hbad.out _ HB.out hx2
      · have hk' : k = s.size := by omega
        subst hk'
        have hst := hit.stop (by omega)
        have hlen : (tl s).take s.size = tl s := List.take_of_length_le (by simp)
        have hv : satV ((tl s).take s.size) = satV (tl s) := by rw [hlen]
        have HV := Lib.hid hv
        clear hlen hv hpos
        generalize satV ((tl s).take s.size) = n at *
        by_cases hb : 4294967295 < n
        · have hb' : (4294967295 : Int) < (n : Int) := by omega
          have HQ : Hid (∀ W, Ext w W → NSays (tl s) w (.returned (.tuple #[.int .i64 0, .int .i64 0, .int .i64 6])) W) := Lib.hid (fun W hx => NSays.big HNE.out (fun j hj => HA.out j (by simpa using hj)) (by rw [← HV.out]; exact hb) hx)
          clear hb
          go_wp2
          go_ret3
          exact HQ.out _ hx
        · have hb' : ¬ (4294967295 : Int) < (n : Int) := by omega
          have HQ : Hid (∀ W, Ext w W → NSays (tl s) w (.returned (.tuple #[.int .i64 n, .int .i64 0, .int .i64 0])) W) := Lib.hid (fun W hx => NSays.good HNE.out (fun j hj => HA.out j (by simpa using hj)) HV.out (by omega) hx)
          clear hb
          go_wp2
          go_ret3
          exact HQ.out _ hx
end Go.Proofs.Ytchokelpimibdaa
