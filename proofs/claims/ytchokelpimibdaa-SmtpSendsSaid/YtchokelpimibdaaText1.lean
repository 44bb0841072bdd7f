/- The walks of text.Lower, text.Same and the reference's Lower. Conditions: the lengths named in each theorem. -/
import Derived.Test.YtchokelpimibdaaStr
namespace Go.Proofs.Ytchokelpimibdaa
open Go.RowKit
def lowB (c : UInt8) : UInt8 := if 65 ≤ c.toNat ∧ c.toNat ≤ 90 then c + 32 else c
def lowL (l : List UInt8) : List UInt8 := l.map lowB
@[simp] theorem lowL_length (l : List UInt8) : (lowL l).length = l.length := by simp [lowL]
theorem lowB_up {c : UInt8} (h1 : 65 ≤ c.toNat) (h2 : c.toNat ≤ 90) : ((lowB c).toNat : Int) = (c.toNat : Int) + 32 := by
  unfold lowB
  rw [if_pos ⟨h1, h2⟩, UInt8.toNat_add]
  have : (32 : UInt8).toNat = 32 := rfl
  omega
theorem lowB_no {c : UInt8} (h : ¬ (65 ≤ c.toNat ∧ c.toNat ≤ 90)) : lowB c = c := by unfold lowB; rw [if_neg h]
/-- the first k small -/
def lowTo (l : List UInt8) (k : Nat) : List UInt8 := lowL (l.take k) ++ l.drop k
theorem lowTo_length (l : List UInt8) (k : Nat) : (lowTo l k).length = l.length := by simp [lowTo]; omega
theorem lowTo_get (l : List UInt8) (k : Nat) (h : k < l.length) : (lowTo l k)[k]'(by rw [lowTo_length]; exact h) = l[k] := by
  unfold lowTo
  rw [List.getElem_append_right (by simp; omega)]
  simp [Nat.min_eq_left (Nat.le_of_lt h)]
theorem lowTo_set (l : List UInt8) (k : Nat) (h : k < l.length) : (lowTo l k).set k (lowB l[k]) = lowTo l (k + 1) := by
  unfold lowTo
  rw [List.set_append_right _ _ (by simp; omega)]
  simp only [lowL_length, List.length_take, Nat.min_eq_left (Nat.le_of_lt h), Nat.sub_self]
  rw [List.drop_eq_getElem_cons h, List.set_cons_zero, List.take_succ_eq_append_getElem h]
  simp only [lowL, List.map_append, List.map_cons, List.map_nil, List.append_assoc]
  rfl
theorem lowTo_on (l : List UInt8) (k : Nat) (h : k < l.length) (hb : lowB l[k] = l[k]) : lowTo l (k + 1) = lowTo l k := by
  rw [← lowTo_set l k h, hb]
  apply List.ext_getElem
  · simp
  · intro j h1 h2
    rw [List.getElem_set]
    split
    · rename_i e
      subst e
      rw [lowTo_get l k h]
    · rfl
set_option maxHeartbeats 400000 in
theorem Lower_any (s : ByteArray) (w : World) (hs : s.size ≤ 140737488355328) : Calls Try.prog 18 #[.string s] w fun e w' => e = .returned (.string (st (lowL (tl s)))) ∧ Ext w w' := by
  obtain ⟨cap, W, hcv, hx, hm, hcap⟩ := conv_bytes w s
  have hsz := tl_length s
  generalize hl : tl s = l at *
  have HS := Lib.hid hsz
  have HL := Lib.hid hl
  have hs1 : s.size ≤ l.length := by omega
  have hs2 : l.length ≤ s.size := by omega
  clear hsz hl
  go_enter Try.func18, Try.ntmps18
  go_wp2
  go_loopw [10] (fun i wr => ∃ k : Nat, k ≤ s.size ∧ i = .int .i64 k ∧ Ext w wr ∧ Mut8 wr w.heap.size (lowTo l k)) (fun i _ => s.size - (intOf i).toNat)
  case atStart => exact ⟨0, by omega, rfl, hx, by simpa [lowTo, lowL] using hm⟩
  case round =>
    obtain ⟨k, hk, rfl, hxr, hmr⟩ := hrel
    by_cases hlt : k < s.size
    · have hkl : k < l.length := by omega
      have hkl2 : k < (lowTo l k).length := by rw [lowTo_length]; omega
      have hc := hmr.cell hkl2
      have hf := hmr.free hkl2
      rw [lowTo_get l k hkl] at hc
      have hset := hmr.set k (lowB l[k])
      rw [lowTo_set l k hkl] at hset
      have hon := lowTo_on l k hkl
      have hup := lowB_up (c := l[k])
      have hno := lowB_no (c := l[k])
      have hcl := l[k].toNat_lt
      have hlt2 : (k : Int) < s.size := by omega
      generalize l[k] = c at *
      have HSET := Lib.hid hset
      have HON := Lib.hid hon
      have HUP := Lib.hid hup
      have HNO := Lib.hid hno
      clear hset hon hup hno hm hx
      by_cases h1 : 65 ≤ c.toNat
      · have h1' : (65 : Int) ≤ c.toNat := by omega
        by_cases h2 : c.toNat ≤ 90
        · have h2' : (c.toNat : Int) ≤ 90 := by omega
          go_wp2
          go_roundw
          case rel => exact ⟨k + 1, by omega, by go_num, hxr.setCell (Nat.le_refl _) _, by rw [← HUP.out h1 h2]; exact HSET.out⟩
          case measure => simp [intOf]; omega
        · have h2' : ¬ (c.toNat : Int) ≤ 90 := by omega
          go_wp2
          go_roundw
          case rel => exact ⟨k + 1, by omega, by go_num, hxr, by rw [HON.out (HNO.out (by omega))]; exact hmr⟩
          case measure => simp [intOf]; omega
      · have h1' : ¬ (65 : Int) ≤ c.toNat := by omega
        go_wp2
        go_roundw
        case rel => exact ⟨k + 1, by omega, by go_num, hxr, by rw [HON.out (HNO.out (by omega))]; exact hmr⟩
        case measure => simp [intOf]; omega
    · have hk' : k = s.size := by omega
      subst hk'
      have hlt2 : ¬ (s.size : Int) < s.size := by omega
      have he : lowTo l s.size = lowL l := by unfold lowTo; rw [List.take_of_length_le (by omega), List.drop_of_length_le (by omega), List.append_nil]
      rw [he] at hmr
      have hcs := conv_str hmr.bs s.size cap (by rw [lowL_length, HS.out])
      clear he hmr hm hcv
      go_wp2
      go_ret
      exact ⟨rfl, hxr⟩
theorem Same_any (a b : ByteArray) (w : World) (ha : a.size ≤ 140737488355328) (hb : b.size ≤ 140737488355328) : Calls Try.prog 55 #[.string a, .string b] w fun e w' => e = .returned (.bool (decide (lowL (tl a) = lowL (tl b)))) ∧ Ext w w' := by
  go_enter Try.func55, Try.ntmps55
  go_wp2_with fail
  refine (Lower_any a w ha).mono ?_
  rintro e w1 ⟨rfl, hx1⟩
  go_wp2_with fail
  refine (Lower_any b w1 hb).mono ?_
  rintro e w2 ⟨rfl, hx2⟩
  go_wp2
  go_ret
  exact ⟨ret_bool (by rw [Bool.eq_iff_iff]; simp), hx1.trans hx2⟩
set_option maxHeartbeats 400000 in
theorem RLower_any (s : ByteArray) (w : World) (hs : s.size ≤ 140737488355328) : Calls Try.prog 11 #[.string s] w fun e w' => e = .returned (.string (st (lowL (tl s)))) ∧ Ext w w' := by
  have hsz := tl_length s
  have hget := tl_get? s
  generalize hl : tl s = l at *
  have HS := Lib.hid hsz
  have HL := Lib.hid hl
  have HG := Lib.hid hget
  have hs1 : s.size ≤ l.length := by omega
  have hs2 : l.length ≤ s.size := by omega
  clear hsz hl hget
  go_enter Try.func11, Try.ntmps11
  go_wp2
  go_loopw [3, 4] (fun o i wr => ∃ k : Nat, k ≤ s.size ∧ i = .int .i64 k ∧ Ext w wr ∧ o = .string (st (lowL (l.take k)))) (fun _ i _ => s.size - (intOf i).toNat)
  case atStart => exact ⟨0, by omega, rfl, Ext.refl _, rfl⟩
  case round =>
    obtain ⟨k, hk, rfl, hxr, rfl⟩ := hrel
    by_cases hlt : k < s.size
    · have hkl : k < l.length := by omega
      have hg := HG.out k hlt
      have hsn : lowL (l.take (k + 1)) = lowL (l.take k) ++ [lowB s[k]] := by rw [List.take_add_one, hg]; simp [lowL]
      have hup := lowB_up (c := s[k])
      have hno := lowB_no (c := s[k])
      have hcl := s[k].toNat_lt
      have hlt2 : (k : Int) < s.size := by omega
      have hcv := fun (x : UInt8) => conv_str (Bs.new wr [x] #[.int .u8 (x.toNat : Int)] rfl 5 (0, 0)) 1 1 rfl
      have hcv1 := hcv s[k]
      have hcv2 := hcv (lowB s[k])
      have HSN := Lib.hid hsn
      have HUP := Lib.hid hup
      have HNO := Lib.hid hno
      clear hsn hup hno hg hcv
      have hpl : (lowL (l.take k)).length ≤ 140737488355328 := by simp; omega
      generalize lowL (l.take k) = pre at *
      by_cases h1 : 65 ≤ s[k].toNat
      · have h1' : (65 : Int) ≤ s[k].toNat := by omega
        by_cases h2 : s[k].toNat ≤ 90
        · have h2' : (s[k].toNat : Int) ≤ 90 := by omega
          rw [HUP.out h1 h2] at hcv2
          go_wp2
          go_roundw
          case rel => exact ⟨k + 1, by omega, by go_num, hxr.alloc _, by rw [HSN.out]⟩
          case measure => simp [intOf]; omega
        · have h2' : ¬ (s[k].toNat : Int) ≤ 90 := by omega
          go_wp2
          go_roundw
          case rel => exact ⟨k + 1, by omega, by go_num, hxr.alloc _, by rw [HSN.out, HNO.out (by omega)]⟩
          case measure => simp [intOf]; omega
      · have h1' : ¬ (65 : Int) ≤ s[k].toNat := by omega
        go_wp2
        go_roundw
        case rel => exact ⟨k + 1, by omega, by go_num, hxr.alloc _, by rw [HSN.out, HNO.out (by omega)]⟩
        case measure => simp [intOf]; omega
    · have hk' : k = s.size := by omega
      subst hk'
      have hlt2 : ¬ (s.size : Int) < s.size := by omega
      have he : l.take s.size = l := List.take_of_length_le (by omega)
      rw [he]
      clear he
      go_wp2
      go_ret
      exact ⟨rfl, hxr⟩
end Go.Proofs.Ytchokelpimibdaa
