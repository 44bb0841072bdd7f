/- The walks of the reference's Sum and Pack, and plain lemmas on numbers of bytes. Conditions: the lengths named in each theorem. -/
import Derived.Test.YtapjgncalldngaaFrm2
import Derived.BigQuiet
import Derived.Deep.QuietTactic
namespace Go.Proofs.Ytapjgncalldngaa
open Go.RowKit
def bitsL (l : List UInt8) : List Nat := l.flatMap bitsOf
theorem bitsOf_length (c : UInt8) : (bitsOf c).length = 8 := by simp [bitsOf]
theorem bitsL_length (l : List UInt8) : (bitsL l).length = 8 * l.length := by
  induction l with
  | nil => rfl
  | cons c l ih => simp only [bitsL, List.flatMap_cons, List.length_append, bitsOf_length, List.length_cons] at *; omega
theorem bitsL_get (l : List UInt8) : ∀ i (h : i / 8 < l.length), (bitsL l)[i]? = some (l[i / 8].toNat / 2 ^ (i % 8) % 2) := by
  induction l with
  | nil => intro i h; simp at h
  | cons c l ih =>
    intro i h
    simp only [bitsL, List.flatMap_cons]
    by_cases hi : i < 8
    · rw [List.getElem?_append_left (by rw [bitsOf_length]; exact hi)]
      have h0 : i / 8 = 0 := by omega
      have h1 : i % 8 = i := by omega
      simp [bitsOf, h0, h1, hi]
    · rw [List.getElem?_append_right (by rw [bitsOf_length]; omega), bitsOf_length]
      have h0 : i / 8 = (i - 8) / 8 + 1 := by omega
      have h1 : i % 8 = (i - 8) % 8 := by omega
      have := ih (i - 8) (by simp at h; omega)
      simp only [bitsL] at this
      rw [this, h1]
      simp [h0]
theorem crcS_bits (l : List UInt8) : ∀ r, crcS r l = crcL r (bitsL l) := by
  induction l with
  | nil => intro r; rfl
  | cons c l ih => intro r; simp only [crcS, List.foldl_cons, bitsL, List.flatMap_cons, crcL, List.foldl_append] at *; rw [ih]; rfl
theorem crcL_take (l : List UInt8) (i : Nat) (h : i / 8 < l.length) (r : Nat) : crcL r ((bitsL l).take (i + 1)) = crcB (crcL r ((bitsL l).take i)) (l[i / 8].toNat / 2 ^ (i % 8) % 2) := by
  unfold crcL
  rw [List.take_add_one, bitsL_get l i h]
  simp [List.foldl_append]
theorem cast_bit (c j : Nat) : ((c : Int) / 2 ^ j % 2) = ((c / 2 ^ j % 2 : Nat) : Int) := by
  rw [Int.natCast_emod, Int.natCast_ediv, Int.natCast_pow]; rfl
theorem crcB_ne (r c j : Nat) (h : ((r : Int) % 2 != (c : Int) / 2 ^ j % 2) = true) : crcB r (c / 2 ^ j % 2) = (r / 2) ^^^ 3988292384 := by
  rw [cast_bit, bne_iff_ne] at h
  unfold crcB
  rw [if_neg (by omega)]
theorem crcB_eq (r c j : Nat) (h : ((r : Int) % 2 != (c : Int) / 2 ^ j % 2) = false) : crcB r (c / 2 ^ j % 2) = r / 2 := by
  rw [cast_bit, bne_eq_false_iff_eq] at h
  unfold crcB
  rw [if_pos (by omega)]
set_option maxHeartbeats 400000 in
theorem RSum_any (A : Option Addr) (cap n : Nat) (l : List UInt8) (w : World) (h : Bs w A l) (hn : l.length ≤ 140737488355328) (hl : n = l.length) :
    Calls Try.prog 11 #[.slice A n cap] w fun e w' => e = .returned (.int .u32 (crcF [l] : Nat)) ∧ w = w' := by
  subst hl
  go_enter Try.func11, Try.ntmps11
  go_wp2
  go_loop [3, 4] (fun r i => ∃ k : Nat, k ≤ 8 * l.length ∧ i = .int .i64 k ∧ r = .int .u32 (crcL 4294967295 ((bitsL l).take k) : Nat)) (fun _ i => 8 * l.length - (intOf i).toNat)
  case atStart => exact ⟨0, by omega, rfl, rfl⟩
  case round =>
    obtain ⟨k, hk, rfl, rfl⟩ := hrel
    by_cases hlt : k < 8 * l.length
    · obtain ⟨ad, rfl, hc⟩ := Sl.now h (bv_get (l := l) (k := k / 8) (by omega))
      have hk8 : k / 8 < l.length := by omega
      have hr := crcL_lt ((bitsL l).take k) 4294967295 (by omega)
      have hs := Lib.hid (crcL_take l k (by omega) 4294967295)
      have h2 := l[k / 8].toNat_lt
      generalize hr0 : crcL 4294967295 ((bitsL l).take k) = r at *
      have hlt2 : (k : Int) < 8 * (l.length : Int) := by omega
      go_wp2
      all_goals
        go_round
        case rel =>
          refine ⟨k + 1, by omega, by go_num, ?_⟩
          rw [hs.out]
          first
            | rw [crcB_ne _ _ _ ‹_›, xorP _ hr]
            | (rw [crcB_eq _ _ _ ‹_›]; rfl)
        case measure => simp [intOf]; omega
    · have hk' : k = 8 * l.length := by omega
      subst hk'
      have hr := crcL_lt ((bitsL l).take (8 * l.length)) 4294967295 (by omega)
      have hlt2 : ¬ (8 * (l.length : Int)) < 8 * (l.length : Int) := by omega
      go_wp2
      go_ret
      refine ⟨ret_int ?_, rfl⟩
      have e : crcF [l] = 4294967295 - crcL 4294967295 ((bitsL l).take (8 * l.length)) := by
        rw [List.take_of_length_le (by rw [bitsL_length]; omega)]
        simp only [crcF, crcP, List.foldl_cons, List.foldl_nil, crcS_bits]
      rw [e]; omega
theorem RPack_arg (A : Option Addr) (cap n : Nat) (l : List UInt8) (w : World) (hl : n = l.length) (h : l.length = 0) :
    Calls Try.prog 13 #[.slice A n cap] w fun e w' => e = .returned (.tuple #[.slice none 0 0, .int .i64 2]) ∧ w = w' := by
  subst hl
  have h1 : ((l.length : Int) == 0) = true := by rw [h]; rfl
  clear h
  go_enter Try.func13, Try.ntmps13
  go_wp2
  go_ret2
  exact ⟨rfl, rfl⟩
theorem RPack_limit (A : Option Addr) (cap n : Nat) (l : List UInt8) (w : World) (hl : n = l.length) (h : 2000 < l.length) :
    Calls Try.prog 13 #[.slice A n cap] w fun e w' => e = .returned (.tuple #[.slice none 0 0, .int .i64 6]) ∧ w = w' := by
  subst hl
  have h1 : ((l.length : Int) == 0) = false := beq_eq_false_iff_ne.2 (by omega)
  have h2 : (2000 : Int) < l.length := by omega
  clear h
  go_enter Try.func13, Try.ntmps13
  go_wp2
  go_ret2
  exact ⟨rfl, rfl⟩
theorem be4_cells (c : Nat) (h : c < 4294967296) : #[Value.int .u8 ((c : Int) / 16777216), .int .u8 ((c : Int) / 65536 % 256), .int .u8 ((c : Int) / 256 % 256), .int .u8 ((c : Int) % 256)] = (bv (be 4 c)).toArray := by
  simp only [be, bv, List.map_cons, List.map_nil, UInt8.toNat_ofNat']
  have e1 : ((c : Int) / 16777216) = ((c / 256 ^ 3 % 2 ^ 8 : Nat) : Int) := by omega
  have e2 : ((c : Int) / 65536 % 256) = ((c / 256 ^ 2 % 2 ^ 8 : Nat) : Int) := by omega
  have e3 : ((c : Int) / 256 % 256) = ((c / 256 ^ 1 % 2 ^ 8 : Nat) : Int) := by omega
  have e4 : ((c : Int) % 256) = ((c / 256 ^ 0 % 2 ^ 8 : Nat) : Int) := by omega
  rw [e1, e2, e3, e4]
set_option maxHeartbeats 1000000 in
theorem RPack_ok (A : Option Addr) (cap n : Nat) (l : List UInt8) (w : World) (h : Bs w A l) (hl : n = l.length) (hlo : 0 < l.length) (hhi : l.length ≤ 2000) :
    Calls Try.prog 13 #[.slice A n cap] w fun e w' => ∃ v, e = .returned (.tuple #[v, .int .i64 0]) ∧ Own w' w.heap.size v (packL l) ∧ Ext w w' := by
  subst hl
  have h1 : ((l.length : Int) == 0) = false := beq_eq_false_iff_ne.2 (by omega)
  have h2 : (l.length : Int) ≤ 2000 := by omega
  go_enter Try.func13, Try.ntmps13
  go_wp2_with (at_builtin; refine unstop ?_)
  have q1 : ((l.length : Int) / 256) = ((UInt8.ofNat (l.length / 256 ^ 1)).toNat : Int) := by rw [UInt8.toNat_ofNat']; omega
  have q2 : ((l.length : Int) % 256) = ((UInt8.ofNat (l.length / 256 ^ 0)).toNat : Int) := by rw [UInt8.toNat_ofNat']; omega
  rw [q1, q2]
  have hl2 := be_length 2 l.length
  have ho1 : Own (w.alloc (.cells #[.int .u8 ((UInt8.ofNat (l.length / 256 ^ 1)).toNat : Int), .int .u8 ((UInt8.ofNat (l.length / 256 ^ 0)).toNat : Int)] 5)) w.heap.size (.slice (some ⟨w.heap.size, 0, none⟩) 2 2) (be 2 l.length) :=
    Own.new w w.heap.size _ (be 2 l.length) 2 rfl hl2.symm (Nat.le_refl _) (by simp [maxLen])
  generalize hw1 : w.alloc (.cells #[.int .u8 ((UInt8.ofNat (l.length / 256 ^ 1)).toNat : Int), .int .u8 ((UInt8.ofNat (l.length / 256 ^ 0)).toNat : Int)] 5) = w1 at *
  have hx1 : Ext w w1 := by rw [← hw1]; exact (Ext.refl _).alloc _
  have hs1 : w.heap.size + 1 = w1.heap.size := by rw [← hw1]; simp
  clear hw1 q1 q2
  rw [hs1]
  refine go_on (wpList_appB bytesT (Own.empty w1 w1.heap.size (Nat.le_refl _)) (ho1.bs.ext ((Ext.refl _).alloc _)) rfl rfl rfl rfl hl2.symm (by simp [hl2]) (by simp) ?_)
  rintro v2 w2 ho2 hg2 -
  have hx2 : Ext w1 w2 := ((Ext.refl w1).alloc _).own (Own.empty w1 w1.heap.size (Nat.le_refl _)) (Nat.le_refl _) hg2
  obtain ⟨A2, c2, rfl⟩ := ho2.form
  go_wp2_with (at_builtin; refine unstop ?_)
  refine go_on (wpList_appB bytesT ho2 (h.ext (hx1.trans hx2)) rfl rfl rfl rfl rfl (by simp [hl2]; omega) (by have := hx2.size; omega) ?_)
  rintro v3 w3 ho3 hg3 -
  have hx3 : Ext w1 w3 := hx2.own ho2 (Nat.le_refl _) hg3
  obtain ⟨A3, c3, rfl⟩ := ho3.form
  go_wp2_with fail
  refine (RSum_any A3 c3 _ _ w3 ho3.bs (by simp [hl2]; omega) (by simp [hl2])).mono ?_
  rintro e w4 ⟨rfl, rfl⟩
  have hcr : crcF [[] ++ be 2 l.length ++ l] = crcF [be 2 l.length, l] := by simp [crcF, crcP, crcS]
  rw [hcr]
  have hlt := crcF_lt [be 2 l.length, l]
  have hpk : packL l = be 2 l.length ++ be 4 (crcF [be 2 l.length, l]) ++ l := rfl
  generalize crcF [be 2 l.length, l] = cr at *
  have hx4 : Ext w w3 := hx1.trans hx3
  go_wp2_with (at_builtin; refine unstop ?_)
  refine go_on (wpList_appB bytesT ((ho1.ext hx3).alloc _) (Bs.new w3 (be 4 cr) _ (be4_cells cr hlt) _ _) rfl rfl rfl rfl (by simp [be_length]) (by simp [be_length]) (by have := hx4.size; simp; omega) ?_)
  rintro v5 w5 ho5 hg5 -
  have hx5 : Ext w w5 := (hx4.alloc _).own ((ho1.ext hx3).alloc _) (Nat.le_refl _) hg5
  obtain ⟨A5, c5, rfl⟩ := ho5.form
  go_wp2_with (at_builtin; refine unstop ?_)
  refine go_on (wpList_appB bytesT ho5 (h.ext hx5) rfl rfl rfl rfl rfl (by simp [be_length]; omega) hx5.size ?_)
  rintro v6 w6 ho6 hg6 -
  go_wp2
  go_ret2
  exact ⟨_, rfl, by rw [hpk]; exact ho6, hx5.own ho5 (Nat.le_refl _) hg6⟩
theorem numL_go (l : List UInt8) : ∀ v, l.foldl (fun v c => v * 256 + c.toNat) v = v * 256 ^ l.length + numL l := by
  induction l with
  | nil => intro v; simp [numL]
  | cons c l ih =>
    intro v
    simp only [List.foldl_cons, List.length_cons, numL]
    rw [ih, Nat.zero_mul, Nat.zero_add, ih c.toNat, Nat.pow_succ]
    have : (v * 256 + c.toNat) * 256 ^ l.length = v * (256 ^ l.length * 256) + c.toNat * 256 ^ l.length := by
      rw [Nat.add_mul, Nat.mul_assoc, Nat.mul_comm 256]
    omega
theorem numL_cons (c : UInt8) (l : List UInt8) : numL (c :: l) = c.toNat * 256 ^ l.length + numL l := by
  have := numL_go l c.toNat
  unfold numL at *
  simp only [List.foldl_cons, Nat.zero_mul, Nat.zero_add]
  exact this
theorem numL_all (l : List UInt8) : numL l < 256 ^ l.length := by
  have := numL_lt l l.length (Nat.le_refl _)
  rwa [List.take_length] at this
theorem be_mod (n : Nat) : ∀ v k, be n (v + k * 256 ^ n) = be n v := by
  induction n with
  | zero => intro v k; rfl
  | succ n ih =>
    intro v k
    have h : v + k * 256 ^ (n + 1) = v + (k * 256) * 256 ^ n := by rw [Nat.pow_succ, Nat.mul_assoc, Nat.mul_comm 256]
    simp only [be]
    rw [h, ih]
    congr 1
    rw [Nat.add_mul_div_right _ _ (Nat.pow_pos (by omega))]
    apply UInt8.toNat_inj.1
    rw [UInt8.toNat_ofNat', UInt8.toNat_ofNat']
    omega
theorem be_numL (l : List UInt8) : be l.length (numL l) = l := by
  induction l with
  | nil => rfl
  | cons c l ih =>
    have h1 := numL_all l
    simp only [List.length_cons, be]
    rw [numL_cons, Nat.add_comm, be_mod, ih]
    congr 1
    rw [Nat.add_mul_div_right _ _ (Nat.pow_pos (by omega)), Nat.div_eq_of_lt h1]
    simp
theorem numL_be (n : Nat) : ∀ v, v < 256 ^ n → numL (be n v) = v := by
  induction n with
  | zero => intro v h; simp at h; subst h; rfl
  | succ n ih =>
    intro v h
    have hp : 0 < 256 ^ n := Nat.pow_pos (by omega)
    have h1 : be n v = be n (v % 256 ^ n) := by
      have := be_mod n (v % 256 ^ n) (v / 256 ^ n)
      rw [← this, Nat.mul_comm, Nat.mod_add_div]
    simp only [be]
    rw [numL_cons, be_length, h1, ih _ (Nat.mod_lt _ hp), UInt8.toNat_ofNat']
    have h2 : v / 256 ^ n < 256 := Nat.div_lt_of_lt_mul (by rw [Nat.pow_succ] at h; exact h)
    have h3 := Nat.div_add_mod v (256 ^ n)
    rw [Nat.mod_eq_of_lt (by omega), Nat.mul_comm]
    exact h3
theorem be_inj (n : Nat) (a b : Nat) (ha : a < 256 ^ n) (hb : b < 256 ^ n) (h : be n a = be n b) : a = b := by
  rw [← numL_be n a ha, ← numL_be n b hb, h]
theorem take_parts (r : List UInt8) (m : Nat) : r.take (6 + m) = r.take 2 ++ (r.drop 2).take 4 ++ (r.drop 6).take m := by
  have h1 : r.take (6 + m) = r.take 6 ++ (r.drop 6).take m := List.take_add
  have h2 : r.take 6 = r.take 2 ++ (r.drop 2).take 4 := List.take_add (i := 2) (j := 4)
  rw [h1, h2]
theorem pack_iff (r : List UInt8) (m : Nat) (hm : numL (r.take 2) = m) (hr : 6 + m ≤ r.length) :
    packL ((r.drop 6).take m) = r.take (6 + m) ↔ crcF [r.take 2, (r.drop 6).take m] = numL ((r.drop 2).take 4) := by
  have hl : ((r.drop 6).take m).length = m := by simp; omega
  have h2 : be 2 m = r.take 2 := by
    have := be_numL (r.take 2)
    rw [hm] at this
    rwa [List.length_take, Nat.min_eq_left (by omega)] at this
  have hl4 : ((r.drop 2).take 4).length = 4 := by simp; omega
  have h4 := be_numL ((r.drop 2).take 4)
  rw [hl4] at h4
  have h4l := numL_all ((r.drop 2).take 4)
  rw [hl4] at h4l
  rw [take_parts]
  unfold packL
  rw [hl, h2]
  constructor
  · intro h
    have h := List.append_cancel_right h
    have h := List.append_cancel_left h
    have := numL_be 4 _ (crcF_lt [r.take 2, (r.drop 6).take m])
    rw [h] at this
    exact this.symm
  · intro h
    rw [h, h4]
end Go.Proofs.Ytapjgncalldngaa
