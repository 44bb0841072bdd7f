/- Small walks of coord: num, val, good, right, New; slices.Clone, Contains and Equal of ints. Conditions: the hypotheses of each theorem. -/
import Derived.Test.YtijopcdjlpafdaaChecked
import Derived.Test.YtijopcdjlpafdaaCo0
import Derived.Test.YtijopcdjlpafdaaMem
import Derived.Test.YtijopcdjlpafdaaRet
import Derived.Laws.BitsAllLaws
import Derived.Deep.RegionHeld3
namespace Go.Proofs.Ytijopcdjlpafdaa
open Go.RowKit
def ib (l : List Int) : List Value := l.map (Value.int .i64)
@[simp] theorem ib_length (l : List Int) : (ib l).length = l.length := by simp [ib]
theorem ib_one (l : List Int) : ∀ u ∈ ib l, u.oneCell' = true := by
  intro u hu
  simp only [ib, List.mem_map] at hu
  obtain ⟨c, _, rfl⟩ := hu
  rfl
theorem ib_get {l : List Int} {k : Nat} (hk : k < l.length) : (ib l)[k]? = some (.int .i64 l[k]) := by simp [ib, hk]
theorem Sl.int {w : World} {A : Option Addr} {l : List Int} (h : Sl w A (ib l)) {k : Nat} (hk : k < l.length) :
    ∃ ad, A = some ad ∧ ∀ w', Ext w w' → w'.cell? (ad.add k) = some (.int .i64 l[k]) := h.at_ (ib_get hk)
theorem intsT : ElemOf Try.prog 33 3 1 8 := ElemOf.mk' (z := .int .i64 0) Try.underlying33 (by kernel_rfl) rfl (by omega)
theorem u8_of (f : Nat) : ((f : Int) % 256) = ((UInt8.ofNat f).toNat : Int) := by simp
def pt (p : Nat) : Value := .pointer (some ⟨p, 0, none⟩)
theorem wrap64_nat (n : Nat) (h : n < 9223372036854775808) : IntKind.i64.wrap (n : Int) = (n : Int) := by
  have e : (n : Int) % 2 ^ 64 = n := Int.emod_eq_of_lt (by omega) (by omega)
  simp only [IntKind.wrap, IntKind.bits, IntKind.signed, e]
  rw [if_neg]
  simp
  omega
theorem or_byte (v : Nat) (c : UInt8) (hv : v < 16777216) : bits .or .i64 ((v : Int) * 256) (c.toNat : Int) = ((v * 256 + c.toNat : Nat) : Int) := by
  have h2 := c.toNat_lt
  have h : ((v : Int) * 256) = ((v * 256 : Nat) : Int) := rfl
  rw [h]
  show IntKind.i64.wrap ((BitVec.ofInt 64 ((v * 256 : Nat) : Int) ||| BitVec.ofInt 64 ((c.toNat : Nat) : Int)).toNat : Int) = _
  rw [BitVec.toNat_or, ofInt_u64 _ (by omega), ofInt_u64 _ (by omega), nat_join 8 _ _ (by omega) (by omega)]
  exact wrap64_nat _ (by omega)
theorem valB_take (l : By) (k : Nat) (hk : k < l.length) : valB (l.take (k + 1)) = valB (l.take k) * 256 + l[k].toNat := by
  unfold valB valF
  rw [List.take_succ_eq_append_getElem hk, List.foldl_append]; rfl
theorem shr_byte (v m : Nat) : ((v : Int) / 2 ^ (8 * m)) = ((v / 256 ^ m : Nat) : Int) := by
  have : (2 : Int) ^ (8 * m) = ((256 ^ m : Nat) : Int) := by rw [Int.pow_mul]; simp
  rw [this]; simp
theorem wrap_byte (q : Nat) : IntKind.u8.wrap (q : Int) = ((UInt8.ofNat q).toNat : Int) := by
  rw [IntKind.wrap_u8]
  simp
set_option maxHeartbeats 1000000 in
theorem num_any (w0 w : World) (b : Value) (l : By) (v n : Nat) (hx : Ext w0 w) (ho : Own w w0.heap.size b l) (hl : l.length + 4 ≤ 140737488355328) (hn : n ≤ 4) :
    Calls Try.prog 35 #[b, .int .i64 v, .int .i64 n] w fun e w' => ∃ b', e = .returned b' ∧ Own w' w0.heap.size b' (l ++ beN n v) ∧ Ext w0 w' := by
  obtain ⟨ls, hls⟩ : ∃ ls, ls = l ++ beN n v := ⟨_, rfl⟩
  rw [← hls]
  have HLS := Lib.hid hls
  clear hls
  go_enter Try.func35, Try.ntmps35
  go_wp2
  go_loopw [0, 7] (fun b' k wr => ∃ (m : Nat) (l' : By), k = .int .i64 ((m : Int) - 1) ∧ m ≤ n ∧ Own wr w0.heap.size b' l' ∧ l' ++ beN m v = ls ∧ Ext w0 wr) (fun _ k _ => ((intOf k) + 1).toNat)
  case atStart => exact ⟨n, l, rfl, Nat.le_refl _, ho, HLS.out.symm, hx⟩
  case round =>
    clear ho hx
    obtain ⟨m, l', rfl, hmn, ho, hls, hx⟩ := hrel
    have HLEN := Lib.hid (congrArg List.length hls)
    have HLN := Lib.hid (congrArg List.length HLS.out)
    match m with
    | 0 =>
      rw [beN, List.append_nil] at hls
      subst hls
      go_wp2
      go_ret
      exact ⟨_, rfl, ho, hx⟩
    | m + 1 =>
      rw [beN] at hls
      have HL := Lib.hid hls
      clear hls
      have e1 : ((m + 1 : Nat) : Int) - 1 = (m : Int) := by omega
      have hsh := shr_byte v m
      have e2 : ((8 : Int) * (m : Int)).toNat = 8 * m := by omega
      have hwb := wrap_byte (v / 256 ^ m)
      obtain ⟨A, cap, rfl⟩ := ho.form
      rw [e1]
      go_wp2_with (at_builtin; refine unstop ?_)
      refine go_on (wpList_appB bytesTr (ho.alloc _) (Bs.new _ [UInt8.ofNat (v / 256 ^ m)] _ rfl _ _) rfl rfl rfl rfl rfl (by have := HLEN.out; have := HLN.out; simp only [List.length_append, beN_length, List.length_cons, List.length_nil] at *; omega) (by have := hx.size; simp; omega) ?_)
      intro b' w1 ho1 hg1 _
      have hx1 : Ext w0 w1 := (hx.alloc _).own (ho.alloc _) (Nat.le_refl _) hg1
      clear hsh e1 e2 hwb hg1
      go_wp2
      go_roundw
      case rel => exact ⟨m, _, rfl, by omega, ho1, by rw [← HL.out, List.append_assoc]; rfl, hx1⟩
      case measure => simp [intOf]

theorem num_i (w0 w : World) (b : Value) (l : By) (v : Int) (n : Nat) (hv : 0 ≤ v) (hx : Ext w0 w) (ho : Own w w0.heap.size b l) (hl : l.length + 4 ≤ 140737488355328) (hn : n ≤ 4) :
    Calls Try.prog 35 #[b, .int .i64 v, .int .i64 n] w fun e w' => ∃ b', e = .returned b' ∧ Own w' w0.heap.size b' (l ++ beN n v.toNat) ∧ Ext w0 w' := by
  obtain ⟨k, rfl⟩ := Int.eq_ofNat_of_zero_le hv
  exact num_any w0 w b l k n hx ho hl hn
theorem size8 : ∀ w, (Go.sizeOf 5).run Try.prog w = .ok 1 w := fun _ => by kernel_rfl
set_option maxHeartbeats 1000000 in
theorem val_any (w : World) (A : Option Addr) (c k : Nat) (l : By) (hb : Bs w A l) (hc : l.length ≤ c) (hk : k + 4 ≤ l.length) (hm : l.length ≤ 140737488355328) :
    Calls Try.prog 29 #[.slice A l.length c, .int .i64 k] w fun e w' => e = .returned (.int .i64 (valAt l k : Nat)) ∧ w = w' := by
  obtain ⟨A1, e1, f1⟩ := cutB_lh (P := Try.prog) Try.underlying23 size8 A l.length c l k (k + 4) (li := k) (hi := (k : Int) + 4) rfl (by omega) rfl (by omega) hc hk
  have hb1 := f1 w hb
  have h4 : ((l.drop k).take (k + 4 - k)).length = 4 := by simp; omega
  rw [show k + 4 - k = 4 by omega] at *
  have HV : Hid (valAt l k = valB ((l.drop k).take 4)) := Lib.hid rfl
  generalize (l.drop k).take 4 = a at *
  have hw4 : IntKind.i64.wrap ((k : Int) + 4) = (k : Int) + 4 := wrap64_nat (k + 4) (by omega)
  clear f1 hb hc
  go_enter Try.func29, Try.ntmps29
  go_wp2
  go_loop [5, 14] (fun v i => ∃ k : Nat, k ≤ 4 ∧ i = .int .i64 k ∧ v = .int .i64 (valB (a.take k) : Nat)) (fun _ i => 4 - (intOf i).toNat)
  case atStart => exact ⟨0, by omega, rfl, rfl⟩
  case round =>
    obtain ⟨k, hk, rfl, rfl⟩ := hrel
    by_cases hlt : k < a.length
    · obtain ⟨ad, rfl, hc⟩ := Sl.now hb1 (bv_get hlt)
      have hlt2 := valB_lt (a.take k)
      rw [List.length_take, Nat.min_eq_left (by omega)] at hlt2
      have hv : valB (a.take k) < 16777216 := Nat.lt_of_lt_of_le hlt2 (Nat.pow_le_pow_right (n := 256) (by omega) (show k ≤ 3 by omega))
      have hs := Lib.hid (or_byte (valB (a.take k)) a[k] hv)
      have h2 := a[k].toNat_lt
      have hk4 : (k : Int) < 4 := by omega
      clear hlt2
      go_wp2
      go_round
      case rel => exact ⟨k + 1, by omega, by go_num, by rw [valB_take _ _ hlt, ← hs.out]⟩
      case measure => simp [intOf]; omega
    · have hk4 : ¬ (k : Int) < 4 := by omega
      go_wp2
      go_ret
      rw [HV.out, List.take_of_length_le (by omega)]
      exact ⟨rfl, rfl⟩
theorem good_any (n : Nat) (w : World) : Calls Try.prog 28 #[.int .i64 (n : Int)] w fun e w' => e = .returned (.bool (goodF n)) ∧ w = w' := by
  by_cases h1 : (n : Int) < 1
  · have h2 : ¬ 1 ≤ n := by omega
    go_enter Try.func28, Try.ntmps28
    go_wp2
    go_ret
    exact ⟨ret_bool (by simp [goodF]; omega), rfl⟩
  · by_cases h2 : (n : Int) ≤ 2147483647
    · go_enter Try.func28, Try.ntmps28
      go_wp2
      go_ret
      exact ⟨ret_bool (by simp [goodF]; omega), rfl⟩
    · go_enter Try.func28, Try.ntmps28
      go_wp2
      go_ret
      exact ⟨ret_bool (by simp [goodF]; omega), rfl⟩
theorem okAt_of {l : List Int} {i : Nat} (hi : i < l.length) : okAt l i = (decide (0 ≤ l[i]) && decide (l[i] ≤ 3) && (i == 0 || decide (l.getD (i - 1) 0 < l[i]))) := by
  have : l.getD i 0 = l[i] := by rw [List.getD_eq_getElem?_getD, List.getElem?_eq_getElem hi]; rfl
  unfold okAt
  rw [this]
theorem range_all {p : Nat → Bool} {n k : Nat} (hk : k < n) (hp : p k = false) : (List.range n).all p = false := by
  rw [List.all_eq_false]
  exact ⟨k, by simpa using hk, by simp [hp]⟩
set_option maxHeartbeats 1000000 in
theorem right_any (w : World) (A : Option Addr) (c : Nat) (l : List Int) (hb : Sl w A (ib l)) (hm : l.length ≤ 140737488355328) :
    Calls Try.prog 33 #[.slice A l.length c] w fun e w' => e = .returned (.bool (rightF l)) ∧ w = w' := by
  go_enter Try.func33, Try.ntmps33
  go_wp2
  go_loop [7] (fun i => ∃ k : Nat, k ≤ l.length ∧ i = .int .i64 k ∧ Hid (∀ j, j < k → okAt l j = true)) (fun i => l.length - (intOf i).toNat)
  case atStart => exact ⟨0, by omega, rfl, Lib.hid fun j hj => absurd hj (Nat.not_lt_zero _)⟩
  case round =>
    obtain ⟨k, hk, rfl, HO⟩ := hrel
    by_cases hlt : k < l.length
    · have hlt2 : (k : Int) < (l.length : Int) := by omega
      obtain ⟨ad, rfl, hc⟩ := hb.int hlt
      have hc0 := hc _ (Ext.refl _)
      have HE := Lib.hid (okAt_of hlt)
      have HF : okAt l k = false → Hid (rightF l = false) := fun h => Lib.hid (by unfold rightF; rw [range_all hlt h, Bool.and_false])
      have HP : 0 < k → Hid (l.getD (k - 1) 0 = l[k - 1]'(by omega)) := fun h => Lib.hid (by rw [List.getD_eq_getElem?_getD, List.getElem?_eq_getElem (by omega)]; rfl)
      have hp : 0 < k → w.cell? (ad.add (k - 1)) = some (.int .i64 (l[k - 1]'(by omega))) := fun h => by
        obtain ⟨ad', e, hc⟩ := hb.int (k := k - 1) (by omega)
        cases e
        exact hc _ (Ext.refl _)
      clear hb hc
      by_cases h1 : l[k] < 0
      · have h0 : ¬ 0 ≤ l[k] := by omega
        have HF := HF (by rw [HE.out]; simp [h0])
        clear h0 hp HP
        go_wp2
        go_ret
        exact ⟨ret_bool HF.out.symm, rfl⟩
      · by_cases h2 : 4 ≤ l[k]
        · have h0 : ¬ l[k] ≤ 3 := by omega
          have HF := HF (by rw [HE.out]; simp [h0])
          clear h0 hp HP
          go_wp2
          go_ret
          exact ⟨ret_bool HF.out.symm, rfl⟩
        · by_cases h3 : 0 < k
          · have hp := hp h3
            have HP := HP h3
            have hpos : (0 : Int) < (k : Int) := by omega
            have hkm : (k : Int) - 1 = ((k - 1 : Nat) : Int) := by omega
            have hkw : IntKind.i64.wrap ((k - 1 : Nat) : Int) = ((k - 1 : Nat) : Int) := wrap64_nat _ (by omega)
            have hkl : k - 1 < l.length := by omega
            by_cases h4 : l[k] ≤ l[k - 1]'(by omega)
            · have HF := HF (by rw [HE.out, HP.out]; simp; omega)
              go_wp2
              go_ret
              exact ⟨ret_bool HF.out.symm, rfl⟩
            · have HT : Hid (okAt l k = true) := Lib.hid (by rw [HE.out, HP.out]; simp; omega)
              go_wp2
              go_round
              case rel => exact ⟨k + 1, by omega, by go_num, Lib.hid fun j hj => by
                rcases Nat.lt_or_ge j k with h | h
                · exact HO.out j h
                · obtain rfl : j = k := by omega
                  exact HT.out⟩
              case measure => simp [intOf]; omega
          · have hpos : ¬ (0 : Int) < (k : Int) := by omega
            have HT : Hid (okAt l k = true) := Lib.hid (by rw [HE.out]; simp; omega)
            clear hp HP
            go_wp2
            go_round
            case rel => exact ⟨k + 1, by omega, by go_num, Lib.hid fun j hj => by
              rcases Nat.lt_or_ge j k with h | h
              · exact HO.out j h
              · obtain rfl : j = k := by omega
                exact HT.out⟩
            case measure => simp [intOf]; omega
    · have hlt2 : ¬ (k : Int) < (l.length : Int) := by omega
      obtain rfl : k = l.length := by omega
      have HR : Hid (rightF l = decide (0 < l.length)) := Lib.hid (by
        have : (List.range l.length).all (okAt l) = true := List.all_eq_true.2 fun j hj => HO.out j (by simpa using hj)
        unfold rightF
        rw [this, Bool.and_true]
        cases l <;> simp)
      clear hb
      go_wp2
      go_ret
      exact ⟨ret_bool HR.out.symm, rfl⟩
set_option maxHeartbeats 400000 in
theorem iclone_any (A : Option Addr) (cap : Nat) (l : List Int) (w : World) (h : Sl w A (ib l)) (hn : l.length ≤ 1000000) :
    Calls Try.prog 37 #[.slice A l.length cap] w fun e w' => ∃ v, e = .returned v ∧ w'.ownsRow w.heap.size 3 1 v l.length (ib l) ∧ Ext w w' := by
  have hnil := fun w A n c => Lib.run_eql_slice_nil (P := Try.prog) w 33 3 A n c 0 0 Try.underlying33
  cases A with
  | none =>
    have h0 : l = [] := by
      cases l with
      | nil => rfl
      | cons c l => obtain ⟨ad, e, _⟩ := h.int (k := 0) (by simp); cases e
    subst h0
    go_enter Try.func37, Try.ntmps37
    go_wp2
    go_ret
    exact ⟨_, rfl, World.ownsRow_nil _ _ _ _, Ext.refl _⟩
  | some ad =>
    go_enter Try.func37, Try.ntmps37
    go_wp2_with (at_builtin; refine unstop ?_)
    refine go_on (wpList_app intsT (xs := []) (World.ownsRow_made w #[] 0 (Nat.le_refl _) (by simp [maxLen]) rfl) (h.ext ((Ext.refl _).alloc _)) rfl rfl rfl rfl (by simp) (ib_one l) (by omega) (by omega) (by simp) ?_)
    intro v' w1 hown1 hg1 hor1
    go_wp2
    go_ret
    exact ⟨_, rfl, by simpa using hown1, ((Ext.refl _).alloc _).grown hg1 (by intro k hk; simp [Value.ownBlock] at hk; omega)⟩
end Go.Proofs.Ytijopcdjlpafdaa
