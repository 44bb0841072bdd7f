/- The walks of text.Word and the reference's. Conditions: the lengths named in each theorem. -/
import Derived.Test.YtchokelpimibdaaText1
import Derived.Deep.QuietTactic
import Derived.BigQuiet
namespace Go.Proofs.Ytchokelpimibdaa
open Go.RowKit
theorem ex_st (s : ByteArray) (a b : Nat) : s.extract a b = st (((tl s).take b).drop a) := by
  apply ByteArray.ext
  simp only [st, tl, ByteArray.data_extract]
  apply Array.toList_inj.1
  simp [Array.toList_extract, List.drop_take]
def wordL (l : List UInt8) : List UInt8 × List UInt8 := (l.takeWhile (· != 32), (l.dropWhile (· != 32)).drop 1)
theorem wordL_at {l : List UInt8} : ∀ {k : Nat}, (l.take k).all (· != 32) = true → l[k]? = some 32 → wordL l = (l.take k, l.drop (k + 1)) := by
  induction l with
  | nil => intro k _ h; simp at h
  | cons c l ih =>
    intro k h hk
    cases k with
    | zero => simp at hk; subst hk; simp [wordL]
    | succ k =>
      simp only [List.take_succ_cons, List.all_cons, Bool.and_eq_true] at h
      simp only [List.getElem?_cons_succ] at hk
      have := ih h.2 hk
      simp only [wordL, Prod.mk.injEq] at this ⊢
      have hc : (c != 32) = true := h.1
      simp only [List.takeWhile_cons, List.dropWhile_cons, hc, if_true, List.take_succ_cons, List.drop_succ_cons]
      exact ⟨by rw [this.1], this.2⟩
theorem wordL_none {l : List UInt8} (h : l.all (· != 32) = true) : wordL l = (l, []) := by
  induction l with
  | nil => rfl
  | cons c l ih =>
    simp only [List.all_cons, Bool.and_eq_true] at h
    have := ih h.2
    simp only [wordL, Prod.mk.injEq] at this ⊢
    have hc : (c != 32) = true := h.1
    simp only [List.takeWhile_cons, List.dropWhile_cons, hc, if_true]
    exact ⟨by rw [this.1], this.2⟩
theorem all_on {l : List UInt8} {k : Nat} {c : UInt8} (hk : l[k]? = some c) (h : (l.take k).all (· != 32) = true) (hc : c.toNat ≠ 32) : (l.take (k + 1)).all (· != 32) = true := by
  rw [List.take_add_one, hk, List.all_append, h]
  have : (c != 32) = true := by
    simp only [bne_iff_ne, ne_eq]
    intro e
    exact hc (by rw [e]; rfl)
  simp [this]
theorem byte32 {c : UInt8} (h : c.toNat = 32) : c = 32 := UInt8.toNat_inj.1 h
/-- what both tell -/
def WordSays (l : List UInt8) (w : World) (e : Ending) (w' : World) : Prop := e = .returned (.tuple #[.string (st (wordL l).1), .string (st (wordL l).2)]) ∧ Ext w w'
theorem WordSays.at_ {s : ByteArray} {k : Nat} {w w' : World} (h : ((tl s).take k).all (· != 32) = true) (hk : (tl s)[k]? = some 32) (hx : Ext w w') : WordSays (tl s) w (.returned (.tuple #[.string (s.extract 0 k), .string (s.extract (k + 1) s.size)])) w' := by
  unfold WordSays
  rw [wordL_at h hk, ex_st, ex_st]
  have e : (tl s).take s.size = tl s := List.take_of_length_le (by simp)
  rw [e]
  simpa using hx
theorem WordSays.none {s : ByteArray} {w w' : World} (h : (tl s).all (· != 32) = true) (hx : Ext w w') : WordSays (tl s) w (.returned (.tuple #[.string s, .string ⟨#[]⟩])) w' := by
  unfold WordSays
  rw [wordL_none h]
  simp only [st_tl]
  exact ⟨rfl, hx⟩
set_option maxHeartbeats 400000 in
theorem Word_any (s : ByteArray) (w : World) (hs : s.size ≤ 140737488355328) : Calls Try.prog 38 #[.string s] w (WordSays (tl s) w) := by
  go_enter Try.func38, Try.ntmps38
  go_wp2
  go_loopw [7] (fun i wr => ∃ k : Nat, k ≤ s.size ∧ i = .int .i64 k ∧ Ext w wr ∧ ((tl s).take k).all (· != 32) = true) (fun i _ => s.size - (intOf i).toNat)
  case atStart => exact ⟨0, by omega, rfl, Ext.refl _, by simp⟩
  case round =>
    obtain ⟨k, hk, rfl, hx, hall⟩ := hrel
    have HA := Lib.hid hall
    clear hall
    by_cases hlt : k < s.size
    · have HG := Lib.hid (tl_get? s k hlt)
      have hcl := s[k].toNat_lt
      have hlt2 : (k : Int) < s.size := by omega
      by_cases hb : s[k].toNat = 32
      · have e1 : ((s[k].toNat : Int) == 32) = true := by rw [hb]; rfl
        have HQ : Hid (∀ W, Ext w W → WordSays (tl s) w (.returned (.tuple #[.string (s.extract 0 k), .string (s.extract (k + 1) s.size)])) W) := Lib.hid (fun W hx => WordSays.at_ HA.out (by rw [HG.out, byte32 hb]) hx)
        have hw1 : IntKind.i64.wrap ((k : Int) + 1) = (k : Int) + 1 := IntWalk.i64_in _ (by omega)
        have hb0 : (0 : Int) ≤ (k : Int) + 1 := by omega
        have hb1 : (k : Int) + 1 ≤ s.size := by omega
        have hb2 : (0 : Int) ≤ (k : Int) := by omega
        have hb3 : (k : Int) ≤ s.size := by omega
        have hb4 : ((k : Int) + 1).toNat = k + 1 := by omega
        clear hb
        go_wp2_with fail
        go_quiet (fail)
        go_wp2
        go_ret2
        exact HQ.out _ (hx.drewN _)
      · have e1 : ((s[k].toNat : Int) == 32) = false := beq_eq_false_iff_ne.2 (by omega)
        have HQ := Lib.hid (all_on HG.out HA.out hb)
        clear hb
        go_wp2
        go_roundw
        case rel => exact ⟨k + 1, by omega, by go_num, hx, HQ.out⟩
        case measure => simp [intOf]; omega
    · have hk' : k = s.size := by omega
      subst hk'
      have hlt2 : ¬ (s.size : Int) < s.size := by omega
      have HQ : Hid (∀ W, Ext w W → WordSays (tl s) w (.returned (.tuple #[.string s, .string ⟨#[]⟩])) W) := Lib.hid (fun W hx => WordSays.none (by have := HA.out; rwa [List.take_of_length_le (by simp)] at this) hx)
      go_wp2
      go_ret2
      exact HQ.out _ hx
end Go.Proofs.Ytchokelpimibdaa
