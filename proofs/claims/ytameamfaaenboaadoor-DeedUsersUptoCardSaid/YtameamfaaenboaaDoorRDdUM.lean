/- The walk of the reference's PutUser. Conditions: the bounds named; the library's two tables. -/
import Derived.Test.YtameamfaaenboaaDoorC6
import Derived.Test.YtameamfaaenboaaDoorC9
import Derived.Test.YtameamfaaenboaaDoorC10
import Derived.Test.YtameamfaaenboaaDoorC2
namespace Go.Proofs.YtameamfaaenboaaDoor
open Go.RowKit
theorem Lay.al {w0 w w1 w2 : World} {l : By} {b : Value} (h : Lay w0 w l w1 b) (hx : Ext w1 w2) : Lay w0 w l w2 b := ⟨h.o.ext hx, h.x.trans hx, fun ts ht => (h.s ts ht).trans (.of_ext hx)⟩
theorem Lay.app {w0 w w1 w2 : World} {l m : By} {b c : Value} (h : Lay w0 w l w1 b) (ho : Own w2 w0.heap.size c m) (hg : w1.grownBy w2 b.ownBlock) : Lay w0 w m w2 c :=
  ⟨ho, h.x.own h.o (Nat.le_refl _) hg, fun ts ht => (h.s ts ht).own h.o hg ht⟩
theorem new_byte {n : Nat} {x : Int} (h : x = (n : Int) % 256) (W : World) : Bs (W.alloc (.cells #[.int .u8 x] 5)) (some ⟨W.heap.size, 0, none⟩) (beN 1 n) := by
  subst h
  exact Bs.new W (beN 1 n) _ (by rw [u8_of]; simp [beN, bv]) _ _
theorem new_u8 (f : UInt8) (W : World) : Bs (W.alloc (.cells #[.int .u8 (f.toNat : Int)] 5)) (some ⟨W.heap.size, 0, none⟩) (beN 1 f.toNat) :=
  new_byte (by have := f.toNat_lt; omega) W
theorem ext_grown {w w1 : World} (h : Ext w w1) (row : Option Nat) : w.grownBy w1 row := ⟨h.os, h.tape, h.output, h.size, fun k hk _ => h.block k hk⟩
set_option maxRecDepth 20000 in
set_option maxHeartbeats 1000000 in
/-- Num, and that no block of old but the bytes' own has turned -/
theorem RNumG_any (w0 w : World) (b : Value) (l : By) (v n : Nat) (hx : Ext w0 w) (ho : Own w w0.heap.size b l) (hl : l.length + 4 ≤ 140737488355328) (hn : n ≤ 4) (hv : v < 9223372036854775808) :
    Calls Tryd.prog 48 #[b, .int .i64 v, .int .i64 n] w fun e w' => ∃ b', e = .returned b' ∧ Lay w0 w (l ++ beN n v) w' b' ∧ w.grownBy w' b.ownBlock := by
  have HX := Lib.hid hx
  go_enter Tryd.func48, Tryd.ntmps48
  go_wp2
  go_loopw [1, 7, 8] (fun vv xv iv wr => ∃ i : Nat, iv = .int .i64 i ∧ i ≤ n ∧ vv = .int .i64 ((v / 256 ^ i : Nat)) ∧ Own wr w.heap.size xv (beN i v) ∧ Ext w wr) (fun _ _ iv _ => n - (intOf iv).toNat)
  case atStart => exact ⟨0, rfl, by omega, by simp, Own.empty w w.heap.size (Nat.le_refl _), (Ext.refl w).alloc _⟩
  case round =>
    obtain ⟨i, rfl, hi, rfl, hox, hxr⟩ := hrel
    by_cases hlt : i < n
    · have hlt2 : (i : Int) < (n : Int) := by omega
      obtain ⟨Ax, cx, rfl⟩ := hox.form
      rw [beN_length] at *
      have HD : Hid (v / 256 ^ i / 256 = v / 256 ^ (i + 1)) := Lib.hid (by rw [Nat.div_div_eq_div_mul, Nat.pow_succ])
      have HBE : Hid (beN (i + 1) v = UInt8.ofNat (v / 256 ^ i) :: beN i v) := Lib.hid rfl
      have hqv : v / 256 ^ i ≤ v := Nat.div_le_self _ _
      generalize v / 256 ^ i = q at *
      go_wp2_with (at_builtin; refine unstop ?_)
      have hnew : Own (wr.alloc (.cells #[.int .u8 ((q : Int) % 256)] 5)) w.heap.size (.slice (some ⟨wr.heap.size, 0, none⟩) 1 1) [UInt8.ofNat q] := Own.new wr w.heap.size _ [UInt8.ofNat q] 1 (by rw [u8_of]; rfl) rfl hxr.size (by simp [maxLen])
      refine go_on (wpList_appB bytesTr hnew (hox.bs.ext ((Ext.refl wr).alloc _)) rfl rfl rfl rfl (by rw [beN_length]) (by simp; omega) (by have := hxr.size; simp; omega) ?_)
      intro v' w1 ho1 hg1 _
      have hx1 : Ext w w1 := (hxr.alloc _).own hnew (Nat.le_refl _) hg1
      have HO : Hid (Own w1 w.heap.size v' (beN (i + 1) v)) := Lib.hid (by rw [HBE.out]; exact ho1)
      clear hnew hox hxr ho1 hg1
      go_wp2
      go_roundw
      case rel => exact ⟨i + 1, by go_num, by omega, by rw [← HD.out]; exact congrArg _ (by omega), HO.out, hx1⟩
      case measure => simp [intOf]; omega
    · obtain rfl : i = n := by omega
      obtain ⟨Ax, cx, rfl⟩ := hox.form
      rw [beN_length] at *
      have hob : Own wr w0.heap.size b l := ho.ext hxr
      go_wp2_with (at_builtin; refine unstop ?_)
      refine go_on (wpList_appB bytesTr hob hox.bs rfl rfl rfl rfl (by rw [beN_length]) (by simp; omega) (by have := hxr.size; have := HX.out.size; omega) ?_)
      intro v' w1 ho1 hg1 _
      have hlay : Lay w0 w (l ++ beN i v) w1 v' := ⟨ho1, (HX.out.trans hxr).own hob (Nat.le_refl _) hg1, fun ts ht => (Stp.of_ext hxr).own hob hg1 ht⟩
      have hgr : w.grownBy w1 b.ownBlock := grown_step (ext_grown hxr _) hg1 (.inl rfl)
      clear hob ho hox hxr ho1 hg1
      go_wp2
      go_ret
      exact ⟨_, rfl, hlay, hgr⟩
end Go.Proofs.YtameamfaaenboaaDoor
