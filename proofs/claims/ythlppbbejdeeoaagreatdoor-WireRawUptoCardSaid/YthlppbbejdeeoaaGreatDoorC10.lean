/- The walks of frame's lay, num, over, sum, Sum, Pack and of slices.Clone at bytes: what each call answers, and that nothing that was there has turned. Conditions: the lengths named in each theorem. The walk of frame.One: what it answers at every bytes and place. Conditions: the slice is one (its length is at most its capacity). The walks of the reference's Sum and Pack, and plain lemmas on numbers of bytes. Conditions: the lengths named in each theorem. What the two Packs tell at every bytes; where a frame lies it is told. Conditions: the hypotheses of each theorem. -/
import Derived.Test.YthlppbbejdeeoaaGreatDoorChecked
import Derived.Test.YthlppbbejdeeoaaGreatDoorC0
import Derived.Deep.RegionHeld3
import Derived.BigQuiet
import Derived.Deep.QuietTactic
namespace Go.Proofs.YthlppbbejdeeoaaGreatDoor
open Go.RowKit
def crcB (r b : Nat) : Nat := if r % 2 = b then r / 2 else (r / 2) ^^^ 3988292384
theorem crcB_lt (r b : Nat) (hr : r < 4294967296) : crcB r b < 4294967296 := by
 unfold crcB
 split
 ·omega
 ·exact Nat.xor_lt_two_pow (n := 32) (by omega) (by omega)
theorem and1 (r : Nat) (hr : r < 4294967296) : bits BinOp.and IntKind.u32 (r : Int) 1 = ((r % 2 : Nat) : Int) := by
 rw [show (1 : Int) = ((1 : Nat) : Int) from rfl, u32_and_nat r 1 hr (by omega), nat_mask1]
theorem xorP (r : Nat) (hr : r < 4294967296) : bits BinOp.xor IntKind.u32 ((r : Int) / 2) 3988292384 = (((r / 2) ^^^ 3988292384 : Nat) : Int) := by
 rw [show (3988292384 : Int) = ((3988292384 : Nat) : Int) from rfl, show ((r : Int) / 2) = ((r / 2 : Nat) : Int) from by omega, u32_xor_nat _ _ (by omega) (by omega)]
set_option maxHeartbeats 400000 in
theorem step_any (g r b : Nat) (w : World) (hg : w.heap[g]? = some (.cells #[.int .u32 r] 71 (0, 0))) (hr : r < 4294967296) (_hb : b < 2) :
 Calls Tryz.prog 68 #[.int .u32 b, .pointer (some ⟨g, 0, none⟩)] w fun e w' => e = .returned (.tuple #[]) ∧ w' = w.setCell ⟨g, 0, none⟩ (.int .u32 (crcB r b)) := by
 have hc := cell_of_one hg
 have hf := free_of_one hg
 by_cases h : r % 2 = b
 ·have hh : (bits BinOp.and IntKind.u32 (r : Int) 1 != (b : Int)) = false := by rw [and1 r hr, h]; simp
  have he : Hid (crcB r b = r / 2) := by unfold crcB; rw [if_pos h]; exact rfl
  clear h
  go_enter Tryz.func68, Tryz.ntmps68
  go_wp2
  go_end0
  exact ⟨rfl, by rw [he.out]; rfl⟩
 ·have hh : (bits BinOp.and IntKind.u32 (r : Int) 1 != (b : Int)) = true := by rw [and1 r hr, bne_iff_ne]; omega
  have he : Hid (crcB r b = (r / 2) ^^^ 3988292384) := by unfold crcB; rw [if_neg h]; exact rfl
  have hx := Lib.hid (xorP r hr)
  clear h
  go_enter Tryz.func68, Tryz.ntmps68
  go_wp2
  go_end0
  exact ⟨rfl, by rw [he.out, ← hx.out]⟩
def bitsOf (c : UInt8) : List Nat := (List.range 8).map fun i => c.toNat / 2 ^ i % 2
def crcL (r : Nat) (l : List Nat) : Nat := l.foldl crcB r
def crcC (r : Nat) (c : UInt8) : Nat := crcL r (bitsOf c)
def crcS (r : Nat) (l : List UInt8) : Nat := l.foldl crcC r
def crcP (r : Nat) (ls : List (List UInt8)) : Nat := ls.foldl crcS r
theorem crcL_lt (l : List Nat) : ∀ r, r < 4294967296 → crcL r l < 4294967296 := by
 induction l with
 | nil => intro r h; exact h
 | cons b l ih => intro r h; exact ih _ (crcB_lt r b h)
theorem crcC_lt (r : Nat) (c : UInt8) (h : r < 4294967296) : crcC r c < 4294967296 := crcL_lt _ _ h
theorem crcS_lt (l : List UInt8) : ∀ r, r < 4294967296 → crcS r l < 4294967296 := by
 induction l with
 | nil => intro r h; exact h
 | cons b l ih => intro r h; exact ih _ (crcC_lt r b h)
theorem crcP_lt (l : List (List UInt8)) : ∀ r, r < 4294967296 → crcP r l < 4294967296 := by
 induction l with
 | nil => intro r h; exact h
 | cons b l ih => intro r h; exact ih _ (crcS_lt b r h)
theorem foldl_take_succ {α β : Type} (f : β → α → β) (r : β) (l : List α) (k : Nat) (hk : k < l.length) : (l.take (k + 1)).foldl f r = f ((l.take k).foldl f r) l[k] := by
 rw [List.take_succ_eq_append_getElem hk, List.foldl_append]; rfl
theorem bit_step (r : Nat) (c : UInt8) (i : Nat) (hi : i < 8) : crcL r ((bitsOf c).take (i + 1)) = crcB (crcL r ((bitsOf c).take i)) (c.toNat / 2 ^ i % 2) := by
 unfold crcL
 rw [foldl_take_succ crcB r (bitsOf c) i (by simp [bitsOf]; exact hi)]
 simp [bitsOf]
theorem and_bit (c m : Nat) : bits .and .u32 ((c : Int) / 2 ^ m % 4294967296) 1 = ((c / 2 ^ m % 2 : Nat) : Int) := by
 have h : ((c : Int) / 2 ^ m % 4294967296) = ((c / 2 ^ m % 4294967296 : Nat) : Int) := by rw [Int.natCast_emod, Int.natCast_ediv, Int.natCast_pow]; rfl
 rw [h, and1 _ (Nat.mod_lt _ (by omega))]
 omega
theorem bits_all (r : Nat) (c : UInt8) : crcL r ((bitsOf c).take 8) = crcC r c := by
 rw [List.take_of_length_le (by simp [bitsOf])]; rfl
theorem crcS_take (r : Nat) (l : List UInt8) (k : Nat) (hk : k < l.length) : crcS r (l.take (k + 1)) = crcC (crcS r (l.take k)) l[k] := foldl_take_succ crcC r l k hk
theorem crcP_take (r : Nat) (l : List (List UInt8)) (k : Nat) (hk : k < l.length) : crcP r (l.take (k + 1)) = crcS (crcP r (l.take k)) l[k] := foldl_take_succ crcS r l k hk
set_option maxHeartbeats 1000000 in
theorem over_any (g r : Nat) (A : Option Addr) (cap : Nat) (ls : List (List UInt8)) (w0 w : World) (hx : Ext w0 w) (hw : w0.heap.size ≤ g) (hA : BsS w0 A ls)
 (hn : ls.length ≤ 140737488355328) (hl : ∀ l ∈ ls, l.length ≤ 140737488355328)
 (hg : w.heap[g]? = some (.cells #[.int .u32 r] 71 (0, 0))) (hr : r < 4294967296) :
 Calls Tryz.prog 67 #[.func (.func 68) #[] #[.pointer (some ⟨g, 0, none⟩)], .slice A ls.length cap] w fun e w' => e = .returned (.tuple #[]) ∧
  Ext w0 w' ∧ w'.heap[g]? = some (.cells #[.int .u32 (crcP r ls)] 71 (0, 0)) := by
 have HL := Lib.hid hl
 clear hl
 go_enter Tryz.func67, Tryz.ntmps67
 go_wp2
 go_loopw [11] (fun i wr => ∃ k : Nat, k ≤ ls.length ∧ i = .int .i64 k ∧ Ext w0 wr ∧ wr.heap[g]? = some (.cells #[.int .u32 (crcP r (ls.take k) : Nat)] 71 (0, 0))) (fun i _ => ls.length - (intOf i).toNat)
 case atStart => exact ⟨0, by omega, rfl, hx, hg⟩
 case round =>
  obtain ⟨k, hk, rfl, hxr, hgr⟩ := hrel
  clear hg hx
  by_cases hlt : k < ls.length
  ·obtain ⟨ad, A', cap', rfl, hc, hA'⟩ := hA.at_ hlt
   have hl' : ls[k].length ≤ 140737488355328 := HL.out _ (List.getElem_mem hlt)
   have hr' := crcP_lt (ls.take k) r hr
   have hc1 := hc _ hxr
   clear hc
   generalize hls : ls[k] = l at *
   generalize hr0 : crcP r (ls.take k) = r0 at *
   have HLS := Lib.hid hls
   have HR0 := Lib.hid hr0
   clear hls hr0
   go_wp2
   obtain ⟨wo, rfl⟩ : ∃ wo : World, wo = wr := ⟨_, rfl⟩
   go_loopw [17] (fun i wr => ∃ j : Nat, j ≤ l.length ∧ i = .int .i64 j ∧ Ext w0 wr ∧ wr.heap[g]? = some (.cells #[.int .u32 (crcS r0 (l.take j) : Nat)] 71 (0, 0))) (fun i _ => l.length - (intOf i).toNat)
   case atStart => exact ⟨0, by omega, rfl, hxr, hgr⟩
   case round =>
    obtain ⟨j, hj, rfl, hxr2, hgr2⟩ := hrel
    clear hgr hxr hc1
    by_cases hlt2 : j < l.length
    ·obtain ⟨ad2, rfl, hc⟩ := hA'.at_ hlt2
     have hc1 := hc _ hxr2
     clear hc
     have hr2 := crcS_lt (l.take j) r0 hr'
     generalize hcc : l[j] = c at *
     generalize hr1 : crcS r0 (l.take j) = r1 at *
     have HCC := Lib.hid hcc
     have HR1 := Lib.hid hr1
     clear hcc hr1
     have hcl := c.toNat_lt
     go_wp2
     obtain ⟨wi, rfl⟩ : ∃ wi : World, wi = wr := ⟨_, rfl⟩
     go_loopw [21] (fun i wr => ∃ m : Nat, m ≤ 8 ∧ i = .int .i64 m ∧ Ext w0 wr ∧ wr.heap[g]? = some (.cells #[.int .u32 (crcL r1 ((bitsOf c).take m) : Nat)] 71 (0, 0))) (fun i _ => 8 - (intOf i).toNat)
     case atStart => exact ⟨0, by omega, rfl, hxr2, hgr2⟩
     case round =>
      obtain ⟨m, hm, rfl, hxr3, hgr3⟩ := hrel
      clear hgr2 hxr2 hc1
      by_cases hlt3 : m < 8
      ·have hb3 := crcL_lt ((bitsOf c).take m) r1 hr2
       have hm3 : (m : Int) < 8 := by omega
       go_wp2_with fail
       rw [and_bit]
       refine (step_any g _ _ _ hgr3 hb3 (by omega)).mono ?_
       rintro e w3 ⟨rfl, rfl⟩
       go_wp2
       go_roundw
       case rel => exact ⟨m + 1, by omega, by go_num, hxr3.setCell hw _, by rw [one_setCell hgr3, bit_step _ _ _ hlt3]⟩
       case measure => simp [intOf]; omega
      ·have hm8 : m = 8 := by omega
       subst hm8
       go_wp2
       go_roundw
       case rel => exact ⟨j + 1, by omega, by go_num, hxr3, by rw [hgr3, bits_all]; rw [crcS_take _ _ _ hlt2, HR1.out, HCC.out]⟩
       case measure => simp [intOf]; omega
    ·have hj8 : j = l.length := by omega
     subst hj8
     go_wp2
     go_roundw
     case rel => exact ⟨k + 1, by omega, by go_num, hxr2, by rw [hgr2, List.take_length]; rw [crcP_take _ _ _ hlt, HR0.out, HLS.out]⟩
     case measure => simp [intOf]; omega
  ·have hj8 : k = ls.length := by omega
   subst hj8
   go_wp2
   go_end0
   exact ⟨rfl, hxr, by simpa using hgr⟩
theorem xor_max (r : Nat) (hr : r < 4294967296) : bits .xor .u32 IntKind.u32.max (r : Int) = ((4294967295 - r : Nat) : Int) := by
 have h : IntKind.u32.max = ((4294967295 : Nat) : Int) := by decide
 rw [h, u32_xor_nat _ _ (by omega) hr]
 congr 1
 have h2 : 4294967295 - r = 2 ^ 32 - (r + 1) := by omega
 have h1 : (4294967295 : Nat) = 2 ^ 32 - 1 := by decide
 rw [h2, h1]
 apply Nat.eq_of_testBit_eq
 intro i
 rw [Nat.testBit_xor, Nat.testBit_two_pow_sub_one, Nat.testBit_two_pow_sub_succ (by omega)]
 by_cases hi : i < 32
 ·simp [hi]
 ·have : r.testBit i = false := Nat.testBit_lt_two_pow (Nat.lt_of_lt_of_le (by omega : r < 2 ^ 32) (Nat.pow_le_pow_right (by omega) (by omega)))
  simp [hi, this]
/-- the sum of parts -/
def crcF (ls : List (List UInt8)) : Nat := 4294967295 - crcP 4294967295 ls
set_option maxHeartbeats 400000 in
theorem sum_any (A : Option Addr) (cap n : Nat) (ls : List (List UInt8)) (w : World) (hA : BsS w A ls) (hnl : n = ls.length)
 (hn : ls.length ≤ 140737488355328) (hl : ∀ l ∈ ls, l.length ≤ 140737488355328) :
 Calls Tryz.prog 42 #[.slice A n cap] w fun e w' => e = .returned (.int .u32 (crcF ls : Nat)) ∧ Ext w w' := by
 subst hnl
 have HL := Lib.hid hl
 clear hl
 go_enter Tryz.func42, Tryz.ntmps42
 go_wp2_with fail
 refine (over_any w.heap.size 4294967295 A cap ls w _ ((Ext.refl w).alloc _) (Nat.le_refl _) hA hn HL.out (heap_alloc_new w _) (by omega)).mono ?_
 rintro e w1 ⟨rfl, hx, hg⟩
 have hc := cell_of_one hg
 go_wp2
 go_ret
 exact ⟨ret_int (xor_max _ (crcP_lt _ _ (by omega))), hx⟩
/-- a number's n bytes, the highest first -/
def be : Nat → Nat → List UInt8
 | 0, _ => []
 | n + 1, v => UInt8.ofNat (v / 256 ^ n) :: be n v
theorem be_length (n v : Nat) : (be n v).length = n := by induction n with | zero => rfl | succ n ih => simp [be, ih]
theorem be_get (n v j : Nat) (hj : j < n) : (be n v)[j]? = some (UInt8.ofNat (v / 256 ^ (n - 1 - j))) := by
 induction n generalizing j with
 | zero => omega
 | succ n ih =>
  cases j with
  | zero => simp [be]
  | succ j => simp only [be, List.getElem?_cons_succ]; rw [ih j (by omega)]; congr 4; omega
theorem be_take (n v j : Nat) (hj : j < n) : (be n v).take (j + 1) = (be n v).take j ++ [UInt8.ofNat (v / 256 ^ (n - 1 - j))] := by
 rw [List.take_add_one, be_get n v j hj]; rfl
def layL (n : Nat) (ls : List Nat) : List UInt8 := ls.flatMap (be n)
theorem layL_take (n : Nat) (ls : List Nat) (k : Nat) (hk : k < ls.length) : layL n (ls.take (k + 1)) = layL n (ls.take k) ++ be n ls[k] := by
 unfold layL
 rw [List.take_succ_eq_append_getElem hk, List.flatMap_append]; simp
theorem layL_length (n : Nat) (ls : List Nat) : (layL n ls).length = n * ls.length := by
 induction ls with
 | nil => simp [layL]
 | cons a l ih => simp only [layL, List.flatMap_cons, List.length_append, be_length, List.length_cons] at *; rw [ih, Nat.mul_succ]; omega
def iv (l : List Nat) : List Value := l.map fun (c : Nat) => Value.int .u32 (c : Int)
theorem iv_get {l : List Nat} {k : Nat} (hk : k < l.length) : (iv l)[k]? = some (.int .u32 (l[k] : Int)) := by simp [iv, hk]
theorem bytesT : ElemOf Tryz.prog 22 5 1 1 := ElemOf.mk' (z := .int .u8 0) Tryz.underlying22 (by kernel_rfl) rfl (by omega)
theorem be_val (v m : Nat) : ((v : Int) / 2 ^ (8 * m) % 256) = ((UInt8.ofNat (v / 256 ^ m)).toNat : Int) := by
 rw [UInt8.toNat_ofNat', Int.natCast_emod, Int.natCast_ediv, Int.natCast_pow]
 have h : (2 : Int) ^ (8 * m) = ((256 : Nat) : Int) ^ m := by rw [Int.pow_mul]; rfl
 rw [h]
 rfl
set_option maxHeartbeats 1000000 in
theorem lay_any (base n : Nat) (v : Value) (bs : List UInt8) (A : Option Addr) (cap : Nat) (ls : List Nat) (w : World) (hown : Own w base v bs) (hbase : base ≤ w.heap.size)
 (hA : Sl w A (iv ls)) (hne : ∀ ad, A = some ad → v.ownBlock ≠ some ad.block) (hn : n ≤ 4) (hl : ls.length ≤ 4) (hb : bs.length ≤ 140737488355000) :
 Calls Tryz.prog 66 #[v, .int .i64 n, .slice A ls.length cap] w fun e w' => ∃ v', e = .returned v' ∧ Own w' base v' (bs ++ layL n ls) ∧ w.grownBy w' v.ownBlock ∧
  (v'.ownBlock = v.ownBlock ∨ ∃ g, v'.ownBlock = some g ∧ w.heap.size ≤ g) := by
 obtain ⟨A0, c0, rfl⟩ := own_form hown
 go_enter Tryz.func66, Tryz.ntmps66
 go_wp2
 go_loopw [0, 12] (fun b i wr => ∃ k : Nat, k ≤ ls.length ∧ i = .int .i64 k ∧ Own wr base b (bs ++ layL n (ls.take k)) ∧ w.grownBy wr (Value.slice A0 bs.length c0).ownBlock ∧
  (b.ownBlock = (Value.slice A0 bs.length c0).ownBlock ∨ ∃ g, b.ownBlock = some g ∧ w.heap.size ≤ g)) (fun _ i _ => ls.length - (intOf i).toNat)
 case atStart => exact ⟨0, by omega, rfl, by simpa [layL] using hown, World.grownBy.refl w _, .inl rfl⟩
 case round =>
  obtain ⟨k, hk, rfl, hownr, hgr, hor⟩ := hrel
  clear hown
  by_cases hlt : k < ls.length
  ·obtain ⟨ad, rfl, hc⟩ := (hA.grown hgr (fun ad e => hne ad e)).now (iv_get hlt)
   have hlen : (bs ++ layL n (ls.take k)).length ≤ bs.length + 16 := by
    rw [List.length_append, layL_length, List.length_take]
    have := Nat.mul_le_mul hn (show min k ls.length ≤ 4 by omega)
    omega
   generalize hxs : bs ++ layL n (ls.take k) = xs at *
   have HXS := Lib.hid hxs
   clear hxs
   go_wp2
   obtain ⟨wo, rfl⟩ : ∃ wo : World, wo = wr := ⟨_, rfl⟩
   go_loopw [0, 9] (fun b i wr => ∃ j : Nat, j ≤ n ∧ i = .int .i64 ((n : Int) - 1 - j) ∧ Own wr base b (xs ++ (be n ls[k]).take j) ∧ w.grownBy wr (Value.slice A0 bs.length c0).ownBlock ∧
    (b.ownBlock = (Value.slice A0 bs.length c0).ownBlock ∨ ∃ g, b.ownBlock = some g ∧ w.heap.size ≤ g)) (fun _ i _ => (intOf i + 1).toNat)
   case atStart => exact ⟨0, by omega, by go_num, by simpa using hownr, hgr, hor⟩
   case round =>
    obtain ⟨j, hj, rfl, hownj, hgj, horj⟩ := hrel
    clear hownr hgr hor
    by_cases hlt2 : j < n
    ·have hlt3 : (j : Int) ≤ n - 1 := by omega
     have hjl := be_length n ls[k]
     go_wp2_with (at_builtin; refine unstop ?_)
     rw [be_val]
     refine go_on (wpList_appB bytesT (hownj.alloc _) (Bs.new _ [_] _ rfl _ _) rfl rfl rfl rfl rfl (by simp only [List.length_append, List.length_take, List.length_singleton]; omega) (by have := hgj.size; simp; omega) ?_)
     intro v' w1 hown1 hg1 hor1
     go_wp2
     go_roundw
     case rel =>
      refine ⟨j + 1, by omega, by go_num, ?_, grown_step (grown_alloc hgj _) hg1 horj, ?_⟩
      ·rw [be_take _ _ _ hlt2]; simpa using hown1
      ·rcases hor1 with e | e
       ·rw [e]; exact horj
       ·exact .inr ⟨_, e, by have := hgj.size; simp; omega⟩
     case measure => simp [intOf]; omega
    ·have hjn : j = n := by omega
     subst hjn
     go_wp2
     go_roundw
     case rel =>
      refine ⟨k + 1, by omega, by go_num, ?_, hgj, horj⟩
      rw [layL_take _ _ _ hlt, ← List.append_assoc, HXS.out]
      rwa [List.take_of_length_le (by rw [be_length]; omega)] at hownj
     case measure => simp [intOf]; omega
  ·have hk' : k = ls.length := by omega
   subst hk'
   go_wp2
   go_ret
   exact ⟨_, rfl, by simpa using hownr, hgr, hor⟩
def numL (l : List UInt8) : Nat := l.foldl (fun v c => v * 256 + c.toNat) 0
theorem numL_take (l : List UInt8) (k : Nat) (hk : k < l.length) : numL (l.take (k + 1)) = numL (l.take k) * 256 + l[k].toNat := foldl_take_succ _ _ _ _ hk
theorem numL_lt (l : List UInt8) (k : Nat) (hk : k ≤ l.length) : numL (l.take k) < 256 ^ k := by
 induction k with
 | zero => simp [numL]
 | succ k ih =>
  have := ih (by omega)
  have h2 := l[k].toNat_lt
  rw [numL_take l k (by omega), Nat.pow_succ]
  omega
theorem num_bits (v : Nat) (c : UInt8) (hv : v < 16777216) : bits .or .u32 ((v : Int) * 256) (c.toNat : Int) = ((v * 256 + c.toNat : Nat) : Int) := by
 have h2 := c.toNat_lt
 have h : ((v : Int) * 256) = ((v * 256 : Nat) : Int) := rfl
 rw [h, u32_or_nat _ _ (by omega) (by omega), nat_join 8 _ _ (by omega) (by omega)]
set_option maxHeartbeats 400000 in
theorem fnum_any (A : Option Addr) (cap n : Nat) (l : List UInt8) (w : World) (h : Bs w A l) (hn : l.length ≤ 4) (hl : n = l.length) :
 Calls Tryz.prog 41 #[.slice A n cap] w fun e w' => e = .returned (.int .u32 (numL l : Nat)) ∧ w = w' := by
 subst hl
 go_enter Tryz.func41, Tryz.ntmps41
 go_wp2
 go_loop [3, 8] (fun v i => ∃ k : Nat, k ≤ l.length ∧ i = .int .i64 k ∧ v = .int .u32 (numL (l.take k) : Nat)) (fun _ i => l.length - (intOf i).toNat)
 case atStart => exact ⟨0, by omega, rfl, rfl⟩
 case round =>
  obtain ⟨k, hk, rfl, rfl⟩ := hrel
  by_cases hlt : k < l.length
  ·obtain ⟨ad, rfl, hc⟩ := Sl.now h (bv_get hlt)
   have hv : numL (l.take k) < 16777216 := Nat.lt_of_lt_of_le (numL_lt l k hk) (Nat.pow_le_pow_right (n := 256) (by omega) (show k ≤ 3 by omega))
   have hs := Lib.hid (num_bits (numL (l.take k)) l[k] hv)
   have h2 := l[k].toNat_lt
   go_wp2
   go_round
   case rel => exact ⟨k + 1, by omega, by go_num, by rw [numL_take _ _ hlt, ← hs.out]⟩
   case measure => simp [intOf]; omega
  ·go_wp2
   go_ret
   exact ⟨ret_int (by rw [List.take_of_length_le (by omega)]), rfl⟩
set_option maxHeartbeats 400000 in
theorem fclone_any (A : Option Addr) (cap n : Nat) (l : List UInt8) (w : World) (h : Bs w A l) (hn : l.length ≤ 140737488355328) (hl : n = l.length) :
 Calls Tryz.prog 43 #[.slice A n cap] w fun e w' => ∃ v, e = .returned v ∧ Own w' w.heap.size v l ∧ Ext w w' := by
 subst hl
 have hnil := fun w A n c => Lib.run_eql_slice_nil (P := Tryz.prog) w 22 5 A n c 0 0 Tryz.underlying22
 cases A with
 | none =>
  have h0 : l = [] := by
   cases l with
   | nil => rfl
   | cons c l => obtain ⟨ad, e, _⟩ := h 0 _ (bv_get (l := c :: l) (k := 0) (by simp)); cases e
  subst h0
  go_enter Tryz.func43, Tryz.ntmps43
  go_wp2
  go_ret
  exact ⟨_, rfl, Own.nil _ _, Ext.refl _⟩
 | some ad =>
  go_enter Tryz.func43, Tryz.ntmps43
  go_wp2_with (at_builtin; refine unstop ?_)
  refine go_on (wpList_appB bytesT (l := []) (own_of (World.ownsRow_made w #[] 0 (Nat.le_refl _) (by simp [maxLen]) rfl) rfl) (h.ext ((Ext.refl _).alloc _)) rfl rfl rfl rfl rfl (by simp; omega) (by simp) ?_)
  intro v' w1 hown1 hg1 hor1
  go_wp2
  go_ret
  exact ⟨_, rfl, by simpa using hown1, ((Ext.refl _).alloc _).grown hg1 (by intro k hk; simp [Value.ownBlock] at hk; omega)⟩
def packL (l : List UInt8) : List UInt8 := be 2 l.length ++ be 4 (crcF [be 2 l.length, l]) ++ l
theorem crcF_lt (ls : List (List UInt8)) : crcF ls < 4294967296 := by unfold crcF; omega
set_option maxHeartbeats 400000 in
theorem Pack_ok (A : Option Addr) (cap n : Nat) (l : List UInt8) (w : World) (h : Bs w A l) (hl : n = l.length) (hlo : 0 < l.length) (hhi : l.length ≤ 2000) :
 Calls Tryz.prog 40 #[.slice A n cap] w fun e w' => ∃ v, e = .returned (.tuple #[v, .int .i64 0]) ∧ Own w' w.heap.size v (packL l) ∧ Ext w w' := by
 subst hl
 have h1 : ((l.length : Int) == 0) = false := beq_eq_false_iff_ne.2 (by omega)
 have h2 : (l.length : Int) ≤ 2000 := by omega
 go_enter Tryz.func40, Tryz.ntmps40
 go_wp2_with fail
 refine (lay_any w.heap.size 2 (.slice none 0 0) [] _ 1 [l.length] _ (Own.nil _ _) (by simp) (Sl.new w [_] _ _) (by intro ad e; simp [Value.ownBlock]) (by omega) (by simp) (by simp)).mono ?_
 rintro e w1 ⟨v1, rfl, hown1, hg1, _⟩
 have hx1 : Ext w w1 := ((Ext.refl w).alloc _).grown hg1 (by intro k hk; simp [Value.ownBlock] at hk)
 obtain ⟨A1, c1, rfl⟩ := hown1.form
 have hb1 := hown1.bs
 simp only [List.nil_append, layL, List.flatMap_cons, List.flatMap_nil, List.append_nil, be_length] at hown1 hb1 ⊢
 go_wp2_with fail
 have hl1 := be_length 2 l.length
 refine (sum_any _ _ 2 [be 2 l.length, l] _ (BsS.new w1 _ [_, _] _ rfl _ _ ?_) rfl (by simp) ?_).mono ?_
 ·intro k x hk
  match k, hk with
  | 0, hk => simp at hk; subst hk; exact ⟨A1, c1, by rw [hl1]; rfl, hb1⟩
  | 1, hk => simp at hk; subst hk; exact ⟨A, cap, rfl, h.ext hx1⟩
 ·intro x hx
  simp at hx
  rcases hx with rfl | rfl <;> omega
 rintro e w2 ⟨rfl, hx2⟩
 have hx12 : Ext w1 w2 := ((Ext.refl w1).alloc _).trans hx2
 have hown2 := hown1.ext hx12
 go_wp2_with fail
 refine (lay_any w.heap.size 4 _ _ _ 1 [crcF [be 2 l.length, l]] _ (hown2.alloc _) (by have := hx1.size; have := hx12.size; simp; omega) (Sl.new w2 [_] _ _) ?_ (by omega) (by simp) (by rw [hl1]; omega)).mono ?_
 ·intro ad e hk
  have := (hown2.lt _ hk).2
  simp at e
  subst e
  exact absurd this (by simp)
 rintro e w3 ⟨v3, rfl, hown3, hg3, _⟩
 have hx3 : Ext w w3 := ((hx1.trans hx12).alloc _).own (hown2.alloc _) (Nat.le_refl _) hg3
 obtain ⟨A3, c3, rfl⟩ := hown3.form
 go_wp2_with (at_builtin; refine unstop ?_)
 refine go_on (wpList_appB bytesT hown3 (h.ext hx3) rfl rfl rfl rfl rfl ?_ hx3.size ?_)
 ·simp only [List.length_append, layL, List.flatMap_cons, List.flatMap_nil, List.append_nil, be_length]; omega
 rintro v4 w4 hown4 hg4 -
 go_wp2
 go_ret2
 exact ⟨_, rfl, by simpa [packL, layL] using hown4, hx3.own hown3 (Nat.le_refl _) hg4⟩
end Go.Proofs.YthlppbbejdeeoaaGreatDoor
namespace Go.Proofs.YthlppbbejdeeoaaGreatDoor
open Go.RowKit
/-- what One tells: what is held, the place behind it, the error -/
def oneL (b : List UInt8) (at_ : Int) : List UInt8 × Int × Int :=
 if at_ < 0 ∨ (b.length : Int) < at_ then ([], 0, 2)
 else if (b.drop at_.toNat).length < 6 then ([], 0, 3)
 else if numL ((b.drop at_.toNat).take 2) = 0 ∨ 2000 < numL ((b.drop at_.toNat).take 2) then ([], 0, 4)
 else if (b.drop at_.toNat).length < 6 + numL ((b.drop at_.toNat).take 2) then ([], 0, 3)
 else if crcF [(b.drop at_.toNat).take 2, ((b.drop at_.toNat).drop 6).take (numL ((b.drop at_.toNat).take 2))] ≠ numL (((b.drop at_.toNat).drop 2).take 4) then ([], 0, 5)
 else (((b.drop at_.toNat).drop 6).take (numL ((b.drop at_.toNat).take 2)), at_ + 6 + numL ((b.drop at_.toNat).take 2), 0)
def OneSays (b : List UInt8) (at_ : Int) (w : World) (e : Ending) (w' : World) : Prop :=
 ∃ v, e = .returned (.tuple #[v, .int .i64 (oneL b at_).2.1, .int .i64 (oneL b at_).2.2]) ∧ Own w' w.heap.size v (oneL b at_).1 ∧ Ext w w'
theorem OneSays.bad {b : List UInt8} {at_ : Int} {w w' : World} {n : Int} (h : oneL b at_ = ([], 0, n)) (hx : Ext w w') : OneSays b at_ w (.returned (.tuple #[.slice none 0 0, .int .i64 0, .int .i64 n])) w' := by
 refine ⟨.slice none 0 0, ?_, ?_, hx⟩
 ·rw [h]
 ·rw [h]; exact Own.nil _ _
theorem OneSays.good {b p : List UInt8} {at_ : Int} {w w' : World} {n : Int} {v : Value} (h : oneL b at_ = (p, n, 0)) (ho : Own w' w.heap.size v p) (hx : Ext w w') : OneSays b at_ w (.returned (.tuple #[v, .int .i64 n, .int .i64 0])) w' := by
 refine ⟨v, ?_, ?_, hx⟩
 ·rw [h]
 ·rw [h]; exact ho
theorem size8 : ∀ w, (Go.sizeOf 5).run Tryz.prog w = .ok 1 w := fun _ => by kernel_rfl
set_option maxHeartbeats 400000 in
theorem One_any (A : Option Addr) (cap n : Nat) (b : List UInt8) (at_ : Int) (w : World) (h : Bs w A b) (hl : n = b.length) (hc : b.length ≤ cap) (hm : cap ≤ 9223372036854775807) :
 Calls Tryz.prog 16 #[.slice A n cap, .int .i64 at_] w (OneSays b at_ w) := by
 subst hl
 by_cases h1 : at_ < 0 ∨ (b.length : Int) < at_
 ·have hs : oneL b at_ = ([], 0, 2) := by unfold oneL; rw [if_pos h1]
  have HS := Lib.hid hs
  clear hs
  by_cases h2 : at_ < 0
  ·go_enter Tryz.func16, Tryz.ntmps16
   go_wp2
   go_ret3
   exact OneSays.bad HS.out (Ext.refl _)
  ·have h3 : (b.length : Int) < at_ := by omega
   clear h1
   go_enter Tryz.func16, Tryz.ntmps16
   go_wp2
   go_ret3
   exact OneSays.bad HS.out (Ext.refl _)
 obtain ⟨k, rfl⟩ : ∃ k : Nat, at_ = (k : Int) := ⟨at_.toNat, by omega⟩
 have hk : k ≤ b.length := by omega
 clear h1
 obtain ⟨A1, e1, f1⟩ := cutB_l Tryz.underlying22 size8 A b.length cap b k rfl rfl hc hk
 have hb1 := f1 w h
 have hr : (b.drop k).length = b.length - k := by simp
 clear f1
 by_cases h2 : b.length - k < 6
 ·have hs : oneL b k = ([], 0, 3) := by unfold oneL; rw [if_neg (by omega), if_pos (by simp; omega)]
  have HS := Lib.hid hs
  clear hs
  have h3 : ((b.length - k : Nat) : Int) < 6 := by omega
  clear h2
  go_enter Tryz.func16, Tryz.ntmps16
  go_wp2
  go_ret3
  exact OneSays.bad HS.out (Ext.refl _)
 generalize hrr : b.drop k = r at *
 obtain ⟨A2, e2, f2⟩ := cutB_h Tryz.underlying22 size8 A1 (b.length - k) (cap - k) r 2 (hi := 2) rfl hr (by omega) (by omega)
 have h3 : (6 : Int) ≤ ((b.length - k : Nat) : Int) := by omega
 have HS : Hid (oneL b k = if numL (r.take 2) = 0 ∨ 2000 < numL (r.take 2) then (([], 0, 4) : List UInt8 × Int × Int)
  else if r.length < 6 + numL (r.take 2) then ([], 0, 3)
  else if crcF [r.take 2, (r.drop 6).take (numL (r.take 2))] ≠ numL ((r.drop 2).take 4) then ([], 0, 5)
  else ((r.drop 6).take (numL (r.take 2)), (k : Int) + 6 + numL (r.take 2), 0)) := by
  unfold oneL
  rw [if_neg (by omega), Int.toNat_natCast, hrr, if_neg (by omega)]
  exact rfl
 have hn2 := numL_lt (r.take 2) 2 (by simp; omega)
 rw [List.take_take, Nat.min_self] at hn2
 have HN := fun w (hb : Bs w A2 (r.take 2)) => fnum_any A2 (cap - k) 2 (r.take 2) w hb (by simp; omega) (by simp; omega)
 have hb2 := f2 w hb1
 clear f2
 generalize hnn : numL (r.take 2) = m at *
 by_cases h4 : m = 0 ∨ 2000 < m
 ·have HS2 := Lib.hid (HS.out.trans (if_pos h4))
  clear HS h2 hk
  have HNN := Lib.hid hnn
  have HNC := Lib.hid HN
  clear hnn HN hrr
  by_cases h5 : m = 0
  ·have h6 : ((m : Int) == 0) = true := by rw [h5]; rfl
   clear h4 h5
   go_enter Tryz.func16, Tryz.ntmps16
   go_wp2_with fail
   refine (HNC.out _ hb2).mono ?_
   rintro e w1 ⟨rfl, rfl⟩
   go_wp2
   go_ret3
   exact OneSays.bad HS2.out (Ext.refl _)
  ·have h6 : ((m : Int) == 0) = false := beq_eq_false_iff_ne.2 (by omega)
   have h7 : (2000 : Int) < m := by omega
   clear h4 h5
   go_enter Tryz.func16, Tryz.ntmps16
   go_wp2_with fail
   refine (HNC.out _ hb2).mono ?_
   rintro e w1 ⟨rfl, rfl⟩
   go_wp2
   go_ret3
   exact OneSays.bad HS2.out (Ext.refl _)
 have h5 : ((m : Int) == 0) = false := beq_eq_false_iff_ne.2 (by omega)
 have h6 : (m : Int) ≤ 2000 := by omega
 have h7 : 0 < m := by omega
 have HS2 := Lib.hid (HS.out.trans (if_neg h4))
 clear HS h4
 by_cases h8 : r.length < 6 + m
 ·have HS3 := Lib.hid (HS2.out.trans (if_pos h8))
  have h9 : ((b.length - k : Nat) : Int) < 6 + (m : Int) := by omega
  have HNN := Lib.hid hnn
  have HNC := Lib.hid HN
  clear hnn HN hrr h8 h2 hk HS2 hr
  go_enter Tryz.func16, Tryz.ntmps16
  go_wp2_with fail
  refine (HNC.out _ hb2).mono ?_
  rintro e w1 ⟨rfl, rfl⟩
  go_wp2
  go_ret3
  exact OneSays.bad HS3.out (Ext.refl _)
 have HS3 := Lib.hid (HS2.out.trans (if_neg h8))
 clear HS2
 obtain ⟨A3, e3, f3⟩ := cutB_lh Tryz.underlying22 size8 A1 (b.length - k) (cap - k) r 6 (6 + m) (li := 6) (hi := 6 + (m : Int)) rfl (by omega) hr (by omega) (by omega) (by omega)
 obtain ⟨A4, e4, f4⟩ := cutB_lh Tryz.underlying22 size8 A1 (b.length - k) (cap - k) r 2 6 (li := 2) (hi := 6) rfl rfl hr (by omega) (by omega) (by omega)
 have hb3 := f3 w hb1
 have hb4 := f4 w hb1
 rw [Nat.add_sub_cancel_left] at e3 hb3
 clear f3 f4
 have h9 : (6 : Int) + (m : Int) ≤ ((b.length - k : Nat) : Int) := by omega
 have HNC := Lib.hid HN
 have HNN := Lib.hid hnn
 clear hnn HN hrr h8 hk
 go_enter Tryz.func16, Tryz.ntmps16
 go_wp2_with fail
 refine (HNC.out _ hb2).mono ?_
 rintro e w1 ⟨rfl, rfl⟩
 go_wp2_with fail
 have HA : ∀ w', Ext w w' → Calls Tryz.prog 41 #[.slice A4 4 (cap - k - 2)] w' fun e w'' => e = .returned (.int .u32 (numL ((r.drop 2).take 4) : Nat)) ∧ w' = w'' :=
  fun w' hx => fnum_any A4 _ 4 _ w' (hb4.ext hx) (by simp; omega) (by simp; omega)
 have HB : Calls Tryz.prog 42 #[.slice (some ⟨w.heap.size, 0, none⟩) 2 2] (w.alloc (.cells #[.slice A2 2 (cap - k), .slice A3 m (cap - k - 6)] 22)).drew fun e w3 =>
  e = .returned (.int .u32 (crcF [r.take 2, (r.drop 6).take m] : Nat)) ∧ Ext w w3 := by
  have hx : Ext w (w.alloc (.cells #[.slice A2 2 (cap - k), .slice A3 m (cap - k - 6)] 22)).drew := ((Ext.refl w).alloc _).drew
  have hbs : BsS (w.alloc (.cells #[.slice A2 2 (cap - k), .slice A3 m (cap - k - 6)] 22)) (some ⟨w.heap.size, 0, none⟩) [r.take 2, (r.drop 6).take m] :=
   BsS.new w _ [_, _] _ rfl _ _ (fun j x hj => by
    match j, hj with
    | 0, hj => simp at hj; subst hj; exact ⟨A2, cap - k, by simp; omega, hb2⟩
    | 1, hj => simp at hj; subst hj; exact ⟨A3, cap - k - 6, by simp; omega, hb3⟩)
  refine (sum_any _ 2 2 [r.take 2, (r.drop 6).take m] (w.alloc (.cells #[.slice A2 2 (cap - k), .slice A3 m (cap - k - 6)] 22)).drew hbs rfl (by simp) ?_).mono (fun e w3 hh => ⟨hh.1, hx.trans hh.2⟩)
  intro x hxx
  simp at hxx
  rcases hxx with rfl | rfl <;> simp <;> omega
 have hwr : IntKind.i64.wrap (6 + (m : Int)) = 6 + (m : Int) := IntWalk.i64_in _ (by omega)
 generalize hc1 : crcF [r.take 2, (r.drop 6).take m] = c1 at *
 generalize hc2 : numL ((r.drop 2).take 4) = c2 at *
 have HC1 := Lib.hid hc1
 have HC2 := Lib.hid hc2
 clear hc1 hc2
 by_cases h10 : c1 = c2
 ·have HS4 := Lib.hid (HS3.out.trans (if_neg (not_not_intro h10)))
  have h11 : ((c1 : Int) != (c2 : Int)) = false := by subst h10; simp
  have hlm : ((r.drop 6).take m).length = m := by simp; omega
  have HCL : ∀ w', Ext w w' → Calls Tryz.prog 43 #[.slice A3 m (cap - k - 6)] w' fun e w'' => ∃ v, e = .returned v ∧ Own w'' w.heap.size v ((r.drop 6).take m) ∧ Ext w w'' := by
   intro w' hx
   refine (fclone_any A3 _ m _ w' (hb3.ext hx) (by omega) hlm.symm).mono ?_
   rintro e w'' ⟨v, he, ho, hx'⟩
   exact ⟨v, he, ho.low hx.size, hx.trans hx'⟩
  clear h10
  go_region_held3 (fun w' => Ext w w') (first | assumption | exact (Ext.refl _).drew | exact Ext.alloc (by assumption) _ | exact Ext.drew (by assumption)) ((first
   | (go_at_call 41; refine (HA _ ?_).mono ?_; (focus assumption); rintro e w1 ⟨rfl, rfl⟩)
   | (go_at_call 42; refine HB.mono ?_; rintro e w1 ⟨rfl, hx1⟩)))
  all_goals
   go_wp2_with fail
   refine (HCL _ hx1).mono ?_
   rintro e w2 ⟨v, rfl, ho, hx2⟩
   go_wp2
   go_ret3
   exact OneSays.good HS4.out ho hx2
 ·have HS4 := Lib.hid (HS3.out.trans (if_pos h10))
  have h11 : ((c1 : Int) != (c2 : Int)) = true := by rw [bne_iff_ne]; omega
  clear h10
  go_region_held3 (fun w' => Ext w w') (first | assumption | exact (Ext.refl _).drew | exact Ext.alloc (by assumption) _ | exact Ext.drew (by assumption)) ((first
   | (go_at_call 41; refine (HA _ ?_).mono ?_; (focus assumption); rintro e w1 ⟨rfl, rfl⟩)
   | (go_at_call 42; refine HB.mono ?_; rintro e w1 ⟨rfl, hx1⟩)))
  all_goals
   go_wp2
   go_ret3
   exact OneSays.bad HS4.out hx1
end Go.Proofs.YthlppbbejdeeoaaGreatDoor
namespace Go.Proofs.YthlppbbejdeeoaaGreatDoor
open Go.RowKit
def bitsL (l : List UInt8) : List Nat := l.flatMap bitsOf
theorem bitsOf_length (c : UInt8) : (bitsOf c).length = 8 := by simp [bitsOf]
theorem bitsL_length (l : List UInt8) : (bitsL l).length = 8 * l.length := by
 induction l with
 | nil => rfl
 | cons c l ih => simp only [bitsL, List.flatMap_cons, List.length_append, bitsOf_length, List.length_cons] at *; omega
theorem bitsL_get (l : List UInt8) : ∀ i (h : i / 8 < l.length), (bitsL l)[i]? = some (l[i / 8].toNat / 2 ^ (i % 8) % 2) := by
 induction l with
 | nil => intro i h; simp at h
 | cons c l ih =>
  intro i h
  simp only [bitsL, List.flatMap_cons]
  by_cases hi : i < 8
  ·rw [List.getElem?_append_left (by rw [bitsOf_length]; exact hi)]
   have h0 : i / 8 = 0 := by omega
   have h1 : i % 8 = i := by omega
   simp [bitsOf, h0, h1, hi]
  ·rw [List.getElem?_append_right (by rw [bitsOf_length]; omega), bitsOf_length]
   have h0 : i / 8 = (i - 8) / 8 + 1 := by omega
   have h1 : i % 8 = (i - 8) % 8 := by omega
   have := ih (i - 8) (by simp at h; omega)
   simp only [bitsL] at this
   rw [this, h1]
   simp [h0]
theorem crcS_bits (l : List UInt8) : ∀ r, crcS r l = crcL r (bitsL l) := by
 induction l with
 | nil => intro r; rfl
 | cons c l ih => intro r; simp only [crcS, List.foldl_cons, bitsL, List.flatMap_cons, crcL, List.foldl_append] at *; rw [ih]; rfl
theorem crcL_take (l : List UInt8) (i : Nat) (h : i / 8 < l.length) (r : Nat) : crcL r ((bitsL l).take (i + 1)) = crcB (crcL r ((bitsL l).take i)) (l[i / 8].toNat / 2 ^ (i % 8) % 2) := by
 unfold crcL
 rw [List.take_add_one, bitsL_get l i h]
 simp [List.foldl_append]
theorem cast_bit (c j : Nat) : ((c : Int) / 2 ^ j % 2) = ((c / 2 ^ j % 2 : Nat) : Int) := by
 rw [Int.natCast_emod, Int.natCast_ediv, Int.natCast_pow]; rfl
theorem crcB_ne (r c j : Nat) (h : ((r : Int) % 2 != (c : Int) / 2 ^ j % 2) = true) : crcB r (c / 2 ^ j % 2) = (r / 2) ^^^ 3988292384 := by
 rw [cast_bit, bne_iff_ne] at h
 unfold crcB
 rw [if_neg (by omega)]
theorem crcB_eq (r c j : Nat) (h : ((r : Int) % 2 != (c : Int) / 2 ^ j % 2) = false) : crcB r (c / 2 ^ j % 2) = r / 2 := by
 rw [cast_bit, bne_eq_false_iff_eq] at h
 unfold crcB
 rw [if_pos (by omega)]
set_option maxHeartbeats 400000 in
theorem RSum_any (A : Option Addr) (cap n : Nat) (l : List UInt8) (w : World) (h : Bs w A l) (hn : l.length ≤ 140737488355328) (hl : n = l.length) :
 Calls Tryz.prog 30 #[.slice A n cap] w fun e w' => e = .returned (.int .u32 (crcF [l] : Nat)) ∧ w = w' := by
 subst hl
 go_enter Tryz.func30, Tryz.ntmps30
 go_wp2
 go_loop [3, 4] (fun r i => ∃ k : Nat, k ≤ 8 * l.length ∧ i = .int .i64 k ∧ r = .int .u32 (crcL 4294967295 ((bitsL l).take k) : Nat)) (fun _ i => 8 * l.length - (intOf i).toNat)
 case atStart => exact ⟨0, by omega, rfl, rfl⟩
 case round =>
  obtain ⟨k, hk, rfl, rfl⟩ := hrel
  by_cases hlt : k < 8 * l.length
  ·obtain ⟨ad, rfl, hc⟩ := Sl.now h (bv_get (l := l) (k := k / 8) (by omega))
   have hk8 : k / 8 < l.length := by omega
   have hr := crcL_lt ((bitsL l).take k) 4294967295 (by omega)
   have hs := Lib.hid (crcL_take l k (by omega) 4294967295)
   have h2 := l[k / 8].toNat_lt
   generalize hr0 : crcL 4294967295 ((bitsL l).take k) = r at *
   have hlt2 : (k : Int) < 8 * (l.length : Int) := by omega
   go_wp2
   all_goals
    go_round
    case rel =>
     refine ⟨k + 1, by omega, by go_num, ?_⟩
     rw [hs.out]
     first
      | rw [crcB_ne _ _ _ ‹_›, xorP _ hr]
      | (rw [crcB_eq _ _ _ ‹_›]; rfl)
    case measure => simp [intOf]; omega
  ·have hk' : k = 8 * l.length := by omega
   subst hk'
   have hr := crcL_lt ((bitsL l).take (8 * l.length)) 4294967295 (by omega)
   have hlt2 : ¬ (8 * (l.length : Int)) < 8 * (l.length : Int) := by omega
   go_wp2
   go_ret
   refine ⟨ret_int ?_, rfl⟩
   have e : crcF [l] = 4294967295 - crcL 4294967295 ((bitsL l).take (8 * l.length)) := by
    rw [List.take_of_length_le (by rw [bitsL_length]; omega)]
    simp only [crcF, crcP, List.foldl_cons, List.foldl_nil, crcS_bits]
   rw [e]; omega
theorem RPack_arg (A : Option Addr) (cap n : Nat) (l : List UInt8) (w : World) (hl : n = l.length) (h : l.length = 0) :
 Calls Tryz.prog 11 #[.slice A n cap] w fun e w' => e = .returned (.tuple #[.slice none 0 0, .int .i64 2]) ∧ w = w' := by
 subst hl
 have h1 : ((l.length : Int) == 0) = true := by rw [h]; rfl
 clear h
 go_enter Tryz.func11, Tryz.ntmps11
 go_wp2
 go_ret2
 exact ⟨rfl, rfl⟩
theorem RPack_limit (A : Option Addr) (cap n : Nat) (l : List UInt8) (w : World) (hl : n = l.length) (h : 2000 < l.length) :
 Calls Tryz.prog 11 #[.slice A n cap] w fun e w' => e = .returned (.tuple #[.slice none 0 0, .int .i64 6]) ∧ w = w' := by
 subst hl
 have h1 : ((l.length : Int) == 0) = false := beq_eq_false_iff_ne.2 (by omega)
 have h2 : (2000 : Int) < l.length := by omega
 clear h
 go_enter Tryz.func11, Tryz.ntmps11
 go_wp2
 go_ret2
 exact ⟨rfl, rfl⟩
theorem be4_cells (c : Nat) (h : c < 4294967296) : #[Value.int .u8 ((c : Int) / 16777216), .int .u8 ((c : Int) / 65536 % 256), .int .u8 ((c : Int) / 256 % 256), .int .u8 ((c : Int) % 256)] = (bv (be 4 c)).toArray := by
 simp only [be, bv, List.map_cons, List.map_nil, UInt8.toNat_ofNat']
 have e1 : ((c : Int) / 16777216) = ((c / 256 ^ 3 % 2 ^ 8 : Nat) : Int) := by omega
 have e2 : ((c : Int) / 65536 % 256) = ((c / 256 ^ 2 % 2 ^ 8 : Nat) : Int) := by omega
 have e3 : ((c : Int) / 256 % 256) = ((c / 256 ^ 1 % 2 ^ 8 : Nat) : Int) := by omega
 have e4 : ((c : Int) % 256) = ((c / 256 ^ 0 % 2 ^ 8 : Nat) : Int) := by omega
 rw [e1, e2, e3, e4]
set_option maxHeartbeats 1000000 in
theorem RPack_ok (A : Option Addr) (cap n : Nat) (l : List UInt8) (w : World) (h : Bs w A l) (hl : n = l.length) (hlo : 0 < l.length) (hhi : l.length ≤ 2000) :
 Calls Tryz.prog 11 #[.slice A n cap] w fun e w' => ∃ v, e = .returned (.tuple #[v, .int .i64 0]) ∧ Own w' w.heap.size v (packL l) ∧ Ext w w' := by
 subst hl
 have h1 : ((l.length : Int) == 0) = false := beq_eq_false_iff_ne.2 (by omega)
 have h2 : (l.length : Int) ≤ 2000 := by omega
 go_enter Tryz.func11, Tryz.ntmps11
 go_wp2_with (at_builtin; refine unstop ?_)
 have q1 : ((l.length : Int) / 256) = ((UInt8.ofNat (l.length / 256 ^ 1)).toNat : Int) := by rw [UInt8.toNat_ofNat']; omega
 have q2 : ((l.length : Int) % 256) = ((UInt8.ofNat (l.length / 256 ^ 0)).toNat : Int) := by rw [UInt8.toNat_ofNat']; omega
 rw [q1, q2]
 have hl2 := be_length 2 l.length
 have ho1 : Own (w.alloc (.cells #[.int .u8 ((UInt8.ofNat (l.length / 256 ^ 1)).toNat : Int), .int .u8 ((UInt8.ofNat (l.length / 256 ^ 0)).toNat : Int)] 5)) w.heap.size (.slice (some ⟨w.heap.size, 0, none⟩) 2 2) (be 2 l.length) :=
  Own.new w w.heap.size _ (be 2 l.length) 2 rfl hl2.symm (Nat.le_refl _) (by simp [maxLen])
 generalize hw1 : w.alloc (.cells #[.int .u8 ((UInt8.ofNat (l.length / 256 ^ 1)).toNat : Int), .int .u8 ((UInt8.ofNat (l.length / 256 ^ 0)).toNat : Int)] 5) = w1 at *
 have hx1 : Ext w w1 := by rw [← hw1]; exact (Ext.refl _).alloc _
 have hs1 : w.heap.size + 1 = w1.heap.size := by rw [← hw1]; simp
 clear hw1 q1 q2
 rw [hs1]
 refine go_on (wpList_appB bytesT (Own.empty w1 w1.heap.size (Nat.le_refl _)) (ho1.bs.ext ((Ext.refl _).alloc _)) rfl rfl rfl rfl hl2.symm (by simp [hl2]) (by simp) ?_)
 rintro v2 w2 ho2 hg2 -
 have hx2 : Ext w1 w2 := ((Ext.refl w1).alloc _).own (Own.empty w1 w1.heap.size (Nat.le_refl _)) (Nat.le_refl _) hg2
 obtain ⟨A2, c2, rfl⟩ := ho2.form
 go_wp2_with (at_builtin; refine unstop ?_)
 refine go_on (wpList_appB bytesT ho2 (h.ext (hx1.trans hx2)) rfl rfl rfl rfl rfl (by simp [hl2]; omega) (by have := hx2.size; omega) ?_)
 rintro v3 w3 ho3 hg3 -
 have hx3 : Ext w1 w3 := hx2.own ho2 (Nat.le_refl _) hg3
 obtain ⟨A3, c3, rfl⟩ := ho3.form
 go_wp2_with fail
 refine (RSum_any A3 c3 _ _ w3 ho3.bs (by simp [hl2]; omega) (by simp [hl2])).mono ?_
 rintro e w4 ⟨rfl, rfl⟩
 have hcr : crcF [[] ++ be 2 l.length ++ l] = crcF [be 2 l.length, l] := by simp [crcF, crcP, crcS]
 rw [hcr]
 have hlt := crcF_lt [be 2 l.length, l]
 have hpk : packL l = be 2 l.length ++ be 4 (crcF [be 2 l.length, l]) ++ l := rfl
 generalize crcF [be 2 l.length, l] = cr at *
 have hx4 : Ext w w3 := hx1.trans hx3
 go_wp2_with (at_builtin; refine unstop ?_)
 refine go_on (wpList_appB bytesT ((ho1.ext hx3).alloc _) (Bs.new w3 (be 4 cr) _ (be4_cells cr hlt) _ _) rfl rfl rfl rfl (by simp [be_length]) (by simp [be_length]) (by have := hx4.size; simp; omega) ?_)
 rintro v5 w5 ho5 hg5 -
 have hx5 : Ext w w5 := (hx4.alloc _).own ((ho1.ext hx3).alloc _) (Nat.le_refl _) hg5
 obtain ⟨A5, c5, rfl⟩ := ho5.form
 go_wp2_with (at_builtin; refine unstop ?_)
 refine go_on (wpList_appB bytesT ho5 (h.ext hx5) rfl rfl rfl rfl rfl (by simp [be_length]; omega) hx5.size ?_)
 rintro v6 w6 ho6 hg6 -
 go_wp2
 go_ret2
 exact ⟨_, rfl, by rw [hpk]; exact ho6, hx5.own ho5 (Nat.le_refl _) hg6⟩
theorem numL_go (l : List UInt8) : ∀ v, l.foldl (fun v c => v * 256 + c.toNat) v = v * 256 ^ l.length + numL l := by
 induction l with
 | nil => intro v; simp [numL]
 | cons c l ih =>
  intro v
  simp only [List.foldl_cons, List.length_cons, numL]
  rw [ih, Nat.zero_mul, Nat.zero_add, ih c.toNat, Nat.pow_succ]
  have : (v * 256 + c.toNat) * 256 ^ l.length = v * (256 ^ l.length * 256) + c.toNat * 256 ^ l.length := by
   rw [Nat.add_mul, Nat.mul_assoc, Nat.mul_comm 256]
  omega
theorem numL_cons (c : UInt8) (l : List UInt8) : numL (c :: l) = c.toNat * 256 ^ l.length + numL l := by
 have := numL_go l c.toNat
 unfold numL at *
 simp only [List.foldl_cons, Nat.zero_mul, Nat.zero_add]
 exact this
theorem numL_all (l : List UInt8) : numL l < 256 ^ l.length := by
 have := numL_lt l l.length (Nat.le_refl _)
 rwa [List.take_length] at this
theorem be_mod (n : Nat) : ∀ v k, be n (v + k * 256 ^ n) = be n v := by
 induction n with
 | zero => intro v k; rfl
 | succ n ih =>
  intro v k
  have h : v + k * 256 ^ (n + 1) = v + (k * 256) * 256 ^ n := by rw [Nat.pow_succ, Nat.mul_assoc, Nat.mul_comm 256]
  simp only [be]
  rw [h, ih]
  congr 1
  rw [Nat.add_mul_div_right _ _ (Nat.pow_pos (by omega))]
  apply UInt8.toNat_inj.1
  rw [UInt8.toNat_ofNat', UInt8.toNat_ofNat']
  omega
theorem be_numL (l : List UInt8) : be l.length (numL l) = l := by
 induction l with
 | nil => rfl
 | cons c l ih =>
  have h1 := numL_all l
  simp only [List.length_cons, be]
  rw [numL_cons, Nat.add_comm, be_mod, ih]
  congr 1
  rw [Nat.add_mul_div_right _ _ (Nat.pow_pos (by omega)), Nat.div_eq_of_lt h1]
  simp
theorem numL_be (n : Nat) : ∀ v, v < 256 ^ n → numL (be n v) = v := by
 induction n with
 | zero => intro v h; simp at h; subst h; rfl
 | succ n ih =>
  intro v h
  have hp : 0 < 256 ^ n := Nat.pow_pos (by omega)
  have h1 : be n v = be n (v % 256 ^ n) := by
   have := be_mod n (v % 256 ^ n) (v / 256 ^ n)
   rw [← this, Nat.mul_comm, Nat.mod_add_div]
  simp only [be]
  rw [numL_cons, be_length, h1, ih _ (Nat.mod_lt _ hp), UInt8.toNat_ofNat']
  have h2 : v / 256 ^ n < 256 := Nat.div_lt_of_lt_mul (by rw [Nat.pow_succ] at h; exact h)
  have h3 := Nat.div_add_mod v (256 ^ n)
  rw [Nat.mod_eq_of_lt (by omega), Nat.mul_comm]
  exact h3
theorem take_parts (r : List UInt8) (m : Nat) : r.take (6 + m) = r.take 2 ++ (r.drop 2).take 4 ++ (r.drop 6).take m := by
 have h1 : r.take (6 + m) = r.take 6 ++ (r.drop 6).take m := List.take_add
 have h2 : r.take 6 = r.take 2 ++ (r.drop 2).take 4 := List.take_add (i := 2) (j := 4)
 rw [h1, h2]
theorem pack_iff (r : List UInt8) (m : Nat) (hm : numL (r.take 2) = m) (hr : 6 + m ≤ r.length) :
 packL ((r.drop 6).take m) = r.take (6 + m) ↔ crcF [r.take 2, (r.drop 6).take m] = numL ((r.drop 2).take 4) := by
 have hl : ((r.drop 6).take m).length = m := by simp; omega
 have h2 : be 2 m = r.take 2 := by
  have := be_numL (r.take 2)
  rw [hm] at this
  rwa [List.length_take, Nat.min_eq_left (by omega)] at this
 have hl4 : ((r.drop 2).take 4).length = 4 := by simp; omega
 have h4 := be_numL ((r.drop 2).take 4)
 rw [hl4] at h4
 have h4l := numL_all ((r.drop 2).take 4)
 rw [hl4] at h4l
 rw [take_parts]
 unfold packL
 rw [hl, h2]
 constructor
 ·intro h
  have h := List.append_cancel_right h
  have h := List.append_cancel_left h
  have := numL_be 4 _ (crcF_lt [r.take 2, (r.drop 6).take m])
  rw [h] at this
  exact this.symm
 ·intro h
  rw [h, h4]
end Go.Proofs.YthlppbbejdeeoaaGreatDoor
namespace Go.Proofs.YthlppbbejdeeoaaGreatDoor
open Go.RowKit
def packE (l : List UInt8) : Int := if l.length = 0 then 2 else if 2000 < l.length then 6 else 0
def packO (l : List UInt8) : List UInt8 := if l.length = 0 then [] else if 2000 < l.length then [] else packL l
/-- the two Packs tell the same: what both say -/
def PackSays (l : List UInt8) (w : World) (e : Ending) (w' : World) : Prop :=
 ∃ v, e = .returned (.tuple #[v, .int .i64 (packE l)]) ∧ Own w' w.heap.size v (packO l) ∧ Ext w w'
theorem RPack_any (A : Option Addr) (cap n : Nat) (l : List UInt8) (w : World) (h : Bs w A l) (hl : n = l.length) : Calls Tryz.prog 11 #[.slice A n cap] w (PackSays l w) := by
 unfold PackSays packE packO
 by_cases h1 : l.length = 0
 ·rw [if_pos h1, if_pos h1]
  exact (RPack_arg A cap n l w hl h1).mono fun e w' ⟨he, hw⟩ => ⟨_, he, Own.nil _ _, hw ▸ Ext.refl _⟩
 ·rw [if_neg h1, if_neg h1]
  by_cases h2 : 2000 < l.length
  ·rw [if_pos h2, if_pos h2]
   exact (RPack_limit A cap n l w hl h2).mono fun e w' ⟨he, hw⟩ => ⟨_, he, Own.nil _ _, hw ▸ Ext.refl _⟩
  ·rw [if_neg h2, if_neg h2]
   exact RPack_ok A cap n l w h hl (by omega) (by omega)
theorem packL_length (p : List UInt8) : (packL p).length = 6 + p.length := by simp [packL, be_length]; omega
theorem oneL_at (x p z : List UInt8) (h0 : 0 < p.length) (h1 : p.length ≤ 2000) : oneL (x ++ packL p ++ z) x.length = (p, (x.length : Int) + 6 + p.length, 0) := by
 have l2 := be_length 2 p.length
 have l4 := be_length 4 (crcF [be 2 p.length, p])
 have hd : (x ++ packL p ++ z).drop x.length = be 2 p.length ++ (be 4 (crcF [be 2 p.length, p]) ++ (p ++ z)) := by
  rw [List.append_assoc, List.drop_left]; simp [packL]
 have t2 : (be 2 p.length ++ (be 4 (crcF [be 2 p.length, p]) ++ (p ++ z))).take 2 = be 2 p.length := by rw [List.take_append_of_le_length (by omega), List.take_of_length_le (by omega)]
 have d2 : (be 2 p.length ++ (be 4 (crcF [be 2 p.length, p]) ++ (p ++ z))).drop 2 = be 4 (crcF [be 2 p.length, p]) ++ (p ++ z) := by rw [List.drop_append_of_le_length (by omega), List.drop_of_length_le (by omega), List.nil_append]
 have t4 : (be 4 (crcF [be 2 p.length, p]) ++ (p ++ z)).take 4 = be 4 (crcF [be 2 p.length, p]) := by rw [List.take_append_of_le_length (by omega), List.take_of_length_le (by omega)]
 have d6 : (be 2 p.length ++ (be 4 (crcF [be 2 p.length, p]) ++ (p ++ z))).drop 6 = p ++ z := by
  rw [show (6 : Nat) = 2 + 4 from rfl, ← List.drop_drop, d2, List.drop_append_of_le_length (by omega), List.drop_of_length_le (by omega), List.nil_append]
 have hn : numL (be 2 p.length) = p.length := numL_be 2 _ (by omega)
 have hc4 : numL (be 4 (crcF [be 2 p.length, p])) = crcF [be 2 p.length, p] := numL_be 4 _ (crcF_lt _)
 have hl : (be 2 p.length ++ (be 4 (crcF [be 2 p.length, p]) ++ (p ++ z))).length = 6 + p.length + z.length := by simp [l2, l4]; omega
 have hx : ¬ ((x.length : Int) < 0 ∨ (((x ++ packL p ++ z).length : Nat) : Int) < (x.length : Int)) := by simp; omega
 unfold oneL
 rw [if_neg hx, Int.toNat_natCast, hd, hl, if_neg (by omega), t2, hn, if_neg (by omega), if_neg (by omega), d6, d2, t4, hc4]
 have tp : (p ++ z).take p.length = p := by simp
 rw [tp]
 simp
end Go.Proofs.YthlppbbejdeeoaaGreatDoor
