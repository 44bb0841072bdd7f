/- The walks of frame's lay, num, over, sum, Sum, Pack and of slices.Clone at bytes: what each call answers, and that nothing that was there has turned. Conditions: the lengths named in each theorem. -/
import Derived.Test.YtklodimokhndoaaChecked
import Derived.Test.YtklodimokhndoaaLib
namespace Go.Proofs.Ytklodimokhndoaa
open Go.RowKit

def crcB (r b : Nat) : Nat := if r % 2 = b then r / 2 else (r / 2) ^^^ 3988292384
theorem crcB_lt (r b : Nat) (hr : r < 4294967296) : crcB r b < 4294967296 := by
  unfold crcB
  split
  · omega
  · exact Nat.xor_lt_two_pow (n := 32) (by omega) (by omega)
theorem and1 (r : Nat) (hr : r < 4294967296) : bits BinOp.and IntKind.u32 (r : Int) 1 = ((r % 2 : Nat) : Int) := by
  rw [show (1 : Int) = ((1 : Nat) : Int) from rfl, u32_and_nat r 1 hr (by omega), nat_mask1]
theorem xorP (r : Nat) (hr : r < 4294967296) : bits BinOp.xor IntKind.u32 ((r : Int) / 2) 3988292384 = (((r / 2) ^^^ 3988292384 : Nat) : Int) := by
  rw [show (3988292384 : Int) = ((3988292384 : Nat) : Int) from rfl, show ((r : Int) / 2) = ((r / 2 : Nat) : Int) from by omega, u32_xor_nat _ _ (by omega) (by omega)]
set_option maxHeartbeats 400000 in
theorem step_any (g r b : Nat) (w : World) (hg : w.heap[g]? = some (.cells #[.int .u32 r] 122 (0, 0))) (hr : r < 4294967296) (_hb : b < 2) :
    Calls Try.prog 77 #[.int .u32 b, .pointer (some ⟨g, 0, none⟩)] w fun e w' => e = .returned (.tuple #[]) ∧ w' = w.setCell ⟨g, 0, none⟩ (.int .u32 (crcB r b)) := by
  have hc := cell_of_one hg
  have hf := free_of_one hg
  by_cases h : r % 2 = b
  · have hh : (bits BinOp.and IntKind.u32 (r : Int) 1 != (b : Int)) = false := by rw [and1 r hr, h]; simp
    have he : Hid (crcB r b = r / 2) := by unfold crcB; rw [if_pos h]; exact rfl
    clear h
    go_enter Try.func77, Try.ntmps77
    go_wp2
    go_end0
    exact ⟨rfl, by rw [he.out]; rfl⟩
  · have hh : (bits BinOp.and IntKind.u32 (r : Int) 1 != (b : Int)) = true := by rw [and1 r hr, bne_iff_ne]; omega
    have he : Hid (crcB r b = (r / 2) ^^^ 3988292384) := by unfold crcB; rw [if_neg h]; exact rfl
    have hx := Lib.hid (xorP r hr)
    clear h
    go_enter Try.func77, Try.ntmps77
    go_wp2
    go_end0
    exact ⟨rfl, by rw [he.out, ← hx.out]⟩
def bitsOf (c : UInt8) : List Nat := (List.range 8).map fun i => c.toNat / 2 ^ i % 2
def crcL (r : Nat) (l : List Nat) : Nat := l.foldl crcB r
def crcC (r : Nat) (c : UInt8) : Nat := crcL r (bitsOf c)
def crcS (r : Nat) (l : List UInt8) : Nat := l.foldl crcC r
def crcP (r : Nat) (ls : List (List UInt8)) : Nat := ls.foldl crcS r
theorem crcL_lt (l : List Nat) : ∀ r, r < 4294967296 → crcL r l < 4294967296 := by
  induction l with
  | nil => intro r h; exact h
  | cons b l ih => intro r h; exact ih _ (crcB_lt r b h)
theorem crcC_lt (r : Nat) (c : UInt8) (h : r < 4294967296) : crcC r c < 4294967296 := crcL_lt _ _ h
theorem crcS_lt (l : List UInt8) : ∀ r, r < 4294967296 → crcS r l < 4294967296 := by
  induction l with
  | nil => intro r h; exact h
  | cons b l ih => intro r h; exact ih _ (crcC_lt r b h)
theorem crcP_lt (l : List (List UInt8)) : ∀ r, r < 4294967296 → crcP r l < 4294967296 := by
  induction l with
  | nil => intro r h; exact h
  | cons b l ih => intro r h; exact ih _ (crcS_lt b r h)
theorem foldl_take_succ {α β : Type} (f : β → α → β) (r : β) (l : List α) (k : Nat) (hk : k < l.length) : (l.take (k + 1)).foldl f r = f ((l.take k).foldl f r) l[k] := by
  rw [List.take_succ_eq_append_getElem hk, List.foldl_append]; rfl
theorem bit_step (r : Nat) (c : UInt8) (i : Nat) (hi : i < 8) : crcL r ((bitsOf c).take (i + 1)) = crcB (crcL r ((bitsOf c).take i)) (c.toNat / 2 ^ i % 2) := by
  unfold crcL
  rw [foldl_take_succ crcB r (bitsOf c) i (by simp [bitsOf]; exact hi)]
  simp [bitsOf]
theorem and_bit (c m : Nat) : bits .and .u32 ((c : Int) / 2 ^ m % 4294967296) 1 = ((c / 2 ^ m % 2 : Nat) : Int) := by
  have h : ((c : Int) / 2 ^ m % 4294967296) = ((c / 2 ^ m % 4294967296 : Nat) : Int) := by rw [Int.natCast_emod, Int.natCast_ediv, Int.natCast_pow]; rfl
  rw [h, and1 _ (Nat.mod_lt _ (by omega))]
  omega
theorem bits_all (r : Nat) (c : UInt8) : crcL r ((bitsOf c).take 8) = crcC r c := by
  rw [List.take_of_length_le (by simp [bitsOf])]; rfl
theorem crcS_take (r : Nat) (l : List UInt8) (k : Nat) (hk : k < l.length) : crcS r (l.take (k + 1)) = crcC (crcS r (l.take k)) l[k] := foldl_take_succ crcC r l k hk
theorem crcP_take (r : Nat) (l : List (List UInt8)) (k : Nat) (hk : k < l.length) : crcP r (l.take (k + 1)) = crcS (crcP r (l.take k)) l[k] := foldl_take_succ crcS r l k hk
set_option maxHeartbeats 1000000 in
theorem over_any (g r : Nat) (A : Option Addr) (cap : Nat) (ls : List (List UInt8)) (w0 w : World) (hx : Ext w0 w) (hw : w0.heap.size ≤ g) (hA : BsS w0 A ls)
    (hn : ls.length ≤ 140737488355328) (hl : ∀ l ∈ ls, l.length ≤ 140737488355328)
    (hg : w.heap[g]? = some (.cells #[.int .u32 r] 122 (0, 0))) (hr : r < 4294967296) :
    Calls Try.prog 76 #[.func (.func 77) #[] #[.pointer (some ⟨g, 0, none⟩)], .slice A ls.length cap] w fun e w' => e = .returned (.tuple #[]) ∧
      Ext w0 w' ∧ w'.heap[g]? = some (.cells #[.int .u32 (crcP r ls)] 122 (0, 0)) := by
  have HL := Lib.hid hl
  clear hl
  go_enter Try.func76, Try.ntmps76
  go_wp2
  go_loopw [11] (fun i wr => ∃ k : Nat, k ≤ ls.length ∧ i = .int .i64 k ∧ Ext w0 wr ∧ wr.heap[g]? = some (.cells #[.int .u32 (crcP r (ls.take k) : Nat)] 122 (0, 0))) (fun i _ => ls.length - (intOf i).toNat)
  case atStart => exact ⟨0, by omega, rfl, hx, hg⟩
  case round =>
    obtain ⟨k, hk, rfl, hxr, hgr⟩ := hrel
    clear hg hx
    by_cases hlt : k < ls.length
    · obtain ⟨ad, A', cap', rfl, hc, hA'⟩ := hA.at_ hlt
      have hl' : ls[k].length ≤ 140737488355328 := HL.out _ (List.getElem_mem hlt)
      have hr' := crcP_lt (ls.take k) r hr
      have hc1 := hc _ hxr
      clear hc
      generalize hls : ls[k] = l at *
      generalize hr0 : crcP r (ls.take k) = r0 at *
      have HLS := Lib.hid hls
      have HR0 := Lib.hid hr0
      clear hls hr0
      go_wp2
      obtain ⟨wo, rfl⟩ : ∃ wo : World, wo = wr := ⟨_, rfl⟩
      go_loopw [17] (fun i wr => ∃ j : Nat, j ≤ l.length ∧ i = .int .i64 j ∧ Ext w0 wr ∧ wr.heap[g]? = some (.cells #[.int .u32 (crcS r0 (l.take j) : Nat)] 122 (0, 0))) (fun i _ => l.length - (intOf i).toNat)
      case atStart => exact ⟨0, by omega, rfl, hxr, hgr⟩
      case round =>
        obtain ⟨j, hj, rfl, hxr2, hgr2⟩ := hrel
        clear hgr hxr hc1
        by_cases hlt2 : j < l.length
        · obtain ⟨ad2, rfl, hc⟩ := hA'.at_ hlt2
          have hc1 := hc _ hxr2
          clear hc
          have hr2 := crcS_lt (l.take j) r0 hr'
          generalize hcc : l[j] = c at *
          generalize hr1 : crcS r0 (l.take j) = r1 at *
          have HCC := Lib.hid hcc
          have HR1 := Lib.hid hr1
          clear hcc hr1
          have hcl := c.toNat_lt
          go_wp2
          obtain ⟨wi, rfl⟩ : ∃ wi : World, wi = wr := ⟨_, rfl⟩
          go_loopw [21] (fun i wr => ∃ m : Nat, m ≤ 8 ∧ i = .int .i64 m ∧ Ext w0 wr ∧ wr.heap[g]? = some (.cells #[.int .u32 (crcL r1 ((bitsOf c).take m) : Nat)] 122 (0, 0))) (fun i _ => 8 - (intOf i).toNat)
          case atStart => exact ⟨0, by omega, rfl, hxr2, hgr2⟩
          case round =>
            obtain ⟨m, hm, rfl, hxr3, hgr3⟩ := hrel
            clear hgr2 hxr2 hc1
            by_cases hlt3 : m < 8
            · have hb3 := crcL_lt ((bitsOf c).take m) r1 hr2
              have hm3 : (m : Int) < 8 := by omega
              go_wp2_with fail
              rw [and_bit]
              refine (step_any g _ _ _ hgr3 hb3 (by omega)).mono ?_
              rintro e w3 ⟨rfl, rfl⟩
              go_wp2
              go_roundw
              case rel => exact ⟨m + 1, by omega, by go_num, hxr3.setCell hw _, by rw [one_setCell hgr3, bit_step _ _ _ hlt3]⟩
              case measure => simp [intOf]; omega
            · have hm8 : m = 8 := by omega
              subst hm8
              go_wp2
              go_roundw
              case rel => exact ⟨j + 1, by omega, by go_num, hxr3, by rw [hgr3, bits_all]; rw [crcS_take _ _ _ hlt2, HR1.out, HCC.out]⟩
              case measure => simp [intOf]; omega
        · have hj8 : j = l.length := by omega
          subst hj8
          go_wp2
          go_roundw
          case rel => exact ⟨k + 1, by omega, by go_num, hxr2, by rw [hgr2, List.take_length]; rw [crcP_take _ _ _ hlt, HR0.out, HLS.out]⟩
          case measure => simp [intOf]; omega
    · have hj8 : k = ls.length := by omega
      subst hj8
      go_wp2
      go_end0
      exact ⟨rfl, hxr, by simpa using hgr⟩
theorem xor_max (r : Nat) (hr : r < 4294967296) : bits .xor .u32 IntKind.u32.max (r : Int) = ((4294967295 - r : Nat) : Int) := by
  have h : IntKind.u32.max = ((4294967295 : Nat) : Int) := by decide
  rw [h, u32_xor_nat _ _ (by omega) hr]
  congr 1
  have h2 : 4294967295 - r = 2 ^ 32 - (r + 1) := by omega
  have h1 : (4294967295 : Nat) = 2 ^ 32 - 1 := by decide
  rw [h2, h1]
  apply Nat.eq_of_testBit_eq
  intro i
  rw [Nat.testBit_xor, Nat.testBit_two_pow_sub_one, Nat.testBit_two_pow_sub_succ (by omega)]
  by_cases hi : i < 32
  · simp [hi]
  · have : r.testBit i = false := Nat.testBit_lt_two_pow (Nat.lt_of_lt_of_le (by omega : r < 2 ^ 32) (Nat.pow_le_pow_right (by omega) (by omega)))
    simp [hi, this]
/-- the sum of parts -/
def crcF (ls : List (List UInt8)) : Nat := 4294967295 - crcP 4294967295 ls
set_option maxHeartbeats 400000 in
theorem sum_any (A : Option Addr) (cap n : Nat) (ls : List (List UInt8)) (w : World) (hA : BsS w A ls) (hnl : n = ls.length)
    (hn : ls.length ≤ 140737488355328) (hl : ∀ l ∈ ls, l.length ≤ 140737488355328) :
    Calls Try.prog 71 #[.slice A n cap] w fun e w' => e = .returned (.int .u32 (crcF ls : Nat)) ∧ Ext w w' := by
  subst hnl
  have HL := Lib.hid hl
  clear hl
  go_enter Try.func71, Try.ntmps71
  go_wp2_with fail
  refine (over_any w.heap.size 4294967295 A cap ls w _ ((Ext.refl w).alloc _) (Nat.le_refl _) hA hn HL.out (heap_alloc_new w _) (by omega)).mono ?_
  rintro e w1 ⟨rfl, hx, hg⟩
  have hc := cell_of_one hg
  go_wp2
  go_ret
  exact ⟨ret_int (xor_max _ (crcP_lt _ _ (by omega))), hx⟩
/-- a number's n bytes, the highest first -/
def be : Nat → Nat → List UInt8
  | 0, _ => []
  | n + 1, v => UInt8.ofNat (v / 256 ^ n) :: be n v
theorem be_length (n v : Nat) : (be n v).length = n := by induction n with | zero => rfl | succ n ih => simp [be, ih]
theorem be_get (n v j : Nat) (hj : j < n) : (be n v)[j]? = some (UInt8.ofNat (v / 256 ^ (n - 1 - j))) := by
  induction n generalizing j with
  | zero => omega
  | succ n ih =>
    cases j with
    | zero => simp [be]
    | succ j => simp only [be, List.getElem?_cons_succ]; rw [ih j (by omega)]; congr 4; omega
theorem be_take (n v j : Nat) (hj : j < n) : (be n v).take (j + 1) = (be n v).take j ++ [UInt8.ofNat (v / 256 ^ (n - 1 - j))] := by
  rw [List.take_add_one, be_get n v j hj]; rfl
def layL (n : Nat) (ls : List Nat) : List UInt8 := ls.flatMap (be n)
theorem layL_take (n : Nat) (ls : List Nat) (k : Nat) (hk : k < ls.length) : layL n (ls.take (k + 1)) = layL n (ls.take k) ++ be n ls[k] := by
  unfold layL
  rw [List.take_succ_eq_append_getElem hk, List.flatMap_append]; simp
theorem layL_length (n : Nat) (ls : List Nat) : (layL n ls).length = n * ls.length := by
  induction ls with
  | nil => simp [layL]
  | cons a l ih => simp only [layL, List.flatMap_cons, List.length_append, be_length, List.length_cons] at *; rw [ih, Nat.mul_succ]; omega
def iv (l : List Nat) : List Value := l.map fun (c : Nat) => Value.int .u32 (c : Int)
theorem iv_get {l : List Nat} {k : Nat} (hk : k < l.length) : (iv l)[k]? = some (.int .u32 (l[k] : Int)) := by simp [iv, hk]
theorem bytesT : ElemOf Try.prog 46 5 1 1 := ElemOf.mk' (z := .int .u8 0) Try.underlying46 (by kernel_rfl) rfl (by omega)
theorem be_val (v m : Nat) : ((v : Int) / 2 ^ (8 * m) % 256) = ((UInt8.ofNat (v / 256 ^ m)).toNat : Int) := by
  rw [UInt8.toNat_ofNat', Int.natCast_emod, Int.natCast_ediv, Int.natCast_pow]
  have h : (2 : Int) ^ (8 * m) = ((256 : Nat) : Int) ^ m := by rw [Int.pow_mul]; rfl
  rw [h]
  rfl
set_option maxHeartbeats 1000000 in
theorem lay_any (base n : Nat) (v : Value) (bs : List UInt8) (A : Option Addr) (cap : Nat) (ls : List Nat) (w : World) (hown : Own w base v bs) (hbase : base ≤ w.heap.size)
    (hA : Sl w A (iv ls)) (hne : ∀ ad, A = some ad → v.ownBlock ≠ some ad.block) (hn : n ≤ 4) (hl : ls.length ≤ 4) (hb : bs.length ≤ 140737488355000) :
    Calls Try.prog 73 #[v, .int .i64 n, .slice A ls.length cap] w fun e w' => ∃ v', e = .returned v' ∧ Own w' base v' (bs ++ layL n ls) ∧ w.grownBy w' v.ownBlock ∧
      (v'.ownBlock = v.ownBlock ∨ ∃ g, v'.ownBlock = some g ∧ w.heap.size ≤ g) := by
  obtain ⟨A0, c0, rfl⟩ := own_form hown
  go_enter Try.func73, Try.ntmps73
  go_wp2
  go_loopw [0, 12] (fun b i wr => ∃ k : Nat, k ≤ ls.length ∧ i = .int .i64 k ∧ Own wr base b (bs ++ layL n (ls.take k)) ∧ w.grownBy wr (Value.slice A0 bs.length c0).ownBlock ∧
      (b.ownBlock = (Value.slice A0 bs.length c0).ownBlock ∨ ∃ g, b.ownBlock = some g ∧ w.heap.size ≤ g)) (fun _ i _ => ls.length - (intOf i).toNat)
  case atStart => exact ⟨0, by omega, rfl, by simpa [layL] using hown, World.grownBy.refl w _, .inl rfl⟩
  case round =>
    obtain ⟨k, hk, rfl, hownr, hgr, hor⟩ := hrel
    clear hown
    by_cases hlt : k < ls.length
    · obtain ⟨ad, rfl, hc⟩ := (hA.grown hgr (fun ad e => hne ad e)).now (iv_get hlt)
      have hlen : (bs ++ layL n (ls.take k)).length ≤ bs.length + 16 := by
        rw [List.length_append, layL_length, List.length_take]
        have := Nat.mul_le_mul hn (show min k ls.length ≤ 4 by omega)
        omega
      generalize hxs : bs ++ layL n (ls.take k) = xs at *
      have HXS := Lib.hid hxs
      clear hxs
      go_wp2
      obtain ⟨wo, rfl⟩ : ∃ wo : World, wo = wr := ⟨_, rfl⟩
      go_loopw [0, 9] (fun b i wr => ∃ j : Nat, j ≤ n ∧ i = .int .i64 ((n : Int) - 1 - j) ∧ Own wr base b (xs ++ (be n ls[k]).take j) ∧ w.grownBy wr (Value.slice A0 bs.length c0).ownBlock ∧
        (b.ownBlock = (Value.slice A0 bs.length c0).ownBlock ∨ ∃ g, b.ownBlock = some g ∧ w.heap.size ≤ g)) (fun _ i _ => (intOf i + 1).toNat)
      case atStart => exact ⟨0, by omega, by go_num, by simpa using hownr, hgr, hor⟩
      case round =>
        obtain ⟨j, hj, rfl, hownj, hgj, horj⟩ := hrel
        clear hownr hgr hor
        by_cases hlt2 : j < n
        · have hlt3 : (j : Int) ≤ n - 1 := by omega
          have hjl := be_length n ls[k]
          go_wp2_with (at_builtin; refine unstop ?_)
          rw [be_val]
          refine go_on (wpList_appB bytesT (hownj.alloc _) (Bs.new _ [_] _ rfl _ _) rfl rfl rfl rfl rfl (by simp only [List.length_append, List.length_take, List.length_singleton]; omega) (by have := hgj.size; simp; omega) ?_)
          intro v' w1 hown1 hg1 hor1
          go_wp2
          go_roundw
          case rel =>
            refine ⟨j + 1, by omega, by go_num, ?_, grown_step (grown_alloc hgj _) hg1 horj, ?_⟩
            · rw [be_take _ _ _ hlt2]; simpa using hown1
            · rcases hor1 with e | e
              · rw [e]; exact horj
              · exact .inr ⟨_, e, by have := hgj.size; simp; omega⟩
          case measure => simp [intOf]; omega
        · have hjn : j = n := by omega
          subst hjn
          go_wp2
          go_roundw
          case rel =>
            refine ⟨k + 1, by omega, by go_num, ?_, hgj, horj⟩
            rw [layL_take _ _ _ hlt, ← List.append_assoc, HXS.out]
            rwa [List.take_of_length_le (by rw [be_length]; omega)] at hownj
          case measure => simp [intOf]; omega
    · have hk' : k = ls.length := by omega
      subst hk'
      go_wp2
      go_ret
      exact ⟨_, rfl, by simpa using hownr, hgr, hor⟩
def numL (l : List UInt8) : Nat := l.foldl (fun v c => v * 256 + c.toNat) 0
theorem numL_take (l : List UInt8) (k : Nat) (hk : k < l.length) : numL (l.take (k + 1)) = numL (l.take k) * 256 + l[k].toNat := foldl_take_succ _ _ _ _ hk
theorem numL_lt (l : List UInt8) (k : Nat) (hk : k ≤ l.length) : numL (l.take k) < 256 ^ k := by
  induction k with
  | zero => simp [numL]
  | succ k ih =>
    have := ih (by omega)
    have h2 := l[k].toNat_lt
    rw [numL_take l k (by omega), Nat.pow_succ]
    omega
theorem num_bits (v : Nat) (c : UInt8) (hv : v < 16777216) : bits .or .u32 ((v : Int) * 256) (c.toNat : Int) = ((v * 256 + c.toNat : Nat) : Int) := by
  have h2 := c.toNat_lt
  have h : ((v : Int) * 256) = ((v * 256 : Nat) : Int) := rfl
  rw [h, u32_or_nat _ _ (by omega) (by omega), nat_join 8 _ _ (by omega) (by omega)]
set_option maxHeartbeats 400000 in
theorem fnum_any (A : Option Addr) (cap n : Nat) (l : List UInt8) (w : World) (h : Bs w A l) (hn : l.length ≤ 4) (hl : n = l.length) :
    Calls Try.prog 70 #[.slice A n cap] w fun e w' => e = .returned (.int .u32 (numL l : Nat)) ∧ w = w' := by
  subst hl
  go_enter Try.func70, Try.ntmps70
  go_wp2
  go_loop [3, 8] (fun v i => ∃ k : Nat, k ≤ l.length ∧ i = .int .i64 k ∧ v = .int .u32 (numL (l.take k) : Nat)) (fun _ i => l.length - (intOf i).toNat)
  case atStart => exact ⟨0, by omega, rfl, rfl⟩
  case round =>
    obtain ⟨k, hk, rfl, rfl⟩ := hrel
    by_cases hlt : k < l.length
    · obtain ⟨ad, rfl, hc⟩ := Sl.now h (bv_get hlt)
      have hv : numL (l.take k) < 16777216 := Nat.lt_of_lt_of_le (numL_lt l k hk) (Nat.pow_le_pow_right (n := 256) (by omega) (show k ≤ 3 by omega))
      have hs := Lib.hid (num_bits (numL (l.take k)) l[k] hv)
      have h2 := l[k].toNat_lt
      go_wp2
      go_round
      case rel => exact ⟨k + 1, by omega, by go_num, by rw [numL_take _ _ hlt, ← hs.out]⟩
      case measure => simp [intOf]; omega
    · go_wp2
      go_ret
      exact ⟨ret_int (by rw [List.take_of_length_le (by omega)]), rfl⟩
set_option maxHeartbeats 400000 in
theorem fclone_any (A : Option Addr) (cap n : Nat) (l : List UInt8) (w : World) (h : Bs w A l) (hn : l.length ≤ 140737488355328) (hl : n = l.length) :
    Calls Try.prog 47 #[.slice A n cap] w fun e w' => ∃ v, e = .returned v ∧ Own w' w.heap.size v l ∧ Ext w w' := by
  subst hl
  have hnil := fun w A n c => Lib.run_eql_slice_nil (P := Try.prog) w 46 5 A n c 0 0 Try.underlying46
  cases A with
  | none =>
    have h0 : l = [] := by
      cases l with
      | nil => rfl
      | cons c l => obtain ⟨ad, e, _⟩ := h 0 _ (bv_get (l := c :: l) (k := 0) (by simp)); cases e
    subst h0
    go_enter Try.func47, Try.ntmps47
    go_wp2
    go_ret
    exact ⟨_, rfl, Own.nil _ _, Ext.refl _⟩
  | some ad =>
    go_enter Try.func47, Try.ntmps47
    go_wp2_with (at_builtin; refine unstop ?_)
    refine go_on (wpList_appB bytesT (l := []) (own_of (World.ownsRow_made w #[] 0 (Nat.le_refl _) (by simp [maxLen]) rfl) rfl) (h.ext ((Ext.refl _).alloc _)) rfl rfl rfl rfl rfl (by simp; omega) (by simp) ?_)
    intro v' w1 hown1 hg1 hor1
    go_wp2
    go_ret
    exact ⟨_, rfl, by simpa using hown1, ((Ext.refl _).alloc _).grown hg1 (by intro k hk; simp [Value.ownBlock] at hk; omega)⟩
def packL (l : List UInt8) : List UInt8 := be 2 l.length ++ be 4 (crcF [be 2 l.length, l]) ++ l
theorem crcF_lt (ls : List (List UInt8)) : crcF ls < 4294967296 := by unfold crcF; omega
set_option maxHeartbeats 400000 in
theorem Pack_arg (A : Option Addr) (cap n : Nat) (l : List UInt8) (w : World) (hl : n = l.length) (h : l.length = 0) :
    Calls Try.prog 57 #[.slice A n cap] w fun e w' => e = .returned (.tuple #[.slice none 0 0, .int .i64 2]) ∧ w = w' := by
  subst hl
  have h1 : ((l.length : Int) == 0) = true := by rw [h]; rfl
  clear h
  go_enter Try.func57, Try.ntmps57
  go_wp2
  go_ret2
  exact ⟨rfl, rfl⟩
set_option maxHeartbeats 400000 in
theorem Pack_limit (A : Option Addr) (cap n : Nat) (l : List UInt8) (w : World) (hl : n = l.length) (h : 2000 < l.length) :
    Calls Try.prog 57 #[.slice A n cap] w fun e w' => e = .returned (.tuple #[.slice none 0 0, .int .i64 6]) ∧ w = w' := by
  subst hl
  have h1 : ((l.length : Int) == 0) = false := beq_eq_false_iff_ne.2 (by omega)
  have h2 : (2000 : Int) < l.length := by omega
  clear h
  go_enter Try.func57, Try.ntmps57
  go_wp2
  go_ret2
  exact ⟨rfl, rfl⟩
set_option maxHeartbeats 400000 in
theorem Pack_ok (A : Option Addr) (cap n : Nat) (l : List UInt8) (w : World) (h : Bs w A l) (hl : n = l.length) (hlo : 0 < l.length) (hhi : l.length ≤ 2000) :
    Calls Try.prog 57 #[.slice A n cap] w fun e w' => ∃ v, e = .returned (.tuple #[v, .int .i64 0]) ∧ Own w' w.heap.size v (packL l) ∧ Ext w w' := by
  subst hl
  have h1 : ((l.length : Int) == 0) = false := beq_eq_false_iff_ne.2 (by omega)
  have h2 : (l.length : Int) ≤ 2000 := by omega
  go_enter Try.func57, Try.ntmps57
  go_wp2_with fail
  refine (lay_any w.heap.size 2 (.slice none 0 0) [] _ 1 [l.length] _ (Own.nil _ _) (by simp) (Sl.new w [_] _ _) (by intro ad e; simp [Value.ownBlock]) (by omega) (by simp) (by simp)).mono ?_
  rintro e w1 ⟨v1, rfl, hown1, hg1, _⟩
  have hx1 : Ext w w1 := ((Ext.refl w).alloc _).grown hg1 (by intro k hk; simp [Value.ownBlock] at hk)
  obtain ⟨A1, c1, rfl⟩ := hown1.form
  have hb1 := hown1.bs
  simp only [List.nil_append, layL, List.flatMap_cons, List.flatMap_nil, List.append_nil, be_length] at hown1 hb1 ⊢
  go_wp2_with fail
  have hl1 := be_length 2 l.length
  refine (sum_any _ _ 2 [be 2 l.length, l] _ (BsS.new w1 _ [_, _] _ rfl _ _ ?_) rfl (by simp) ?_).mono ?_
  · intro k x hk
    match k, hk with
    | 0, hk => simp at hk; subst hk; exact ⟨A1, c1, by rw [hl1]; rfl, hb1⟩
    | 1, hk => simp at hk; subst hk; exact ⟨A, cap, rfl, h.ext hx1⟩
  · intro x hx
    simp at hx
    rcases hx with rfl | rfl <;> omega
  rintro e w2 ⟨rfl, hx2⟩
  have hx12 : Ext w1 w2 := ((Ext.refl w1).alloc _).trans hx2
  have hown2 := hown1.ext hx12
  go_wp2_with fail
  refine (lay_any w.heap.size 4 _ _ _ 1 [crcF [be 2 l.length, l]] _ (hown2.alloc _) (by have := hx1.size; have := hx12.size; simp; omega) (Sl.new w2 [_] _ _) ?_ (by omega) (by simp) (by rw [hl1]; omega)).mono ?_
  · intro ad e hk
    have := (hown2.lt _ hk).2
    simp at e
    subst e
    exact absurd this (by simp)
  rintro e w3 ⟨v3, rfl, hown3, hg3, _⟩
  have hx3 : Ext w w3 := ((hx1.trans hx12).alloc _).own (hown2.alloc _) (Nat.le_refl _) hg3
  obtain ⟨A3, c3, rfl⟩ := hown3.form
  go_wp2_with (at_builtin; refine unstop ?_)
  refine go_on (wpList_appB bytesT hown3 (h.ext hx3) rfl rfl rfl rfl rfl ?_ hx3.size ?_)
  · simp only [List.length_append, layL, List.flatMap_cons, List.flatMap_nil, List.append_nil, be_length]; omega
  rintro v4 w4 hown4 hg4 -
  go_wp2
  go_ret2
  exact ⟨_, rfl, by simpa [packL, layL] using hown4, hx3.own hown3 (Nat.le_refl _) hg4⟩
end Go.Proofs.Ytklodimokhndoaa
