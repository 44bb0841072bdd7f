/- The walks of disk.New, wrong, spend, Cut, Down, Age, Waits. Conditions: those of IsDk. -/
import Derived.Test.YtklodimokhndoaaChecked
import Derived.Test.YtklodimokhndoaaDk1
namespace Go.Proofs.Ytklodimokhndoaa
open Go.RowKit
def pt (p : Nat) : Value := .pointer (some ⟨p, 0, none⟩)
def newD (n : Nat) : Dk := ⟨List.replicate n zpage, [], false, 0, 0⟩
theorem newD_ok {n : Nat} (h1 : 1 ≤ n) (h2 : n ≤ 512) : (newD n).Ok :=
  Dk.Ok.mk (fun p hp => by rw [(List.mem_replicate.1 hp).2]; rfl) (fun x hx => (by cases hx)) (by simpa [newD] using h1) (by simpa [newD] using h2)
theorem zrep (k : Nat) : pcs (List.replicate k zpage) = List.replicate (k * 64) (Value.int .u8 0) := by
  induction k with
  | zero => rfl
  | succ k ih =>
    have e : pcs (List.replicate (k + 1) zpage) = List.replicate 64 (Value.int .u8 0) ++ pcs (List.replicate k zpage) := rfl
    rw [e, ih, Nat.succ_mul, Nat.add_comm]
    exact List.replicate_append_replicate
theorem made_rep (z : List Value) (v : Value) (hz : ∀ u ∈ z, u = v) (h0 : 0 < z.length) (m : Nat) : (madeCells z.toArray m).toList = List.replicate m v := by
  apply List.ext_getElem?
  intro j
  by_cases hj : j < m
  · have : j % z.length < z.length := Nat.mod_lt _ h0
    simp [madeCells, hj, this]
    exact hz _ (List.getElem_mem this)
  · simp [madeCells, hj]
theorem made_pages (n : Nat) : (madeCells (List.replicate 64 (Value.int .u8 0)).toArray (n * 64)).toList = pcs (List.replicate n zpage) := by
  rw [zrep]
  exact made_rep _ _ (fun u hu => (List.mem_replicate.1 hu).2) (by decide) _
theorem New_ok (n : Nat) (w : World) (h1 : 1 ≤ n) (h2 : n ≤ 512) : Calls Try.prog 8 #[.int .i64 n] w fun e w' => ∃ p B, e = .returned (.tuple #[pt p, .int .i64 0]) ∧ Ext w w' ∧ Disk B w' p (newD n) ∧ ∀ k ∈ B, w.heap.size ≤ k := by
  have hi1 : ¬ (n : Int) < 1 := by omega
  have hi2 : ¬ (512 : Int) < (n : Int) := by omega
  obtain ⟨i, hi, hz, hsz, hby⟩ := info_parts (P := Try.prog) (e := 104) (z := .agg (List.replicate 64 (Value.int .u8 0)).toArray) (size := 64) (bytes := 64) (by kernel_rfl)
  go_enter Try.func8, Try.ntmps8
  go_wp2_with (at_make; refine unstop ?_)
  refine go_on (wpList_make_full _ rfl _ _ _ rfl 0 104 i _ 64 (by kernel_rfl) hi hz hsz _ _ _ _ n rfl rfl rfl rfl (by rw [hby]; omega) (by simp [maxLen]; omega) (Nat.zero_le _) ?_)
  intro w1 ho hg
  rw [show (madeCells (Value.agg (List.replicate 64 (Value.int .u8 0)).toArray).cells (n * 64)).toList = _ from made_pages n] at ho
  have hx : Ext w w1 := (Ext.refl w).grown hg (by simp)
  have hgl := ho.lt w.heap.size rfl
  clear hi hz hsz hby
  go_wp2
  refine bodyPost_ret (v := .tuple #[pt w1.heap.size, .int .i64 0]) (by simp [results, Try.results8, go_sem, pt]) rfl ?_
  refine ⟨_, [w1.heap.size, w.heap.size], rfl, hx.alloc _, ⟨w.heap.size, n, .slice none 0 0, ?_⟩, ?_⟩
  · refine ⟨by simpa [newD] using heap_alloc_new w1 _, by simpa [newD] using ho.alloc _, World.ownsRow_nil _ _ _ _, by simp, by simp, by simp [Value.ownBlock], ?_⟩
    intro k hk
    simp at hk ⊢
    omega
  · have := hx.size
    intro k hk
    simp at hk
    omega
def wrongE (s : Dk) (i : Int) (needs : Bool) : Int := if needs = true ∧ s.down = true then 7 else if 0 ≤ i ∧ i < s.sure.length then 0 else 2
section
variable {B : List Nat} {p g cap : Nat} {s : Dk} {v : Value}
theorem wrong_any (w : World) (h : IsDk B w p s g cap v) (i : Int) (needs : Bool) : Calls Try.prog 53 #[pt p, .int .i64 i, .bool needs] w fun e w' => e = .returned (.int .i64 (wrongE s i needs)) ∧ Ext w w' := by
  obtain ⟨c0, c1, c2, c3, c4, cf⟩ := h.cells
  have c0 := c0 w (Ext.refl w)
  have c2 := c2 w (Ext.refl w)
  clear c1 c3 c4 cf h
  obtain ⟨sure, waits, down, cut, age⟩ := s
  unfold pt
  simp only [wrongE] at *
  by_cases hn : needs = true ∧ down = true
  · rw [if_pos hn]
    obtain ⟨rfl, rfl⟩ := hn
    go_enter Try.func53, Try.ntmps53
    go_wp2
    go_ret
    exact ⟨rfl, Ext.refl _⟩
  · rw [if_neg hn]
    by_cases hi0 : i < 0
    · rw [if_neg (by omega)]
      cases needs <;> cases down <;> first
        | (exact absurd ⟨rfl, rfl⟩ hn)
        | (clear hn
           go_enter Try.func53, Try.ntmps53
           go_wp2
           go_ret
           exact ⟨rfl, Ext.refl _⟩)
    · by_cases hi1 : i < sure.length
      · rw [if_pos (by omega)]
        cases needs <;> cases down <;> first
        | (exact absurd ⟨rfl, rfl⟩ hn)
        | (clear hn
           go_enter Try.func53, Try.ntmps53
           go_wp2
           go_ret
           exact ⟨rfl, Ext.refl _⟩)
      · rw [if_neg (by omega)]
        cases needs <;> cases down <;> first
        | (exact absurd ⟨rfl, rfl⟩ hn)
        | (clear hn
           go_enter Try.func53, Try.ntmps53
           go_wp2
           go_ret
           exact ⟨rfl, Ext.refl _⟩)
/-- the disk behind one more write or flush -/
def spent (s : Dk) : Dk := if s.cut = 0 then s else ⟨s.sure, s.waits, decide (s.cut = 1), s.cut - 1, s.age⟩
theorem spent_sure (s : Dk) : (spent s).sure = s.sure := by unfold spent; split <;> rfl
theorem spent_waits (s : Dk) : (spent s).waits = s.waits := by unfold spent; split <;> rfl
theorem spend_any (w : World) (h : IsDk B w p s g cap v) (hd : s.down = false) (hc : s.cut ≤ 9223372036854775807) : Calls Try.prog 69 #[pt p] w fun e w' => e = .returned (.bool (!(spent s).down)) ∧ Kept [p] w w' ∧ IsDk B w' p (spent s) g cap v := by
  obtain ⟨c0, c1, c2, c3, c4, cf⟩ := h.cells
  have c2 := c2 w (Ext.refl w)
  have c3 := c3 w (Ext.refl w)
  have cf := fun j => cf w j (Ext.refl w)
  clear c0 c1 c4
  have hkq := ((Kept.refl [p] w).setCell (p := ⟨p, 3, none⟩) (.inl (by simp)) (.int .i64 ((s.cut : Int) - 1))).setCell (p := ⟨p, 2, none⟩) (.inl (by simp)) (.bool (decide (s.cut = 1)))
  have hrowS := heap_setCell_same _ p 2 _ _ (.bool (decide (s.cut = 1))) (heap_setCell_same w p 3 _ _ (.int .i64 ((s.cut : Int) - 1)) h.row)
  have H := Lib.hid h
  have HK := Lib.hid hkq
  have HR := Lib.hid hrowS
  clear h hkq hrowS
  obtain ⟨sure, waits, down, cut, age⟩ := s
  simp only at hd
  subst hd
  unfold pt
  by_cases h0 : cut = 0
  · subst h0
    have hS : Hid (spent ⟨sure, waits, false, 0, age⟩ = ⟨sure, waits, false, 0, age⟩) := Lib.hid rfl
    go_enter Try.func69, Try.ntmps69
    go_wp2
    go_ret
    rw [hS.out]
    exact ⟨rfl, Kept.refl _ _, H.out⟩
  · have hi : ((cut : Int) == 0) = false := by simpa using h0
    have hS : Hid (spent ⟨sure, waits, false, cut, age⟩ = ⟨sure, waits, decide (cut = 1), cut - 1, age⟩) := Lib.hid (by unfold spent; rw [if_neg h0])
    simp only at hc
    by_cases h1 : cut = 1
    · subst h1
      go_enter Try.func69, Try.ntmps69
      go_wp2
      go_ret
      rw [hS.out]
      exact ⟨rfl, HK.out, H.out.turned HK.out rfl rfl (by simpa using HR.out)⟩
    · have hi1 : ((cut : Int) - 1 == 0) = false := by simp; omega
      have hD : Hid (decide (cut = 1) = false) := Lib.hid (decide_eq_false h1)
      have hw : IntKind.i64.wrap ((cut : Int) - 1) = (cut : Int) - 1 := IntWalk.i64_in _ (by omega)
      have hZ : Hid (((cut - 1 : Nat) : Int) = (cut : Int) - 1) := Lib.hid (by omega)
      rw [hD.out] at hS HK HR
      clear h1
      go_enter Try.func69, Try.ntmps69
      go_wp2
      go_ret
      rw [hS.out]
      exact ⟨rfl, HK.out, H.out.turned HK.out rfl rfl (by rw [hZ.out]; simpa using HR.out)⟩
theorem Cut_any (w : World) (h : IsDk B w p s g cap v) (hn : 1 ≤ s.sure.length) (n : Int) : Calls Try.prog 22 #[pt p, .int .i64 n] w fun e w' => e = .returned (.int .i64 (if s.down = true then 7 else if n < 0 then 2 else 0)) ∧ Kept [p] w w' ∧ IsDk B w' p (if s.down = true ∨ n < 0 then s else ⟨s.sure, s.waits, s.down, n.toNat, s.age⟩) g cap v := by
  have HW := wrong_any w h 0 true
  by_cases hd : s.down = true
  · rw [if_pos hd, if_pos (.inl hd)]
    rw [show wrongE s 0 true = 7 by unfold wrongE; rw [if_pos ⟨rfl, hd⟩]] at HW
    have H := Lib.hid h
    clear h hd
    unfold pt at *
    go_enter Try.func22, Try.ntmps22
    go_wp2_with fail
    refine HW.mono ?_
    rintro e w1 ⟨rfl, hx⟩
    go_wp2
    go_ret
    exact ⟨rfl, .of_ext hx, H.out.ext hx⟩
  · rw [if_neg hd]
    rw [show wrongE s 0 true = 0 by unfold wrongE; rw [if_neg (by simpa using hd), if_pos (by omega)]] at HW
    by_cases hz : n < 0
    · rw [if_pos hz, if_pos (.inr hz)]
      have H := Lib.hid h
      clear h hd
      unfold pt at *
      go_enter Try.func22, Try.ntmps22
      go_wp2_with fail
      refine HW.mono ?_
      rintro e w1 ⟨rfl, hx⟩
      go_wp2
      go_ret
      exact ⟨rfl, .of_ext hx, H.out.ext hx⟩
    · rw [if_neg hz, if_neg (by simp only [not_or]; exact ⟨hd, hz⟩)]
      have C3 := h.cells.2.2.2.1
      have CF := h.cells.2.2.2.2.2
      have H := Lib.hid h
      clear h hd
      unfold pt at *
      go_enter Try.func22, Try.ntmps22
      go_wp2_with fail
      refine HW.mono ?_
      rintro e w1 ⟨rfl, hx⟩
      clear HW
      have c3 := C3 w1 hx
      have cf := fun j => CF w1 j hx
      clear C3 CF
      have hkq := (Kept.of_ext (M := [p]) hx).setCell (p := ⟨p, 3, none⟩) (.inl (by simp)) (.int .i64 n)
      have hrowS := heap_setCell_same _ p 3 _ _ (.int .i64 n) (hx.obj H.out.row)
      have HK := Lib.hid hkq
      have HR := Lib.hid hrowS
      clear hkq hrowS
      have hZ : Hid (((n.toNat : Nat) : Int) = n) := Lib.hid (by omega)
      go_wp2
      go_ret
      exact ⟨rfl, HK.out, H.out.turned HK.out rfl rfl (by rw [hZ.out]; simpa using HR.out)⟩
theorem Down_any (w : World) (h : IsDk B w p s g cap v) : Calls Try.prog 26 #[pt p] w fun e w' => e = .returned (.bool s.down) ∧ Ext w w' := by
  have c2 := h.cells.2.2.1 w (Ext.refl w)
  clear h
  unfold pt
  go_enter Try.func26, Try.ntmps26
  go_wp2
  go_ret
  exact ⟨rfl, Ext.refl _⟩
theorem Age_any (w : World) (h : IsDk B w p s g cap v) : Calls Try.prog 28 #[pt p] w fun e w' => e = .returned (.int .i64 s.age) ∧ Ext w w' := by
  have c2 := h.cells.2.2.2.2.1 w (Ext.refl w)
  clear h
  unfold pt
  go_enter Try.func28, Try.ntmps28
  go_wp2
  go_ret
  exact ⟨rfl, Ext.refl _⟩
end
end Go.Proofs.Ytklodimokhndoaa
