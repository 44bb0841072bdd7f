/- The walks of lines.end, take, New, Feed, Wait, Fork, and what bytes.Index answers at a line's end. Conditions: those of IsBuf, the lengths named. -/
import Derived.Test.YtchokelpimibdaaLn1
import Derived.Test.YtchokelpimibdaaShelf
import Derived.Deep.RegionHeld3
namespace Go.Proofs.Ytchokelpimibdaa
open Go.RowKit
/-- the library's own variable holds a number -/
def ML (w : World) : Prop := ∃ m : Int, w.cell? ⟨0, 0, none⟩ = some (.int .i64 m)
theorem ML.ext {w w' : World} (h : ML w) (hx : Ext w w') : ML w' := by
  obtain ⟨m, h⟩ := h
  exact ⟨m, hx.cell h⟩
theorem ML.lt {w : World} (h : ML w) : 0 < w.heap.size := by
  obtain ⟨m, h⟩ := h
  exact World.block_lt_of_cell? w _ h
theorem ML.kept {w w' : World} {N : List Nat} (h : ML w) (hx : Kept N w w') (hN : 0 ∉ N) : ML w' := by
  obtain ⟨m, h⟩ := h
  exact ⟨m, hx.cell h hN⟩
def idxI (l : List UInt8) : Int := match fnd l with | some k => (k : Int) | none => -1
theorem bytesOf_bv (l : List UInt8) : Lib.bytesOf (l.map fun c => (c.toNat : Int)) = l := by
  unfold Lib.bytesOf
  rw [List.map_map]
  exact (List.map_congr_left (fun c _ => by simp)).trans (List.map_id l)
theorem index_any (A : Option Addr) (n c : Nat) (l : List UInt8) (ad : Addr) (w : World) (h : Bs w A l) (hb : Bs w (some ad) [13, 10]) (hm : ML w) (hA : A = none → c = 0) (hn : n = l.length) (hc : l.length ≤ c) (hlt : l.length < 4294967281) :
    Calls Try.prog 29 #[.slice A n c, .slice (some ad) 2 2] w fun e w' => e = .returned (.int .i64 (idxI l)) ∧ Ext w w' := by
  subst hn
  obtain ⟨m, hm⟩ := hm
  cases A with
  | none =>
    obtain rfl := hA rfl
    obtain rfl : l = [] := List.eq_nil_of_length_eq_zero (by omega)
    exact (Try.bytes_Index_nil (some ad) 2 2 w (by omega) (by omega)).mono fun e w' ⟨he, hw⟩ => ⟨he, hw ▸ Ext.refl _⟩
  | some a =>
    have hcell : ∀ (l : List UInt8) (a : Addr), Bs w (some a) l → ∀ i, i < l.length → w.cell? (a.add i) = some (.int .u8 ((l.map fun c => (c.toNat : Int)).getD i 0)) := by
      intro l a hb i hi
      obtain ⟨ad', e, hc⟩ := hb i _ (bv_get hi)
      cases e
      rw [hc]
      simp [List.getD, hi]
    have hr : ∀ (l : List UInt8), ∀ x ∈ (l.map fun c => (c.toNat : Int)), 0 ≤ x ∧ x < 256 := by
      intro l x hx
      obtain ⟨c, _, rfl⟩ := List.mem_map.1 hx
      have := c.toNat_lt
      omega
    refine (Try.bytes_Index_at a ad l.length c 2 2 (l.map fun c => (c.toNat : Int)) (([13, 10] : List UInt8).map fun c => (c.toNat : Int)) m w (by simp) (by simp) (hr _) (hr _) (hcell _ _ h) (hcell _ _ hb) hc hlt (by omega) hm).mono fun e w' ⟨he, q, hw⟩ => ?_
    rw [bytesOf_bv, bytesOf_bv, index_fnd] at he
    subst hw
    exact ⟨he, (Ext.refl _).drewN q⟩
theorem end_any (w : World) : Calls Try.prog 30 #[] w fun e w' => ∃ g, e = .returned (.slice (some ⟨g, 0, none⟩) 2 2) ∧ Ext w w' ∧ Bs w' (some ⟨g, 0, none⟩) [13, 10] := by
  go_enter Try.func30, Try.ntmps30
  go_wp2
  go_ret
  exact ⟨_, rfl, (Ext.refl _).alloc _, Bs.new w [13, 10] _ rfl 5 (0, 0)⟩
theorem own_nil {w : World} {base n c : Nat} {A : Option Addr} {l : List UInt8} (h : Own w base (.slice A n c) l) : A = none → c = 0 := by
  rintro rfl
  rcases h.2 with ⟨e, _⟩ | ⟨g, cap, cur, e, _⟩
  · injection e
  · injection e with e1; cases e1
/-- the buffer, and its slice where it has no row -/
def IsLn (M : List Nat) (w : World) (p : Nat) (l : List UInt8) : Prop :=
  ∃ A c, w.heap[p]? = some (.cells #[.slice A l.length c] 75 (0, 0)) ∧ BsM M w A l ∧ l.length ≤ c ∧ c ≤ 9223372036854775807 ∧ (A = none → c = 0)
section
variable {M N : List Nat} {w w' : World} {p : Nat} {l : List UInt8} {v : Value}
theorem IsLn.kept (h : IsLn M w p l) (k : Kept N w w') (hp : p ∉ N) (hs : ∀ k ∈ N, k ∈ M) : IsLn M w' p l := by
  obtain ⟨A, c, h1, h2, h3⟩ := h
  exact ⟨A, c, k.heap h1 hp, BsM.kept h2 (k.mono hs), h3⟩
theorem IsLn.ext (h : IsLn M w p l) (k : Ext w w') : IsLn M w' p l := h.kept (N := []) (.of_ext k) (by simp) (by simp)
theorem IsLn.old (h : IsLn M w p l) (hs : ∀ k ∈ N, k ∈ M ∨ w.heap.size ≤ k) : IsLn N w p l := by
  obtain ⟨A, c, h1, h2, h3⟩ := h
  exact ⟨A, c, h1, SlM.old h2 hs, h3⟩
theorem IsLn.lt (h : IsLn M w p l) : p < w.heap.size := by
  obtain ⟨A, c, h1, _⟩ := h
  exact obj_lt h1
/-- its cell turns: a row of the call's own -/
theorem IsLn.set {A : Option Addr} {c n base : Nat} {v : Value} {l' : List UInt8} (h : w.heap[p]? = some (.cells #[v] 75 (0, 0))) (hp : p ∈ M) (hb : Own w base (.slice A n c) l') (hM : ∀ k ∈ M, k < base) :
    IsLn M (w.setCell ⟨p, 0, none⟩ (.slice A n c)) p l' ∧ Kept [p] w (w.setCell ⟨p, 0, none⟩ (.slice A n c)) := by
  have hn := hb.len
  subst hn
  have hc := hb.cap
  have hk : Kept [p] w (w.setCell ⟨p, 0, none⟩ (.slice A l'.length c)) := (Kept.refl _ _).setCell (.inl (by simp)) _
  exact ⟨⟨A, c, by simpa using heap_setCell_same w p 0 _ _ (.slice A l'.length c) h, BsM.kept (BsM.own hb hM) (hk.mono (by simpa using hp)), hc.1, hc.2, own_nil hb⟩, hk⟩
theorem own_set {A : Option Addr} {c n base : Nat} {l' : List UInt8} (hb : Own w base (.slice A n c) l') (hp : p < base) (u : Value) : Own (w.setCell ⟨p, 0, none⟩ u) base (.slice A n c) l' := by
  refine hb.kept (row := some p) ⟨rfl, rfl, rfl, by simp, fun k _ hk => heap_setCell_other w ⟨p, 0, none⟩ k _ (fun e => hk (by simp [e]))⟩ ?_
  cases hv : (Value.slice A n c).ownBlock with
  | none => exact .inl rfl
  | some k => exact .inr (by have := (hb.lt k hv).1; simp; omega)
end
section
variable {M : List Nat} {p : Nat} {l : List UInt8}
set_option maxHeartbeats 1000000 in
theorem take_any (w : World) (h : IsLn M w p l) (hp : p ∈ M) (hM : ∀ k ∈ M, k < w.heap.size) (hll : l.length ≤ 16384) (N L : Int) (n m : Nat) (hN : N = n) (hm : N - L = m) (hn : n ≤ l.length) (hL : 0 ≤ L) :
    Calls Try.prog 37 #[pt p, .int .i64 N, .int .i64 L] w fun e w' => ∃ A c, e = .returned (.slice A m c) ∧ Own w' w.heap.size (.slice A m c) (l.take m) ∧ Kept [p] w w' ∧ IsLn ((Value.slice A m c).ownBlock.toList ++ M) w' p (l.drop n) := by
  obtain ⟨A, c, hr, hb, hlc, hcm, -⟩ := h
  obtain ⟨C0, CF⟩ := row1_cell hr
  have c0 := C0 w (Ext.refl _)
  have hpl := hM p hp
  have hmn : m ≤ n := by omega
  have hN0 : 0 ≤ N := by omega
  have hN1 : N ≤ 16384 := by omega
  have hL1 : L ≤ N := by omega
  obtain ⟨A1, r1, s1⟩ := cutB_hm (P := Try.prog) Try.underlying22 Try.sizeOf5 A l.length c l m (hi := N - L) (mi := N - L) hm hm rfl hlc (by omega)
  obtain ⟨A2, r2, s2⟩ := cutB_l (P := Try.prog) Try.underlying22 Try.sizeOf5 A l.length c l n (li := N) hN rfl hlc hn
  have H1 := clone_any A1 m m (l.take m) w (s1 w hb.bs) (by simp; omega) (by simp; omega)
  have H2 := fun W (hx : Ext w W) => clone_any A2 (c - n) (l.length - n) (l.drop n) W (s2 W (hb.bs.ext hx)) (by simp; omega) (by simp)
  have HR := Lib.hid hr
  have HM := Lib.hid hM
  have e1 : (l.take m).length = m := by simp; omega
  have e2 : (l.drop n).length = l.length - n := by simp
  have E1 := Lib.hid e1
  have E2 := Lib.hid e2
  clear hr hb hN hm hmn s1 s2 e1 e2 hM
  unfold pt
  go_enter Try.func37, Try.ntmps37
  go_wp2_with fail
  refine H1.mono ?_
  rintro e w1 ⟨v1, rfl, ho1, hx1⟩
  have c1 := C0 w1 hx1
  have f1 := ho1.form
  rw [E1.out] at f1
  obtain ⟨B1, b1, rfl⟩ := f1
  go_wp2_with fail
  refine (H2 w1 hx1).mono ?_
  rintro e w2 ⟨v2, rfl, ho2, hx2⟩
  have hx12 := hx1.trans hx2
  have c2 := C0 w2 hx12
  have cf := fun j => CF w2 j hx12
  have f2 := ho2.form
  rw [E2.out] at f2
  obtain ⟨B2, b2, rfl⟩ := f2
  have hset := IsLn.set (M := (Value.slice B1 m b1).ownBlock.toList ++ M) (hx12.obj HR.out) (List.mem_append_right _ hp) ho2 (fun k hk => by
    rcases List.mem_append.1 hk with h1 | h1
    · exact (ho1.lt k (by simpa using h1)).2
    · exact Nat.lt_of_lt_of_le (HM.out k h1) hx1.size)
  have HSET := Lib.hid hset
  have HO := Lib.hid (own_set (ho1.ext hx2) hpl (.slice B2 (l.length - n) b2))
  have HK := Lib.hid ((Kept.of_ext (M := [p]) hx12).trans hset.2)
  clear hset C0 CF H1 H2 ho1 ho2
  go_wp2
  go_ret
  exact ⟨B1, b1, rfl, HO.out, HK.out, HSET.out.1⟩
theorem LNew_any (w : World) : Calls Try.prog 19 #[] w fun e w' => e = .returned (pt w.heap.size) ∧ Ext w w' ∧ ∀ M, IsLn M w' w.heap.size [] := by
  go_enter Try.func19, Try.ntmps19
  go_wp2
  go_ret
  exact ⟨rfl, (Ext.refl w).alloc _, fun M => ⟨none, 0, heap_alloc_new w _, SlM.nil _ _ _, by simp, by omega, fun _ => rfl⟩⟩
set_option maxHeartbeats 1000000 in
theorem LFeed_any (w : World) (h : IsLn M w p l) (hp : p ∈ M) (hM : ∀ k ∈ M, k < w.heap.size) (hll : l.length ≤ 16384) (A' : Option Addr) (c' : Nat) (q : List UInt8) (hq : Bs w A' q) :
    Calls Try.prog 20 #[pt p, .slice A' q.length c'] w fun e w' => e = .returned (.int .i64 (feedE l q)) ∧ Kept [p] w w' ∧ IsLn M w' p (feedL l q) := by
  have h' := h
  obtain ⟨A, c, hr, hb, hlc, hcm, -⟩ := h
  obtain ⟨C0, CF⟩ := row1_cell hr
  have c0 := C0 w (Ext.refl _)
  have hpl := hM p hp
  by_cases hbig : 16384 < l.length + q.length
  · have e1 : feedE l q = 8 := by unfold feedE; rw [if_pos hbig]
    have e2 : feedL l q = l := by unfold feedL; rw [if_pos hbig]
    rw [e1, e2]
    have ht : 16384 - (l.length : Int) < (q.length : Int) := by omega
    have H' := Lib.hid h'
    clear h' hr hb e1 e2
    unfold pt
    go_enter Try.func20, Try.ntmps20
    go_wp2
    go_ret
    exact ⟨rfl, Kept.refl _ _, H'.out⟩
  · have e1 : feedE l q = 0 := by unfold feedE; rw [if_neg hbig]
    have e2 : feedL l q = l ++ q := by unfold feedL; rw [if_neg hbig]
    rw [e1, e2]
    have ht : ¬ 16384 - (l.length : Int) < (q.length : Int) := by omega
    have H1 := clone_any A c l.length l w hb.bs (by omega) rfl
    have HR := Lib.hid hr
    have HM := Lib.hid hM
    have HQ := Lib.hid hq
    clear h' hr hb e1 e2 hM hq
    unfold pt
    go_enter Try.func20, Try.ntmps20
    go_wp2_with fail
    refine H1.mono ?_
    rintro e w1 ⟨v1, rfl, ho1, hx1⟩
    go_wp2_with (at_builtin; refine unstop ?_)
    refine go_on (wpList_appB bytesTc ho1 (HQ.out.ext hx1) rfl rfl rfl rfl rfl (by omega) hx1.size ?_)
    intro v2 w2 ho2 hg2 hor2
    have hx2 : Ext w w2 := Ext.own hx1 ho1 (Nat.le_refl _) hg2
    have c2 := C0 w2 hx2
    have cf := fun j => CF w2 j hx2
    have f2 := ho2.form
    rw [List.length_append] at f2
    obtain ⟨B2, b2, rfl⟩ := f2
    have hset := IsLn.set (hx2.obj HR.out) hp ho2 HM.out
    have HSET := Lib.hid hset
    have HK := Lib.hid ((Kept.of_ext (M := [p]) hx2).trans hset.2)
    clear hset C0 CF H1 ho1 ho2 hg2 hor2
    go_wp2
    go_ret
    exact ⟨rfl, HK.out, HSET.out.1⟩
end
end Go.Proofs.Ytchokelpimibdaa
