/- The walks of the reference's New, take, Feed, Line, Raw, Fork. Conditions: those of IsBuf, the lengths named. -/
import Derived.Test.YtlfieggioomoiaaLn3
namespace Go.Proofs.Ytlfieggioomoiaa
open Go.RowKit
/-- its cell turns: a row of the call's own -/
theorem IsBuf.own {M : List Nat} {w : World} {t p c n base : Nat} {A : Option Addr} {v : Value} {l' : List UInt8} (h : w.heap[p]? = some (.cells #[v] t (0, 0))) (hp : p ∈ M) (hb : Own w base (.slice A n c) l') (hM : ∀ k ∈ M, k < base) :
    IsBuf t M (w.setCell ⟨p, 0, none⟩ (.slice A n c)) p l' ∧ Kept [p] w (w.setCell ⟨p, 0, none⟩ (.slice A n c)) :=
  IsBuf.set h hp (BsM.own hb hM) hb.len hb.cap.1 hb.cap.2
theorem app_empty {w : World} {base : Nat} : base ≤ w.heap.size → Own (w.alloc (.cells #[] 5)) base (.slice (some ⟨w.heap.size, 0, none⟩) 0 0) [] := Own.empty w base
theorem RNew_any (w : World) : Calls Try.prog 30 #[] w fun e w' => e = .returned (pt w.heap.size) ∧ Ext w w' ∧ ∀ M, IsBuf 58 M w' w.heap.size [] := by
  go_enter Try.func30, Try.ntmps30
  go_wp2
  go_ret
  exact ⟨rfl, (Ext.refl w).alloc _, fun M => ⟨none, 0, heap_alloc_new w _, SlM.nil _ _ _, by simp, by omega⟩⟩
section
variable {M : List Nat} {p : Nat} {l : List UInt8}
set_option maxHeartbeats 1000000 in
theorem RTake_any (w : World) (h : IsBuf 58 M w p l) (hp : p ∈ M) (hM : ∀ k ∈ M, k < w.heap.size) (hll : l.length ≤ 16384) (N : Int) (n : Nat) (hN : N = n) (hn : n ≤ l.length) :
    Calls Try.prog 40 #[pt p, .int .i64 N] w fun e w' => ∃ A c, e = .returned (.slice A n c) ∧ Own w' w.heap.size (.slice A n c) (l.take n) ∧ Kept [p] w w' ∧ IsBuf 58 ((Value.slice A n c).ownBlock.toList ++ M) w' p (l.drop n) := by
  obtain ⟨A, c, hr, hb, hlc, hcm⟩ := h
  obtain ⟨C0, CF⟩ := row1_cell hr
  have c0 := C0 w (Ext.refl _)
  have hpl := hM p hp
  have hN0 : 0 ≤ N := by omega
  have hN1 : N ≤ 16384 := by omega
  obtain ⟨A1, r1, s1⟩ := cutB_h (P := Try.prog) Try.underlying25 Try.sizeOf5 A l.length c l n (hi := N) hN rfl hlc hn
  obtain ⟨A2, r2, s2⟩ := cutB_l (P := Try.prog) Try.underlying25 Try.sizeOf5 A l.length c l n (li := N) hN rfl hlc hn
  have b1 := s1 w hb.bs
  have B2 := Lib.hid (s2 w hb.bs)
  have hem := Own.empty w w.heap.size (Nat.le_refl _)
  have HR := Lib.hid hr
  have HM := Lib.hid hM
  have e1 : (l.take n).length = n := by simp; omega
  have e2 : (l.drop n).length = l.length - n := by simp
  have E1 := Lib.hid e1
  have E2 := Lib.hid e2
  have hxe := (Ext.refl w).alloc (.cells #[] 5)
  clear hr hb hN s1 s2 e1 e2 hM
  unfold pt
  go_enter Try.func40, Try.ntmps40
  go_wp2_with (at_builtin; refine unstop ?_)
  refine go_on (wpList_appB bytesTc hem (b1.ext hxe) rfl rfl rfl rfl E1.out.symm (by simp; omega) (by simp) ?_)
  intro v1 w1 ho1 hg1 hor1
  simp only [List.nil_append] at ho1
  have hx1 : Ext w w1 := Ext.own hxe hem (Nat.le_refl _) hg1
  have c1 := C0 w1 hx1
  have f1 := ho1.form
  rw [E1.out] at f1
  obtain ⟨B1, b1', rfl⟩ := f1
  have hem2 := Own.empty w1 w1.heap.size (Nat.le_refl _)
  have hxe2 := (Ext.refl w1).alloc (.cells #[] 5)
  clear hem hg1 hor1 hxe
  go_wp2_with (at_builtin; refine unstop ?_)
  refine go_on (wpList_appB bytesTc hem2 (B2.out.ext (hx1.trans hxe2)) rfl rfl rfl rfl E2.out.symm (by simp; omega) (by simp) ?_)
  intro v2 w2 ho2 hg2 hor2
  simp only [List.nil_append] at ho2
  have hx2 : Ext w1 w2 := Ext.own hxe2 hem2 (Nat.le_refl _) hg2
  have hx12 := hx1.trans hx2
  have c2 := C0 w2 hx12
  have cf := fun j => CF w2 j hx12
  have f2 := ho2.form
  rw [E2.out] at f2
  obtain ⟨D2, d2, rfl⟩ := f2
  have hset := IsBuf.own (M := (Value.slice B1 n b1').ownBlock.toList ++ M) (hx12.obj HR.out) (List.mem_append_right _ hp) ho2 (fun k hk => by
    rcases List.mem_append.1 hk with h1 | h1
    · exact (ho1.lt k (by simpa using h1)).2
    · exact Nat.lt_of_lt_of_le (HM.out k h1) hx1.size)
  have HSET := Lib.hid hset
  have HO := Lib.hid (own_set (ho1.ext hx2) hpl (.slice D2 (l.length - n) d2))
  have HK := Lib.hid ((Kept.of_ext (M := [p]) hx12).trans hset.2)
  clear hset C0 CF ho1 ho2 hem2 hxe2 hg2 hor2
  go_wp2
  go_ret
  exact ⟨B1, b1', rfl, HO.out, HK.out, HSET.out.1⟩
set_option maxHeartbeats 1000000 in
theorem RFeed_any (w : World) (h : IsBuf 58 M w p l) (hp : p ∈ M) (hM : ∀ k ∈ M, k < w.heap.size) (hll : l.length ≤ 16384) (A' : Option Addr) (c' : Nat) (q : List UInt8) (hq : Bs w A' q) (hql : q.length ≤ 140737488351232) :
    Calls Try.prog 31 #[pt p, .slice A' q.length c'] w fun e w' => e = .returned (.int .i64 (feedE l q)) ∧ Kept [p] w w' ∧ IsBuf 58 M w' p (feedL l q) := by
  have h' := h
  obtain ⟨A, c, hr, hb, hlc, hcm⟩ := h
  obtain ⟨C0, CF⟩ := row1_cell hr
  have c0 := C0 w (Ext.refl _)
  have hpl := hM p hp
  by_cases hbig : 16384 < l.length + q.length
  · have e1 : feedE l q = 8 := by unfold feedE; rw [if_pos hbig]
    have e2 : feedL l q = l := by unfold feedL; rw [if_pos hbig]
    rw [e1, e2]
    have ht : 16384 < (l.length : Int) + (q.length : Int) := by omega
    have H' := Lib.hid h'
    clear h' hr hb e1 e2
    unfold pt
    go_enter Try.func31, Try.ntmps31
    go_wp2
    go_ret
    exact ⟨rfl, Kept.refl _ _, H'.out⟩
  · have e1 : feedE l q = 0 := by unfold feedE; rw [if_neg hbig]
    have e2 : feedL l q = l ++ q := by unfold feedL; rw [if_neg hbig]
    rw [e1, e2]
    have ht : ¬ 16384 < (l.length : Int) + (q.length : Int) := by omega
    have hem := Own.empty w w.heap.size (Nat.le_refl _)
    have hxe := (Ext.refl w).alloc (.cells #[] 5)
    have hbb := hb.bs
    have HR := Lib.hid hr
    have HM := Lib.hid hM
    have HQ := Lib.hid hq
    clear h' hr hb e1 e2 hM hq
    unfold pt
    go_enter Try.func31, Try.ntmps31
    go_wp2_with (at_builtin; refine unstop ?_)
    refine go_on (wpList_appB bytesTc hem (hbb.ext hxe) rfl rfl rfl rfl rfl (by simp; omega) (by simp) ?_)
    intro v1 w1 ho1 hg1 hor1
    simp only [List.nil_append] at ho1
    have hx1 : Ext w w1 := Ext.own hxe hem (Nat.le_refl _) hg1
    clear hem hg1 hor1 hxe
    go_wp2_with (at_builtin; refine unstop ?_)
    refine go_on (wpList_appB bytesTc ho1 (HQ.out.ext hx1) rfl rfl rfl rfl rfl (by omega) hx1.size ?_)
    intro v2 w2 ho2 hg2 hor2
    have hx2 : Ext w w2 := Ext.own hx1 ho1 (Nat.le_refl _) hg2
    have c2 := C0 w2 hx2
    have cf := fun j => CF w2 j hx2
    have f2 := ho2.form
    rw [List.length_append] at f2
    obtain ⟨B2, b2, rfl⟩ := f2
    have hset := IsBuf.own (hx2.obj HR.out) hp ho2 HM.out
    have HSET := Lib.hid hset
    have HK := Lib.hid ((Kept.of_ext (M := [p]) hx2).trans hset.2)
    clear hset C0 CF ho1 ho2 hg2 hor2
    go_wp2
    go_ret
    exact ⟨rfl, HK.out, HSET.out.1⟩
theorem RFork_any (w : World) (h : IsBuf 58 M w p l) : Calls Try.prog 21 #[pt p] w fun e w' => e = .returned (pt w.heap.size) ∧ Ext w w' ∧ ∀ N, (∀ k ∈ N, k ∈ M ∨ w.heap.size ≤ k) → IsBuf 58 N w' w.heap.size l := by
  obtain ⟨A, c, hr, hb, hlc, hcm⟩ := h
  have c0 := (row1_cell hr).1 w (Ext.refl _)
  have HB := Lib.hid hb
  clear hr hb
  unfold pt
  go_enter Try.func21, Try.ntmps21
  go_wp2
  go_ret
  have hx := (Ext.refl w).alloc (.cells #[.slice A l.length c] 58)
  exact ⟨rfl, hx, fun N hN => ⟨A, c, heap_alloc_new w _, BsM.kept (SlM.old HB.out hN) (.of_ext hx), hlc, hcm⟩⟩
set_option maxHeartbeats 1000000 in
theorem RRaw_any (w : World) (h : IsBuf 58 M w p l) (hp : p ∈ M) (hM : ∀ k ∈ M, k < w.heap.size) (hll : l.length ≤ 16384) (n : Int) :
    Calls Try.prog 33 #[pt p, .int .i64 n] w fun e w' => ∃ A c, e = .returned (.tuple #[.slice A (rawS l n).length c, .int .i64 (rawE l n)]) ∧ Own w' w.heap.size (.slice A (rawS l n).length c) (rawS l n) ∧ Kept [p] w w' ∧ IsBuf 58 ((Value.slice A (rawS l n).length c).ownBlock.toList ++ M) w' p (rawL l n) := by
  have h' := h
  obtain ⟨A, c, hr, hb, hlc, hcm⟩ := h
  have c0 := (row1_cell hr).1 w (Ext.refl _)
  have HT := fun (m : Nat) h1 h2 => RTake_any w h' hp hM hll n m h1 h2
  have H' := Lib.hid h'
  clear h' hr hb hM
  unfold pt at *
  unfold rawS rawE rawL
  by_cases h0 : n < 0
  · rw [if_pos h0, if_pos h0, if_pos h0]
    clear HT
    go_enter Try.func33, Try.ntmps33
    go_wp2
    go_ret2
    first | exact ⟨none, 0, rfl, Own.nil _ _, Kept.refl _ _, H'.out⟩ | exact ⟨0, rfl, Own.nil _ _, Kept.refl _ _, H'.out⟩ | exact ⟨none, ⟨0, rfl⟩, Own.nil _ _, Kept.refl _ _, H'.out⟩
  · rw [if_neg h0, if_neg h0, if_neg h0]
    by_cases h1 : (l.length : Int) < n
    · rw [if_pos h1, if_pos h1, if_pos h1]
      clear HT
      go_enter Try.func33, Try.ntmps33
      go_wp2
      go_ret2
      first | exact ⟨none, 0, rfl, Own.nil _ _, Kept.refl _ _, H'.out⟩ | exact ⟨0, rfl, Own.nil _ _, Kept.refl _ _, H'.out⟩ | exact ⟨none, ⟨0, rfl⟩, Own.nil _ _, Kept.refl _ _, H'.out⟩
    · rw [if_neg h1, if_neg h1, if_neg h1]
      have HT := HT n.toNat (by omega) (by omega)
      have hlen : (l.take n.toNat).length = n.toNat := by simp; omega
      rw [hlen]
      generalize n.toNat = m at *
      clear hlen
      go_enter Try.func33, Try.ntmps33
      go_wp2_with fail
      refine HT.mono ?_
      rintro e w1 ⟨B, b, rfl, ho, hk, h3⟩
      have H3 := Lib.hid h3
      have HO := Lib.hid ho
      clear h3 ho HT
      go_wp2
      go_ret2
      exact ⟨B, b, rfl, HO.out, hk, H3.out⟩
set_option maxHeartbeats 2000000 in
theorem RLine_any (w : World) (h : IsBuf 58 M w p l) (hp : p ∈ M) (hM : ∀ k ∈ M, k < w.heap.size) (hll : l.length ≤ 16384) :
    Calls Try.prog 32 #[pt p] w fun e w' => e = .returned (.tuple #[.string (st (lineS l)), .int .i64 (lineE l)]) ∧ Kept [p] w w' ∧ IsBuf 58 M w' p (lineL l) := by
  have h' := h
  obtain ⟨A, c, hr, hb, hlc, hcm⟩ := h
  have c0 := (row1_cell hr).1 w (Ext.refl _)
  have HE := fun (k : Nat) (hk : k ≤ 140737488355328) => REnds_any A l.length c l k w hb.bs rfl hk
  have HT := fun N (n : Nat) h1 h2 => RTake_any w h' hp hM hll N n h1 h2
  have H' := Lib.hid h'
  clear h' hr hb hM
  unfold pt at *
  go_enter Try.func32, Try.ntmps32
  go_wp2
  go_loop [4] (fun i => ∃ k : Nat, i = .int .i64 k ∧ k ≤ l.length ∧ ∀ j, j < k → endsB l j = false) (fun i => l.length - (intOf i).toNat)
  case atStart => exact ⟨0, rfl, by omega, fun j hj => by omega⟩
  case round =>
    obtain ⟨k, rfl, hk, hno⟩ := hrel
    have HNO := Lib.hid hno
    clear hno
    by_cases hlt : k < l.length
    · have hlt1 : (k : Int) < (l.length : Int) := by omega
      have HEk := HE k (by omega)
      cases he : endsB l k with
      | false =>
        rw [he] at HEk
        have HF := Lib.hid he
        clear he HE HT
        go_wp2_with fail
        refine HEk.mono ?_
        rintro e w1 ⟨rfl, hw1⟩
        have hw2 := hw1.symm
        subst hw2
        go_wp2
        go_round
        case rel => exact ⟨k + 1, by go_num, by omega, fun j hj => by
          rcases Nat.lt_or_ge j k with h1 | h1
          · exact HNO.out j h1
          · rw [show j = k by omega]; exact HF.out⟩
        case measure => simp [intOf]; omega
      | true =>
        rw [he] at HEk
        have hf : fnd l = some k := fnd_some.2 ⟨he, HNO.out⟩
        have hk2 := fnd_lt hf
        have HTT := HT ((k : Int) + 2) (k + 2) (by omega) (by omega)
        by_cases hbig : 1024 < k
        · have e2 : lineS l = [] := by unfold lineS; rw [hf]; simp only; rw [if_pos hbig]
          have e3 : lineE l = 6 := by unfold lineE; rw [hf]; simp only; rw [if_pos hbig]
          have e4 : lineL l = l.drop (k + 2) := by unfold lineL; rw [hf]
          have E2 := Lib.hid e2
          have E3 := Lib.hid e3
          have E4 := Lib.hid e4
          have hbi : (1024 : Int) < (k : Int) := by omega
          clear HE HT e2 e3 e4 hf hbig he
          go_wp2_with fail
          refine HEk.mono ?_
          rintro e w1 ⟨rfl, hw1⟩
          have hw2 := hw1.symm
          subst hw2
          go_wp2_with fail
          refine HTT.mono ?_
          rintro e w3 ⟨B, b, rfl, ho, hk3, h3⟩
          have h3 := h3.old (N := M) (fun k hk => .inl (List.mem_append_right _ hk))
          have H3 := Lib.hid h3
          clear h3 ho HTT HEk
          go_wp2
          go_ret2
          rw [E2.out, E3.out, E4.out]
          exact ⟨rfl, hk3, H3.out⟩
        · have e2 : lineS l = l.take k := by unfold lineS; rw [hf]; simp only; rw [if_neg hbig]
          have e3 : lineE l = 0 := by unfold lineE; rw [hf]; simp only; rw [if_neg hbig]
          have e4 : lineL l = l.drop (k + 2) := by unfold lineL; rw [hf]
          have E2 := Lib.hid e2
          have E3 := Lib.hid e3
          have E4 := Lib.hid e4
          have hbi : ¬ (1024 : Int) < (k : Int) := by omega
          clear HE HT e2 e3 e4 hf hbig he
          go_wp2_with fail
          refine HEk.mono ?_
          rintro e w1 ⟨rfl, hw1⟩
          have hw2 := hw1.symm
          subst hw2
          go_wp2_with fail
          refine HTT.mono ?_
          rintro e w3 ⟨B, b, rfl, ho, hk3, h3⟩
          have h3 := h3.old (N := M) (fun k hk => .inl (List.mem_append_right _ hk))
          obtain ⟨A3, r3, s3⟩ := cutB_h (P := Try.prog) Try.underlying25 Try.sizeOf5 B (k + 2) b (l.take (k + 2)) k (hi := (k : Int)) rfl (by simp; omega) (by have := ho.cap; have := ho.len; omega) (by omega)
          have hb3 := s3 w3 ho.bs
          rw [List.take_take, show min k (k + 2) = k by omega] at hb3
          have hcv := run_str (P := Try.prog) Try.underlying25 Try.underlying5 Try.underlying9 hb3 k b (by simp; omega)
          have H3 := Lib.hid h3
          clear h3 ho HTT HEk s3 hb3
          go_wp2
          go_ret2
          rw [E2.out, E3.out, E4.out]
          exact ⟨rfl, hk3, H3.out⟩
    · have hlt1 : ¬ (k : Int) < (l.length : Int) := by omega
      have hf : fnd l = none := fnd_none.2 fun j => by
        rcases Nat.lt_or_ge j k with h1 | h1
        · exact HNO.out j h1
        · cases he : endsB l j with
          | false => rfl
          | true => have := ends_lt he; omega
      have e2 : lineS l = [] := by unfold lineS; rw [hf]
      have e3 : lineE l = 3 := by unfold lineE; rw [hf]
      have e4 : lineL l = l := by unfold lineL; rw [hf]
      have E2 := Lib.hid e2
      have E3 := Lib.hid e3
      have E4 := Lib.hid e4
      clear HE HT e2 e3 e4 hf
      go_wp2
      go_ret2
      rw [E2.out, E3.out, E4.out]
      exact ⟨rfl, Kept.refl _ _, H'.out⟩
end
end Go.Proofs.Ytlfieggioomoiaa
