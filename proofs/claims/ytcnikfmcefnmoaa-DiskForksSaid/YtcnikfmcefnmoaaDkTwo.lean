/- The disk and the reference's disk, side by side. Each holds for every program and world; the conditions are the hypotheses of each theorem. -/
import Derived.Test.YtcnikfmcefnmoaaRDk5
import Derived.Test.YtcnikfmcefnmoaaDk10
import Derived.Laws.BitsAllLaws
import Derived.Test.YtcnikfmcefnmoaaChecked
namespace Go.Proofs.Ytcnikfmcefnmoaa
open Go.RowKit
section
variable {M : List Nat} {w w' : World} {q : Nat} {s : Dk}
theorem Rf.kept {N : List Nat} (h : Rf M w q s) (k : Kept N w w') (hq : q ∉ N) (hs : ∀ k ∈ N, k ∈ M) : Rf M w' q s := by
  obtain ⟨A1, c1, A2, c2, h⟩ := h
  exact ⟨A1, c1, A2, c2, h.kept k hq hs⟩
theorem Rf.ext (h : Rf M w q s) (k : Ext w w') : Rf M w' q s := h.kept (N := []) (.of_ext k) (by simp) (by simp)
theorem Rf.old {N : List Nat} (h : Rf M w q s) (hs : ∀ k ∈ N, k ∈ M ∨ w.heap.size ≤ k) : Rf N w q s := by
  obtain ⟨A1, c1, A2, c2, h⟩ := h
  exact ⟨A1, c1, A2, c2, h.old hs⟩
theorem Rf.lt (h : Rf M w q s) : q < w.heap.size := by
  obtain ⟨A1, c1, A2, c2, h⟩ := h
  exact h.lt
theorem Disk.kept {B N : List Nat} {p : Nat} (h : Disk B w p s) (hx : Kept N w w') (hM : ∀ k ∈ B, k ∉ N) : Disk B w' p s := by
  obtain ⟨g, cap, v, h⟩ := h
  exact ⟨g, cap, v, h.kept hx hM⟩
theorem Disk.mem {B : List Nat} {p : Nat} (h : Disk B w p s) : p ∈ B := by
  obtain ⟨g, cap, v, h⟩ := h
  exact h.pB
theorem RWrite_all (w : World) (h : Rf M w q s) (hq : q ∈ M) (hM : ∀ k ∈ M, k < w.heap.size) (hcut : s.cut ≤ 9223372036854775807) (hm : s.waits.length ≤ 1000000) (i : Int) (A : Option Addr) (c : Nat) (l : List UInt8) (hb : BsM M w A l) :
    Calls Try.prog 29 #[pt q, .int .i64 i, .slice A l.length c] w fun e w' => e = .returned (.int .i64 (writeE s i l)) ∧ Kept [q] w w' ∧ Rf M w' q (writeS s i l) := by
  obtain ⟨A1, c1, A2, c2, h⟩ := h
  by_cases hn : wrongE s i true ≠ 0 ∨ 64 < l.length
  · have e : writeS s i l = s := by
      unfold writeS
      by_cases h1 : wrongE s i true ≠ 0
      · rw [if_pos h1]
      · rw [if_neg h1, if_pos (by rcases hn with h | h; exact absurd h h1; exact h)]
    rw [e]
    exact (RWrite_no w h i A c l hn).mono fun e w' ⟨he, hx⟩ => ⟨he, .of_ext hx, A1, c1, A2, c2, h.ext hx⟩
  · rw [not_or] at hn
    have h0 := Decidable.not_not.1 hn.1
    obtain ⟨_, h4, h5⟩ := wrong_in h0
    obtain ⟨k, rfl⟩ : ∃ k : Nat, i = k := ⟨i.toNat, by omega⟩
    exact RWrite_ok w h hq hM hcut hm k A c l h0 (by omega) hb
theorem RFlush_all (w : World) (h : Rf M w q s) (hq : q ∈ M) (hM : ∀ k ∈ M, k < w.heap.size) (hs : s.Ok) (hcut : s.cut ≤ 9223372036854775807) (hm : s.waits.length ≤ 1000000) :
    Calls Try.prog 30 #[pt q] w fun e w' => e = .returned (.int .i64 (flushE s)) ∧ Kept [q] w w' ∧ Rf M w' q (flushS s) := by
  obtain ⟨A1, c1, A2, c2, h⟩ := h
  exact RFlush_any w h hq hM hs hcut hm
theorem RCut_all (w : World) (h : Rf M w q s) (hq : q ∈ M) (n : Int) : Calls Try.prog 32 #[pt q, .int .i64 n] w fun e w' => e = .returned (.int .i64 (cutE s n)) ∧ Kept [q] w w' ∧ Rf M w' q (cutS s n) := by
  obtain ⟨A1, c1, A2, c2, h⟩ := h
  exact (RCut_any w h hq n).mono fun e w' ⟨he, hk, hr⟩ => ⟨he, hk, A1, c1, A2, c2, hr⟩
theorem RCrash_all (w : World) (h : Rf M w q s) (hq : q ∈ M) (hM : ∀ k ∈ M, k < w.heap.size) (hs : s.Ok) (hm : s.waits.length ≤ 1000000) (ha : s.age ≤ 1000000) (C : Cr) (KA : Option Addr) (kc : Nat) (hK : SlM M w KA (bo C.keep)) :
    Calls Try.prog 33 #[pt q, .agg #[.slice KA C.keep.length kc, .int .i64 C.torn, .int .i64 C.at_]] w fun e w' => e = .returned (.int .i64 0) ∧ Kept [q] w w' ∧ Rf M w' q (crashed s C) := by
  obtain ⟨A1, c1, A2, c2, h⟩ := h
  exact RCrash_any w h hq hM hs hm ha C KA kc hK
theorem RSure_all (w : World) (h : Rf M w q s) (i : Int) :
    Calls Try.prog 34 #[pt q, .int .i64 i] w fun e w' => ∃ A c, e = .returned (.tuple #[.slice A (sureL s i).length c, .int .i64 (wrongE s i false)]) ∧ Bs w' A (sureL s i) ∧ Ext w w' ∧ (sureL s i).length ≤ c := by
  obtain ⟨A1, c1, A2, c2, h⟩ := h
  exact RSure_any w h i
theorem RRead_all (w : World) (h : Rf M w q s) (hm : s.waits.length ≤ 1000000) (i : Int) :
    Calls Try.prog 31 #[pt q, .int .i64 i] w fun e w' => ∃ A c, e = .returned (.tuple #[.slice A (readL s i).length c, .int .i64 (wrongE s i true)]) ∧ Bs w' A (readL s i) ∧ Ext w w' ∧ (readL s i).length ≤ c := by
  obtain ⟨A1, c1, A2, c2, h⟩ := h
  exact RRead_any w h hm i
end
theorem Turn.cons {B B' : List Nat} {w w' : World} (q : Nat) (h : Turn B w B' w') : Turn (q :: B) w (q :: B') w' :=
  ⟨h.kept.mono fun k hk => List.mem_cons_of_mem _ hk, fun k hk => by
    rcases List.mem_cons.1 hk with rfl | hk
    · exact List.mem_cons_self ..
    · exact List.mem_cons_of_mem _ (h.sub k hk), fun k hk => by
    rcases List.mem_cons.1 hk with rfl | hk
    · exact .inl (List.mem_cons_self ..)
    · rcases h.new k hk with h1 | h1
      · exact .inl (List.mem_cons_of_mem _ h1)
      · exact .inr h1⟩
/-- a disk at p in the blocks of B, the reference's disk at q: both are s, on which at most n deeds were done -/
structure Two (B : List Nat) (w : World) (p q : Nat) (s : Dk) (n : Nat) : Prop where
  disk : Disk B w p s
  ref : Rf (q :: B) w q s
  ne : q ∉ B
  ok : s.Ok
  few : s.Few n
section
variable {B B' : List Nat} {w w' w1 w2 : World} {p q n : Nat} {s s' : Dk}
theorem Two.lt (h : Two B w p q s n) : ∀ k ∈ q :: B, k < w.heap.size := fun k hk => by
  rcases List.mem_cons.1 hk with rfl | hk
  · exact h.ref.lt
  · exact h.disk.lt k hk
theorem Two.ext (h : Two B w p q s n) (hx : Ext w w') : Two B w' p q s n := ⟨h.disk.ext hx, h.ref.ext hx, h.ne, h.ok, h.few⟩
theorem Two.kept {N : List Nat} (h : Two B w p q s n) (hx : Kept N w w') (hold : ∀ k ∈ N, w.heap.size ≤ k) : Two B w' p q s n := h.ext (hx.to_ext hold)
/-- the disk's call is done: what is there for the reference's -/
theorem Two.half (h : Two B w p q s n) (ht : Turn B w B' w1) : Rf (q :: B') w1 q s ∧ q ∉ B' ∧ Kept (q :: B) w w1 :=
  ⟨(h.ref.old (ht.cons q).new).kept ht.kept h.ne (fun k hk => List.mem_cons_of_mem _ (ht.sub k hk)), fun hm => by
    rcases ht.new q hm with h1 | h1
    · exact h.ne h1
    · have := h.ref.lt
      omega, ht.kept.mono fun k hk => List.mem_cons_of_mem _ hk⟩
/-- both calls are done -/
theorem Two.full (h : Two B w p q s n) {m : Nat} (ht : Turn B w B' w1) (hd : Disk B' w1 p s') (hk : Kept [q] w1 w2) (hr : Rf (q :: B') w2 q s') (hok : s'.Ok) (hf : s'.Few m) : Two B' w2 p q s' m ∧ Turn (q :: B) w (q :: B') w2 := by
  have hq := (h.half ht).2.1
  refine ⟨⟨hd.kept hk fun k hkB hm => ?_, hr, hq, hok, hf⟩, (ht.cons q).trans (.of_kept (hk.mono fun k hk => by simp at hk; subst hk; exact List.mem_cons_self ..))⟩
  simp at hm
  subst hm
  exact hq hkB
theorem Two.other {gl : List Nat} (h : Two B w p q s n) (hr : Rf (q :: (gl ++ B)) w q s) (hk : Kept gl w w') (hN : ∀ k ∈ gl, k ∉ q :: B) : Two B w' p q s n ∧ Rf (q :: (gl ++ B)) w' q s := by
  have h2 : Rf (q :: (gl ++ B)) w' q s := hr.kept hk (fun hm => hN q hm (List.mem_cons_self ..)) (fun k hk => List.mem_cons_of_mem _ (List.mem_append_left _ hk))
  refine ⟨⟨h.disk.kept hk fun k hk hm => hN k hm (List.mem_cons_of_mem _ hk), h2.old fun k hk => .inl ?_, h.ne, h.ok, h.few⟩, h2⟩
  rcases List.mem_cons.1 hk with rfl | hk
  · exact List.mem_cons_self ..
  · exact List.mem_cons_of_mem _ (List.mem_append_right _ hk)
theorem Turn.later {N : List Nat} (h : Turn B w B' w1) (hk : Kept N w1 w2) (hN : ∀ k ∈ N, w.heap.size ≤ k) : Turn B w B' w2 :=
  ⟨((h.kept.mono (N := B ++ N) fun _ hk => List.mem_append_left _ hk).trans (hk.mono fun _ hk => List.mem_append_right _ hk)).less fun k hk hlt => by
    rcases List.mem_append.1 hk with h1 | h1
    · exact h1
    · have := hN k h1
      omega, h.sub, h.new⟩
theorem Two.lt2 (h : Two B w p q s n) (ht : Turn B w B' w1) (hd : Disk B' w1 p s') : ∀ k ∈ q :: B', k < w1.heap.size := fun k hk => by
  rcases List.mem_cons.1 hk with rfl | hk
  · exact (h.half ht).1.lt
  · exact hd.lt k hk
theorem Two.rwrite (h : Two B w p q s n) (hn : n ≤ 100000) (ht : Turn B w B' w1) (i : Int) (l : List UInt8) (hd : Disk B' w1 p (writeS s i l)) (A : Option Addr) (c : Nat) (hb : BsM (q :: B) w A l) :
    Calls Try.prog 29 #[.pointer (some ⟨q, 0, none⟩), .int .i64 i, .slice A l.length c] w1 fun e w2 => e = .returned (.int .i64 (writeE s i l)) ∧ Two B' w2 p q (writeS s i l) (n + 1) ∧ Turn (q :: B) w (q :: B') w2 :=
  (RWrite_all w1 (h.half ht).1 (List.mem_cons_self ..) (h.lt2 ht hd) h.few.cut (by have := h.few.waits; omega) i A c l (Turn.bs hb (ht.cons q))).mono fun _ _ ⟨he, hk, hr⟩ => ⟨he, h.full ht hd hk hr (writeS_ok h.ok i l) (writeS_few h.few i l)⟩
/-- the same, while the rows of gl are other ones -/
theorem Two.rwriteN {gl : List Nat} (h : Two B w p q s n) (hn : n ≤ 100000) (hr0 : Rf (q :: (gl ++ B)) w q s) (hgl : ∀ k ∈ gl, k < w.heap.size) (ht : Turn B w B' w1) (i : Int) (l : List UInt8) (hd : Disk B' w1 p (writeS s i l)) (A : Option Addr) (c : Nat) (hb : BsM (q :: (gl ++ B)) w A l) :
    Calls Try.prog 29 #[.pointer (some ⟨q, 0, none⟩), .int .i64 i, .slice A l.length c] w1 fun e w2 => e = .returned (.int .i64 (writeE s i l)) ∧ Two B' w2 p q (writeS s i l) (n + 1) ∧ Turn (q :: B) w (q :: B') w2 ∧ Rf (q :: (gl ++ B')) w2 q (writeS s i l) := by
  have hnew : ∀ k ∈ q :: (gl ++ B'), k ∈ q :: (gl ++ B) ∨ w.heap.size ≤ k := fun k hk => by
    rcases List.mem_cons.1 hk with rfl | hk
    · exact .inl (List.mem_cons_self ..)
    · rcases List.mem_append.1 hk with hk | hk
      · exact .inl (List.mem_cons_of_mem _ (List.mem_append_left _ hk))
      · rcases ht.new k hk with h1 | h1
        · exact .inl (List.mem_cons_of_mem _ (List.mem_append_right _ h1))
        · exact .inr h1
  have hsub : ∀ k ∈ B, k ∈ q :: (gl ++ B') := fun k hk => List.mem_cons_of_mem _ (List.mem_append_right _ (ht.sub k hk))
  have hr1 : Rf (q :: (gl ++ B')) w1 q s := (hr0.old hnew).kept ht.kept h.ne hsub
  have hlt : ∀ k ∈ q :: (gl ++ B'), k < w1.heap.size := fun k hk => by
    rcases List.mem_cons.1 hk with rfl | hk
    · exact hr1.lt
    · rcases List.mem_append.1 hk with hk | hk
      · exact Nat.lt_of_lt_of_le (hgl k hk) ht.kept.size
      · exact hd.lt k hk
  refine (RWrite_all w1 hr1 (List.mem_cons_self ..) hlt h.few.cut (by have := h.few.waits; omega) i A c l (SlM.kept (SlM.old hb hnew) (ht.kept.mono hsub))).mono fun _ w2 ⟨he, hk, hr⟩ => ?_
  have hr2 : Rf (q :: B') w2 q (writeS s i l) := hr.old fun k hk => .inl (by
    rcases List.mem_cons.1 hk with rfl | hk
    · exact List.mem_cons_self ..
    · exact List.mem_cons_of_mem _ (List.mem_append_right _ hk))
  obtain ⟨h1, h2⟩ := h.full ht hd hk hr2 (writeS_ok h.ok i l) (writeS_few h.few i l)
  exact ⟨he, h1, h2, hr⟩
theorem Two.rflush (h : Two B w p q s n) (hn : n ≤ 100000) (ht : Turn B w B' w1) (hd : Disk B' w1 p (flushS s)) :
    Calls Try.prog 30 #[.pointer (some ⟨q, 0, none⟩)] w1 fun e w2 => e = .returned (.int .i64 (flushE s)) ∧ Two B' w2 p q (flushS s) (n + 1) ∧ Turn (q :: B) w (q :: B') w2 :=
  (RFlush_all w1 (h.half ht).1 (List.mem_cons_self ..) (h.lt2 ht hd) h.ok h.few.cut (by have := h.few.waits; omega)).mono fun _ _ ⟨he, hk, hr⟩ => ⟨he, h.full ht hd hk hr (flushS_ok h.ok) (flushS_few h.few)⟩
theorem Two.rcut (h : Two B w p q s n) (ht : Turn B w B' w1) (i : Int) (hi : i ≤ 9223372036854775807) (hd : Disk B' w1 p (cutS s i)) :
    Calls Try.prog 32 #[.pointer (some ⟨q, 0, none⟩), .int .i64 i] w1 fun e w2 => e = .returned (.int .i64 (cutE s i)) ∧ Two B' w2 p q (cutS s i) (n + 1) ∧ Turn (q :: B) w (q :: B') w2 :=
  (RCut_all w1 (h.half ht).1 (List.mem_cons_self ..) i).mono fun _ _ ⟨he, hk, hr⟩ => ⟨he, h.full ht hd hk hr (cutS_ok h.ok i) (cutS_few h.few hi)⟩
theorem Two.rcrash (h : Two B w p q s n) (hn : n ≤ 100000) (ht : Turn B w B' w1) (C : Cr) (hd : Disk B' w1 p (crashed s C)) (KA : Option Addr) (kc : Nat) (hK : SlM (q :: B) w KA (bo C.keep)) :
    Calls Try.prog 33 #[.pointer (some ⟨q, 0, none⟩), .agg #[.slice KA C.keep.length kc, .int .i64 C.torn, .int .i64 C.at_]] w1 fun e w2 => e = .returned (.int .i64 0) ∧ Two B' w2 p q (crashed s C) (n + 1) ∧ Turn (q :: B) w (q :: B') w2 :=
  (RCrash_all w1 (h.half ht).1 (List.mem_cons_self ..) (h.lt2 ht hd) h.ok (by have := h.few.waits; omega) (by have := h.few.age; omega) C KA kc (Turn.sl hK (ht.cons q))).mono fun _ _ ⟨he, hk, hr⟩ => ⟨he, h.full ht hd hk hr (crashed_ok h.ok C) (crashed_few h.few C)⟩
theorem Down_same (w : World) (h : Disk B w p s) : Calls Try.prog 16 #[.pointer (some ⟨p, 0, none⟩)] w fun e w' => e = .returned (.bool s.down) ∧ w' = w := by
  obtain ⟨g, cap, v, h⟩ := h
  have c2 := h.cells.2.2.1 w (Ext.refl w)
  clear h
  go_enter Try.func16, Try.ntmps16
  go_wp2
  go_ret
  exact ⟨rfl, rfl⟩
theorem Age_same (w : World) (h : Disk B w p s) : Calls Try.prog 23 #[.pointer (some ⟨p, 0, none⟩)] w fun e w' => e = .returned (.int .i64 s.age) ∧ w' = w := by
  obtain ⟨g, cap, v, h⟩ := h
  have c2 := h.cells.2.2.2.2.1 w (Ext.refl w)
  clear h
  go_enter Try.func23, Try.ntmps23
  go_wp2
  go_ret
  exact ⟨rfl, rfl⟩
theorem Waits_same (w : World) (h : Disk B w p s) : Calls Try.prog 17 #[.pointer (some ⟨p, 0, none⟩)] w fun e w' => e = .returned (.int .i64 s.waits.length) ∧ w' = w := by
  obtain ⟨g, cap, v, h⟩ := h
  have c2 := h.cells.2.1 w (Ext.refl w)
  obtain ⟨A, c, rfl⟩ := own_form h.own2
  clear h
  go_enter Try.func17, Try.ntmps17
  go_wp2
  go_ret
  exact ⟨rfl, rfl⟩
end
theorem bytesT0 : ElemOf Try.prog 22 5 1 1 := ElemOf.mk' (z := .int .u8 0) Try.underlying22 (by kernel_rfl) rfl (by omega)
theorem own_keptN {N : List Nat} {w w' : World} {base : Nat} {v : Value} {l : List UInt8} (h : Own w base v l) (hk : Kept N w w') (hn : ∀ k, v.ownBlock = some k → k ∉ N) : Own w' base v l := by
  refine ⟨h.1, ?_⟩
  rcases h.2 with h0 | ⟨g, cap, cur, h1, h2, h3, h4⟩
  · exact .inl h0
  · exact .inr ⟨g, cap, cur, h1, h2, hk.heap h3 (hn g (by rw [h1]; rfl)), h4⟩
/-- what do answers, and leaves -/
def Did (B : List Nat) (w : World) (p q n : Nat) (e : Ending) (w' : World) : Prop := e = .returned (.bool true) ∧ ∃ B' s', Two B' w' p q s' n ∧ Turn (q :: B) w (q :: B') w'
theorem xor_one (x : UInt8) : ∃ y : UInt8, bits .xor .u8 (x.toNat : Int) 1 = (y.toNat : Int) := by
  have h1 := x.toNat_lt
  have h2 : x.toNat ^^^ 1 < 256 := Nat.xor_lt_two_pow (n := 8) (by omega) (by omega)
  refine ⟨UInt8.ofNat (x.toNat ^^^ 1), ?_⟩
  rw [show (1 : Int) = ((1 : Nat) : Int) from rfl, u8_xor_nat _ _ (by omega) (by omega), UInt8.toNat_ofNat']
  omega
end Go.Proofs.Ytcnikfmcefnmoaa
