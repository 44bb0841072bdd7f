/- The walks of the law's do: a call on the bag and on the reference's bag. Conditions: those of IsBag, IsRB, St; both bags are older than the call. -/
import Derived.Test.YtbanjhfmddhndaaRBag6
import Derived.Test.YtbanjhfmddhndaaBag13
import Derived.Laws.BitsAllLaws
namespace Go.Proofs.Ytbanjhfmddhndaa
open Go.RowKit
attribute [local go_sem] pt uv
def cv (c : C) (A : Option Addr) (cap : Nat) : Value := .agg #[.int .i64 c.do_, .int .i64 c.u.from_, .int .i64 c.u.to_, .slice A c.u.by_.length cap, .int .i64 c.i, .bool c.keep]
def cl (c : C) (A : Option Addr) (cap : Nat) : Array Value := #[.int .i64 c.do_, .int .i64 c.u.from_, .int .i64 c.u.to_, .slice A c.u.by_.length cap, .int .i64 c.i, .bool c.keep]
/-- both bags, side by side, in blocks of M -/
structure Two (M : List Nat) (w : World) (p q n : Nat) (b : Bg) (r : Rg) : Prop where
  bag : IsBag M w p b
  ref : IsRB M w q r
  p : p ∈ M
  q : q ∈ M
  lt : ∀ k ∈ M, k < w.heap.size
  st : St n b r
theorem Two.ne {M : List Nat} {w : World} {p q n : Nat} {b : Bg} {r : Rg} (h : Two M w p q n b r) : p ≠ q := by
  obtain ⟨A, c, h1, _⟩ := h.bag
  obtain ⟨A', c', T, ct, h2, _⟩ := h.ref
  rintro rfl
  rw [h1] at h2
  injection h2 with h2
  injection h2 with _ h3
  exact absurd h3 (by decide)
theorem Two.ext {M : List Nat} {w w' : World} {p q n : Nat} {b : Bg} {r : Rg} (h : Two M w p q n b r) (hx : Ext w w') : Two M w' p q n b r :=
  ⟨h.bag.ext hx, h.ref.ext hx, h.p, h.q, fun k hk => by have := h.lt k hk; have := hx.size; omega, h.st⟩
/-- a world behind: other blocks have turned, of N -/
theorem Two.kept {M N : List Nat} {w w' : World} {p q n : Nat} {b : Bg} {r : Rg} (h : Two M w p q n b r) (hk : Kept N w w') (hp : p ∉ N) (hq : q ∉ N) (hs : ∀ k ∈ N, k ∈ M) : Two M w' p q n b r :=
  ⟨h.bag.kept hk hp hs, h.ref.kept hk hq hs, h.p, h.q, fun k hk' => by have := h.lt k hk'; have := hk.size; omega, h.st⟩
theorem Two.old {M N : List Nat} {w : World} {p q n : Nat} {b : Bg} {r : Rg} (h : Two M w p q n b r) (hs : ∀ k ∈ N, k ∈ M ∨ w.heap.size ≤ k) (hp : p ∈ N) (hq : q ∈ N) (hl : ∀ k ∈ N, k < w.heap.size) : Two N w p q n b r :=
  ⟨h.bag.old hs, h.ref.old hs, hp, hq, hl, h.st⟩
theorem kcell {N : List Nat} {w : World} {a : Addr} {v : Value} (h : w.cell? a = some v) (hn : a.block ∉ N) : ∀ w', Kept N w w' → w'.cell? a = some v := fun _ k => k.cell h hn
/-- what do answers, and leaves -/
def Did (M : List Nat) (w : World) (p q n : Nat) (e : Ending) (w' : World) : Prop := e = .returned (.bool true) ∧ Kept [p, q] w w' ∧ ∃ b' r', Two M w' p q n b' r'
set_option maxHeartbeats 2000000 in
set_option maxRecDepth 100000 in
theorem do_lose (p q n : Nat) (c : C) (A : Option Addr) (cap : Nat) (b : Bg) (r : Rg) (M : List Nat) (w : World) (h : Two M w p q n b r) (hn : n ≤ 1000) (hi : c.i ≤ 9223372036854775807) (hd : c.do_ = 2) :
    Calls Try.prog 19 #[pt p, pt q, cv c A cap] w (Did M w p q (n + 1)) := by
  obtain ⟨w0, hw0⟩ : ∃ w0, w0 = w.alloc (.cells (cl c A cap) 34) := ⟨_, rfl⟩
  have hx0 : Ext w w0 := hw0 ▸ (Ext.refl w).alloc _
  have hrow0 : w0.heap[w.heap.size]? = some (.cells #[.int .i64 c.do_, .int .i64 c.u.from_, .int .i64 c.u.to_, .slice A c.u.by_.length cap, .int .i64 c.i, .bool c.keep] 34 (0, 0)) := hw0 ▸ heap_alloc_new w _
  have hne := h.ne
  have hplt := h.lt p h.p
  have hqlt := h.lt q h.q
  obtain ⟨k0, k1, k2, k3, k4, k5, kf⟩ := row6_at hrow0
  have hg5 : w.heap.size ∉ [p, q] := by simp; omega
  have e0 : (c.do_ == 0) = false := by rw [hd]; rfl
  have e1 : (c.do_ == 1) = false := by rw [hd]; rfl
  have e2 : (c.do_ == 2) = true := by rw [hd]; rfl
  have K4 := kcell k4 hg5
  have h' := h.ext hx0
  have H1 := fun W (hx : Ext w0 W) => Lose_any p c.i b M W (h'.bag.ext hx) (h'.ext hx).lt h.p (h.st.small (by omega))
  have H2 := fun W (hx : Kept [p] w0 W) => RLose_any q c.i r M W (h'.ref.kept hx (by simpa using hne.symm) (by simpa using h.p)) (fun k hk => by have := h'.lt k hk; have := hx.size; omega) h.q h.st (by omega) hi
  have HH := Lib.hid h'
  unfold pt at H1 H2
  generalize takeE b c.i = te at *
  generalize loseB b c.i = b1 at *
  clear h h' hd k1 k2 k3 k5 hrow0
  unfold pt cv
  unfold cl at hw0
  go_enter Try.func19, Try.ntmps19
  go_wp2_with fail
  rw [← hw0]
  have HW0 := Lib.hid hw0
  clear hw0
  go_region_held3 (fun w' => Kept [p, q] w0 w') (first | exact (Kept.refl _ _).drew | assumption) ((first
    | (go_at_call 12; refine (H1 _ (Ext.refl _).drew).mono ?_; rintro e w1 ⟨rfl, hk1, hb1⟩; have hk1p : Kept [p] w0 w1 := (Kept.of_ext (Ext.refl _).drew).trans hk1; have hk1' : Kept [p, q] w0 w1 := hk1p.mono (by simp))
    | (go_at_call 30; refine (H2 _ hk1p).mono ?_; rintro e w2 ⟨rfl, hk2, r1, hr1, hst⟩; have hk2' : Kept [p, q] w0 w2 := hk1'.trans (hk2.mono (by simp)))))
  have hpM := HH.out.p
  have hqM := HH.out.q
  have ht : Two M w2 p q (n + 1) b1 r1 := ⟨hb1.kept hk2 (by simpa using hne) (by simpa using hqM), hr1, hpM, hqM, fun k hk => by have := HH.out.lt k hk; have := hk2'.size; omega, hst⟩
  have hkz : Kept [p, q] w w2 := (Kept.of_ext hx0).trans hk2'
  clear hb1 hr1 hst hk1 hk2 hk1p hk1' H1 H2 K4
  have hL : ∀ W, Ext w2 W → Calls Try.prog 15 #[.pointer (some ⟨p, 0, none⟩)] W fun e w' => e = .returned (.int .i64 ((b1).l.length : Nat)) ∧ w' = W := fun W hx => Len_same p _ M W (ht.bag.ext hx)
  have hRL : ∀ W, Ext w2 W → Calls Try.prog 20 #[.pointer (some ⟨q, 0, none⟩)] W fun e w' => e = .returned (.int .i64 ((b1).l.length : Nat)) ∧ w' = W := fun W hx => (RLen_any q _ M W (ht.ref.ext hx) (by have := ht.st.len; have := ht.st.all; omega)).mono fun e w' ⟨h1, h2⟩ => ⟨by rw [h1, ht.st.cnt], h2.symm⟩
  have hLo : ∀ W, Ext w2 W → Calls Try.prog 16 #[.pointer (some ⟨p, 0, none⟩)] W fun e w' => e = .returned (.int .i64 (b1).lost) ∧ w' = W := fun W hx => Lost_same p _ M W (ht.bag.ext hx)
  obtain ⟨zA, zc, zT, zct, z1, _⟩ := id ht.ref
  rw [← ht.st.lost] at z1
  obtain ⟨z0, z2, z3, z4, zf⟩ := rows4 z1
  have hfin : Did M w p q (n + 1) (.returned (.bool true)) w2 := ⟨rfl, hkz, _, _, ht⟩
  have HF := Lib.hid (show ∀ m, Did M w p q (n + 1) (.returned (.bool true)) (w2.drewN m) from fun m => ⟨rfl, hkz.drewN m, _, _, ht.ext ((Ext.refl _).drewN m)⟩)
  generalize (b1).l.length = bl at *
  generalize (b1).lost = bo at *
  clear z1 z0 z2 z3 zf hfin ht
  go_wp2_with fail
  go_quiet ((first
    | (go_at_call 15; exact Calls.quiet_of_same (hL _ (by first | exact Ext.refl _ | exact (Ext.refl _).drewN _)))
    | (go_at_call 20; exact Calls.quiet_of_same (hRL _ (by first | exact Ext.refl _ | exact (Ext.refl _).drewN _)))
    | (go_at_call 16; exact Calls.quiet_of_same (hLo _ (by first | exact Ext.refl _ | exact (Ext.refl _).drewN _)))))
  go_wp2
  go_ret
  exact HF.out _
set_option maxHeartbeats 2000000 in
set_option maxRecDepth 100000 in
theorem do_first_yes (p q n : Nat) (c : C) (A : Option Addr) (cap : Nat) (b : Bg) (r : Rg) (M : List Nat) (w : World) (h : Two M w p q n b r) (hn : n ≤ 1000) (hd0 : c.do_ ≠ 0) (hd1 : c.do_ ≠ 1) (hd2 : c.do_ ≠ 2) (m : Nat) (hf : firstL b.l c.i = some m) :
    Calls Try.prog 19 #[pt p, pt q, cv c A cap] w (Did M w p q (n + 1)) := by
  obtain ⟨w0, hw0⟩ : ∃ w0, w0 = w.alloc (.cells (cl c A cap) 34) := ⟨_, rfl⟩
  have hx0 : Ext w w0 := hw0 ▸ (Ext.refl w).alloc _
  have hrow0 : w0.heap[w.heap.size]? = some (.cells #[.int .i64 c.do_, .int .i64 c.u.from_, .int .i64 c.u.to_, .slice A c.u.by_.length cap, .int .i64 c.i, .bool c.keep] 34 (0, 0)) := hw0 ▸ heap_alloc_new w _
  have hne := h.ne
  have hplt := h.lt p h.p
  have hqlt := h.lt q h.q
  obtain ⟨k0, k1, k2, k3, k4, k5, kf⟩ := row6_at hrow0
  have hg5 : w.heap.size ∉ [p, q] := by simp; omega
  have e0 : (c.do_ == 0) = false := by simpa using hd0
  have e1 : (c.do_ == 1) = false := by simpa using hd1
  have e2 : (c.do_ == 2) = false := by simpa using hd2
  have h' := h.ext hx0
  have hth : r.there.length ≤ 1000000 := by have := h.st.len; have := h.st.all; omega
  have H1 : Calls Try.prog 21 #[.pointer (some ⟨p, 0, none⟩), .int .i64 c.i] w0 fun e w' => e = .returned (.tuple #[.int .i64 (m : Int), .bool true]) ∧ Ext w0 w' := (First_any p c.i b M w0 h'.bag (h.st.small (by omega)).len).mono fun e w' ⟨he, hx⟩ => ⟨by unfold FirstSays at he; rw [hf] at he; exact he, hx⟩
  have H2 : ∀ W, Ext w0 W → Calls Try.prog 31 #[.pointer (some ⟨q, 0, none⟩), .int .i64 c.i] W fun e w' => e = .returned (.tuple #[.int .i64 (m : Int), .bool true]) ∧ W = w' := fun W hx => (RFirst_any q c.i r M W (h'.ref.ext hx) hth).mono fun e w' ⟨he, hw⟩ => ⟨by rw [← h.st.l] at he; unfold FirstSays at he; rw [hf] at he; exact he, hw⟩
  have K4 := fun w' (hx : Ext w0 w') => hx.cell k4
  have HH := Lib.hid h'
  have HF0 := Lib.hid hf
  clear h h' hd0 hd1 hd2 k1 k2 k3 k4 k5 hrow0 hf
  unfold pt cv
  unfold cl at hw0
  go_enter Try.func19, Try.ntmps19
  go_wp2_with fail
  rw [← hw0]
  have HW0 := Lib.hid hw0
  clear hw0
  refine H1.mono ?_
  rintro e w1 ⟨rfl, hx1⟩
  go_wp2_with fail
  refine (H2 _ hx1).mono ?_
  rintro e w2 ⟨rfl, rfl⟩
  have ht := (HH.out.ext hx1)
  have ht : Two M w1 p q (n + 1) b r := ⟨ht.bag, ht.ref, ht.p, ht.q, ht.lt, ht.st.more (by omega)⟩
  have hkz : Kept [p, q] w w1 := .of_ext (hx0.trans hx1)
  clear H1 H2 K4
  have hL : ∀ W, Ext w1 W → Calls Try.prog 15 #[.pointer (some ⟨p, 0, none⟩)] W fun e w' => e = .returned (.int .i64 ((b).l.length : Nat)) ∧ w' = W := fun W hx => Len_same p _ M W (ht.bag.ext hx)
  have hRL : ∀ W, Ext w1 W → Calls Try.prog 20 #[.pointer (some ⟨q, 0, none⟩)] W fun e w' => e = .returned (.int .i64 ((b).l.length : Nat)) ∧ w' = W := fun W hx => (RLen_any q _ M W (ht.ref.ext hx) (by have := ht.st.len; have := ht.st.all; omega)).mono fun e w' ⟨h1, h2⟩ => ⟨by rw [h1, ht.st.cnt], h2.symm⟩
  have hLo : ∀ W, Ext w1 W → Calls Try.prog 16 #[.pointer (some ⟨p, 0, none⟩)] W fun e w' => e = .returned (.int .i64 (b).lost) ∧ w' = W := fun W hx => Lost_same p _ M W (ht.bag.ext hx)
  obtain ⟨zA, zc, zT, zct, z1, _⟩ := id ht.ref
  rw [← ht.st.lost] at z1
  obtain ⟨z0, z2, z3, z4, zf⟩ := rows4 z1
  have hfin : Did M w p q (n + 1) (.returned (.bool true)) w1 := ⟨rfl, hkz, _, _, ht⟩
  have HF := Lib.hid (show ∀ m, Did M w p q (n + 1) (.returned (.bool true)) (w1.drewN m) from fun m => ⟨rfl, hkz.drewN m, _, _, ht.ext ((Ext.refl _).drewN m)⟩)
  generalize (b).l.length = bl at *
  generalize (b).lost = bo at *
  clear z1 z0 z2 z3 zf hfin ht
  go_wp2_with fail
  go_quiet ((first
    | (go_at_call 15; exact Calls.quiet_of_same (hL _ (by first | exact Ext.refl _ | exact (Ext.refl _).drewN _)))
    | (go_at_call 20; exact Calls.quiet_of_same (hRL _ (by first | exact Ext.refl _ | exact (Ext.refl _).drewN _)))
    | (go_at_call 16; exact Calls.quiet_of_same (hLo _ (by first | exact Ext.refl _ | exact (Ext.refl _).drewN _)))))
  go_wp2
  go_ret
  exact HF.out _
set_option maxHeartbeats 2000000 in
set_option maxRecDepth 100000 in
theorem do_first_no (p q n : Nat) (c : C) (A : Option Addr) (cap : Nat) (b : Bg) (r : Rg) (M : List Nat) (w : World) (h : Two M w p q n b r) (hn : n ≤ 1000) (hd0 : c.do_ ≠ 0) (hd1 : c.do_ ≠ 1) (hd2 : c.do_ ≠ 2) (hf : firstL b.l c.i = none) :
    Calls Try.prog 19 #[pt p, pt q, cv c A cap] w (Did M w p q (n + 1)) := by
  obtain ⟨w0, hw0⟩ : ∃ w0, w0 = w.alloc (.cells (cl c A cap) 34) := ⟨_, rfl⟩
  have hx0 : Ext w w0 := hw0 ▸ (Ext.refl w).alloc _
  have hrow0 : w0.heap[w.heap.size]? = some (.cells #[.int .i64 c.do_, .int .i64 c.u.from_, .int .i64 c.u.to_, .slice A c.u.by_.length cap, .int .i64 c.i, .bool c.keep] 34 (0, 0)) := hw0 ▸ heap_alloc_new w _
  have hne := h.ne
  have hplt := h.lt p h.p
  have hqlt := h.lt q h.q
  obtain ⟨k0, k1, k2, k3, k4, k5, kf⟩ := row6_at hrow0
  have hg5 : w.heap.size ∉ [p, q] := by simp; omega
  have e0 : (c.do_ == 0) = false := by simpa using hd0
  have e1 : (c.do_ == 1) = false := by simpa using hd1
  have e2 : (c.do_ == 2) = false := by simpa using hd2
  have h' := h.ext hx0
  have hth : r.there.length ≤ 1000000 := by have := h.st.len; have := h.st.all; omega
  have H1 : Calls Try.prog 21 #[.pointer (some ⟨p, 0, none⟩), .int .i64 c.i] w0 fun e w' => e = .returned (.tuple #[.int .i64 0, .bool false]) ∧ Ext w0 w' := (First_any p c.i b M w0 h'.bag (h.st.small (by omega)).len).mono fun e w' ⟨he, hx⟩ => ⟨by unfold FirstSays at he; rw [hf] at he; exact he, hx⟩
  have H2 : ∀ W, Ext w0 W → Calls Try.prog 31 #[.pointer (some ⟨q, 0, none⟩), .int .i64 c.i] W fun e w' => e = .returned (.tuple #[.int .i64 0, .bool false]) ∧ W = w' := fun W hx => (RFirst_any q c.i r M W (h'.ref.ext hx) hth).mono fun e w' ⟨he, hw⟩ => ⟨by rw [← h.st.l] at he; unfold FirstSays at he; rw [hf] at he; exact he, hw⟩
  have K4 := fun w' (hx : Ext w0 w') => hx.cell k4
  have HH := Lib.hid h'
  have HF0 := Lib.hid hf
  clear h h' hd0 hd1 hd2 k1 k2 k3 k4 k5 hrow0 hf
  unfold pt cv
  unfold cl at hw0
  go_enter Try.func19, Try.ntmps19
  go_wp2_with fail
  rw [← hw0]
  have HW0 := Lib.hid hw0
  clear hw0
  refine H1.mono ?_
  rintro e w1 ⟨rfl, hx1⟩
  go_wp2_with fail
  refine (H2 _ hx1).mono ?_
  rintro e w2 ⟨rfl, rfl⟩
  have ht := (HH.out.ext hx1)
  have ht : Two M w1 p q (n + 1) b r := ⟨ht.bag, ht.ref, ht.p, ht.q, ht.lt, ht.st.more (by omega)⟩
  have hkz : Kept [p, q] w w1 := .of_ext (hx0.trans hx1)
  clear H1 H2 K4
  have hL : ∀ W, Ext w1 W → Calls Try.prog 15 #[.pointer (some ⟨p, 0, none⟩)] W fun e w' => e = .returned (.int .i64 ((b).l.length : Nat)) ∧ w' = W := fun W hx => Len_same p _ M W (ht.bag.ext hx)
  have hRL : ∀ W, Ext w1 W → Calls Try.prog 20 #[.pointer (some ⟨q, 0, none⟩)] W fun e w' => e = .returned (.int .i64 ((b).l.length : Nat)) ∧ w' = W := fun W hx => (RLen_any q _ M W (ht.ref.ext hx) (by have := ht.st.len; have := ht.st.all; omega)).mono fun e w' ⟨h1, h2⟩ => ⟨by rw [h1, ht.st.cnt], h2.symm⟩
  have hLo : ∀ W, Ext w1 W → Calls Try.prog 16 #[.pointer (some ⟨p, 0, none⟩)] W fun e w' => e = .returned (.int .i64 (b).lost) ∧ w' = W := fun W hx => Lost_same p _ M W (ht.bag.ext hx)
  obtain ⟨zA, zc, zT, zct, z1, _⟩ := id ht.ref
  rw [← ht.st.lost] at z1
  obtain ⟨z0, z2, z3, z4, zf⟩ := rows4 z1
  have hfin : Did M w p q (n + 1) (.returned (.bool true)) w1 := ⟨rfl, hkz, _, _, ht⟩
  have HF := Lib.hid (show ∀ m, Did M w p q (n + 1) (.returned (.bool true)) (w1.drewN m) from fun m => ⟨rfl, hkz.drewN m, _, _, ht.ext ((Ext.refl _).drewN m)⟩)
  generalize (b).l.length = bl at *
  generalize (b).lost = bo at *
  clear z1 z0 z2 z3 zf hfin ht
  go_wp2_with fail
  go_quiet ((first
    | (go_at_call 15; exact Calls.quiet_of_same (hL _ (by first | exact Ext.refl _ | exact (Ext.refl _).drewN _)))
    | (go_at_call 20; exact Calls.quiet_of_same (hRL _ (by first | exact Ext.refl _ | exact (Ext.refl _).drewN _)))
    | (go_at_call 16; exact Calls.quiet_of_same (hLo _ (by first | exact Ext.refl _ | exact (Ext.refl _).drewN _)))))
  go_wp2
  go_ret
  exact HF.out _
theorem bytesT0 : ElemOf Try.prog 28 5 1 1 := ElemOf.mk' (z := .int .u8 0) Try.underlying28 (by kernel_rfl) rfl (by omega)
theorem own_keptN {N : List Nat} {w w' : World} {base : Nat} {v : Value} {l : List UInt8} (h : Own w base v l) (hk : Kept N w w') (hn : ∀ k, v.ownBlock = some k → k ∉ N) : Own w' base v l := by
  refine ⟨h.1, ?_⟩
  rcases h.2 with h0 | ⟨g, cap, cur, h1, h2, h3, h4⟩
  · exact .inl h0
  · exact .inr ⟨g, cap, cur, h1, h2, hk.heap h3 (hn g (by rw [h1]; rfl)), h4⟩
set_option maxHeartbeats 4000000 in
set_option maxRecDepth 100000 in
theorem do_add (p q n : Nat) (c : C) (A : Option Addr) (cap : Nat) (b : Bg) (r : Rg) (M : List Nat) (w : World) (h : Two M w p q n b r) (hn : n ≤ 1000) (hd : c.do_ = 0) (hby : BsM M w A c.u.by_) (hbl : c.u.by_.length ≤ 140737488351232) :
    Calls Try.prog 19 #[pt p, pt q, cv c A cap] w (Did M w p q (n + 1)) := by
  obtain ⟨w0, hw0⟩ : ∃ w0, w0 = w.alloc (.cells (cl c A cap) 34) := ⟨_, rfl⟩
  have hx0 : Ext w w0 := hw0 ▸ (Ext.refl w).alloc _
  have hrow0 : w0.heap[w.heap.size]? = some (.cells #[.int .i64 c.do_, .int .i64 c.u.from_, .int .i64 c.u.to_, .slice A c.u.by_.length cap, .int .i64 c.i, .bool c.keep] 34 (0, 0)) := hw0 ▸ heap_alloc_new w _
  have hne := h.ne
  have hplt := h.lt p h.p
  have hqlt := h.lt q h.q
  obtain ⟨k0, k1, k2, k3, k4, k5, kf⟩ := row6_at hrow0
  have hg5 : w.heap.size ∉ [p, q] := by simp; omega
  have e0 : (c.do_ == 0) = true := by rw [hd]; rfl
  have z0 : w0.heap.size = w.heap.size + 1 := by rw [hw0]; simp
  have HH := Lib.hid (h.ext hx0)
  have HBY := Lib.hid hby
  have hby0 := hby.bs.ext hx0
  obtain ⟨w8, hw8⟩ : ∃ w8, w8 = w0.alloc (.cells #[.int .i64 c.u.from_, .int .i64 c.u.to_, .slice A c.u.by_.length cap] 30) := ⟨_, rfl⟩
  have hx8 : Ext w0 w8 := hw8 ▸ (Ext.refl w0).alloc _
  have hrow8 : w8.heap[w0.heap.size]? = some (.cells #[.int .i64 c.u.from_, .int .i64 c.u.to_, .slice A c.u.by_.length cap] 30 (0, 0)) := hw8 ▸ heap_alloc_new w0 _
  have z8 : w8.heap.size = w.heap.size + 1 + 1 := by rw [hw8]; simp [z0]
  rw [z0] at hrow8
  have HZ0 := Lib.hid (show w0.heap.size ≤ w.heap.size + 1 by omega)
  have HR0 := Lib.hid hrow0
  have hem := Own.empty w8 w8.heap.size (Nat.le_refl _)
  rw [z8] at hem
  have z81 : w.heap.size + 1 + 1 ≤ w8.heap.size := by omega
  have z82 : w8.heap.size ≤ w.heap.size + 1 + 1 := by omega
  clear z0 z8
  have K3 := fun w' (hx : Ext w0 w') => hx.cell k3
  clear h hd k4 k5 hrow0 hby
  unfold pt cv
  unfold cl at hw0
  go_enter Try.func19, Try.ntmps19
  go_wp2_with (at_builtin; refine unstop ?_)
  rw [← hw0, ← hw8]
  have HW0 := Lib.hid hw0
  have HW8 := Lib.hid hw8
  clear hw0 hw8
  have hxe := (Ext.refl w8).alloc (.cells #[] 5)
  refine go_on (wpList_appB bytesT0 hem (hby0.ext (hx8.trans hxe)) rfl rfl rfl rfl rfl (by simp; omega) (by simp; omega) ?_)
  rintro v9 w9 ho9 hg9 hor9
  simp only [List.nil_append] at ho9
  have hx9 : Ext w8 w9 := Ext.own hxe hem z82 hg9
  obtain ⟨A9, c9, rfl⟩ := ho9.form
  obtain ⟨gl, hgl⟩ : ∃ gl, gl = (Value.slice A9 c.u.by_.length c9).ownBlock.toList := ⟨_, rfl⟩
  have hglb : ∀ k ∈ gl, w.heap.size + 1 + 1 ≤ k ∧ k < w9.heap.size := by
    intro k hk
    rw [hgl] at hk
    exact ho9.lt k (by simpa using hk)
  have HGL := Lib.hid hgl
  clear hgl hor9 hg9
  have hrow9 := hx9.obj hrow8
  obtain ⟨d0, d1, d2, df⟩ := row3_at hrow9
  have hk10 := (Kept.refl [w.heap.size + 1] w9).setCell (p := ⟨w.heap.size + 1, 2, none⟩) (.inl (by simp)) (.slice A9 c.u.by_.length c9)
  have R8 := heap_setCell_same w9 (w.heap.size + 1) 2 _ _ (.slice A9 c.u.by_.length c9) hrow9
  simp at R8
  have R5 := hk10.heap ((hx8.trans hx9).obj (HR0.out)) (by simp)
  have hsub : ∀ k ∈ ((w.heap.size + 1) :: (gl ++ M) : List Nat), k ∈ M ∨ w0.heap.size ≤ k := by
    intro k hk
    simp only [List.mem_cons, List.mem_append] at hk
    rcases hk with rfl | hk | hk
    · exact .inr HZ0.out
    · have := hglb k hk; have := HZ0.out; exact .inr (by omega)
    · exact .inl hk
  have hsub2 : ∀ k ∈ gl ++ M, k ∈ ((w.heap.size + 1) :: (gl ++ M) : List Nat) := fun k hk => List.mem_cons_of_mem _ hk
  have hb10 := (((HH.out.bag.old hsub).ext (hx8.trans hx9)).kept hk10 (by simp; omega) (by simp)).old (N := gl ++ M) (fun k hk => .inl (hsub2 k hk))
  have hr10 := (((HH.out.ref.old hsub).ext (hx8.trans hx9)).kept hk10 (by simp; omega) (by simp)).old (N := gl ++ M) (fun k hk => .inl (hsub2 k hk))
  have hby10 : BsM (gl ++ M) (w9.setCell ⟨w.heap.size + 1, 2, none⟩ (.slice A9 c.u.by_.length c9)) A c.u.by_ :=
    SlM.less (M := ((w.heap.size + 1) :: (gl ++ M) : List Nat)) (SlM.kept (SlM.old (SlM.kept HBY.out (.of_ext hx0)) hsub |> fun h => SlM.kept h (.of_ext (hx8.trans hx9))) (hk10.mono (by simp))) hsub2
  have ho10 : Own (w9.setCell ⟨w.heap.size + 1, 2, none⟩ (.slice A9 c.u.by_.length c9)) (w.heap.size + 1 + 1) (.slice A9 c.u.by_.length c9) c.u.by_ := ho9.kept hk10.grows (owns_obj ho9 hrow9 (by decide))
  have hkw10 : Kept [] w (w9.setCell ⟨w.heap.size + 1, 2, none⟩ (.slice A9 c.u.by_.length c9)) := ((Kept.of_ext (M := [w.heap.size + 1]) (hx0.trans (hx8.trans hx9))).trans hk10).less (by intro k hk hlt; simp at hk; omega)
  have hlt10 : ∀ k ∈ gl ++ M, k < (w9.setCell ⟨w.heap.size + 1, 2, none⟩ (.slice A9 c.u.by_.length c9)).heap.size := by
    intro k hk
    have hs := hk10.size
    rcases List.mem_append.1 hk with h | h
    · have := (hglb k h).2; omega
    · have := HH.out.lt k h; have := hx8.size; have := hx9.size; omega
  go_wp2_with fail
  generalize w9.setCell ⟨w.heap.size + 1, 2, none⟩ (.slice A9 c.u.by_.length c9) = w10 at *
  have hg8 : w.heap.size + 1 ∉ [p, q] := by simp; omega
  have K80 := fun w' (k : Kept [p, q] w10 w') => (row3_at (k.heap R8 hg8)).1
  have K81 := fun w' (k : Kept [p, q] w10 w') => (row3_at (k.heap R8 hg8)).2.1
  have K82 := fun w' (k : Kept [p, q] w10 w') => (row3_at (k.heap R8 hg8)).2.2.1
  have K51 := fun w' (k : Kept [p, q] w10 w') => (row6_at (k.heap R5 hg5)).2.1
  have K52 := fun w' (k : Kept [p, q] w10 w') => (row6_at (k.heap R5 hg5)).2.2.1
  have K53 := fun w' (k : Kept [p, q] w10 w') => (row6_at (k.heap R5 hg5)).2.2.2.1
  have hst := HH.out.st
  have hpM : p ∈ gl ++ M := List.mem_append_right _ HH.out.p
  have hqM : q ∈ gl ++ M := List.mem_append_right _ HH.out.q
  have H1 := fun W (hx : Ext w10 W) => Add_any p c.u A9 c9 b (gl ++ M) W (hb10.ext hx) (fun k hk => by have := hlt10 k hk; have := hx.size; omega) hpM (hst.small (by omega)) (ho10.bs.ext hx)
  have H2 := fun W (hx : Kept [p] w10 W) => RAdd_any q c.u A cap r (gl ++ M) W (hr10.kept hx (by simpa using hne.symm) (by simpa using hpM)) (fun k hk => by have := hlt10 k hk; have := hx.size; omega) hqM (by have := hst.len; have := hst.all; omega) (by have := hst.lost; have := hst.lost0; have := hst.lost1; omega) (SlM.kept hby10 (hx.mono (by simpa using hpM))) hst
  have HST := Lib.hid (hst.add c.u)
  have hpq : ∀ k, (Value.slice A9 c.u.by_.length c9).ownBlock = some k → k ∉ [p, q] := by
    intro k hk
    have := (hglb k (by rw [HGL.out]; simp [hk])).1
    simp
    omega
  unfold pt uv at H1 H2
  generalize addE b c.u = te at *
  generalize addB b c.u = b1 at *
  generalize raddB r c.u = r1 at *
  have HP := Lib.hid hpM
  have HQ := Lib.hid hqM
  clear hsub hsub2 hb10 hr10 hby10 hrow9 d0 d1 d2 df hk10 hby0 K3 k1 k2 k3 hrow8 hst hpM hqM hem hxe ho9
  go_region_held3 (fun w' => Kept [p, q] w10 w') (first | exact (Kept.refl _ _).drew | assumption) ((first
    | (go_at_call 10; refine (H1 _ (Ext.refl _).drew).mono ?_; rintro e w1 ⟨rfl, hk1, hb1⟩; have hk1p : Kept [p] w10 w1 := (Kept.of_ext (Ext.refl _).drew).trans hk1; have hk1' : Kept [p, q] w10 w1 := hk1p.mono (by simp))
    | (go_at_call 28; refine (H2 _ hk1p).mono ?_; rintro e w12 ⟨rfl, hk2, hr1⟩; have hk2' : Kept [p, q] w10 w12 := hk1'.trans (hk2.mono (by simp)))))
  have ho := own_keptN ho10 hk2' hpq
  have R82 := hk2'.heap R8 hg8
  have hg8g : w.heap.size + 1 ∉ gl := fun hm => by have := (hglb _ hm).1; omega
  have K8c := fun w' (k : Kept gl w12 w') => (row3_at (k.heap R82 hg8g)).2.2.1
  have hbg : IsBag (gl ++ M) w12 p b1 := hb1.kept hk2 (by simpa using hne) (by simpa using HQ.out)
  have hkw12 : Kept [p, q] w w12 := (hkw10.mono (by simp)).trans hk2'
  have hs12 := hk2'.size
  have hMlt12 : ∀ k ∈ M, k < w12.heap.size := fun k hk => by have := hlt10 k (List.mem_append_right _ hk); omega
  clear K80 K81 K82 K51 K52 K53 H1 H2 hk1 hk2 hk1p hk1' hb1 ho10 R8 R5 hlt10 hs12
  have HMLT := Lib.hid hMlt12
  clear hMlt12
  have hlen0 : c.u.by_.length ≤ 140737488351232 := hbl
  generalize hl0 : c.u.by_ = l0 at *
  have HL0 := Lib.hid hl0
  clear hl0
  go_wp2_with fail
  go_loopw [9] (fun i wr => ∃ (k : Nat) (l' : List UInt8), k ≤ l0.length ∧ i = .int .i64 k ∧ Kept gl w12 wr ∧ Own wr (w.heap.size + 1 + 1) (.slice A9 l0.length c9) l' ∧ l'.length = l0.length) (fun i _ => l0.length - (intOf i).toNat)
  case atStart => exact ⟨0, l0, by omega, rfl, Kept.refl _ _, ho, rfl⟩
  case round =>
    obtain ⟨k, l', hk, rfl, hkr, hor, hll⟩ := hrel
    by_cases hlt : k < l0.length
    · obtain ⟨g9, rfl, hg91, hg92⟩ := hor.some_ (by omega)
      have hlt' : k < l'.length := by omega
      have hc := hor.cell hlt'
      have hfr := hor.free k
      have hck := K8c _ hkr
      have hlt2 : (k : Int) < l0.length := by omega
      have hy : ∃ y : UInt8, bits .xor .u8 (l'[k].toNat : Int) 1 = (y.toNat : Int) := by
        have h1 := l'[k].toNat_lt
        have h2 : l'[k].toNat ^^^ 1 < 256 := Nat.xor_lt_two_pow (n := 8) (by omega) (by omega)
        refine ⟨UInt8.ofNat (l'[k].toNat ^^^ 1), ?_⟩
        rw [show (1 : Int) = ((1 : Nat) : Int) from rfl, u8_xor_nat _ _ (by omega) (by omega), UInt8.toNat_ofNat']
        omega
      obtain ⟨y, hy⟩ := hy
      have hset := hor.set k y
      have hgm : g9 ∈ gl := by rw [HGL.out]; simp [Value.ownBlock]
      generalize l'[k].toNat = x at *
      have HS := Lib.hid hset
      have HY := Lib.hid hy
      have HLL := Lib.hid hll
      clear hset hy hll
      go_wp2
      go_roundw
      case rel => exact ⟨k + 1, l'.set k y, by omega, by go_num, hkr.setCell (.inl hgm) _, by rw [HY.out]; exact HS.out, by rw [List.length_set]; exact HLL.out⟩
      case measure => simp [intOf]; omega
    · have hlt2 : ¬ (k : Int) < l0.length := by omega
      have hck := K8c _ hkr
      clear hll
      have hpgl : p ∉ gl := fun hm => by have := (hglb _ hm).1; omega
      have hqgl : q ∉ gl := fun hm => by have := (hglb _ hm).1; omega
      have ht : Two M wr p q (n + 1) b1 r1 := ⟨(hbg.kept hkr hpgl (fun k hk => List.mem_append_left _ hk)).old (fun k hk => .inl (List.mem_append_right _ hk)), (hr1.kept hkr hqgl (fun k hk => List.mem_append_left _ hk)).old (fun k hk => .inl (List.mem_append_right _ hk)), HH.out.p, HH.out.q, fun k hk => by have := HMLT.out k hk; have := hkr.size; omega, HST.out⟩
      have hkz : Kept [p, q] w wr := ((hkw12.mono (N := [p, q] ++ gl) (by intro k hk; exact List.mem_append_left _ hk)).trans (hkr.mono (by intro k hk; exact List.mem_append_right _ hk))).less (by intro k hk hlt; rcases List.mem_append.1 hk with h | h; exact h; have := (hglb k h).1; omega)
      clear hkr hor
      have hL : ∀ W, Ext wr W → Calls Try.prog 15 #[.pointer (some ⟨p, 0, none⟩)] W fun e w' => e = .returned (.int .i64 ((b1).l.length : Nat)) ∧ w' = W := fun W hx => Len_same p _ M W (ht.bag.ext hx)
      have hRL : ∀ W, Ext wr W → Calls Try.prog 20 #[.pointer (some ⟨q, 0, none⟩)] W fun e w' => e = .returned (.int .i64 ((b1).l.length : Nat)) ∧ w' = W := fun W hx => (RLen_any q _ M W (ht.ref.ext hx) (by have := ht.st.len; have := ht.st.all; omega)).mono fun e w' ⟨h1, h2⟩ => ⟨by rw [h1, ht.st.cnt], h2.symm⟩
      have hLo : ∀ W, Ext wr W → Calls Try.prog 16 #[.pointer (some ⟨p, 0, none⟩)] W fun e w' => e = .returned (.int .i64 (b1).lost) ∧ w' = W := fun W hx => Lost_same p _ M W (ht.bag.ext hx)
      obtain ⟨zA, zc, zT, zct, z1, _⟩ := id ht.ref
      rw [← ht.st.lost] at z1
      obtain ⟨z0, z2, z3, z4, zf⟩ := rows4 z1
      have hfin : Did M w p q (n + 1) (.returned (.bool true)) wr := ⟨rfl, hkz, _, _, ht⟩
      have HF := Lib.hid (show ∀ m, Did M w p q (n + 1) (.returned (.bool true)) (wr.drewN m) from fun m => ⟨rfl, hkz.drewN m, _, _, ht.ext ((Ext.refl _).drewN m)⟩)
      generalize (b1).l.length = bl at *
      generalize (b1).lost = bo at *
      clear z1 z0 z2 z3 zf hfin ht
      go_wp2_with fail
      go_quiet ((first
        | (go_at_call 15; exact Calls.quiet_of_same (hL _ (by first | exact Ext.refl _ | exact (Ext.refl _).drewN _)))
        | (go_at_call 20; exact Calls.quiet_of_same (hRL _ (by first | exact Ext.refl _ | exact (Ext.refl _).drewN _)))
        | (go_at_call 16; exact Calls.quiet_of_same (hLo _ (by first | exact Ext.refl _ | exact (Ext.refl _).drewN _)))))
      go_wp2
      go_ret
      exact HF.out _
end Go.Proofs.Ytbanjhfmddhndaa
