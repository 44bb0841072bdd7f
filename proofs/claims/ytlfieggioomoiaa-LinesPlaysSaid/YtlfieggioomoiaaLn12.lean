/- Both buffers side by side; the walks of the law's do. Conditions: those of Two; both buffers are older than the call. -/
import Derived.Test.YtlfieggioomoiaaLn11
import Derived.Test.YtlfieggioomoiaaLnRow
import Derived.BigQuiet
import Derived.Deep.QuietTactic
import Derived.Laws.BitsAllLaws
import Derived.Deep.RegionHeld3
namespace Go.Proofs.Ytlfieggioomoiaa
open Go.RowKit
attribute [local go_sem] pt
/-- a buffer at p and the reference's at q, in blocks of M: both hold l -/
structure Two (M : List Nat) (w : World) (p q : Nat) (l : List UInt8) : Prop where
  ln : IsLn M w p l
  bf : IsBuf 58 M w q l
  pM : p ∈ M
  qM : q ∈ M
  lt : ∀ k ∈ M, k < w.heap.size
  ne : p ≠ q
  len : l.length ≤ 16384
  ml : ML w
  mp : 0 ≠ p
  mq : 0 ≠ q
section
variable {M N : List Nat} {w w' w1 w2 : World} {p q : Nat} {l l' : List UInt8}
theorem Two.ext (h : Two M w p q l) (hx : Ext w w') : Two M w' p q l :=
  ⟨h.ln.ext hx, h.bf.ext hx, h.pM, h.qM, fun k hk => Nat.lt_of_lt_of_le (h.lt k hk) hx.size, h.ne, h.len, h.ml.ext hx, h.mp, h.mq⟩
theorem Two.old (h : Two M w p q l) (hs : ∀ k ∈ N, k ∈ M ∨ w.heap.size ≤ k) (hp : p ∈ N) (hq : q ∈ N) (hl : ∀ k ∈ N, k < w.heap.size) : Two N w p q l :=
  ⟨h.ln.old hs, h.bf.old hs, hp, hq, hl, h.ne, h.len, h.ml, h.mp, h.mq⟩
theorem Two.grow (h : Two M w p q l) (hx : Ext w w') (hs : ∀ k ∈ N, k ∈ M ∨ w.heap.size ≤ k) (hp : p ∈ N) (hq : q ∈ N) (hl : ∀ k ∈ N, k < w'.heap.size) : Two N w' p q l :=
  ⟨(h.ln.old hs).ext hx, (h.bf.old hs).ext hx, hp, hq, hl, h.ne, h.len, h.ml.ext hx, h.mp, h.mq⟩
/-- other blocks of M turn -/
theorem Two.kept (h : Two M w p q l) (hk : Kept N w w') (hp : p ∉ N) (hq : q ∉ N) (hs : ∀ k ∈ N, k ∈ M) (hm : 0 ∉ N) : Two M w' p q l :=
  ⟨h.ln.kept hk hp hs, h.bf.kept hk hq hs, h.pM, h.qM, fun k hk' => Nat.lt_of_lt_of_le (h.lt k hk') hk.size, h.ne, h.len, h.ml.kept hk hm, h.mp, h.mq⟩
theorem Two.pk (h : Two M w p q l) : ∀ k ∈ [p], k ∈ M := by intro k hk; simp at hk; subst hk; exact h.pM
theorem Two.qk (h : Two M w p q l) : ∀ k ∈ [q], k ∈ M := by intro k hk; simp at hk; subst hk; exact h.qM
theorem Two.half (h : Two M w p q l) (hk : Kept [p] w w1) : IsBuf 58 M w1 q l := h.bf.kept hk (by simpa using h.ne.symm) h.pk
theorem Two.lt1 (h : Two M w p q l) (hk : Kept N w w1) : ∀ k ∈ M, k < w1.heap.size := fun k hk' => Nat.lt_of_lt_of_le (h.lt k hk') hk.size
/-- both calls are done -/
theorem Two.full (h : Two M w p q l) (hk : Kept [p] w w1) (h1 : IsLn M w1 p l') (hk2 : Kept [q] w1 w2) (h2 : IsBuf 58 M w2 q l') (hl : l'.length ≤ 16384) : Two M w2 p q l' ∧ Kept [p, q] w w2 :=
  ⟨⟨h1.kept hk2 (by simpa using h.ne) h.qk, h2, h.pM, h.qM, h.lt1 ((hk.mono (N := [p, q]) (by simp)).trans (hk2.mono (by simp))), h.ne, hl, (h.ml.kept hk (by simpa using h.mp)).kept hk2 (by simpa using h.mq), h.mp, h.mq⟩,
    (hk.mono (by simp)).trans (hk2.mono (by simp))⟩
end
def Did (M : List Nat) (w : World) (p q : Nat) (e : Ending) (w' : World) : Prop := e = .returned (.bool true) ∧ ∃ l', Two M w' p q l' ∧ Kept [p, q] w w'
def dv (d : De) (A1 : Option Addr) (c1 : Nat) : Value := .agg #[.int .i64 d.do_, .slice A1 d.by_.length c1, .int .i64 d.n]
theorem xor_one (x : UInt8) : ∃ y : UInt8, bits .xor .u8 (x.toNat : Int) 1 = (y.toNat : Int) := by
  have h1 := x.toNat_lt
  have h2 : x.toNat ^^^ 1 < 256 := Nat.xor_lt_two_pow (n := 8) (by omega) (by omega)
  refine ⟨UInt8.ofNat (x.toNat ^^^ 1), ?_⟩
  rw [show (1 : Int) = ((1 : Nat) : Int) from rfl, u8_xor_nat _ _ (by omega) (by omega), UInt8.toNat_ofNat']
  omega
set_option maxHeartbeats 2000000 in
set_option maxRecDepth 100000 in
theorem do_line (p q : Nat) (d : De) (A1 : Option Addr) (c1 : Nat) (M : List Nat) (l : List UInt8) (w : World) (h : Two M w p q l) (hd : d.do_ = 1) :
    Calls Try.prog 22 #[pt p, pt q, dv d A1 c1] w (Did M w p q) := by
  obtain ⟨w0, hw0⟩ : ∃ w0, w0 = w.alloc (.cells #[.int .i64 d.do_, .slice A1 d.by_.length c1, .int .i64 d.n] 48) := ⟨_, rfl⟩
  have hx0 : Ext w w0 := hw0 ▸ (Ext.refl w).alloc _
  have hrow0 : w0.heap[w.heap.size]? = some (.cells #[.int .i64 d.do_, .slice A1 d.by_.length c1, .int .i64 d.n] 48 (0, 0)) := hw0 ▸ heap_alloc_new w _
  have hlt := h.lt
  have hpl := hlt p h.pM
  have hql := hlt q h.qM
  have hg5 : w.heap.size ∉ [p, q] := by simp; omega
  have h0 := h.ext hx0
  obtain ⟨k0, k1, k2, kf⟩ := row3_at hrow0
  have e0 : (d.do_ == 0) = false := by rw [hd]; rfl
  have e1 : (d.do_ == 1) = true := by rw [hd]; rfl
  have H1 := LLine_any w0 h0.ln h0.pM h0.lt h0.len h0.ml
  have H2 := fun W (hk : Kept [p] w0 W) => RLine_any W (h0.half hk) h0.qM (h0.lt1 hk) h0.len
  have hle := lineL_le l
  have hln := h0.len
  have HH := Lib.hid h0
  clear h h0 hd k1 k2 kf hrow0 hlt
  generalize lineL l = l9 at *
  generalize lineS l = s9 at *
  generalize lineE l = E9 at *
  unfold pt at H1 H2
  unfold pt dv
  go_enter Try.func22, Try.ntmps22
  go_wp2_with fail
  rw [← hw0]
  have HW0 := Lib.hid hw0
  clear hw0
  refine H1.mono ?_
  rintro e w1 ⟨rfl, hk1, hl1⟩
  go_wp2_with fail
  refine (H2 _ hk1).mono ?_
  rintro e w2 ⟨rfl, hk2, hl2⟩
  obtain ⟨ht, hkz⟩ := HH.out.full hk1 hl1 hk2 hl2 (by omega)
  have hkz := (Kept.of_ext (M := [p, q]) hx0).trans hkz
  clear H1 H2 hk1 hl1 hk2 hl2
  have hWt := fun W (hx : Ext w2 W) => LWait_any W (ht.ln.ext hx)
  obtain ⟨zA, zc, zr, -⟩ := id ht.bf
  have z0 := (row1_cell zr).1
  have HF := Lib.hid (show ∀ m, Did M w p q (.returned (.bool true)) ((w2).drewN m) from fun m => ⟨rfl, _, ht.ext ((Ext.refl _).drewN m), hkz.drewN m⟩)
  clear zr ht hkz
  unfold pt at hWt
  go_wp2_with fail
  go_quiet ((go_at_call 13; exact Calls.quiet_of_same (hWt _ (by first | exact Ext.refl _ | exact (Ext.refl _).drewN _))))
  go_wp2
  go_ret
  exact HF.out _
set_option maxHeartbeats 2000000 in
set_option maxRecDepth 100000 in
theorem do_body (p q : Nat) (d : De) (A1 : Option Addr) (c1 : Nat) (M : List Nat) (l : List UInt8) (w : World) (h : Two M w p q l) (hd0 : d.do_ ≠ 0) (hd1 : d.do_ ≠ 1) (hd2 : d.do_ ≠ 2) :
    Calls Try.prog 22 #[pt p, pt q, dv d A1 c1] w (Did M w p q) := by
  obtain ⟨w0, hw0⟩ : ∃ w0, w0 = w.alloc (.cells #[.int .i64 d.do_, .slice A1 d.by_.length c1, .int .i64 d.n] 48) := ⟨_, rfl⟩
  have hx0 : Ext w w0 := hw0 ▸ (Ext.refl w).alloc _
  have hrow0 : w0.heap[w.heap.size]? = some (.cells #[.int .i64 d.do_, .slice A1 d.by_.length c1, .int .i64 d.n] 48 (0, 0)) := hw0 ▸ heap_alloc_new w _
  have hlt := h.lt
  have hpl := hlt p h.pM
  have hql := hlt q h.qM
  have hg5 : w.heap.size ∉ [p, q] := by simp; omega
  have h0 := h.ext hx0
  obtain ⟨k0, k1, k2, kf⟩ := row3_at hrow0
  have e0 : (d.do_ == 0) = false := by simpa using hd0
  have e1 : (d.do_ == 1) = false := by simpa using hd1
  have e2 : (d.do_ == 2) = false := by simpa using hd2
  have H1 := LBody_any w0 h0.ln h0.pM h0.lt h0.len h0.ml
  have H2 := fun W (hk : Kept [p] w0 W) => RBody_any W (h0.half hk) h0.qM (h0.lt1 hk) h0.len
  have hle : (l.drop (unN l)).length ≤ l.length := by simp
  have hln := h0.len
  have HH := Lib.hid h0
  clear h h0 hd0 hd1 hd2 k1 k2 kf hrow0 hlt
  generalize l.drop (unN l) = l9 at *
  generalize unL l = s9 at *
  generalize unE l = E9 at *
  unfold pt at H1 H2
  unfold pt dv
  go_enter Try.func22, Try.ntmps22
  go_wp2_with fail
  rw [← hw0]
  have HW0 := Lib.hid hw0
  clear hw0
  refine H1.mono ?_
  rintro e w1 ⟨Aa, ca, rfl, ho1, hk1, hl1⟩
  have hpq : p < w.heap.size ∧ q < w.heap.size := ⟨hpl, hql⟩
  go_wp2_with fail
  refine (H2 _ hk1).mono ?_
  rintro e w2 ⟨Ab, cb, rfl, ho2, hk2, hl2⟩
  have ho1 := own_keptP ho1 hk2 (Nat.lt_of_lt_of_le hql hx0.size)
  have hsa := run_str (P := Try.prog) Try.underlying25 Try.underlying5 Try.underlying9 ho1.bs s9.length ca rfl
  have hsb := run_str (P := Try.prog) Try.underlying25 Try.underlying5 Try.underlying9 ho2.bs s9.length cb rfl
  obtain ⟨ht, hkz⟩ := HH.out.full hk1 hl1 hk2 hl2 (by omega)
  have hkz := (Kept.of_ext (M := [p, q]) hx0).trans hkz
  clear H1 H2 hk1 hl1 hk2 hl2 ho1 ho2
  have hWt := fun W (hx : Ext w2 W) => LWait_any W (ht.ln.ext hx)
  obtain ⟨zA, zc, zr, -⟩ := id ht.bf
  have z0 := (row1_cell zr).1
  have HF := Lib.hid (show ∀ m, Did M w p q (.returned (.bool true)) ((w2).drewN m) from fun m => ⟨rfl, _, ht.ext ((Ext.refl _).drewN m), hkz.drewN m⟩)
  clear zr ht hkz
  unfold pt at hWt
  go_wp2_with fail
  go_quiet ((go_at_call 13; exact Calls.quiet_of_same (hWt _ (by first | exact Ext.refl _ | exact (Ext.refl _).drewN _))))
  go_wp2
  go_ret
  exact HF.out _
set_option maxHeartbeats 4000000 in
set_option maxRecDepth 100000 in
theorem do_raw (p q : Nat) (d : De) (A1 : Option Addr) (c1 : Nat) (M : List Nat) (l : List UInt8) (w : World) (h : Two M w p q l) (hd : d.do_ = 2) :
    Calls Try.prog 22 #[pt p, pt q, dv d A1 c1] w (Did M w p q) := by
  obtain ⟨w0, hw0⟩ : ∃ w0, w0 = w.alloc (.cells #[.int .i64 d.do_, .slice A1 d.by_.length c1, .int .i64 d.n] 48) := ⟨_, rfl⟩
  have hx0 : Ext w w0 := hw0 ▸ (Ext.refl w).alloc _
  have hrow0 : w0.heap[w.heap.size]? = some (.cells #[.int .i64 d.do_, .slice A1 d.by_.length c1, .int .i64 d.n] 48 (0, 0)) := hw0 ▸ heap_alloc_new w _
  have hlt := h.lt
  have hpl := hlt p h.pM
  have hql := hlt q h.qM
  have hg5 : w.heap.size ∉ [p, q] := by simp; omega
  have h0 := h.ext hx0
  obtain ⟨k0, k1, k2, kf⟩ := row3_at hrow0
  have e0 : (d.do_ == 0) = false := by rw [hd]; rfl
  have e1 : (d.do_ == 1) = false := by rw [hd]; rfl
  have e2 : (d.do_ == 2) = true := by rw [hd]; rfl
  have H1 := LRaw_any w0 h0.ln h0.pM h0.lt h0.len d.n
  have H2 := fun W (gl : List Nat) (hk : Kept [p] w0 W) (hb : IsBuf 58 (gl ++ M) W q l) (hl : ∀ k ∈ gl ++ M, k < W.heap.size) => RRaw_any W hb (List.mem_append_right _ h0.qM) hl h0.len d.n
  have hle := rawL_le l d.n
  have hln := h0.len
  have K2 := fun w' (hk : Kept [p, q] w0 w') => hk.cell k2 hg5
  have HH := Lib.hid h0
  clear h h0 hd k1 kf hrow0 hlt
  generalize rawL l d.n = l9 at *
  generalize rawS l d.n = s9 at *
  generalize rawE l d.n = E9 at *
  unfold pt at H1 H2
  unfold pt dv
  go_enter Try.func22, Try.ntmps22
  go_wp2_with fail
  rw [← hw0]
  have HW0 := Lib.hid hw0
  clear hw0
  refine H1.mono ?_
  rintro e w1 ⟨Aa, ca, rfl, ho1, hk1, hl1⟩
  obtain ⟨gl, hgl⟩ : ∃ gl, gl = (Value.slice Aa s9.length ca).ownBlock.toList := ⟨_, rfl⟩
  have hglb : ∀ k ∈ gl, w0.heap.size ≤ k ∧ k < w1.heap.size := fun k hk => ho1.lt k (by rw [hgl] at hk; simpa using hk)
  rw [← hgl] at hl1
  have HGL := Lib.hid hgl
  clear hgl
  have hlt1 : ∀ k ∈ gl ++ M, k < w1.heap.size := fun k hk => by
    rcases List.mem_append.1 hk with h1 | h1
    · exact (hglb k h1).2
    · exact HH.out.lt1 hk1 k h1
  have hb1 : IsBuf 58 (gl ++ M) w1 q l := (HH.out.bf.old fun k hk => by
    rcases List.mem_append.1 hk with h1 | h1
    · exact .inr (hglb k h1).1
    · exact .inl h1).kept hk1 (by simpa using HH.out.ne.symm) (fun k hk => List.mem_append_right _ (HH.out.pk k hk))
  have c2 := K2 w1 (hk1.mono (by simp))
  go_wp2_with fail
  refine (H2 _ gl hk1 hb1 hlt1).mono ?_
  rintro e w2 ⟨Ab, cb, rfl, ho2, hk2, hl2⟩
  have hl2 := hl2.old (N := gl ++ M) (fun k hk => .inl (List.mem_append_right _ hk))
  have hl12 : IsLn (gl ++ M) w2 p l9 := hl1.kept hk2 (by simpa using HH.out.ne) (fun k hk => List.mem_append_right _ (HH.out.qk k hk))
  have ho12 := own_keptP ho1 hk2 (Nat.lt_of_lt_of_le hql hx0.size)
  have hsa := run_str (P := Try.prog) Try.underlying25 Try.underlying5 Try.underlying9 ho12.bs s9.length ca rfl
  have hsb := run_str (P := Try.prog) Try.underlying25 Try.underlying5 Try.underlying9 ho2.bs s9.length cb rfl
  have hpg : p ∉ gl := fun hm => by have := (hglb p hm).1; have := hx0.size; omega
  have hqg : q ∉ gl := fun hm => by have := (hglb q hm).1; have := hx0.size; omega
  have hmg : 0 ∉ gl := fun hm => by have := (hglb _ hm).1; have := HH.out.ml.lt; omega
  have hkz : Kept [p, q] w w2 := (Kept.of_ext (M := [p, q]) hx0).trans ((hk1.mono (by simp)).trans (hk2.mono (by simp)))
  have hT2 : Two (gl ++ M) w2 p q l9 := ⟨hl12, hl2, List.mem_append_right _ HH.out.pM, List.mem_append_right _ HH.out.qM, fun k hk => Nat.lt_of_lt_of_le (hlt1 k hk) hk2.size, HH.out.ne, by omega, (HH.out.ml.kept hk1 (by simpa using HH.out.mp)).kept hk2 (by simpa using HH.out.mq), HH.out.mp, HH.out.mq⟩
  have HT2 := Lib.hid hT2
  have HKZ := Lib.hid hkz
  have HO := Lib.hid ho12
  have hs9 : s9.length ≤ 9223372036854775807 := Nat.le_trans ho12.cap.1 ho12.cap.2
  clear H1 H2 hk1 hl1 hk2 hl2 hb1 hl12 ho1 ho12 ho2 hT2 hkz K2 k2 c2 hlt1
  go_wp2
  clear hsa hsb
  go_loopw [18] (fun i wr => ∃ (k : Nat) (l' : List UInt8), i = .int .i64 k ∧ k ≤ s9.length ∧ Kept gl w2 wr ∧ Own wr w0.heap.size (.slice Aa s9.length ca) l' ∧ l'.length = s9.length) (fun i _ => s9.length - (intOf i).toNat)
  case atStart => exact ⟨0, s9, rfl, by omega, Kept.refl _ _, HO.out, rfl⟩
  case round =>
    obtain ⟨k, l', rfl, hk, hkr, hor, hll⟩ := hrel
    by_cases hlt : k < s9.length
    · obtain ⟨g9, rfl, hg91, hg92⟩ := hor.some_ (by omega)
      have hlt' : k < l'.length := by omega
      have hc := hor.cell hlt'
      have hfr := hor.free k
      have hlt2 : (k : Int) < s9.length := by omega
      obtain ⟨y, hy⟩ := xor_one l'[k]
      have hset := hor.set k y
      have hgm : g9 ∈ gl := by rw [HGL.out]; simp [Value.ownBlock]
      generalize l'[k].toNat = x at *
      have HS := Lib.hid hset
      have HY := Lib.hid hy
      have HLL := Lib.hid hll
      clear hset hy hll
      have hy := HY.out
      go_wp2
      go_roundw
      case rel => exact ⟨k + 1, l'.set k y, by go_num, by omega, hkr.setCell (.inl hgm) _, HS.out, by rw [List.length_set]; exact HLL.out⟩
      case measure => simp [intOf]; omega
    · have hlt2 : ¬ (k : Int) < s9.length := by omega
      have ht := (HT2.out.kept hkr hpg hqg (fun k hk => List.mem_append_left _ hk) hmg).old (N := M) (fun k hk => .inl (List.mem_append_right _ hk)) HH.out.pM HH.out.qM (fun k hk => Nat.lt_of_lt_of_le (HT2.out.lt k (List.mem_append_right _ hk)) hkr.size)
      have hkz : Kept [p, q] w wr := ((HKZ.out.mono (N := [p, q] ++ gl) (fun k hk => List.mem_append_left _ hk)).trans (hkr.mono fun k hk => List.mem_append_right _ hk)).less fun k hk hlt => by
        rcases List.mem_append.1 hk with h | h
        · exact h
        · have := (hglb k h).1
          have := hx0.size
          omega
      clear hkr hor hll
      have hWt := fun W (hx : Ext wr W) => LWait_any W (ht.ln.ext hx)
      obtain ⟨zA, zc, zr, -⟩ := id ht.bf
      have z0 := (row1_cell zr).1
      have HF := Lib.hid (show ∀ m, Did M w p q (.returned (.bool true)) ((wr).drewN m) from fun m => ⟨rfl, _, ht.ext ((Ext.refl _).drewN m), hkz.drewN m⟩)
      clear zr ht hkz
      unfold pt at hWt
      go_wp2_with fail
      go_quiet ((go_at_call 13; exact Calls.quiet_of_same (hWt _ (by first | exact Ext.refl _ | exact (Ext.refl _).drewN _))))
      go_wp2
      go_ret
      exact HF.out _
set_option maxHeartbeats 4000000 in
set_option maxRecDepth 100000 in
theorem do_feed (p q : Nat) (d : De) (A1 : Option Addr) (c1 : Nat) (M : List Nat) (l : List UInt8) (w : World) (h : Two M w p q l) (hby : BsM M w A1 d.by_) (hbl : d.by_.length ≤ 140737488351232) (hd : d.do_ = 0) :
    Calls Try.prog 22 #[pt p, pt q, dv d A1 c1] w (Did M w p q) := by
  obtain ⟨w0, hw0⟩ : ∃ w0, w0 = w.alloc (.cells #[.int .i64 d.do_, .slice A1 d.by_.length c1, .int .i64 d.n] 48) := ⟨_, rfl⟩
  have hx0 : Ext w w0 := hw0 ▸ (Ext.refl w).alloc _
  have hrow0 : w0.heap[w.heap.size]? = some (.cells #[.int .i64 d.do_, .slice A1 d.by_.length c1, .int .i64 d.n] 48 (0, 0)) := hw0 ▸ heap_alloc_new w _
  have hlt := h.lt
  have hpl := hlt p h.pM
  have hql := hlt q h.qM
  have hg5 : w.heap.size ∉ [p, q] := by simp; omega
  have h0 := h.ext hx0
  obtain ⟨k0, k1, k2, kf⟩ := row3_at hrow0
  have e0 : (d.do_ == 0) = true := by rw [hd]; rfl
  have hby0 := hby.bs.ext hx0
  have hem := Own.empty w0 w0.heap.size (Nat.le_refl _)
  have z0 : w0.heap.size = w.heap.size + 1 := by rw [hw0]; simp
  rw [z0] at hem
  have z1 : w0.heap.size ≤ w.heap.size + 1 := by omega
  have z2 : w.heap.size + 1 ≤ w0.heap.size := by omega
  have HH := Lib.hid h0
  have hln := h0.len
  have HR0 := Lib.hid hrow0
  have HBM := Lib.hid (BsM.kept hby (.of_ext hx0))
  have HBY := Lib.hid hby0
  clear h h0 hd k1 k2 kf hrow0 hlt hby z0
  unfold pt dv
  go_enter Try.func22, Try.ntmps22
  go_wp2_with (at_builtin; refine unstop ?_)
  rw [← hw0]
  have HW0 := Lib.hid hw0
  clear hw0
  have hxe := (Ext.refl w0).alloc (.cells #[] 5)
  refine go_on (wpList_appB bytesTc hem (hby0.ext hxe) rfl rfl rfl rfl rfl (by simp; omega) (by simp; omega) ?_)
  rintro v9 w9 ho9 hg9 hor9
  simp only [List.nil_append] at ho9
  have hx9 : Ext w0 w9 := Ext.own hxe hem z1 hg9
  obtain ⟨A9, c9, rfl⟩ := ho9.form
  obtain ⟨gl, hgl⟩ : ∃ gl, gl = (Value.slice A9 d.by_.length c9).ownBlock.toList := ⟨_, rfl⟩
  have hglb : ∀ k ∈ gl, w0.heap.size ≤ k ∧ k < w9.heap.size := fun k hk => by have := ho9.lt k (by rw [hgl] at hk; simpa using hk); omega
  have HGL := Lib.hid hgl
  have hnew : ∀ k ∈ gl ++ M, k ∈ M ∨ w0.heap.size ≤ k := fun k hk => by
    rcases List.mem_append.1 hk with h1 | h1
    · exact .inr (hglb k h1).1
    · exact .inl h1
  have hT : Two (gl ++ M) w9 p q l := HH.out.grow hx9 hnew (List.mem_append_right _ HH.out.pM) (List.mem_append_right _ HH.out.qM) (fun k hk => by
    rcases List.mem_append.1 hk with h1 | h1
    · exact (hglb k h1).2
    · exact Nat.lt_of_lt_of_le (HH.out.lt k h1) hx9.size)
  have hpg : p ∉ gl := fun hm => by have := (hglb p hm).1; omega
  have hqg : q ∉ gl := fun hm => by have := (hglb q hm).1; omega
  have hmg : 0 ∉ gl := fun hm => by have := (hglb _ hm).1; have := HH.out.ml.lt; omega
  have hb9 := HBY.out.ext hx9
  have H1 := fun W (hx : Ext w9 W) => LFeed_any W (hT.ext hx).ln (hT.ext hx).pM (hT.ext hx).lt hT.len A9 c9 d.by_ (ho9.bs.ext hx)
  have H2 := fun W (hk : Kept [p] w9 W) (hb : Bs W A1 d.by_) => RFeed_any W (hT.half hk) hT.qM (hT.lt1 hk) hT.len A1 c1 d.by_ hb hbl
  have HB1 := Lib.hid (fun W (hk : Kept [p] w9 W) => BsM.bs (BsM.kept (SlM.old (HBM.out) (fun k hk => hnew k (List.mem_append_right _ hk)) |> fun h => BsM.kept h (.of_ext hx9)) (hk.mono (by simpa using HH.out.pM))))
  have hr9 := hx9.obj HR0.out
  have K1 := fun w' (hk : Kept [p, q] w9 w') => (row3_at (hk.heap hr9 hg5)).2.1
  have HT9 := Lib.hid hT
  have HO9 := Lib.hid ho9
  have HX9 := Lib.hid (hx0.trans hx9)
  have hfl := feedL_le l d.by_ hln
  unfold pt at H1 H2
  generalize feedL l d.by_ = l9 at *
  generalize feedE l d.by_ = E9 at *
  clear hem hg9 hor9 ho9 hT hr9 hxe hnew hby0 hb9 hgl
  go_wp2_with fail
  go_region_held3 (fun w' => Kept [p, q] w9 w') (first | exact (Kept.refl _ _).drew | assumption) ((first
    | (go_at_call 11; refine (H1 _ (Ext.refl _).drew).mono ?_; rintro e w1 ⟨rfl, hk1, hl1⟩; have hk1 := (Kept.of_ext (M := [p]) (Ext.refl w9).drew).trans hk1; have hk1' : Kept [p, q] w9 w1 := hk1.mono (by simp))
    | (go_at_call 31; refine (H2 _ hk1 (HB1.out _ hk1)).mono ?_; rintro e w2 ⟨rfl, hk2, hl2⟩; have hk2' : Kept [p, q] w9 w2 := hk1'.trans (hk2.mono (by simp)))))
  obtain ⟨hT2, hkz⟩ := HT9.out.full hk1 hl1 hk2 hl2 hfl
  have ho2 := own_keptN HO9.out hkz (fun k hk => by
    have h1 : k ∈ gl := by rw [HGL.out]; simpa using hk
    have := (hglb k h1).1
    simp
    omega)
  have HT2 := Lib.hid hT2
  have HKZ := Lib.hid ((Kept.of_ext (M := [p, q]) HX9.out).trans hkz)
  have HO2 := Lib.hid ho2
  clear H1 H2 hk1 hk1' hk2 hk2' hl1 hl2 hT2 hkz ho2 K1
  generalize d.by_ = s9 at *
  go_wp2
  go_loopw [9] (fun i wr => ∃ (k : Nat) (l' : List UInt8), i = .int .i64 k ∧ k ≤ s9.length ∧ Kept gl w2 wr ∧ Own wr (w.heap.size + 1) (.slice A9 s9.length c9) l' ∧ l'.length = s9.length) (fun i _ => s9.length - (intOf i).toNat)
  case atStart => exact ⟨0, s9, rfl, by omega, Kept.refl _ _, HO2.out, rfl⟩
  case round =>
    obtain ⟨k, l', rfl, hk, hkr, hor, hll⟩ := hrel
    by_cases hlt : k < s9.length
    · obtain ⟨g9, rfl, hg91, hg92⟩ := hor.some_ (by omega)
      have hlt' : k < l'.length := by omega
      have hc := hor.cell hlt'
      have hfr := hor.free k
      have hlt2 : (k : Int) < s9.length := by omega
      obtain ⟨y, hy⟩ := xor_one l'[k]
      have hset := hor.set k y
      have hgm : g9 ∈ gl := by rw [HGL.out]; simp [Value.ownBlock]
      generalize l'[k].toNat = x at *
      have HS := Lib.hid hset
      have HY := Lib.hid hy
      have HLL := Lib.hid hll
      clear hset hy hll
      have hy := HY.out
      go_wp2
      go_roundw
      case rel => exact ⟨k + 1, l'.set k y, by go_num, by omega, hkr.setCell (.inl hgm) _, HS.out, by rw [List.length_set]; exact HLL.out⟩
      case measure => simp [intOf]; omega
    · have hlt2 : ¬ (k : Int) < s9.length := by omega
      have ht := (HT2.out.kept hkr hpg hqg (fun k hk => List.mem_append_left _ hk) hmg).old (N := M) (fun k hk => .inl (List.mem_append_right _ hk)) HH.out.pM HH.out.qM (fun k hk => Nat.lt_of_lt_of_le (HT2.out.lt k (List.mem_append_right _ hk)) hkr.size)
      have hkz : Kept [p, q] w wr := ((HKZ.out.mono (N := [p, q] ++ gl) (fun k hk => List.mem_append_left _ hk)).trans (hkr.mono fun k hk => List.mem_append_right _ hk)).less fun k hk hlt => by
        rcases List.mem_append.1 hk with h | h
        · exact h
        · have := (hglb k h).1
          have := hx0.size
          omega
      clear hkr hor hll
      have hWt := fun W (hx : Ext wr W) => LWait_any W (ht.ln.ext hx)
      obtain ⟨zA, zc, zr, -⟩ := id ht.bf
      have z0 := (row1_cell zr).1
      have HF := Lib.hid (show ∀ m, Did M w p q (.returned (.bool true)) ((wr).drewN m) from fun m => ⟨rfl, _, ht.ext ((Ext.refl _).drewN m), hkz.drewN m⟩)
      clear zr ht hkz
      unfold pt at hWt
      go_wp2_with fail
      go_quiet ((go_at_call 13; exact Calls.quiet_of_same (hWt _ (by first | exact Ext.refl _ | exact (Ext.refl _).drewN _))))
      go_wp2
      go_ret
      exact HF.out _
end Go.Proofs.Ytlfieggioomoiaa
