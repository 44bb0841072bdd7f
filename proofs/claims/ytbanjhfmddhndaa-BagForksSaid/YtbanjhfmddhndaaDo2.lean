/- The walk of the law's do where a message is taken. Conditions: those of IsBag, IsRB, St; both bags are older than the call. -/
import Derived.Test.YtbanjhfmddhndaaDo
namespace Go.Proofs.Ytbanjhfmddhndaa
open Go.RowKit
attribute [local go_sem] pt uv
theorem takeU_len {n : Nat} {b : Bg} {r : Rg} (h : St n b r) (i : Int) : (takeU b i).by_.length ≤ 2006 := by
  unfold takeU
  split
  · rename_i h1
    rw [List.getD_eq_getElem?_getD, List.getElem?_eq_getElem (by omega)]
    exact h.by_ _ (List.getElem_mem _)
  · simp [zeroUn]
set_option maxHeartbeats 4000000 in
set_option maxRecDepth 100000 in
theorem do_take (p q n : Nat) (c : C) (A : Option Addr) (cap : Nat) (b : Bg) (r : Rg) (M : List Nat) (w : World) (h : Two M w p q n b r) (hn : n ≤ 1000) (hd : c.do_ = 1) (hi : c.i ≤ 9223372036854775807) :
    Calls Try.prog 19 #[pt p, pt q, cv c A cap] w (Did M w p q (n + 1)) := by
  obtain ⟨w0, hw0⟩ : ∃ w0, w0 = w.alloc (.cells (cl c A cap) 34) := ⟨_, rfl⟩
  have hx0 : Ext w w0 := hw0 ▸ (Ext.refl w).alloc _
  have hrow0 : w0.heap[w.heap.size]? = some (.cells #[.int .i64 c.do_, .int .i64 c.u.from_, .int .i64 c.u.to_, .slice A c.u.by_.length cap, .int .i64 c.i, .bool c.keep] 34 (0, 0)) := hw0 ▸ heap_alloc_new w _
  have hne := h.ne
  have hplt := h.lt p h.p
  have hqlt := h.lt q h.q
  obtain ⟨k0, k1, k2, k3, k4, k5, kf⟩ := row6_at hrow0
  have hg5 : w.heap.size ∉ [p, q] := by simp; omega
  have e0 : (c.do_ == 0) = false := by rw [hd]; rfl
  have e1 : (c.do_ == 1) = true := by rw [hd]; rfl
  have h' := h.ext hx0
  have HH := Lib.hid h'
  have K4 := kcell k4 hg5
  have K5 := kcell k5 hg5
  have hbl : (takeU b c.i).by_.length ≤ 140737488351232 := by have := takeU_len h.st c.i; omega
  have H1 := Take_any p c.i c.keep b M w0 h'.bag h'.lt h.p (h.st.small (by omega))
  have HR : ∀ W gl, (∀ k ∈ gl, w0.heap.size ≤ k ∧ k < W.heap.size) → Kept [p] w0 W → Calls Try.prog 29 #[.pointer (some ⟨q, 0, none⟩), .int .i64 c.i, .bool c.keep] W fun e w' => ∃ A c', e = .returned (.tuple #[uv (takeU b c.i) A c', .int .i64 (takeE b c.i)]) ∧ BsM (gl ++ M) w' A (takeU b c.i).by_ ∧ Kept [q] W w' ∧ ∃ r', IsRB (gl ++ M) w' q r' ∧ St (n + 1) (takeB b c.i c.keep) r' := by
    intro W gl hgl hk
    refine RTake_any q c.i c.keep r (gl ++ M) W ((h'.ref.old (fun k hk => ?_)).kept hk (by simpa using hne.symm) (by simpa using Or.inr h.p)) (fun k hk' => ?_) (List.mem_append_right _ h.q) h.st (by omega) hi
    · rcases List.mem_append.1 hk with h1 | h1
      · exact .inr (hgl k h1).1
      · exact .inl h1
    · rcases List.mem_append.1 hk' with h1 | h1
      · exact (hgl k h1).2
      · have := h'.lt k h1; have := hk.size; omega
  generalize takeE b c.i = te at *
  generalize takeU b c.i = u at *
  generalize takeB b c.i c.keep = b1 at *
  clear h h' hd k1 k2 k3 k4 k5 hrow0
  unfold pt at H1
  unfold pt cv
  unfold cl at hw0
  go_enter Try.func19, Try.ntmps19
  go_wp2_with fail
  rw [← hw0]
  have HW0 := Lib.hid hw0
  clear hw0
  refine H1.mono ?_
  rintro e w1 ⟨A9, c9, rfl, ho1, hk1, hb1⟩
  obtain ⟨gl, hgl⟩ : ∃ gl, gl = (Value.slice A9 u.by_.length c9).ownBlock.toList := ⟨_, rfl⟩
  rw [← hgl] at hb1
  have hglb : ∀ k ∈ gl, w0.heap.size ≤ k ∧ k < w1.heap.size := by
    intro k hk
    rw [hgl] at hk
    exact ho1.lt k (by simpa using hk)
  have HGL := Lib.hid hgl
  have hk1' : Kept [p, q] w0 w1 := hk1.mono (by simp)
  have hs0 := hx0.size
  have hs1 := hk1.size
  clear hgl H1
  unfold uv
  go_wp2_with fail
  have hx1 : Ext w1 (w1.alloc (.cells #[.int .i64 u.from_, .int .i64 u.to_, .slice A9 u.by_.length c9] 30)) := (Ext.refl w1).alloc _
  have R10 := heap_alloc_new w1 (.cells #[.int .i64 u.from_, .int .i64 u.to_, .slice A9 u.by_.length c9] 30)
  generalize w1.alloc (.cells #[.int .i64 u.from_, .int .i64 u.to_, .slice A9 u.by_.length c9] 30) = w1a at *
  refine (HR w1a gl (fun k hk => by have := hglb k hk; have := hx1.size; omega) (hk1.ext hx1)).mono ?_
  rintro e w2 ⟨A4, c4, rfl, hby4, hk2, r1, hr2, hst2⟩
  have hg10 : w1.heap.size ∉ [q] := by simp; omega
  have R10b := hk2.heap R10 hg10
  obtain ⟨d0, d1, d2, df⟩ := rows3 R10b
  have hqgl : q ∉ gl := fun hm => by have := (hglb _ hm).1; omega
  have hpgl : p ∉ gl := fun hm => by have := (hglb _ hm).1; omega
  have ho2 : Own w2 w0.heap.size (.slice A9 u.by_.length c9) u.by_ := own_keptN (ho1.ext hx1) hk2 (fun k hk => by
    have : k ∈ gl := by rw [HGL.out]; simp [hk]
    simp
    rintro rfl
    exact hqgl this)
  have hpM : p ∈ gl ++ M := List.mem_append_right _ HH.out.p
  have hqM : q ∈ gl ++ M := List.mem_append_right _ HH.out.q
  have hb2 := (hb1.ext hx1).kept hk2 (by simpa using hne) (by simpa using hqM)
  have hkw2 : Kept [p, q] w w2 := ((Kept.of_ext hx0).trans (hk1'.ext hx1)).trans (hk2.mono (by simp))
  have HS := fun W (hx : Ext w2 W) => Same_any u u A9 A4 c9 c4 W (ho2.bs.ext hx) (hby4.bs.ext hx)
  rw [sameU_refl] at HS
  unfold uv at HS
  unfold uv
  have HPM := Lib.hid hpM
  have HQM := Lib.hid hqM
  have hs2 := hkw2.size
  have hMlt : ∀ k ∈ M, k < w2.heap.size := fun k hk => by have := HH.out.lt k hk; have := hx1.size; have := hk2.size; omega
  have HMLT := Lib.hid hMlt
  clear HR K4 K5 hb1 hk1 hk2 R10 ho1 hpM hqM hby4 hMlt
  go_wp2_with fail
  have hx2a := (Ext.refl w2).alloc (.cells #[.int .i64 u.from_, .int .i64 u.to_, .slice A4 u.by_.length c4] 30)
  refine (HS _ hx2a).mono ?_
  rintro e w3 ⟨rfl, hx3⟩
  have hx23 : Ext w2 w3 := hx2a.trans hx3
  have ho := ho2.ext hx23
  have R3 := hx23.obj R10b
  have hg10g : w1.heap.size ∉ gl := fun hm => by have := (hglb _ hm).2; omega
  have K8c := fun w' (k : Kept gl w3 w') => (row3_at (k.heap R3 hg10g)).2.2.1
  have hb3 := hb2.ext hx23
  have hr3 := hr2.ext hx23
  have hkw3 : Kept [p, q] w w3 := hkw2.ext hx23
  have hs3 := hx23.size
  have HST := Lib.hid hst2
  clear HS d0 d1 d2 df R10b R3 ho2 hb2 hr2 hkw2 hst2
  have hlen0 : u.by_.length ≤ 140737488351232 := hbl
  generalize hl0 : u.by_ = l0 at *
  have HL0 := Lib.hid hl0
  clear hl0
  go_wp2_with fail
  go_loopw [14] (fun i wr => ∃ (k : Nat) (l' : List UInt8), k ≤ l0.length ∧ i = .int .i64 k ∧ Kept gl w3 wr ∧ Own wr w0.heap.size (.slice A9 l0.length c9) l' ∧ l'.length = l0.length) (fun i _ => l0.length - (intOf i).toNat)
  case atStart => exact ⟨0, l0, by omega, rfl, Kept.refl _ _, ho, rfl⟩
  case round =>
    obtain ⟨k, l', hk, rfl, hkr, hor, hll⟩ := hrel
    by_cases hlt : k < l0.length
    · obtain ⟨g9, rfl, hg91, hg92⟩ := hor.some_ (by omega)
      have hlt' : k < l'.length := by omega
      have hc := hor.cell hlt'
      have hfr := hor.free k
      have hck := K8c _ hkr
      have hlt2 : (k : Int) < l0.length := by omega
      have hy : ∃ y : UInt8, bits .xor .u8 (l'[k].toNat : Int) 1 = (y.toNat : Int) := by
        have h1 := l'[k].toNat_lt
        have h2 : l'[k].toNat ^^^ 1 < 256 := Nat.xor_lt_two_pow (n := 8) (by omega) (by omega)
        refine ⟨UInt8.ofNat (l'[k].toNat ^^^ 1), ?_⟩
        rw [show (1 : Int) = ((1 : Nat) : Int) from rfl, u8_xor_nat _ _ (by omega) (by omega), UInt8.toNat_ofNat']
        omega
      obtain ⟨y, hy⟩ := hy
      have hset := hor.set k y
      have hgm : g9 ∈ gl := by rw [HGL.out]; simp [Value.ownBlock]
      generalize l'[k].toNat = x at *
      have HS := Lib.hid hset
      have HY := Lib.hid hy
      have HLL := Lib.hid hll
      clear hset hy hll
      go_wp2
      go_roundw
      case rel => exact ⟨k + 1, l'.set k y, by omega, by go_num, hkr.setCell (.inl hgm) _, by rw [HY.out]; exact HS.out, by rw [List.length_set]; exact HLL.out⟩
      case measure => simp [intOf]; omega
    · have hlt2 : ¬ (k : Int) < l0.length := by omega
      have hck := K8c _ hkr
      clear hll
      have ht : Two M wr p q (n + 1) b1 r1 := ⟨(hb3.kept hkr hpgl (fun k hk => List.mem_append_left _ hk)).old (fun k hk => .inl (List.mem_append_right _ hk)), (hr3.kept hkr hqgl (fun k hk => List.mem_append_left _ hk)).old (fun k hk => .inl (List.mem_append_right _ hk)), HH.out.p, HH.out.q, fun k hk => by have := HMLT.out k hk; have := hkr.size; omega, HST.out⟩
      have hkz : Kept [p, q] w wr := ((hkw3.mono (N := [p, q] ++ gl) (by intro k hk; exact List.mem_append_left _ hk)).trans (hkr.mono (by intro k hk; exact List.mem_append_right _ hk))).less (by intro k hk hlt; rcases List.mem_append.1 hk with h | h; exact h; have := (hglb k h).1; omega)
      clear hkr hor
      have hL : ∀ W, Ext wr W → Calls Try.prog 15 #[.pointer (some ⟨p, 0, none⟩)] W fun e w' => e = .returned (.int .i64 ((b1).l.length : Nat)) ∧ w' = W := fun W hx => Len_same p _ M W (ht.bag.ext hx)
      have hRL : ∀ W, Ext wr W → Calls Try.prog 20 #[.pointer (some ⟨q, 0, none⟩)] W fun e w' => e = .returned (.int .i64 ((b1).l.length : Nat)) ∧ w' = W := fun W hx => (RLen_any q _ M W (ht.ref.ext hx) (by have := ht.st.len; have := ht.st.all; omega)).mono fun e w' ⟨h1, h2⟩ => ⟨by rw [h1, ht.st.cnt], h2.symm⟩
      have hLo : ∀ W, Ext wr W → Calls Try.prog 16 #[.pointer (some ⟨p, 0, none⟩)] W fun e w' => e = .returned (.int .i64 (b1).lost) ∧ w' = W := fun W hx => Lost_same p _ M W (ht.bag.ext hx)
      obtain ⟨zA, zc, zT, zct, z1, _⟩ := id ht.ref
      rw [← ht.st.lost] at z1
      obtain ⟨z0, z2, z3, z4, zf⟩ := rows4 z1
      have hfin : Did M w p q (n + 1) (.returned (.bool true)) wr := ⟨rfl, hkz, _, _, ht⟩
      have HF := Lib.hid (show ∀ m, Did M w p q (n + 1) (.returned (.bool true)) (wr.drewN m) from fun m => ⟨rfl, hkz.drewN m, _, _, ht.ext ((Ext.refl _).drewN m)⟩)
      generalize (b1).l.length = bl at *
      generalize (b1).lost = bo at *
      clear z1 z0 z2 z3 zf hfin ht
      go_wp2_with fail
      go_quiet ((first
        | (go_at_call 15; exact Calls.quiet_of_same (hL _ (by first | exact Ext.refl _ | exact (Ext.refl _).drewN _)))
        | (go_at_call 20; exact Calls.quiet_of_same (hRL _ (by first | exact Ext.refl _ | exact (Ext.refl _).drewN _)))
        | (go_at_call 16; exact Calls.quiet_of_same (hLo _ (by first | exact Ext.refl _ | exact (Ext.refl _).drewN _)))))
      go_wp2
      go_ret
      exact HF.out _
theorem do_any (p q n : Nat) (c : C) (A : Option Addr) (cap : Nat) (b : Bg) (r : Rg) (M : List Nat) (w : World) (h : Two M w p q n b r) (hn : n ≤ 1000) (hi : c.i ≤ 9223372036854775807) (hby : BsM M w A c.u.by_) (hbl : c.u.by_.length ≤ 140737488351232) :
    Calls Try.prog 19 #[pt p, pt q, cv c A cap] w (Did M w p q (n + 1)) := by
  by_cases h0 : c.do_ = 0
  · exact do_add p q n c A cap b r M w h hn h0 hby hbl
  · by_cases h1 : c.do_ = 1
    · exact do_take p q n c A cap b r M w h hn h1 hi
    · by_cases h2 : c.do_ = 2
      · exact do_lose p q n c A cap b r M w h hn hi h2
      · cases hf : firstL b.l c.i with
        | none => exact do_first_no p q n c A cap b r M w h hn h0 h1 h2 hf
        | some m => exact do_first_yes p q n c A cap b r M w h hn h0 h1 h2 m hf
end Go.Proofs.Ytbanjhfmddhndaa
