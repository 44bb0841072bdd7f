/- The walks of addr.long and addr.bare. Conditions: the bounds named. -/
import Derived.Test.YtchokelpimibdaaAd1
import Derived.Test.YtchokelpimibdaaText9
import Derived.Test.YtchokelpimibdaaRet
namespace Go.Proofs.Ytchokelpimibdaa
open Go.RowKit
def LSays (l : List UInt8) (w : World) (e : Ending) (w' : World) : Prop := e = .returned (.tuple #[.string (st (longT l).1), .int .i64 ((longT l).2.1 : Nat), .int .i64 ((longT l).2.2.1 : Nat), .int .i64 ((longT l).2.2.2 : Nat)]) ∧ Ext w w'
structure LAt (l : List UInt8) (pos place : Nat) (sign : Bool) (out : List UInt8) : Prop where
  le : pos ≤ l.length
  num : place ≤ pos
  len : out.length ≤ pos
  eq : longT l = longF (letL (l.drop pos)) sign place out pos
  sg : place = 0 → sign = false
theorem LAt.zero (l : List UInt8) : LAt l 0 0 false [] := ⟨by omega, by omega, by simp, by simp [longT], fun _ => rfl⟩
section
variable {s : ByteArray} {pos place c W : Nat} {sign : Bool} {out : List UInt8} {w w' : World}
theorem LAt.done (h : LAt (tl s) pos place sign out) (hp : ¬ pos < s.size) (hx : Ext w w') : LSays (tl s) w (.returned (.tuple #[.string ⟨#[]⟩, .int .i64 0, .int .i64 (place : Nat), .int .i64 3])) w' := by
  unfold LSays
  rw [h.eq, let_done hp]
  exact ⟨rfl, hx⟩
theorem LAt.bad (h : LAt (tl s) pos place sign out) (hp : pos < s.size) (hc : (Utf8.decode s pos).1 = c) (hW : (Utf8.decode s pos).2 = W)
    (hb : (c < 32 ∨ 126 < c) ∨ (sign = true ∧ c ≠ 34 ∧ c ≠ 92)) (hx : Ext w w') : LSays (tl s) w (.returned (.tuple #[.string ⟨#[]⟩, .int .i64 0, .int .i64 (place : Nat), .int .i64 4])) w' := by
  obtain ⟨b, hb1, hb2, hb3⟩ := let_here hp hc hW
  unfold LSays
  rw [h.eq, hb3]
  unfold longF
  rw [if_pos hb]
  exact ⟨rfl, hx⟩
theorem LAt.first (h : LAt (tl s) pos 0 sign out) (hp : pos < s.size) (hc : (Utf8.decode s pos).1 = c) (hW : (Utf8.decode s pos).2 = W) (h1 : 1 ≤ W)
    (hg : ¬ (c < 32 ∨ 126 < c)) (hs : sign = false) : LAt (tl s) (pos + W) 1 false out := by
  obtain ⟨b, hb1, hb2, hb3⟩ := let_here hp hc hW
  have hnum := h.num
  have hlen := h.len
  refine ⟨by simpa using hb2, by omega, by omega, ?_, by omega⟩
  rw [h.eq, hb3]
  conv => lhs; unfold longF
  rw [if_neg (by simp [hs]; omega), if_pos rfl, hb1, hs]
theorem LAt.esc (h : LAt (tl s) pos place sign out) (hp : pos < s.size) (hc : (Utf8.decode s pos).1 = c) (hW : (Utf8.decode s pos).2 = W) (h1 : 1 ≤ W)
    (h0 : place ≠ 0) (hc92 : c = 92) (hs : sign = false) : LAt (tl s) (pos + W) (place + 1) true out := by
  obtain ⟨b, hb1, hb2, hb3⟩ := let_here hp hc hW
  have hnum := h.num
  have hlen := h.len
  refine ⟨by simpa using hb2, by omega, by omega, ?_, by omega⟩
  rw [h.eq, hb3]
  conv => lhs; unfold longF
  rw [if_neg (by simp [hs]; omega), if_neg h0, if_pos ⟨hs, hc92⟩, hb1]
theorem LAt.more (h : LAt (tl s) pos place sign out) (hp : pos < s.size) (hc : (Utf8.decode s pos).1 = c) (hW : (Utf8.decode s pos).2 = W) (h1 : 1 ≤ W)
    (hg : ¬ (c < 32 ∨ 126 < c)) (h0 : place ≠ 0) (hs : (sign = false ∧ c ≠ 34 ∧ c ≠ 92) ∨ (sign = true ∧ (c = 34 ∨ c = 92))) : LAt (tl s) (pos + W) (place + 1) false (out ++ [UInt8.ofNat c]) := by
  obtain ⟨b, hb1, hb2, hb3⟩ := let_here hp hc hW
  have hnum := h.num
  have hlen := h.len
  refine ⟨by simpa using hb2, by omega, by simp; omega, ?_, by omega⟩
  rw [h.eq, hb3]
  conv => lhs; unfold longF
  rw [if_neg (by rcases hs with ⟨hs, h2, h3⟩ | ⟨hs, h2 | h2⟩ <;> simp [hs, h2] <;> omega), if_neg h0, if_neg (by rcases hs with ⟨hs, h2, h3⟩ | ⟨hs, h2⟩ <;> simp [hs]; exact h3), if_neg (by rcases hs with ⟨hs, h2, h3⟩ | ⟨hs, h2⟩ <;> simp [hs]; exact h2), hb1]
theorem LAt.fin (h : LAt (tl s) pos place sign out) (hp : pos < s.size) (hc : (Utf8.decode s pos).1 = c) (hW : (Utf8.decode s pos).2 = W)
    (h0 : place ≠ 0) (hs : sign = false) (hc34 : c = 34) (hx : Ext w w') : LSays (tl s) w (.returned (.tuple #[.string (st out), .int .i64 ((pos + 1 : Nat) : Int), .int .i64 0, .int .i64 0])) w' := by
  obtain ⟨b, hb1, hb2, hb3⟩ := let_here hp hc hW
  unfold LSays
  rw [h.eq, hb3]
  unfold longF
  rw [if_neg (by simp [hs, hc34]), if_neg h0, if_neg (by simp [hc34]), if_pos ⟨hs, hc34⟩]
  exact ⟨rfl, hx⟩
end
set_option maxRecDepth 20000 in
set_option maxHeartbeats 1600000 in
theorem long_any (s : ByteArray) (w : World) (hs : s.size ≤ 140737488355320) : Calls Try.prog 32 #[.string s] w (LSays (tl s) w) := by
  have hit0 : It (w.iter s 0) w.heap.size s 0 := World.iter_heap w s 0
  have hxi : Ext w (w.iter s 0) := (Ext.refl w).alloc _
  go_enter Try.func32, Try.ntmps32
  go_wp2
  go_loopw [6, 7, 8] (fun o sg p wr => ∃ pos place sign out, p = .int .i64 (place : Nat) ∧ sg = .bool sign ∧ LAt (tl s) pos place sign out ∧ It wr w.heap.size s pos ∧ Own wr w.heap.size o out ∧ Ext w wr) (fun _ _ _ wr => s.size - wr.iterPos w.heap.size)
  case atStart => exact ⟨0, 0, false, [], rfl, rfl, LAt.zero _, hit0, Own.nil _ _, hxi⟩
  case round =>
    obtain ⟨pos, place, sign, out, rfl, rfl, hat, hit, hown, hx⟩ := hrel
    clear hit0 hxi
    have HAT := Lib.hid hat
    have HPOS := Lib.hid (iterPos_of hit)
    have hle : pos ≤ s.size := by have := hat.le; simpa using this
    have hnum := hat.num
    have hol := hat.len
    clear hat
    obtain ⟨A, cap, rfl⟩ := hown.form
    by_cases hlt : pos < s.size
    · have hnx := hit.next hlt
      have hit2 := hit.at_ (pos + (Utf8.decode s pos).2)
      have hx2 := hx.iterAt (pos := pos + (Utf8.decode s pos).2) (s := s) (Nat.le_refl w.heap.size)
      have hown2 : Own (wr.iterAt w.heap.size s (pos + (Utf8.decode s pos).2)) w.heap.size (.slice A out.length cap) out := own_iter hown hit _
      have hp1 := dec_pos s pos hlt
      obtain ⟨c, hc⟩ : ∃ c, c = (Utf8.decode s pos).1 := ⟨_, rfl⟩
      obtain ⟨W, hWd⟩ : ∃ W, W = (Utf8.decode s pos).2 := ⟨_, rfl⟩
      rw [← hc] at hnx
      rw [← hWd] at hnx hit2 hx2 hown2 hp1
      have HC := Lib.hid hc
      have HW := Lib.hid hWd
      have HPOS2 := Lib.hid (iterPos_of hit2)
      clear hc hWd hit hx hown
      by_cases hb1 : (c : Int) < 32
      · go_wp2
        ((try simp only [Exit.inBlock, Exit.then]); refine bodyPost_ret (results_tmp4 rfl _ _ _) rfl ?_)
        exact HAT.out.bad hlt HC.out.symm HW.out.symm (.inl (.inl (by omega))) hx2
      · by_cases hb2 : (126 : Int) < c
        · go_wp2
          ((try simp only [Exit.inBlock, Exit.then]); refine bodyPost_ret (results_tmp4 rfl _ _ _) rfl ?_)
          exact HAT.out.bad hlt HC.out.symm HW.out.symm (.inl (.inr (by omega))) hx2
        · have HG : Hid (¬ (c < 32 ∨ 126 < c)) := Lib.hid (by omega)
          have hcw : IntKind.u8.wrap (c : Int) = (c : Int) := IntWalk.u8_in _ (by omega)
          have hcn : ((UInt8.ofNat c).toNat : Int) = (c : Int) := by simp; omega
          by_cases hp0 : place = 0
          · subst hp0
            cases sign
            · go_wp2
              go_roundw
              case rel => exact ⟨pos + W, _, _, _, by simp, rfl, HAT.out.first hlt HC.out.symm HW.out.symm hp1 HG.out rfl, hit2, hown2, hx2⟩
              case measure => rw [HPOS2.out, HPOS.out]; omega
            · exact absurd (HAT.out.sg rfl) (by decide)
          · have hp0i : ((place : Int) == 0) = false := beq_eq_false_iff_ne.2 (by omega)
            have HP0 := Lib.hid hp0
            clear hp0
            by_cases h34 : c = 34
            · have n34 : ((c : Int) != 34) = false := by rw [h34]; rfl
              have q34 : ((c : Int) == 34) = true := by rw [h34]; rfl
              have q92 : ((c : Int) == 92) = false := by rw [h34]; rfl
              have H34 := Lib.hid h34
              clear h34
              cases sign
              · have hcv := conv_str hown2.bs out.length cap rfl
                obtain ⟨zz, hzz⟩ : ∃ z, z = st out := ⟨_, rfl⟩
                rw [← hzz] at hcv
                have HZ := Lib.hid hzz
                clear hzz
                go_wp2
                ((try simp only [Exit.inBlock, Exit.then]); refine bodyPost_ret (results_tmp4 rfl _ _ _) rfl ?_)
                have := HAT.out.fin hlt HC.out.symm HW.out.symm HP0.out rfl H34.out hx2
                rw [HZ.out]
                simpa using this
              · go_wp2_with (at_builtin; refine unstop ?_)
                refine go_on (wpList_appB bytesTr (hown2.alloc _) (Bs.new _ [UInt8.ofNat c] _ (by rw [← hcn]; rfl) _ _) rfl rfl rfl rfl rfl (by simp only [List.length_cons, List.length_nil]; omega) (by have := hx2.size; simp; omega) ?_)
                intro v5 w5 hown5 hgr5 _
                have hx5 : Ext w w5 := Ext.own (hx2.alloc _) (hown2.alloc _) (Nat.le_refl _) hgr5
                have hit5 := It.grown (hit2.ext (Ext.alloc (Ext.refl _) _)) (hown2.alloc _) hgr5
                have HPOS5 := Lib.hid (iterPos_of hit5)
                clear hgr5
                go_wp2
                go_roundw
                case rel => exact ⟨pos + W, _, _, _, by simp, rfl, HAT.out.more hlt HC.out.symm HW.out.symm hp1 HG.out HP0.out (.inr ⟨rfl, .inl H34.out⟩), hit5, hown5, hx5⟩
                case measure => rw [HPOS5.out, HPOS.out]; omega
            · have n34 : ((c : Int) != 34) = true := by simp; omega
              have q34 : ((c : Int) == 34) = false := beq_eq_false_iff_ne.2 (by omega)
              have H34 := Lib.hid h34
              clear h34
              by_cases h92 : c = 92
              · have n92 : ((c : Int) != 92) = false := by rw [h92]; rfl
                have q92 : ((c : Int) == 92) = true := by rw [h92]; rfl
                have H92 := Lib.hid h92
                clear h92
                cases sign
                · go_wp2
                  go_roundw
                  case rel => exact ⟨pos + W, _, _, _, by simp, rfl, HAT.out.esc hlt HC.out.symm HW.out.symm hp1 HP0.out H92.out rfl, hit2, hown2, hx2⟩
                  case measure => rw [HPOS2.out, HPOS.out]; omega
                · go_wp2_with (at_builtin; refine unstop ?_)
                  refine go_on (wpList_appB bytesTr (hown2.alloc _) (Bs.new _ [UInt8.ofNat c] _ (by rw [← hcn]; rfl) _ _) rfl rfl rfl rfl rfl (by simp only [List.length_cons, List.length_nil]; omega) (by have := hx2.size; simp; omega) ?_)
                  intro v5 w5 hown5 hgr5 _
                  have hx5 : Ext w w5 := Ext.own (hx2.alloc _) (hown2.alloc _) (Nat.le_refl _) hgr5
                  have hit5 := It.grown (hit2.ext (Ext.alloc (Ext.refl _) _)) (hown2.alloc _) hgr5
                  have HPOS5 := Lib.hid (iterPos_of hit5)
                  clear hgr5
                  go_wp2
                  go_roundw
                  case rel => exact ⟨pos + W, _, _, _, by simp, rfl, HAT.out.more hlt HC.out.symm HW.out.symm hp1 HG.out HP0.out (.inr ⟨rfl, .inr H92.out⟩), hit5, hown5, hx5⟩
                  case measure => rw [HPOS5.out, HPOS.out]; omega
              · have n92 : ((c : Int) != 92) = true := by simp; omega
                have q92 : ((c : Int) == 92) = false := beq_eq_false_iff_ne.2 (by omega)
                have H92 := Lib.hid h92
                clear h92
                cases sign
                · go_wp2_with (at_builtin; refine unstop ?_)
                  refine go_on (wpList_appB bytesTr (hown2.alloc _) (Bs.new _ [UInt8.ofNat c] _ (by rw [← hcn]; rfl) _ _) rfl rfl rfl rfl rfl (by simp only [List.length_cons, List.length_nil]; omega) (by have := hx2.size; simp; omega) ?_)
                  intro v5 w5 hown5 hgr5 _
                  have hx5 : Ext w w5 := Ext.own (hx2.alloc _) (hown2.alloc _) (Nat.le_refl _) hgr5
                  have hit5 := It.grown (hit2.ext (Ext.alloc (Ext.refl _) _)) (hown2.alloc _) hgr5
                  have HPOS5 := Lib.hid (iterPos_of hit5)
                  clear hgr5
                  go_wp2
                  go_roundw
                  case rel => exact ⟨pos + W, _, _, _, by simp, rfl, HAT.out.more hlt HC.out.symm HW.out.symm hp1 HG.out HP0.out (.inl ⟨rfl, H34.out, H92.out⟩), hit5, hown5, hx5⟩
                  case measure => rw [HPOS5.out, HPOS.out]; omega
                · go_wp2
                  ((try simp only [Exit.inBlock, Exit.then]); refine bodyPost_ret (results_tmp4 rfl _ _ _) rfl ?_)
                  exact HAT.out.bad hlt HC.out.symm HW.out.symm (.inr ⟨rfl, H34.out, H92.out⟩) hx2
    · have hst := hit.stop hlt
      go_wp2
      ((try simp only [Exit.inBlock, Exit.then]); refine bodyPost_ret (results_tmp4 rfl _ _ _) rfl ?_)
      exact HAT.out.done hlt hx
/-- a local part without signs -/
def bareF : List (Nat × List UInt8) → Nat → Bool
  | [], s => decide (s = 1)
  | (c, _) :: ds, s => if (nextS s c 0).2 = false ∨ (nextS s c 0).1 = 6 then false else bareF ds (nextS s c 0).1
def bareT (l : List UInt8) : Bool := bareF (letL l) 0
end Go.Proofs.Ytchokelpimibdaa
