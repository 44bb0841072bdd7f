/- What text.Unquote tells; a rune's bytes. Conditions: the hypotheses of each theorem. The walk of the reference's Letters. Conditions: the text is at most 2^43 bytes long, and the library's two tables are laid. Plain laws: unquote of quote is the text. Conditions: the hypotheses of each theorem. The walk of the reference's Plain at one letter. Conditions: it is a letter of a text, and the library's two tables are laid. The walk of the reference's Quote. Conditions: the text is at most 2^43 bytes long, and the library's two tables are laid. The walk of the reference's Quote. Conditions: the library's two tables are laid. The walks of the reference's RightUser, Fold and RightBox. Conditions: the bounds named; the library's two tables. The reference's Same of boxes and SameUser at what is the same. Conditions: what is read stands in memory; the bounds named. -/
import Derived.Test.YthlppbbejdeeoaaGreatDoorC2
import Derived.Laws.Runes
import Derived.Lib.AppendStr
import Derived.Lib.TrimAscii
import Derived.Lib.ValidLaws
import Derived.Test.YthlppbbejdeeoaaGreatDoorC5
import Derived.BigQuiet
import Derived.Deep.QuietTactic
import Derived.Test.YthlppbbejdeeoaaGreatDoorC8
import Derived.Test.YthlppbbejdeeoaaGreatDoorC12
namespace Go.Proofs.YthlppbbejdeeoaaGreatDoor
open Go.RowKit
def validN (r : Nat) : Prop := r < 55296 ∨ (57343 < r ∧ r ≤ 1114111)
theorem dec_valid (s : ByteArray) (k : Nat) : validN (Utf8.decode s k).1 := by
 have h := Lib.decodeN_valid (s.size - k) (s.get! k).toNat (s.get! (k + 1)).toNat (s.get! (k + 2)).toNat (s.get! (k + 3)).toNat (UInt8.toNat_lt _)
 rw [← Lib.decode_at] at h
 exact h
/-- the bytes of a plain letter are those of its rune -/
theorem plain_bytes (s : ByteArray) (pos : Nat) (hp : pos < s.size) (h : plainB ((Utf8.decode s pos).1 : Int) ((Utf8.decode s pos).2 : Nat) = true) : runE (Utf8.decode s pos).1 = ((tl s).drop pos).take (Utf8.decode s pos).2 := by
 have hne : (tl s).drop pos ≠ [] := by
  intro e
  have := congrArg List.length e
  simp at this
  omega
 unfold plainB at h
 simp only [decide_eq_true_eq] at h
 have := Lib.encode_decode ((tl s).drop pos) hne (by rw [← dec_at]; omega)
 rw [← dec_at] at this
 exact this
theorem plain_len (s : ByteArray) (pos : Nat) (hp : pos < s.size) (h : plainB ((Utf8.decode s pos).1 : Int) ((Utf8.decode s pos).2 : Nat) = true) : (runE (Utf8.decode s pos).1).length = (Utf8.decode s pos).2 := by
 rw [plain_bytes s pos hp h]
 have := dec_le s pos hp
 simp
 omega
/-! ## what Unquote tells -/
def unqF : List (Nat × List UInt8) → Nat → Bool → List UInt8 → Nat → List UInt8 × Nat × Nat
 | [], place, _, _, _ => ([], place, 3)
 | (c, b) :: ds, place, sign, out, at_ =>
  if (place = 0 ∧ c ≠ 34) ∨ (sign = true ∧ c ≠ 34 ∧ c ≠ 92) ∨ plnL (c, b) = false then ([], place, 4)
  else if place = 0 then unqF ds (place + 1) sign out (at_ + b.length)
  else if sign = false ∧ c = 92 then unqF ds (place + 1) true out (at_ + b.length)
  else if sign = false ∧ c = 34 then (if 1024 < out.length then ([], 0, 6) else (out, at_ + 1, 0))
  else unqF ds (place + 1) false (out ++ runE c) (at_ + b.length)
def unqT (l : List UInt8) : List UInt8 × Nat × Nat := unqF (letL l) 0 false [] 0
def USays (l : List UInt8) (w : World) (e : Ending) (w' : World) : Prop := e = .returned (.tuple #[.string (st (unqT l).1), .int .i64 ((unqT l).2.1 : Nat), .int .i64 ((unqT l).2.2 : Nat)]) ∧ Ext w w'
/-- where Unquote stands -/
structure UAt (l : List UInt8) (pos place : Nat) (sign : Bool) (out : List UInt8) : Prop where
 le : pos ≤ l.length
 num : place ≤ pos
 len : out.length ≤ pos
 eq : unqT l = unqF (letL (l.drop pos)) place sign out pos
 sg : place = 0 → sign = false
theorem UAt.zero (l : List UInt8) : UAt l 0 0 false [] := ⟨by omega, by omega, by simp, by simp [unqT], fun _ => rfl⟩
theorem UAt.done {s : ByteArray} {w w' : World} {pos place : Nat} {sign : Bool} {out : List UInt8} (h : UAt (tl s) pos place sign out) (hp : ¬ pos < s.size) (hx : Ext w w') : USays (tl s) w (.returned (.tuple #[.string ⟨#[]⟩, .int .i64 (place : Nat), .int .i64 3])) w' := by
 have e : (tl s).drop pos = [] := List.drop_eq_nil_of_le (by simp; omega)
 unfold USays
 rw [h.eq, e, letL_nil]
 exact ⟨rfl, hx⟩
/-- the letter that stands here -/
theorem UAt.step {s : ByteArray} {pos place : Nat} {sign : Bool} {out : List UInt8} (h : UAt (tl s) pos place sign out) (hp : pos < s.size) {c W : Nat} (hc : (Utf8.decode s pos).1 = c) (hW : (Utf8.decode s pos).2 = W) :
 ∃ b, b.length = W ∧ pos + W ≤ (tl s).length ∧ unqT (tl s) = unqF ((c, b) :: letL ((tl s).drop (pos + W))) place sign out pos := by
 subst hc hW
 have h2 := dec_le s pos hp
 have hne : (tl s).drop pos ≠ [] := by
  intro e
  have := congrArg List.length e
  simp at this
  omega
 have hs := letL_step _ hne
 rw [← dec_at s pos, List.drop_drop] at hs
 refine ⟨((tl s).drop pos).take (Utf8.decode s pos).2, by simp; omega, by simpa using h2, by rw [h.eq, hs]⟩
section
variable {s : ByteArray} {pos place c W : Nat} {sign : Bool} {out : List UInt8} {w w' : World}
theorem UAt.bad (h : UAt (tl s) pos place sign out) (hp : pos < s.size) (hc : (Utf8.decode s pos).1 = c) (hW : (Utf8.decode s pos).2 = W)
 (hb : (place = 0 ∧ c ≠ 34) ∨ (sign = true ∧ c ≠ 34 ∧ c ≠ 92) ∨ plainB (c : Int) (W : Nat) = false) (hx : Ext w w') : USays (tl s) w (.returned (.tuple #[.string ⟨#[]⟩, .int .i64 (place : Nat), .int .i64 4])) w' := by
 obtain ⟨b, hb1, hb2, hb3⟩ := h.step hp hc hW
 unfold USays
 rw [hb3]
 unfold unqF
 rw [if_pos (by unfold plnL; rw [hb1]; exact hb)]
 exact ⟨rfl, hx⟩
theorem UAt.first (h : UAt (tl s) pos 0 sign out) (hp : pos < s.size) (hc : (Utf8.decode s pos).1 = c) (hW : (Utf8.decode s pos).2 = W) (h1 : 1 ≤ W)
 (hc34 : c = 34) (hs : sign = false) (hpl : plainB (c : Int) (W : Nat) = true) : UAt (tl s) (pos + W) 1 sign out := by
 obtain ⟨b, hb1, hb2, hb3⟩ := h.step hp hc hW
 have hnum := h.num
 have hlen := h.len
 refine ⟨hb2, by omega, by omega, ?_, by omega⟩
 rw [hb3]
 conv => lhs; unfold unqF
 rw [if_neg (by unfold plnL; rw [hb1, hpl, hs]; simp [hc34]), if_pos rfl, hb1]
theorem UAt.more (h : UAt (tl s) pos place sign out) (hp : pos < s.size) (hc : (Utf8.decode s pos).1 = c) (hW : (Utf8.decode s pos).2 = W) (h1 : 1 ≤ W)
 (h0 : place ≠ 0) (hs : (sign = false ∧ c ≠ 34 ∧ c ≠ 92) ∨ (sign = true ∧ (c = 34 ∨ c = 92))) (hpl : plainB (c : Int) (W : Nat) = true) : UAt (tl s) (pos + W) (place + 1) false (out ++ runE c) := by
 obtain ⟨b, hb1, hb2, hb3⟩ := h.step hp hc hW
 have hnum := h.num
 have hlen := h.len
 have hl : (runE c).length = W := by
  subst hc hW
  exact plain_len s pos hp hpl
 refine ⟨hb2, by omega, by simp; omega, ?_, by omega⟩
 rw [hb3]
 conv => lhs; unfold unqF
 rw [if_neg (by unfold plnL; rw [hb1, hpl]; rcases hs with ⟨hs, h2, h3⟩ | ⟨hs, h2 | h2⟩ <;> simp [h0, hs, h2]), if_neg h0, if_neg (by rcases hs with ⟨hs, h2, h3⟩ | ⟨hs, h2⟩ <;> simp [hs]; exact h3), if_neg (by rcases hs with ⟨hs, h2, h3⟩ | ⟨hs, h2⟩ <;> simp [hs]; exact h2), hb1]
theorem UAt.end_ (h : UAt (tl s) pos place sign out) (hp : pos < s.size) (hc : (Utf8.decode s pos).1 = c) (hW : (Utf8.decode s pos).2 = W)
 (h0 : place ≠ 0) (hs : sign = false) (hc34 : c = 34) (hpl : plainB (c : Int) (W : Nat) = true) : unqT (tl s) = if 1024 < out.length then ([], 0, 6) else (out, pos + 1, 0) := by
 obtain ⟨b, hb1, hb2, hb3⟩ := h.step hp hc hW
 rw [hb3]
 unfold unqF
 rw [if_neg (by unfold plnL; rw [hb1, hpl, hs]; simp [hc34]), if_neg h0, if_neg (by simp [hc34]), if_pos ⟨hs, hc34⟩]
theorem UAt.long (h : UAt (tl s) pos place sign out) (hp : pos < s.size) (hc : (Utf8.decode s pos).1 = c) (hW : (Utf8.decode s pos).2 = W)
 (h0 : place ≠ 0) (hs : sign = false) (hc34 : c = 34) (hpl : plainB (c : Int) (W : Nat) = true) (hl : 1024 < out.length) (hx : Ext w w') : USays (tl s) w (.returned (.tuple #[.string ⟨#[]⟩, .int .i64 0, .int .i64 6])) w' := by
 unfold USays
 rw [h.end_ hp hc hW h0 hs hc34 hpl, if_pos hl]
 exact ⟨rfl, hx⟩
end
theorem It.grown {w w' : World} {g pos base : Nat} {s : ByteArray} {v : Value} {l : List UInt8} (h : It w g s pos) (ho : Own w base v l) (hg : w.grownBy w' v.ownBlock) : It w' g s pos := by
 have hlt : g < w.heap.size := (Array.getElem?_eq_some_iff.1 h).1
 unfold It
 rw [hg.block g hlt ?_]
 ·exact h
 ·intro e
  rcases ho.2 with ⟨rfl, _⟩ | ⟨g', cap, cur, rfl, _, hgg, _⟩
  ·simp [Value.ownBlock] at e
  ·simp only [Value.ownBlock, Option.some.injEq] at e
   subst e
   unfold It at h
   rw [h] at hgg
   cases hgg
end Go.Proofs.YthlppbbejdeeoaaGreatDoor
namespace Go.Proofs.YthlppbbejdeeoaaGreatDoor
open Go.RowKit
def Tabs (w : World) : Prop := Lib.Utf8Tabs 0 1 w
theorem Tabs.ext {w w' : World} (h : Tabs w) (hx : Ext w w') : Tabs w' := Utf8Tabs_below h hx
theorem decode_any (s : ByteArray) (w : World) (hT : Tabs w) (h0 : 0 < s.size) : Calls Tryz.prog 111 #[.string s] w fun e w' => e = .returned (.tuple #[.int .i32 ((Utf8.decode s 0).1 : Nat), .int .i64 ((Utf8.decode s 0).2 : Nat)]) ∧ Ext w w' := by
 refine (Tryz.utf8_DecodeRuneInString s w hT).mono ?_
 rintro e w' ⟨he, hb⟩
 unfold Lib.decodeGo at he
 rw [if_neg (by omega)] at he
 exact ⟨he, hb⟩
def strLen : Value → Nat
 | .string s => s.size
 | _ => 0
/-- strings as cells -/
def sv (ls : List (List UInt8)) : List Value := ls.map fun l => .string (st l)
@[simp] theorem sv_length (ls : List (List UInt8)) : (sv ls).length = ls.length := by simp [sv]
def OwnL (w : World) (base : Nat) (v : Value) (ls : List (List UInt8)) : Prop := w.ownsRow base 9 1 v ls.length (sv ls)
theorem OwnL.form {w : World} {base : Nat} {v : Value} {ls : List (List UInt8)} (h : OwnL w base v ls) : ∃ A cap, v = .slice A ls.length cap := own_form h
theorem strT : ElemOf Tryz.prog 142 9 1 16 := ElemOf.mk' (z := .string ⟨#[]⟩) Tryz.underlying142 (by kernel_rfl) rfl (by omega)
theorem OwnL.empty (w : World) (base : Nat) (hb : base ≤ w.heap.size) : OwnL (w.alloc (.cells #[] 9)) base (.slice (some ⟨w.heap.size, 0, none⟩) 0 0) [] := by
 refine ⟨rfl, .inr ⟨w.heap.size, 0, #[], rfl, hb, heap_alloc_new w _, Nat.le_refl _, by simp [maxLen], rfl, rfl⟩⟩
theorem OwnL.sl {w : World} {base n c : Nat} {A : Option Addr} {ls : List (List UInt8)} (h : OwnL w base (.slice A n c) ls) : Sl w A (sv ls) := Sl.own h rfl
/-- the bytes of a text's letters -/
def lets (l : List UInt8) : List (List UInt8) := (letL l).map fun d => d.2
theorem lets_nil : lets [] = [] := rfl
theorem lets_step (l : List UInt8) (h : l ≠ []) : lets l = l.take (Lib.decodeL l).2 :: lets (l.drop (Lib.decodeL l).2) := by
 unfold lets
 rw [letL_step l h]
 rfl
theorem lets_len : ∀ (k : Nat) (l : List UInt8), l.length ≤ k → (lets l).length ≤ l.length := by
 intro k
 induction k with
 | zero =>
  intro l h; have : l = [] := List.eq_nil_of_length_eq_zero (by omega)
  subst this; simp [lets_nil]
 | succ k ih =>
  intro l h
  by_cases hne : l = []
  ·subst hne; simp [lets_nil]
  ·have hp := decL_pos l hne
   have hl := List.length_pos_iff.2 hne
   have := ih (l.drop (Lib.decodeL l).2) (by simp; omega)
   rw [lets_step l hne]
   simp at this ⊢
   omega
theorem Letters_any (l : List UInt8) (w : World) (hs : l.length ≤ 8796093022000) (hT : Tabs w) : Calls Tryz.prog 98 #[.string (st l)] w fun e w' => ∃ v, e = .returned v ∧ OwnL w' w.heap.size v (lets l) ∧ Ext w w' := by
 have hll := lets_len _ l (Nat.le_refl _)
 have ho0 := OwnL.empty w w.heap.size (Nat.le_refl _)
 have hx0 : Ext w (w.alloc (.cells #[] 9)) := (Ext.refl w).alloc _
 have HT := Lib.hid hT
 clear hT
 go_enter Tryz.func98, Tryz.ntmps98
 go_wp2
 go_loopw [0, 3] (fun a o wr => ∃ (r : List UInt8) (ds : List (List UInt8)), a = .string (st r) ∧ OwnL wr w.heap.size o ds ∧ Ext w wr ∧ lets l = ds ++ lets r ∧ r.length ≤ l.length) (fun a _ _ => strLen a)
 case atStart => exact ⟨l, [], rfl, ho0, hx0, rfl, Nat.le_refl _⟩
 case round =>
  obtain ⟨r, ds, rfl, ho, hx, hl, hrl⟩ := hrel
  have HL := Lib.hid hl
  have hlen : ds.length ≤ l.length := by have := congrArg List.length hl; simp at this; omega
  clear hl ho0 hx0
  obtain ⟨A, cap, rfl⟩ := ho.form
  by_cases h0 : 0 < r.length
  ·have h0' : (0 : Int) < (r.length : Int) := by omega
   have hne : r ≠ [] := by intro e; rw [e] at h0; simp at h0
   have hd : Utf8.decode (st r) 0 = Lib.decodeL r := by rw [dec_at]; simp
   have hp := decL_pos r hne
   have hle := Lib.decodeL_le r hne
   have hD := decode_any (st r) wr (HT.out.ext hx) (by rw [st_size]; exact h0)
   rw [hd] at hD
   have hstep := lets_step r hne
   have HS := Lib.hid hstep
   generalize (Lib.decodeL r).1 = c at *
   generalize (Lib.decodeL r).2 = W at *
   have e1 : (st r).extract 0 W = st (r.take W) := by rw [ex_st, tl_st]; simp
   have e2 : (st r).extract W (st r).size = st (r.drop W) := by rw [ex_st, tl_st, st_size, List.take_length]
   have E1 := Lib.hid e1
   have E2 := Lib.hid e2
   clear hne hd hstep e1 e2
   go_wp2_with fail
   refine hD.mono ?_
   rintro e w1 ⟨rfl, hx1⟩
   clear hD
   have hxw := hx.trans hx1
   have ho1 := World.ownsRow.alloc (owns_ext ho hx1) (.cells #[.string ((st r).extract 0 W)] 9)
   have hxa : Ext w (w1.alloc (.cells #[.string ((st r).extract 0 W)] 9)) := hxw.alloc _
   go_wp2_with (at_builtin; refine unstop ?_)
   refine go_on (wpList_app strT ho1 (Sl.new w1 [.string ((st r).extract 0 W)] 9 (0, 0)) rfl rfl rfl rfl rfl (by simp [Value.oneCell']) (by omega) (by omega) hxa.size ?_)
   rintro v' w2 ho2 hg2 -
   have hx2 := Ext.own hxa ho1 (Nat.le_refl _) hg2
   go_wp2
   go_roundw
   case rel =>
    refine ⟨r.drop W, ds ++ [r.take W], by rw [← E2.out, st_size], ?_, hx2, by rw [HL.out, HS.out]; simp, by simp; omega⟩
    unfold OwnL
    rw [E1.out] at ho2
    simpa [sv] using ho2
   case measure =>
    simp only [strLen, ByteArray.size_extract, st_size]
    omega
  ·have h0' : ¬ (0 : Int) < (r.length : Int) := by omega
   go_wp2
   go_ret
   have : r = [] := List.eq_nil_of_length_eq_zero (by omega)
   have h2 := HL.out
   rw [this, lets_nil, List.append_nil] at h2
   exact ⟨_, rfl, by rw [h2]; exact ho, hx⟩
end Go.Proofs.YthlppbbejdeeoaaGreatDoor
namespace Go.Proofs.YthlppbbejdeeoaaGreatDoor
open Go.RowKit
theorem dec_enc (c : Nat) (hv : validN c) (rest : List UInt8) : Lib.decodeL (runE c ++ rest) = (c, (runE c).length) := by
 unfold validN at hv
 rw [Lib.decodeL_N]
 unfold runE Lib.encodeRune
 by_cases h1 : c ≤ 127
 ·rw [Lib.encodeRuneZ_one (by omega) (by omega)]
  simp only [List.map_cons, List.map_nil, List.cons_append, List.nil_append, List.length_cons, List.length_nil, List.getD_cons_zero]
  unfold Lib.decodeN
  have e0 : (Int.toNat (c : Int)).toUInt8.toNat = c := by rw [Nat.toUInt8_eq, UInt8.toNat_ofNat']; omega
  rw [e0, if_pos (by omega)]
 ·by_cases h2 : c ≤ 2047
  ·rw [Lib.encodeRuneZ_two (by omega) (by omega)]
   simp only [List.map_cons, List.map_nil, List.cons_append, List.nil_append, List.length_cons, List.length_nil, List.getD_cons_zero, List.getD_cons_succ]
   unfold Lib.decodeN
   have e0 : (Int.toNat (192 + (c : Int) / 64)).toUInt8.toNat = 192 + c / 64 := by rw [Nat.toUInt8_eq, UInt8.toNat_ofNat']; omega
   have e1 : (Int.toNat (128 + (c : Int) % 64)).toUInt8.toNat = 128 + c % 64 := by rw [Nat.toUInt8_eq, UInt8.toNat_ofNat']; omega
   rw [e0, e1, if_neg (by omega), if_pos (by omega), if_pos (by omega)]
   congr 1
   omega
  ·by_cases h3 : c ≤ 65535
   ·rw [Lib.encodeRuneZ_three (by omega)]
    simp only [List.map_cons, List.map_nil, List.cons_append, List.nil_append, List.length_cons, List.length_nil, List.getD_cons_zero, List.getD_cons_succ]
    unfold Lib.decodeN
    have e0 : (Int.toNat (224 + (c : Int) / 4096)).toUInt8.toNat = 224 + c / 4096 := by rw [Nat.toUInt8_eq, UInt8.toNat_ofNat']; omega
    have e1 : (Int.toNat (128 + (c : Int) / 64 % 64)).toUInt8.toNat = 128 + c / 64 % 64 := by rw [Nat.toUInt8_eq, UInt8.toNat_ofNat']; omega
    have e2 : (Int.toNat (128 + (c : Int) % 64)).toUInt8.toNat = 128 + c % 64 := by rw [Nat.toUInt8_eq, UInt8.toNat_ofNat']; omega
    rw [e0, e1, e2, if_neg (by omega), if_neg (by omega), if_pos (by omega), if_pos (by omega)]
    congr 1
    omega
   ·rw [Lib.encodeRuneZ_four (by omega) (by omega)]
    simp only [List.map_cons, List.map_nil, List.cons_append, List.nil_append, List.length_cons, List.length_nil, List.getD_cons_zero, List.getD_cons_succ]
    unfold Lib.decodeN
    have e0 : (Int.toNat (240 + (c : Int) / 262144)).toUInt8.toNat = 240 + c / 262144 := by rw [Nat.toUInt8_eq, UInt8.toNat_ofNat']; omega
    have e1 : (Int.toNat (128 + (c : Int) / 4096 % 64)).toUInt8.toNat = 128 + c / 4096 % 64 := by rw [Nat.toUInt8_eq, UInt8.toNat_ofNat']; omega
    have e2 : (Int.toNat (128 + (c : Int) / 64 % 64)).toUInt8.toNat = 128 + c / 64 % 64 := by rw [Nat.toUInt8_eq, UInt8.toNat_ofNat']; omega
    have e3 : (Int.toNat (128 + (c : Int) % 64)).toUInt8.toNat = 128 + c % 64 := by rw [Nat.toUInt8_eq, UInt8.toNat_ofNat']; omega
    rw [e0, e1, e2, e3, if_neg (by omega), if_neg (by omega), if_neg (by omega), if_pos (by omega), if_pos (by omega)]
    congr 1
    omega
theorem runE_ne (c : Nat) : runE c ≠ [] := by
 have := (Lib.runeCells_le (c : Int)).1
 rw [Lib.runeCells_length] at this
 intro e
 unfold runE at e
 rw [e] at this
 simp at this
/-- what is known of a plain letter -/
def goodD (d : Nat × List UInt8) : Prop := validN d.1 ∧ d.2 = runE d.1 ∧ plnL d = true
theorem letL_good : ∀ (k : Nat) (l : List UInt8), l.length ≤ k → ((letL l).flatMap (fun d => d.2) = l) ∧ ∀ d ∈ letL l, plnL d = true → goodD d := by
 intro k
 induction k with
 | zero =>
  intro l h
  have : l = [] := List.eq_nil_of_length_eq_zero (by omega)
  subst this
  exact ⟨rfl, by intro d hd; simp [letL_nil] at hd⟩
 | succ k ih =>
  intro l h
  by_cases hne : l = []
  ·subst hne; exact ⟨rfl, by intro d hd; simp [letL_nil] at hd⟩
  ·have hp := decL_pos l hne
   have hle := Lib.decodeL_le l hne
   have hlp := List.length_pos_iff.2 hne
   obtain ⟨h1, h2⟩ := ih (l.drop (Lib.decodeL l).2) (by simp; omega)
   rw [letL_step l hne]
   refine ⟨?_, ?_⟩
   ·rw [List.flatMap_cons, h1]
    exact List.take_append_drop _ l
   ·intro d hd hpl
    rw [List.mem_cons] at hd
    rcases hd with rfl | hd
    ·have hdv := dec_valid (st l) 0
     have hd0 : Utf8.decode (st l) 0 = Lib.decodeL l := by rw [dec_at]; simp
     have hw : (l.take (Lib.decodeL l).2).length = (Lib.decodeL l).2 := by simp; omega
     rw [hd0] at hdv
     refine ⟨hdv, ?_, hpl⟩
     unfold plnL plainB at hpl
     simp only [hw, decide_eq_true_eq] at hpl
     have := Lib.encode_decode l hne (by omega)
     exact this.symm
    ·exact h2 d hd hpl
def letOk (d : Nat × List UInt8) : Prop := (d.1 = 65533 ∧ ∃ x : UInt8, d.2 = [x] ∧ 128 ≤ x.toNat) ∨ (validN d.1 ∧ d.2 = runE d.1)
theorem lone_bad (x : UInt8) (h : 128 ≤ x.toNat) : Lib.decodeL [x] = (65533, 1) := by
 rw [Lib.decodeL_N]
 have hx := x.toNat_lt
 unfold Lib.decodeN
 simp only [List.length_cons, List.length_nil, List.getD_cons_zero]
 rw [if_neg (by omega), if_neg (by omega), if_neg (by omega), if_neg (by omega)]
theorem letL_ok : ∀ (k : Nat) (l : List UInt8), l.length ≤ k → ∀ d ∈ letL l, letOk d := by
 intro k
 induction k with
 | zero =>
  intro l h d hd
  have : l = [] := List.eq_nil_of_length_eq_zero (by omega)
  subst this
  simp [letL_nil] at hd
 | succ k ih =>
  intro l h d hd
  by_cases hne : l = []
  ·subst hne; simp [letL_nil] at hd
  ·have hp := decL_pos l hne
   have hle := Lib.decodeL_le l hne
   have hlp := List.length_pos_iff.2 hne
   rw [letL_step l hne, List.mem_cons] at hd
   rcases hd with rfl | hd
   ·by_cases hb : (Lib.decodeL l).1 = 65533 ∧ (Lib.decodeL l).2 = 1
    ·left
     refine ⟨hb.1, ?_⟩
     cases l with
     | nil => exact absurd rfl hne
     | cons x r =>
      refine ⟨x, by rw [hb.2]; rfl, ?_⟩
      rcases Nat.lt_or_ge x.toNat 128 with h1 | h1
      ·have := Lib.decodeL_ascii x r h1
       rw [this] at hb
       have := hb.1
       simp only at this
       omega
      ·exact h1
    ·right
     have hdv := dec_valid (st l) 0
     have hd0 : Utf8.decode (st l) 0 = Lib.decodeL l := by rw [dec_at]; simp
     rw [hd0] at hdv
     exact ⟨hdv, (Lib.encode_decode l hne hb).symm⟩
   ·exact ih (l.drop (Lib.decodeL l).2) (by simp; omega) d hd
end Go.Proofs.YthlppbbejdeeoaaGreatDoor
namespace Go.Proofs.YthlppbbejdeeoaaGreatDoor
open Go.RowKit
/-- a letter's first byte, and whether it is valid -/
theorem letOk_head {c : Nat} {b : List UInt8} (h : letOk (c, b)) : ∃ x, b[0]? = some x ∧ (Lib.validD b && (decide (32 ≤ x.toNat) && !decide (x.toNat = 127))) = plnL (c, b) := by
 rcases h with ⟨hc, x, hb, hx⟩ | ⟨hv, hb⟩
 ·simp only at hc hb
  subst hc hb
  refine ⟨x, rfl, ?_⟩
  rw [Lib.validD_step _ (by simp), lone_bad x hx, if_pos ⟨rfl, rfl⟩]
  rfl
 ·simp only at hv hb
  subst hb
  have hd := dec_enc c hv []
  rw [List.append_nil] at hd
  have hvd : Lib.validD (runE c) = true := by
   rw [Lib.validD_step _ (runE_ne c), hd, if_neg]
   ·rw [show (c, (runE c).length).2 = (runE c).length from rfl, List.drop_length]; rfl
   ·rintro ⟨h1, h2⟩
    simp only at h1 h2
    subst h1
    exact absurd h2 (by decide)
  have hfff : c = 65533 → (runE c).length = 3 := by intro e; subst e; decide
  unfold validN at hv
  simp only [hvd, Bool.true_and]
  by_cases h1 : c ≤ 127
  ·have hr : runE c = [UInt8.ofNat c] := by
    unfold runE Lib.encodeRune
    rw [Lib.encodeRuneZ_one (by omega) (by omega)]
    simp
   have hn : (UInt8.ofNat c).toNat = c := by rw [UInt8.toNat_ofNat']; omega
   refine ⟨UInt8.ofNat c, by rw [hr]; rfl, ?_⟩
   unfold plnL plainB
   rw [hn, Bool.eq_iff_iff]
   simp only [Bool.and_eq_true, decide_eq_true_eq, Bool.not_eq_true', decide_eq_false_iff_not]
   omega
  ·have hge : ∃ x r, runE c = x :: r ∧ 128 ≤ x.toNat := by
    unfold runE Lib.encodeRune
    by_cases h2 : c ≤ 2047
    ·rw [Lib.encodeRuneZ_two (by omega) (by omega)]
     exact ⟨_, _, rfl, by show 128 ≤ (Nat.toUInt8 _).toNat; rw [Nat.toUInt8_eq, UInt8.toNat_ofNat']; omega⟩
    ·by_cases h3 : c ≤ 65535
     ·rw [Lib.encodeRuneZ_three (by omega)]
      exact ⟨_, _, rfl, by show 128 ≤ (Nat.toUInt8 _).toNat; rw [Nat.toUInt8_eq, UInt8.toNat_ofNat']; omega⟩
     ·rw [Lib.encodeRuneZ_four (by omega) (by omega)]
      exact ⟨_, _, rfl, by show 128 ≤ (Nat.toUInt8 _).toNat; rw [Nat.toUInt8_eq, UInt8.toNat_ofNat']; omega⟩
   obtain ⟨x, r, hr, hx⟩ := hge
   refine ⟨x, by rw [hr]; rfl, ?_⟩
   unfold plnL plainB
   rw [Bool.eq_iff_iff]
   simp only [Bool.and_eq_true, decide_eq_true_eq, Bool.not_eq_true', decide_eq_false_iff_not]
   constructor
   ·intro _
    refine ⟨by omega, by omega, ?_⟩
    by_cases h5 : c = 65533
    ·right; have := hfff h5; omega
    ·left; omega
   ·intro h6
    have : x.toNat ≠ 127 := by omega
    omega
theorem valid_any (s : ByteArray) (w : World) (hs : s.size ≤ 9223372036854775807) (hT : Tabs w) : Calls Tryz.prog 112 #[.string s] w fun e w' => e = .returned (.bool (Lib.validD (tl s))) ∧ Ext w w' :=
 Tryz.utf8_ValidString s w hs hT
theorem RPlain_any (c : Nat) (b : List UInt8) (w : World) (hb : b.length ≤ 140737488351232) (hd : letOk (c, b)) (hT : Tabs w) : Calls Tryz.prog 99 #[.string (st b)] w fun e w' => e = .returned (.bool (plnL (c, b))) ∧ Ext w w' := by
 obtain ⟨x, h0, hp⟩ := letOk_head hd
 have hV := valid_any (st b) w (by rw [st_size]; omega) hT
 rw [tl_st] at hV
 have hlen : 0 < b.length := (List.getElem?_eq_some_iff.1 h0).1
 have hix : ∀ h, ((st b)[0]'h).toNat = x.toNat := by
  intro h
  obtain ⟨h1, h2⟩ := List.getElem?_eq_some_iff.1 h0
  have : (st b)[0]'h = b[0] := rfl
  rw [this, h2]
 have hsz : (st b).size = b.length := st_size b
 have hsz2 : 0 < (st b).size := by omega
 have HSZ := Lib.hid hsz
 generalize plnL (c, b) = ans at *
 have HP := Lib.hid hp
 clear hp h0 hd hT hsz
 generalize Lib.validD b = vv at *
 go_enter Tryz.func99, Tryz.ntmps99
 go_wp2_with fail
 refine hV.mono ?_
 rintro e w1 ⟨rfl, hx⟩
 clear hV
 cases vv
 ·go_wp2
  go_ret
  exact ⟨ret_bool HP.out, hx⟩
 ·by_cases h1 : 32 ≤ x.toNat
  ·have h1' : (32 : Int) ≤ (x.toNat : Int) := by omega
   by_cases h2 : x.toNat = 127
   ·have h2' : ((x.toNat : Int) != 127) = false := by rw [h2]; rfl
    have HD : decide (x.toNat = 127) = true := decide_eq_true h2
    have HE : decide (32 ≤ x.toNat) = true := decide_eq_true h1
    have HQ := Lib.hid HP.out
    rw [HD, HE] at HQ
    clear h1 h2 HD HE
    go_wp2
    go_ret
    exact ⟨ret_bool HQ.out, hx⟩
   ·have h2' : ((x.toNat : Int) != 127) = true := by simp; omega
    have HD : decide (x.toNat = 127) = false := decide_eq_false h2
    have HE : decide (32 ≤ x.toNat) = true := decide_eq_true h1
    have HQ := Lib.hid HP.out
    rw [HD, HE] at HQ
    clear h1 h2 HD HE
    go_wp2
    go_ret
    exact ⟨ret_bool HQ.out, hx⟩
  ·have h1' : ¬ (32 : Int) ≤ (x.toNat : Int) := by omega
   have HE : decide (32 ≤ x.toNat) = false := decide_eq_false h1
   have HQ := Lib.hid HP.out
   rw [HE] at HQ
   clear h1 HE
   go_wp2
   go_ret
   exact ⟨ret_bool HQ.out, hx⟩
end Go.Proofs.YthlppbbejdeeoaaGreatDoor
namespace Go.Proofs.YthlppbbejdeeoaaGreatDoor
open Go.RowKit
theorem lets_get {l : List UInt8} {k : Nat} {d : Nat × List UInt8} (h : (letL l)[k]? = some d) : (lets l)[k]? = some d.2 := by
 unfold lets
 rw [List.getElem?_map, h]
 rfl
theorem lets_length (l : List UInt8) : (lets l).length = (letL l).length := by simp [lets]
theorem runE_34 : runE 34 = [34] := by decide
theorem runE_92 : runE 92 = [92] := by decide
theorem runE_inj {c n : Nat} (hc : validN c) (hn : validN n) (h : runE c = runE n) : c = n := by
 have h1 := dec_enc c hc []
 have h2 := dec_enc n hn []
 rw [h] at h1
 rw [h1] at h2
 exact congrArg Prod.fst h2
theorem good_34 {c : Nat} {b : List UInt8} (h : goodD (c, b)) : b = [34] ↔ c = 34 := by
 obtain ⟨hv, hb, _⟩ := h
 simp only at hv hb
 subst hb
 constructor
 ·intro e
  exact runE_inj hv (by unfold validN; omega) (by rw [runE_34]; exact e)
 ·rintro rfl
  exact runE_34
theorem good_92 {c : Nat} {b : List UInt8} (h : goodD (c, b)) : b = [92] ↔ c = 92 := by
 obtain ⟨hv, hb, _⟩ := h
 simp only at hv hb
 subst hb
 constructor
 ·intro e
  exact runE_inj hv (by unfold validN; omega) (by rw [runE_92]; exact e)
 ·rintro rfl
  exact runE_92
/-- a row of strings of the call's own: its cells in every world behind -/
theorem OwnL.cells {w : World} {base : Nat} {v : Value} {ls : List (List UInt8)} (h : OwnL w base v ls) (h0 : 0 < ls.length) :
 ∃ ad cap, v = .slice (some ad) ls.length cap ∧ ls.length ≤ cap ∧ cap ≤ 9223372036854775807 ∧ ∀ k b w', ls[k]? = some b → Ext w w' → w'.cell? (ad.add k) = some (.string (st b)) := by
 obtain ⟨A, cap, rfl⟩ := h.form
 have hsl := h.sl
 have hcapn : ls.length ≤ cap ∧ cap ≤ 9223372036854775807 := by
  rcases h.2 with ⟨e, _⟩ | ⟨g, c, cur, e, _, _, h1, h2, _⟩
  ·injection e with e1 e2 e3
   omega
  ·injection e with e1 e2 e3
   subst e3
   exact ⟨h1, by unfold maxLen at h2; omega⟩
 obtain ⟨ad, rfl⟩ : ∃ ad, A = some ad := by
  obtain ⟨ad, e, _⟩ := hsl 0 ((sv ls)[0]'(by simpa using h0)) (List.getElem?_eq_getElem _)
  exact ⟨ad, e⟩
 refine ⟨ad, cap, rfl, hcapn.1, hcapn.2, fun k b w' hk hx => ?_⟩
 obtain ⟨ad', e, hc⟩ := hsl k (.string (st b)) (by simp [sv, hk])
 cases e
 exact hx.cell hc
end Go.Proofs.YthlppbbejdeeoaaGreatDoor
namespace Go.Proofs.YthlppbbejdeeoaaGreatDoor
open Go.RowKit
set_option maxHeartbeats 1000000 in
theorem RQuote_any (l : List UInt8) (w : World) (hs : l.length ≤ 8796093022000) (hT : Tabs w) : Calls Tryz.prog 89 #[.string (st l)] w (QSays l w) := by
 by_cases hlong : 1024 < l.length
 ·have HQ : Hid (∀ W, Ext w W → QSays l w (.returned (.tuple #[.string ⟨#[]⟩, .int .i64 0, .int .i64 6])) W) := Lib.hid fun W hx => QSays.long hlong hx
  have h1 : (1024 : Int) < (l.length : Int) := by omega
  clear hlong hT
  go_enter Tryz.func89, Tryz.ntmps89
  go_wp2
  go_ret3
  exact HQ.out _ (Ext.refl _)
 ·have h1 : ¬ (1024 : Int) < (l.length : Int) := by omega
  have HS : Hid (l.length ≤ 1024) := Lib.hid (by omega)
  have hL := Letters_any l w hs hT
  have hok := letL_ok _ l (Nat.le_refl _)
  have hgd := (letL_good _ l (Nat.le_refl _)).2
  have hll := lets_len _ l (Nat.le_refl _)
  have hlq := lets_length l
  have HT := Lib.hid hT
  clear hlong hT
  go_enter Tryz.func89, Tryz.ntmps89
  go_wp2_with fail
  refine hL.mono ?_
  rintro e w1 ⟨v, rfl, ho, hx⟩
  clear hL
  by_cases hne : l = []
  ·subst hne
   obtain ⟨A, cap, rfl⟩ := ho.form
   rw [lets_nil]
   have HQ : Hid (∀ W, Ext w W → QSays [] w (.returned (.tuple #[.string (st [34, 34]), .int .i64 0, .int .i64 0])) W) := Lib.hid fun W hx => QSays.ok (l := []) (by simp) (by simp [letL_nil]) hx
   clear ho hok hgd hll hlq
   go_wp2
   go_loopw [6, 7] (fun o i wr => o = .string (st [34]) ∧ i = .int .i64 0 ∧ wr = w1) (fun _ _ _ => 0)
   case atStart => exact ⟨rfl, rfl, rfl⟩
   case round =>
    obtain ⟨rfl, rfl, rfl⟩ := hrel
    go_wp2
    go_ret3
    exact HQ.out _ hx
  ·have h0 : 0 < l.length := List.length_pos_iff.2 hne
   have h00 : 0 < (lets l).length := by
    rw [lets_step l hne]; simp
   obtain ⟨ad, cap, rfl, hc1, hc2, hcell⟩ := ho.cells h00
   have HC := Lib.hid hcell
   have HX := Lib.hid hx
   have HOK := Lib.hid hok
   have HGD := Lib.hid hgd
   clear hcell hok hgd ho hne
   go_wp2
   go_loopw [6, 7] (fun o i wr => ∃ k : Nat, i = .int .i64 k ∧ k ≤ (letL l).length ∧ o = .string (st (34 :: outL ((letL l).take k))) ∧ Ext w1 wr ∧ ∀ d ∈ (letL l).take k, plnL d = true) (fun _ i _ => (letL l).length - (intOf i).toNat)
   case atStart => exact ⟨0, rfl, by omega, rfl, Ext.refl _, by simp⟩
   case round =>
    obtain ⟨k, rfl, hk, rfl, hxr, hpl⟩ := hrel
    have HPL := Lib.hid hpl
    have hol := outL_len ((letL l).take k)
    have hol2 : (outL ((letL l).take k)).length ≤ 5 * 1024 := by
     have := HS.out
     simp only [List.length_take] at hol
     omega
    clear hpl hol
    by_cases hlt : k < (letL l).length
    ·obtain ⟨⟨c, b⟩, hd⟩ : ∃ d, (letL l)[k]? = some d := ⟨_, List.getElem?_eq_getElem hlt⟩
     have hmem : (c, b) ∈ letL l := List.mem_of_getElem? hd
     have hck := fun w' hx => HC.out k b w' (lets_get hd) hx
     have hkn : (k : Int) < ((lets l).length : Int) := by omega
     have hkn2 : k < (lets l).length := by omega
     have htk : (letL l).take (k + 1) = (letL l).take k ++ [(c, b)] := by rw [List.take_add_one, hd]; rfl
     have hsp : letL l = (letL l).take k ++ (c, b) :: (letL l).drop (k + 1) := by
      obtain ⟨h5, h6⟩ := List.getElem?_eq_some_iff.1 hd
      rw [← h6, ← List.drop_eq_getElem_cons h5, List.take_append_drop]
     have hbl : b.length ≤ 4 := by
      rcases HOK.out _ hmem with ⟨_, x, h5, _⟩ | ⟨_, h5⟩
      ·simp only at h5; rw [h5]; simp
      ·simp only at h5; rw [h5]; exact runE_len c
     have hP := fun wz (hx : Ext w1 wz) => RPlain_any c b wz (by omega) (HOK.out _ hmem) (HT.out.ext (Ext.trans HX.out hx))
     have hck1 := hck wr hxr
     have HSP := Lib.hid hsp
     have HTK := Lib.hid htk
     have HMEM := Lib.hid hmem
     have HHK := Lib.hid hk
     clear hsp htk hmem hd
     have hklen : ((letL l).take k).length = k := by simp; omega
     have HKL := Lib.hid hklen
     clear hklen
     generalize hO : outL ((letL l).take k) = o at *
     have HO := Lib.hid hO
     clear hO
     go_wp2_with fail
     refine (hP wr hxr).mono ?_
     rintro e w2 ⟨rfl, hx2⟩
     clear hP
     have hx12 := hxr.trans hx2
     have hck2 := hck w2 hx12
     clear hck hck1
     by_cases hpl : plnL (c, b) = true
     ·have HP := Lib.hid hpl
      have HG := Lib.hid (HGD.out _ HMEM.out hpl)
      rw [hpl]
      clear hpl
      have hfin : Hid (∀ d ∈ (letL l).take (k + 1), plnL d = true) := Lib.hid (by rw [HTK.out]; intro d hd; simp only [List.mem_append, List.mem_singleton] at hd; rcases hd with hd | rfl; exact HPL.out d hd; exact HP.out)
      have hcc1 : ¬ 9223372036854775807 < o.length + 1 + 1 := by omega
      have hcc2 : ¬ 9223372036854775807 < o.length + 1 + 1 + b.length := by omega
      have hcc3 : ¬ 9223372036854775807 < o.length + 1 + b.length := by omega
      have hrb : b = runE c := HG.out.2.1
      have hout : outL ((letL l).take (k + 1)) = o ++ escL c := by rw [HTK.out, outL_snoc, HO.out]
      have HOUT := Lib.hid hout
      have HRB := Lib.hid hrb
      have hg34 := good_34 HG.out
      have hg92 := good_92 HG.out
      clear hout hrb
      by_cases e34 : b = [34]
      ·have hb1 : (b == [34]) = true := by rw [e34]; rfl
       have HE : Hid (escL c = 92 :: b) := Lib.hid (by unfold escL; rw [if_pos (.inl (hg34.1 e34)), HRB.out])
       clear e34 hg34 hg92
       go_wp2
       go_roundw
       case rel => exact ⟨k + 1, by go_num, by omega, congrArg Value.string (by rw [HOUT.out, HE.out, show (⟨#[92]⟩ : ByteArray) = st [92] from rfl, st_append, st_append]; simp), hx12, hfin.out⟩
       case measure => simp [intOf]; omega
      ·have hb1 : (b == [34]) = false := by simpa using e34
       by_cases e92 : b = [92]
       ·have hb2 : (b == [92]) = true := by rw [e92]; rfl
        have HE : Hid (escL c = 92 :: b) := Lib.hid (by unfold escL; rw [if_pos (.inr (hg92.1 e92)), HRB.out])
        clear e34 e92 hg34 hg92
        go_wp2
        go_roundw
        case rel => exact ⟨k + 1, by go_num, by omega, congrArg Value.string (by rw [HOUT.out, HE.out, show (⟨#[92]⟩ : ByteArray) = st [92] from rfl, st_append, st_append]; simp), hx12, hfin.out⟩
        case measure => simp [intOf]; omega
       ·have hb2 : (b == [92]) = false := by simpa using e92
        have HE : Hid (escL c = b) := Lib.hid (by unfold escL; rw [if_neg (by rintro (h | h); exact e34 (hg34.2 h); exact e92 (hg92.2 h)), HRB.out])
        clear e34 e92 hg34 hg92
        go_wp2
        go_roundw
        case rel => exact ⟨k + 1, by go_num, by omega, congrArg Value.string (by rw [HOUT.out, HE.out]), hx12, hfin.out⟩
        case measure => simp [intOf]; omega
     ·have hpf : plnL (c, b) = false := by simpa using hpl
      have HP := Lib.hid hpf
      rw [hpf]
      clear hpl hpf
      go_wp2
      go_ret3
      have := QSays.bad (w := w) HS.out HSP.out HPL.out HP.out (hx.trans hx12)
      rw [HKL.out] at this
      exact this
    ·have hkk : k = (letL l).length := by omega
     have hlt' : ¬ (k : Int) < ((lets l).length : Int) := by omega
     have HQ : Hid (∀ W, Ext w W → QSays l w (.returned (.tuple #[.string (st (34 :: outL ((letL l).take k) ++ [34])), .int .i64 0, .int .i64 0])) W) := Lib.hid fun W hx => by
      have h5 := HPL.out
      rw [hkk, List.take_length] at h5 ⊢
      exact QSays.ok HS.out h5 hx
     clear hkk
     generalize outL ((letL l).take k) = o at *
     have hcc : ¬ 9223372036854775807 < o.length + 1 + 1 := by omega
     go_wp2
     go_ret3
     exact HQ.out _ (hx.trans hxr)
end Go.Proofs.YthlppbbejdeeoaaGreatDoor
namespace Go.Proofs.YthlppbbejdeeoaaGreatDoor
open Go.RowKit
def good39 : By := [97, 98, 99, 100, 101, 102, 103, 104, 105, 106, 107, 108, 109, 110, 111, 112, 113, 114, 115, 116, 117, 118, 119, 120, 121, 122, 48, 49, 50, 51, 52, 53, 54, 55, 56, 57, 46, 45, 95]
theorem good_user (c : UInt8) : good39.contains c = userC c.toNat := by
 have h : ∀ n : Fin 256, good39.contains (UInt8.ofNat n.val) = userC n.val := by decide +kernel
 have := h ⟨c.toNat, c.toNat_lt⟩
 simpa using this
/-- right letter by letter, or byte by byte -/
theorem user_bytes : ∀ (n : Nat) (l : By), l.length ≤ n → (letL l).all (fun d => userC d.1) = l.all (fun c => userC c.toNat) := by
 intro n
 induction n with
 | zero =>
  intro l h
  have : l = [] := List.eq_nil_of_length_eq_zero (by omega)
  subst this
  rfl
 | succ n ih =>
  intro l h
  cases l with
  | nil => rfl
  | cons c l =>
   rw [letL_step (c :: l) (by simp)]
   have hsz : 0 < (st (c :: l)).size := by rw [st_size]; simp
   have hgt : (st (c :: l))[0] = c := by rw [← tl_get _ 0 hsz]; simp
   by_cases hc : c.toNat < 128
   ·have hd : Lib.decodeL (c :: l) = (c.toNat, 1) := by
     have := decode_ascii (st (c :: l)) 0 hsz (by rw [hgt]; exact hc)
     rw [hgt] at this
     exact this
    rw [hd, List.all_cons]
    simp only [List.drop_succ_cons, List.drop_zero, List.all_cons]
    rw [ih l (by simp at h; omega)]
   ·have hd : 128 ≤ (Lib.decodeL (c :: l)).1 := (decode_high (st (c :: l)) 0 hsz (by rw [hgt]; omega)).1
    have e1 : userC (Lib.decodeL (c :: l)).1 = false := by unfold userC; simp; omega
    have e2 : userC c.toNat = false := by unfold userC; simp; omega
    rw [List.all_cons, List.all_cons, e1, e2]
    rfl
theorem rightU_bytes (l : By) : rightU l = (l.all (fun c => good39.contains c) && (decide (1 ≤ l.length) && decide (l.length ≤ 24))) := by
 unfold rightU
 rw [user_bytes l.length l (Nat.le_refl _), Bool.and_assoc]
 congr 1
 ·congr 1; funext c; exact (good_user c).symm
 ·congr 1
  cases l <;> simp
theorem good_step (c : UInt8) (m : Nat) (hm : m < 39) : (good39.take (m + 1)).contains c = ((good39.take m).contains c || ((c.toNat : Int) == (((⟨#[97, 98, 99, 100, 101, 102, 103, 104, 105, 106, 107, 108, 109, 110, 111, 112, 113, 114, 115, 116, 117, 118, 119, 120, 121, 122, 48, 49, 50, 51, 52, 53, 54, 55, 56, 57, 46, 45, 95]⟩ : ByteArray)[m]'hm).toNat : Int))) := by
 have hm' : m < good39.length := hm
 have e : ((⟨#[97, 98, 99, 100, 101, 102, 103, 104, 105, 106, 107, 108, 109, 110, 111, 112, 113, 114, 115, 116, 117, 118, 119, 120, 121, 122, 48, 49, 50, 51, 52, 53, 54, 55, 56, 57, 46, 45, 95]⟩ : ByteArray)[m]'hm) = good39[m] := rfl
 rw [e, List.take_add_one, List.getElem?_eq_getElem hm']
 generalize good39[m] = g
 rw [show ((c.toNat : Int) == (g.toNat : Int)) = (c == g) by
  by_cases h : c = g
  ·subst h; simp
  ·have : c.toNat ≠ g.toNat := fun e => h (UInt8.toNat_inj.1 e)
   rw [beq_eq_false_iff_ne.2 h, beq_eq_false_iff_ne.2 (by omega)]]
 by_cases h : c = g <;> simp [h]
set_option maxRecDepth 20000 in
set_option maxHeartbeats 4000000 in
theorem RRightUser_any (l : By) (w : World) (hl : l.length ≤ 8796093022000) : Calls Tryz.prog 74 #[.string (st l)] w fun e w' => e = .returned (.bool (rightU l)) ∧ Ext w w' := by
 obtain ⟨s, hs⟩ : ∃ s, s = st l := ⟨_, rfl⟩
 have hsz : s.size = l.length := by rw [hs, st_size]
 have hget : ∀ k (h : k < s.size) (h2 : k < l.length), l[k] = s[k] := fun k h h2 => by subst hs; rw [← tl_get _ k h]; simp
 have HE : Hid (rightU l = (l.all (fun c => good39.contains c) && (decide (1 ≤ l.length) && decide (l.length ≤ 24)))) := Lib.hid (rightU_bytes l)
 rw [← hs]
 have HS := Lib.hid hs
 have HG := Lib.hid hget
 have hs1 : s.size ≤ l.length := by omega
 have hs2 : l.length ≤ s.size := by omega
 clear hs hget hsz
 go_enter Tryz.func74, Tryz.ntmps74
 go_wp2
 go_loopw [3, 4, 5] (fun i _ _ wr => ∃ k : Nat, k ≤ s.size ∧ i = .int .i64 k ∧ Ext w wr ∧ (l.take k).all (fun c => good39.contains c) = true) (fun i _ _ _ => s.size - (intOf i).toNat)
 case atStart => exact ⟨0, by omega, rfl, Ext.refl _, by simp⟩
 case round =>
  obtain ⟨k, hk, rfl, hx, hall⟩ := hrel
  by_cases hlt : k < s.size
  ·have hkl : k < l.length := by omega
   have hgk := HG.out k hlt hkl
   have hlt2 : (k : Int) < s.size := by omega
   have HALL := Lib.hid hall
   clear hall
   go_wp2
   go_loopw [4, 5] (fun f j wr => ∃ m : Nat, m ≤ 39 ∧ f = .bool ((good39.take m).contains s[k]) ∧ j = .int .i64 m ∧ Ext w wr) (fun _ j _ => 39 - (intOf j).toNat)
   case atStart => exact ⟨0, by omega, by simp, rfl, hx⟩
   case round =>
    clear hx
    obtain ⟨m, hm, rfl, rfl, hx⟩ := hrel
    by_cases hlm : m < 39
    ·have hlm2 : (m : Int) < 39 := by omega
     have HX := Lib.hid hx
     have HGS := Lib.hid (good_step s[k] m hlm)
     clear hx
     cases hf : (good39.take m).contains s[k] with
     | true =>
      rw [hf] at HGS
      clear hf
      go_wp2_with fail
      go_quiet (fail)
      go_wp2
      go_roundw
      case rel => exact ⟨m + 1, by omega, by rw [HGS.out]; rfl, by go_num, HX.out.drewN _⟩
      case measure => simp [intOf]; omega
     | false =>
      rw [hf] at HGS
      clear hf
      go_wp2_with fail
      go_quiet (fail)
      go_wp2
      go_roundw
      case rel => exact ⟨m + 1, by omega, by rw [HGS.out]; rfl, by go_num, HX.out.drewN _⟩
      case measure => simp [intOf]; omega
    ·have hm9 : m = 39 := by omega
     subst hm9
     have hg : (good39.take 39).contains s[k] = good39.contains s[k] := rfl
     rw [hg]
     cases hf : good39.contains s[k] with
     | true =>
      have hall2 : (l.take (k + 1)).all (fun c => good39.contains c) = true := by
       rw [show l.take (k + 1) = l.take k ++ [l[k]] by rw [List.take_add_one, List.getElem?_eq_getElem hkl]; rfl, List.all_append, HALL.out, hgk, List.all_cons, hf]
       rfl
      have HALL2 := Lib.hid hall2
      clear hall2 hf hg
      go_wp2
      go_roundw
      case rel => exact ⟨k + 1, by omega, by go_num, hx, HALL2.out⟩
      case measure => simp [intOf]; omega
     | false =>
      have hno : rightU l = false := by
       rw [HE.out]
       have : l.all (fun c => good39.contains c) = false := by
        rw [List.all_eq_false]
        exact ⟨l[k], List.getElem_mem hkl, by rw [hgk, hf]; exact Bool.false_ne_true⟩
       rw [this]; rfl
      have HNO := Lib.hid hno
      clear hno hf hg
      go_wp2
      go_ret
      exact ⟨by rw [HNO.out]; rfl, hx⟩
  ·have hke : l.take k = l := List.take_of_length_le (by omega)
   rw [hke] at hall
   have HR : Hid (rightU l = (decide (1 ≤ s.size) && decide (s.size ≤ 24))) := Lib.hid (by rw [HE.out, hall, Bool.true_and]; congr 1 <;> (apply decide_eq_decide.2; omega))
   have hlt2 : ¬ (k : Int) < s.size := by omega
   clear hall hke
   by_cases h1 : (1 : Int) ≤ s.size
   ·by_cases h2 : (s.size : Int) ≤ 24
    ·have HR2 : Hid (rightU l = true) := Lib.hid (by rw [HR.out]; simp; omega)
     go_wp2
     go_ret
     exact ⟨by rw [HR2.out]; rfl, hx⟩
    ·have HR2 : Hid (rightU l = false) := Lib.hid (by rw [HR.out]; simp; omega)
     go_wp2
     go_ret
     exact ⟨by rw [HR2.out]; rfl, hx⟩
   ·have HR2 : Hid (rightU l = false) := Lib.hid (by rw [HR.out]; simp; omega)
    go_wp2
    go_ret
    exact ⟨by rw [HR2.out]; rfl, hx⟩
theorem low_inbox : lowL inboxL = [105, 110, 98, 111, 120] := by decide
set_option maxHeartbeats 4000000 in
theorem RFold_any (l : By) (w : World) (hl : l.length ≤ 8796093022000) : Calls Tryz.prog 90 #[.string (st l)] w fun e w' => e = .returned (.string (st (foldB l))) ∧ Ext w w' := by
 have HL := RLower_any (st l) w (by rw [st_size]; omega)
 rw [tl_st] at HL
 have HE : Hid (foldB l = if lowL l = [105, 110, 98, 111, 120] then inboxL else l) := Lib.hid (by unfold foldB; rw [low_inbox])
 generalize lowL l = ll at *
 go_enter Tryz.func90, Tryz.ntmps90
 go_wp2_with fail
 refine HL.mono ?_
 rintro e w1 ⟨rfl, hx1⟩
 clear HL
 cases hb : (ll == [105, 110, 98, 111, 120]) with
 | true =>
  have HB : Hid (foldB l = inboxL) := Lib.hid (by rw [HE.out, if_pos (by simpa using hb)])
  go_wp2
  go_ret
  exact ⟨by rw [HB.out]; rfl, hx1⟩
 | false =>
  have HB : Hid (foldB l = l) := Lib.hid (by rw [HE.out, if_neg (by simpa using hb)])
  go_wp2
  go_ret
  exact ⟨by rw [HB.out]; rfl, hx1⟩
set_option maxRecDepth 20000 in
set_option maxHeartbeats 4000000 in
theorem RRightBox_any (l : By) (w : World) (hl : l.length ≤ 8796093022000) (hT : Tabs w) : Calls Tryz.prog 75 #[.string (st l)] w fun e w' => e = .returned (.bool (rightB l)) ∧ Ext w w' := by
 have HQ := RQuote_any l w hl hT
 unfold QSays at HQ
 have HF := fun W => RFold_any l W hl
 have HE : Hid (rightB l = (decide (l ≠ []) && decide (l.length ≤ 24) && decide ((quoteT l).2.2 = 0) && decide (foldB l = l))) := Lib.hid rfl
 generalize hq1 : (quoteT l).1 = q1 at *
 generalize hq2 : (quoteT l).2.1 = q2 at *
 generalize hq3 : (quoteT l).2.2 = q3 at *
 clear hq1 hq2 hq3
 go_enter Tryz.func75, Tryz.ntmps75
 go_wp2_with fail
 refine HQ.mono ?_
 rintro e w1 ⟨rfl, hx1⟩
 clear HQ
 by_cases h1 : (1 : Int) ≤ (l.length : Int)
 ·have hne : l ≠ [] := by intro h; subst h; simp at h1
  by_cases h2 : (l.length : Int) ≤ 24
  ·have h24 : l.length ≤ 24 := by omega
   by_cases h3 : q3 = 0
   ·subst h3
    cases hf : (foldB l == l) with
    | true =>
     have hf' : foldB l = l := by simpa using hf
     have HB : Hid (rightB l = true) := Lib.hid (by rw [HE.out]; simp [hne, h24, hf'])
     have HF1 := HF w1
     rw [hf'] at HF1
     clear hf hf' h24 hne HF
     go_wp2_with fail
     refine HF1.mono ?_
     rintro e w2 ⟨rfl, hx2⟩
     go_wp2
     go_ret
     exact ⟨by rw [HB.out]; rfl, hx1.trans hx2⟩
    | false =>
     have HB : Hid (rightB l = false) := Lib.hid (by rw [HE.out]; simp [(by simpa using hf : ¬ foldB l = l)])
     have HF1 := HF w1
     clear h24 hne HF
     go_wp2_with fail
     refine HF1.mono ?_
     rintro e w2 ⟨rfl, hx2⟩
     go_wp2
     go_ret
     exact ⟨by rw [HB.out]; rfl, hx1.trans hx2⟩
   ·have HB : Hid (rightB l = false) := Lib.hid (by rw [HE.out]; simp [h3])
    have k3 : ((q3 : Int) == 0) = false := by simpa using h3
    clear hne h24
    go_wp2
    go_ret
    exact ⟨by rw [HB.out]; rfl, hx1⟩
  ·have HB : Hid (rightB l = false) := Lib.hid (by rw [HE.out]; simp; omega)
   clear hne
   go_wp2
   go_ret
   exact ⟨by rw [HB.out]; rfl, hx1⟩
 ·have HB : Hid (rightB l = false) := Lib.hid (by rw [HE.out]; simp [(List.eq_nil_of_length_eq_zero (by omega) : l = [])])
  go_wp2
  go_ret
  exact ⟨by rw [HB.out]; rfl, hx1⟩
end Go.Proofs.YthlppbbejdeeoaaGreatDoor
namespace Go.Proofs.YthlppbbejdeeoaaGreatDoor
open Go.RowKit
theorem add_fieldD (ad : Addr) (n k : Nat) : ad.add (n + (k + 1)) = ⟨(ad.add n).block, (ad.add n).off + (k + 1), none⟩ := by
 unfold Addr.add
 by_cases h : n = 0 <;> simp [h, Nat.add_assoc]
/-- the cells of a letter in memory -/
theorem RsM.lt_at {w : World} {A : Option Addr} {ls : List Lt} (h : RsM RLt 3 [] w A ls) {k : Nat} (hk : k < ls.length) :
 ∃ (ad : Addr) (A2 : Option Addr) (c2 : Nat), A = some ad ∧ Bs w A2 ls[k].bytes ∧ ∀ w', Ext w w' → w'.cell? (ad.add (k * 3)) = some (.int .i64 ls[k].uid) ∧ w'.cell? ⟨(ad.add (k * 3)).block, (ad.add (k * 3)).off + 1, none⟩ = some (.int .u8 (ls[k].flags.toNat : Int)) ∧ w'.cell? ⟨(ad.add (k * 3)).block, (ad.add (k * 3)).off + 2, none⟩ = some (.slice A2 ls[k].bytes.length c2) := by
 obtain ⟨ad, cs, hA, _, _, hcell, A2, c2, hcs, hby⟩ := h.at_ (by omega) hk
 subst hcs
 refine ⟨ad, A2, c2, hA, hby.bs, fun w' hx => ⟨hx.cell (hcell 0 _ rfl), ?_, ?_⟩⟩
 ·rw [← add_fieldD]; exact hx.cell (hcell 1 _ rfl)
 ·rw [← add_fieldD]; exact hx.cell (hcell 2 _ rfl)
end Go.Proofs.YthlppbbejdeeoaaGreatDoor
