/- The walk of the reference's Letters. Conditions: the text is at most 2^43 bytes long, and the library's two tables are laid. -/
import Derived.Test.YtameamfaaenboaaDoorText9
namespace Go.Proofs.YtameamfaaenboaaDoor
open Go.RowKit
def Tabs (w : World) : Prop := Lib.Utf8Tabs 0 1 w
theorem Tabs.ext {w w' : World} (h : Tabs w) (hx : Ext w w') : Tabs w' := Utf8Tabs_below h hx
theorem decode_any (s : ByteArray) (w : World) (hT : Tabs w) (h0 : 0 < s.size) : Calls Tryd.prog 73 #[.string s] w fun e w' => e = .returned (.tuple #[.int .i32 ((Utf8.decode s 0).1 : Nat), .int .i64 ((Utf8.decode s 0).2 : Nat)]) ∧ Ext w w' := by
  refine (Tryd.utf8_DecodeRuneInString s w hT).mono ?_
  rintro e w' ⟨he, hb⟩
  unfold Lib.decodeGo at he
  rw [if_neg (by omega)] at he
  exact ⟨he, hb⟩
def strLen : Value → Nat
  | .string s => s.size
  | _ => 0
/-- strings as cells -/
def sv (ls : List (List UInt8)) : List Value := ls.map fun l => .string (st l)
@[simp] theorem sv_length (ls : List (List UInt8)) : (sv ls).length = ls.length := by simp [sv]
def OwnL (w : World) (base : Nat) (v : Value) (ls : List (List UInt8)) : Prop := w.ownsRow base 9 1 v ls.length (sv ls)
theorem OwnL.form {w : World} {base : Nat} {v : Value} {ls : List (List UInt8)} (h : OwnL w base v ls) : ∃ A cap, v = .slice A ls.length cap := own_form h
theorem strT : ElemOf Tryd.prog 91 9 1 16 := ElemOf.mk' (z := .string ⟨#[]⟩) Tryd.underlying91 (by kernel_rfl) rfl (by omega)
theorem OwnL.empty (w : World) (base : Nat) (hb : base ≤ w.heap.size) : OwnL (w.alloc (.cells #[] 9)) base (.slice (some ⟨w.heap.size, 0, none⟩) 0 0) [] := by
  refine ⟨rfl, .inr ⟨w.heap.size, 0, #[], rfl, hb, heap_alloc_new w _, Nat.le_refl _, by simp [maxLen], rfl, rfl⟩⟩
theorem OwnL.sl {w : World} {base n c : Nat} {A : Option Addr} {ls : List (List UInt8)} (h : OwnL w base (.slice A n c) ls) : Sl w A (sv ls) := Sl.own h rfl
/-- the bytes of a text's letters -/
def lets (l : List UInt8) : List (List UInt8) := (letL l).map fun d => d.2
theorem lets_nil : lets [] = [] := rfl
theorem lets_step (l : List UInt8) (h : l ≠ []) : lets l = l.take (Lib.decodeL l).2 :: lets (l.drop (Lib.decodeL l).2) := by
  unfold lets
  rw [letL_step l h]
  rfl
theorem lets_len : ∀ (k : Nat) (l : List UInt8), l.length ≤ k → (lets l).length ≤ l.length := by
  intro k
  induction k with
  | zero => intro l h; have : l = [] := List.eq_nil_of_length_eq_zero (by omega)
            subst this; simp [lets_nil]
  | succ k ih =>
    intro l h
    by_cases hne : l = []
    · subst hne; simp [lets_nil]
    · have hp := decL_pos l hne
      have hl := List.length_pos_iff.2 hne
      have := ih (l.drop (Lib.decodeL l).2) (by simp; omega)
      rw [lets_step l hne]
      simp at this ⊢
      omega
theorem Letters_any (l : List UInt8) (w : World) (hs : l.length ≤ 8796093022000) (hT : Tabs w) : Calls Tryd.prog 63 #[.string (st l)] w fun e w' => ∃ v, e = .returned v ∧ OwnL w' w.heap.size v (lets l) ∧ Ext w w' := by
  have hll := lets_len _ l (Nat.le_refl _)
  have ho0 := OwnL.empty w w.heap.size (Nat.le_refl _)
  have hx0 : Ext w (w.alloc (.cells #[] 9)) := (Ext.refl w).alloc _
  have HT := Lib.hid hT
  clear hT
  go_enter Tryd.func63, Tryd.ntmps63
  go_wp2
  go_loopw [0, 3] (fun a o wr => ∃ (r : List UInt8) (ds : List (List UInt8)), a = .string (st r) ∧ OwnL wr w.heap.size o ds ∧ Ext w wr ∧ lets l = ds ++ lets r ∧ r.length ≤ l.length) (fun a _ _ => strLen a)
  case atStart => exact ⟨l, [], rfl, ho0, hx0, rfl, Nat.le_refl _⟩
  case round =>
    obtain ⟨r, ds, rfl, ho, hx, hl, hrl⟩ := hrel
    have HL := Lib.hid hl
    have hlen : ds.length ≤ l.length := by have := congrArg List.length hl; simp at this; omega
    clear hl ho0 hx0
    obtain ⟨A, cap, rfl⟩ := ho.form
    by_cases h0 : 0 < r.length
    · have h0' : (0 : Int) < (r.length : Int) := by omega
      have hne : r ≠ [] := by intro e; rw [e] at h0; simp at h0
      have hd : Utf8.decode (st r) 0 = Lib.decodeL r := by rw [dec_at]; simp
      have hp := decL_pos r hne
      have hle := Lib.decodeL_le r hne
      have hD := decode_any (st r) wr (HT.out.ext hx) (by rw [st_size]; exact h0)
      rw [hd] at hD
      have hstep := lets_step r hne
      have HS := Lib.hid hstep
      generalize (Lib.decodeL r).1 = c at *
      generalize (Lib.decodeL r).2 = W at *
      have e1 : (st r).extract 0 W = st (r.take W) := by rw [ex_st, tl_st]; simp
      have e2 : (st r).extract W (st r).size = st (r.drop W) := by rw [ex_st, tl_st, st_size, List.take_length]
      have E1 := Lib.hid e1
      have E2 := Lib.hid e2
      clear hne hd hstep e1 e2
      go_wp2_with fail
      refine hD.mono ?_
      rintro e w1 ⟨rfl, hx1⟩
      clear hD
      have hxw := hx.trans hx1
      have ho1 := World.ownsRow.alloc (owns_ext ho hx1) (.cells #[.string ((st r).extract 0 W)] 9)
      have hxa : Ext w (w1.alloc (.cells #[.string ((st r).extract 0 W)] 9)) := hxw.alloc _
      go_wp2_with (at_builtin; refine unstop ?_)
      refine go_on (wpList_app strT ho1 (Sl.new w1 [.string ((st r).extract 0 W)] 9 (0, 0)) rfl rfl rfl rfl rfl (by simp [Value.oneCell']) (by omega) (by omega) hxa.size ?_)
      rintro v' w2 ho2 hg2 -
      have hx2 := Ext.own hxa ho1 (Nat.le_refl _) hg2
      go_wp2
      go_roundw
      case rel =>
        refine ⟨r.drop W, ds ++ [r.take W], by rw [← E2.out, st_size], ?_, hx2, by rw [HL.out, HS.out]; simp, by simp; omega⟩
        unfold OwnL
        rw [E1.out] at ho2
        simpa [sv] using ho2
      case measure =>
        simp only [strLen, ByteArray.size_extract, st_size]
        omega
    · have h0' : ¬ (0 : Int) < (r.length : Int) := by omega
      go_wp2
      go_ret
      have : r = [] := List.eq_nil_of_length_eq_zero (by omega)
      have h2 := HL.out
      rw [this, lets_nil, List.append_nil] at h2
      exact ⟨_, rfl, by rw [h2]; exact ho, hx⟩
end Go.Proofs.YtameamfaaenboaaDoor
