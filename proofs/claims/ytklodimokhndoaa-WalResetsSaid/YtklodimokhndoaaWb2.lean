/- The walk of the log's read. Conditions: the hypotheses of the theorem. -/
import Derived.Test.YtklodimokhndoaaWa2
import Derived.Test.YtklodimokhndoaaWa4
namespace Go.Proofs.Ytklodimokhndoaa
open Go.RowKit
theorem readF_more (b : By) : readF b = readG b (b.length + 1 + 1) 0 := by
  unfold readF
  cases h : oneF b 0 with
  | none => rw [readG_stop h, readG_stop h]
  | some x =>
    obtain ⟨r, nx⟩ := x
    have hs := one_some h
    conv => lhs; unfold readG
    conv => rhs; unfold readG
    rw [h]
    simp only
    obtain ⟨L, hL⟩ : ∃ L, b.length = L + 1 := ⟨b.length - 1, by omega⟩
    rw [hL, readG_fuel L (L + 1) nx (by omega) (by omega)]
theorem bytessT : ElemOf Try.prog 47 46 1 24 := ElemOf.mk' (z := .slice none 0 0) Try.underlying47 (by kernel_rfl) rfl (by omega)
theorem readG_len (b : By) : ∀ (f at_ : Nat), 4 * (readG b f at_).1.length + at_ ≤ max b.length at_ := by
  intro f
  induction f with
  | zero => intro at_; simp [readG]; omega
  | succ f ih =>
    intro at_
    unfold readG
    cases h : oneF b at_ with
    | none => simp; omega
    | some x =>
      obtain ⟨r, nx⟩ := x
      have hs := one_some h
      have := ih nx
      simp
      omega
theorem readG_at (b : By) : ∀ (f at_ : Nat), at_ ≤ b.length → (readG b f at_).2 ≤ b.length := by
  intro f
  induction f with
  | zero => intro at_ h; exact h
  | succ f ih =>
    intro at_ h0
    unfold readG
    cases h : oneF b at_ with
    | none => exact h0
    | some x =>
      obtain ⟨r, nx⟩ := x
      exact ih nx (one_some h).2.1
/-- a log's block, whatever its records -/
def LgC (w : World) (q p age base size half gen : Nat) (sp v : Value) : Prop :=
  w.heap[q]? = some (Obj.cells #[pt p, .int .i64 age, .int .i64 base, .int .i64 size, .int .i64 half, .int .u64 gen, sp, v] 77 (0, 0))
theorem LgC.cell {w : World} {q p age base size half gen : Nat} {sp v : Value} (h : LgC w q p age base size half gen sp v) : w.cell? ⟨q, 0, none⟩ = some (pt p) ∧ w.cell? ⟨q, 4, none⟩ = some (.int .i64 half) ∧ w.cell? ⟨q, 5, none⟩ = some (.int .u64 gen) ∧ w.cell? ⟨q, 6, none⟩ = some sp ∧ w.cell? ⟨q, 7, none⟩ = some v ∧ (∀ j, w.frozen? ⟨q, j, none⟩ = false) := by
  refine ⟨?_, ?_, ?_, ?_, ?_, fun j => frozen_of_row _ q j _ _ h⟩ <;> (rw [cell_of_row _ q _ _ _ _ h]; rfl)
theorem LgC.set7 {w : World} {q p age base size half gen : Nat} {sp v : Value} (h : LgC w q p age base size half gen sp v) (u : Value) : LgC (w.setCell ⟨q, 7, none⟩ u) q p age base size half gen sp u := by
  have := heap_setCell_same w q 7 _ _ u h
  simpa [LgC] using this
theorem LgC.set6 {w : World} {q p age base size half gen : Nat} {sp v : Value} (h : LgC w q p age base size half gen sp v) (u : Value) : LgC (w.setCell ⟨q, 6, none⟩ u) q p age base size half gen u v := by
  have := heap_setCell_same w q 6 _ _ u h
  simpa [LgC] using this
theorem LgC.ext {w w' : World} {q p age base size half gen : Nat} {sp v : Value} (h : LgC w q p age base size half gen sp v) (hx : Ext w w') : LgC w' q p age base size half gen sp v := hx.obj h
theorem LgC.kept {w w' : World} {M : List Nat} {q p age base size half gen : Nat} {sp v : Value} (h : LgC w q p age base size half gen sp v) (hx : Kept M w w') (hq : q ∉ M) : LgC w' q p age base size half gen sp v := hx.heap h hq
theorem Own.setOther {w : World} {base q j : Nat} {v u : Value} {l : By} (h : Own w base v l) {cs : Array Value} {t : TypeId} (hq : w.heap[q]? = some (Obj.cells cs t (0, 0))) (ht : t ≠ 5) : Own (w.setCell ⟨q, j, none⟩ u) base v l :=
  h.kept (row := some q) ⟨rfl, rfl, rfl, by simp, fun k _ hk => heap_setCell_other w ⟨q, j, none⟩ k _ (fun e => hk (by simp [e]))⟩ (owns_obj h hq (fun e => ht e.symm))
theorem OwnS.setOther {w : World} {base q j : Nat} {v u : Value} {ls : List By} (h : OwnS w base v ls) {cs : Array Value} {t : TypeId} (hq : w.heap[q]? = some (Obj.cells cs t (0, 0))) (ht : t ≠ 5) (ht2 : t ≠ 46) : OwnS (w.setCell ⟨q, j, none⟩ u) base v ls := by
  obtain ⟨vs, h1, h2⟩ := h
  refine ⟨vs, h1.kept (row := some q) ⟨rfl, rfl, rfl, by simp, fun k _ hk => heap_setCell_other w ⟨q, j, none⟩ k _ (fun e => hk (by simp [e]))⟩ (owns_obj h1 hq (fun e => ht2 e.symm)), fun k l hk => ?_⟩
  obtain ⟨x, h3, h4⟩ := h2 k l hk
  exact ⟨x, h3, h4.setOther hq ht⟩
set_option maxRecDepth 20000 in
set_option maxHeartbeats 2000000 in
theorem wread_any {w : World} {q p age base size half gen : Nat} {sp : Value} (h : LgC w q p age base size half gen sp (.slice none 0 0)) (Ab : Option Addr) (cb : Nat) (b : By) (hb : Bs w Ab b) (hbq : ∀ ad, Ab = some ad → ad.block ≠ q) (hc : b.length ≤ cb) (hl : b.length % 64 = 0) (hbl : b.length ≤ 1000000) :
    Calls Try.prog 33 #[pt q, .slice Ab b.length cb] w fun e w' => e = .returned (.tuple #[]) ∧ Kept [q] w w' ∧ ∃ A c v, LgC w' q p age base size half gen (.slice A (b.take (readF b).2).length c) v ∧ Own w' w.heap.size (.slice A (b.take (readF b).2).length c) (b.take (readF b).2) ∧ OwnS w' w.heap.size v (readF b).1 := by
  have HB := Lib.hid hb
  have hq := (Array.getElem?_eq_some_iff.1 h).1
  have HR0 := Lib.hid h
  have hbm : BsM [q] w Ab b := fun k u hk => by
    obtain ⟨ad, e, hc⟩ := hb k u hk
    exact ⟨ad, e, by simpa using hbq ad e, hc⟩
  have HBM := Lib.hid hbm
  have HF0 : Hid (readF b = ([] ++ (readG b (b.length + 1 + 1) 0).1, (readG b (b.length + 1 + 1) 0).2)) := Lib.hid (readF_more b)
  clear h hb hbm hbq
  unfold pt
  go_enter Try.func33, Try.ntmps33
  go_wp2
  go_loopw [4] (fun av wr => ∃ (at1 : Nat) (done : List By) (v : Value), av = .int .i64 at1 ∧ at1 ≤ b.length ∧ 4 * done.length ≤ at1 ∧ Hid (readF b = (done ++ (readG b (b.length + 1 + 1) at1).1, (readG b (b.length + 1 + 1) at1).2)) ∧ Hid (LgC wr q p age base size half gen sp v) ∧ Hid (Kept [q] w wr) ∧ Hid (OwnS wr w.heap.size v done)) (fun av _ => b.length - (intOf av).toNat)
  case atStart => exact ⟨0, [], _, rfl, by omega, by simp, HF0, HR0, Lib.hid (Kept.refl _ _), Lib.hid (OwnS.nil _ _)⟩
  case round =>
    clear HF0 HR0
    obtain ⟨at1, done, v, rfl, hat, hdl, HF, HR, HK, HO⟩ := hrel
    have HC := wone_any Ab cb b at1 wr (HBM.out.kept HK.out).bs hc hl hbl hat
    go_wp2_with fail
    refine HC.mono ?_
    rintro e w1 ⟨hx1, hs1⟩
    clear HC
    cases hone : oneF b at1 with
    | none =>
      rw [hone] at hs1
      subst hs1
      rw [readG_stop hone, List.append_nil] at HF
      clear hone
      obtain ⟨A4, e4, f4⟩ := cutB_h (P := Try.prog) Try.underlying46 size8 Ab b.length cb b at1 (hi := (at1 : Int)) rfl rfl hc hat
      have hb4 := f4 w1 ((HBM.out.kept HK.out).bs.ext hx1)
      have htl : (b.take at1).length = at1 := by simp; omega
      have HCL := fclone_any A4 cb at1 (b.take at1) w1 hb4 (by omega) htl.symm
      have HK1 := Lib.hid (HK.out.ext hx1)
      have HR1 := Lib.hid (show LgC w1 q p age base size half gen sp v from hx1.obj HR.out)
      have HO1 := Lib.hid (HO.out.ext hx1)
      clear f4 hb4 HR HO htl
      go_wp2_with fail
      refine HCL.mono ?_
      rintro e w2 ⟨v2, rfl, ho2, hx2⟩
      obtain ⟨A2, c2, rfl⟩ := ho2.form
      have HR2 := Lib.hid (show LgC w2 q p age base size half gen sp v from hx2.obj HR1.out)
      have HO2 := Lib.hid (HO1.out.ext hx2)
      have HK2 := Lib.hid (HK1.out.ext hx2)
      have HP2 := Lib.hid (ho2.low (Nat.le_trans HK.out.size hx1.size))
      obtain ⟨-, -, -, c6, -, f6⟩ := HR2.out.cell
      have f66 := f6 6
      clear f6 ho2 hx2 HCL HR1 HO1 HK1
      go_wp2
      go_end0
      have hl : (b.take at1).length = at1 := by simp; omega
      have hk6 : Kept [q] w (w2.setCell ⟨q, 6, none⟩ (.slice A2 at1 c2)) := HK2.out.setCell (.inl (by simp)) _
      refine ⟨rfl, hk6, A2, c2, v, ?_, ?_, ?_⟩
      · rw [HF.out, hl]; exact HR2.out.set6 _
      · rw [HF.out, hl]; have := HP2.out.setOther (j := 6) (u := .slice A2 at1 c2) HR2.out (by decide); rw [hl] at this; exact this
      · rw [HF.out]; exact HO2.out.setOther HR2.out (by decide) (by decide)
    | some x =>
      obtain ⟨r, nx⟩ := x
      rw [hone] at hs1
      obtain ⟨v1, rfl, ho1⟩ := hs1
      have hs := one_some hone
      have HF1 : Hid (readF b = ((done ++ [r]) ++ (readG b (b.length + 1 + 1) nx).1, (readG b (b.length + 1 + 1) nx).2)) := Lib.hid (by rw [HF.out, readG_step hone (by omega)]; simp)
      obtain ⟨A1, c1, rfl⟩ := ho1.form
      have HR1 := Lib.hid (show LgC w1 q p age base size half gen sp v from hx1.obj HR.out)
      have HO1 := Lib.hid (HO.out.ext hx1)
      have HK1 := Lib.hid (HK.out.ext hx1)
      have HP1 := Lib.hid (ho1.low HK.out.size)
      obtain ⟨-, -, -, -, c7, f7⟩ := HR1.out.cell
      have f77 := f7 7
      have hqb := HK1.out.size
      clear f7 ho1 HR HO hone HF HK
      obtain ⟨A0, ca0, rfl⟩ := HO1.out.form
      obtain ⟨vs, q1, q2⟩ := HO1.out
      have Q1 := Lib.hid q1
      have Q2 := Lib.hid q2
      clear q1 q2
      go_wp2_with (at_builtin; refine unstop ?_)
      refine go_on (wpList_app bytessT (Q1.out.alloc _) (Sl.new w1 [.slice A1 r.length c1] 46 (0, 0)) rfl rfl rfl rfl rfl (by simp [Value.oneCell']) (by omega) (by omega) (by simp; omega) ?_)
      intro v4 w4 ho4 hg4 hor4
      have hxa : Ext w1 (w1.alloc (.cells #[.slice A1 r.length c1] 46)) := (Ext.refl _).alloc _
      obtain ⟨A5, c5, rfl⟩ := own_form ho4
      have hos := OwnS.push (Q1.out.alloc _) (fun k l hk => by obtain ⟨u, h3, h4⟩ := Q2.out k l hk; exact ⟨u, h3, h4.alloc _⟩) (HP1.out.alloc _) ho4 hg4
      have hq4 : (Value.slice A0 done.length ca0).ownBlock = none ∨ (Value.slice A0 done.length ca0).ownBlock ≠ some q := owns_obj Q1.out HR1.out (by decide)
      have hk4 : Kept [q] w w4 := ((HK1.out.ext hxa).grown hg4 fun k hk => .inr ((Q1.out.lt _ hk).1))
      have hr4 : LgC w4 q p age base size half gen sp (.slice A0 done.length ca0) := by
        refine (hg4.block q ?_ ?_).trans (hxa.obj HR1.out)
        · have := (Array.getElem?_eq_some_iff.1 HR1.out).1; simp; omega
        · rcases hq4 with e | e
          · rw [e]; simp
          · exact fun e' => e e'.symm
      obtain ⟨-, -, -, -, c74, f74⟩ := hr4.cell
      have f774 := f74 7
      have HR4 := Lib.hid hr4
      have HK4 := Lib.hid hk4
      have HO4 := Lib.hid hos
      clear hr4 hk4 hos hq4 ho4 hg4 hor4 hxa f74 Q1 Q2
      go_wp2
      go_roundw
      case rel => exact ⟨nx, done ++ [r], _, rfl, hs.2.1, by simp; omega, HF1, Lib.hid (HR4.out.set7 _), Lib.hid (HK4.out.setCell (.inl (by simp)) _), Lib.hid (HO4.out.setOther HR4.out (by decide) (by decide))⟩
      case measure => simp [intOf]; omega
end Go.Proofs.Ytklodimokhndoaa
