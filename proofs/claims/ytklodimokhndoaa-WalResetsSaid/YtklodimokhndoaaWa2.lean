/- The walk of the log's one. Conditions: the hypotheses of the theorem. -/
import Derived.Test.YtklodimokhndoaaWa1
namespace Go.Proofs.Ytklodimokhndoaa
open Go.RowKit
def WOneSays (b : By) (at_ : Nat) (w : World) (e : Ending) (w' : World) : Prop :=
  Ext w w' ∧ match oneF b at_ with
    | none => e = .returned (.tuple #[.slice none 0 0, .int .i64 0, .bool false])
    | some (r, nx) => ∃ v, e = .returned (.tuple #[v, .int .i64 nx, .bool true]) ∧ Own w' w.heap.size v r
theorem oneG_none {b : By} {f at_ : Nat} {out : By} (h : chunkF b at_ = none) : oneG b (f + 1) out at_ = none := by unfold oneG; rw [h]
theorem oneG_next {b : By} {f at_ k nx : Nat} {out p : By} (h : chunkF b at_ = some (k, p, nx)) : oneG b (f + 1) out at_ =
    if decide (k = 1 ∨ k = 2) ≠ decide (out.length = 0) then none
      else if 2000 < (out ++ p).length then none
      else if k = 1 ∨ k = 4 then some (out ++ p, nx)
      else oneG b f (out ++ p) nx := by
  conv => lhs; unfold oneG
  rw [h]
set_option maxRecDepth 20000 in
set_option maxHeartbeats 2000000 in
theorem wone_any (A : Option Addr) (c : Nat) (b : By) (at_ : Nat) (w : World) (hb : Bs w A b) (hc : b.length ≤ c) (hl : b.length % 64 = 0) (hbl : b.length ≤ 1000000) (ha : at_ ≤ b.length) :
    Calls Try.prog 59 #[.slice A b.length c, .int .i64 at_] w (WOneSays b at_ w) := by
  have HB := Lib.hid hb
  have HO0 := Lib.hid (Own.nil w w.heap.size)
  clear hb
  go_enter Try.func59, Try.ntmps59
  go_wp2
  go_loopw [7, 1] (fun ov av wr => ∃ (f at1 : Nat) (out : By) (A1 : Option Addr) (c1 : Nat), ov = .slice A1 out.length c1 ∧ av = .int .i64 at1 ∧ at1 ≤ b.length ∧ Hid (oneF b at_ = oneG b f out at1) ∧ 2001 ≤ f + out.length ∧ out.length ≤ 2000 ∧ Hid (Own wr w.heap.size (.slice A1 out.length c1) out) ∧ Hid (Ext w wr)) (fun _ av _ => b.length - (intOf av).toNat)
  case atStart => exact ⟨2001, at_, [], none, 0, rfl, rfl, ha, Lib.hid rfl, by simp, by simp, HO0, Lib.hid (Ext.refl _)⟩
  case round =>
    obtain ⟨f, at1, out, A1, c1, rfl, rfl, hat, HF, hf, hol, HO, HX⟩ := hrel
    clear HO0
    obtain ⟨f, rfl⟩ : ∃ g, f = g + 1 := ⟨f - 1, by omega⟩
    have HC := wchunk_any A c b at1 wr (HB.out.ext HX.out) hc hl hbl (by omega)
    go_wp2_with fail
    refine HC.mono ?_
    rintro e w1 ⟨hx1, hs1⟩
    have HXC := Lib.hid hx1
    clear HC hx1
    cases hch : chunkF b at1 with
    | none =>
      rw [hch] at hs1
      subst hs1
      rw [oneG_none hch] at HF
      clear hch
      go_wp2_with fail
      go_ret3
      refine ⟨HX.out.trans HXC.out, ?_⟩
      rw [HF.out]
      rfl
    | some x =>
      obtain ⟨k, p, nx⟩ := x
      rw [hch] at hs1
      obtain ⟨A', c', rfl, hp, hpc⟩ := hs1
      have hcs := chunk_some hch
      rw [oneG_next hch] at HF
      have HP := Lib.hid hp
      clear hch hp
      by_cases h0 : out.length = 0
      · have h0b : ((out.length : Int) == 0) = true := by simpa using h0
        have H0 := Lib.hid h0
        clear h0
        have hk4 : k = 1 ∨ k = 2 ∨ k = 3 ∨ k = 4 := by omega
        rcases hk4 with rfl | rfl | rfl | rfl
        · skip
          go_wp2_with (at_builtin; refine unstop ?_)
          refine go_on (wpList_appB bytesT (HO.out.ext HXC.out) (HP.out.ext HXC.out) rfl rfl rfl rfl rfl (by omega) (Ext.size (HX.out.trans HXC.out)) ?_)
          intro v2 w2 ho2 hg2 hor2
          have HX2 := Lib.hid ((HX.out.trans HXC.out).own (HO.out.ext HXC.out) (Nat.le_refl _) hg2)
          obtain ⟨A2, c2, rfl⟩ := ho2.form
          have HO2 := Lib.hid ho2
          have hge : out.length + 1 ≤ (out ++ p).length := by rw [List.length_append]; omega
          rw [if_neg (by simp [H0.out])] at HF
          generalize out ++ p = o2 at *
          clear ho2 hg2 hor2 HO HP HXC HX h0b
          by_cases hbig : 2000 < o2.length
          · have hbi : (2000 : Int) < (o2.length : Int) := by omega
            rw [if_pos hbig] at HF
            go_wp2_with fail
            go_ret3
            refine ⟨HX2.out, ?_⟩
            rw [HF.out]
            rfl
          · have hbi : ¬ (2000 : Int) < (o2.length : Int) := by omega
            rw [if_neg hbig] at HF
            go_wp2_with fail
            go_ret3
            refine ⟨HX2.out, ?_⟩
            rw [HF.out, if_pos (by simp)]
            exact ⟨_, rfl, HO2.out⟩
        · skip
          go_wp2_with (at_builtin; refine unstop ?_)
          refine go_on (wpList_appB bytesT (HO.out.ext HXC.out) (HP.out.ext HXC.out) rfl rfl rfl rfl rfl (by omega) (Ext.size (HX.out.trans HXC.out)) ?_)
          intro v2 w2 ho2 hg2 hor2
          have HX2 := Lib.hid ((HX.out.trans HXC.out).own (HO.out.ext HXC.out) (Nat.le_refl _) hg2)
          obtain ⟨A2, c2, rfl⟩ := ho2.form
          have HO2 := Lib.hid ho2
          have hge : out.length + 1 ≤ (out ++ p).length := by rw [List.length_append]; omega
          rw [if_neg (by simp [H0.out])] at HF
          generalize out ++ p = o2 at *
          clear ho2 hg2 hor2 HO HP HXC HX h0b
          by_cases hbig : 2000 < o2.length
          · have hbi : (2000 : Int) < (o2.length : Int) := by omega
            rw [if_pos hbig] at HF
            go_wp2_with fail
            go_ret3
            refine ⟨HX2.out, ?_⟩
            rw [HF.out]
            rfl
          · have hbi : ¬ (2000 : Int) < (o2.length : Int) := by omega
            rw [if_neg hbig] at HF
            rw [if_neg (by simp)] at HF
            go_wp2_with fail
            go_roundw
            case rel => exact ⟨f, nx, o2, A2, c2, rfl, rfl, by omega, HF, by omega, by omega, HO2, HX2⟩
            case measure => simp [intOf]; omega
        · skip
          go_wp2_with fail
          go_ret3
          refine ⟨HX.out.trans HXC.out, ?_⟩
          rw [HF.out, if_pos (by simp [H0.out])]
          rfl
        · skip
          go_wp2_with fail
          go_ret3
          refine ⟨HX.out.trans HXC.out, ?_⟩
          rw [HF.out, if_pos (by simp [H0.out])]
          rfl
      · have h0b : ((out.length : Int) == 0) = false := by simpa using h0
        have H0 := Lib.hid h0
        clear h0
        have hk4 : k = 1 ∨ k = 2 ∨ k = 3 ∨ k = 4 := by omega
        rcases hk4 with rfl | rfl | rfl | rfl
        · skip
          go_wp2_with fail
          go_ret3
          refine ⟨HX.out.trans HXC.out, ?_⟩
          rw [HF.out, if_pos (by simp [H0.out])]
          rfl
        · skip
          go_wp2_with fail
          go_ret3
          refine ⟨HX.out.trans HXC.out, ?_⟩
          rw [HF.out, if_pos (by simp [H0.out])]
          rfl
        · skip
          go_wp2_with (at_builtin; refine unstop ?_)
          refine go_on (wpList_appB bytesT (HO.out.ext HXC.out) (HP.out.ext HXC.out) rfl rfl rfl rfl rfl (by omega) (Ext.size (HX.out.trans HXC.out)) ?_)
          intro v2 w2 ho2 hg2 hor2
          have HX2 := Lib.hid ((HX.out.trans HXC.out).own (HO.out.ext HXC.out) (Nat.le_refl _) hg2)
          obtain ⟨A2, c2, rfl⟩ := ho2.form
          have HO2 := Lib.hid ho2
          have hge : out.length + 1 ≤ (out ++ p).length := by rw [List.length_append]; omega
          rw [if_neg (by simp [H0.out])] at HF
          generalize out ++ p = o2 at *
          clear ho2 hg2 hor2 HO HP HXC HX h0b
          by_cases hbig : 2000 < o2.length
          · have hbi : (2000 : Int) < (o2.length : Int) := by omega
            rw [if_pos hbig] at HF
            go_wp2_with fail
            go_ret3
            refine ⟨HX2.out, ?_⟩
            rw [HF.out]
            rfl
          · have hbi : ¬ (2000 : Int) < (o2.length : Int) := by omega
            rw [if_neg hbig] at HF
            rw [if_neg (by simp)] at HF
            go_wp2_with fail
            go_roundw
            case rel => exact ⟨f, nx, o2, A2, c2, rfl, rfl, by omega, HF, by omega, by omega, HO2, HX2⟩
            case measure => simp [intOf]; omega
        · skip
          go_wp2_with (at_builtin; refine unstop ?_)
          refine go_on (wpList_appB bytesT (HO.out.ext HXC.out) (HP.out.ext HXC.out) rfl rfl rfl rfl rfl (by omega) (Ext.size (HX.out.trans HXC.out)) ?_)
          intro v2 w2 ho2 hg2 hor2
          have HX2 := Lib.hid ((HX.out.trans HXC.out).own (HO.out.ext HXC.out) (Nat.le_refl _) hg2)
          obtain ⟨A2, c2, rfl⟩ := ho2.form
          have HO2 := Lib.hid ho2
          have hge : out.length + 1 ≤ (out ++ p).length := by rw [List.length_append]; omega
          rw [if_neg (by simp [H0.out])] at HF
          generalize out ++ p = o2 at *
          clear ho2 hg2 hor2 HO HP HXC HX h0b
          by_cases hbig : 2000 < o2.length
          · have hbi : (2000 : Int) < (o2.length : Int) := by omega
            rw [if_pos hbig] at HF
            go_wp2_with fail
            go_ret3
            refine ⟨HX2.out, ?_⟩
            rw [HF.out]
            rfl
          · have hbi : ¬ (2000 : Int) < (o2.length : Int) := by omega
            rw [if_neg hbig] at HF
            go_wp2_with fail
            go_ret3
            refine ⟨HX2.out, ?_⟩
            rw [HF.out, if_pos (by simp)]
            exact ⟨_, rfl, HO2.out⟩
end Go.Proofs.Ytklodimokhndoaa
