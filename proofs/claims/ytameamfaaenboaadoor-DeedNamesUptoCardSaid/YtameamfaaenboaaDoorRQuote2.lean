/- The walk of the reference's Quote. Conditions: the library's two tables are laid. -/
import Derived.Test.YtameamfaaenboaaDoorRQuote
namespace Go.Proofs.YtameamfaaenboaaDoor
open Go.RowKit
set_option maxHeartbeats 1000000 in
theorem RQuote_any (l : List UInt8) (w : World) (hs : l.length ≤ 8796093022000) (hT : Tabs w) : Calls Tryd.prog 30 #[.string (st l)] w (QSays l w) := by
  by_cases hlong : 1024 < l.length
  · have HQ : Hid (∀ W, Ext w W → QSays l w (.returned (.tuple #[.string ⟨#[]⟩, .int .i64 0, .int .i64 6])) W) := Lib.hid fun W hx => QSays.long hlong hx
    have h1 : (1024 : Int) < (l.length : Int) := by omega
    clear hlong hT
    go_enter Tryd.func30, Tryd.ntmps30
    go_wp2
    go_ret3
    exact HQ.out _ (Ext.refl _)
  · have h1 : ¬ (1024 : Int) < (l.length : Int) := by omega
    have HS : Hid (l.length ≤ 1024) := Lib.hid (by omega)
    have hL := Letters_any l w hs hT
    have hok := letL_ok _ l (Nat.le_refl _)
    have hgd := (letL_good _ l (Nat.le_refl _)).2
    have hll := lets_len _ l (Nat.le_refl _)
    have hlq := lets_length l
    have HT := Lib.hid hT
    clear hlong hT
    go_enter Tryd.func30, Tryd.ntmps30
    go_wp2_with fail
    refine hL.mono ?_
    rintro e w1 ⟨v, rfl, ho, hx⟩
    clear hL
    by_cases hne : l = []
    · subst hne
      obtain ⟨A, cap, rfl⟩ := ho.form
      rw [lets_nil]
      have HQ : Hid (∀ W, Ext w W → QSays [] w (.returned (.tuple #[.string (st [34, 34]), .int .i64 0, .int .i64 0])) W) := Lib.hid fun W hx => QSays.ok (l := []) (by simp) (by simp [letL_nil]) hx
      clear ho hok hgd hll hlq
      go_wp2
      go_loopw [6, 7] (fun o i wr => o = .string (st [34]) ∧ i = .int .i64 0 ∧ wr = w1) (fun _ _ _ => 0)
      case atStart => exact ⟨rfl, rfl, rfl⟩
      case round =>
        obtain ⟨rfl, rfl, rfl⟩ := hrel
        go_wp2
        go_ret3
        exact HQ.out _ hx
    · have h0 : 0 < l.length := List.length_pos_iff.2 hne
      have h00 : 0 < (lets l).length := by
        rw [lets_step l hne]; simp
      obtain ⟨ad, cap, rfl, hc1, hc2, hcell⟩ := ho.cells h00
      have HC := Lib.hid hcell
      have HX := Lib.hid hx
      have HOK := Lib.hid hok
      have HGD := Lib.hid hgd
      clear hcell hok hgd ho hne
      go_wp2
      go_loopw [6, 7] (fun o i wr => ∃ k : Nat, i = .int .i64 k ∧ k ≤ (letL l).length ∧ o = .string (st (34 :: outL ((letL l).take k))) ∧ Ext w1 wr ∧ ∀ d ∈ (letL l).take k, plnL d = true) (fun _ i _ => (letL l).length - (intOf i).toNat)
      case atStart => exact ⟨0, rfl, by omega, rfl, Ext.refl _, by simp⟩
      case round =>
        obtain ⟨k, rfl, hk, rfl, hxr, hpl⟩ := hrel
        have HPL := Lib.hid hpl
        have hol := outL_len ((letL l).take k)
        have hol2 : (outL ((letL l).take k)).length ≤ 5 * 1024 := by
          have := HS.out
          simp only [List.length_take] at hol
          omega
        clear hpl hol
        by_cases hlt : k < (letL l).length
        · obtain ⟨⟨c, b⟩, hd⟩ : ∃ d, (letL l)[k]? = some d := ⟨_, List.getElem?_eq_getElem hlt⟩
          have hmem : (c, b) ∈ letL l := List.mem_of_getElem? hd
          have hck := fun w' hx => HC.out k b w' (lets_get hd) hx
          have hkn : (k : Int) < ((lets l).length : Int) := by omega
          have hkn2 : k < (lets l).length := by omega
          have htk : (letL l).take (k + 1) = (letL l).take k ++ [(c, b)] := by rw [List.take_add_one, hd]; rfl
          have hsp : letL l = (letL l).take k ++ (c, b) :: (letL l).drop (k + 1) := by
            obtain ⟨h5, h6⟩ := List.getElem?_eq_some_iff.1 hd
            rw [← h6, ← List.drop_eq_getElem_cons h5, List.take_append_drop]
          have hbl : b.length ≤ 4 := by
            rcases HOK.out _ hmem with ⟨_, x, h5, _⟩ | ⟨_, h5⟩
            · simp only at h5; rw [h5]; simp
            · simp only at h5; rw [h5]; exact runE_len c
          have hP := fun wz (hx : Ext w1 wz) => RPlain_any c b wz (by omega) (HOK.out _ hmem) (HT.out.ext (Ext.trans HX.out hx))
          have hck1 := hck wr hxr
          have HSP := Lib.hid hsp
          have HTK := Lib.hid htk
          have HMEM := Lib.hid hmem
          have HHK := Lib.hid hk
          clear hsp htk hmem hd
          have hklen : ((letL l).take k).length = k := by simp; omega
          have HKL := Lib.hid hklen
          clear hklen
          generalize hO : outL ((letL l).take k) = o at *
          have HO := Lib.hid hO
          clear hO
          go_wp2_with fail
          refine (hP wr hxr).mono ?_
          rintro e w2 ⟨rfl, hx2⟩
          clear hP
          have hx12 := hxr.trans hx2
          have hck2 := hck w2 hx12
          clear hck hck1
          by_cases hpl : plnL (c, b) = true
          · have HP := Lib.hid hpl
            have HG := Lib.hid (HGD.out _ HMEM.out hpl)
            rw [hpl]
            clear hpl
            have hfin : Hid (∀ d ∈ (letL l).take (k + 1), plnL d = true) := Lib.hid (by rw [HTK.out]; intro d hd; simp only [List.mem_append, List.mem_singleton] at hd; rcases hd with hd | rfl; exact HPL.out d hd; exact HP.out)
            have hcc1 : ¬ 9223372036854775807 < o.length + 1 + 1 := by omega
            have hcc2 : ¬ 9223372036854775807 < o.length + 1 + 1 + b.length := by omega
            have hcc3 : ¬ 9223372036854775807 < o.length + 1 + b.length := by omega
            have hrb : b = runE c := HG.out.2.1
            have hout : outL ((letL l).take (k + 1)) = o ++ escL c := by rw [HTK.out, outL_snoc, HO.out]
            have HOUT := Lib.hid hout
            have HRB := Lib.hid hrb
            have hg34 := good_34 HG.out
            have hg92 := good_92 HG.out
            clear hout hrb
            by_cases e34 : b = [34]
            · have hb1 : (b == [34]) = true := by rw [e34]; rfl
              have HE : Hid (escL c = 92 :: b) := Lib.hid (by unfold escL; rw [if_pos (.inl (hg34.1 e34)), HRB.out])
              clear e34 hg34 hg92
              go_wp2
              go_roundw
              case rel => exact ⟨k + 1, by go_num, by omega, congrArg Value.string (by rw [HOUT.out, HE.out, show (⟨#[92]⟩ : ByteArray) = st [92] from rfl, st_append, st_append]; simp), hx12, hfin.out⟩
              case measure => simp [intOf]; omega
            · have hb1 : (b == [34]) = false := by simpa using e34
              by_cases e92 : b = [92]
              · have hb2 : (b == [92]) = true := by rw [e92]; rfl
                have HE : Hid (escL c = 92 :: b) := Lib.hid (by unfold escL; rw [if_pos (.inr (hg92.1 e92)), HRB.out])
                clear e34 e92 hg34 hg92
                go_wp2
                go_roundw
                case rel => exact ⟨k + 1, by go_num, by omega, congrArg Value.string (by rw [HOUT.out, HE.out, show (⟨#[92]⟩ : ByteArray) = st [92] from rfl, st_append, st_append]; simp), hx12, hfin.out⟩
                case measure => simp [intOf]; omega
              · have hb2 : (b == [92]) = false := by simpa using e92
                have HE : Hid (escL c = b) := Lib.hid (by unfold escL; rw [if_neg (by rintro (h | h); exact e34 (hg34.2 h); exact e92 (hg92.2 h)), HRB.out])
                clear e34 e92 hg34 hg92
                go_wp2
                go_roundw
                case rel => exact ⟨k + 1, by go_num, by omega, congrArg Value.string (by rw [HOUT.out, HE.out]), hx12, hfin.out⟩
                case measure => simp [intOf]; omega
          · have hpf : plnL (c, b) = false := by simpa using hpl
            have HP := Lib.hid hpf
            rw [hpf]
            clear hpl hpf
            go_wp2
            go_ret3
            have := QSays.bad (w := w) HS.out HSP.out HPL.out HP.out (hx.trans hx12)
            rw [HKL.out] at this
            exact this
        · have hkk : k = (letL l).length := by omega
          have hlt' : ¬ (k : Int) < ((lets l).length : Int) := by omega
          have HQ : Hid (∀ W, Ext w W → QSays l w (.returned (.tuple #[.string (st (34 :: outL ((letL l).take k) ++ [34])), .int .i64 0, .int .i64 0])) W) := Lib.hid fun W hx => by
            have h5 := HPL.out
            rw [hkk, List.take_length] at h5 ⊢
            exact QSays.ok HS.out h5 hx
          clear hkk
          generalize outL ((letL l).take k) = o at *
          have hcc : ¬ 9223372036854775807 < o.length + 1 + 1 := by omega
          go_wp2
          go_ret3
          exact HQ.out _ (hx.trans hxr)
end Go.Proofs.YtameamfaaenboaaDoor
