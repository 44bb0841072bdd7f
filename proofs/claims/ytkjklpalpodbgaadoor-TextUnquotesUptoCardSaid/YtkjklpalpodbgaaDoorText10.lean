/- The walk of text.Unquote. Condition: the length named in the theorem. Printed by gen/unq.py. -/
import Derived.Test.YtkjklpalpodbgaaDoorText9
namespace Go.Proofs.YtkjklpalpodbgaaDoor
open Go.RowKit
set_option maxRecDepth 100000 in
set_option maxHeartbeats 1600000 in
theorem Unquote_any (s : ByteArray) (w : World) (hs : s.size ≤ 140737488355324) : Calls Tryd.prog 13 #[.string s] w (USays (tl s) w) := by
  obtain ⟨i0, hi, hz0, hz1, hz2⟩ := info_parts u8_info
  have hit0 : It (w.iter s 0) w.heap.size s 0 := World.iter_heap w s 0
  have hxi : Ext w (w.iter s 0) := (Ext.refl w).alloc _
  go_enter Tryd.func13, Tryd.ntmps13
  go_wp2
  go_loopw [5, 6, 7] (fun o p sg wr => ∃ pos place sign out, p = .int .i64 (place : Nat) ∧ sg = .bool sign ∧ UAt (tl s) pos place sign out ∧ It wr w.heap.size s pos ∧ Own wr w.heap.size o out ∧ Ext w wr) (fun _ _ _ wr => s.size - wr.iterPos w.heap.size)
  case atStart => exact ⟨0, 0, false, [], rfl, rfl, UAt.zero _, hit0, Own.nil _ _, hxi⟩
  case round =>
    obtain ⟨pos, place, sign, out, rfl, rfl, hat, hit, hown, hx⟩ := hrel
    clear hit0 hxi
    have HAT := Lib.hid hat
    have HPOS := Lib.hid (iterPos_of hit)
    have hle : pos ≤ s.size := by have := hat.le; simpa using this
    have hnum := hat.num
    have hol := hat.len
    clear hat
    obtain ⟨A, cap, rfl⟩ := hown.form
    by_cases hlt : pos < s.size
    · have hnx := hit.next hlt
      have hit2 := hit.at_ (pos + (Utf8.decode s pos).2)
      have hx2 := hx.iterAt (pos := pos + (Utf8.decode s pos).2) (s := s) (Nat.le_refl w.heap.size)
      have hown2 : Own (wr.iterAt w.heap.size s (pos + (Utf8.decode s pos).2)) w.heap.size (.slice A out.length cap) out := own_iter hown hit _
      have hW := fun wz => width_any s pos wz (by omega) hlt
      have hbd := dec_bound s pos
      have hp1 := dec_pos s pos hlt
      have hval := dec_valid s pos
      obtain ⟨c, hc⟩ : ∃ c, c = (Utf8.decode s pos).1 := ⟨_, rfl⟩
      obtain ⟨W, hWd⟩ : ∃ W, W = (Utf8.decode s pos).2 := ⟨_, rfl⟩
      rw [← hc] at hnx hbd hval
      rw [← hWd] at hnx hit2 hx2 hown2 hp1
      simp only [← hWd] at hW
      have HC := Lib.hid hc
      have HW := Lib.hid hWd
      have HRU := Lib.hid (runU c hval)
      have hre := runE_len c
      have HPOS2 := Lib.hid (iterPos_of hit2)
      clear hc hWd hval
      by_cases hp0 : place = 0
      · subst hp0
        by_cases h34 : c = 34
        · have e1 : ((c : Int) != 34) = false := by rw [h34]; rfl
          cases sign
          · skip
            have H34 := Lib.hid h34
            clear h34
            go_wp2_with fail
            refine (hW _).mono ?_
            rintro e w3 ⟨rfl, hx3⟩
            have hx3' := hx2.trans hx3
            have hit3 := hit2.ext hx3
            have hown3 := hown2.ext hx3
            have HPOS3 := Lib.hid (iterPos_of hit3)
            clear hx3 hx2 hit2 hown2 hit hx hown hW
            go_wp2_with fail
            refine (plain_any (c : Int) (W : Int) w3).mono ?_
            rintro e w4 ⟨rfl, rfl⟩
            by_cases hpl : plainB (c : Int) (W : Int) = true
            · have HP := Lib.hid hpl
              rw [hpl]
              clear hpl
              go_wp2
              go_roundw
              case rel => exact ⟨pos + W, _, _, _, by simp, rfl, HAT.out.first hlt HC.out.symm HW.out.symm hp1 H34.out rfl HP.out, hit3, hown3, hx3'⟩
              case measure => rw [HPOS3.out, HPOS.out]; omega
            · have hpf : plainB (c : Int) (W : Int) = false := by simpa using hpl
              have HP := Lib.hid hpf
              rw [hpf]
              clear hpl hpf
              go_wp2
              go_ret3
              exact HAT.out.bad hlt HC.out.symm HW.out.symm (.inr (.inr HP.out)) hx3'
          · skip
            exact absurd (HAT.out.sg rfl) (by decide)
        · have e1 : ((c : Int) != 34) = true := by simp; omega
          have H34 := Lib.hid h34
          clear h34
          go_wp2
          go_ret3
          exact HAT.out.bad hlt HC.out.symm HW.out.symm (.inl ⟨rfl, H34.out⟩) hx2
      · have hp0i : ((place : Int) == 0) = false := beq_eq_false_iff_ne.2 (by omega)
        have HP0 := Lib.hid hp0
        clear hp0
        cases sign
        · skip
          go_wp2_with fail
          refine (hW _).mono ?_
          rintro e w3 ⟨rfl, hx3⟩
          have hx3' := hx2.trans hx3
          have hit3 := hit2.ext hx3
          have hown3 := hown2.ext hx3
          have HPOS3 := Lib.hid (iterPos_of hit3)
          clear hx3 hx2 hit2 hown2 hit hx hown hW
          go_wp2_with fail
          refine (plain_any (c : Int) (W : Int) w3).mono ?_
          rintro e w4 ⟨rfl, rfl⟩
          by_cases hpl : plainB (c : Int) (W : Int) = true
          · have HP := Lib.hid hpl
            rw [hpl]
            clear hpl
            by_cases h92 : c = 92
            · have e2 : ((c : Int) == 92) = true := by rw [h92]; rfl
              have H92 := Lib.hid h92
              clear h92
              go_wp2
              go_roundw
              case rel => exact ⟨pos + W, _, _, _, by simp, rfl, HAT.out.esc hlt HC.out.symm HW.out.symm hp1 HP0.out H92.out rfl HP.out, hit3, hown3, hx3'⟩
              case measure => rw [HPOS3.out, HPOS.out]; omega
            · have e2 : ((c : Int) == 92) = false := beq_eq_false_iff_ne.2 (by omega)
              by_cases h34 : c = 34
              · have e3 : ((c : Int) == 34) = true := by rw [h34]; rfl
                have H34 := Lib.hid h34
                clear h34 h92
                by_cases hol2 : 1024 < out.length
                · have hol3 : (1024 : Int) < (out.length : Int) := by omega
                  have HOL := Lib.hid hol2
                  clear hol2
                  go_wp2
                  go_ret3
                  exact HAT.out.long hlt HC.out.symm HW.out.symm HP0.out rfl H34.out HP.out HOL.out hx3'
                · have hol3 : ¬ (1024 : Int) < (out.length : Int) := by omega
                  have hcv := conv_str hown3.bs out.length cap rfl
                  obtain ⟨zz, hzz⟩ : ∃ z, z = st out := ⟨_, rfl⟩
                  rw [← hzz] at hcv
                  have HZ := Lib.hid hzz
                  clear hol2 hzz HRU
                  go_wp2
                  go_ret3
                  have := HAT.out.fin hlt HC.out.symm HW.out.symm HP0.out rfl H34.out HP.out (by omega) hx3'
                  rw [HZ.out]
                  simpa using this
              · have e3 : ((c : Int) == 34) = false := beq_eq_false_iff_ne.2 (by omega)
                have H34 := Lib.hid h34
                have H92 := Lib.hid h92
                clear h34 h92
                go_wp2_with (at_builtin; refine Lib.wpList_append_own_string _ rfl _ _ 34 9 rfl w.heap.size 5 i0 Tryd.underlying34 Tryd.underlying9 hi hz0 hz1 hz2 (.slice A out.length cap) out.length (bv out) rfl hown3 (st (runE c)) (congrArg Value.string HRU.out) ?c1 ?c2 ?c3 ?_)
                case c1 => unfold maxLen; rw [st_size]; omega
                case c2 => rw [st_size]; omega
                case c3 => exact hx3'.size
                intro v' w5 hown5 hgr5 _
                have hit5 := hit3.grown hown3 hgr5
                have hx5 := own_ext_grown hx3' hown3 hgr5
                have hown6 := Own.strs hown5 (by simp)
                have HPOS5 := Lib.hid (iterPos_of hit5)
                obtain ⟨A5, cap5, rfl⟩ := hown6.form
                clear hgr5 hown5
                go_wp2
                go_roundw
                case rel => exact ⟨pos + W, _, _, _, by simp, rfl, HAT.out.more hlt HC.out.symm HW.out.symm hp1 HP0.out (.inl ⟨rfl, H34.out, H92.out⟩) HP.out, hit5, hown6, hx5⟩
                case measure => rw [HPOS5.out, HPOS.out]; omega
          · have hpf : plainB (c : Int) (W : Int) = false := by simpa using hpl
            have HP := Lib.hid hpf
            rw [hpf]
            clear hpl hpf
            go_wp2
            go_ret3
            exact HAT.out.bad hlt HC.out.symm HW.out.symm (.inr (.inr HP.out)) hx3'
        · by_cases h34 : c = 34
          · skip
            have e1 : ((c : Int) != 34) = false := by rw [h34]; rfl
            have H34 := Lib.hid h34
            clear h34
            go_wp2_with fail
            refine (hW _).mono ?_
            rintro e w3 ⟨rfl, hx3⟩
            have hx3' := hx2.trans hx3
            have hit3 := hit2.ext hx3
            have hown3 := hown2.ext hx3
            have HPOS3 := Lib.hid (iterPos_of hit3)
            clear hx3 hx2 hit2 hown2 hit hx hown hW
            go_wp2_with fail
            refine (plain_any (c : Int) (W : Int) w3).mono ?_
            rintro e w4 ⟨rfl, rfl⟩
            by_cases hpl : plainB (c : Int) (W : Int) = true
            · have HP := Lib.hid hpl
              rw [hpl]
              clear hpl
              go_wp2_with (at_builtin; refine Lib.wpList_append_own_string _ rfl _ _ 34 9 rfl w.heap.size 5 i0 Tryd.underlying34 Tryd.underlying9 hi hz0 hz1 hz2 (.slice A out.length cap) out.length (bv out) rfl hown3 (st (runE c)) (congrArg Value.string HRU.out) ?c1 ?c2 ?c3 ?_)
              case c1 => unfold maxLen; rw [st_size]; omega
              case c2 => rw [st_size]; omega
              case c3 => exact hx3'.size
              intro v' w5 hown5 hgr5 _
              have hit5 := hit3.grown hown3 hgr5
              have hx5 := own_ext_grown hx3' hown3 hgr5
              have hown6 := Own.strs hown5 (by simp)
              have HPOS5 := Lib.hid (iterPos_of hit5)
              obtain ⟨A5, cap5, rfl⟩ := hown6.form
              clear hgr5 hown5
              go_wp2
              go_roundw
              case rel => exact ⟨pos + W, _, _, _, by simp, rfl, HAT.out.more hlt HC.out.symm HW.out.symm hp1 HP0.out (.inr ⟨rfl, .inl H34.out⟩) HP.out, hit5, hown6, hx5⟩
              case measure => rw [HPOS5.out, HPOS.out]; omega
            · have hpf : plainB (c : Int) (W : Int) = false := by simpa using hpl
              have HP := Lib.hid hpf
              rw [hpf]
              clear hpl hpf
              go_wp2
              go_ret3
              exact HAT.out.bad hlt HC.out.symm HW.out.symm (.inr (.inr HP.out)) hx3'
          · have e1 : ((c : Int) != 34) = true := by simp; omega
            by_cases h92 : c = 92
            · skip
              have e2 : ((c : Int) != 92) = false := by rw [h92]; rfl
              have H92 := Lib.hid h92
              clear h34 h92
              go_wp2_with fail
              refine (hW _).mono ?_
              rintro e w3 ⟨rfl, hx3⟩
              have hx3' := hx2.trans hx3
              have hit3 := hit2.ext hx3
              have hown3 := hown2.ext hx3
              have HPOS3 := Lib.hid (iterPos_of hit3)
              clear hx3 hx2 hit2 hown2 hit hx hown hW
              go_wp2_with fail
              refine (plain_any (c : Int) (W : Int) w3).mono ?_
              rintro e w4 ⟨rfl, rfl⟩
              by_cases hpl : plainB (c : Int) (W : Int) = true
              · have HP := Lib.hid hpl
                rw [hpl]
                clear hpl
                go_wp2_with (at_builtin; refine Lib.wpList_append_own_string _ rfl _ _ 34 9 rfl w.heap.size 5 i0 Tryd.underlying34 Tryd.underlying9 hi hz0 hz1 hz2 (.slice A out.length cap) out.length (bv out) rfl hown3 (st (runE c)) (congrArg Value.string HRU.out) ?c1 ?c2 ?c3 ?_)
                case c1 => unfold maxLen; rw [st_size]; omega
                case c2 => rw [st_size]; omega
                case c3 => exact hx3'.size
                intro v' w5 hown5 hgr5 _
                have hit5 := hit3.grown hown3 hgr5
                have hx5 := own_ext_grown hx3' hown3 hgr5
                have hown6 := Own.strs hown5 (by simp)
                have HPOS5 := Lib.hid (iterPos_of hit5)
                obtain ⟨A5, cap5, rfl⟩ := hown6.form
                clear hgr5 hown5
                go_wp2
                go_roundw
                case rel => exact ⟨pos + W, _, _, _, by simp, rfl, HAT.out.more hlt HC.out.symm HW.out.symm hp1 HP0.out (.inr ⟨rfl, .inr H92.out⟩) HP.out, hit5, hown6, hx5⟩
                case measure => rw [HPOS5.out, HPOS.out]; omega
              · have hpf : plainB (c : Int) (W : Int) = false := by simpa using hpl
                have HP := Lib.hid hpf
                rw [hpf]
                clear hpl hpf
                go_wp2
                go_ret3
                exact HAT.out.bad hlt HC.out.symm HW.out.symm (.inr (.inr HP.out)) hx3'
            · have e2 : ((c : Int) != 92) = true := by simp; omega
              have H34 := Lib.hid h34
              have H92 := Lib.hid h92
              clear h34 h92
              go_wp2
              go_ret3
              exact HAT.out.bad hlt HC.out.symm HW.out.symm (.inr (.inl ⟨rfl, H34.out, H92.out⟩)) hx2
    · have hst := hit.stop hlt
      go_wp2
      go_ret3
      exact HAT.out.done hlt hx
end Go.Proofs.YtkjklpalpodbgaaDoor
