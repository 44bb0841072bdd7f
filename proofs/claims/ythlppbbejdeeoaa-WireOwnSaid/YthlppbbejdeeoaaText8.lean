/- The walk of text.Quote. Condition: the length named in the theorem. -/
import Derived.Test.YthlppbbejdeeoaaText7
namespace Go.Proofs.Ythlppbbejdeeoaa
open Go.RowKit
set_option maxHeartbeats 800000 in
theorem Quote_any (s : ByteArray) (w : World) (hs : s.size ≤ 140737488355328) : Calls Try.prog 63 #[.string s] w (QSays (tl s) w) := by
  by_cases hlong : 1024 < s.size
  · have HQ : Hid (∀ W, Ext w W → QSays (tl s) w (.returned (.tuple #[.string ⟨#[]⟩, .int .i64 0, .int .i64 6])) W) := Lib.hid fun W hx => QSays.long (by simpa using hlong) hx
    have h1 : (1024 : Int) < (s.size : Int) := by omega
    clear hlong
    go_enter Try.func63, Try.ntmps63
    go_wp2
    go_ret3
    exact HQ.out _ (Ext.refl _)
  · have h1 : ¬ (1024 : Int) < (s.size : Int) := by omega
    have HS : Hid (s.size ≤ 1024) := Lib.hid (by omega)
    clear hlong
    obtain ⟨b, hb⟩ : ∃ b, b = w.heap.size := ⟨_, rfl⟩
    have hsb0 := Sb.new w
    have hx0 : Ext w (w.alloc (.cells #[.pointer none, .slice none 0 0] 133 (0, 0))) := (Ext.refl w).alloc _
    go_enter Try.func63, Try.ntmps63
    go_wp2_with fail
    refine (hsb0.byte 34 (by simp)).mono ?_
    rintro e w1 ⟨rfl, hst1⟩
    rw [List.nil_append] at hst1
    rw [← hb] at hst1 ⊢
    have hx1 : Ext w w1 := hst1.ext hx0 (by omega)
    have hb1 : b < w1.heap.size := hst1.1.1
    obtain ⟨g, hg⟩ : ∃ g, g = w1.heap.size := ⟨_, rfl⟩
    have hit0 : It (w1.iter s 0) w1.heap.size s 0 := World.iter_heap w1 s 0
    have hxi : Ext w (w1.iter s 0) := hx1.alloc _
    have hsbi := hst1.1.mkiter s 0
    have hgb : g ≠ b := by omega
    have hgw : w.heap.size ≤ g := by omega
    have HB := Lib.hid hb
    clear hst1 hx1 hb1 hsb0 hx0 hb
    go_wp2
    rw [← hg]
    rw [← hg] at hit0
    clear hg
    go_loopw [6] (fun p wr => ∃ pos ds, p = .int .i64 (ds.length : Nat) ∧ At (tl s) pos ds ∧ (∀ d ∈ ds, plnL d = true) ∧ It wr g s pos ∧ Sb wr b (34 :: outL ds) ∧ Ext w wr) (fun _ wr => s.size - wr.iterPos g)
    case atStart => exact ⟨0, [], rfl, At.zero _, by simp, hit0, hsbi, hxi⟩
    case round =>
      obtain ⟨pos, ds, rfl, hat, hds, hit, hsb, hx⟩ := hrel
      clear hit0 hsbi hxi
      have HAT := Lib.hid hat
      have HDS := Lib.hid hds
      have HPOS := Lib.hid (iterPos_of hit)
      have hle : pos ≤ s.size := by have := hat.le; simpa using this
      have hnum := hat.num
      have hol := outL_len ds
      have HOL : Hid ((34 :: outL ds).length + 10 ≤ 140737488355328) := Lib.hid (by have := HS.out; simp; omega)
      clear hat hds hol hle
      by_cases hlt : pos < s.size
      · have hnx := hit.next hlt
        have hit2 := hit.at_ (pos + (Utf8.decode s pos).2)
        have hx2 := hx.iterAt (pos := pos + (Utf8.decode s pos).2) (s := s) hgw
        have hsb2 := hsb.iter hit (pos + (Utf8.decode s pos).2)
        obtain ⟨bb, hbl, hspl, hat2⟩ := HAT.out.here hlt
        have hW := width_any s pos (wr.iterAt g s (pos + (Utf8.decode s pos).2)) hs hlt
        have hbd := dec_bound s pos
        have hp1 := dec_pos s pos hlt
        generalize (Utf8.decode s pos).1 = c at *
        generalize (Utf8.decode s pos).2 = W at *
        have HBL := Lib.hid hbl
        have HSPL := Lib.hid hspl
        have HAT2 := Lib.hid hat2
        clear hbl hspl hat2
        go_wp2_with fail
        refine hW.mono ?_
        rintro e w3 ⟨rfl, hx3⟩
        have hx3' := hx2.trans hx3
        have hit3 := hit2.ext hx3
        have hsb3 := hsb2.ext hx3
        have HPOS2 := Lib.hid (iterPos_of hit3)
        clear hx3 hit2 hsb2 hx2 hW
        go_wp2_with fail
        refine (plain_any (c : Int) (W : Int) w3).mono ?_
        rintro e w4 ⟨rfl, rfl⟩
        by_cases hpl : plainB (c : Int) (W : Int) = true
        · have HP : Hid (plnL (c, bb) = true) := Lib.hid (by unfold plnL; rw [HBL.out]; exact hpl)
          rw [hpl]
          clear hpl
          by_cases h34 : c = 34
          · have e1 : ((c : Int) == 34) = true := by rw [h34]; rfl
            have HE : Hid (escL c = 92 :: runE c) := Lib.hid (by unfold escL; rw [if_pos (by omega)])
            clear h34
            go_wp2_with fail
            refine (hsb3.byte 92 (by have := HOL.out; omega)).mono ?_
            rintro e w5 ⟨rfl, hst5⟩
            have hx5 := hst5.ext hx3' (by have := HB.out; omega)
            have hit5 := hst5.it hit3 hgb
            have hsb5 := hst5.1
            clear hst5 hx3' hit3 hsb3
            go_wp2_with fail
            refine (hsb5.rune (c : Int) (by omega) (by omega) (by have := HOL.out; simp at this ⊢; omega)).mono ?_
            rintro e w6 ⟨nn, rfl, hst6⟩
            have hx6 := hst6.ext hx5 (by have := HB.out; omega)
            have hit6 := hst6.it hit5 hgb
            have HPOS6 := Lib.hid (iterPos_of hit6)
            have hsb6 := hst6.1
            clear hst6
            go_wp2
            go_roundw
            case rel => exact ⟨pos + W, ds ++ [(c, bb)], by simp, HAT2.out, by intro d hd; simp at hd; rcases hd with hd | rfl; exact HDS.out d hd; exact HP.out, hit6, by rw [outL_snoc, HE.out]; simpa [runE] using hsb6, hx6⟩
            case measure => rw [HPOS6.out, HPOS.out]; omega
          · by_cases h92 : c = 92
            · have e1 : ((c : Int) == 34) = false := beq_eq_false_iff_ne.2 (by omega)
              have e2 : ((c : Int) == 92) = true := by rw [h92]; rfl
              have HE : Hid (escL c = 92 :: runE c) := Lib.hid (by unfold escL; rw [if_pos (by omega)])
              clear h34 h92
              go_wp2_with fail
              refine (hsb3.byte 92 (by have := HOL.out; omega)).mono ?_
              rintro e w5 ⟨rfl, hst5⟩
              have hx5 := hst5.ext hx3' (by have := HB.out; omega)
              have hit5 := hst5.it hit3 hgb
              have hsb5 := hst5.1
              clear hst5 hx3' hit3 hsb3
              go_wp2_with fail
              refine (hsb5.rune (c : Int) (by omega) (by omega) (by have := HOL.out; simp at this ⊢; omega)).mono ?_
              rintro e w6 ⟨nn, rfl, hst6⟩
              have hx6 := hst6.ext hx5 (by have := HB.out; omega)
              have hit6 := hst6.it hit5 hgb
              have HPOS6 := Lib.hid (iterPos_of hit6)
              have hsb6 := hst6.1
              clear hst6
              go_wp2
              go_roundw
              case rel => exact ⟨pos + W, ds ++ [(c, bb)], by simp, HAT2.out, by intro d hd; simp at hd; rcases hd with hd | rfl; exact HDS.out d hd; exact HP.out, hit6, by rw [outL_snoc, HE.out]; simpa [runE] using hsb6, hx6⟩
              case measure => rw [HPOS6.out, HPOS.out]; omega
            · have e1 : ((c : Int) == 34) = false := beq_eq_false_iff_ne.2 (by omega)
              have e2 : ((c : Int) == 92) = false := beq_eq_false_iff_ne.2 (by omega)
              have HE : Hid (escL c = runE c) := Lib.hid (by unfold escL; rw [if_neg (by omega)])
              clear h34 h92
              go_wp2_with fail
              refine (hsb3.rune (c : Int) (by omega) (by omega) (by have := HOL.out; omega)).mono ?_
              rintro e w5 ⟨nn, rfl, hst5⟩
              have hx5 := hst5.ext hx3' (by have := HB.out; omega)
              have hit5 := hst5.it hit3 hgb
              have HPOS5 := Lib.hid (iterPos_of hit5)
              have hsb5 := hst5.1
              clear hst5
              go_wp2
              go_roundw
              case rel => exact ⟨pos + W, ds ++ [(c, bb)], by simp, HAT2.out, by intro d hd; simp at hd; rcases hd with hd | rfl; exact HDS.out d hd; exact HP.out, hit5, by rw [outL_snoc, HE.out]; exact hsb5, hx5⟩
              case measure => rw [HPOS5.out, HPOS.out]; omega
        · have hpf : plainB (c : Int) (W : Int) = false := by simpa using hpl
          have HP : Hid (plnL (c, bb) = false) := Lib.hid (by unfold plnL; rw [HBL.out]; exact hpf)
          rw [hpf]
          clear hpl hpf
          go_wp2
          go_ret3
          exact QSays.bad (by have := HS.out; simpa using this) HSPL.out HDS.out HP.out hx3'
      · have hst := hit.stop hlt
        go_wp2_with fail
        refine (hsb.byte 34 (by have := HOL.out; omega)).mono ?_
        rintro e w3 ⟨rfl, hst3⟩
        have hx3 := hst3.ext hx (by have := HB.out; omega)
        have hsb3 := hst3.1
        clear hst3
        go_wp2_with fail
        refine hsb3.string.mono ?_
        rintro e w4 ⟨rfl, hst4⟩
        have hx4 := hst4.ext hx3 (by have := HB.out; omega)
        clear hst4
        go_wp2
        go_ret3
        have hd := HAT.out.done hlt
        have := QSays.ok (l := tl s) (w := w) (w' := w4) (by have := HS.out; simpa using this) (by rw [hd]; exact HDS.out) hx4
        rw [hd] at this
        exact this
end Go.Proofs.Ythlppbbejdeeoaa
