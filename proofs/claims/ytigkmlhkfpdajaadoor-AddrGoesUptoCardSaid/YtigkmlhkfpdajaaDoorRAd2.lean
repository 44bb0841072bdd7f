/- The walk of the reference's domain. Conditions: the letters are a text's. -/
import Derived.Test.YtigkmlhkfpdajaaDoorRAd1
namespace Go.Proofs.YtigkmlhkfpdajaaDoor
open Go.RowKit
structure DAt (ds : List (Nat × List UInt8)) (at_ i z n p : Nat) : Prop where
  run : runF (ds.drop at_) 6 0 at_ (some 0) 0 = runF (ds.drop i) z n i (some 0) p
  le : i ≤ ds.length
  ge : at_ ≤ i
  hz : 4 ≤ z ∧ z ≤ 6
  hn : z = 6 ↔ n = 0
  hni : n ≤ i
  pre : z ≠ 6 → 0 < i ∧ ∃ d, ds[i - 1]? = some d ∧ (d.1 = 45 ↔ z = 5)
theorem DAt.zero {ds : List (Nat × List UInt8)} {at_ : Nat} (h : at_ ≤ ds.length) : DAt ds at_ at_ 6 0 0 := ⟨rfl, h, by omega, by omega, by simp, by omega, fun h => absurd rfl h⟩
theorem DAt.bad {ds : List (Nat × List UInt8)} {at_ i z n p c : Nat} {b : List UInt8} (h : DAt ds at_ i z n p) (hd : ds[i]? = some (c, b)) (hf : (nextS z c n).2 = false) : domV ds at_ = (i : Int) := by
  obtain ⟨hi, e⟩ := List.getElem?_eq_some_iff.1 hd
  have hr := h.run
  rw [List.drop_eq_getElem_cons hi, e] at hr
  conv at hr => rhs; unfold runF
  rw [if_pos hf] at hr
  unfold domV
  rw [hr]
theorem DAt.step {ds : List (Nat × List UInt8)} {at_ i z n p c : Nat} {b : List UInt8} (h : DAt ds at_ i z n p) (hd : ds[i]? = some (c, b)) (ht : (nextS z c n).2 = true)
    (hz5 : (nextS z c n).1 ≠ 6 → (c = 45 ↔ (nextS z c n).1 = 5)) : DAt ds at_ (i + 1) (nextS z c n).1 (if (nextS z c n).1 = 6 then 0 else n + 1) (p + b.length) := by
  obtain ⟨hi, e⟩ := List.getElem?_eq_some_iff.1 hd
  have hr := h.run
  rw [List.drop_eq_getElem_cons hi, e] at hr
  conv at hr => rhs; unfold runF
  rw [if_neg (by rw [ht]; decide), if_neg (show ¬ ((nextS z c n).1 = 6 ∧ (some 0 : Option Nat) = none) by simp)] at hr
  have h1 := h.hni
  refine ⟨hr, by omega, by have := h.ge; omega, (nextS_dom h.hz ht).2, ?_, ?_, fun h6 => ⟨by omega, (c, b), by simpa using hd, hz5 h6⟩⟩
  · split
    · simp_all
    · rename_i hne; constructor
      · intro e; exact absurd e hne
      · intro e; omega
  · split <;> omega
theorem DAt.end_ {ds : List (Nat × List UInt8)} {at_ i z n p : Nat} (h : DAt ds at_ i z n p) (hi : i = ds.length) : domV ds at_ = if z = 4 then (ds.length : Int) else -1 := by
  have hr := h.run
  rw [hi, List.drop_length] at hr
  unfold domV
  rw [hr]
  rfl
set_option maxRecDepth 20000 in
set_option maxHeartbeats 1600000 in
theorem domain_any (ds : List (Nat × List UInt8)) (hok : ∀ d ∈ ds, letOk d) (at_ : Nat) (hat : at_ ≤ ds.length) (h0 : 0 < ds.length) (hl : ds.length ≤ 8796093022000) (ad : Addr) (cap : Nat) (hc1 : ds.length ≤ cap) (hc2 : cap ≤ 9223372036854775807) (w : World)
    (hcell : ∀ k d, ds[k]? = some d → w.cell? (ad.add k) = some (.string (st d.2))) : Calls Tryd.prog 21 #[.slice (some ad) ds.length cap, .int .i64 at_] w fun e w' => e = .returned (.int .i64 (domV ds at_)) ∧ w = w' := by
  have HC := Lib.hid hcell
  have HOK := Lib.hid hok
  clear hcell hok
  go_enter Tryd.func21, Tryd.ntmps21
  go_wp2
  go_loopw [5, 6] (fun a b wr => ∃ i z n p, a = .int .i64 (n : Nat) ∧ b = .int .i64 (i : Nat) ∧ DAt ds at_ i z n p ∧ wr = w) (fun _ b _ => ds.length - (intOf b).toNat)
  case atStart => exact ⟨at_, 6, 0, 0, rfl, rfl, DAt.zero hat, rfl⟩
  case round =>
    obtain ⟨i, z, n, p, rfl, rfl, hda, rfl⟩ := hrel
    have HAT := Lib.hid hda
    have hle := hda.le
    have hz := hda.hz
    have hn := hda.hn
    have hni := hda.hni
    have hpre := hda.pre
    clear hda
    by_cases hlt : i < ds.length
    · have hlt2 : (i : Int) < (ds.length : Int) := by omega
      obtain ⟨⟨c, b⟩, hd⟩ : ∃ d, ds[i]? = some d := ⟨_, List.getElem?_eq_getElem hlt⟩
      have hdok := HOK.out (c, b) (List.mem_of_getElem? hd)
      have HDI := Lib.hid hd
      have hcl := HC.out i (c, b) hd
      simp only at hcl
      have HONE0 := Lib.hid (one_dash hdok)
      have HONE := fun w => one_any b [45] w (by decide)
      rw [one_dash hdok] at HONE
      have e46 := let_eq hdok 46 (by omega)
      have e45 := let_eq hdok 45 (by omega)
      clear hd
      by_cases h46 : c = 46
      · have q46 : (b == [46]) = true := by simpa using e46.2 h46
        clear HONE e46 e45
        by_cases h6 : z = 6
        · have hn0 := hn.1 h6
          subst h6 hn0
          have HE := Lib.hid (HAT.out.bad HDI.out (by rw [h46]; decide))
          clear hn hpre h46
          go_wp2_with fail
          skip
          go_wp2
          go_ret
          exact ⟨by rw [HE.out]; rfl, rfl⟩
        · obtain ⟨hi0, ⟨c', b'⟩, hd', hc'⟩ := hpre h6
          simp only at hc'
          have hcl' := HC.out (i - 1) (c', b') hd'
          simp only at hcl'
          have hn0 : ((n : Int) == 0) = false := beq_eq_false_iff_ne.2 (by have := mt hn.2 h6; omega)
          have e45' := let_eq (HOK.out (c', b') (List.mem_of_getElem? hd')) 45 (by omega)
          have tk1 : (i : Int) - 1 < (ds.length : Int) := by omega
          have tk2 : (0 : Int) ≤ (i : Int) - 1 := by omega
          by_cases h5 : z = 5
          · have q45 : (b' == [45]) = true := by simpa using e45'.2 (hc'.2 h5)
            have HE := Lib.hid (HAT.out.bad HDI.out (by rw [h46, h5]; simp [nextS]))
            clear hn hpre h46 e45' hd' hc' h5 h6
            go_wp2_with fail
            skip
            go_wp2
            go_ret
            exact ⟨by rw [HE.out]; rfl, rfl⟩
          · have q45 : (b' == [45]) = false := by
              have : b' ≠ [45] := fun e => h5 (hc'.1 (e45'.1 e))
              simpa using this
            have h4 : z = 4 := by omega
            have hns : nextS z c n = (6, true) := by rw [h46, h4]; simp [nextS]
            have HNS := Lib.hid hns
            clear hn hpre h46 e45' hd' hc' h5 h6 h4 hns
            have HD := Lib.hid (HAT.out.step HDI.out (by rw [HNS.out]) (by rw [HNS.out]; intro h; exact absurd rfl h))
            clear HONE0
            go_wp2_with fail
            skip
            go_wp2
            go_roundw
            case rel => exact ⟨i + 1, _, _, _, by rw [HNS.out]; rfl, by go_num, HD.out, (by first | rfl | trivial)⟩
            case measure => simp [intOf]; omega
      · have q46 : (b == [46]) = false := by
          have : b ≠ [46] := fun e => h46 (e46.1 e)
          simpa using this
        by_cases h45 : c = 45
        · have q45 : (b == [45]) = true := by simpa using e45.2 h45
          rw [decide_eq_true h45, Bool.or_true] at HONE
          clear e46 e45
          by_cases h6 : z = 6
          · have hn0 := hn.1 h6
            subst h6 hn0
            have HE := Lib.hid (HAT.out.bad HDI.out (by rw [h45]; decide))
            clear hn hpre h46 h45
            go_wp2_with fail
            refine (HONE _).mono ?_
            rintro e w1 ⟨rfl, rfl⟩
            go_wp2
            go_ret
            exact ⟨by rw [HE.out]; rfl, rfl⟩
          · have hn0 : ((n : Int) == 0) = false := beq_eq_false_iff_ne.2 (by have := mt hn.2 h6; omega)
            have hns : nextS z c n = (5, decide (n < 62)) := by
              have : z = 4 ∨ z = 5 := by omega
              rw [h45]
              rcases this with rfl | rfl <;> simp [nextS]
            have HNS := Lib.hid hns
            clear hn hpre h46 h6 hns hz
            by_cases h63 : (63 : Int) ≤ (n : Int)
            · have HE := Lib.hid (HAT.out.bad HDI.out (by rw [HNS.out]; simp; omega))
              clear h45
              go_wp2_with fail
              refine (HONE _).mono ?_
              rintro e w1 ⟨rfl, rfl⟩
              go_wp2
              go_ret
              exact ⟨by rw [HE.out]; rfl, rfl⟩
            · by_cases h62 : (62 : Int) ≤ (n : Int)
              · have HE := Lib.hid (HAT.out.bad HDI.out (by rw [HNS.out]; simp; omega))
                clear h45
                go_wp2_with fail
                refine (HONE _).mono ?_
                rintro e w1 ⟨rfl, rfl⟩
                go_wp2
                go_ret
                exact ⟨by rw [HE.out]; rfl, rfl⟩
              · have HNS2 : Hid (nextS z c n = (5, true)) := Lib.hid (by rw [HNS.out, decide_eq_true (by omega)])
                have H45 := Lib.hid h45
                clear h45
                have HD := Lib.hid (HAT.out.step HDI.out (by rw [HNS2.out]) (by rw [HNS2.out]; simp [H45.out]))
                clear HONE0
                go_wp2_with fail
                refine (HONE _).mono ?_
                rintro e w1 ⟨rfl, rfl⟩
                go_wp2
                go_roundw
                case rel => exact ⟨i + 1, _, _, _, by rw [HNS2.out]; go_num, by go_num, HD.out, (by first | rfl | trivial)⟩
                case measure => simp [intOf]; omega
        · have q45 : (b == [45]) = false := by
            have : b ≠ [45] := fun e => h45 (e45.1 e)
            simpa using this
          rw [decide_eq_false h45, Bool.or_false] at HONE
          clear e46 e45
          cases hal : alnumB c with
          | false =>
            rw [hal] at HONE
            have HE := Lib.hid (HAT.out.bad HDI.out (by
              have : z = 4 ∨ z = 5 ∨ z = 6 := by omega
              rcases this with rfl | rfl | rfl <;> simp [nextS, h46, h45, hal]))
            clear hn hpre h46 h45 hal hz
            go_wp2_with fail
            refine (HONE _).mono ?_
            rintro e w1 ⟨rfl, rfl⟩
            go_wp2
            go_ret
            exact ⟨by rw [HE.out]; rfl, rfl⟩
          | true =>
            rw [hal] at HONE
            by_cases h6 : z = 6
            · have hn0 := hn.1 h6
              subst h6 hn0
              have hns : nextS 6 c 0 = (4, true) := by simp [nextS, hal]
              have HNS := Lib.hid hns
              have H45 := Lib.hid h45
              clear hn hpre h46 h45 hal hns
              have HD := Lib.hid (HAT.out.step HDI.out (by rw [HNS.out]) (by rw [HNS.out]; simp [H45.out]))
              clear HONE0
              go_wp2_with fail
              refine (HONE _).mono ?_
              rintro e w1 ⟨rfl, rfl⟩
              go_wp2
              go_roundw
              case rel => exact ⟨i + 1, _, _, _, by rw [HNS.out]; rfl, by go_num, HD.out, (by first | rfl | trivial)⟩
              case measure => simp [intOf]; omega
            · have hn0 : ((n : Int) == 0) = false := beq_eq_false_iff_ne.2 (by have := mt hn.2 h6; omega)
              have hns : nextS z c n = (4, decide (n < 63)) := by
                have : z = 4 ∨ z = 5 := by omega
                rcases this with rfl | rfl <;> simp [nextS, h46, h45, hal]
              have HNS := Lib.hid hns
              have H45 := Lib.hid h45
              clear hn hpre h46 h6 hns hz h45 hal
              by_cases h63 : (63 : Int) ≤ (n : Int)
              · have HE := Lib.hid (HAT.out.bad HDI.out (by rw [HNS.out]; simp; omega))
                go_wp2_with fail
                refine (HONE _).mono ?_
                rintro e w1 ⟨rfl, rfl⟩
                go_wp2
                go_ret
                exact ⟨by rw [HE.out]; rfl, rfl⟩
              · have HNS2 : Hid (nextS z c n = (4, true)) := Lib.hid (by rw [HNS.out, decide_eq_true (by omega)])
                by_cases h62 : (62 : Int) ≤ (n : Int)
                · skip
                  have HD := Lib.hid (HAT.out.step HDI.out (by rw [HNS2.out]) (by rw [HNS2.out]; simp [H45.out]))
                  clear HONE0
                  go_wp2_with fail
                  refine (HONE _).mono ?_
                  rintro e w1 ⟨rfl, rfl⟩
                  go_wp2
                  go_roundw
                  case rel => exact ⟨i + 1, _, _, _, by rw [HNS2.out]; go_num, by go_num, HD.out, (by first | rfl | trivial)⟩
                  case measure => simp [intOf]; omega
                · skip
                  have HD := Lib.hid (HAT.out.step HDI.out (by rw [HNS2.out]) (by rw [HNS2.out]; simp [H45.out]))
                  clear HONE0
                  go_wp2_with fail
                  refine (HONE _).mono ?_
                  rintro e w1 ⟨rfl, rfl⟩
                  go_wp2
                  go_roundw
                  case rel => exact ⟨i + 1, _, _, _, by rw [HNS2.out]; go_num, by go_num, HD.out, (by first | rfl | trivial)⟩
                  case measure => simp [intOf]; omega
    · have hlt2 : ¬ (i : Int) < (ds.length : Int) := by omega
      have HE := Lib.hid (HAT.out.end_ (by omega))
      by_cases h6 : z = 6
      · have hn0 := hn.1 h6
        subst h6 hn0
        clear hn hpre
        go_wp2
        go_ret
        exact ⟨by rw [HE.out]; rfl, rfl⟩
      · obtain ⟨hi0, ⟨c', b'⟩, hd', hc'⟩ := hpre h6
        have hil : i - 1 = ds.length - 1 := by omega
        rw [hil] at hd'
        simp only at hc'
        have hcl' := HC.out (ds.length - 1) (c', b') hd'
        simp only at hcl'
        have hn0 : ((n : Int) == 0) = false := beq_eq_false_iff_ne.2 (by have := mt hn.2 h6; omega)
        have e45' := let_eq (HOK.out (c', b') (List.mem_of_getElem? hd')) 45 (by omega)
        have tk1 : (ds.length : Int) - 1 < (ds.length : Int) := by omega
        have tk2 : (0 : Int) ≤ (ds.length : Int) - 1 := by omega
        by_cases h5 : z = 5
        · have q45 : (b' == [45]) = true := by simpa using e45'.2 (hc'.2 h5)
          have HF := Lib.hid (HE.out.trans (if_neg (by omega)))
          clear hn hpre e45' hd' hc' h5 h6 hil
          go_wp2
          go_ret
          exact ⟨by rw [HF.out]; rfl, rfl⟩
        · have q45 : (b' == [45]) = false := by
            have : b' ≠ [45] := fun e => h5 (hc'.1 (e45'.1 e))
            simpa using this
          have HF := Lib.hid (HE.out.trans (if_pos (by omega)))
          clear hn hpre e45' hd' hc' h5 h6 hil
          go_wp2
          go_ret
          exact ⟨by rw [HF.out]; rfl, rfl⟩
end Go.Proofs.YtigkmlhkfpdajaaDoor
