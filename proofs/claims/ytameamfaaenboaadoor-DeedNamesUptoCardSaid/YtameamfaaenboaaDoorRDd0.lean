/- The walks of the reference's RightUser, Fold and RightBox. Conditions: the bounds named; the library's two tables. -/
import Derived.Test.YtameamfaaenboaaDoorDd8
import Derived.Test.YtameamfaaenboaaDoorRQuote2
import Derived.BigQuiet
import Derived.Deep.QuietTactic
namespace Go.Proofs.YtameamfaaenboaaDoor
open Go.RowKit
def good39 : By := [97, 98, 99, 100, 101, 102, 103, 104, 105, 106, 107, 108, 109, 110, 111, 112, 113, 114, 115, 116, 117, 118, 119, 120, 121, 122, 48, 49, 50, 51, 52, 53, 54, 55, 56, 57, 46, 45, 95]
theorem good_user (c : UInt8) : good39.contains c = userC c.toNat := by
  have h : ∀ n : Fin 256, good39.contains (UInt8.ofNat n.val) = userC n.val := by decide +kernel
  have := h ⟨c.toNat, c.toNat_lt⟩
  simpa using this
/-- right letter by letter, or byte by byte -/
theorem user_bytes : ∀ (n : Nat) (l : By), l.length ≤ n → (letL l).all (fun d => userC d.1) = l.all (fun c => userC c.toNat) := by
  intro n
  induction n with
  | zero =>
    intro l h
    have : l = [] := List.eq_nil_of_length_eq_zero (by omega)
    subst this
    rfl
  | succ n ih =>
    intro l h
    cases l with
    | nil => rfl
    | cons c l =>
      rw [letL_step (c :: l) (by simp)]
      have hsz : 0 < (st (c :: l)).size := by rw [st_size]; simp
      have hgt : (st (c :: l))[0] = c := by rw [← tl_get _ 0 hsz]; simp
      by_cases hc : c.toNat < 128
      · have hd : Lib.decodeL (c :: l) = (c.toNat, 1) := by
          have := decode_ascii (st (c :: l)) 0 hsz (by rw [hgt]; exact hc)
          rw [hgt] at this
          exact this
        rw [hd, List.all_cons]
        simp only [List.drop_succ_cons, List.drop_zero, List.all_cons]
        rw [ih l (by simp at h; omega)]
      · have hd : 128 ≤ (Lib.decodeL (c :: l)).1 := (decode_high (st (c :: l)) 0 hsz (by rw [hgt]; omega)).1
        have e1 : userC (Lib.decodeL (c :: l)).1 = false := by unfold userC; simp; omega
        have e2 : userC c.toNat = false := by unfold userC; simp; omega
        rw [List.all_cons, List.all_cons, e1, e2]
        rfl
theorem rightU_bytes (l : By) : rightU l = (l.all (fun c => good39.contains c) && (decide (1 ≤ l.length) && decide (l.length ≤ 24))) := by
  unfold rightU
  rw [user_bytes l.length l (Nat.le_refl _), Bool.and_assoc]
  congr 1
  · congr 1; funext c; exact (good_user c).symm
  · congr 1
    cases l <;> simp
theorem good_step (c : UInt8) (m : Nat) (hm : m < 39) : (good39.take (m + 1)).contains c = ((good39.take m).contains c || ((c.toNat : Int) == (((⟨#[97, 98, 99, 100, 101, 102, 103, 104, 105, 106, 107, 108, 109, 110, 111, 112, 113, 114, 115, 116, 117, 118, 119, 120, 121, 122, 48, 49, 50, 51, 52, 53, 54, 55, 56, 57, 46, 45, 95]⟩ : ByteArray)[m]'hm).toNat : Int))) := by
  have hm' : m < good39.length := hm
  have e : ((⟨#[97, 98, 99, 100, 101, 102, 103, 104, 105, 106, 107, 108, 109, 110, 111, 112, 113, 114, 115, 116, 117, 118, 119, 120, 121, 122, 48, 49, 50, 51, 52, 53, 54, 55, 56, 57, 46, 45, 95]⟩ : ByteArray)[m]'hm) = good39[m] := rfl
  rw [e, List.take_add_one, List.getElem?_eq_getElem hm']
  generalize good39[m] = g
  rw [show ((c.toNat : Int) == (g.toNat : Int)) = (c == g) by
    by_cases h : c = g
    · subst h; simp
    · have : c.toNat ≠ g.toNat := fun e => h (UInt8.toNat_inj.1 e)
      rw [beq_eq_false_iff_ne.2 h, beq_eq_false_iff_ne.2 (by omega)]]
  by_cases h : c = g <;> simp [h]
set_option maxRecDepth 20000 in
set_option maxHeartbeats 4000000 in
theorem RRightUser_any (l : By) (w : World) (hl : l.length ≤ 8796093022000) : Calls Tryd.prog 10 #[.string (st l)] w fun e w' => e = .returned (.bool (rightU l)) ∧ Ext w w' := by
  obtain ⟨s, hs⟩ : ∃ s, s = st l := ⟨_, rfl⟩
  have hsz : s.size = l.length := by rw [hs, st_size]
  have hget : ∀ k (h : k < s.size) (h2 : k < l.length), l[k] = s[k] := fun k h h2 => by subst hs; rw [← tl_get _ k h]; simp
  have HE : Hid (rightU l = (l.all (fun c => good39.contains c) && (decide (1 ≤ l.length) && decide (l.length ≤ 24)))) := Lib.hid (rightU_bytes l)
  rw [← hs]
  have HS := Lib.hid hs
  have HG := Lib.hid hget
  have hs1 : s.size ≤ l.length := by omega
  have hs2 : l.length ≤ s.size := by omega
  clear hs hget hsz
  go_enter Tryd.func10, Tryd.ntmps10
  go_wp2
  go_loopw [3, 4, 5] (fun i _ _ wr => ∃ k : Nat, k ≤ s.size ∧ i = .int .i64 k ∧ Ext w wr ∧ (l.take k).all (fun c => good39.contains c) = true) (fun i _ _ _ => s.size - (intOf i).toNat)
  case atStart => exact ⟨0, by omega, rfl, Ext.refl _, by simp⟩
  case round =>
    obtain ⟨k, hk, rfl, hx, hall⟩ := hrel
    by_cases hlt : k < s.size
    · have hkl : k < l.length := by omega
      have hgk := HG.out k hlt hkl
      have hlt2 : (k : Int) < s.size := by omega
      have HALL := Lib.hid hall
      clear hall
      go_wp2
      go_loopw [4, 5] (fun f j wr => ∃ m : Nat, m ≤ 39 ∧ f = .bool ((good39.take m).contains s[k]) ∧ j = .int .i64 m ∧ Ext w wr) (fun _ j _ => 39 - (intOf j).toNat)
      case atStart => exact ⟨0, by omega, by simp, rfl, hx⟩
      case round =>
        clear hx
        obtain ⟨m, hm, rfl, rfl, hx⟩ := hrel
        by_cases hlm : m < 39
        · have hlm2 : (m : Int) < 39 := by omega
          have HX := Lib.hid hx
          have HGS := Lib.hid (good_step s[k] m hlm)
          clear hx
          cases hf : (good39.take m).contains s[k] with
          | true =>
            rw [hf] at HGS
            clear hf
            go_wp2_with fail
            go_quiet (fail)
            go_wp2
            go_roundw
            case rel => exact ⟨m + 1, by omega, by rw [HGS.out]; rfl, by go_num, HX.out.drewN _⟩
            case measure => simp [intOf]; omega
          | false =>
            rw [hf] at HGS
            clear hf
            go_wp2_with fail
            go_quiet (fail)
            go_wp2
            go_roundw
            case rel => exact ⟨m + 1, by omega, by rw [HGS.out]; rfl, by go_num, HX.out.drewN _⟩
            case measure => simp [intOf]; omega
        · have hm9 : m = 39 := by omega
          subst hm9
          have hg : (good39.take 39).contains s[k] = good39.contains s[k] := rfl
          rw [hg]
          cases hf : good39.contains s[k] with
          | true =>
            have hall2 : (l.take (k + 1)).all (fun c => good39.contains c) = true := by
              rw [show l.take (k + 1) = l.take k ++ [l[k]] by rw [List.take_add_one, List.getElem?_eq_getElem hkl]; rfl, List.all_append, HALL.out, hgk, List.all_cons, hf]
              rfl
            have HALL2 := Lib.hid hall2
            clear hall2 hf hg
            go_wp2
            go_roundw
            case rel => exact ⟨k + 1, by omega, by go_num, hx, HALL2.out⟩
            case measure => simp [intOf]; omega
          | false =>
            have hno : rightU l = false := by
              rw [HE.out]
              have : l.all (fun c => good39.contains c) = false := by
                rw [List.all_eq_false]
                exact ⟨l[k], List.getElem_mem hkl, by rw [hgk, hf]; exact Bool.false_ne_true⟩
              rw [this]; rfl
            have HNO := Lib.hid hno
            clear hno hf hg
            go_wp2
            go_ret
            exact ⟨by rw [HNO.out]; rfl, hx⟩
    · have hke : l.take k = l := List.take_of_length_le (by omega)
      rw [hke] at hall
      have HR : Hid (rightU l = (decide (1 ≤ s.size) && decide (s.size ≤ 24))) := Lib.hid (by rw [HE.out, hall, Bool.true_and]; congr 1 <;> (apply decide_eq_decide.2; omega))
      have hlt2 : ¬ (k : Int) < s.size := by omega
      clear hall hke
      by_cases h1 : (1 : Int) ≤ s.size
      · by_cases h2 : (s.size : Int) ≤ 24
        · have HR2 : Hid (rightU l = true) := Lib.hid (by rw [HR.out]; simp; omega)
          go_wp2
          go_ret
          exact ⟨by rw [HR2.out]; rfl, hx⟩
        · have HR2 : Hid (rightU l = false) := Lib.hid (by rw [HR.out]; simp; omega)
          go_wp2
          go_ret
          exact ⟨by rw [HR2.out]; rfl, hx⟩
      · have HR2 : Hid (rightU l = false) := Lib.hid (by rw [HR.out]; simp; omega)
        go_wp2
        go_ret
        exact ⟨by rw [HR2.out]; rfl, hx⟩
theorem low_inbox : lowL inboxL = [105, 110, 98, 111, 120] := by decide
set_option maxHeartbeats 4000000 in
theorem RFold_any (l : By) (w : World) (hl : l.length ≤ 8796093022000) : Calls Tryd.prog 14 #[.string (st l)] w fun e w' => e = .returned (.string (st (foldB l))) ∧ Ext w w' := by
  have HL := RLower_any (st l) w (by rw [st_size]; omega)
  rw [tl_st] at HL
  have HE : Hid (foldB l = if lowL l = [105, 110, 98, 111, 120] then inboxL else l) := Lib.hid (by unfold foldB; rw [low_inbox])
  generalize lowL l = ll at *
  go_enter Tryd.func14, Tryd.ntmps14
  go_wp2_with fail
  refine HL.mono ?_
  rintro e w1 ⟨rfl, hx1⟩
  clear HL
  cases hb : (ll == [105, 110, 98, 111, 120]) with
  | true =>
    have HB : Hid (foldB l = inboxL) := Lib.hid (by rw [HE.out, if_pos (by simpa using hb)])
    go_wp2
    go_ret
    exact ⟨by rw [HB.out]; rfl, hx1⟩
  | false =>
    have HB : Hid (foldB l = l) := Lib.hid (by rw [HE.out, if_neg (by simpa using hb)])
    go_wp2
    go_ret
    exact ⟨by rw [HB.out]; rfl, hx1⟩
set_option maxRecDepth 20000 in
set_option maxHeartbeats 4000000 in
theorem RRightBox_any (l : By) (w : World) (hl : l.length ≤ 8796093022000) (hT : Tabs w) : Calls Tryd.prog 12 #[.string (st l)] w fun e w' => e = .returned (.bool (rightB l)) ∧ Ext w w' := by
  have HQ := RQuote_any l w hl hT
  unfold QSays at HQ
  have HF := fun W => RFold_any l W hl
  have HE : Hid (rightB l = (decide (l ≠ []) && decide (l.length ≤ 24) && decide ((quoteT l).2.2 = 0) && decide (foldB l = l))) := Lib.hid rfl
  generalize hq1 : (quoteT l).1 = q1 at *
  generalize hq2 : (quoteT l).2.1 = q2 at *
  generalize hq3 : (quoteT l).2.2 = q3 at *
  clear hq1 hq2 hq3
  go_enter Tryd.func12, Tryd.ntmps12
  go_wp2_with fail
  refine HQ.mono ?_
  rintro e w1 ⟨rfl, hx1⟩
  clear HQ
  by_cases h1 : (1 : Int) ≤ (l.length : Int)
  · have hne : l ≠ [] := by intro h; subst h; simp at h1
    by_cases h2 : (l.length : Int) ≤ 24
    · have h24 : l.length ≤ 24 := by omega
      by_cases h3 : q3 = 0
      · subst h3
        cases hf : (foldB l == l) with
        | true =>
          have hf' : foldB l = l := by simpa using hf
          have HB : Hid (rightB l = true) := Lib.hid (by rw [HE.out]; simp [hne, h24, hf'])
          have HF1 := HF w1
          rw [hf'] at HF1
          clear hf hf' h24 hne HF
          go_wp2_with fail
          refine HF1.mono ?_
          rintro e w2 ⟨rfl, hx2⟩
          go_wp2
          go_ret
          exact ⟨by rw [HB.out]; rfl, hx1.trans hx2⟩
        | false =>
          have HB : Hid (rightB l = false) := Lib.hid (by rw [HE.out]; simp [(by simpa using hf : ¬ foldB l = l)])
          have HF1 := HF w1
          clear h24 hne HF
          go_wp2_with fail
          refine HF1.mono ?_
          rintro e w2 ⟨rfl, hx2⟩
          go_wp2
          go_ret
          exact ⟨by rw [HB.out]; rfl, hx1.trans hx2⟩
      · have HB : Hid (rightB l = false) := Lib.hid (by rw [HE.out]; simp [h3])
        have k3 : ((q3 : Int) == 0) = false := by simpa using h3
        clear hne h24
        go_wp2
        go_ret
        exact ⟨by rw [HB.out]; rfl, hx1⟩
    · have HB : Hid (rightB l = false) := Lib.hid (by rw [HE.out]; simp; omega)
      clear hne
      go_wp2
      go_ret
      exact ⟨by rw [HB.out]; rfl, hx1⟩
  · have HB : Hid (rightB l = false) := Lib.hid (by rw [HE.out]; simp [(List.eq_nil_of_length_eq_zero (by omega) : l = [])])
    go_wp2
    go_ret
    exact ⟨by rw [HB.out]; rfl, hx1⟩
end Go.Proofs.YtameamfaaenboaaDoor
