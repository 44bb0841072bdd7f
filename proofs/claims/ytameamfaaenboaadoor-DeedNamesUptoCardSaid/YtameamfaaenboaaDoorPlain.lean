/- The walk of the reference's Plain at one letter. Conditions: it is a letter of a text, and the library's two tables are laid. -/
import Derived.Test.YtameamfaaenboaaDoorLet
import Derived.Test.YtameamfaaenboaaDoorText15
import Derived.Lib.ValidLaws
namespace Go.Proofs.YtameamfaaenboaaDoor
open Go.RowKit
/-- a letter's first byte, and whether it is valid -/
theorem letOk_head {c : Nat} {b : List UInt8} (h : letOk (c, b)) : ∃ x, b[0]? = some x ∧ (Lib.validD b && (decide (32 ≤ x.toNat) && !decide (x.toNat = 127))) = plnL (c, b) := by
  rcases h with ⟨hc, x, hb, hx⟩ | ⟨hv, hb⟩
  · simp only at hc hb
    subst hc hb
    refine ⟨x, rfl, ?_⟩
    rw [Lib.validD_step _ (by simp), lone_bad x hx, if_pos ⟨rfl, rfl⟩]
    rfl
  · simp only at hv hb
    subst hb
    have hd := dec_enc c hv []
    rw [List.append_nil] at hd
    have hvd : Lib.validD (runE c) = true := by
      rw [Lib.validD_step _ (runE_ne c), hd, if_neg]
      · rw [show (c, (runE c).length).2 = (runE c).length from rfl, List.drop_length]; rfl
      · rintro ⟨h1, h2⟩
        simp only at h1 h2
        subst h1
        exact absurd h2 (by decide)
    have hfff : c = 65533 → (runE c).length = 3 := by intro e; subst e; decide
    unfold validN at hv
    simp only [hvd, Bool.true_and]
    by_cases h1 : c ≤ 127
    · have hr : runE c = [UInt8.ofNat c] := by
        unfold runE Lib.encodeRune
        rw [Lib.encodeRuneZ_one (by omega) (by omega)]
        simp
      have hn : (UInt8.ofNat c).toNat = c := by rw [UInt8.toNat_ofNat']; omega
      refine ⟨UInt8.ofNat c, by rw [hr]; rfl, ?_⟩
      unfold plnL plainB
      rw [hn, Bool.eq_iff_iff]
      simp only [Bool.and_eq_true, decide_eq_true_eq, Bool.not_eq_true', decide_eq_false_iff_not]
      omega
    · have hge : ∃ x r, runE c = x :: r ∧ 128 ≤ x.toNat := by
        unfold runE Lib.encodeRune
        by_cases h2 : c ≤ 2047
        · rw [Lib.encodeRuneZ_two (by omega) (by omega)]
          exact ⟨_, _, rfl, by show 128 ≤ (Nat.toUInt8 _).toNat; rw [Nat.toUInt8_eq, UInt8.toNat_ofNat']; omega⟩
        · by_cases h3 : c ≤ 65535
          · rw [Lib.encodeRuneZ_three (by omega)]
            exact ⟨_, _, rfl, by show 128 ≤ (Nat.toUInt8 _).toNat; rw [Nat.toUInt8_eq, UInt8.toNat_ofNat']; omega⟩
          · rw [Lib.encodeRuneZ_four (by omega) (by omega)]
            exact ⟨_, _, rfl, by show 128 ≤ (Nat.toUInt8 _).toNat; rw [Nat.toUInt8_eq, UInt8.toNat_ofNat']; omega⟩
      obtain ⟨x, r, hr, hx⟩ := hge
      refine ⟨x, by rw [hr]; rfl, ?_⟩
      unfold plnL plainB
      rw [Bool.eq_iff_iff]
      simp only [Bool.and_eq_true, decide_eq_true_eq, Bool.not_eq_true', decide_eq_false_iff_not]
      constructor
      · intro _
        refine ⟨by omega, by omega, ?_⟩
        by_cases h5 : c = 65533
        · right; have := hfff h5; omega
        · left; omega
      · intro h6
        have : x.toNat ≠ 127 := by omega
        omega
theorem valid_any (s : ByteArray) (w : World) (hs : s.size ≤ 9223372036854775807) (hT : Tabs w) : Calls Tryd.prog 74 #[.string s] w fun e w' => e = .returned (.bool (Lib.validD (tl s))) ∧ Ext w w' :=
  Tryd.utf8_ValidString s w hs hT
theorem RPlain_any (c : Nat) (b : List UInt8) (w : World) (hb : b.length ≤ 140737488351232) (hd : letOk (c, b)) (hT : Tabs w) : Calls Tryd.prog 64 #[.string (st b)] w fun e w' => e = .returned (.bool (plnL (c, b))) ∧ Ext w w' := by
  obtain ⟨x, h0, hp⟩ := letOk_head hd
  have hV := valid_any (st b) w (by rw [st_size]; omega) hT
  rw [tl_st] at hV
  have hlen : 0 < b.length := (List.getElem?_eq_some_iff.1 h0).1
  have hix : ∀ h, ((st b)[0]'h).toNat = x.toNat := by
    intro h
    obtain ⟨h1, h2⟩ := List.getElem?_eq_some_iff.1 h0
    have : (st b)[0]'h = b[0] := rfl
    rw [this, h2]
  have hsz : (st b).size = b.length := st_size b
  have hsz2 : 0 < (st b).size := by omega
  have HSZ := Lib.hid hsz
  generalize plnL (c, b) = ans at *
  have HP := Lib.hid hp
  clear hp h0 hd hT hsz
  generalize Lib.validD b = vv at *
  go_enter Tryd.func64, Tryd.ntmps64
  go_wp2_with fail
  refine hV.mono ?_
  rintro e w1 ⟨rfl, hx⟩
  clear hV
  cases vv
  · go_wp2
    go_ret
    exact ⟨ret_bool HP.out, hx⟩
  · by_cases h1 : 32 ≤ x.toNat
    · have h1' : (32 : Int) ≤ (x.toNat : Int) := by omega
      by_cases h2 : x.toNat = 127
      · have h2' : ((x.toNat : Int) != 127) = false := by rw [h2]; rfl
        have HD : decide (x.toNat = 127) = true := decide_eq_true h2
        have HE : decide (32 ≤ x.toNat) = true := decide_eq_true h1
        have HQ := Lib.hid HP.out
        rw [HD, HE] at HQ
        clear h1 h2 HD HE
        go_wp2
        go_ret
        exact ⟨ret_bool HQ.out, hx⟩
      · have h2' : ((x.toNat : Int) != 127) = true := by simp; omega
        have HD : decide (x.toNat = 127) = false := decide_eq_false h2
        have HE : decide (32 ≤ x.toNat) = true := decide_eq_true h1
        have HQ := Lib.hid HP.out
        rw [HD, HE] at HQ
        clear h1 h2 HD HE
        go_wp2
        go_ret
        exact ⟨ret_bool HQ.out, hx⟩
    · have h1' : ¬ (32 : Int) ≤ (x.toNat : Int) := by omega
      have HE : decide (32 ≤ x.toNat) = false := decide_eq_false h1
      have HQ := Lib.hid HP.out
      rw [HE] at HQ
      clear h1 HE
      go_wp2
      go_ret
      exact ⟨ret_bool HQ.out, hx⟩
end Go.Proofs.YtameamfaaenboaaDoor
