/- The walk of the reference's Unquote. Conditions: the text is at most 2^43 bytes long, and the library's two tables are laid. -/
import Derived.Test.YtkjklpalpodbgaaDoorRQuote
namespace Go.Proofs.YtkjklpalpodbgaaDoor
open Go.RowKit
theorem pl34 : plnL (34, [34]) = true := by decide
theorem pl92 : plnL (92, [92]) = true := by decide
theorem ok_34 {c : Nat} {b : List UInt8} (h : letOk (c, b)) : b = [34] ↔ c = 34 := by
  rcases h with ⟨h1, x, h2, h3⟩ | ⟨h1, h2⟩
  · simp only at h1 h2
    subst h1 h2
    constructor
    · intro e; cases e; simp at h3
    · intro e; omega
  · simp only at h1 h2
    subst h2
    constructor
    · intro e
      exact runE_inj h1 (by unfold validN; omega) (by rw [runE_34]; exact e)
    · rintro rfl
      exact runE_34
theorem ok_92 {c : Nat} {b : List UInt8} (h : letOk (c, b)) : b = [92] ↔ c = 92 := by
  rcases h with ⟨h1, x, h2, h3⟩ | ⟨h1, h2⟩
  · simp only at h1 h2
    subst h1 h2
    constructor
    · intro e; cases e; simp at h3
    · intro e; omega
  · simp only at h1 h2
    subst h2
    constructor
    · intro e
      exact runE_inj h1 (by unfold validN; omega) (by rw [runE_92]; exact e)
    · rintro rfl
      exact runE_92
section
variable {l : List UInt8} {k c by_ : Nat} {b out : List UInt8} {sg : Bool} {ds : List (Nat × List UInt8)}
theorem uq_step (hu : unqT l = unqF ((letL l).drop k) k sg out by_) (hd : (letL l)[k]? = some (c, b)) : unqT l = unqF ((c, b) :: (letL l).drop (k + 1)) k sg out by_ := by
  obtain ⟨h5, h6⟩ := List.getElem?_eq_some_iff.1 hd
  rw [hu, List.drop_eq_getElem_cons h5, h6]
theorem uF_bad0 (h0 : k = 0) (h : c ≠ 34) : unqF ((c, b) :: ds) k sg out by_ = ([], k, 4) := by
  unfold unqF; rw [if_pos (.inl ⟨h0, h⟩)]
theorem uF_bad (h : plnL (c, b) = false) : unqF ((c, b) :: ds) k sg out by_ = ([], k, 4) := by
  unfold unqF; rw [if_pos (.inr (.inr h))]
theorem uF_sbad (h : c ≠ 34) (h2 : c ≠ 92) : unqF ((c, b) :: ds) k true out by_ = ([], k, 4) := by
  unfold unqF; rw [if_pos (.inr (.inl ⟨rfl, h, h2⟩))]
theorem uF_first (h0 : k = 0) (h : c = 34) (hp : plnL (c, b) = true) : unqF ((c, b) :: ds) k false out by_ = unqF ds (k + 1) false out (by_ + b.length) := by
  conv => lhs; unfold unqF
  rw [if_neg (by rw [hp]; simp [h]), if_pos h0]
theorem uF_esc (h0 : k ≠ 0) (h : c = 92) (hp : plnL (c, b) = true) : unqF ((c, b) :: ds) k false out by_ = unqF ds (k + 1) true out (by_ + b.length) := by
  conv => lhs; unfold unqF
  rw [if_neg (by rw [hp]; simp [h0]), if_neg h0, if_pos ⟨rfl, h⟩]
theorem uF_end (h0 : k ≠ 0) (h : c = 34) (hp : plnL (c, b) = true) : unqF ((c, b) :: ds) k false out by_ = if 1024 < out.length then ([], 0, 6) else (out, by_ + 1, 0) := by
  unfold unqF
  rw [if_neg (by rw [hp]; simp [h0]), if_neg h0, if_neg (by simp [h]), if_pos ⟨rfl, h⟩]
theorem uF_more (h0 : k ≠ 0) (h : c ≠ 34) (h2 : c ≠ 92) (hp : plnL (c, b) = true) : unqF ((c, b) :: ds) k false out by_ = unqF ds (k + 1) false (out ++ runE c) (by_ + b.length) := by
  conv => lhs; unfold unqF
  rw [if_neg (by rw [hp]; simp [h0]), if_neg h0, if_neg (by simp [h2]), if_neg (by simp [h])]
theorem uF_smore (h0 : k ≠ 0) (h : c = 34 ∨ c = 92) (hp : plnL (c, b) = true) : unqF ((c, b) :: ds) k true out by_ = unqF ds (k + 1) false (out ++ runE c) (by_ + b.length) := by
  conv => lhs; unfold unqF
  rw [if_neg (by rw [hp]; rcases h with h | h <;> simp [h0, h]), if_neg h0, if_neg (by simp), if_neg (by simp)]
theorem uF_nil : unqF [] k sg out by_ = ([], k, 3) := rfl
theorem USays.mk' {w w' : World} {a : List UInt8} {n e : Nat} (h : unqT l = (a, n, e)) (hx : Ext w w') : USays l w (.returned (.tuple #[.string (st a), .int .i64 (n : Nat), .int .i64 (e : Nat)])) w' := by
  unfold USays
  rw [h]
  exact ⟨rfl, hx⟩
end
/-- where the reference's Unquote stands (a structure: the walk looks not into it) -/
structure UInv (l : List UInt8) (k : Nat) (out : List UInt8) (by_ : Nat) : Prop where
  eq : unqT l = unqF ((letL l).drop k) k false out by_
structure UIn (l : List UInt8) (w1 : World) (o bb i : Value) (wr : World) : Prop where
  ex : ∃ (k by_ : Nat) (out : List UInt8), i = .int .i64 k ∧ bb = .int .i64 by_ ∧ o = .string (st out) ∧ k ≤ (letL l).length ∧ by_ ≤ 4 * k ∧ out.length ≤ 4 * k ∧ Ext w1 wr ∧ UInv l k out by_
set_option maxRecDepth 20000 in
set_option maxHeartbeats 4000000 in
theorem RUnq_any (l : List UInt8) (w : World) (hs : l.length ≤ 8796093022000) (hT : Tabs w) : Calls Tryd.prog 14 #[.string (st l)] w (USays l w) := by
  have hL := Letters_any l w hs hT
  have hok := letL_ok _ l (Nat.le_refl _)
  have hgd := (letL_good _ l (Nat.le_refl _)).2
  have hll := lets_len _ l (Nat.le_refl _)
  have hlq := lets_length l
  have HT := Lib.hid hT
  clear hT
  go_enter Tryd.func14, Tryd.ntmps14
  go_wp2_with fail
  refine hL.mono ?_
  rintro e w1 ⟨v, rfl, ho, hx⟩
  clear hL
  by_cases hne : l = []
  · subst hne
    obtain ⟨A, cap, rfl⟩ := ho.form
    rw [lets_nil]
    have HQ : Hid (∀ W, Ext w W → USays [] w (.returned (.tuple #[.string (st []), .int .i64 0, .int .i64 3])) W) := Lib.hid fun W hx => USays.mk' (l := []) (n := 0) (e := 3) (by unfold unqT; rw [letL_nil]; rfl) hx
    clear ho hok hgd hll hlq
    go_wp2
    go_loopw [6, 7, 8] (fun o bb i wr => o = .string (st []) ∧ bb = .int .i64 0 ∧ i = .int .i64 0 ∧ wr = w1) (fun _ _ _ _ => 0)
    case atStart => exact ⟨rfl, rfl, rfl, rfl⟩
    case round =>
      obtain ⟨rfl, rfl, rfl, rfl⟩ := hrel
      go_wp2
      go_ret3
      exact HQ.out _ hx
  · have h0 : 0 < l.length := List.length_pos_iff.2 hne
    have h00 : 0 < (lets l).length := by
      rw [lets_step l hne]; simp
    obtain ⟨ad, cap, rfl, hc1, hc2, hcell⟩ := ho.cells h00
    have HC := Lib.hid hcell
    have HX := Lib.hid hx
    have HOK := Lib.hid hok
    have HGD := Lib.hid hgd
    clear hcell hok hgd ho hne
    go_wp2
    go_loopw [6, 7, 8] (fun o bb i wr => UIn l w1 o bb i wr) (fun _ _ i _ => (letL l).length - (intOf i).toNat)
    case atStart => exact ⟨⟨0, 0, [], rfl, rfl, rfl, by omega, by omega, by simp, Ext.refl _, ⟨rfl⟩⟩⟩
    case round =>
      obtain ⟨k, by_, o, rfl, rfl, rfl, hk, hby, hol, hxr, hu⟩ := hrel.ex
      have HHU := Lib.hid hu
      clear hu
      have HHK := Lib.hid hk
      by_cases hlt : k < (letL l).length
      · obtain ⟨⟨c, b⟩, hd⟩ : ∃ d, (letL l)[k]? = some d := ⟨_, List.getElem?_eq_getElem hlt⟩
        have hmem : (c, b) ∈ letL l := List.mem_of_getElem? hd
        have hck := fun w' hx => HC.out k b w' (lets_get hd) hx
        have hkn : (k : Int) < ((lets l).length : Int) := by omega
        have hkn2 : k < (lets l).length := by omega
        have hbl : b.length ≤ 4 := by
          rcases HOK.out _ hmem with ⟨_, x, h5, _⟩ | ⟨_, h5⟩
          · simp only at h5; rw [h5]; simp
          · simp only at h5; rw [h5]; exact runE_len c
        have hP := fun wz (hx : Ext w1 wz) => RPlain_any c b wz (by omega) (HOK.out _ hmem) (HT.out.ext (Ext.trans HX.out hx))
        have h34 := ok_34 (HOK.out _ hmem)
        have h92 := ok_92 (HOK.out _ hmem)
        have HU := Lib.hid (uq_step HHU.out.eq hd)
        have hck1 := hck wr hxr
        have HMEM := Lib.hid hmem
        have HD := Lib.hid hd
        clear hmem hd
        by_cases hk0 : k = 0
        · subst hk0
          obtain rfl : by_ = 0 := by omega
          obtain rfl : o = [] := List.eq_nil_of_length_eq_zero (by omega)
          have hck0 : ∀ w', Ext w1 w' → w'.cell? ad = some (.string (st b)) := fun w' hx => by simpa [Addr.add] using hck w' hx
          have hck1 := hck0 wr hxr
          have hkn : (0 : Int) < ((lets l).length : Int) := by omega
          clear hck
          by_cases e34 : b = [34]
          · have hb1 : (b == [34]) = true := by rw [e34]; rfl
            have hb3 : b.length = 1 := by rw [e34]; rfl
            have hpt : plnL (c, b) = true := by rw [h34.1 e34, e34]; exact pl34
            have HF := Lib.hid (HU.out.trans (uF_first rfl (h34.1 e34) hpt))
            have HB3 := Lib.hid hb3
            rw [hpt] at hP
            clear e34 h34 h92 hpt hb3 HU HD
            go_wp2_with fail
            refine (hP wr hxr).mono ?_
            rintro e w2 ⟨rfl, hx2⟩
            clear hP
            have hx12 := hxr.trans hx2
            have hck2 := hck0 w2 hx12
            clear hck0 hck1
            go_wp2
            go_roundw
            case rel => exact ⟨⟨1, b.length, [], by first | rfl | go_num, by first | rfl | go_num, rfl, by omega, by have := HB3.out; omega, by simp, hx12, ⟨by simpa using HF.out⟩⟩⟩
            case measure => simp [intOf]; omega
          · have hb1 : (b == [34]) = false := by simpa using e34
            have HF := Lib.hid (HU.out.trans (uF_bad0 rfl (fun e => e34 (h34.2 e))))
            clear e34 h34 h92 HU HD
            go_wp2
            go_ret3
            exact USays.mk' HF.out (HX.out.trans hxr)
        · have hz : ((k : Int) == 0) = false := by simp; omega
          have HK0 := Lib.hid hk0
          clear hk0
          go_wp2_with fail
          refine (hP wr hxr).mono ?_
          rintro e w2 ⟨rfl, hx2⟩
          clear hP
          have hx12 := hxr.trans hx2
          have hck2 := hck w2 hx12
          clear hck hck1
          by_cases hpl : plnL (c, b) = true
          · have HP := Lib.hid hpl
            have HG := Lib.hid (HGD.out _ HMEM.out hpl)
            rw [hpl]
            clear hpl
            have HRB := Lib.hid HG.out.2.1
            by_cases e34 : b = [34]
            · have hb1 : (b == [34]) = true := by rw [e34]; rfl
              have hb3 : b.length = 1 := by rw [e34]; rfl
              have HF := Lib.hid (HU.out.trans (uF_end HK0.out (h34.1 e34) HP.out))
              clear e34 h34 h92
              by_cases hlong : 1024 < o.length
              · have h1 : (1024 : Int) < (o.length : Int) := by omega
                have HF2 := HF.out
                rw [if_pos hlong] at HF2
                have HF3 := Lib.hid HF2
                clear HF2 hlong
                go_wp2
                go_ret3
                exact USays.mk' HF3.out (HX.out.trans hx12)
              · have h1 : ¬ (1024 : Int) < (o.length : Int) := by omega
                have HF2 := HF.out
                rw [if_neg hlong, ← hb3] at HF2
                have HF3 := Lib.hid HF2
                clear HF2 hlong hb3
                go_wp2
                go_ret3
                exact USays.mk' HF3.out (HX.out.trans hx12)
            · have hb1 : (b == [34]) = false := by simpa using e34
              have hcc1 : ¬ 9223372036854775807 < o.length + b.length := by omega
              by_cases e92 : b = [92]
              · have hb2 : (b == [92]) = true := by rw [e92]; rfl
                have hb3 : b.length = 1 := by rw [e92]; rfl
                have HF := Lib.hid (HU.out.trans (uF_esc HK0.out (h92.1 e92) HP.out))
                clear e34 e92 h34 h92
                by_cases hlast : k + 1 < (letL l).length
                · obtain ⟨⟨c2, b2⟩, hd2⟩ : ∃ d, (letL l)[k + 1]? = some d := ⟨_, List.getElem?_eq_getElem hlast⟩
                  have hmem2 : (c2, b2) ∈ letL l := List.mem_of_getElem? hd2
                  have hck3 := HC.out (k + 1) b2 w2 (lets_get hd2) hx12
                  have hck4 := hck3
                  rw [add_pos'] at hck4
                  have hkn3 : (k : Int) + 1 < ((lets l).length : Int) := by omega
                  have hkn4 : k + 1 < (lets l).length := by omega
                  have hkq : ((k : Int) + 1 == ((lets l).length : Int)) = false := by simp; omega
                  have h34 := ok_34 (HOK.out _ hmem2)
                  have h92 := ok_92 (HOK.out _ hmem2)
                  have HU2 := Lib.hid (uq_step HF.out hd2)
                  clear hmem2 hd2
                  by_cases f34 : b2 = [34]
                  · have hb4 : (b2 == [34]) = true := by rw [f34]; rfl
                    have hb5 : b2.length = 1 := by rw [f34]; rfl
                    have HR : Hid (runE c2 = b2) := Lib.hid (by rw [h34.1 f34, f34]; exact runE_34)
                    have HF := Lib.hid (HU2.out.trans (uF_smore (by omega) (.inl (h34.1 f34)) (by rw [h34.1 f34, f34]; exact pl34)))
                    have hcc1 : ¬ 9223372036854775807 < o.length + b2.length := by omega
                    have HB5 := Lib.hid hb5
                    have HB3 := Lib.hid hb3
                    clear f34 h34 h92 hb3 hb5
                    go_wp2
                    go_roundw
                    case rel => exact ⟨⟨k + 1 + 1, by_ + b.length + b2.length, o ++ b2, by go_num, by rw [HB5.out]; go_num, by first | rfl | exact congrArg Value.string (by rw [st_append]), by omega, by have := HB3.out; have := HB5.out; omega, by have := HB3.out; have := HB5.out; simp; omega, hx12, ⟨by have h := HF.out; rw [HR.out] at h; exact h⟩⟩⟩
                    case measure => simp [intOf]; omega
                  · have hb4 : (b2 == [34]) = false := by simpa using f34
                    by_cases f92 : b2 = [92]
                    · have hb6 : (b2 == [92]) = true := by rw [f92]; rfl
                      have hb5 : b2.length = 1 := by rw [f92]; rfl
                      have HR : Hid (runE c2 = b2) := Lib.hid (by rw [h92.1 f92, f92]; exact runE_92)
                      have HF := Lib.hid (HU2.out.trans (uF_smore (by omega) (.inr (h92.1 f92)) (by rw [h92.1 f92, f92]; exact pl92)))
                      have hcc1 : ¬ 9223372036854775807 < o.length + b2.length := by omega
                      have HB5 := Lib.hid hb5
                      have HB3 := Lib.hid hb3
                      clear f34 f92 h34 h92 hb3 hb5
                      go_wp2
                      go_roundw
                      case rel => exact ⟨⟨k + 1 + 1, by_ + b.length + b2.length, o ++ b2, by go_num, by rw [HB5.out]; go_num, by first | rfl | exact congrArg Value.string (by rw [st_append]), by omega, by have := HB3.out; have := HB5.out; omega, by have := HB3.out; have := HB5.out; simp; omega, hx12, ⟨by have h := HF.out; rw [HR.out] at h; exact h⟩⟩⟩
                      case measure => simp [intOf]; omega
                    · have hb6 : (b2 == [92]) = false := by simpa using f92
                      have HF := Lib.hid (HU2.out.trans (uF_sbad (fun e => f34 (h34.2 e)) (fun e => f92 (h92.2 e))))
                      clear f34 f92 h34 h92
                      go_wp2
                      go_ret3
                      exact USays.mk' HF.out (HX.out.trans hx12)
                · have hkq : ((k : Int) + 1 == ((lets l).length : Int)) = true := by simp; omega
                  have HF2 := HF.out
                  rw [List.drop_eq_nil_of_le (by omega), uF_nil] at HF2
                  have HF3 := Lib.hid HF2
                  clear HF2 hlast
                  go_wp2
                  go_ret3
                  exact USays.mk' HF3.out (HX.out.trans hx12)
              · have hb2 : (b == [92]) = false := by simpa using e92
                have HF := Lib.hid (HU.out.trans (uF_more HK0.out (fun e => e34 (h34.2 e)) (fun e => e92 (h92.2 e)) HP.out))
                clear e34 e92 h34 h92
                go_wp2
                go_roundw
                case rel => exact ⟨⟨k + 1, by_ + b.length, o ++ b, by go_num, by go_num, by first | rfl | exact congrArg Value.string (by rw [st_append]), by omega, by omega, by simp; omega, hx12, ⟨by have h := HF.out; rw [← HRB.out] at h; exact h⟩⟩⟩
                case measure => simp [intOf]; omega
          · have hpf : plnL (c, b) = false := by simpa using hpl
            have HF := Lib.hid (HU.out.trans (uF_bad hpf))
            rw [hpf]
            clear hpl hpf
            go_wp2
            go_ret3
            exact USays.mk' HF.out (HX.out.trans hx12)
      · have hkk : k = (letL l).length := by omega
        have hlt' : ¬ (k : Int) < ((lets l).length : Int) := by omega
        have HF := Lib.hid (HHU.out.eq.trans (by rw [List.drop_eq_nil_of_le (by omega), uF_nil]))
        have HKK := Lib.hid hkk
        clear hkk
        go_wp2
        go_ret3
        have h := USays.mk' HF.out (HX.out.trans hxr)
        rw [HKK.out] at h
        exact h
end Go.Proofs.YtkjklpalpodbgaaDoor
