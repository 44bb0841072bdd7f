/- The walks of Unstuff, the program's and the reference's, and of the reference's Stuff. Conditions: the lengths named. -/
import Derived.Test.YtchokelpimibdaaLn5
import Derived.WalkMore
namespace Go.Proofs.Ytchokelpimibdaa
open Go.RowKit
def slN : Value → Nat | .slice _ n _ => n | _ => 0
theorem cutB_l2 {P : Program} {t e : Nat} (ht : P.underlying t = some (.slice e)) (hz : ∀ w, (Go.sizeOf e).run P w = .ok 1 w) (A : Option Addr) (n cap : Nat) (b : List UInt8) (k : Nat) {li : Int} (el : li = k) (en : b.length = n) (hn : n ≤ cap) (hh : k ≤ n) :
    ∃ A', (∀ W, (Instr.slice t (.slice A n cap) (some (.int .i64 li)) none none).run P W = .ok (.slice A' (n - k) (cap - k)) W) ∧ (∀ w, Bs w A b → Bs w A' (b.drop k)) ∧ (A' = none → A = none) := by
  subst el
  refine ⟨if cap = k then A else A.map (·.add k), fun W => ?_, fun w hb => ?_, ?_⟩
  · have ht' : P.underlying t = some (.slice (P.elem t)) := by simp [Program.elem, ht]
    have he : P.elem t = e := by simp [Program.elem, ht]
    rw [run_slice_l W t _ _ _ ht' .i64 _ (by omega) (by omega), he, hz]
    simp [Result.andThen, sliced]
  · unfold Bs
    rw [bv_drop]
    by_cases hc : cap = k
    · have : (bv b).drop k = [] := List.drop_of_length_le (by simp; omega)
      rw [this]; exact Sl.nil _ _
    · rw [if_neg hc]
      exact Sl.add hb k
  · intro h
    cases A with
    | none => rfl
    | some a => split at h <;> simp at h
/-- what Unstuff answers -/
def UnSays (w : World) (l : List UInt8) (e : Ending) (w' : World) : Prop :=
  ∃ A c, e = .returned (.tuple #[.slice A (unL l).length c, .int .i64 (unN l), .int .i64 (unE l)]) ∧ Own w' w.heap.size (.slice A (unL l).length c) (unL l) ∧ Ext w w'
theorem UnSays.no {w w' : World} {l : List UInt8} (hf : fin l = none) (hx : Ext w w') : UnSays w l (.returned (.tuple #[.slice none 0 0, .int .i64 0, .int .i64 3])) w' := by
  unfold UnSays unL unN unE
  rw [hf]
  exact ⟨none, 0, rfl, Own.nil _ _, hx⟩
theorem UnSays.yes {w w' : World} {l : List UInt8} {k n c : Nat} {z : Int} {A : Option Addr} (hf : fin l = some k) (ho : Own w' w.heap.size (.slice A n c) (unTo l k)) (hz : z = k + 3) (hx : Ext w w') :
    UnSays w l (.returned (.tuple #[.slice A n c, .int .i64 z, .int .i64 0])) w' := by
  have hn := ho.len
  subst hn hz
  unfold UnSays unL unN unE
  rw [hf]
  exact ⟨A, c, rfl, ho, hx⟩
set_option maxHeartbeats 4000000 in
set_option maxRecDepth 100000 in
theorem LUnstuff_any (A : Option Addr) (n c : Nat) (l : List UInt8) (w : World) (h : Bs w A l) (hn : n = l.length) (hc : l.length ≤ c) (hA : A = none → c = 0) (hm : ML w) (hl : l.length ≤ 4000000000) :
    Calls Try.prog 13 #[.slice A n c] w (UnSays w l) := by
  subst hn
  have HB := Lib.hid h
  have HM := Lib.hid hm
  have HA := Lib.hid hA
  clear h hm hA
  go_enter Try.func13, Try.ntmps13
  go_wp2
  go_step3
  go_wp2
  go_step3
  go_wp2
  go_loopw [5, 6] (fun o r wr => ∃ (pos : Nat) (v : Value) (A' : Option Addr) (c' : Nat), o = v ∧ r = .slice A' (l.length - pos) c' ∧ pos ≤ l.length ∧ l.length - pos ≤ c' ∧ (A' = none → c' = 0) ∧ beg l pos = true ∧ (∀ j, j < pos → dot l j = false) ∧ Bs w A' (l.drop pos) ∧ Own wr w.heap.size v (unTo l pos) ∧ Ext w wr) (fun _ r _ => slN r)
  case atStart => exact ⟨0, _, A, c, rfl, rfl, by omega, hc, HA.out, rfl, fun j hj => by omega, HB.out, Own.nil _ _, Ext.refl _⟩
  case round =>
    obtain ⟨pos, v, A', c', rfl, rfl, hp, hpc, hA', hb, hno, hbs, ho, hx⟩ := hrel
    have HI := fun W g (hx : Ext w W) (hb2 : Bs W (some ⟨g, 0, none⟩) [13, 10]) => index_any A' (l.length - pos) c' (l.drop pos) ⟨g, 0, none⟩ W (hbs.ext hx) hb2 (HM.out.ext hx) hA' (by simp) (by simpa using hpc) (by simp; omega)
    have HNO := Lib.hid hno
    have HBG := Lib.hid hb
    have HBS := Lib.hid hbs
    have HAA := Lib.hid hA'
    have HLEN := Lib.hid (unTo_le l pos)
    clear hno hb hbs hA'
    go_wp2_with fail
    refine (end_any _).mono ?_
    rintro e w1 ⟨g, rfl, hx1, hb1⟩
    go_wp2_with fail
    refine (HI _ g (hx.trans hx1) hb1).mono ?_
    rintro e w2 ⟨rfl, hx2⟩
    have hx12 := hx1.trans hx2
    have hxx := hx.trans hx12
    have ho2 := ho.ext hx12
    clear hx1 hx2 hb1 HI ho hx hx12
    cases hf : fnd (l.drop pos) with
    | none =>
      have e1 : idxI (l.drop pos) = -1 := by unfold idxI; rw [hf]
      rw [e1]
      have HF := Lib.hid (fin_no HNO.out hf)
      clear e1 hf
      go_wp2
      try rw [Exit.noGoto_ret]
      go_ret3
      exact UnSays.no HF.out hxx
    | some a =>
      have e1 : idxI (l.drop pos) = a := by unfold idxI; rw [hf]
      have hal := fnd_lt hf
      have hd := dot_here HBG.out hf
      rw [List.length_drop] at hal
      rw [e1]
      have HF := Lib.hid hf
      obtain ⟨ad, rfl, h0⟩ := HBS.out.at_ (k := 0) (by simp; omega)
      have c0 := h0 w2 hxx
      obtain ⟨x, e46⟩ : ∃ x, l[pos]? = some x := ⟨_, List.getElem?_eq_getElem (by omega)⟩
      have eD : ∀ h, (l.drop pos)[0]'h = x := fun h => by
        rw [List.getElem_drop]
        exact Option.some.inj ((List.getElem?_eq_getElem _).symm.trans (by simpa using e46))
      rw [eD, sl_add0] at c0
      have ha0 : (0 : Int) ≤ (a : Int) := by omega
      have ha1 : (a : Int) ≤ 4000000000 := by omega
      have hlr : (0 : Int) < ((l.length - pos : Nat) : Int) := by omega
      obtain ⟨A1, r1, s1⟩ := cutB_h (P := Try.prog) Try.underlying22 Try.sizeOf5 (some ad) (l.length - pos) c' (l.drop pos) (a + 2) (hi := (a : Int) + 2) (by omega) (by simp) hpc (by omega)
      obtain ⟨A3, r3, s3, n3⟩ := cutB_l2 (P := Try.prog) Try.underlying22 Try.sizeOf5 (some ad) (l.length - pos) c' (l.drop pos) (a + 2) (li := (a : Int) + 2) (by omega) (by simp) hpc (by omega)
      have hb1 := s1 w HBS.out
      have hb3 := s3 w HBS.out
      rw [List.drop_drop] at hb3
      have hlen1 : ((l.drop pos).take (a + 2)).length = a + 2 := by simp; omega
      obtain ⟨ad1, rfl, h1⟩ := hb1.at_ (k := 0) (by omega)
      have c1 := h1 w2 hxx
      rw [List.getElem_take, eD, sl_add0] at c1
      have hline := unTo_line HBG.out hf
      have hno2 : Hid (¬ (a = 1 ∧ x = 46) → ∀ j, j < pos + a + 2 → dot l j = false) := Lib.hid (fun hne j hj => by
        rcases Nat.lt_or_ge j pos with h1 | h1
        · exact HNO.out j h1
        · rcases Nat.lt_or_ge pos j with h2 | h2
          · exact dot_within HBG.out HF.out h2 hj
          · rw [show j = pos by omega]
            cases he : dot l pos with
            | false => rfl
            | true => exact absurd (by have := hd.1 he; exact ⟨this.1, by rw [e46] at this; simpa using this.2⟩) hne)
      have hnext := beg_next HF.out
      have HNX := Lib.hid hnext
      have HB3 := Lib.hid hb3
      have HB1 := Lib.hid hb1
      have hdot : Hid (a = 1 ∧ x = 46 → fin l = some pos) := Lib.hid (fun he => fin_some.2 ⟨hd.2 ⟨he.1, by rw [e46, he.2]⟩, HNO.out⟩)
      have HN3 := Lib.hid n3
      have HED := Lib.hid eD
      rw [e46] at hline
      clear e1 hf hd h0 h1 s1 s3 hb1 hb3 n3 hnext e46 eD HAA HF
      by_cases h46 : x = 46
      · have t46 : ((x.toNat : Int) == 46) = true := by rw [h46]; rfl
        have hline : unTo l (pos + a + 2) = unTo l pos ++ ((l.drop pos).take (a + 2)).drop 1 := by rw [hline, h46]; rfl
        have HLI := Lib.hid hline
        clear hline
        by_cases h1 : a = 1
        · have t1 : ((a : Int) == 1) = true := by rw [h1]; rfl
          have HFI := Lib.hid (hdot.out ⟨h1, h46⟩)
          have hsub : ((l.length : Int) - ((l.length - pos : Nat) : Int)) = (pos : Int) := by omega
          have hsub0 : (0 : Int) ≤ (pos : Int) := by omega
          have hpl : (pos : Int) ≤ 4000000000 := by omega
          clear h1 h46 hdot hno2 HLI HNX HB3 HB1 r1 r3 hlen1 c1
          obtain ⟨B, b, rfl⟩ := ho2.form
          have HO := Lib.hid ho2
          clear ho2
          go_wp2
          try rw [Exit.noGoto_ret]
          go_ret3
          exact UnSays.yes HFI.out HO.out (by omega) hxx
        · have t1 : ((a : Int) == 1) = false := by simp; omega
          have HNN := Lib.hid (hno2.out (fun h => h1 h.1))
          obtain ⟨A2, r2, s2⟩ := cutB_l (P := Try.prog) Try.underlying22 Try.sizeOf5 (some ad1) (a + 2) c' ((l.drop pos).take (a + 2)) 1 (li := 1) rfl hlen1 (by omega) (by omega)
          have HB2 := Lib.hid (s2 w HB1.out)
          have hl2 : (((l.drop pos).take (a + 2)).drop 1).length = a + 2 - 1 := by rw [List.length_drop, hlen1]
          have HL2 := Lib.hid hl2
          clear h1 h46 hdot hno2 s2 hlen1 hl2
          go_wp2_with (at_builtin; refine unstop ?_)
          refine go_on (wpList_appB bytesTc ho2 (HB2.out.ext hxx) rfl rfl rfl rfl HL2.out.symm (by have := HLEN.out; have := HL2.out; omega) hxx.size ?_)
          intro v3 w3 ho3 hg3 hor3
          have hx3 : Ext w w3 := Ext.own hxx ho2 (Nat.le_refl _) hg3
          rw [← HLI.out] at ho3
          clear hg3 hor3 ho2
          go_wp2
          go_roundw
          case rel => exact ⟨pos + a + 2, v3, A3, c' - (a + 2), rfl, by rw [show l.length - pos - (a + 2) = l.length - (pos + a + 2) by omega], by omega, by omega, (fun h => by cases HN3.out h), HNX.out, HNN.out, by rw [show pos + a + 2 = pos + (a + 2) by omega]; exact HB3.out, ho3, hx3⟩
          case measure => simp [slN]; omega
      · have t46 : ((x.toNat : Int) == 46) = false := u8_ne 46 (by omega) h46
        have hline : unTo l (pos + a + 2) = unTo l pos ++ (l.drop pos).take (a + 2) := by rw [hline, if_neg (by simpa using h46)]
        have HLI := Lib.hid hline
        have HNN := Lib.hid (hno2.out (fun h => h46 h.2))
        have HL1 := Lib.hid hlen1
        clear hline h46 hdot hno2 hlen1
        by_cases h1 : a = 1
        · subst h1
          clear r1 r3 HB1 HB3 HN3 c1 HL1
          have HL1 : Hid (((l.drop pos).take 3).length = 3) := Lib.hid (by simp; omega)
          obtain ⟨A1, r1, s1⟩ := cutB_h (P := Try.prog) Try.underlying22 Try.sizeOf5 (some ad) (l.length - pos) c' (l.drop pos) 3 (hi := 3) rfl (by simp) hpc (by omega)
          obtain ⟨A3, r3, s3, n3⟩ := cutB_l2 (P := Try.prog) Try.underlying22 Try.sizeOf5 (some ad) (l.length - pos) c' (l.drop pos) 3 (li := 3) rfl (by simp) hpc (by omega)
          have hb1 := s1 w HBS.out
          have hb3 := s3 w HBS.out
          rw [List.drop_drop] at hb3
          obtain ⟨ad1, rfl, h1⟩ := hb1.at_ (k := 0) (by have := HL1.out; omega)
          have c1 := h1 w2 hxx
          rw [List.getElem_take, HED.out, sl_add0] at c1
          have HB1 := Lib.hid hb1
          have HB3 := Lib.hid hb3
          have HN3 := Lib.hid n3
          clear hb1 hb3 s1 s3 n3 h1
          go_wp2_with (at_builtin; refine unstop ?_)
          refine go_on (wpList_appB bytesTc ho2 (HB1.out.ext hxx) rfl rfl rfl rfl HL1.out.symm (by have := HLEN.out; have := HL1.out; omega) hxx.size ?_)
          intro v3 w3 ho3 hg3 hor3
          have hx3 : Ext w w3 := Ext.own hxx ho2 (Nat.le_refl _) hg3
          rw [← HLI.out] at ho3
          clear hg3 hor3 ho2
          go_wp2
          go_roundw
          case rel => exact ⟨pos + 1 + 2, v3, A3, c' - (3), rfl, by rw [show l.length - pos - (3) = l.length - (pos + 1 + 2) by omega], by omega, by omega, (fun h => by cases HN3.out h), HNX.out, HNN.out, by rw [show pos + 1 + 2 = pos + (3) by omega]; exact HB3.out, ho3, hx3⟩
          case measure => simp [slN]; omega
        · have t1 : ((a : Int) == 1) = false := by simp; omega
          clear h1
          go_wp2_with (at_builtin; refine unstop ?_)
          refine go_on (wpList_appB bytesTc ho2 (HB1.out.ext hxx) rfl rfl rfl rfl HL1.out.symm (by have := HLEN.out; have := HL1.out; omega) hxx.size ?_)
          intro v3 w3 ho3 hg3 hor3
          have hx3 : Ext w w3 := Ext.own hxx ho2 (Nat.le_refl _) hg3
          rw [← HLI.out] at ho3
          clear hg3 hor3 ho2
          go_wp2
          go_roundw
          case rel => exact ⟨pos + a + 2, v3, A3, c' - (a + 2), rfl, by rw [show l.length - pos - (a + 2) = l.length - (pos + a + 2) by omega], by omega, by omega, (fun h => by cases HN3.out h), HNX.out, HNN.out, by rw [show pos + a + 2 = pos + (a + 2) by omega]; exact HB3.out, ho3, hx3⟩
          case measure => simp [slN]; omega
end Go.Proofs.Ytchokelpimibdaa
