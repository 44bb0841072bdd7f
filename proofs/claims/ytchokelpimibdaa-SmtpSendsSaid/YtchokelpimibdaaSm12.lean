/- The walk of the law's all: what a session answers till it rests, or 300 rounds. Conditions: the hypotheses of the theorem. -/
import Derived.Test.YtchokelpimibdaaSm11
namespace Go.Proofs.Ytchokelpimibdaa
open Go.RowKit
/-- what all leaves -/
def Alls (M : List Nat) (w : World) (p q : Nat) (s : Se) (e : Ending) (w' : World) : Prop :=
  ∃ vo vs L Ms s', e = .returned (.tuple #[vo, vs]) ∧ TwoR M w' w.heap.size vo vs L Ms ∧ IsS (bl vo vs M) w' p q s' ∧ Kept [p, q] w w' ∧ Runs s L Ms s' ∧ (300 ≤ L.length ∨ roundT s' = none) ∧ L.length ≤ 300 ∧ Ms.length ≤ L.length
set_option maxRecDepth 20000 in
set_option maxHeartbeats 8000000 in
theorem sall_any {M : List Nat} {w : World} {p q : Nat} {s : Se} (h : IsS M w p q s) : Calls Try.prog 8 #[pt p] w (Alls M w p q s) := by
  have hb : ∀ k ∈ M, k < w.heap.size := h.lt
  have hmb := h.ml.lt
  have hT0 : TwoR M w w.heap.size (.slice none 0 0) (.slice none 0 0) [] [] := ⟨OwnR.nil _ _ _ _ _ _ _, OwnR.nil _ _ _ _ _ _ _, hb, Nat.le_refl _⟩
  have hpM := h.pM
  have hqM := h.qM
  have HPQ : Hid (∀ k ∈ [p, q], k ∈ M) := Lib.hid (by intro k hk; simp at hk; rcases hk with rfl | rfl; exact hpM; exact hqM)
  have h0 : IsS (bl (.slice none 0 0) (.slice none 0 0) M) w p q s := h
  unfold pt
  clear h hb
  go_enter Try.func8, Try.ntmps8
  go_wp2
  go_loopw [4, 5, 6] (fun vo vs i wr => ∃ L Ms s', i = .int .i64 (L.length : Nat) ∧ L.length ≤ 300 ∧ Ms.length ≤ L.length ∧ Hid (TwoR M wr w.heap.size vo vs L Ms) ∧ Hid (IsS (bl vo vs M) wr p q s') ∧ Hid (Kept [p, q] w wr) ∧ Hid (Runs s L Ms s')) (fun _ _ i _ => 300 - (intOf i).toNat)
  case atStart => exact ⟨[], [], s, rfl, by simp, by simp, Lib.hid hT0, Lib.hid h0, Lib.hid (Kept.refl _ _), Lib.hid (.refl _)⟩
  case round =>
    clear h0 hT0
    obtain ⟨L, Ms, s', rfl, hL, hMs, HT, HS, HK, HR⟩ := hrel
    by_cases hlt : L.length < 300
    · have hlt2 : (L.length : Int) < 300 := by omega
      have HST := sstep_any HS.out
      unfold pt at HST
      go_wp2_with fail
      refine HST.mono ?_
      rintro e w1 ⟨cs, rfl, hn, h1, hk1⟩
      obtain ⟨A1, c1, A2, c2, A3, c3, rfl⟩ := hn.form
      have HN1 := Lib.hid hn
      have H1 := Lib.hid h1
      have HT1 := Lib.hid (HT.out.kept hk1 HPQ.out)
      have HK1 := Lib.hid (HK.out.trans hk1)
      have HZ1 := Lib.hid hk1.size
      clear hn h1 hk1 HST
      go_wp2_with (with_reducible first | refine stop_alloc 39 ?_ | refine stop_store 39 ?_ | refine stop_load 39 ?_)
      refine go_on (wpList_alloc_ rfl rfl aout_info ?_)
      go_wp2_with (with_reducible first | refine stop_alloc 39 ?_ | refine stop_store 39 ?_ | refine stop_load 39 ?_)
      refine go_on (wpList_store_last rfl rfl rfl rfl (aout_size outC_size) rfl outC_one ?_)
      intro w2 hrow2 hx2 hz2
      have HX2 := Lib.hid hx2
      have HROW := Lib.hid hrow2
      have HNO : Hid (w1.heap.size ∉ u4.ownBlock.toList ∧ w1.heap.size ∉ u5.ownBlock.toList) := Lib.hid ⟨fun hm => by have := (HT1.out.o.lt _ (by simpa using hm)).2; omega, fun hm => by have := (HT1.out.s.lt _ (by simpa using hm)).2; omega⟩
      generalize w1.heap.size = g7 at *
      clear hx2 hz2 hrow2
      cases hd : (stepT s').2.1 with
      | false =>
        have HRT : Hid (roundT s' = none) := Lib.hid (by unfold roundT; rw [hd]; rfl)
        have HID : Hid ((stepT s').2.2 = s') := Lib.hid (by rw [step_idle s' hd])
        clear hd
        go_wp2
        go_ret2
        exact ⟨_, _, L, Ms, s', rfl, HT1.out.ext HX2.out, (HID.out ▸ H1.out).ext HX2.out, HK1.out.ext HX2.out, HR.out, .inr HRT.out, hL, hMs⟩
      | true =>
        have a0 := (row9_at HROW.out).1 w2 (Ext.refl _)
        have HA1 := (row9_at HROW.out).2.1
        have hrs := (HN1.out.rows [] (by simp)).1.kept (.of_ext HX2.out)
        have HSY : Hid (ROu.says (bl u4 u5 M) w2 (outC (stepT s').1 A1 c1 A2 c2 A3 c3) (stepT s').1) := Lib.hid (ROu.kept (HN1.out _ HT.out.ltb) (.of_ext HX2.out))
        rcases step_one s' hd with ⟨hs1, x, hs2⟩ | ⟨hs1, hs2, hs3⟩
        · have HRT : Hid (roundT s' = some ([x], [], (stepT s').2.2)) := Lib.hid (by unfold roundT; rw [if_pos hd, hs1, hs2]; rfl)
          rw [hs2] at hrs a0
          rw [hs1] at HA1
          clear hd hs1 hs2
          go_wp2_with (at_builtin; refine unstop ?_)
          refine go_on (wpList_appO rfl (HT1.out.ext HX2.out) hmb hrs rfl rfl rfl rfl (by simp; omega) ?_)
          intro vo3 w3 hT3 hk3 _ hS3
          have HT3 := Lib.hid hT3
          have H3 := Lib.hid (hS3 p q _ hpM hqM (H1.out.ext HX2.out))
          have HK3 := Lib.hid ((HK1.out.ext HX2.out).news hk3 (fun k hk => (HT1.out.o.lt k (by simpa using hk)).1))
          have a1 : w3.cell? ⟨g7, 1, none⟩ = some (.bool false) := hk3.cell (HA1 w2 (Ext.refl _)) HNO.out.1
          clear hT3 hk3 hS3 a0 HA1 hrs
          go_wp2
          go_roundw
          case rel => exact ⟨L ++ [x], Ms, (stepT s').2.2, by rw [List.length_append, List.length_cons, List.length_nil]; go_num, by simp; omega, by simp; omega, HT3, H3, HK3, Lib.hid (by have := HR.out.snoc HRT.out; simpa using this)⟩
          case measure => simp [intOf]; omega
        · have HRT : Hid (roundT s' = some ([sentB], [(stepT s').1], restS (stepT s').2.2)) := Lib.hid (by unfold roundT; rw [if_pos hd, hs1, hs2]; rfl)
          have HCL : Hid ((outC (stepT s').1 A1 c1 A2 c2 A3 c3).toArray.size = 9) := Lib.hid rfl
          rw [hs2] at hrs a0
          rw [hs1] at HA1
          clear hd hs1 hs2
          go_wp2_with (at_builtin; refine unstop ?_)
          refine go_on (wpList_appO rfl (HT1.out.ext HX2.out) hmb hrs rfl rfl rfl rfl (by simp; omega) ?_)
          intro vo3 w3 hT3 hk3 hB3 hS3
          rw [List.append_nil] at hT3
          have HT3 := Lib.hid hT3
          have H3 := Lib.hid (hS3 p q _ hpM hqM (H1.out.ext HX2.out))
          have HK3 := Lib.hid ((HK1.out.ext HX2.out).news hk3 (fun k hk => (HT1.out.o.lt k (by simpa using hk)).1))
          have a1 : w3.cell? ⟨g7, 1, none⟩ = some (.bool true) := hk3.cell (HA1 w2 (Ext.refl _)) HNO.out.1
          have HR3 := Lib.hid (hk3.heap HROW.out HNO.out.1)
          have HSY3 := Lib.hid (says_turn HSY.out hk3 (fun k hk => mem_bl.2 (.inl (by simpa using hk))) hB3)
          clear hT3 hk3 hS3 a0 HA1 hrs hB3
          go_wp2_with (with_reducible refine stop_load 39 ?_)
          refine go_on (wpList_load_row rfl 39 _ rfl g7 rfl 39 _ (0, 0) _ HR3.out Try.underlying39 rfl (aout_size outC_size) ?_)
          simp only [outC]
          go_wp2_with (at_builtin; refine unstop ?_)
          generalize hw4 : w3.alloc _ = w4
          have hx4 : Ext w3 w4 := hw4 ▸ (Ext.refl _).alloc _
          have hsl : SlM (bl vo3 u5 M) w4 (some ⟨w3.heap.size, 0, none⟩) (outC (stepT s').1 A1 c1 A2 c2 A3 c3) := by rw [← hw4]; exact SlM.new w3 (outC (stepT s').1 A1 c1 A2 c2 A3 c3) _ rfl 39 (0, 0) _ HT3.out.ltb
          clear hw4
          have hrm : RsM ROu 9 (bl vo3 u5 M) w4 (some ⟨w3.heap.size, 0, none⟩) [(stepT s').1] := by
            refine ⟨[outC (stepT s').1 A1 c1 A2 c2 A3 c3], rfl, by simp [outC], by simpa using hsl, fun k cs x hk hx => ?_⟩
            cases k with
            | zero =>
              simp only [List.getElem?_cons_zero, Option.some.injEq] at hk hx
              subst hk hx
              exact ROu.kept HSY3.out (.of_ext hx4)
            | succ k => simp at hk
          refine go_on (wpList_appS rfl (HT3.out.ext hx4) hmb hrm rfl rfl rfl rfl (by simp; omega) ?_)
          intro vs5 w5 hT5 hk5 _ hS5
          have HT5 := Lib.hid hT5
          have h5 := hS5 p q _ hpM hqM (H3.out.ext hx4)
          have HK5 := Lib.hid ((HK3.out.ext hx4).news hk5 (fun k hk => (HT3.out.s.lt k (by simpa using hk)).1))
          have HH := sheard_any h5 hs3
          unfold pt at HH
          clear hT5 hk5 hS5 h5 hx4 hsl hrm a1
          go_wp2_with fail
          refine HH.mono ?_
          rintro e w6 ⟨cs2, rfl, hn6, h6, hk6⟩
          obtain ⟨B1, d1, B2, d2, B3, d3, rfl⟩ := hn6.form
          have HN6 := Lib.hid hn6
          have H6 := Lib.hid h6
          have HT6 := Lib.hid (HT5.out.kept hk6 HPQ.out)
          have HK6 := Lib.hid (HK5.out.trans hk6)
          clear hn6 h6 hk6 HH
          go_wp2_with (with_reducible first | refine stop_alloc 39 ?_ | refine stop_store 39 ?_ | refine stop_load 39 ?_)
          refine go_on (wpList_alloc_ rfl rfl aout_info ?_)
          go_wp2_with (with_reducible first | refine stop_alloc 39 ?_ | refine stop_store 39 ?_ | refine stop_load 39 ?_)
          refine go_on (wpList_store_last rfl rfl rfl rfl (aout_size outC_size) rfl outC_one ?_)
          intro w7 hrow7 hx7 hz7
          have HX7 := Lib.hid hx7
          have a7 := (row9_at hrow7).1 w7 (Ext.refl _)
          have hrs7 := (HN6.out.rows [] (by simp)).1.kept (.of_ext hx7)
          generalize w6.heap.size = g9 at *
          clear hx7 hz7 hrow7
          unfold sayO at hrs7 a7
          go_wp2_with (at_builtin; refine unstop ?_)
          refine go_on (wpList_appO rfl (HT6.out.ext HX7.out) hmb hrs7 rfl rfl rfl rfl (by simp; omega) ?_)
          intro vo8 w8 hT8 hk8 _ hS8
          have HT8 := Lib.hid hT8
          have H8 := Lib.hid (hS8 p q _ hpM hqM (H6.out.ext HX7.out))
          have HK8 := Lib.hid ((HK6.out.ext HX7.out).news hk8 (fun k hk => (HT6.out.o.lt k (by simpa using hk)).1))
          clear hT8 hk8 hS8 a7 hrs7
          go_wp2
          go_roundw
          case rel => exact ⟨L ++ [sentB], Ms ++ [(stepT s').1], restS (stepT s').2.2, by rw [List.length_append, List.length_cons, List.length_nil]; go_num, by simp; omega, by simp; omega, HT8, H8, HK8, Lib.hid (HR.out.snoc HRT.out)⟩
          case measure => simp [intOf]; omega
    · have hlt2 : ¬ (L.length : Int) < 300 := by omega
      go_wp2
      go_ret2
      exact ⟨_, _, L, Ms, s', rfl, HT.out, HS.out, HK.out, HR.out, .inl (by omega), hL, hMs⟩
end Go.Proofs.Ytchokelpimibdaa
