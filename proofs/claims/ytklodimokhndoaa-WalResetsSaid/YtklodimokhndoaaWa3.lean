/- The walk of the log's laid. Conditions: the hypotheses of the theorem. -/
import Derived.Test.YtklodimokhndoaaWa2
import Derived.Test.YtklodimokhndoaaZero
import Derived.Test.YtklodimokhndoaaPhase
import Derived.Test.YtklodimokhndoaaStep
import Derived.Test.YtklodimokhndoaaWaA
namespace Go.Proofs.Ytklodimokhndoaa
open Go.RowKit
set_option maxRecDepth 20000 in
set_option maxHeartbeats 2000000 in
theorem wlaid_any (A : Option Addr) (c : Nat) (space : By) (A2 : Option Addr) (c2 : Nat) (r : By) (w : World) (hb : Bs w A space) (hr : Bs w A2 r) (hc2 : r.length ≤ c2) (hl : space.length ≤ 1000000) (hl2 : r.length ≤ 2000) :
    Calls Try.prog 50 #[.slice A space.length c, .slice A2 r.length c2] w fun e w' => ∃ v, e = .returned v ∧ Own w' w.heap.size v (layF space r) ∧ Ext w w' := by
  have HR := Lib.hid hr
  have HC := fclone_any A c space.length space w hb (by omega) rfl
  clear hb hr
  go_enter Try.func50, Try.ntmps50
  go_wp2_with fail
  refine HC.mono ?_
  rintro e w1 ⟨v1, rfl, ho1, hx1⟩
  obtain ⟨A1, c1, rfl⟩ := ho1.form
  have HO1 := Lib.hid ho1
  have HX1 := Lib.hid hx1
  clear HC ho1 hx1
  go_wp2
  go_loopw [5, 6] (fun ov rv wr => ∃ (f : Nat) (b : Bool) (out rest : By) (Ao Ar : Option Addr) (co cr : Nat), ov = .slice Ao out.length co ∧ rv = .slice Ar rest.length cr ∧ Hid (layF space r = layG f b out rest) ∧ rest.length ≤ f ∧ (b = decide (rest.length = r.length)) ∧ rest.length ≤ r.length ∧ rest.length ≤ cr ∧ out.length ≤ 1000000 + 64 * (r.length - rest.length) ∧ Hid (Own wr w.heap.size (.slice Ao out.length co) out) ∧ Hid (Bs w Ar rest) ∧ Hid (Ext w wr)) (fun _ rv _ => match rv with | .slice _ n _ => n | _ => 0)
  case atStart => exact ⟨r.length, true, space, r, _, _, _, _, rfl, rfl, Lib.hid rfl, by omega, by simp, by omega, hc2, by omega, HO1, HR, HX1⟩
  case round =>
    obtain ⟨f, b, out, rest, Ao, Ar, co, cr, rfl, rfl, HF, hf, hbb, hrl, hrc, hol, HO, HRB, HX⟩ := hrel
    clear HO1 HX1
    by_cases h0 : rest = []
    · subst h0
      have HV : Hid (layG f b out [] = out) := Lib.hid (by cases f <;> rfl)
      rw [HV.out] at HF
      go_wp2
      go_ret
      exact ⟨_, rfl, by rw [HF.out]; exact HO.out, HX.out⟩
    · have hpos : (0 : Int) < (rest.length : Int) := by have := List.length_pos_iff.2 h0; omega
      have hpn : 0 < rest.length := List.length_pos_iff.2 h0
      obtain ⟨f, rfl⟩ : ∃ g, f = g + 1 := ⟨f - 1, by omega⟩
      have HF2 : Hid (layF space r = layG f false (layC b out rest) (rest.drop (fitF out rest))) := Lib.hid (by rw [HF.out]; conv => lhs; unfold layG; rw [if_neg h0])
      have HK := wskip_any out.length wr (by omega)
      have hge := skipF_ge out.length
      have hle := skipF_le out.length
      have wk : IntKind.i64.wrap ((skipF out.length : Int) - (out.length : Int)) = ((skipF out.length - out.length : Nat) : Int) := by rw [wrapI _ (by omega) (by omega)]; omega
      clear HF h0
      go_wp2_with fail
      refine HK.mono ?_
      rintro e w2 ⟨rfl, rfl⟩
      clear HK
      go_wp2_with (at_builtin; refine unstop ?_)
      refine go_on (wpList_zeros HO.out rfl rfl rfl (by first | rfl | exact congrArg _ wk) (by omega) HX.out.size ?_)
      intro v3 w3 ho3 hg3 hor3
      have HX3 := Lib.hid (HX.out.own HO.out (Nat.le_refl _) hg3)
      have HRB3 := Lib.hid (HRB.out.ext (HX3.out))
      replace ho3 : Own w3 w.heap.size v3 (padF out) := ho3
      obtain ⟨A3, c3, rfl⟩ := ho3.form
      have HO3 : Hid (Own w3 w.heap.size (.slice A3 (padF out).length c3) (padF out)) := Lib.hid ho3
      have hpl := padF_len out
      have hfl := fitF_le out rest
      have hfp := fitF_pos out (rest := rest) (fun e => by rw [e] at hpn; simp at hpn)
      have hll := layC_len b out rest
      have hrm := skipF_room out.length
      have hFIT : fitF out rest = min rest.length (64 - (padF out).length % 64 - 3) := rfl
      have HLC : Hid (layC b out rest = padF out ++ (kindF b (decide (fitF out rest = rest.length)) :: UInt8.ofNat (fitF out rest) :: (rest.take (fitF out rest) ++ [231]))) := Lib.hid rfl
      have hfz : fitF out rest ≤ 61 := by omega
      generalize layC b out rest = o2 at *
      generalize fitF out rest = n at *
      rw [← hpl] at hge hle hll hrm hfl
      have hsk : out.length ≤ (padF out).length := by omega
      clear hpl wk ho3 hor3 hg3
      generalize padF out = o1 at *
      clear HO HX
      have hmod : (o1.length : Int) % 64 = ((o1.length % 64 : Nat) : Int) := by omega
      have hmlt : o1.length % 64 < 64 := Nat.mod_lt _ (by omega)
      generalize o1.length % 64 = m at *
      have hm1 : IntKind.i64.wrap (64 - (m : Int)) = 64 - (m : Int) := wrapI _ (by omega) (by omega)
      have hm2 : IntKind.i64.wrap (64 - (m : Int) - 3) = 64 - (m : Int) - 3 := wrapI _ (by omega) (by omega)
      have hmin : (if 64 - (m : Int) - 3 < (rest.length : Int) then 64 - (m : Int) - 3 else (rest.length : Int)) = (n : Int) := by split <;> omega
      have hnb : IntKind.u8.wrap (n : Int) = ((UInt8.ofNat n).toNat : Int) := by unfold IntKind.wrap; simp [IntKind.bits, IntKind.signed]
      have hnl : n ≤ rest.length := by omega
      have HNF := Lib.hid hFIT
      clear hFIT
      obtain ⟨A5, e5, f5⟩ := cutB_h (P := Try.prog) Try.underlying46 size8 Ar rest.length cr rest n (hi := (n : Int)) rfl rfl hrc hnl
      obtain ⟨A6, e6, f6⟩ := cutB_l (P := Try.prog) Try.underlying46 size8 Ar rest.length cr rest n (li := (n : Int)) rfl rfl hrc hnl
      have HF5 := Lib.hid (f5 w HRB.out)
      have HF6 := Lib.hid (f6 w HRB.out)
      have HDL : Hid ((rest.drop n).length = rest.length - n) := Lib.hid (by simp)
      have htl : (rest.take n).length = n := by simp; omega
      clear f5 f6
      clear hsk hge HRB HRB3 HNF hfl hmlt hm1
      by_cases hr0 : rest.length = r.length
      · have hsb : ((rest.length : Int) == (r.length : Int)) = true := by simp [hr0]
        obtain rfl : b = true := by rw [hbb]; simpa using hr0
        have HR0 := Lib.hid hr0
        clear hbb hr0
        by_cases hn : n = rest.length
        · subst hn
          replace HLC : Hid (o2 = o1 ++ [1, UInt8.ofNat rest.length] ++ rest.take rest.length ++ [231]) := Lib.hid (by rw [HLC.out]; simp [kindF])
          go_wp2_with fail
          refine wp_region_phase (S := fun w' => Ext w w') 12 (by kernel_rfl) (by kernel_rfl) ?_ (fun hHeld => ?_)
          · exact HX3.out.drew
          simp only [List.drop_succ_cons, List.drop_zero]
          refine name_head ?_
          intro wr0 hw0
          rw [hw0] at hHeld
          have ho : Own wr0 w.heap.size (.slice A3 o1.length c3) o1 := hw0 ▸ HO3.out.drew
          refine wpHead_take (i := 0) (v := ?_) (by rfl) (by kernel_rfl) (by kernel_rfl) (by exact fun _ _ _ h => h) (Or.inl ⟨by rfl, ?_⟩) (by assumption) ?_
          rotate_left
          · intro w hSw
            first | (go_simp; done) | (go_simp; with_reducible rfl)
          simp only [List.getElem_toArray, List.getElem_cons_zero, Act.put, List.setIfInBounds_toArray, List.set_cons_zero, List.set_cons_succ]
          refine wpHead_take (i := 1) (v := ?_) (by rfl) (by kernel_rfl) (by kernel_rfl) (by exact fun _ _ _ h => h) (Or.inl ⟨by rfl, ?_⟩) (by assumption) ?_
          rotate_left
          · intro w hSw
            first | (go_simp; done) | (go_simp; with_reducible rfl)
          simp only [List.getElem_toArray, List.getElem_cons_succ, List.getElem_cons_zero, Act.put, List.setIfInBounds_toArray, List.set_cons_zero, List.set_cons_succ]
          refine wpHead_take (i := 2) (v := ?_) (by rfl) (by kernel_rfl) (by kernel_rfl) (by exact fun _ _ _ h => h) (Or.inl ⟨by rfl, ?_⟩) (by assumption) ?_
          rotate_left
          · intro w hSw
            first | (go_simp; done) | (go_simp; with_reducible rfl)
          simp only [List.getElem_toArray, List.getElem_cons_succ, List.getElem_cons_zero, Act.put, List.setIfInBounds_toArray, List.set_cons_zero, List.set_cons_succ]
          refine wpHead_take (i := 3) (v := ?_) (by rfl) (by kernel_rfl) (by kernel_rfl) (by exact fun _ _ _ h => h) (Or.inl ⟨by rfl, ?_⟩) (by assumption) ?_
          rotate_left
          · intro w hSw
            first | (go_simp; done) | (go_simp; with_reducible rfl)
          simp only [List.getElem_toArray, List.getElem_cons_succ, List.getElem_cons_zero, Act.put, List.setIfInBounds_toArray, List.set_cons_zero, List.set_cons_succ]
          refine wpHead_take (i := 6) (v := ?_) (by rfl) (by kernel_rfl) (by kernel_rfl) (by exact fun _ _ _ h => h) (Or.inl ⟨by rfl, ?_⟩) (by assumption) ?_
          rotate_left
          · intro w hSw
            first | (go_simp; done) | (go_simp; with_reducible rfl)
          simp only [List.getElem_toArray, List.getElem_cons_succ, List.getElem_cons_zero, Act.put, List.setIfInBounds_toArray, List.set_cons_zero, List.set_cons_succ]
          refine wpHead_take (i := 7) (v := ?_) (by rfl) (by kernel_rfl) (by kernel_rfl) (by exact fun _ _ _ h => h) (Or.inl ⟨by rfl, ?_⟩) (by assumption) ?_
          rotate_left
          · intro w hSw
            first | (go_simp; done) | (go_simp; with_reducible rfl)
          simp only [List.getElem_toArray, List.getElem_cons_succ, List.getElem_cons_zero, Act.put, List.setIfInBounds_toArray, List.set_cons_zero, List.set_cons_succ]
          refine wpHead_take (i := 8) (v := ?_) (by rfl) (by kernel_rfl) (by kernel_rfl) (by exact fun _ _ _ h => h) (Or.inl ⟨by rfl, ?_⟩) (by assumption) ?_
          rotate_left
          · intro w hSw
            first | (go_simp; done) | (go_simp; with_reducible rfl)
          simp only [List.getElem_toArray, List.getElem_cons_succ, List.getElem_cons_zero, Act.put, List.setIfInBounds_toArray, List.set_cons_zero, List.set_cons_succ]
          refine wpHead_ready (rs := [4, 10]) (by kernel_rfl) (by simp) (by kernel_rfl) ?_
          refine AllHead.cons (by rfl) (fun K hK => ?_) ?_
          · go_simp
            refine name_world ?_
            rintro wr4 hw4
            have hxn4 : Ext wr0 wr4 := hw4 ▸ (Ext.refl _).alloc _
            have hrow4 : wr4.heap[wr0.heap.size]? = some (.cells #[.int .u8 1, .int .u8 ((UInt8.ofNat rest.length).toNat : Int)] 5) := hw4 ▸ heap_alloc_new wr0 _
            have hs1 := Sd.new ho hrow4 (l := [1, UInt8.ofNat rest.length]) rfl
            replace ho := ho.ext hxn4
            try replace hs2 := hs2.ext hxn4
            clear hrow4
            have hxk := hHeld.trans hxn4
            refine hK.out _ _ ?_ (fun hHeld => ?_)
            · exact hxk
            clear hK K
            try simp only [List.getElem_toArray, List.getElem_cons_succ, List.getElem_cons_zero, Act.put, List.setIfInBounds_toArray, List.set_cons_zero, List.set_cons_succ]
            refine wpHead_ready (rs := [5, 10]) (by kernel_rfl) (by simp) (by kernel_rfl) ?_
            refine AllHead.cons (by rfl) (fun K hK => ?_) ?_
            · refine step_apB bytesT ho hs1.bs rfl rfl rfl rfl rfl (by first | omega | (simp; done) | (simp; omega)) hHeld.size ?_
              rintro v5 wr5 ho5 hg5 hor5
              try replace hs2 := hs2.app hg5 hor5
              have hxk := hHeld.own ho (Nat.le_refl _) hg5
              clear ho hg5 hor5 hs1
              have hl5 : (o1 ++ [1, UInt8.ofNat rest.length]).length ≤ o1.length + 2 := by simp
              generalize he5 : o1 ++ [1, UInt8.ofNat rest.length] = o5 at *
              have HE5 := Lib.hid he5
              clear he5
              obtain ⟨A7, c7, rfl⟩ := ho5.form
              have ho := ho5
              clear ho5
              refine hK.out _ _ ?_ (fun hHeld => ?_)
              · exact hxk
              clear hK K
              try simp only [List.getElem_toArray, List.getElem_cons_succ, List.getElem_cons_zero, Act.put, List.setIfInBounds_toArray, List.set_cons_zero, List.set_cons_succ]
              refine wpHead_ready (rs := [9, 10]) (by kernel_rfl) (by simp) (by kernel_rfl) ?_
              refine AllHead.cons (by rfl) (fun K hK => ?_) ?_
              · refine step_apB bytesT ho (HF5.out.ext hHeld) rfl rfl rfl rfl (by first | omega | (simp; done) | (simp; omega)) (by first | omega | (simp; done) | (simp; omega)) hHeld.size ?_
                rintro v9 wr9 ho9 hg9 hor9
                try replace hs2 := hs2.app hg9 hor9
                have hxk := hHeld.own ho (Nat.le_refl _) hg9
                clear ho hg9 hor9
                have hl9 : (o5 ++ rest.take rest.length).length ≤ o5.length + 61 := by simp; omega
                generalize he9 : o5 ++ rest.take rest.length = o9 at *
                have HE9 := Lib.hid he9
                clear he9
                obtain ⟨A8, c8, rfl⟩ := ho9.form
                have ho := ho9
                clear ho9
                refine hK.out _ _ ?_ (fun hHeld => ?_)
                · exact hxk
                clear hK K
                try simp only [List.getElem_toArray, List.getElem_cons_succ, List.getElem_cons_zero, Act.put, List.setIfInBounds_toArray, List.set_cons_zero, List.set_cons_succ]
                refine wpHead_ready (rs := [10]) (by kernel_rfl) (by simp) (by kernel_rfl) ?_
                refine AllHead.cons (by rfl) (fun K hK => ?_) ?_
                · go_simp
                  refine name_world ?_
                  rintro wr10 hw10
                  have hxn10 : Ext wr9 wr10 := hw10 ▸ (Ext.refl _).alloc _
                  have hrow10 : wr10.heap[wr9.heap.size]? = some (.cells #[.int .u8 231] 5) := hw10 ▸ heap_alloc_new wr9 _
                  have hs2 := Sd.new ho hrow10 (l := [231]) rfl
                  replace ho := ho.ext hxn10
                  try replace hs1 := hs1.ext hxn10
                  clear hrow10
                  have hxk := hHeld.trans hxn10
                  refine hK.out _ _ ?_ (fun hHeld => ?_)
                  · exact hxk
                  clear hK K
                  try simp only [List.getElem_toArray, List.getElem_cons_succ, List.getElem_cons_zero, Act.put, List.setIfInBounds_toArray, List.set_cons_zero, List.set_cons_succ]
                  refine wpHead_ready (rs := [11]) (by kernel_rfl) (by simp) (by kernel_rfl) ?_
                  refine AllHead.cons (by rfl) (fun K hK => ?_) ?_
                  · refine step_apB bytesT ho hs2.bs rfl rfl rfl rfl rfl (by first | omega | (simp; done) | (simp; omega)) hHeld.size ?_
                    rintro v11 wr11 ho11 hg11 hor11
                    have hxk := hHeld.own ho (Nat.le_refl _) hg11
                    clear ho hg11 hor11 hs2
                    have e2 : o9 ++ [231] = o2 := by rw [HLC.out, ← HE9.out, ← HE5.out]
                    rw [e2] at ho11
                    obtain ⟨A9, c9, rfl⟩ := ho11.form
                    refine hK.out _ _ ?_ (fun hHeld => ?_)
                    · exact hxk
                    clear hK K
                    try simp only [List.getElem_toArray, List.getElem_cons_succ, List.getElem_cons_zero, Act.put, List.setIfInBounds_toArray, List.set_cons_zero, List.set_cons_succ]
                    refine wpHead_done (by kernel_rfl) ?_
                    clear HLC HF5
                    go_wp2_with fail
                    go_roundw
                    case rel => exact ⟨f, false, o2, rest.drop rest.length, A9, A6, c9, cr - rest.length, rfl, (by first | (rw [HDL.out, Nat.sub_self]; done) | (rw [HDL.out]; done)), HF2, (by rw [HDL.out]; omega), (by rw [HDL.out]; simp; omega), (by rw [HDL.out]; omega), (by rw [HDL.out]; omega), (by rw [HDL.out]; omega), Lib.hid ho11, HF6, Lib.hid hHeld⟩
                    case measure => simp; omega
                  exact AllHead.nil
                exact AllHead.nil
              refine AllHead.cons (by rfl) (fun K hK => ?_) ?_
              · go_simp
                refine name_world ?_
                rintro wr10 hw10
                have hxn10 : Ext wr5 wr10 := hw10 ▸ (Ext.refl _).alloc _
                have hrow10 : wr10.heap[wr5.heap.size]? = some (.cells #[.int .u8 231] 5) := hw10 ▸ heap_alloc_new wr5 _
                have hs2 := Sd.new ho hrow10 (l := [231]) rfl
                replace ho := ho.ext hxn10
                try replace hs1 := hs1.ext hxn10
                clear hrow10
                have hxk := hHeld.trans hxn10
                refine hK.out _ _ ?_ (fun hHeld => ?_)
                · exact hxk
                clear hK K
                try simp only [List.getElem_toArray, List.getElem_cons_succ, List.getElem_cons_zero, Act.put, List.setIfInBounds_toArray, List.set_cons_zero, List.set_cons_succ]
                refine wpHead_ready (rs := [9]) (by kernel_rfl) (by simp) (by kernel_rfl) ?_
                refine AllHead.cons (by rfl) (fun K hK => ?_) ?_
                · refine step_apB bytesT ho (HF5.out.ext hHeld) rfl rfl rfl rfl (by first | omega | (simp; done) | (simp; omega)) (by first | omega | (simp; done) | (simp; omega)) hHeld.size ?_
                  rintro v9 wr9 ho9 hg9 hor9
                  try replace hs2 := hs2.app hg9 hor9
                  have hxk := hHeld.own ho (Nat.le_refl _) hg9
                  clear ho hg9 hor9
                  have hl9 : (o5 ++ rest.take rest.length).length ≤ o5.length + 61 := by simp; omega
                  generalize he9 : o5 ++ rest.take rest.length = o9 at *
                  have HE9 := Lib.hid he9
                  clear he9
                  obtain ⟨A8, c8, rfl⟩ := ho9.form
                  have ho := ho9
                  clear ho9
                  refine hK.out _ _ ?_ (fun hHeld => ?_)
                  · exact hxk
                  clear hK K
                  try simp only [List.getElem_toArray, List.getElem_cons_succ, List.getElem_cons_zero, Act.put, List.setIfInBounds_toArray, List.set_cons_zero, List.set_cons_succ]
                  refine wpHead_ready (rs := [11]) (by kernel_rfl) (by simp) (by kernel_rfl) ?_
                  refine AllHead.cons (by rfl) (fun K hK => ?_) ?_
                  · refine step_apB bytesT ho hs2.bs rfl rfl rfl rfl rfl (by first | omega | (simp; done) | (simp; omega)) hHeld.size ?_
                    rintro v11 wr11 ho11 hg11 hor11
                    have hxk := hHeld.own ho (Nat.le_refl _) hg11
                    clear ho hg11 hor11 hs2
                    have e2 : o9 ++ [231] = o2 := by rw [HLC.out, ← HE9.out, ← HE5.out]
                    rw [e2] at ho11
                    obtain ⟨A9, c9, rfl⟩ := ho11.form
                    refine hK.out _ _ ?_ (fun hHeld => ?_)
                    · exact hxk
                    clear hK K
                    try simp only [List.getElem_toArray, List.getElem_cons_succ, List.getElem_cons_zero, Act.put, List.setIfInBounds_toArray, List.set_cons_zero, List.set_cons_succ]
                    refine wpHead_done (by kernel_rfl) ?_
                    clear HLC HF5
                    go_wp2_with fail
                    go_roundw
                    case rel => exact ⟨f, false, o2, rest.drop rest.length, A9, A6, c9, cr - rest.length, rfl, (by first | (rw [HDL.out, Nat.sub_self]; done) | (rw [HDL.out]; done)), HF2, (by rw [HDL.out]; omega), (by rw [HDL.out]; simp; omega), (by rw [HDL.out]; omega), (by rw [HDL.out]; omega), (by rw [HDL.out]; omega), Lib.hid ho11, HF6, Lib.hid hHeld⟩
                    case measure => simp; omega
                  exact AllHead.nil
                exact AllHead.nil
              exact AllHead.nil
            refine AllHead.cons (by rfl) (fun K hK => ?_) ?_
            · go_simp
              refine name_world ?_
              rintro wr10 hw10
              have hxn10 : Ext wr4 wr10 := hw10 ▸ (Ext.refl _).alloc _
              have hrow10 : wr10.heap[wr4.heap.size]? = some (.cells #[.int .u8 231] 5) := hw10 ▸ heap_alloc_new wr4 _
              have hs2 := Sd.new ho hrow10 (l := [231]) rfl
              replace ho := ho.ext hxn10
              try replace hs1 := hs1.ext hxn10
              clear hrow10
              have hxk := hHeld.trans hxn10
              refine hK.out _ _ ?_ (fun hHeld => ?_)
              · exact hxk
              clear hK K
              try simp only [List.getElem_toArray, List.getElem_cons_succ, List.getElem_cons_zero, Act.put, List.setIfInBounds_toArray, List.set_cons_zero, List.set_cons_succ]
              refine wpHead_ready (rs := [5]) (by kernel_rfl) (by simp) (by kernel_rfl) ?_
              refine AllHead.cons (by rfl) (fun K hK => ?_) ?_
              · refine step_apB bytesT ho hs1.bs rfl rfl rfl rfl rfl (by first | omega | (simp; done) | (simp; omega)) hHeld.size ?_
                rintro v5 wr5 ho5 hg5 hor5
                try replace hs2 := hs2.app hg5 hor5
                have hxk := hHeld.own ho (Nat.le_refl _) hg5
                clear ho hg5 hor5 hs1
                have hl5 : (o1 ++ [1, UInt8.ofNat rest.length]).length ≤ o1.length + 2 := by simp
                generalize he5 : o1 ++ [1, UInt8.ofNat rest.length] = o5 at *
                have HE5 := Lib.hid he5
                clear he5
                obtain ⟨A7, c7, rfl⟩ := ho5.form
                have ho := ho5
                clear ho5
                refine hK.out _ _ ?_ (fun hHeld => ?_)
                · exact hxk
                clear hK K
                try simp only [List.getElem_toArray, List.getElem_cons_succ, List.getElem_cons_zero, Act.put, List.setIfInBounds_toArray, List.set_cons_zero, List.set_cons_succ]
                refine wpHead_ready (rs := [9]) (by kernel_rfl) (by simp) (by kernel_rfl) ?_
                refine AllHead.cons (by rfl) (fun K hK => ?_) ?_
                · refine step_apB bytesT ho (HF5.out.ext hHeld) rfl rfl rfl rfl (by first | omega | (simp; done) | (simp; omega)) (by first | omega | (simp; done) | (simp; omega)) hHeld.size ?_
                  rintro v9 wr9 ho9 hg9 hor9
                  try replace hs2 := hs2.app hg9 hor9
                  have hxk := hHeld.own ho (Nat.le_refl _) hg9
                  clear ho hg9 hor9
                  have hl9 : (o5 ++ rest.take rest.length).length ≤ o5.length + 61 := by simp; omega
                  generalize he9 : o5 ++ rest.take rest.length = o9 at *
                  have HE9 := Lib.hid he9
                  clear he9
                  obtain ⟨A8, c8, rfl⟩ := ho9.form
                  have ho := ho9
                  clear ho9
                  refine hK.out _ _ ?_ (fun hHeld => ?_)
                  · exact hxk
                  clear hK K
                  try simp only [List.getElem_toArray, List.getElem_cons_succ, List.getElem_cons_zero, Act.put, List.setIfInBounds_toArray, List.set_cons_zero, List.set_cons_succ]
                  refine wpHead_ready (rs := [11]) (by kernel_rfl) (by simp) (by kernel_rfl) ?_
                  refine AllHead.cons (by rfl) (fun K hK => ?_) ?_
                  · refine step_apB bytesT ho hs2.bs rfl rfl rfl rfl rfl (by first | omega | (simp; done) | (simp; omega)) hHeld.size ?_
                    rintro v11 wr11 ho11 hg11 hor11
                    have hxk := hHeld.own ho (Nat.le_refl _) hg11
                    clear ho hg11 hor11 hs2
                    have e2 : o9 ++ [231] = o2 := by rw [HLC.out, ← HE9.out, ← HE5.out]
                    rw [e2] at ho11
                    obtain ⟨A9, c9, rfl⟩ := ho11.form
                    refine hK.out _ _ ?_ (fun hHeld => ?_)
                    · exact hxk
                    clear hK K
                    try simp only [List.getElem_toArray, List.getElem_cons_succ, List.getElem_cons_zero, Act.put, List.setIfInBounds_toArray, List.set_cons_zero, List.set_cons_succ]
                    refine wpHead_done (by kernel_rfl) ?_
                    clear HLC HF5
                    go_wp2_with fail
                    go_roundw
                    case rel => exact ⟨f, false, o2, rest.drop rest.length, A9, A6, c9, cr - rest.length, rfl, (by first | (rw [HDL.out, Nat.sub_self]; done) | (rw [HDL.out]; done)), HF2, (by rw [HDL.out]; omega), (by rw [HDL.out]; simp; omega), (by rw [HDL.out]; omega), (by rw [HDL.out]; omega), (by rw [HDL.out]; omega), Lib.hid ho11, HF6, Lib.hid hHeld⟩
                    case measure => simp; omega
                  exact AllHead.nil
                exact AllHead.nil
              exact AllHead.nil
            exact AllHead.nil
          refine AllHead.cons (by rfl) (fun K hK => ?_) ?_
          · go_simp
            refine name_world ?_
            rintro wr10 hw10
            have hxn10 : Ext wr0 wr10 := hw10 ▸ (Ext.refl _).alloc _
            have hrow10 : wr10.heap[wr0.heap.size]? = some (.cells #[.int .u8 231] 5) := hw10 ▸ heap_alloc_new wr0 _
            have hs2 := Sd.new ho hrow10 (l := [231]) rfl
            replace ho := ho.ext hxn10
            try replace hs1 := hs1.ext hxn10
            clear hrow10
            have hxk := hHeld.trans hxn10
            refine hK.out _ _ ?_ (fun hHeld => ?_)
            · exact hxk
            clear hK K
            try simp only [List.getElem_toArray, List.getElem_cons_succ, List.getElem_cons_zero, Act.put, List.setIfInBounds_toArray, List.set_cons_zero, List.set_cons_succ]
            refine wpHead_ready (rs := [4]) (by kernel_rfl) (by simp) (by kernel_rfl) ?_
            refine AllHead.cons (by rfl) (fun K hK => ?_) ?_
            · go_simp
              refine name_world ?_
              rintro wr4 hw4
              have hxn4 : Ext wr10 wr4 := hw4 ▸ (Ext.refl _).alloc _
              have hrow4 : wr4.heap[wr10.heap.size]? = some (.cells #[.int .u8 1, .int .u8 ((UInt8.ofNat rest.length).toNat : Int)] 5) := hw4 ▸ heap_alloc_new wr10 _
              have hs1 := Sd.new ho hrow4 (l := [1, UInt8.ofNat rest.length]) rfl
              replace ho := ho.ext hxn4
              try replace hs2 := hs2.ext hxn4
              clear hrow4
              have hxk := hHeld.trans hxn4
              refine hK.out _ _ ?_ (fun hHeld => ?_)
              · exact hxk
              clear hK K
              try simp only [List.getElem_toArray, List.getElem_cons_succ, List.getElem_cons_zero, Act.put, List.setIfInBounds_toArray, List.set_cons_zero, List.set_cons_succ]
              refine wpHead_ready (rs := [5]) (by kernel_rfl) (by simp) (by kernel_rfl) ?_
              refine AllHead.cons (by rfl) (fun K hK => ?_) ?_
              · refine step_apB bytesT ho hs1.bs rfl rfl rfl rfl rfl (by first | omega | (simp; done) | (simp; omega)) hHeld.size ?_
                rintro v5 wr5 ho5 hg5 hor5
                try replace hs2 := hs2.app hg5 hor5
                have hxk := hHeld.own ho (Nat.le_refl _) hg5
                clear ho hg5 hor5 hs1
                have hl5 : (o1 ++ [1, UInt8.ofNat rest.length]).length ≤ o1.length + 2 := by simp
                generalize he5 : o1 ++ [1, UInt8.ofNat rest.length] = o5 at *
                have HE5 := Lib.hid he5
                clear he5
                obtain ⟨A7, c7, rfl⟩ := ho5.form
                have ho := ho5
                clear ho5
                refine hK.out _ _ ?_ (fun hHeld => ?_)
                · exact hxk
                clear hK K
                try simp only [List.getElem_toArray, List.getElem_cons_succ, List.getElem_cons_zero, Act.put, List.setIfInBounds_toArray, List.set_cons_zero, List.set_cons_succ]
                refine wpHead_ready (rs := [9]) (by kernel_rfl) (by simp) (by kernel_rfl) ?_
                refine AllHead.cons (by rfl) (fun K hK => ?_) ?_
                · refine step_apB bytesT ho (HF5.out.ext hHeld) rfl rfl rfl rfl (by first | omega | (simp; done) | (simp; omega)) (by first | omega | (simp; done) | (simp; omega)) hHeld.size ?_
                  rintro v9 wr9 ho9 hg9 hor9
                  try replace hs2 := hs2.app hg9 hor9
                  have hxk := hHeld.own ho (Nat.le_refl _) hg9
                  clear ho hg9 hor9
                  have hl9 : (o5 ++ rest.take rest.length).length ≤ o5.length + 61 := by simp; omega
                  generalize he9 : o5 ++ rest.take rest.length = o9 at *
                  have HE9 := Lib.hid he9
                  clear he9
                  obtain ⟨A8, c8, rfl⟩ := ho9.form
                  have ho := ho9
                  clear ho9
                  refine hK.out _ _ ?_ (fun hHeld => ?_)
                  · exact hxk
                  clear hK K
                  try simp only [List.getElem_toArray, List.getElem_cons_succ, List.getElem_cons_zero, Act.put, List.setIfInBounds_toArray, List.set_cons_zero, List.set_cons_succ]
                  refine wpHead_ready (rs := [11]) (by kernel_rfl) (by simp) (by kernel_rfl) ?_
                  refine AllHead.cons (by rfl) (fun K hK => ?_) ?_
                  · refine step_apB bytesT ho hs2.bs rfl rfl rfl rfl rfl (by first | omega | (simp; done) | (simp; omega)) hHeld.size ?_
                    rintro v11 wr11 ho11 hg11 hor11
                    have hxk := hHeld.own ho (Nat.le_refl _) hg11
                    clear ho hg11 hor11 hs2
                    have e2 : o9 ++ [231] = o2 := by rw [HLC.out, ← HE9.out, ← HE5.out]
                    rw [e2] at ho11
                    obtain ⟨A9, c9, rfl⟩ := ho11.form
                    refine hK.out _ _ ?_ (fun hHeld => ?_)
                    · exact hxk
                    clear hK K
                    try simp only [List.getElem_toArray, List.getElem_cons_succ, List.getElem_cons_zero, Act.put, List.setIfInBounds_toArray, List.set_cons_zero, List.set_cons_succ]
                    refine wpHead_done (by kernel_rfl) ?_
                    clear HLC HF5
                    go_wp2_with fail
                    go_roundw
                    case rel => exact ⟨f, false, o2, rest.drop rest.length, A9, A6, c9, cr - rest.length, rfl, (by first | (rw [HDL.out, Nat.sub_self]; done) | (rw [HDL.out]; done)), HF2, (by rw [HDL.out]; omega), (by rw [HDL.out]; simp; omega), (by rw [HDL.out]; omega), (by rw [HDL.out]; omega), (by rw [HDL.out]; omega), Lib.hid ho11, HF6, Lib.hid hHeld⟩
                    case measure => simp; omega
                  exact AllHead.nil
                exact AllHead.nil
              exact AllHead.nil
            exact AllHead.nil
          exact AllHead.nil
        · have hne : ((n : Int) == (rest.length : Int)) = false := beq_eq_false_iff_ne.2 (by omega)
          replace HLC : Hid (o2 = o1 ++ [2, UInt8.ofNat n] ++ rest.take n ++ [231]) := Lib.hid (by rw [HLC.out]; simp [kindF, hn])
          clear hn
          go_wp2_with fail
          refine wp_region_phase (S := fun w' => Ext w w') 12 (by kernel_rfl) (by kernel_rfl) ?_ (fun hHeld => ?_)
          · exact HX3.out.drew
          simp only [List.drop_succ_cons, List.drop_zero]
          refine name_head ?_
          intro wr0 hw0
          rw [hw0] at hHeld
          have ho : Own wr0 w.heap.size (.slice A3 o1.length c3) o1 := hw0 ▸ HO3.out.drew
          refine wpHead_take (i := 0) (v := ?_) (by rfl) (by kernel_rfl) (by kernel_rfl) (by exact fun _ _ _ h => h) (Or.inl ⟨by rfl, ?_⟩) (by assumption) ?_
          rotate_left
          · intro w hSw
            first | (go_simp; done) | (go_simp; with_reducible rfl)
          simp only [List.getElem_toArray, List.getElem_cons_zero, Act.put, List.setIfInBounds_toArray, List.set_cons_zero, List.set_cons_succ]
          refine wpHead_take (i := 1) (v := ?_) (by rfl) (by kernel_rfl) (by kernel_rfl) (by exact fun _ _ _ h => h) (Or.inl ⟨by rfl, ?_⟩) (by assumption) ?_
          rotate_left
          · intro w hSw
            first | (go_simp; done) | (go_simp; with_reducible rfl)
          simp only [List.getElem_toArray, List.getElem_cons_succ, List.getElem_cons_zero, Act.put, List.setIfInBounds_toArray, List.set_cons_zero, List.set_cons_succ]
          refine wpHead_take (i := 2) (v := ?_) (by rfl) (by kernel_rfl) (by kernel_rfl) (by exact fun _ _ _ h => h) (Or.inl ⟨by rfl, ?_⟩) (by assumption) ?_
          rotate_left
          · intro w hSw
            first | (go_simp; done) | (go_simp; with_reducible rfl)
          simp only [List.getElem_toArray, List.getElem_cons_succ, List.getElem_cons_zero, Act.put, List.setIfInBounds_toArray, List.set_cons_zero, List.set_cons_succ]
          refine wpHead_take (i := 3) (v := ?_) (by rfl) (by kernel_rfl) (by kernel_rfl) (by exact fun _ _ _ h => h) (Or.inl ⟨by rfl, ?_⟩) (by assumption) ?_
          rotate_left
          · intro w hSw
            first | (go_simp; done) | (go_simp; with_reducible rfl)
          simp only [List.getElem_toArray, List.getElem_cons_succ, List.getElem_cons_zero, Act.put, List.setIfInBounds_toArray, List.set_cons_zero, List.set_cons_succ]
          refine wpHead_take (i := 6) (v := ?_) (by rfl) (by kernel_rfl) (by kernel_rfl) (by exact fun _ _ _ h => h) (Or.inl ⟨by rfl, ?_⟩) (by assumption) ?_
          rotate_left
          · intro w hSw
            first | (go_simp; done) | (go_simp; with_reducible rfl)
          simp only [List.getElem_toArray, List.getElem_cons_succ, List.getElem_cons_zero, Act.put, List.setIfInBounds_toArray, List.set_cons_zero, List.set_cons_succ]
          refine wpHead_take (i := 7) (v := ?_) (by rfl) (by kernel_rfl) (by kernel_rfl) (by exact fun _ _ _ h => h) (Or.inl ⟨by rfl, ?_⟩) (by assumption) ?_
          rotate_left
          · intro w hSw
            first | (go_simp; done) | (go_simp; with_reducible rfl)
          simp only [List.getElem_toArray, List.getElem_cons_succ, List.getElem_cons_zero, Act.put, List.setIfInBounds_toArray, List.set_cons_zero, List.set_cons_succ]
          refine wpHead_take (i := 8) (v := ?_) (by rfl) (by kernel_rfl) (by kernel_rfl) (by exact fun _ _ _ h => h) (Or.inl ⟨by rfl, ?_⟩) (by assumption) ?_
          rotate_left
          · intro w hSw
            first | (go_simp; done) | (go_simp; with_reducible rfl)
          simp only [List.getElem_toArray, List.getElem_cons_succ, List.getElem_cons_zero, Act.put, List.setIfInBounds_toArray, List.set_cons_zero, List.set_cons_succ]
          refine wpHead_ready (rs := [4, 10]) (by kernel_rfl) (by simp) (by kernel_rfl) ?_
          refine AllHead.cons (by rfl) (fun K hK => ?_) ?_
          · go_simp
            refine name_world ?_
            rintro wr4 hw4
            have hxn4 : Ext wr0 wr4 := hw4 ▸ (Ext.refl _).alloc _
            have hrow4 : wr4.heap[wr0.heap.size]? = some (.cells #[.int .u8 2, .int .u8 ((UInt8.ofNat n).toNat : Int)] 5) := hw4 ▸ heap_alloc_new wr0 _
            have hs1 := Sd.new ho hrow4 (l := [2, UInt8.ofNat n]) rfl
            replace ho := ho.ext hxn4
            try replace hs2 := hs2.ext hxn4
            clear hrow4
            have hxk := hHeld.trans hxn4
            refine hK.out _ _ ?_ (fun hHeld => ?_)
            · exact hxk
            clear hK K
            try simp only [List.getElem_toArray, List.getElem_cons_succ, List.getElem_cons_zero, Act.put, List.setIfInBounds_toArray, List.set_cons_zero, List.set_cons_succ]
            refine wpHead_ready (rs := [5, 10]) (by kernel_rfl) (by simp) (by kernel_rfl) ?_
            refine AllHead.cons (by rfl) (fun K hK => ?_) ?_
            · refine step_apB bytesT ho hs1.bs rfl rfl rfl rfl rfl (by first | omega | (simp; done) | (simp; omega)) hHeld.size ?_
              rintro v5 wr5 ho5 hg5 hor5
              try replace hs2 := hs2.app hg5 hor5
              have hxk := hHeld.own ho (Nat.le_refl _) hg5
              clear ho hg5 hor5 hs1
              have hl5 : (o1 ++ [2, UInt8.ofNat n]).length ≤ o1.length + 2 := by simp
              generalize he5 : o1 ++ [2, UInt8.ofNat n] = o5 at *
              have HE5 := Lib.hid he5
              clear he5
              obtain ⟨A7, c7, rfl⟩ := ho5.form
              have ho := ho5
              clear ho5
              refine hK.out _ _ ?_ (fun hHeld => ?_)
              · exact hxk
              clear hK K
              try simp only [List.getElem_toArray, List.getElem_cons_succ, List.getElem_cons_zero, Act.put, List.setIfInBounds_toArray, List.set_cons_zero, List.set_cons_succ]
              refine wpHead_ready (rs := [9, 10]) (by kernel_rfl) (by simp) (by kernel_rfl) ?_
              refine AllHead.cons (by rfl) (fun K hK => ?_) ?_
              · refine step_apB bytesT ho (HF5.out.ext hHeld) rfl rfl rfl rfl (by first | omega | (simp; done) | (simp; omega)) (by first | omega | (simp; done) | (simp; omega)) hHeld.size ?_
                rintro v9 wr9 ho9 hg9 hor9
                try replace hs2 := hs2.app hg9 hor9
                have hxk := hHeld.own ho (Nat.le_refl _) hg9
                clear ho hg9 hor9
                have hl9 : (o5 ++ rest.take n).length ≤ o5.length + 61 := by simp; omega
                generalize he9 : o5 ++ rest.take n = o9 at *
                have HE9 := Lib.hid he9
                clear he9
                obtain ⟨A8, c8, rfl⟩ := ho9.form
                have ho := ho9
                clear ho9
                refine hK.out _ _ ?_ (fun hHeld => ?_)
                · exact hxk
                clear hK K
                try simp only [List.getElem_toArray, List.getElem_cons_succ, List.getElem_cons_zero, Act.put, List.setIfInBounds_toArray, List.set_cons_zero, List.set_cons_succ]
                refine wpHead_ready (rs := [10]) (by kernel_rfl) (by simp) (by kernel_rfl) ?_
                refine AllHead.cons (by rfl) (fun K hK => ?_) ?_
                · go_simp
                  refine name_world ?_
                  rintro wr10 hw10
                  have hxn10 : Ext wr9 wr10 := hw10 ▸ (Ext.refl _).alloc _
                  have hrow10 : wr10.heap[wr9.heap.size]? = some (.cells #[.int .u8 231] 5) := hw10 ▸ heap_alloc_new wr9 _
                  have hs2 := Sd.new ho hrow10 (l := [231]) rfl
                  replace ho := ho.ext hxn10
                  try replace hs1 := hs1.ext hxn10
                  clear hrow10
                  have hxk := hHeld.trans hxn10
                  refine hK.out _ _ ?_ (fun hHeld => ?_)
                  · exact hxk
                  clear hK K
                  try simp only [List.getElem_toArray, List.getElem_cons_succ, List.getElem_cons_zero, Act.put, List.setIfInBounds_toArray, List.set_cons_zero, List.set_cons_succ]
                  refine wpHead_ready (rs := [11]) (by kernel_rfl) (by simp) (by kernel_rfl) ?_
                  refine AllHead.cons (by rfl) (fun K hK => ?_) ?_
                  · refine step_apB bytesT ho hs2.bs rfl rfl rfl rfl rfl (by first | omega | (simp; done) | (simp; omega)) hHeld.size ?_
                    rintro v11 wr11 ho11 hg11 hor11
                    have hxk := hHeld.own ho (Nat.le_refl _) hg11
                    clear ho hg11 hor11 hs2
                    have e2 : o9 ++ [231] = o2 := by rw [HLC.out, ← HE9.out, ← HE5.out]
                    rw [e2] at ho11
                    obtain ⟨A9, c9, rfl⟩ := ho11.form
                    refine hK.out _ _ ?_ (fun hHeld => ?_)
                    · exact hxk
                    clear hK K
                    try simp only [List.getElem_toArray, List.getElem_cons_succ, List.getElem_cons_zero, Act.put, List.setIfInBounds_toArray, List.set_cons_zero, List.set_cons_succ]
                    refine wpHead_done (by kernel_rfl) ?_
                    clear HLC HF5
                    go_wp2_with fail
                    go_roundw
                    case rel => exact ⟨f, false, o2, rest.drop n, A9, A6, c9, cr - n, rfl, (by first | (rw [HDL.out, Nat.sub_self]; done) | (rw [HDL.out]; done)), HF2, (by rw [HDL.out]; omega), (by rw [HDL.out]; simp; omega), (by rw [HDL.out]; omega), (by rw [HDL.out]; omega), (by rw [HDL.out]; omega), Lib.hid ho11, HF6, Lib.hid hHeld⟩
                    case measure => simp; omega
                  exact AllHead.nil
                exact AllHead.nil
              refine AllHead.cons (by rfl) (fun K hK => ?_) ?_
              · go_simp
                refine name_world ?_
                rintro wr10 hw10
                have hxn10 : Ext wr5 wr10 := hw10 ▸ (Ext.refl _).alloc _
                have hrow10 : wr10.heap[wr5.heap.size]? = some (.cells #[.int .u8 231] 5) := hw10 ▸ heap_alloc_new wr5 _
                have hs2 := Sd.new ho hrow10 (l := [231]) rfl
                replace ho := ho.ext hxn10
                try replace hs1 := hs1.ext hxn10
                clear hrow10
                have hxk := hHeld.trans hxn10
                refine hK.out _ _ ?_ (fun hHeld => ?_)
                · exact hxk
                clear hK K
                try simp only [List.getElem_toArray, List.getElem_cons_succ, List.getElem_cons_zero, Act.put, List.setIfInBounds_toArray, List.set_cons_zero, List.set_cons_succ]
                refine wpHead_ready (rs := [9]) (by kernel_rfl) (by simp) (by kernel_rfl) ?_
                refine AllHead.cons (by rfl) (fun K hK => ?_) ?_
                · refine step_apB bytesT ho (HF5.out.ext hHeld) rfl rfl rfl rfl (by first | omega | (simp; done) | (simp; omega)) (by first | omega | (simp; done) | (simp; omega)) hHeld.size ?_
                  rintro v9 wr9 ho9 hg9 hor9
                  try replace hs2 := hs2.app hg9 hor9
                  have hxk := hHeld.own ho (Nat.le_refl _) hg9
                  clear ho hg9 hor9
                  have hl9 : (o5 ++ rest.take n).length ≤ o5.length + 61 := by simp; omega
                  generalize he9 : o5 ++ rest.take n = o9 at *
                  have HE9 := Lib.hid he9
                  clear he9
                  obtain ⟨A8, c8, rfl⟩ := ho9.form
                  have ho := ho9
                  clear ho9
                  refine hK.out _ _ ?_ (fun hHeld => ?_)
                  · exact hxk
                  clear hK K
                  try simp only [List.getElem_toArray, List.getElem_cons_succ, List.getElem_cons_zero, Act.put, List.setIfInBounds_toArray, List.set_cons_zero, List.set_cons_succ]
                  refine wpHead_ready (rs := [11]) (by kernel_rfl) (by simp) (by kernel_rfl) ?_
                  refine AllHead.cons (by rfl) (fun K hK => ?_) ?_
                  · refine step_apB bytesT ho hs2.bs rfl rfl rfl rfl rfl (by first | omega | (simp; done) | (simp; omega)) hHeld.size ?_
                    rintro v11 wr11 ho11 hg11 hor11
                    have hxk := hHeld.own ho (Nat.le_refl _) hg11
                    clear ho hg11 hor11 hs2
                    have e2 : o9 ++ [231] = o2 := by rw [HLC.out, ← HE9.out, ← HE5.out]
                    rw [e2] at ho11
                    obtain ⟨A9, c9, rfl⟩ := ho11.form
                    refine hK.out _ _ ?_ (fun hHeld => ?_)
                    · exact hxk
                    clear hK K
                    try simp only [List.getElem_toArray, List.getElem_cons_succ, List.getElem_cons_zero, Act.put, List.setIfInBounds_toArray, List.set_cons_zero, List.set_cons_succ]
                    refine wpHead_done (by kernel_rfl) ?_
                    clear HLC HF5
                    go_wp2_with fail
                    go_roundw
                    case rel => exact ⟨f, false, o2, rest.drop n, A9, A6, c9, cr - n, rfl, (by first | (rw [HDL.out, Nat.sub_self]; done) | (rw [HDL.out]; done)), HF2, (by rw [HDL.out]; omega), (by rw [HDL.out]; simp; omega), (by rw [HDL.out]; omega), (by rw [HDL.out]; omega), (by rw [HDL.out]; omega), Lib.hid ho11, HF6, Lib.hid hHeld⟩
                    case measure => simp; omega
                  exact AllHead.nil
                exact AllHead.nil
              exact AllHead.nil
            refine AllHead.cons (by rfl) (fun K hK => ?_) ?_
            · go_simp
              refine name_world ?_
              rintro wr10 hw10
              have hxn10 : Ext wr4 wr10 := hw10 ▸ (Ext.refl _).alloc _
              have hrow10 : wr10.heap[wr4.heap.size]? = some (.cells #[.int .u8 231] 5) := hw10 ▸ heap_alloc_new wr4 _
              have hs2 := Sd.new ho hrow10 (l := [231]) rfl
              replace ho := ho.ext hxn10
              try replace hs1 := hs1.ext hxn10
              clear hrow10
              have hxk := hHeld.trans hxn10
              refine hK.out _ _ ?_ (fun hHeld => ?_)
              · exact hxk
              clear hK K
              try simp only [List.getElem_toArray, List.getElem_cons_succ, List.getElem_cons_zero, Act.put, List.setIfInBounds_toArray, List.set_cons_zero, List.set_cons_succ]
              refine wpHead_ready (rs := [5]) (by kernel_rfl) (by simp) (by kernel_rfl) ?_
              refine AllHead.cons (by rfl) (fun K hK => ?_) ?_
              · refine step_apB bytesT ho hs1.bs rfl rfl rfl rfl rfl (by first | omega | (simp; done) | (simp; omega)) hHeld.size ?_
                rintro v5 wr5 ho5 hg5 hor5
                try replace hs2 := hs2.app hg5 hor5
                have hxk := hHeld.own ho (Nat.le_refl _) hg5
                clear ho hg5 hor5 hs1
                have hl5 : (o1 ++ [2, UInt8.ofNat n]).length ≤ o1.length + 2 := by simp
                generalize he5 : o1 ++ [2, UInt8.ofNat n] = o5 at *
                have HE5 := Lib.hid he5
                clear he5
                obtain ⟨A7, c7, rfl⟩ := ho5.form
                have ho := ho5
                clear ho5
                refine hK.out _ _ ?_ (fun hHeld => ?_)
                · exact hxk
                clear hK K
                try simp only [List.getElem_toArray, List.getElem_cons_succ, List.getElem_cons_zero, Act.put, List.setIfInBounds_toArray, List.set_cons_zero, List.set_cons_succ]
                refine wpHead_ready (rs := [9]) (by kernel_rfl) (by simp) (by kernel_rfl) ?_
                refine AllHead.cons (by rfl) (fun K hK => ?_) ?_
                · refine step_apB bytesT ho (HF5.out.ext hHeld) rfl rfl rfl rfl (by first | omega | (simp; done) | (simp; omega)) (by first | omega | (simp; done) | (simp; omega)) hHeld.size ?_
                  rintro v9 wr9 ho9 hg9 hor9
                  try replace hs2 := hs2.app hg9 hor9
                  have hxk := hHeld.own ho (Nat.le_refl _) hg9
                  clear ho hg9 hor9
                  have hl9 : (o5 ++ rest.take n).length ≤ o5.length + 61 := by simp; omega
                  generalize he9 : o5 ++ rest.take n = o9 at *
                  have HE9 := Lib.hid he9
                  clear he9
                  obtain ⟨A8, c8, rfl⟩ := ho9.form
                  have ho := ho9
                  clear ho9
                  refine hK.out _ _ ?_ (fun hHeld => ?_)
                  · exact hxk
                  clear hK K
                  try simp only [List.getElem_toArray, List.getElem_cons_succ, List.getElem_cons_zero, Act.put, List.setIfInBounds_toArray, List.set_cons_zero, List.set_cons_succ]
                  refine wpHead_ready (rs := [11]) (by kernel_rfl) (by simp) (by kernel_rfl) ?_
                  refine AllHead.cons (by rfl) (fun K hK => ?_) ?_
                  · refine step_apB bytesT ho hs2.bs rfl rfl rfl rfl rfl (by first | omega | (simp; done) | (simp; omega)) hHeld.size ?_
                    rintro v11 wr11 ho11 hg11 hor11
                    have hxk := hHeld.own ho (Nat.le_refl _) hg11
                    clear ho hg11 hor11 hs2
                    have e2 : o9 ++ [231] = o2 := by rw [HLC.out, ← HE9.out, ← HE5.out]
                    rw [e2] at ho11
                    obtain ⟨A9, c9, rfl⟩ := ho11.form
                    refine hK.out _ _ ?_ (fun hHeld => ?_)
                    · exact hxk
                    clear hK K
                    try simp only [List.getElem_toArray, List.getElem_cons_succ, List.getElem_cons_zero, Act.put, List.setIfInBounds_toArray, List.set_cons_zero, List.set_cons_succ]
                    refine wpHead_done (by kernel_rfl) ?_
                    clear HLC HF5
                    go_wp2_with fail
                    go_roundw
                    case rel => exact ⟨f, false, o2, rest.drop n, A9, A6, c9, cr - n, rfl, (by first | (rw [HDL.out, Nat.sub_self]; done) | (rw [HDL.out]; done)), HF2, (by rw [HDL.out]; omega), (by rw [HDL.out]; simp; omega), (by rw [HDL.out]; omega), (by rw [HDL.out]; omega), (by rw [HDL.out]; omega), Lib.hid ho11, HF6, Lib.hid hHeld⟩
                    case measure => simp; omega
                  exact AllHead.nil
                exact AllHead.nil
              exact AllHead.nil
            exact AllHead.nil
          refine AllHead.cons (by rfl) (fun K hK => ?_) ?_
          · go_simp
            refine name_world ?_
            rintro wr10 hw10
            have hxn10 : Ext wr0 wr10 := hw10 ▸ (Ext.refl _).alloc _
            have hrow10 : wr10.heap[wr0.heap.size]? = some (.cells #[.int .u8 231] 5) := hw10 ▸ heap_alloc_new wr0 _
            have hs2 := Sd.new ho hrow10 (l := [231]) rfl
            replace ho := ho.ext hxn10
            try replace hs1 := hs1.ext hxn10
            clear hrow10
            have hxk := hHeld.trans hxn10
            refine hK.out _ _ ?_ (fun hHeld => ?_)
            · exact hxk
            clear hK K
            try simp only [List.getElem_toArray, List.getElem_cons_succ, List.getElem_cons_zero, Act.put, List.setIfInBounds_toArray, List.set_cons_zero, List.set_cons_succ]
            refine wpHead_ready (rs := [4]) (by kernel_rfl) (by simp) (by kernel_rfl) ?_
            refine AllHead.cons (by rfl) (fun K hK => ?_) ?_
            · go_simp
              refine name_world ?_
              rintro wr4 hw4
              have hxn4 : Ext wr10 wr4 := hw4 ▸ (Ext.refl _).alloc _
              have hrow4 : wr4.heap[wr10.heap.size]? = some (.cells #[.int .u8 2, .int .u8 ((UInt8.ofNat n).toNat : Int)] 5) := hw4 ▸ heap_alloc_new wr10 _
              have hs1 := Sd.new ho hrow4 (l := [2, UInt8.ofNat n]) rfl
              replace ho := ho.ext hxn4
              try replace hs2 := hs2.ext hxn4
              clear hrow4
              have hxk := hHeld.trans hxn4
              refine hK.out _ _ ?_ (fun hHeld => ?_)
              · exact hxk
              clear hK K
              try simp only [List.getElem_toArray, List.getElem_cons_succ, List.getElem_cons_zero, Act.put, List.setIfInBounds_toArray, List.set_cons_zero, List.set_cons_succ]
              refine wpHead_ready (rs := [5]) (by kernel_rfl) (by simp) (by kernel_rfl) ?_
              refine AllHead.cons (by rfl) (fun K hK => ?_) ?_
              · refine step_apB bytesT ho hs1.bs rfl rfl rfl rfl rfl (by first | omega | (simp; done) | (simp; omega)) hHeld.size ?_
                rintro v5 wr5 ho5 hg5 hor5
                try replace hs2 := hs2.app hg5 hor5
                have hxk := hHeld.own ho (Nat.le_refl _) hg5
                clear ho hg5 hor5 hs1
                have hl5 : (o1 ++ [2, UInt8.ofNat n]).length ≤ o1.length + 2 := by simp
                generalize he5 : o1 ++ [2, UInt8.ofNat n] = o5 at *
                have HE5 := Lib.hid he5
                clear he5
                obtain ⟨A7, c7, rfl⟩ := ho5.form
                have ho := ho5
                clear ho5
                refine hK.out _ _ ?_ (fun hHeld => ?_)
                · exact hxk
                clear hK K
                try simp only [List.getElem_toArray, List.getElem_cons_succ, List.getElem_cons_zero, Act.put, List.setIfInBounds_toArray, List.set_cons_zero, List.set_cons_succ]
                refine wpHead_ready (rs := [9]) (by kernel_rfl) (by simp) (by kernel_rfl) ?_
                refine AllHead.cons (by rfl) (fun K hK => ?_) ?_
                · refine step_apB bytesT ho (HF5.out.ext hHeld) rfl rfl rfl rfl (by first | omega | (simp; done) | (simp; omega)) (by first | omega | (simp; done) | (simp; omega)) hHeld.size ?_
                  rintro v9 wr9 ho9 hg9 hor9
                  try replace hs2 := hs2.app hg9 hor9
                  have hxk := hHeld.own ho (Nat.le_refl _) hg9
                  clear ho hg9 hor9
                  have hl9 : (o5 ++ rest.take n).length ≤ o5.length + 61 := by simp; omega
                  generalize he9 : o5 ++ rest.take n = o9 at *
                  have HE9 := Lib.hid he9
                  clear he9
                  obtain ⟨A8, c8, rfl⟩ := ho9.form
                  have ho := ho9
                  clear ho9
                  refine hK.out _ _ ?_ (fun hHeld => ?_)
                  · exact hxk
                  clear hK K
                  try simp only [List.getElem_toArray, List.getElem_cons_succ, List.getElem_cons_zero, Act.put, List.setIfInBounds_toArray, List.set_cons_zero, List.set_cons_succ]
                  refine wpHead_ready (rs := [11]) (by kernel_rfl) (by simp) (by kernel_rfl) ?_
                  refine AllHead.cons (by rfl) (fun K hK => ?_) ?_
                  · refine step_apB bytesT ho hs2.bs rfl rfl rfl rfl rfl (by first | omega | (simp; done) | (simp; omega)) hHeld.size ?_
                    rintro v11 wr11 ho11 hg11 hor11
                    have hxk := hHeld.own ho (Nat.le_refl _) hg11
                    clear ho hg11 hor11 hs2
                    have e2 : o9 ++ [231] = o2 := by rw [HLC.out, ← HE9.out, ← HE5.out]
                    rw [e2] at ho11
                    obtain ⟨A9, c9, rfl⟩ := ho11.form
                    refine hK.out _ _ ?_ (fun hHeld => ?_)
                    · exact hxk
                    clear hK K
                    try simp only [List.getElem_toArray, List.getElem_cons_succ, List.getElem_cons_zero, Act.put, List.setIfInBounds_toArray, List.set_cons_zero, List.set_cons_succ]
                    refine wpHead_done (by kernel_rfl) ?_
                    clear HLC HF5
                    go_wp2_with fail
                    go_roundw
                    case rel => exact ⟨f, false, o2, rest.drop n, A9, A6, c9, cr - n, rfl, (by first | (rw [HDL.out, Nat.sub_self]; done) | (rw [HDL.out]; done)), HF2, (by rw [HDL.out]; omega), (by rw [HDL.out]; simp; omega), (by rw [HDL.out]; omega), (by rw [HDL.out]; omega), (by rw [HDL.out]; omega), Lib.hid ho11, HF6, Lib.hid hHeld⟩
                    case measure => simp; omega
                  exact AllHead.nil
                exact AllHead.nil
              exact AllHead.nil
            exact AllHead.nil
          exact AllHead.nil
      · have hsb : ((rest.length : Int) == (r.length : Int)) = false := beq_eq_false_iff_ne.2 (by omega)
        obtain rfl : b = false := by rw [hbb]; simp [hr0]
        clear hbb
        by_cases hn : n = rest.length
        · subst hn
          replace HLC : Hid (o2 = o1 ++ [4, UInt8.ofNat rest.length] ++ rest.take rest.length ++ [231]) := Lib.hid (by rw [HLC.out]; simp [kindF])
          go_wp2_with fail
          refine wp_region_phase (S := fun w' => Ext w w') 12 (by kernel_rfl) (by kernel_rfl) ?_ (fun hHeld => ?_)
          · exact HX3.out.drew
          simp only [List.drop_succ_cons, List.drop_zero]
          refine name_head ?_
          intro wr0 hw0
          rw [hw0] at hHeld
          have ho : Own wr0 w.heap.size (.slice A3 o1.length c3) o1 := hw0 ▸ HO3.out.drew
          refine wpHead_take (i := 0) (v := ?_) (by rfl) (by kernel_rfl) (by kernel_rfl) (by exact fun _ _ _ h => h) (Or.inl ⟨by rfl, ?_⟩) (by assumption) ?_
          rotate_left
          · intro w hSw
            first | (go_simp; done) | (go_simp; with_reducible rfl)
          simp only [List.getElem_toArray, List.getElem_cons_zero, Act.put, List.setIfInBounds_toArray, List.set_cons_zero, List.set_cons_succ]
          refine wpHead_take (i := 1) (v := ?_) (by rfl) (by kernel_rfl) (by kernel_rfl) (by exact fun _ _ _ h => h) (Or.inl ⟨by rfl, ?_⟩) (by assumption) ?_
          rotate_left
          · intro w hSw
            first | (go_simp; done) | (go_simp; with_reducible rfl)
          simp only [List.getElem_toArray, List.getElem_cons_succ, List.getElem_cons_zero, Act.put, List.setIfInBounds_toArray, List.set_cons_zero, List.set_cons_succ]
          refine wpHead_take (i := 2) (v := ?_) (by rfl) (by kernel_rfl) (by kernel_rfl) (by exact fun _ _ _ h => h) (Or.inl ⟨by rfl, ?_⟩) (by assumption) ?_
          rotate_left
          · intro w hSw
            first | (go_simp; done) | (go_simp; with_reducible rfl)
          simp only [List.getElem_toArray, List.getElem_cons_succ, List.getElem_cons_zero, Act.put, List.setIfInBounds_toArray, List.set_cons_zero, List.set_cons_succ]
          refine wpHead_take (i := 3) (v := ?_) (by rfl) (by kernel_rfl) (by kernel_rfl) (by exact fun _ _ _ h => h) (Or.inl ⟨by rfl, ?_⟩) (by assumption) ?_
          rotate_left
          · intro w hSw
            first | (go_simp; done) | (go_simp; with_reducible rfl)
          simp only [List.getElem_toArray, List.getElem_cons_succ, List.getElem_cons_zero, Act.put, List.setIfInBounds_toArray, List.set_cons_zero, List.set_cons_succ]
          refine wpHead_take (i := 6) (v := ?_) (by rfl) (by kernel_rfl) (by kernel_rfl) (by exact fun _ _ _ h => h) (Or.inl ⟨by rfl, ?_⟩) (by assumption) ?_
          rotate_left
          · intro w hSw
            first | (go_simp; done) | (go_simp; with_reducible rfl)
          simp only [List.getElem_toArray, List.getElem_cons_succ, List.getElem_cons_zero, Act.put, List.setIfInBounds_toArray, List.set_cons_zero, List.set_cons_succ]
          refine wpHead_take (i := 7) (v := ?_) (by rfl) (by kernel_rfl) (by kernel_rfl) (by exact fun _ _ _ h => h) (Or.inl ⟨by rfl, ?_⟩) (by assumption) ?_
          rotate_left
          · intro w hSw
            first | (go_simp; done) | (go_simp; with_reducible rfl)
          simp only [List.getElem_toArray, List.getElem_cons_succ, List.getElem_cons_zero, Act.put, List.setIfInBounds_toArray, List.set_cons_zero, List.set_cons_succ]
          refine wpHead_take (i := 8) (v := ?_) (by rfl) (by kernel_rfl) (by kernel_rfl) (by exact fun _ _ _ h => h) (Or.inl ⟨by rfl, ?_⟩) (by assumption) ?_
          rotate_left
          · intro w hSw
            first | (go_simp; done) | (go_simp; with_reducible rfl)
          simp only [List.getElem_toArray, List.getElem_cons_succ, List.getElem_cons_zero, Act.put, List.setIfInBounds_toArray, List.set_cons_zero, List.set_cons_succ]
          refine wpHead_ready (rs := [4, 10]) (by kernel_rfl) (by simp) (by kernel_rfl) ?_
          refine AllHead.cons (by rfl) (fun K hK => ?_) ?_
          · go_simp
            refine name_world ?_
            rintro wr4 hw4
            have hxn4 : Ext wr0 wr4 := hw4 ▸ (Ext.refl _).alloc _
            have hrow4 : wr4.heap[wr0.heap.size]? = some (.cells #[.int .u8 4, .int .u8 ((UInt8.ofNat rest.length).toNat : Int)] 5) := hw4 ▸ heap_alloc_new wr0 _
            have hs1 := Sd.new ho hrow4 (l := [4, UInt8.ofNat rest.length]) rfl
            replace ho := ho.ext hxn4
            try replace hs2 := hs2.ext hxn4
            clear hrow4
            have hxk := hHeld.trans hxn4
            refine hK.out _ _ ?_ (fun hHeld => ?_)
            · exact hxk
            clear hK K
            try simp only [List.getElem_toArray, List.getElem_cons_succ, List.getElem_cons_zero, Act.put, List.setIfInBounds_toArray, List.set_cons_zero, List.set_cons_succ]
            refine wpHead_ready (rs := [5, 10]) (by kernel_rfl) (by simp) (by kernel_rfl) ?_
            refine AllHead.cons (by rfl) (fun K hK => ?_) ?_
            · refine step_apB bytesT ho hs1.bs rfl rfl rfl rfl rfl (by first | omega | (simp; done) | (simp; omega)) hHeld.size ?_
              rintro v5 wr5 ho5 hg5 hor5
              try replace hs2 := hs2.app hg5 hor5
              have hxk := hHeld.own ho (Nat.le_refl _) hg5
              clear ho hg5 hor5 hs1
              have hl5 : (o1 ++ [4, UInt8.ofNat rest.length]).length ≤ o1.length + 2 := by simp
              generalize he5 : o1 ++ [4, UInt8.ofNat rest.length] = o5 at *
              have HE5 := Lib.hid he5
              clear he5
              obtain ⟨A7, c7, rfl⟩ := ho5.form
              have ho := ho5
              clear ho5
              refine hK.out _ _ ?_ (fun hHeld => ?_)
              · exact hxk
              clear hK K
              try simp only [List.getElem_toArray, List.getElem_cons_succ, List.getElem_cons_zero, Act.put, List.setIfInBounds_toArray, List.set_cons_zero, List.set_cons_succ]
              refine wpHead_ready (rs := [9, 10]) (by kernel_rfl) (by simp) (by kernel_rfl) ?_
              refine AllHead.cons (by rfl) (fun K hK => ?_) ?_
              · refine step_apB bytesT ho (HF5.out.ext hHeld) rfl rfl rfl rfl (by first | omega | (simp; done) | (simp; omega)) (by first | omega | (simp; done) | (simp; omega)) hHeld.size ?_
                rintro v9 wr9 ho9 hg9 hor9
                try replace hs2 := hs2.app hg9 hor9
                have hxk := hHeld.own ho (Nat.le_refl _) hg9
                clear ho hg9 hor9
                have hl9 : (o5 ++ rest.take rest.length).length ≤ o5.length + 61 := by simp; omega
                generalize he9 : o5 ++ rest.take rest.length = o9 at *
                have HE9 := Lib.hid he9
                clear he9
                obtain ⟨A8, c8, rfl⟩ := ho9.form
                have ho := ho9
                clear ho9
                refine hK.out _ _ ?_ (fun hHeld => ?_)
                · exact hxk
                clear hK K
                try simp only [List.getElem_toArray, List.getElem_cons_succ, List.getElem_cons_zero, Act.put, List.setIfInBounds_toArray, List.set_cons_zero, List.set_cons_succ]
                refine wpHead_ready (rs := [10]) (by kernel_rfl) (by simp) (by kernel_rfl) ?_
                refine AllHead.cons (by rfl) (fun K hK => ?_) ?_
                · go_simp
                  refine name_world ?_
                  rintro wr10 hw10
                  have hxn10 : Ext wr9 wr10 := hw10 ▸ (Ext.refl _).alloc _
                  have hrow10 : wr10.heap[wr9.heap.size]? = some (.cells #[.int .u8 231] 5) := hw10 ▸ heap_alloc_new wr9 _
                  have hs2 := Sd.new ho hrow10 (l := [231]) rfl
                  replace ho := ho.ext hxn10
                  try replace hs1 := hs1.ext hxn10
                  clear hrow10
                  have hxk := hHeld.trans hxn10
                  refine hK.out _ _ ?_ (fun hHeld => ?_)
                  · exact hxk
                  clear hK K
                  try simp only [List.getElem_toArray, List.getElem_cons_succ, List.getElem_cons_zero, Act.put, List.setIfInBounds_toArray, List.set_cons_zero, List.set_cons_succ]
                  refine wpHead_ready (rs := [11]) (by kernel_rfl) (by simp) (by kernel_rfl) ?_
                  refine AllHead.cons (by rfl) (fun K hK => ?_) ?_
                  · refine step_apB bytesT ho hs2.bs rfl rfl rfl rfl rfl (by first | omega | (simp; done) | (simp; omega)) hHeld.size ?_
                    rintro v11 wr11 ho11 hg11 hor11
                    have hxk := hHeld.own ho (Nat.le_refl _) hg11
                    clear ho hg11 hor11 hs2
                    have e2 : o9 ++ [231] = o2 := by rw [HLC.out, ← HE9.out, ← HE5.out]
                    rw [e2] at ho11
                    obtain ⟨A9, c9, rfl⟩ := ho11.form
                    refine hK.out _ _ ?_ (fun hHeld => ?_)
                    · exact hxk
                    clear hK K
                    try simp only [List.getElem_toArray, List.getElem_cons_succ, List.getElem_cons_zero, Act.put, List.setIfInBounds_toArray, List.set_cons_zero, List.set_cons_succ]
                    refine wpHead_done (by kernel_rfl) ?_
                    clear HLC HF5
                    go_wp2_with fail
                    go_roundw
                    case rel => exact ⟨f, false, o2, rest.drop rest.length, A9, A6, c9, cr - rest.length, rfl, (by first | (rw [HDL.out, Nat.sub_self]; done) | (rw [HDL.out]; done)), HF2, (by rw [HDL.out]; omega), (by rw [HDL.out]; simp; omega), (by rw [HDL.out]; omega), (by rw [HDL.out]; omega), (by rw [HDL.out]; omega), Lib.hid ho11, HF6, Lib.hid hHeld⟩
                    case measure => simp; omega
                  exact AllHead.nil
                exact AllHead.nil
              refine AllHead.cons (by rfl) (fun K hK => ?_) ?_
              · go_simp
                refine name_world ?_
                rintro wr10 hw10
                have hxn10 : Ext wr5 wr10 := hw10 ▸ (Ext.refl _).alloc _
                have hrow10 : wr10.heap[wr5.heap.size]? = some (.cells #[.int .u8 231] 5) := hw10 ▸ heap_alloc_new wr5 _
                have hs2 := Sd.new ho hrow10 (l := [231]) rfl
                replace ho := ho.ext hxn10
                try replace hs1 := hs1.ext hxn10
                clear hrow10
                have hxk := hHeld.trans hxn10
                refine hK.out _ _ ?_ (fun hHeld => ?_)
                · exact hxk
                clear hK K
                try simp only [List.getElem_toArray, List.getElem_cons_succ, List.getElem_cons_zero, Act.put, List.setIfInBounds_toArray, List.set_cons_zero, List.set_cons_succ]
                refine wpHead_ready (rs := [9]) (by kernel_rfl) (by simp) (by kernel_rfl) ?_
                refine AllHead.cons (by rfl) (fun K hK => ?_) ?_
                · refine step_apB bytesT ho (HF5.out.ext hHeld) rfl rfl rfl rfl (by first | omega | (simp; done) | (simp; omega)) (by first | omega | (simp; done) | (simp; omega)) hHeld.size ?_
                  rintro v9 wr9 ho9 hg9 hor9
                  try replace hs2 := hs2.app hg9 hor9
                  have hxk := hHeld.own ho (Nat.le_refl _) hg9
                  clear ho hg9 hor9
                  have hl9 : (o5 ++ rest.take rest.length).length ≤ o5.length + 61 := by simp; omega
                  generalize he9 : o5 ++ rest.take rest.length = o9 at *
                  have HE9 := Lib.hid he9
                  clear he9
                  obtain ⟨A8, c8, rfl⟩ := ho9.form
                  have ho := ho9
                  clear ho9
                  refine hK.out _ _ ?_ (fun hHeld => ?_)
                  · exact hxk
                  clear hK K
                  try simp only [List.getElem_toArray, List.getElem_cons_succ, List.getElem_cons_zero, Act.put, List.setIfInBounds_toArray, List.set_cons_zero, List.set_cons_succ]
                  refine wpHead_ready (rs := [11]) (by kernel_rfl) (by simp) (by kernel_rfl) ?_
                  refine AllHead.cons (by rfl) (fun K hK => ?_) ?_
                  · refine step_apB bytesT ho hs2.bs rfl rfl rfl rfl rfl (by first | omega | (simp; done) | (simp; omega)) hHeld.size ?_
                    rintro v11 wr11 ho11 hg11 hor11
                    have hxk := hHeld.own ho (Nat.le_refl _) hg11
                    clear ho hg11 hor11 hs2
                    have e2 : o9 ++ [231] = o2 := by rw [HLC.out, ← HE9.out, ← HE5.out]
                    rw [e2] at ho11
                    obtain ⟨A9, c9, rfl⟩ := ho11.form
                    refine hK.out _ _ ?_ (fun hHeld => ?_)
                    · exact hxk
                    clear hK K
                    try simp only [List.getElem_toArray, List.getElem_cons_succ, List.getElem_cons_zero, Act.put, List.setIfInBounds_toArray, List.set_cons_zero, List.set_cons_succ]
                    refine wpHead_done (by kernel_rfl) ?_
                    clear HLC HF5
                    go_wp2_with fail
                    go_roundw
                    case rel => exact ⟨f, false, o2, rest.drop rest.length, A9, A6, c9, cr - rest.length, rfl, (by first | (rw [HDL.out, Nat.sub_self]; done) | (rw [HDL.out]; done)), HF2, (by rw [HDL.out]; omega), (by rw [HDL.out]; simp; omega), (by rw [HDL.out]; omega), (by rw [HDL.out]; omega), (by rw [HDL.out]; omega), Lib.hid ho11, HF6, Lib.hid hHeld⟩
                    case measure => simp; omega
                  exact AllHead.nil
                exact AllHead.nil
              exact AllHead.nil
            refine AllHead.cons (by rfl) (fun K hK => ?_) ?_
            · go_simp
              refine name_world ?_
              rintro wr10 hw10
              have hxn10 : Ext wr4 wr10 := hw10 ▸ (Ext.refl _).alloc _
              have hrow10 : wr10.heap[wr4.heap.size]? = some (.cells #[.int .u8 231] 5) := hw10 ▸ heap_alloc_new wr4 _
              have hs2 := Sd.new ho hrow10 (l := [231]) rfl
              replace ho := ho.ext hxn10
              try replace hs1 := hs1.ext hxn10
              clear hrow10
              have hxk := hHeld.trans hxn10
              refine hK.out _ _ ?_ (fun hHeld => ?_)
              · exact hxk
              clear hK K
              try simp only [List.getElem_toArray, List.getElem_cons_succ, List.getElem_cons_zero, Act.put, List.setIfInBounds_toArray, List.set_cons_zero, List.set_cons_succ]
              refine wpHead_ready (rs := [5]) (by kernel_rfl) (by simp) (by kernel_rfl) ?_
              refine AllHead.cons (by rfl) (fun K hK => ?_) ?_
              · refine step_apB bytesT ho hs1.bs rfl rfl rfl rfl rfl (by first | omega | (simp; done) | (simp; omega)) hHeld.size ?_
                rintro v5 wr5 ho5 hg5 hor5
                try replace hs2 := hs2.app hg5 hor5
                have hxk := hHeld.own ho (Nat.le_refl _) hg5
                clear ho hg5 hor5 hs1
                have hl5 : (o1 ++ [4, UInt8.ofNat rest.length]).length ≤ o1.length + 2 := by simp
                generalize he5 : o1 ++ [4, UInt8.ofNat rest.length] = o5 at *
                have HE5 := Lib.hid he5
                clear he5
                obtain ⟨A7, c7, rfl⟩ := ho5.form
                have ho := ho5
                clear ho5
                refine hK.out _ _ ?_ (fun hHeld => ?_)
                · exact hxk
                clear hK K
                try simp only [List.getElem_toArray, List.getElem_cons_succ, List.getElem_cons_zero, Act.put, List.setIfInBounds_toArray, List.set_cons_zero, List.set_cons_succ]
                refine wpHead_ready (rs := [9]) (by kernel_rfl) (by simp) (by kernel_rfl) ?_
                refine AllHead.cons (by rfl) (fun K hK => ?_) ?_
                · refine step_apB bytesT ho (HF5.out.ext hHeld) rfl rfl rfl rfl (by first | omega | (simp; done) | (simp; omega)) (by first | omega | (simp; done) | (simp; omega)) hHeld.size ?_
                  rintro v9 wr9 ho9 hg9 hor9
                  try replace hs2 := hs2.app hg9 hor9
                  have hxk := hHeld.own ho (Nat.le_refl _) hg9
                  clear ho hg9 hor9
                  have hl9 : (o5 ++ rest.take rest.length).length ≤ o5.length + 61 := by simp; omega
                  generalize he9 : o5 ++ rest.take rest.length = o9 at *
                  have HE9 := Lib.hid he9
                  clear he9
                  obtain ⟨A8, c8, rfl⟩ := ho9.form
                  have ho := ho9
                  clear ho9
                  refine hK.out _ _ ?_ (fun hHeld => ?_)
                  · exact hxk
                  clear hK K
                  try simp only [List.getElem_toArray, List.getElem_cons_succ, List.getElem_cons_zero, Act.put, List.setIfInBounds_toArray, List.set_cons_zero, List.set_cons_succ]
                  refine wpHead_ready (rs := [11]) (by kernel_rfl) (by simp) (by kernel_rfl) ?_
                  refine AllHead.cons (by rfl) (fun K hK => ?_) ?_
                  · refine step_apB bytesT ho hs2.bs rfl rfl rfl rfl rfl (by first | omega | (simp; done) | (simp; omega)) hHeld.size ?_
                    rintro v11 wr11 ho11 hg11 hor11
                    have hxk := hHeld.own ho (Nat.le_refl _) hg11
                    clear ho hg11 hor11 hs2
                    have e2 : o9 ++ [231] = o2 := by rw [HLC.out, ← HE9.out, ← HE5.out]
                    rw [e2] at ho11
                    obtain ⟨A9, c9, rfl⟩ := ho11.form
                    refine hK.out _ _ ?_ (fun hHeld => ?_)
                    · exact hxk
                    clear hK K
                    try simp only [List.getElem_toArray, List.getElem_cons_succ, List.getElem_cons_zero, Act.put, List.setIfInBounds_toArray, List.set_cons_zero, List.set_cons_succ]
                    refine wpHead_done (by kernel_rfl) ?_
                    clear HLC HF5
                    go_wp2_with fail
                    go_roundw
                    case rel => exact ⟨f, false, o2, rest.drop rest.length, A9, A6, c9, cr - rest.length, rfl, (by first | (rw [HDL.out, Nat.sub_self]; done) | (rw [HDL.out]; done)), HF2, (by rw [HDL.out]; omega), (by rw [HDL.out]; simp; omega), (by rw [HDL.out]; omega), (by rw [HDL.out]; omega), (by rw [HDL.out]; omega), Lib.hid ho11, HF6, Lib.hid hHeld⟩
                    case measure => simp; omega
                  exact AllHead.nil
                exact AllHead.nil
              exact AllHead.nil
            exact AllHead.nil
          refine AllHead.cons (by rfl) (fun K hK => ?_) ?_
          · go_simp
            refine name_world ?_
            rintro wr10 hw10
            have hxn10 : Ext wr0 wr10 := hw10 ▸ (Ext.refl _).alloc _
            have hrow10 : wr10.heap[wr0.heap.size]? = some (.cells #[.int .u8 231] 5) := hw10 ▸ heap_alloc_new wr0 _
            have hs2 := Sd.new ho hrow10 (l := [231]) rfl
            replace ho := ho.ext hxn10
            try replace hs1 := hs1.ext hxn10
            clear hrow10
            have hxk := hHeld.trans hxn10
            refine hK.out _ _ ?_ (fun hHeld => ?_)
            · exact hxk
            clear hK K
            try simp only [List.getElem_toArray, List.getElem_cons_succ, List.getElem_cons_zero, Act.put, List.setIfInBounds_toArray, List.set_cons_zero, List.set_cons_succ]
            refine wpHead_ready (rs := [4]) (by kernel_rfl) (by simp) (by kernel_rfl) ?_
            refine AllHead.cons (by rfl) (fun K hK => ?_) ?_
            · go_simp
              refine name_world ?_
              rintro wr4 hw4
              have hxn4 : Ext wr10 wr4 := hw4 ▸ (Ext.refl _).alloc _
              have hrow4 : wr4.heap[wr10.heap.size]? = some (.cells #[.int .u8 4, .int .u8 ((UInt8.ofNat rest.length).toNat : Int)] 5) := hw4 ▸ heap_alloc_new wr10 _
              have hs1 := Sd.new ho hrow4 (l := [4, UInt8.ofNat rest.length]) rfl
              replace ho := ho.ext hxn4
              try replace hs2 := hs2.ext hxn4
              clear hrow4
              have hxk := hHeld.trans hxn4
              refine hK.out _ _ ?_ (fun hHeld => ?_)
              · exact hxk
              clear hK K
              try simp only [List.getElem_toArray, List.getElem_cons_succ, List.getElem_cons_zero, Act.put, List.setIfInBounds_toArray, List.set_cons_zero, List.set_cons_succ]
              refine wpHead_ready (rs := [5]) (by kernel_rfl) (by simp) (by kernel_rfl) ?_
              refine AllHead.cons (by rfl) (fun K hK => ?_) ?_
              · refine step_apB bytesT ho hs1.bs rfl rfl rfl rfl rfl (by first | omega | (simp; done) | (simp; omega)) hHeld.size ?_
                rintro v5 wr5 ho5 hg5 hor5
                try replace hs2 := hs2.app hg5 hor5
                have hxk := hHeld.own ho (Nat.le_refl _) hg5
                clear ho hg5 hor5 hs1
                have hl5 : (o1 ++ [4, UInt8.ofNat rest.length]).length ≤ o1.length + 2 := by simp
                generalize he5 : o1 ++ [4, UInt8.ofNat rest.length] = o5 at *
                have HE5 := Lib.hid he5
                clear he5
                obtain ⟨A7, c7, rfl⟩ := ho5.form
                have ho := ho5
                clear ho5
                refine hK.out _ _ ?_ (fun hHeld => ?_)
                · exact hxk
                clear hK K
                try simp only [List.getElem_toArray, List.getElem_cons_succ, List.getElem_cons_zero, Act.put, List.setIfInBounds_toArray, List.set_cons_zero, List.set_cons_succ]
                refine wpHead_ready (rs := [9]) (by kernel_rfl) (by simp) (by kernel_rfl) ?_
                refine AllHead.cons (by rfl) (fun K hK => ?_) ?_
                · refine step_apB bytesT ho (HF5.out.ext hHeld) rfl rfl rfl rfl (by first | omega | (simp; done) | (simp; omega)) (by first | omega | (simp; done) | (simp; omega)) hHeld.size ?_
                  rintro v9 wr9 ho9 hg9 hor9
                  try replace hs2 := hs2.app hg9 hor9
                  have hxk := hHeld.own ho (Nat.le_refl _) hg9
                  clear ho hg9 hor9
                  have hl9 : (o5 ++ rest.take rest.length).length ≤ o5.length + 61 := by simp; omega
                  generalize he9 : o5 ++ rest.take rest.length = o9 at *
                  have HE9 := Lib.hid he9
                  clear he9
                  obtain ⟨A8, c8, rfl⟩ := ho9.form
                  have ho := ho9
                  clear ho9
                  refine hK.out _ _ ?_ (fun hHeld => ?_)
                  · exact hxk
                  clear hK K
                  try simp only [List.getElem_toArray, List.getElem_cons_succ, List.getElem_cons_zero, Act.put, List.setIfInBounds_toArray, List.set_cons_zero, List.set_cons_succ]
                  refine wpHead_ready (rs := [11]) (by kernel_rfl) (by simp) (by kernel_rfl) ?_
                  refine AllHead.cons (by rfl) (fun K hK => ?_) ?_
                  · refine step_apB bytesT ho hs2.bs rfl rfl rfl rfl rfl (by first | omega | (simp; done) | (simp; omega)) hHeld.size ?_
                    rintro v11 wr11 ho11 hg11 hor11
                    have hxk := hHeld.own ho (Nat.le_refl _) hg11
                    clear ho hg11 hor11 hs2
                    have e2 : o9 ++ [231] = o2 := by rw [HLC.out, ← HE9.out, ← HE5.out]
                    rw [e2] at ho11
                    obtain ⟨A9, c9, rfl⟩ := ho11.form
                    refine hK.out _ _ ?_ (fun hHeld => ?_)
                    · exact hxk
                    clear hK K
                    try simp only [List.getElem_toArray, List.getElem_cons_succ, List.getElem_cons_zero, Act.put, List.setIfInBounds_toArray, List.set_cons_zero, List.set_cons_succ]
                    refine wpHead_done (by kernel_rfl) ?_
                    clear HLC HF5
                    go_wp2_with fail
                    go_roundw
                    case rel => exact ⟨f, false, o2, rest.drop rest.length, A9, A6, c9, cr - rest.length, rfl, (by first | (rw [HDL.out, Nat.sub_self]; done) | (rw [HDL.out]; done)), HF2, (by rw [HDL.out]; omega), (by rw [HDL.out]; simp; omega), (by rw [HDL.out]; omega), (by rw [HDL.out]; omega), (by rw [HDL.out]; omega), Lib.hid ho11, HF6, Lib.hid hHeld⟩
                    case measure => simp; omega
                  exact AllHead.nil
                exact AllHead.nil
              exact AllHead.nil
            exact AllHead.nil
          exact AllHead.nil
        · have hne : ((n : Int) == (rest.length : Int)) = false := beq_eq_false_iff_ne.2 (by omega)
          replace HLC : Hid (o2 = o1 ++ [3, UInt8.ofNat n] ++ rest.take n ++ [231]) := Lib.hid (by rw [HLC.out]; simp [kindF, hn])
          clear hn
          go_wp2_with fail
          refine wp_region_phase (S := fun w' => Ext w w') 12 (by kernel_rfl) (by kernel_rfl) ?_ (fun hHeld => ?_)
          · exact HX3.out.drew
          simp only [List.drop_succ_cons, List.drop_zero]
          refine name_head ?_
          intro wr0 hw0
          rw [hw0] at hHeld
          have ho : Own wr0 w.heap.size (.slice A3 o1.length c3) o1 := hw0 ▸ HO3.out.drew
          refine wpHead_take (i := 0) (v := ?_) (by rfl) (by kernel_rfl) (by kernel_rfl) (by exact fun _ _ _ h => h) (Or.inl ⟨by rfl, ?_⟩) (by assumption) ?_
          rotate_left
          · intro w hSw
            first | (go_simp; done) | (go_simp; with_reducible rfl)
          simp only [List.getElem_toArray, List.getElem_cons_zero, Act.put, List.setIfInBounds_toArray, List.set_cons_zero, List.set_cons_succ]
          refine wpHead_take (i := 1) (v := ?_) (by rfl) (by kernel_rfl) (by kernel_rfl) (by exact fun _ _ _ h => h) (Or.inl ⟨by rfl, ?_⟩) (by assumption) ?_
          rotate_left
          · intro w hSw
            first | (go_simp; done) | (go_simp; with_reducible rfl)
          simp only [List.getElem_toArray, List.getElem_cons_succ, List.getElem_cons_zero, Act.put, List.setIfInBounds_toArray, List.set_cons_zero, List.set_cons_succ]
          refine wpHead_take (i := 2) (v := ?_) (by rfl) (by kernel_rfl) (by kernel_rfl) (by exact fun _ _ _ h => h) (Or.inl ⟨by rfl, ?_⟩) (by assumption) ?_
          rotate_left
          · intro w hSw
            first | (go_simp; done) | (go_simp; with_reducible rfl)
          simp only [List.getElem_toArray, List.getElem_cons_succ, List.getElem_cons_zero, Act.put, List.setIfInBounds_toArray, List.set_cons_zero, List.set_cons_succ]
          refine wpHead_take (i := 3) (v := ?_) (by rfl) (by kernel_rfl) (by kernel_rfl) (by exact fun _ _ _ h => h) (Or.inl ⟨by rfl, ?_⟩) (by assumption) ?_
          rotate_left
          · intro w hSw
            first | (go_simp; done) | (go_simp; with_reducible rfl)
          simp only [List.getElem_toArray, List.getElem_cons_succ, List.getElem_cons_zero, Act.put, List.setIfInBounds_toArray, List.set_cons_zero, List.set_cons_succ]
          refine wpHead_take (i := 6) (v := ?_) (by rfl) (by kernel_rfl) (by kernel_rfl) (by exact fun _ _ _ h => h) (Or.inl ⟨by rfl, ?_⟩) (by assumption) ?_
          rotate_left
          · intro w hSw
            first | (go_simp; done) | (go_simp; with_reducible rfl)
          simp only [List.getElem_toArray, List.getElem_cons_succ, List.getElem_cons_zero, Act.put, List.setIfInBounds_toArray, List.set_cons_zero, List.set_cons_succ]
          refine wpHead_take (i := 7) (v := ?_) (by rfl) (by kernel_rfl) (by kernel_rfl) (by exact fun _ _ _ h => h) (Or.inl ⟨by rfl, ?_⟩) (by assumption) ?_
          rotate_left
          · intro w hSw
            first | (go_simp; done) | (go_simp; with_reducible rfl)
          simp only [List.getElem_toArray, List.getElem_cons_succ, List.getElem_cons_zero, Act.put, List.setIfInBounds_toArray, List.set_cons_zero, List.set_cons_succ]
          refine wpHead_take (i := 8) (v := ?_) (by rfl) (by kernel_rfl) (by kernel_rfl) (by exact fun _ _ _ h => h) (Or.inl ⟨by rfl, ?_⟩) (by assumption) ?_
          rotate_left
          · intro w hSw
            first | (go_simp; done) | (go_simp; with_reducible rfl)
          simp only [List.getElem_toArray, List.getElem_cons_succ, List.getElem_cons_zero, Act.put, List.setIfInBounds_toArray, List.set_cons_zero, List.set_cons_succ]
          refine wpHead_ready (rs := [4, 10]) (by kernel_rfl) (by simp) (by kernel_rfl) ?_
          refine AllHead.cons (by rfl) (fun K hK => ?_) ?_
          · go_simp
            refine name_world ?_
            rintro wr4 hw4
            have hxn4 : Ext wr0 wr4 := hw4 ▸ (Ext.refl _).alloc _
            have hrow4 : wr4.heap[wr0.heap.size]? = some (.cells #[.int .u8 3, .int .u8 ((UInt8.ofNat n).toNat : Int)] 5) := hw4 ▸ heap_alloc_new wr0 _
            have hs1 := Sd.new ho hrow4 (l := [3, UInt8.ofNat n]) rfl
            replace ho := ho.ext hxn4
            try replace hs2 := hs2.ext hxn4
            clear hrow4
            have hxk := hHeld.trans hxn4
            refine hK.out _ _ ?_ (fun hHeld => ?_)
            · exact hxk
            clear hK K
            try simp only [List.getElem_toArray, List.getElem_cons_succ, List.getElem_cons_zero, Act.put, List.setIfInBounds_toArray, List.set_cons_zero, List.set_cons_succ]
            refine wpHead_ready (rs := [5, 10]) (by kernel_rfl) (by simp) (by kernel_rfl) ?_
            refine AllHead.cons (by rfl) (fun K hK => ?_) ?_
            · refine step_apB bytesT ho hs1.bs rfl rfl rfl rfl rfl (by first | omega | (simp; done) | (simp; omega)) hHeld.size ?_
              rintro v5 wr5 ho5 hg5 hor5
              try replace hs2 := hs2.app hg5 hor5
              have hxk := hHeld.own ho (Nat.le_refl _) hg5
              clear ho hg5 hor5 hs1
              have hl5 : (o1 ++ [3, UInt8.ofNat n]).length ≤ o1.length + 2 := by simp
              generalize he5 : o1 ++ [3, UInt8.ofNat n] = o5 at *
              have HE5 := Lib.hid he5
              clear he5
              obtain ⟨A7, c7, rfl⟩ := ho5.form
              have ho := ho5
              clear ho5
              refine hK.out _ _ ?_ (fun hHeld => ?_)
              · exact hxk
              clear hK K
              try simp only [List.getElem_toArray, List.getElem_cons_succ, List.getElem_cons_zero, Act.put, List.setIfInBounds_toArray, List.set_cons_zero, List.set_cons_succ]
              refine wpHead_ready (rs := [9, 10]) (by kernel_rfl) (by simp) (by kernel_rfl) ?_
              refine AllHead.cons (by rfl) (fun K hK => ?_) ?_
              · refine step_apB bytesT ho (HF5.out.ext hHeld) rfl rfl rfl rfl (by first | omega | (simp; done) | (simp; omega)) (by first | omega | (simp; done) | (simp; omega)) hHeld.size ?_
                rintro v9 wr9 ho9 hg9 hor9
                try replace hs2 := hs2.app hg9 hor9
                have hxk := hHeld.own ho (Nat.le_refl _) hg9
                clear ho hg9 hor9
                have hl9 : (o5 ++ rest.take n).length ≤ o5.length + 61 := by simp; omega
                generalize he9 : o5 ++ rest.take n = o9 at *
                have HE9 := Lib.hid he9
                clear he9
                obtain ⟨A8, c8, rfl⟩ := ho9.form
                have ho := ho9
                clear ho9
                refine hK.out _ _ ?_ (fun hHeld => ?_)
                · exact hxk
                clear hK K
                try simp only [List.getElem_toArray, List.getElem_cons_succ, List.getElem_cons_zero, Act.put, List.setIfInBounds_toArray, List.set_cons_zero, List.set_cons_succ]
                refine wpHead_ready (rs := [10]) (by kernel_rfl) (by simp) (by kernel_rfl) ?_
                refine AllHead.cons (by rfl) (fun K hK => ?_) ?_
                · go_simp
                  refine name_world ?_
                  rintro wr10 hw10
                  have hxn10 : Ext wr9 wr10 := hw10 ▸ (Ext.refl _).alloc _
                  have hrow10 : wr10.heap[wr9.heap.size]? = some (.cells #[.int .u8 231] 5) := hw10 ▸ heap_alloc_new wr9 _
                  have hs2 := Sd.new ho hrow10 (l := [231]) rfl
                  replace ho := ho.ext hxn10
                  try replace hs1 := hs1.ext hxn10
                  clear hrow10
                  have hxk := hHeld.trans hxn10
                  refine hK.out _ _ ?_ (fun hHeld => ?_)
                  · exact hxk
                  clear hK K
                  try simp only [List.getElem_toArray, List.getElem_cons_succ, List.getElem_cons_zero, Act.put, List.setIfInBounds_toArray, List.set_cons_zero, List.set_cons_succ]
                  refine wpHead_ready (rs := [11]) (by kernel_rfl) (by simp) (by kernel_rfl) ?_
                  refine AllHead.cons (by rfl) (fun K hK => ?_) ?_
                  · refine step_apB bytesT ho hs2.bs rfl rfl rfl rfl rfl (by first | omega | (simp; done) | (simp; omega)) hHeld.size ?_
                    rintro v11 wr11 ho11 hg11 hor11
                    have hxk := hHeld.own ho (Nat.le_refl _) hg11
                    clear ho hg11 hor11 hs2
                    have e2 : o9 ++ [231] = o2 := by rw [HLC.out, ← HE9.out, ← HE5.out]
                    rw [e2] at ho11
                    obtain ⟨A9, c9, rfl⟩ := ho11.form
                    refine hK.out _ _ ?_ (fun hHeld => ?_)
                    · exact hxk
                    clear hK K
                    try simp only [List.getElem_toArray, List.getElem_cons_succ, List.getElem_cons_zero, Act.put, List.setIfInBounds_toArray, List.set_cons_zero, List.set_cons_succ]
                    refine wpHead_done (by kernel_rfl) ?_
                    clear HLC HF5
                    go_wp2_with fail
                    go_roundw
                    case rel => exact ⟨f, false, o2, rest.drop n, A9, A6, c9, cr - n, rfl, (by first | (rw [HDL.out, Nat.sub_self]; done) | (rw [HDL.out]; done)), HF2, (by rw [HDL.out]; omega), (by rw [HDL.out]; simp; omega), (by rw [HDL.out]; omega), (by rw [HDL.out]; omega), (by rw [HDL.out]; omega), Lib.hid ho11, HF6, Lib.hid hHeld⟩
                    case measure => simp; omega
                  exact AllHead.nil
                exact AllHead.nil
              refine AllHead.cons (by rfl) (fun K hK => ?_) ?_
              · go_simp
                refine name_world ?_
                rintro wr10 hw10
                have hxn10 : Ext wr5 wr10 := hw10 ▸ (Ext.refl _).alloc _
                have hrow10 : wr10.heap[wr5.heap.size]? = some (.cells #[.int .u8 231] 5) := hw10 ▸ heap_alloc_new wr5 _
                have hs2 := Sd.new ho hrow10 (l := [231]) rfl
                replace ho := ho.ext hxn10
                try replace hs1 := hs1.ext hxn10
                clear hrow10
                have hxk := hHeld.trans hxn10
                refine hK.out _ _ ?_ (fun hHeld => ?_)
                · exact hxk
                clear hK K
                try simp only [List.getElem_toArray, List.getElem_cons_succ, List.getElem_cons_zero, Act.put, List.setIfInBounds_toArray, List.set_cons_zero, List.set_cons_succ]
                refine wpHead_ready (rs := [9]) (by kernel_rfl) (by simp) (by kernel_rfl) ?_
                refine AllHead.cons (by rfl) (fun K hK => ?_) ?_
                · refine step_apB bytesT ho (HF5.out.ext hHeld) rfl rfl rfl rfl (by first | omega | (simp; done) | (simp; omega)) (by first | omega | (simp; done) | (simp; omega)) hHeld.size ?_
                  rintro v9 wr9 ho9 hg9 hor9
                  try replace hs2 := hs2.app hg9 hor9
                  have hxk := hHeld.own ho (Nat.le_refl _) hg9
                  clear ho hg9 hor9
                  have hl9 : (o5 ++ rest.take n).length ≤ o5.length + 61 := by simp; omega
                  generalize he9 : o5 ++ rest.take n = o9 at *
                  have HE9 := Lib.hid he9
                  clear he9
                  obtain ⟨A8, c8, rfl⟩ := ho9.form
                  have ho := ho9
                  clear ho9
                  refine hK.out _ _ ?_ (fun hHeld => ?_)
                  · exact hxk
                  clear hK K
                  try simp only [List.getElem_toArray, List.getElem_cons_succ, List.getElem_cons_zero, Act.put, List.setIfInBounds_toArray, List.set_cons_zero, List.set_cons_succ]
                  refine wpHead_ready (rs := [11]) (by kernel_rfl) (by simp) (by kernel_rfl) ?_
                  refine AllHead.cons (by rfl) (fun K hK => ?_) ?_
                  · refine step_apB bytesT ho hs2.bs rfl rfl rfl rfl rfl (by first | omega | (simp; done) | (simp; omega)) hHeld.size ?_
                    rintro v11 wr11 ho11 hg11 hor11
                    have hxk := hHeld.own ho (Nat.le_refl _) hg11
                    clear ho hg11 hor11 hs2
                    have e2 : o9 ++ [231] = o2 := by rw [HLC.out, ← HE9.out, ← HE5.out]
                    rw [e2] at ho11
                    obtain ⟨A9, c9, rfl⟩ := ho11.form
                    refine hK.out _ _ ?_ (fun hHeld => ?_)
                    · exact hxk
                    clear hK K
                    try simp only [List.getElem_toArray, List.getElem_cons_succ, List.getElem_cons_zero, Act.put, List.setIfInBounds_toArray, List.set_cons_zero, List.set_cons_succ]
                    refine wpHead_done (by kernel_rfl) ?_
                    clear HLC HF5
                    go_wp2_with fail
                    go_roundw
                    case rel => exact ⟨f, false, o2, rest.drop n, A9, A6, c9, cr - n, rfl, (by first | (rw [HDL.out, Nat.sub_self]; done) | (rw [HDL.out]; done)), HF2, (by rw [HDL.out]; omega), (by rw [HDL.out]; simp; omega), (by rw [HDL.out]; omega), (by rw [HDL.out]; omega), (by rw [HDL.out]; omega), Lib.hid ho11, HF6, Lib.hid hHeld⟩
                    case measure => simp; omega
                  exact AllHead.nil
                exact AllHead.nil
              exact AllHead.nil
            refine AllHead.cons (by rfl) (fun K hK => ?_) ?_
            · go_simp
              refine name_world ?_
              rintro wr10 hw10
              have hxn10 : Ext wr4 wr10 := hw10 ▸ (Ext.refl _).alloc _
              have hrow10 : wr10.heap[wr4.heap.size]? = some (.cells #[.int .u8 231] 5) := hw10 ▸ heap_alloc_new wr4 _
              have hs2 := Sd.new ho hrow10 (l := [231]) rfl
              replace ho := ho.ext hxn10
              try replace hs1 := hs1.ext hxn10
              clear hrow10
              have hxk := hHeld.trans hxn10
              refine hK.out _ _ ?_ (fun hHeld => ?_)
              · exact hxk
              clear hK K
              try simp only [List.getElem_toArray, List.getElem_cons_succ, List.getElem_cons_zero, Act.put, List.setIfInBounds_toArray, List.set_cons_zero, List.set_cons_succ]
              refine wpHead_ready (rs := [5]) (by kernel_rfl) (by simp) (by kernel_rfl) ?_
              refine AllHead.cons (by rfl) (fun K hK => ?_) ?_
              · refine step_apB bytesT ho hs1.bs rfl rfl rfl rfl rfl (by first | omega | (simp; done) | (simp; omega)) hHeld.size ?_
                rintro v5 wr5 ho5 hg5 hor5
                try replace hs2 := hs2.app hg5 hor5
                have hxk := hHeld.own ho (Nat.le_refl _) hg5
                clear ho hg5 hor5 hs1
                have hl5 : (o1 ++ [3, UInt8.ofNat n]).length ≤ o1.length + 2 := by simp
                generalize he5 : o1 ++ [3, UInt8.ofNat n] = o5 at *
                have HE5 := Lib.hid he5
                clear he5
                obtain ⟨A7, c7, rfl⟩ := ho5.form
                have ho := ho5
                clear ho5
                refine hK.out _ _ ?_ (fun hHeld => ?_)
                · exact hxk
                clear hK K
                try simp only [List.getElem_toArray, List.getElem_cons_succ, List.getElem_cons_zero, Act.put, List.setIfInBounds_toArray, List.set_cons_zero, List.set_cons_succ]
                refine wpHead_ready (rs := [9]) (by kernel_rfl) (by simp) (by kernel_rfl) ?_
                refine AllHead.cons (by rfl) (fun K hK => ?_) ?_
                · refine step_apB bytesT ho (HF5.out.ext hHeld) rfl rfl rfl rfl (by first | omega | (simp; done) | (simp; omega)) (by first | omega | (simp; done) | (simp; omega)) hHeld.size ?_
                  rintro v9 wr9 ho9 hg9 hor9
                  try replace hs2 := hs2.app hg9 hor9
                  have hxk := hHeld.own ho (Nat.le_refl _) hg9
                  clear ho hg9 hor9
                  have hl9 : (o5 ++ rest.take n).length ≤ o5.length + 61 := by simp; omega
                  generalize he9 : o5 ++ rest.take n = o9 at *
                  have HE9 := Lib.hid he9
                  clear he9
                  obtain ⟨A8, c8, rfl⟩ := ho9.form
                  have ho := ho9
                  clear ho9
                  refine hK.out _ _ ?_ (fun hHeld => ?_)
                  · exact hxk
                  clear hK K
                  try simp only [List.getElem_toArray, List.getElem_cons_succ, List.getElem_cons_zero, Act.put, List.setIfInBounds_toArray, List.set_cons_zero, List.set_cons_succ]
                  refine wpHead_ready (rs := [11]) (by kernel_rfl) (by simp) (by kernel_rfl) ?_
                  refine AllHead.cons (by rfl) (fun K hK => ?_) ?_
                  · refine step_apB bytesT ho hs2.bs rfl rfl rfl rfl rfl (by first | omega | (simp; done) | (simp; omega)) hHeld.size ?_
                    rintro v11 wr11 ho11 hg11 hor11
                    have hxk := hHeld.own ho (Nat.le_refl _) hg11
                    clear ho hg11 hor11 hs2
                    have e2 : o9 ++ [231] = o2 := by rw [HLC.out, ← HE9.out, ← HE5.out]
                    rw [e2] at ho11
                    obtain ⟨A9, c9, rfl⟩ := ho11.form
                    refine hK.out _ _ ?_ (fun hHeld => ?_)
                    · exact hxk
                    clear hK K
                    try simp only [List.getElem_toArray, List.getElem_cons_succ, List.getElem_cons_zero, Act.put, List.setIfInBounds_toArray, List.set_cons_zero, List.set_cons_succ]
                    refine wpHead_done (by kernel_rfl) ?_
                    clear HLC HF5
                    go_wp2_with fail
                    go_roundw
                    case rel => exact ⟨f, false, o2, rest.drop n, A9, A6, c9, cr - n, rfl, (by first | (rw [HDL.out, Nat.sub_self]; done) | (rw [HDL.out]; done)), HF2, (by rw [HDL.out]; omega), (by rw [HDL.out]; simp; omega), (by rw [HDL.out]; omega), (by rw [HDL.out]; omega), (by rw [HDL.out]; omega), Lib.hid ho11, HF6, Lib.hid hHeld⟩
                    case measure => simp; omega
                  exact AllHead.nil
                exact AllHead.nil
              exact AllHead.nil
            exact AllHead.nil
          refine AllHead.cons (by rfl) (fun K hK => ?_) ?_
          · go_simp
            refine name_world ?_
            rintro wr10 hw10
            have hxn10 : Ext wr0 wr10 := hw10 ▸ (Ext.refl _).alloc _
            have hrow10 : wr10.heap[wr0.heap.size]? = some (.cells #[.int .u8 231] 5) := hw10 ▸ heap_alloc_new wr0 _
            have hs2 := Sd.new ho hrow10 (l := [231]) rfl
            replace ho := ho.ext hxn10
            try replace hs1 := hs1.ext hxn10
            clear hrow10
            have hxk := hHeld.trans hxn10
            refine hK.out _ _ ?_ (fun hHeld => ?_)
            · exact hxk
            clear hK K
            try simp only [List.getElem_toArray, List.getElem_cons_succ, List.getElem_cons_zero, Act.put, List.setIfInBounds_toArray, List.set_cons_zero, List.set_cons_succ]
            refine wpHead_ready (rs := [4]) (by kernel_rfl) (by simp) (by kernel_rfl) ?_
            refine AllHead.cons (by rfl) (fun K hK => ?_) ?_
            · go_simp
              refine name_world ?_
              rintro wr4 hw4
              have hxn4 : Ext wr10 wr4 := hw4 ▸ (Ext.refl _).alloc _
              have hrow4 : wr4.heap[wr10.heap.size]? = some (.cells #[.int .u8 3, .int .u8 ((UInt8.ofNat n).toNat : Int)] 5) := hw4 ▸ heap_alloc_new wr10 _
              have hs1 := Sd.new ho hrow4 (l := [3, UInt8.ofNat n]) rfl
              replace ho := ho.ext hxn4
              try replace hs2 := hs2.ext hxn4
              clear hrow4
              have hxk := hHeld.trans hxn4
              refine hK.out _ _ ?_ (fun hHeld => ?_)
              · exact hxk
              clear hK K
              try simp only [List.getElem_toArray, List.getElem_cons_succ, List.getElem_cons_zero, Act.put, List.setIfInBounds_toArray, List.set_cons_zero, List.set_cons_succ]
              refine wpHead_ready (rs := [5]) (by kernel_rfl) (by simp) (by kernel_rfl) ?_
              refine AllHead.cons (by rfl) (fun K hK => ?_) ?_
              · refine step_apB bytesT ho hs1.bs rfl rfl rfl rfl rfl (by first | omega | (simp; done) | (simp; omega)) hHeld.size ?_
                rintro v5 wr5 ho5 hg5 hor5
                try replace hs2 := hs2.app hg5 hor5
                have hxk := hHeld.own ho (Nat.le_refl _) hg5
                clear ho hg5 hor5 hs1
                have hl5 : (o1 ++ [3, UInt8.ofNat n]).length ≤ o1.length + 2 := by simp
                generalize he5 : o1 ++ [3, UInt8.ofNat n] = o5 at *
                have HE5 := Lib.hid he5
                clear he5
                obtain ⟨A7, c7, rfl⟩ := ho5.form
                have ho := ho5
                clear ho5
                refine hK.out _ _ ?_ (fun hHeld => ?_)
                · exact hxk
                clear hK K
                try simp only [List.getElem_toArray, List.getElem_cons_succ, List.getElem_cons_zero, Act.put, List.setIfInBounds_toArray, List.set_cons_zero, List.set_cons_succ]
                refine wpHead_ready (rs := [9]) (by kernel_rfl) (by simp) (by kernel_rfl) ?_
                refine AllHead.cons (by rfl) (fun K hK => ?_) ?_
                · refine step_apB bytesT ho (HF5.out.ext hHeld) rfl rfl rfl rfl (by first | omega | (simp; done) | (simp; omega)) (by first | omega | (simp; done) | (simp; omega)) hHeld.size ?_
                  rintro v9 wr9 ho9 hg9 hor9
                  try replace hs2 := hs2.app hg9 hor9
                  have hxk := hHeld.own ho (Nat.le_refl _) hg9
                  clear ho hg9 hor9
                  have hl9 : (o5 ++ rest.take n).length ≤ o5.length + 61 := by simp; omega
                  generalize he9 : o5 ++ rest.take n = o9 at *
                  have HE9 := Lib.hid he9
                  clear he9
                  obtain ⟨A8, c8, rfl⟩ := ho9.form
                  have ho := ho9
                  clear ho9
                  refine hK.out _ _ ?_ (fun hHeld => ?_)
                  · exact hxk
                  clear hK K
                  try simp only [List.getElem_toArray, List.getElem_cons_succ, List.getElem_cons_zero, Act.put, List.setIfInBounds_toArray, List.set_cons_zero, List.set_cons_succ]
                  refine wpHead_ready (rs := [11]) (by kernel_rfl) (by simp) (by kernel_rfl) ?_
                  refine AllHead.cons (by rfl) (fun K hK => ?_) ?_
                  · refine step_apB bytesT ho hs2.bs rfl rfl rfl rfl rfl (by first | omega | (simp; done) | (simp; omega)) hHeld.size ?_
                    rintro v11 wr11 ho11 hg11 hor11
                    have hxk := hHeld.own ho (Nat.le_refl _) hg11
                    clear ho hg11 hor11 hs2
                    have e2 : o9 ++ [231] = o2 := by rw [HLC.out, ← HE9.out, ← HE5.out]
                    rw [e2] at ho11
                    obtain ⟨A9, c9, rfl⟩ := ho11.form
                    refine hK.out _ _ ?_ (fun hHeld => ?_)
                    · exact hxk
                    clear hK K
                    try simp only [List.getElem_toArray, List.getElem_cons_succ, List.getElem_cons_zero, Act.put, List.setIfInBounds_toArray, List.set_cons_zero, List.set_cons_succ]
                    refine wpHead_done (by kernel_rfl) ?_
                    clear HLC HF5
                    go_wp2_with fail
                    go_roundw
                    case rel => exact ⟨f, false, o2, rest.drop n, A9, A6, c9, cr - n, rfl, (by first | (rw [HDL.out, Nat.sub_self]; done) | (rw [HDL.out]; done)), HF2, (by rw [HDL.out]; omega), (by rw [HDL.out]; simp; omega), (by rw [HDL.out]; omega), (by rw [HDL.out]; omega), (by rw [HDL.out]; omega), Lib.hid ho11, HF6, Lib.hid hHeld⟩
                    case measure => simp; omega
                  exact AllHead.nil
                exact AllHead.nil
              exact AllHead.nil
            exact AllHead.nil
          exact AllHead.nil
end Go.Proofs.Ytklodimokhndoaa
