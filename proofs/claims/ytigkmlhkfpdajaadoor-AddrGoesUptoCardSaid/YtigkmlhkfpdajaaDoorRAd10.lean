/- The walk of AddrGoes: it answers true. Conditions: the text is at most 2^43 bytes long, and the library's two tables are laid. -/
import Derived.Test.YtigkmlhkfpdajaaDoorRAd9
import Derived.Test.YtigkmlhkfpdajaaDoorRAd4
import Derived.Test.YtigkmlhkfpdajaaDoorAd5
namespace Go.Proofs.YtigkmlhkfpdajaaDoor
open Go.RowKit
theorem ends_sv : sv ends = [.string ⟨#[]⟩, .string ⟨#[97]⟩, .string ⟨#[64, 97]⟩, .string ⟨#[97, 64, 97]⟩, .string ⟨#[34, 64, 97]⟩, .string ⟨#[92, 34, 64, 97]⟩, .string ⟨#[97, 34, 64, 97]⟩] := rfl
set_option maxRecDepth 20000 in
set_option maxHeartbeats 1600000 in
theorem AddrGoes_l (l : List UInt8) (w : World) (hs : l.length ≤ 8796093022000) (hT : Tabs w) : Calls Tryd.prog 4 #[.string (st l)] w fun e w' => e = .returned (.bool true) ∧ Ext w w' := by
  by_cases h200 : (200 : Int) < (l.length : Int)
  · go_enter Tryd.func4, Tryd.ntmps4
    go_wp2_with fail
    refine (live_any _).mono ?_
    rintro e w5 ⟨rfl, hx5⟩
    go_wp2
    go_ret
    exact ⟨rfl, hx5⟩
  · have HT := Lib.hid hT
    have hP := Parse_any (st l) w (by rw [st_size]; omega)
    rw [tl_st] at hP
    have HG := Lib.hid (goes (l := l))
    have HGN := Lib.hid (goes_not (l := l))
    unfold PSays at hP
    generalize parseT l = pr at *
    obtain ⟨pa, pb, pc, pd⟩ := pr
    dsimp only at hP HG HGN
    clear hT
    go_enter Tryd.func4, Tryd.ntmps4
    go_wp2_with fail
    refine hP.mono ?_
    rintro e w1 ⟨rfl, hx1⟩
    go_wp2_with (first | (with_reducible refine stop_alloc 23 ?_) | (with_reducible refine stop_store 23 ?_) | (with_reducible refine stop_load 23 ?_))
    refine go_on (wpList_alloc_ rfl rfl addr_info ?_)
    go_wp2_with (first | (with_reducible refine stop_alloc 23 ?_) | (with_reducible refine stop_store 23 ?_) | (with_reducible refine stop_load 23 ?_))
    refine go_on (wpList_store_whole rfl rfl rfl rfl (heap_alloc_new w1 _) (by kernel_rfl) rfl (by simp [Value.oneCell']) ?_)
    intro w2 hrow hk2 hz2
    have hx2 : Ext w w2 := (hx1.alloc _).kept hk2 (one_ge hx1.size)
    clear hrow hk2 hz2 hP hx1
    generalize w1.heap.size = g1 at *
    have hcase : (pd = 3 ∨ pd = 4) ∨ (pd ≠ 3 ∧ pd ≠ 4) := by omega
    rcases hcase with hpd | ⟨h3, h4⟩
    · have HGO := Lib.hid (HG.out hpd)
      have HL := Letters_any l w2 hs (HT.out.ext hx2)
      have hle := HGO.out.le
      have hln : (letL l).length ≤ l.length := lets_len' l
      have hsh := HGO.out.short
      have hfo := HGO.out.form
      obtain ⟨x, hxm, hxo⟩ := HGO.out.ex
      obtain ⟨jx, hjx, hjx2⟩ := List.getElem_of_mem hxm
      have hends : ∃ j, ∃ hj : j < ends.length, okE (bytesOf ((letL l).take pc) ++ ends[j]) := ⟨jx, hjx, by rw [hjx2]; exact hxo⟩
      have HEN := Lib.hid hends
      clear hxm hxo hjx hjx2 hends HG HGN HGO
      have q43 : (((pd : Int) == 3) = true ∧ ((pd : Int) != 4) = true ∧ ((pd : Int) != 3) = false ∧ ((pd : Int) == 4) = false ∧ ((pc : Int) != ((letL l).length : Int)) = false) ∨ (((pd : Int) == 3) = false ∧ ((pd : Int) != 4) = false ∧ ((pd : Int) == 4) = true ∧ ¬ ((letL l).length : Int) ≤ (pc : Int)) := by
        rcases hpd with rfl | rfl
        · have := hsh rfl
          exact .inl ⟨rfl, rfl, rfl, rfl, by simp; omega⟩
        · have := hfo rfl
          exact .inr ⟨rfl, rfl, rfl, by omega⟩
      have qle : ¬ ((letL l).length : Int) < (pc : Int) := by omega
      clear hsh hfo hpd
      rcases q43 with ⟨r1, r2, r3, r4, r5⟩ | ⟨r1, r2, r3, r4⟩
      all_goals
        go_wp2_with fail
        refine HL.mono ?_
        rintro e w3 ⟨v, rfl, ho, hx3⟩
        have hx03 := hx2.trans hx3
        have HX03 := Lib.hid hx03
        obtain ⟨A, cap, rfl⟩ := ho.form
        rw [lets_length]
        have HSL := Lib.hid ho.sl
        clear ho hx2 hx3 HL
        go_wp2
        go_loopw [7, 8] (fun a b wr => ∃ k : Nat, a = .string (st (bytesOf ((letL l).take k))) ∧ b = .int .i64 k ∧ k ≤ pc ∧ wr = w3) (fun _ b _ => pc - (intOf b).toNat)
        case atStart => exact ⟨0, by simp [bytesOf]; rfl, rfl, by omega, rfl⟩
        case round =>
          obtain ⟨k, rfl, rfl, hk, rfl⟩ := hrel
          have hbl : (bytesOf ((letL l).take k)).length ≤ l.length := by
            have h1 := let_bytes _ l (Nat.le_refl _)
            have : (bytesOf (letL l)).length = l.length := by unfold bytesOf; rw [h1]
            have h2 : letL l = (letL l).take k ++ (letL l).drop k := (List.take_append_drop _ _).symm
            rw [h2] at this
            unfold bytesOf at this ⊢
            rw [List.flatMap_append, List.length_append] at this
            omega
          by_cases hlt : k < pc
          · have hlt2 : (k : Int) < (pc : Int) := by omega
            have hlt3 : (k : Int) < ((letL l).length : Int) := by omega
            obtain ⟨⟨c, b⟩, hd⟩ : ∃ d, (letL l)[k]? = some d := ⟨_, List.getElem?_eq_getElem (by omega)⟩
            obtain ⟨ad, e, hcl⟩ := HSL.out k (.string (st b)) (by simp [sv, lets_get hd])
            subst e
            have htk : bytesOf ((letL l).take (k + 1)) = bytesOf ((letL l).take k) ++ b := by
              unfold bytesOf
              rw [List.take_add_one, hd, Option.toList_some, List.flatMap_append]
              simp
            have HTK := Lib.hid htk
            have hbl2 : b.length ≤ 4 := by
              rcases letL_ok _ l (Nat.le_refl _) _ (List.mem_of_getElem? hd) with ⟨_, x, h5, _⟩ | ⟨_, h5⟩
              · simp only at h5; rw [h5]; simp
              · simp only at h5; rw [h5]; exact runE_len c
            clear hd htk
            generalize bytesOf ((letL l).take k) = hb at *
            have hcc : ¬ (9223372036854775807 : Int) < (hb.length : Int) + (b.length : Int) := by omega
            go_wp2
            go_roundw
            case rel => exact ⟨k + 1, by (rw [HTK.out]) <;> (first | rfl | rw [st_append] | simp [st_append]), by go_num, by omega, (by first | rfl | trivial)⟩
            case measure => simp [intOf]; omega
          · have hlt2 : ¬ (k : Int) < (pc : Int) := by omega
            have hkp : k = pc := by omega
            subst hkp
            generalize bytesOf ((letL l).take k) = hb at *
            have hsE := Sl.new wr (sv ends) 9 (0, 0)
            have hxE : Ext wr (wr.alloc (.cells (sv ends).toArray 9)) := (Ext.refl _).alloc _
            have HLB : Hid (hb.length ≤ 210) := Lib.hid (by omega)
            rw [ends_sv] at hsE hxE
            go_wp2
            generalize hwe : wr.alloc (.cells _ 9) = we at hsE hxE ⊢
            generalize wr.heap.size = ge at *
            have HXE := Lib.hid (HX03.out.trans hxE)
            have HCE : Hid (∀ (k : Nat) (hk : k < ends.length) w', Ext we w' → w'.cell? ⟨ge, k, none⟩ = some (.string (st ends[k]))) := Lib.hid (fun k hk w' hx => by
              have e0 : (⟨ge, 0, none⟩ : Addr).add k = ⟨ge, k, none⟩ := by unfold Addr.add; split <;> simp_all
              rw [← e0]
              obtain ⟨ad, e, hc⟩ := hsE k (.string (st ends[k])) (by rw [← ends_sv]; simp [sv, hk])
              cases e
              exact hx.cell hc)
            clear hsE hxE hwe
            go_loopw [74] (fun a wr' => ∃ k : Nat, a = .int .i64 k ∧ (∃ j, ∃ hj : j < ends.length, k ≤ j ∧ okE (hb ++ ends[j])) ∧ Ext we wr') (fun a _ => 7 - (intOf a).toNat)
            case atStart => exact ⟨0, rfl, (by obtain ⟨j, hj, ho⟩ := HEN.out; exact ⟨j, hj, by omega, ho⟩), Ext.refl _⟩
            case round =>
              obtain ⟨i, rfl, hex, hxr⟩ := hrel
              have HEX := Lib.hid hex
              have hi7 : i < ends.length := by obtain ⟨j, hj, h1, _⟩ := hex; omega
              have hi72 : i < 7 := hi7
              clear hex
              have hic : (i : Int) < 7 := by omega
              have hce := HCE.out i hi7 wr hxr
              have hel : ends[i].length ≤ 4 := by
                have : ∀ (i : Fin 7), (ends[i.val]'i.isLt).length ≤ 4 := by decide +kernel
                exact this ⟨i, hi7⟩
              have HNX : Hid (¬ okE (hb ++ ends[i]) → ∃ j, ∃ hj : j < ends.length, i + 1 ≤ j ∧ okE (hb ++ ends[j])) := Lib.hid (fun hn => by
                obtain ⟨j, hj, h1, h2⟩ := HEX.out
                refine ⟨j, hj, ?_, h2⟩
                rcases Nat.lt_or_ge i j with h | h
                · exact h
                · have : i = j := by omega
                  subst this
                  exact absurd h2 hn)
              have hlb := HLB.out
              have HP := fun wz hx => RParse_any (hb ++ ends[i]) wz (by simp; omega) (HT.out.ext (HXE.out.trans hx))
              have hoe : okE (hb ++ ends[i]) ↔ (parseT (hb ++ ends[i])).2.2.2 = 0 ∨ (parseT (hb ++ ends[i])).2.2.2 = 6 := Iff.rfl
              unfold PSays at HP
              generalize parseT (hb ++ ends[i]) = pr at *
              obtain ⟨qa, qb, qc, qd⟩ := pr
              dsimp only at HP hoe
              have HOE := Lib.hid hoe
              have HXR := Lib.hid hxr
              clear hoe HEX HCE
              generalize ends[i] = en at *
              have hcc : ¬ (9223372036854775807 : Int) < (hb.length : Int) + (en.length : Int) := by omega
              go_wp2_with fail
              refine (HP _ HXR.out).mono ?_
              rintro e w5 ⟨rfl, hx5⟩
              have hx05 := HXR.out.trans hx5
              clear HP hx5 hxr hce
              go_wp2_with (first | (with_reducible refine stop_alloc 23 ?_) | (with_reducible refine stop_store 23 ?_) | (with_reducible refine stop_load 23 ?_))
              refine go_on (wpList_alloc_ rfl rfl addr_info ?_)
              go_wp2_with (first | (with_reducible refine stop_alloc 23 ?_) | (with_reducible refine stop_store 23 ?_) | (with_reducible refine stop_load 23 ?_))
              refine go_on (wpList_store_whole rfl rfl rfl rfl (heap_alloc_new w5 _) (by kernel_rfl) rfl (by simp [Value.oneCell']) ?_)
              intro w6 hrow6 hk6 hz6
              have hx6 : Ext we w6 := (hx05.alloc _).kept hk6 (one_ge hx05.size)
              have HX6 := Lib.hid (HXE.out.trans hx6)
              clear hrow6 hk6 hz6 hx05
              generalize w5.heap.size = g5 at *
              by_cases h0 : qd = 0
              · subst h0
                go_wp2_with fail
                refine (live_any _).mono ?_
                rintro e w7 ⟨rfl, hx7⟩
                go_wp2
                go_ret
                exact ⟨rfl, HX6.out.trans hx7⟩
              · by_cases h6 : qd = 6
                · subst h6
                  go_wp2_with fail
                  refine (live_any _).mono ?_
                  rintro e w7 ⟨rfl, hx7⟩
                  go_wp2
                  go_ret
                  exact ⟨rfl, HX6.out.trans hx7⟩
                · have q0 : ((qd : Int) == 0) = false := beq_eq_false_iff_ne.2 (by omega)
                  have q6 : ((qd : Int) == 6) = false := beq_eq_false_iff_ne.2 (by omega)
                  have HN2 := Lib.hid (HNX.out (fun h => by have := HOE.out.1 h; omega))
                  clear h0 h6
                  go_wp2
                  go_roundw
                  case rel => exact ⟨i + 1, by go_num, HN2.out, hx6⟩
                  case measure => simp [intOf]; omega
    · have q4 : ((pd : Int) != 4) = true := by simp; omega
      have q3 : ((pd : Int) != 3) = true := by simp; omega
      have hpc := HGN.out (by omega)
      subst hpc
      go_wp2_with fail
      refine (live_any _).mono ?_
      rintro e w5 ⟨rfl, hx5⟩
      go_wp2
      go_ret
      exact ⟨by first | rfl | simp, hx2.trans hx5⟩
theorem AddrGoes_any (a : ByteArray) (w : World) (ha : a.size ≤ 8796093022000) (hT : Tabs w) : Calls Tryd.prog 4 #[.string a] w fun e w' => e = .returned (.bool true) ∧ Ext w w' := by
  have := AddrGoes_l (tl a) w (by rw [tl_length]; exact ha) hT
  rwa [st_tl] at this
end Go.Proofs.YtigkmlhkfpdajaaDoor
