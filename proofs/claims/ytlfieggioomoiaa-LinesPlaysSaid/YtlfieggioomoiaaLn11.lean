/- The walk of the law LinesPieces: it answers true. Conditions: the pieces stand in memory. -/
import Derived.Test.YtlfieggioomoiaaLn10
namespace Go.Proofs.Ytlfieggioomoiaa
open Go.RowKit
attribute [local go_sem] pt
theorem IsLn.grow {M : List Nat} {w w' : World} {p : Nat} {l : List UInt8} {v v' : Value} (h : IsLn (v.ownBlock.toList ++ M) w p l) (hg : w.grownBy w' v.ownBlock) (hor : v'.ownBlock = v.ownBlock ∨ v'.ownBlock = some w.heap.size) (hp : ∀ k, v.ownBlock = some k → k ≠ p) : IsLn (v'.ownBlock.toList ++ M) w' p l := by
  have hk : Kept v.ownBlock.toList w w' := ⟨hg.os, hg.tape, hg.output, hg.size, fun k hk hn => hg.block k hk fun e => hn (by simp [← e])⟩
  have h2 : IsLn (v.ownBlock.toList ++ (v'.ownBlock.toList ++ M)) w p l := h.old fun k hk => by
    rcases List.mem_append.1 hk with h1 | h1
    · exact .inl (List.mem_append_left _ h1)
    · rcases List.mem_append.1 h1 with h2 | h2
      · rcases hor with h3 | h3
        · exact .inl (List.mem_append_left _ (by rw [← h3]; exact h2))
        · rw [h3] at h2
          simp at h2
          exact .inr (by omega)
      · exact .inl (List.mem_append_right _ h2)
  refine (h2.kept hk (fun hm => hp p (by simpa using hm) rfl) fun k hk => List.mem_append_left _ hk).old fun k hk => .inl (List.mem_append_right _ hk)
theorem lineL_lt {t : List UInt8} (h : lineE t ≠ 3) : (lineL t).length + 2 ≤ t.length := by
  unfold lineE at h
  unfold lineL
  cases hf : fnd t with
  | none => rw [hf] at h; simp at h
  | some k =>
    have := fnd_lt hf
    simp
    omega
set_option maxHeartbeats 4000000 in
set_option maxRecDepth 100000 in
theorem pieces_any (A : Option Addr) (c : Nat) (ls : List (List UInt8)) (w : World) (h : BsS w A ls) (hm : ML w) :
    Calls Try.prog 3 #[.slice A ls.length c] w (Yes w) := by
  have HB := Lib.hid h
  have HML := fun W (hx : Ext w W) => hm.ext hx
  have H5 := fun W (hx : Ext w W) => live_any W (hm.ext hx)
  clear h hm
  unfold Yes
  go_enter Try.func3, Try.ntmps3
  go_wp2_with fail
  refine (LNew_any w).mono ?_
  rintro e w1 ⟨rfl, hx1, hL⟩
  go_wp2_with fail
  refine (LNew_any w1).mono ?_
  rintro e w2 ⟨rfl, hx2, hL2⟩
  have hpq : w.heap.size < w1.heap.size := (hL []).lt
  have hq2 : w1.heap.size < w2.heap.size := (hL2 []).lt
  have hX := fun M => (hL M).ext hx2
  have hx12 := hx1.trans hx2
  obtain ⟨p, hp⟩ : ∃ p, p = w.heap.size := ⟨_, rfl⟩
  rw [← hp] at hX hpq ⊢
  have hpw : w.heap.size ≤ p := by omega
  clear hp hL hx1 hx2
  generalize w1.heap.size = q at *
  have hqw : w.heap.size ≤ q := by omega
  have hge2 : ∀ k ∈ [p, q], w.heap.size ≤ k := by intro k hk; simp at hk; omega
  obtain ⟨b0, hb0⟩ : ∃ b0, b0 = w2.heap.size := ⟨_, rfl⟩
  rw [← hb0] at hq2
  have hb1 : b0 ≤ w2.heap.size := by omega
  clear hb0
  have HY := Lib.hid hL2
  have HX := Lib.hid hX
  clear hL2 hX
  go_wp2
  go_loopw [5, 6] (fun a i wr => ∃ (k : Nat) (v : Value) (pre : List UInt8), a = v ∧ i = .int .i64 k ∧ k ≤ ls.length ∧ k ≤ 20 ∧ pre.length ≤ 4000 ∧ b0 ≤ wr.heap.size ∧ Own wr b0 v pre ∧ IsLn (v.ownBlock.toList ++ [p, q]) wr p pre ∧ IsLn (v.ownBlock.toList ++ [p, q]) wr q [] ∧ Ext w wr) (fun _ i _ => ls.length - (intOf i).toNat)
  case atStart => exact ⟨0, _, [], rfl, rfl, by omega, by omega, by simp, hb1, Own.nil _ _, HX.out _, HY.out _, hx12⟩
  case round =>
    obtain ⟨k, v, pre, rfl, rfl, hk, hk20, hpre, hbr, ho, hlx, hly, hx⟩ := hrel
    clear hx12
    by_cases hlt : k < ls.length ∧ k < 20
    · obtain ⟨hlt, hlt20⟩ := hlt
      have hlt1 : (k : Int) < (ls.length : Int) := by omega
      have hlt2 : (k : Int) < 20 := by omega
      obtain ⟨ad, A', c', rfl, hcell, hbs⟩ := HB.out.at_ hlt
      have c0 := hcell wr hx
      have hbw := hbs.ext hx
      obtain ⟨B, b, rfl⟩ := ho.form
      by_cases hbig : 4000 - pre.length < ls[k].length
      · have ht : 4000 - (pre.length : Int) < (ls[k].length : Int) := by omega
        clear hcell hlx hly hbs hbw hbig
        generalize ls[k] = u at *
        go_wp2_with fail
        refine (H5 wr hx).mono ?_
        rintro e w5 ⟨rfl, hx5⟩
        go_wp2
        go_ret
        exact ⟨rfl, hx.trans hx5⟩
      · have ht : ¬ 4000 - (pre.length : Int) < (ls[k].length : Int) := by omega
        have hul : ls[k].length + pre.length ≤ 4000 := by omega
        have HO := Lib.hid ho
        have HLX := Lib.hid hlx
        have HLY := Lib.hid hly
        have HBS := Lib.hid hbs
        clear hlx hly hbs hbig
        generalize ls[k] = u at *
        go_wp2_with (at_builtin; refine unstop ?_)
        refine go_on (wpList_appB bytesTc HO.out hbw rfl rfl rfl rfl rfl (by omega) hbr ?_)
        intro v3 w3 ho3 hg3 hor3
        have hx3 : Ext w w3 := Ext.own hx HO.out (by omega) hg3
        have hobp : ∀ k, (Value.slice B pre.length b).ownBlock = some k → k ≠ p := fun k hk => by have := (HO.out.lt k hk).1; omega
        have hobq : ∀ k, (Value.slice B pre.length b).ownBlock = some k → k ≠ q := fun k hk => by have := (HO.out.lt k hk).1; omega
        have hlx3 := HLX.out.grow hg3 hor3 hobp
        have hly3 := HLY.out.grow hg3 hor3 hobq
        have hb3 : b0 ≤ w3.heap.size := Nat.le_trans hbr hg3.size
        have hM3 : ∀ k ∈ v3.ownBlock.toList ++ [p, q], k < w3.heap.size := fun k hk => by
          rcases List.mem_append.1 hk with h1 | h1
          · exact (ho3.lt k (by simpa using h1)).2
          · simp at h1; omega
        have c3 := hcell w3 hx3
        have HF := LFeed_any w3 hlx3 (List.mem_append_right _ (by simp)) hM3 (by omega) A' c' u (HBS.out.ext hx3)
        rw [show feedE pre u = 0 by unfold feedE; rw [if_neg (by omega)], show feedL pre u = pre ++ u by unfold feedL; rw [if_neg (by omega)]] at HF
        have HO3 := Lib.hid ho3
        have HLY3 := Lib.hid hly3
        clear hg3 hor3 ho3 hlx3 hly3 hM3 hcell
        go_wp2_with fail
        refine HF.mono ?_
        rintro e w4 ⟨rfl, hk4, h4⟩
        have hx4 : Ext w w4 := hx3.kept hk4 (one_ge hpw)
        have H4 := Lib.hid h4
        have HY4 := Lib.hid (HLY3.out.kept hk4 (by simp; omega) (by intro k hk; simp at hk; subst hk; exact List.mem_append_right _ (by simp)))
        have HO4 := Lib.hid (own_keptP HO3.out hk4 (by omega))
        have hb4 : b0 ≤ w4.heap.size := Nat.le_trans hb3 hk4.size
        clear hk4 h4 HF
        go_wp2
        go_roundw
        case rel => exact ⟨k + 1, v3, pre ++ u, rfl, by go_num, by omega, by omega, by simp; omega, hb4, HO4.out, H4.out, HY4.out, hx4⟩
        case measure => simp [intOf]; omega
    · have hpre2 : ¬ (k : Int) < (ls.length : Int) ∨ ((k : Int) < (ls.length : Int) ∧ ¬ (k : Int) < 20) := by omega
      obtain ⟨B, b, rfl⟩ := ho.form
      have hM3 : ∀ k ∈ (Value.slice B pre.length b).ownBlock.toList ++ [p, q], k < wr.heap.size := fun k hk => by
        rcases List.mem_append.1 hk with h1 | h1
        · exact (ho.lt k (by simpa using h1)).2
        · simp at h1; omega
      have HF := LFeed_any wr hly (List.mem_append_right _ (by simp)) hM3 (by simp) B b pre ho.bs
      rw [show feedE [] pre = 0 by unfold feedE; rw [if_neg (by simp; omega)], show feedL [] pre = pre by unfold feedL; rw [if_neg (by simp; omega)]; rfl] at HF
      have HLX := Lib.hid hlx
      clear hlx hly hM3 ho
      rcases hpre2 with h1 | ⟨h1, h2⟩
      all_goals
        go_wp2_with fail
        refine HF.mono ?_
        rintro e w4 ⟨rfl, hk4, h4⟩
        have hx4 : Ext w w4 := hx.kept hk4 (one_ge hqw)
        have H4 := Lib.hid (h4.old (N := [p, q]) (fun k hk => .inl (List.mem_append_right _ hk)))
        have HX4 := Lib.hid ((HLX.out.kept hk4 (by simp; omega) (by intro k hk; simp at hk; subst hk; exact List.mem_append_right _ (by simp))).old (N := [p, q]) (fun k hk => .inl (List.mem_append_right _ hk)))
        clear hk4 h4 HF
        go_wp2
        go_loopw [7] (fun i wr => ∃ (k : Nat) (t : List UInt8), i = .int .i64 k ∧ t.length + 2 * k ≤ pre.length ∧ IsLn [p, q] wr p t ∧ IsLn [p, q] wr q t ∧ Ext w wr) (fun i _ => pre.length + 1 - (intOf i).toNat)
        case atStart => exact ⟨0, pre, rfl, by omega, HX4.out, H4.out, hx4⟩
        case round =>
          obtain ⟨j, t, rfl, hj, hlx, hly, hxr⟩ := hrel
          have hj1 : (j : Int) ≤ (pre.length : Int) := by omega
          have hl1 := hlx.lt
          have hl2 := hly.lt
          have hM : ∀ k ∈ [p, q], k < wr.heap.size := by intro k hk; simp at hk; omega
          have HL1 := LLine_any wr hlx (by simp) hM (by omega) (HML wr hxr)
          have HL2 := fun W (hk : Kept [p] wr W) => LLine_any W (hly.kept hk (by simp; omega) (by intro k hk; simp at hk; subst hk; simp)) (by simp) (fun k hk' => Nat.lt_of_lt_of_le (hM k hk') hk.size) (by omega) (HML W (hxr.kept hk (one_ge hpw)))
          clear hlx hly hM
          by_cases hE : lineE t = 3
          · rw [hE] at HL1 HL2
            clear hE
            generalize lineS t = s at *
            generalize lineL t = t' at *
            go_wp2_with fail
            refine HL1.mono ?_
            rintro e w5 ⟨rfl, hk5, h5⟩
            go_wp2_with fail
            refine (HL2 w5 hk5).mono ?_
            rintro e w6 ⟨rfl, hk6, h6⟩
            have hx6 : Ext w w6 := (hxr.kept hk5 (one_ge hpw)).kept hk6 (one_ge hqw)
            have h56 := h5.kept hk6 (by simp; omega) (by intro k hk; simp at hk; subst hk; simp)
            clear hk5 hk6 h5 HL1 HL2
            go_wp2_with fail
            refine (H5 w6 hx6).mono ?_
            rintro e w7 ⟨rfl, hx7⟩
            go_wp2_with fail
            refine (LWait_any w7 (h56.ext hx7)).mono ?_
            rintro e w8 ⟨rfl, hw8⟩
            obtain rfl := hw8
            go_wp2_with fail
            refine (LWait_any w8 (h6.ext hx7)).mono ?_
            rintro e w9 ⟨rfl, hw9⟩
            obtain rfl := hw9
            go_wp2
            go_ret
            exact ⟨rfl, hx6.trans hx7⟩
          · have hE' : (lineE t == 3) = false := by simpa using hE
            have hlt3 := lineL_lt hE
            clear hE
            generalize lineS t = s at *
            generalize lineL t = t' at *
            generalize lineE t = er at *
            go_wp2_with fail
            refine HL1.mono ?_
            rintro e w5 ⟨rfl, hk5, h5⟩
            go_wp2_with fail
            refine (HL2 w5 hk5).mono ?_
            rintro e w6 ⟨rfl, hk6, h6⟩
            have hx6 : Ext w w6 := (hxr.kept hk5 (one_ge hpw)).kept hk6 (one_ge hqw)
            have H56 := Lib.hid (h5.kept hk6 (by simp; omega) (by intro k hk; simp at hk; subst hk; simp))
            have H6 := Lib.hid h6
            clear hk5 hk6 h5 h6 HL1 HL2
            go_wp2
            go_roundw
            case rel => exact ⟨j + 1, t', by go_num, by omega, H56.out, H6.out, hx6⟩
            case measure => simp [intOf]; omega
end Go.Proofs.Ytlfieggioomoiaa
