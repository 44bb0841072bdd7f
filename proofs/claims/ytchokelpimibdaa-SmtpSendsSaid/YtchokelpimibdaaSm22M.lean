/- The walk of the law SmtpSends: it answers true. Conditions: the argument's rows stand in memory, the library's own variable holds a number. -/
import Derived.Test.YtchokelpimibdaaSA
import Derived.Deep.CutBlock
namespace Go.Proofs.Ytchokelpimibdaa
open Go.RowKit
set_option maxRecDepth 20000 in
set_option maxHeartbeats 40000000 in
theorem sends_any (A1 : Option Addr) (c1 : Nat) (fs : List By) (A2 : Option Addr) (c2 : Nat) (ts : List By) (A3 : Option Addr) (c3 : Nat) (body : By) (w : World) (h1 : RsM RSt 1 [] w A1 fs) (h2 : RsM RSt 1 [] w A2 ts) (h3 : Bs w A3 body) (hm : ML w) (hf : fs.length ≤ 140737488355328) (ht : ts.length ≤ 140737488355328) :
    Calls Try.prog 4 #[.agg #[.slice A1 fs.length c1, .slice A2 ts.length c2, .slice A3 body.length c3]] w (Yes w) := by
  have kc := fun (w : World) (C : Array Value) (n c : Nat) => Lib.run_convert_bytes_const (P := Try.prog) w 22 5 C n c Try.underlying22 Try.underlying5
  obtain ⟨w0, hw0⟩ : ∃ w0, w0 = w.alloc (.cells #[.slice A1 fs.length c1, .slice A2 ts.length c2, .slice A3 body.length c3] 42) := ⟨_, rfl⟩
  have hx0 : Ext w w0 := hw0 ▸ (Ext.refl w).alloc _
  have hr0 : w0.heap[w.heap.size]? = some (.cells #[.slice A1 fs.length c1, .slice A2 ts.length c2, .slice A3 body.length c3] 42 (0, 0)) := hw0 ▸ heap_alloc_new w _
  obtain ⟨O0, O1, O2, -⟩ := rows3 hr0
  have HO0 := Lib.hid O0
  have HO1 := Lib.hid O1
  have HO2 := Lib.hid O2
  have HLV := fun V (hx : Ext w V) => slive_any V (hm.ext hx)
  have HM0 := Lib.hid (hm.ext hx0)
  have HX0 := Lib.hid hx0
  have HF := Lib.hid (h1.kept (.of_ext hx0))
  have HTO := Lib.hid (h2.kept (.of_ext hx0))
  have HBO := Lib.hid (h3.ext hx0)
  have hwa := hw0.symm
  obtain ⟨g, hg⟩ : ∃ g, g = w.heap.size := ⟨_, rfl⟩
  rw [← hg] at HO0 HO1 HO2
  have HGW : Hid (w.heap.size ≤ g) := Lib.hid (by omega)
  clear h1 h2 h3 hm hx0 hr0 hw0 O0 O1 O2
  unfold Yes
  go_enter Try.func4, Try.ntmps4
  go_upto_region 1 with fail
  rw [← hg]
  clear hwa hg
  go_wp2_with fail
  refine (snew_any w0 HM0.out).mono ?_
  rintro e w1 ⟨p, q, rfl, hx1, hp1, hq1, hp2, hq2, hs1⟩
  have H1 := Lib.hid (hs1 [p, q] (by simp) (by simp) (by intro k hk; simp at hk; omega))
  have HX1 := Lib.hid hx1
  have HPQ : Hid (∀ k ∈ [p, q], w0.heap.size ≤ k) := Lib.hid (by intro k hk; simp at hk; omega)
  clear hs1 hx1 hp1 hq1 hp2 hq2
  unfold pt
  go_wp2_with fail
  generalize hw2 : w1.alloc _ = w2
  have hx2 : Ext w1 w2 := hw2 ▸ (Ext.refl _).alloc _
  have hb2 : Bs w2 (some ⟨w1.heap.size, 0, none⟩) heloB := by rw [← hw2]; exact Bs.new w1 heloB _ rfl 5 (8, 9)
  generalize w1.heap.size = gf at *
  clear hw2
  have HFD := sfeed_any (H1.out.ext hx2) (some ⟨gf, 0, none⟩) 8 heloB hb2
  rw [helo_feed] at HFD
  rw [show heloB.length = 8 from rfl] at HFD
  unfold pt at HFD
  refine HFD.mono ?_
  rintro e w3 ⟨rfl, h3, hk3⟩
  have hx03 : Ext w0 w3 := (HX1.out.trans hx2).kept (hk3.qp (p := p)) HPQ.out
  have o2 := HO2.out w3 hx03
  have HX3 := Lib.hid hx03
  have H3 := Lib.hid h3
  clear HFD h3 hk3 hx2 hb2 H1 HX1 hx03
  by_cases hbig : 2000 < body.length
  · have hb1 : (2000 : Int) < (body.length : Int) := by omega
    have HXX := Lib.hid (HX0.out.trans HX3.out)
    clear hbig
    go_wp2
    go_ret
    exact ⟨rfl, HXX.out⟩
  have hb1 : ¬ (2000 : Int) < (body.length : Int) := by omega
  have HS1 := sstep_any H3.out
  unfold Steps pt at HS1
  rw [helo_1] at HS1
  go_wp2_with fail
  refine HS1.mono ?_
  rintro e w4 ⟨cs4, rfl, -, h4, hk4⟩
  have HS2 := sstep_any h4
  unfold Steps pt at HS2
  rw [helo_2] at HS2
  clear h4 HS1
  go_wp2_with fail
  refine HS2.mono ?_
  rintro e w5 ⟨cs5, rfl, -, h5, hk5⟩
  have HE5 := Lib.hid ((HX3.out.kept hk4 HPQ.out).kept hk5 HPQ.out)
  have H5 := Lib.hid h5
  obtain ⟨b, hb⟩ : ∃ b, b = w5.heap.size := ⟨_, rfl⟩
  have HT5 : Hid (TwoR [p, q] w5 b (.slice none 0 0) (.slice none 0 0) [] []) := Lib.hid ⟨OwnR.nil _ _ _ _ _ _ _, OwnR.nil _ _ _ _ _ _ _, by rw [hb]; exact h5.lt, by omega⟩
  have HBM : Hid (0 < b ∧ w0.heap.size ≤ b) := Lib.hid ⟨by rw [hb]; exact h5.ml.lt, by rw [hb]; exact HE5.out.size⟩
  have HWX : Hid (∀ V, Ext w0 V → Ext w V) := Lib.hid fun V hv => HX0.out.trans hv
  clear h5 hk4 hk5 HS2 H3 HX3 hb o2
  go_wp2
  go_loopw [5, 6, 7, 8] (fun fv nv tv kv wr => ∃ (k : Nat) (s : Se) (f : By) (n : Bool) (t : List By), fv = .string (st f) ∧ nv = .bool n ∧ kv = .int .i64 k ∧ k ≤ 2 ∧ t.length ≤ 10 * k ∧ (k < 2 → t = []) ∧ Hid (∀ y ∈ t, y.length ≤ 200) ∧ Hid (TwoR [p, q] wr b tv (.slice none 0 0) t []) ∧ Hid (IsS (bl tv (.slice none 0 0) [p, q]) wr p q s) ∧ Hid (SI s f n t) ∧ Hid (Ext w0 wr)) (fun _ _ _ kv _ => 2 - (intOf kv).toNat)
  case atStart => exact ⟨0, sG, [], false, [], rfl, rfl, rfl, by omega, by simp, fun _ => rfl, Lib.hid (fun y hy => by cases hy), HT5, H5, Lib.hid SI.zero, HE5⟩
  case round =>
    clear HT5 H5 HE5
    obtain ⟨k, s, f, n, t, rfl, rfl, rfl, hk, htl, htk, HTQ, HT, HS, HI, HE⟩ := hrel
    have hk3 : k = 0 ∨ k = 1 ∨ k = 2 := by omega
    rcases hk3 with rfl | rfl | rfl
    · as_aux_lemma =>
        have o0 := HO0.out _ HE.out
        obtain rfl := htk (by omega)
        clear htk hk
        go_wp2
        go_loopw [5, 6, 7, 11] (fun fv nv tv iv wr => ∃ (i : Nat) (s : Se) (f : By) (n : Bool), fv = .string (st f) ∧ nv = .bool n ∧ iv = .int .i64 i ∧ i ≤ fs.length ∧ i ≤ 10 ∧ Hid (TwoR [p, q] wr b tv (.slice none 0 0) [] []) ∧ Hid (IsS (bl tv (.slice none 0 0) [p, q]) wr p q s) ∧ Hid (SI s f n []) ∧ Hid (Ext w0 wr)) (fun _ _ _ iv _ => 10 - (intOf iv).toNat)
        case atStart => exact ⟨0, s, f, n, rfl, rfl, rfl, by omega, by omega, HT, HS, HI, HE⟩
        case round =>
          clear o0 HT HS HI HE htl
          obtain ⟨i, s, f, n, rfl, rfl, rfl, hi1, hi2, HT, HS, HI, HE⟩ := hrel
          by_cases hlt : i < fs.length ∧ i < 10
          · obtain ⟨l1, l2⟩ := hlt
            have l1' : (i : Int) < (fs.length : Int) := by omega
            have l2' : (i : Int) < 10 := by omega
            obtain ⟨ad, rfl, hcs⟩ := RSt.at_ HF.out l1
            generalize fs[i] = x at *
            obtain ⟨wo, rfl⟩ : ∃ wo, wo = wr := ⟨wr, rfl⟩
            have cx := hcs _ HE.out
            go_wp2
            go_loopw [12] (fun jv wr => ∃ j : Nat, jv = .int .i64 j ∧ j ≤ x.length ∧ wr = wo ∧ Hid (∀ m (h : m < x.length), m < j → x[m] ≠ 13 ∧ x[m] ≠ 10) ∧ (0 < j → x.length ≤ 200)) (fun jv _ => x.length - (intOf jv).toNat)
            case atStart => exact ⟨0, rfl, by omega, rfl, Lib.hid (fun m h hm => by omega), fun h => by omega⟩
            case round =>
              obtain ⟨j, rfl, hj, rfl, HC, h200⟩ := hrel
              by_cases hjl : j < x.length
              · have hjl' : (j : Int) < (x.length : Int) := by omega
                have hsz : j < (st x).size := by rw [st_len]; exact hjl
                have hat := st_at x j hsz
                by_cases h13 : x[j] = 13
                · have q1 : ((((st x)[j]'hsz).toNat : Int) == 13) = true := by rw [show (st x)[j]'hsz = 13 from hat.trans h13]; rfl
                  clear hat h13 HC h200
                  go_wp2_with fail
                  refine (HLV _ (HWX.out _ HE.out)).mono ?_
                  rintro e wz ⟨rfl, hxz⟩
                  go_wp2
                  go_ret
                  exact ⟨rfl, ((HWX.out _ HE.out)).trans hxz⟩
                have q1 : ((((st x)[j]'hsz).toNat : Int) == 13) = false := by rw [hat]; exact u8_ne 13 (by omega) h13
                by_cases h10 : x[j] = 10
                · have q2 : ((((st x)[j]'hsz).toNat : Int) == 10) = true := by rw [show (st x)[j]'hsz = 10 from hat.trans h10]; rfl
                  clear hat h13 h10 HC h200
                  go_wp2_with fail
                  refine (HLV _ (HWX.out _ HE.out)).mono ?_
                  rintro e wz ⟨rfl, hxz⟩
                  go_wp2
                  go_ret
                  exact ⟨rfl, ((HWX.out _ HE.out)).trans hxz⟩
                have q2 : ((((st x)[j]'hsz).toNat : Int) == 10) = false := by rw [hat]; exact u8_ne 10 (by omega) h10
                by_cases hll : 200 < x.length
                · have q3 : (200 : Int) < (x.length : Int) := by omega
                  clear hat h13 h10 HC h200 hll
                  go_wp2_with fail
                  refine (HLV _ (HWX.out _ HE.out)).mono ?_
                  rintro e wz ⟨rfl, hxz⟩
                  go_wp2
                  go_ret
                  exact ⟨rfl, ((HWX.out _ HE.out)).trans hxz⟩
                have q3 : ¬ (200 : Int) < (x.length : Int) := by omega
                have HC2 : Hid (∀ m (h : m < x.length), m < j + 1 → x[m] ≠ 13 ∧ x[m] ≠ 10) := Lib.hid fun m h hm => by
                  rcases Nat.lt_or_ge m j with h' | h'
                  · exact HC.out m h h'
                  · obtain rfl : m = j := by omega
                    exact ⟨h13, h10⟩
                clear hat h13 h10 HC h200
                go_wp2
                go_roundw
                case rel => exact ⟨j + 1, by go_num, by omega, by first | trivial | rfl, HC2, fun _ => by omega⟩
                case measure => simp [intOf]; omega
              have hjl' : ¬ (j : Int) < (x.length : Int) := by omega
              have HCL : Hid (∀ c ∈ x, c ≠ 13) := Lib.hid fun c hc => by
                obtain ⟨m, hm, rfl⟩ := List.mem_iff_getElem.1 hc
                exact (HC.out m hm (by omega)).1
              have hxl : x.length ≤ 200 := by
                rcases Nat.eq_zero_or_pos j with h0 | h0
                · omega
                · exact h200 h0
              clear HC h200 hjl hj
              have ea : (⟨#[109, 97, 105, 108, 32, 102, 114, 111, 109, 58]⟩ : ByteArray) ++ st x = st (mailW ++ x) := st_append _ _
              have eb : st (mailW ++ x) ++ (⟨#[13, 10]⟩ : ByteArray) = st (mailW ++ (x ++ [13, 10])) := by rw [show (⟨#[13, 10]⟩ : ByteArray) = st [13, 10] from rfl, st_append, List.append_assoc]
              have hml : mailW.length = 10 := rfl
              obtain ⟨cap, W, hcv, hxW, hmut, hcap⟩ := conv_bytes wr (st (mailW ++ (x ++ [13, 10])))
              rw [st_len] at hcv
              have hbW : Bs W (some ⟨wr.heap.size, 0, none⟩) (mailW ++ (x ++ [13, 10])) := by have := hmut.bs; rwa [tl_st] at this
              have HFD := sfeed_any (HS.out.ext hxW) (some ⟨wr.heap.size, 0, none⟩) cap _ hbW
              rw [HI.out.feed (by simp [mailW]; omega)] at HFD
              obtain ⟨nl, hnl⟩ : ∃ nl, nl = (mailW ++ (x ++ [13, 10])).length := ⟨_, rfl⟩
              rw [← hnl] at HFD hcv
              clear hnl
              unfold pt at HFD
              have HTW := Lib.hid (HT.out.ext hxW)
              have HEW := Lib.hid (HE.out.trans hxW)
              clear hmut hcap hxW hbW HT HS
              go_wp2_with fail
              refine HFD.mono ?_
              rintro e w6 ⟨rfl, h6, hk6⟩
              have HST := sstep_any h6
              unfold Steps pt at HST
              rw [HI.out.step_mail HCL.out hxl] at HST
              have HT6 := Lib.hid (HTW.out.kept hk6 (by simp))
              have HE6 := Lib.hid (HEW.out.kept hk6 (fun k hk => HPQ.out k (by simp at hk; simp [hk])))
              clear HFD h6 hk6 HTW HEW ea eb hcv hml
              go_wp2_with fail
              refine HST.mono ?_
              rintro e w7 ⟨cs, rfl, hn, h7, hk7⟩
              obtain ⟨B1, d1, B2, d2, B3, d3, rfl⟩ := hn.form
              have HN7 := Lib.hid hn
              have HT7 := Lib.hid (HT6.out.kept hk7 (fun k hk => hk))
              have HE7 := Lib.hid (HE6.out.kept hk7 HPQ.out)
              have H7 := Lib.hid h7
              clear HST hn h7 hk7 HT6 HE6
              go_wp2_with (with_reducible first | refine stop_alloc 39 ?_ | refine stop_store 39 ?_ | refine stop_load 39 ?_)
              refine go_on (wpList_alloc_ rfl rfl aout_info ?_)
              go_wp2_with (with_reducible first | refine stop_alloc 39 ?_ | refine stop_store 39 ?_ | refine stop_load 39 ?_)
              refine go_on (wpList_store_last rfl rfl rfl rfl (aout_size outC_size) rfl outC_one ?_)
              intro w8 hrow8 hx8 hz8
              have b0 := (row9_at hrow8).1 w8 (Ext.refl _)
              have hrs8 := (HN7.out.rows [] (by simp)).1.kept (.of_ext hx8)
              have HT8 := Lib.hid (HT7.out.ext hx8)
              have H8 := Lib.hid (H7.out.ext hx8)
              have he8 := HE7.out.trans hx8
              have HE8 := Lib.hid he8
              have c8 := hcs _ he8
              obtain ⟨adm, rfl, hcm⟩ := RSt.at_ hrs8 (k := 0) (by simp [sayO])
              rw [sl_add0] at hcm
              replace hcm : w8.cell? adm = some (.string (st (mailT s (wFrom ++ x)).1)) := hcm w8 (Ext.refl _)
              replace b0 : w8.cell? ⟨w7.heap.size, 0, none⟩ = some (.slice (some adm) 1 d1) := b0
              generalize w7.heap.size = g7 at *
              clear hrs8 hrow8 hx8 hz8 he8 HT7 H7 HE7 HN7 cx
              rcases HI.out.mail x with ⟨m1, rfl, m3⟩ | ⟨m1, m3⟩
              · rw [m1] at hcm
                replace hcm : w8.cell? adm = some (.string ⟨#[50, 53, 48, 32, 111, 107]⟩) := hcm
                have HI8 := Lib.hid m3
                clear m1 m3 HI
                generalize (mailT s (wFrom ++ x)).2 = s8 at *
                go_wp2
                go_roundw
                case rel => (repeat apply Exists.intro); exact ⟨⟨i + 1, s8, x, true, rfl, rfl, by go_num, by omega, by omega, HT8, H8, HI8, HE8⟩, rfl⟩
                case measure => simp [intOf]; omega
              · have m1' : ((mailT s (wFrom ++ x)).1 == [50, 53, 48, 32, 111, 107]) = false := beq_eq_false_iff_ne.2 m1
                have HI8 := Lib.hid m3
                clear m1 m3 HI
                generalize (mailT s (wFrom ++ x)).2 = s8 at *
                generalize (mailT s (wFrom ++ x)).1 = m at *
                go_wp2
                go_roundw
                case rel => (repeat apply Exists.intro); exact ⟨⟨i + 1, s8, f, n, rfl, rfl, by go_num, by omega, by omega, HT8, H8, HI8, HE8⟩, rfl⟩
                case measure => simp [intOf]; omega
          · have hor : ¬ (i : Int) < (fs.length : Int) ∨ ((i : Int) < (fs.length : Int) ∧ ¬ (i : Int) < 10) := by omega
            clear hlt
            rcases hor with g1 | ⟨g1, g2⟩
            all_goals
              go_wp2
              go_roundw
              case rel => exact ⟨1, s, f, n, [], rfl, rfl, by go_num, by omega, by simp, fun _ => rfl, Lib.hid (fun y hy => by cases hy), HT, HS, HI, HE⟩
              case measure => simp [intOf]
    · as_aux_lemma =>
        have o0 := HO0.out _ HE.out
        have o1 := HO1.out _ HE.out
        obtain rfl := htk (by omega)
        clear htk hk
        go_wp2
        go_loopw [5, 6, 7, 11] (fun fv nv tv iv wr => ∃ (i : Nat) (s : Se) (f : By) (n : Bool) (t : List By), fv = .string (st f) ∧ nv = .bool n ∧ iv = .int .i64 i ∧ i ≤ ts.length ∧ i ≤ 10 ∧ t.length ≤ i ∧ Hid (∀ y ∈ t, y.length ≤ 200) ∧ Hid (TwoR [p, q] wr b tv (.slice none 0 0) t []) ∧ Hid (IsS (bl tv (.slice none 0 0) [p, q]) wr p q s) ∧ Hid (SI s f n t) ∧ Hid (Ext w0 wr)) (fun _ _ _ iv _ => 10 - (intOf iv).toNat)
        case atStart => exact ⟨0, s, f, n, [], rfl, rfl, rfl, by omega, by omega, by simp, Lib.hid (fun y hy => by cases hy), HT, HS, HI, HE⟩
        case round =>
          clear o0 o1 HT HS HI HE htl
          obtain ⟨i, s, f, n, t, rfl, rfl, rfl, hi1, hi2, hti, HTL, HT, HS, HI, HE⟩ := hrel
          by_cases hlt : i < ts.length ∧ i < 10
          · obtain ⟨l1, l2⟩ := hlt
            have l1' : (i : Int) < (ts.length : Int) := by omega
            have l2' : (i : Int) < 10 := by omega
            obtain ⟨ad, rfl, hcs⟩ := RSt.at_ HTO.out l1
            generalize ts[i] = x at *
            obtain ⟨wo, rfl⟩ : ∃ wo, wo = wr := ⟨wr, rfl⟩
            have cx := hcs _ HE.out
            go_wp2
            go_loopw [12] (fun jv wr => ∃ j : Nat, jv = .int .i64 j ∧ j ≤ x.length ∧ wr = wo ∧ Hid (∀ m (h : m < x.length), m < j → x[m] ≠ 13 ∧ x[m] ≠ 10) ∧ (0 < j → x.length ≤ 200)) (fun jv _ => x.length - (intOf jv).toNat)
            case atStart => exact ⟨0, rfl, by omega, rfl, Lib.hid (fun m h hm => by omega), fun h => by omega⟩
            case round =>
              obtain ⟨j, rfl, hj, rfl, HC, h200⟩ := hrel
              by_cases hjl : j < x.length
              · have hjl' : (j : Int) < (x.length : Int) := by omega
                have hsz : j < (st x).size := by rw [st_len]; exact hjl
                have hat := st_at x j hsz
                by_cases h13 : x[j] = 13
                · have q1 : ((((st x)[j]'hsz).toNat : Int) == 13) = true := by rw [show (st x)[j]'hsz = 13 from hat.trans h13]; rfl
                  clear hat h13 HC h200
                  go_wp2_with fail
                  refine (HLV _ (HWX.out _ HE.out)).mono ?_
                  rintro e wz ⟨rfl, hxz⟩
                  go_wp2
                  go_ret
                  exact ⟨rfl, ((HWX.out _ HE.out)).trans hxz⟩
                have q1 : ((((st x)[j]'hsz).toNat : Int) == 13) = false := by rw [hat]; exact u8_ne 13 (by omega) h13
                by_cases h10 : x[j] = 10
                · have q2 : ((((st x)[j]'hsz).toNat : Int) == 10) = true := by rw [show (st x)[j]'hsz = 10 from hat.trans h10]; rfl
                  clear hat h13 h10 HC h200
                  go_wp2_with fail
                  refine (HLV _ (HWX.out _ HE.out)).mono ?_
                  rintro e wz ⟨rfl, hxz⟩
                  go_wp2
                  go_ret
                  exact ⟨rfl, ((HWX.out _ HE.out)).trans hxz⟩
                have q2 : ((((st x)[j]'hsz).toNat : Int) == 10) = false := by rw [hat]; exact u8_ne 10 (by omega) h10
                by_cases hll : 200 < x.length
                · have q3 : (200 : Int) < (x.length : Int) := by omega
                  clear hat h13 h10 HC h200 hll
                  go_wp2_with fail
                  refine (HLV _ (HWX.out _ HE.out)).mono ?_
                  rintro e wz ⟨rfl, hxz⟩
                  go_wp2
                  go_ret
                  exact ⟨rfl, ((HWX.out _ HE.out)).trans hxz⟩
                have q3 : ¬ (200 : Int) < (x.length : Int) := by omega
                have HC2 : Hid (∀ m (h : m < x.length), m < j + 1 → x[m] ≠ 13 ∧ x[m] ≠ 10) := Lib.hid fun m h hm => by
                  rcases Nat.lt_or_ge m j with h' | h'
                  · exact HC.out m h h'
                  · obtain rfl : m = j := by omega
                    exact ⟨h13, h10⟩
                clear hat h13 h10 HC h200
                go_wp2
                go_roundw
                case rel => exact ⟨j + 1, by go_num, by omega, by first | trivial | rfl, HC2, fun _ => by omega⟩
                case measure => simp [intOf]; omega
              have hjl' : ¬ (j : Int) < (x.length : Int) := by omega
              have HCL : Hid (∀ c ∈ x, c ≠ 13) := Lib.hid fun c hc => by
                obtain ⟨m, hm, rfl⟩ := List.mem_iff_getElem.1 hc
                exact (HC.out m hm (by omega)).1
              have hxl : x.length ≤ 200 := by
                rcases Nat.eq_zero_or_pos j with h0 | h0
                · omega
                · exact h200 h0
              clear HC h200 hjl hj
              have ea : (⟨#[114, 99, 112, 116, 32, 116, 111, 58]⟩ : ByteArray) ++ st x = st (rcptW ++ x) := st_append _ _
              have eb : st (rcptW ++ x) ++ (⟨#[13, 10]⟩ : ByteArray) = st (rcptW ++ (x ++ [13, 10])) := by rw [show (⟨#[13, 10]⟩ : ByteArray) = st [13, 10] from rfl, st_append, List.append_assoc]
              have hml : rcptW.length = 8 := rfl
              obtain ⟨cap, W, hcv, hxW, hmut, hcap⟩ := conv_bytes wr (st (rcptW ++ (x ++ [13, 10])))
              rw [st_len] at hcv
              have hbW : Bs W (some ⟨wr.heap.size, 0, none⟩) (rcptW ++ (x ++ [13, 10])) := by have := hmut.bs; rwa [tl_st] at this
              have HFD := sfeed_any (HS.out.ext hxW) (some ⟨wr.heap.size, 0, none⟩) cap _ hbW
              rw [HI.out.feed (by simp [rcptW]; omega)] at HFD
              obtain ⟨nl, hnl⟩ : ∃ nl, nl = (rcptW ++ (x ++ [13, 10])).length := ⟨_, rfl⟩
              rw [← hnl] at HFD hcv
              clear hnl
              unfold pt at HFD
              have HTW := Lib.hid (HT.out.ext hxW)
              have HEW := Lib.hid (HE.out.trans hxW)
              clear hmut hcap hxW hbW HT HS
              go_wp2_with fail
              refine HFD.mono ?_
              rintro e w6 ⟨rfl, h6, hk6⟩
              have HST := sstep_any h6
              unfold Steps pt at HST
              rw [HI.out.step_rcpt HCL.out hxl] at HST
              have HT6 := Lib.hid (HTW.out.kept hk6 (by simp))
              have HE6 := Lib.hid (HEW.out.kept hk6 (fun k hk => HPQ.out k (by simp at hk; simp [hk])))
              clear HFD h6 hk6 HTW HEW ea eb hcv hml
              go_wp2_with fail
              refine HST.mono ?_
              rintro e w7 ⟨cs, rfl, hn, h7, hk7⟩
              obtain ⟨B1, d1, B2, d2, B3, d3, rfl⟩ := hn.form
              have HN7 := Lib.hid hn
              have HT7 := Lib.hid (HT6.out.kept hk7 (fun k hk => hk))
              have HE7 := Lib.hid (HE6.out.kept hk7 HPQ.out)
              have H7 := Lib.hid h7
              clear HST hn h7 hk7 HT6 HE6
              go_wp2_with (with_reducible first | refine stop_alloc 39 ?_ | refine stop_store 39 ?_ | refine stop_load 39 ?_)
              refine go_on (wpList_alloc_ rfl rfl aout_info ?_)
              go_wp2_with (with_reducible first | refine stop_alloc 39 ?_ | refine stop_store 39 ?_ | refine stop_load 39 ?_)
              refine go_on (wpList_store_last rfl rfl rfl rfl (aout_size outC_size) rfl outC_one ?_)
              intro w8 hrow8 hx8 hz8
              have b0 := (row9_at hrow8).1 w8 (Ext.refl _)
              have hrs8 := (HN7.out.rows [] (by simp)).1.kept (.of_ext hx8)
              have HT8 := Lib.hid (HT7.out.ext hx8)
              have H8 := Lib.hid (H7.out.ext hx8)
              have he8 := HE7.out.trans hx8
              have HE8 := Lib.hid he8
              have c8 := hcs _ he8
              obtain ⟨adm, rfl, hcm⟩ := RSt.at_ hrs8 (k := 0) (by simp [sayO])
              rw [sl_add0] at hcm
              replace hcm : w8.cell? adm = some (.string (st (rcptT s (wTo ++ x)).1)) := hcm w8 (Ext.refl _)
              replace b0 : w8.cell? ⟨w7.heap.size, 0, none⟩ = some (.slice (some adm) 1 d1) := b0
              generalize w7.heap.size = g7 at *
              clear hrs8 hrow8 hx8 hz8 he8 HT7 H7 HE7 HN7 cx
              rcases HI.out.rcpt x with ⟨m1, m3⟩ | ⟨m1, m3⟩; rotate_left
              · have m1' : ((rcptT s (wTo ++ x)).1 == [50, 53, 48, 32, 111, 107]) = false := beq_eq_false_iff_ne.2 m1
                have HI8 := Lib.hid m3
                clear m1 m3 HI
                generalize (rcptT s (wTo ++ x)).2 = s8 at *
                generalize (rcptT s (wTo ++ x)).1 = m at *
                go_wp2
                go_roundw
                case rel => (repeat apply Exists.intro); exact ⟨⟨i + 1, s8, f, n, t, rfl, rfl, by go_num, by omega, by omega, by omega, HTL, HT8, H8, HI8, HE8⟩, rfl⟩
                case measure => simp [intOf]; omega
              rw [m1] at hcm
              replace hcm : w8.cell? adm = some (.string ⟨#[50, 53, 48, 32, 111, 107]⟩) := hcm
              have HI8 := Lib.hid m3
              clear m1 m3 HI
              generalize (rcptT s (wTo ++ x)).2 = s8 at *
              go_wp2_with fail
              refine (rlower_st x w8 (by omega)).mono ?_
              rintro e w9 ⟨rfl, hx9⟩
              have HT9 := Lib.hid (HT8.out.ext hx9)
              have H9 := Lib.hid (H8.out.ext hx9)
              have HE9 := Lib.hid (HE8.out.trans hx9)
              obtain ⟨At, ct, rfl⟩ := HT9.out.o.form
              have HTO9 := Lib.hid (HT9.out.readO (N := []) (by simp))
              clear hx9 HT8 H8 HE8 hcm b0 c8
              go_wp2
              go_loopw [16, 17] (fun kv jv wr => ∃ j : Nat, jv = .int .i64 j ∧ j ≤ t.length ∧ kv = .bool ((t.take j).any fun y => decide (lowL y = lowL x)) ∧ Ext w9 wr) (fun _ jv _ => t.length - (intOf jv).toNat)
              case atStart => exact ⟨0, rfl, by omega, rfl, Ext.refl _⟩
              case round =>
                obtain ⟨j, rfl, hj, rfl, hx⟩ := hrel
                by_cases hjl : j < t.length
                · have hjl' : (j : Int) < (t.length : Int) := by omega
                  obtain ⟨adt, rfl, hct⟩ := RSt.at_ HTO9.out hjl
                  have ct0 := hct _ hx
                  have hyl := HTL.out t[j] (List.getElem_mem hjl)
                  have HAN : Hid (((t.take (j + 1)).any fun y => decide (lowL y = lowL x)) = (((t.take j).any fun y => decide (lowL y = lowL x)) || decide (lowL t[j] = lowL x))) := Lib.hid (by rw [List.take_add_one, List.getElem?_eq_getElem hjl, List.any_append]; simp)
                  generalize t[j] = y at *
                  cases hkn : (t.take j).any fun y => decide (lowL y = lowL x) with
                  | true =>
                    rw [hkn] at HAN
                    go_wp2
                    go_roundw
                    case rel => exact ⟨j + 1, by go_num, by omega, by rw [HAN.out]; rfl, hx⟩
                    case measure => simp [intOf]; omega
                  | false =>
                    rw [hkn] at HAN
                    have HRL := rlower_st y wr (by omega)
                    go_wp2_with fail
                    refine HRL.mono ?_
                    rintro e w10 ⟨rfl, hx10⟩
                    have HX10 := Lib.hid (hx.trans hx10)
                    clear HRL hx10
                    go_wp2
                    go_roundw
                    case rel => exact ⟨j + 1, by go_num, by omega, by rw [HAN.out, Bool.false_or]; congr 1; rw [Bool.eq_iff_iff, beq_iff_eq, decide_eq_true_iff], HX10.out⟩
                    case measure => simp [intOf]; omega
                have hjl' : ¬ (j : Int) < (t.length : Int) := by omega
                obtain rfl : j = t.length := by omega
                rw [List.take_length]
                have HT10 := Lib.hid (HT9.out.ext hx)
                have H10 := Lib.hid (H9.out.ext hx)
                have HE10 := Lib.hid (HE9.out.trans hx)
                cases hkn : t.any fun y => decide (lowL y = lowL x) with
                | true =>
                  rw [hkn, if_pos rfl] at HI8
                  clear hkn hjl hj
                  go_wp2
                  go_roundw
                  case rel => (repeat apply Exists.intro); exact ⟨⟨i + 1, s8, f, n, t, rfl, rfl, by go_num, by omega, by omega, by omega, HTL, HT10, H10, HI8, HE10⟩, rfl⟩
                  case measure => simp [intOf]; omega
                | false =>
                  rw [hkn, if_neg (by simp)] at HI8
                  have c10 := hcs _ HE10.out
                  clear hkn hjl hj
                  go_wp2_with (at_builtin; refine unstop ?_)
                  have hs11 := strs_one wr x 9 wr.heap.size (Nat.le_refl _) [] (by simp)
                  have hx11 : Ext wr (wr.alloc (.cells #[.string (st x)] 9)) := (Ext.refl _).alloc _
                  refine go_on (wpList_appO rfl (HT10.out.ext hx11) HBM.out.1 hs11 rfl rfl rfl rfl (by simp; omega) ?_)
                  intro vo12 w12 hT12 hk12 _ hS12
                  have HT12 := Lib.hid hT12
                  have H12 := Lib.hid (hS12 p q _ (by simp) (by simp) (H10.out.ext hx11))
                  have HE12 := Lib.hid ((HE10.out.trans hx11).kept hk12 (fun k hk => Nat.le_trans HBM.out.2 (HT10.out.o.lt k (by simpa using hk)).1))
                  have HTL12 : Hid (∀ y ∈ t ++ [x], y.length ≤ 200) := Lib.hid fun y hy => by
                    rcases List.mem_append.1 hy with h1 | h1
                    · exact HTL.out y h1
                    · simp at h1; subst h1; exact hxl
                  clear hT12 hk12 hS12 hs11 hx11 c10
                  go_wp2
                  go_roundw
                  case rel => (repeat apply Exists.intro); exact ⟨⟨i + 1, s8, f, n, t ++ [x], rfl, rfl, by go_num, by omega, by omega, by simp; omega, HTL12, HT12, H12, HI8, HE12⟩, rfl⟩
                  case measure => simp [intOf]; omega
          · have hor : ¬ (i : Int) < (ts.length : Int) ∨ ((i : Int) < (ts.length : Int) ∧ ¬ (i : Int) < 10) := by omega
            clear hlt
            rcases hor with g1 | ⟨g1, g2⟩
            all_goals
              go_wp2
              go_roundw
              case rel => exact ⟨2, s, f, n, t, rfl, rfl, by go_num, by omega, by omega, fun h => by omega, HTL, HT, HS, HI, HE⟩
              case measure => simp [intOf]
    · clear htk hk
      have o2 := HO2.out _ HE.out
      have HBW := Lib.hid (HBO.out.ext HE.out)
      obtain ⟨At, ct, hvt⟩ := HT.out.o.form
      subst hvt
      have o2a := fun (o : Obj) => Lib.cell?_alloc_marked o o2
      go_wp2_with fail
      generalize hw2 : wr.alloc _ = w2
      have hx2 : Ext wr w2 := hw2 ▸ (Ext.refl _).alloc _
      have hb2 : Bs w2 (some ⟨wr.heap.size, 0, none⟩) (dataW ++ [13, 10]) := by rw [← hw2]; exact Bs.new wr [100, 97, 116, 97, 13, 10] _ rfl 5 (6, 7)
      refine (RStuff_any A3 body.length c3 body w2 (HBW.out.ext hx2) rfl (by omega)).mono ?_
      rintro e w3 ⟨v3, rfl, ho3, hx3⟩
      obtain ⟨A4, c4, rfl⟩ := ho3.form
      have hb3 := hb2.ext hx3
      have hbs3 := ho3.bs
      have hsl := stuffed_len body
      have hpos := stuffed_pos body
      have HX3 := Lib.hid (hx2.trans hx3)
      generalize hgl : (stuffed body).length = ln at *
      have HGL := Lib.hid hgl
      clear hw2 hx2 hb2 ho3 hx3 hgl o2 o2a
      go_wp2_with (at_builtin; refine unstop ?_)
      refine go_on (wpList_appL hb3 hbs3 rfl rfl rfl rfl rfl HGL.out.symm hpos (by rw [HGL.out]; simp [dataW]; omega) ?_)
      intro v5 w5 ho5 hx5
      obtain ⟨A5, c5, rfl⟩ := ho5.form
      have HFD := sfeed_any (HS.out.ext (HX3.out.trans hx5)) A5 c5 (dataW ++ [13, 10] ++ stuffed body) ho5.bs
      rw [HI.out.feed (by rw [List.length_append, HGL.out]; simp [dataW]; omega)] at HFD
      clear ho5
      generalize (dataW ++ [13, 10] ++ stuffed body).length = n5 at *
      have HT5 := Lib.hid (HT.out.ext (HX3.out.trans hx5))
      have HE5 := Lib.hid (HE.out.trans (HX3.out.trans hx5))
      unfold pt at HFD
      clear hx5 hb3 hbs3 HS HT HX3 HBW
      go_wp2_with fail
      refine HFD.mono ?_
      rintro e w6 ⟨rfl, h6, hk6⟩
      have HST := sstep_any h6
      unfold Steps pt at HST
      have HT6 := Lib.hid (HT5.out.kept hk6 (by simp))
      have HE6 := Lib.hid (HE5.out.kept hk6 (fun k hk => HPQ.out k (by simp at hk; simp [hk])))
      clear HFD h6 hk6 HT5 HE5
      rcases data_step HI.out (stuffed body) with ⟨d1, d2, d3⟩ | ⟨d1, bb, s4, d2, d3⟩; rotate_left
      · rw [d3] at HST
        have d2' : (bb == [51, 53, 52, 32, 103, 111, 32, 111, 110]) = false := beq_eq_false_iff_ne.2 d2
        have hnt : n = false ∨ (n = true ∧ t.length = 0) := by
          cases n with
          | false => exact .inl rfl
          | true =>
            rcases d1 with d1 | d1
            · cases d1
            · exact .inr ⟨rfl, by rw [d1]; rfl⟩
        clear d1 d2 d3
        go_wp2_with fail
        refine HST.mono ?_
        rintro e w7 ⟨cs, rfl, hn, h7, hk7⟩
        obtain ⟨B1, q1, B2, q2, B3, q3, rfl⟩ := hn.form
        have HE7 := Lib.hid (HE6.out.kept hk7 HPQ.out)
        have HN7 := Lib.hid hn
        clear HST hn h7 hk7 HT6 HE6
        go_wp2_with (with_reducible first | refine stop_alloc 39 ?_ | refine stop_store 39 ?_ | refine stop_load 39 ?_)
        refine go_on (wpList_alloc_ rfl rfl aout_info ?_)
        go_wp2_with (with_reducible first | refine stop_alloc 39 ?_ | refine stop_store 39 ?_ | refine stop_load 39 ?_)
        refine go_on (wpList_store_last rfl rfl rfl rfl (aout_size outC_size) rfl outC_one ?_)
        intro w8 hrow8 hx8 hz8
        have b0 := (row9_at hrow8).1 w8 (Ext.refl _)
        have hrs8 := (HN7.out.rows [] (by simp)).1.kept (.of_ext hx8)
        have HE8 := Lib.hid (HE7.out.trans hx8)
        obtain ⟨adm, rfl, hcm⟩ := RSt.at_ hrs8 (k := 0) (by simp [sayO])
        rw [sl_add0] at hcm
        replace hcm : w8.cell? adm = some (.string (st bb)) := hcm w8 (Ext.refl _)
        replace b0 : w8.cell? ⟨w7.heap.size, 0, none⟩ = some (.slice (some adm) 1 q1) := b0
        generalize w7.heap.size = g7 at *
        clear hrs8 hrow8 hx8 hz8 HE7 HN7
        rcases hnt with rfl | ⟨rfl, h0⟩
        · have hzz := HE8
          go_wp2_with fail
          refine (HLV w8 (HWX.out _ HE8.out)).mono ?_
          rintro e wz ⟨rfl, hxz⟩
          go_wp2
          go_ret
          exact ⟨rfl, ((HWX.out _ HE8.out)).trans hxz⟩
        · rw [h0]
          go_wp2_with fail
          refine (HLV w8 (HWX.out _ HE8.out)).mono ?_
          rintro e wz ⟨rfl, hxz⟩
          go_wp2
          go_ret
          exact ⟨rfl, ((HWX.out _ HE8.out)).trans hxz⟩
      obtain rfl := d1
      rw [d3] at HST
      have h0 : (!decide (0 < t.length)) = false := by
        have : t.length ≠ 0 := fun h => d2 (List.eq_nil_of_length_eq_zero h)
        simp; omega
      have hf2 : ¬ (f.length : Int) < 2 := by
        rcases HI.out.st with ⟨h, _⟩ | ⟨_, _, h⟩
        · cases h
        · omega
      clear d2 d3
      go_wp2_with fail
      refine HST.mono ?_
      rintro e w7 ⟨cs, rfl, hn, h7, hk7⟩
      obtain ⟨B1, q1, B2, q2, B3, q3, rfl⟩ := hn.form
      have HE7 := Lib.hid (HE6.out.kept hk7 HPQ.out)
      have HT7 := Lib.hid (HT6.out.kept hk7 (fun k hk => hk))
      have H7 := Lib.hid h7
      have HN7 := Lib.hid hn
      clear HST hn h7 hk7 HT6 HE6
      go_wp2_with (with_reducible first | refine stop_alloc 39 ?_ | refine stop_store 39 ?_ | refine stop_load 39 ?_)
      refine go_on (wpList_alloc_ rfl rfl aout_info ?_)
      go_wp2_with (with_reducible first | refine stop_alloc 39 ?_ | refine stop_store 39 ?_ | refine stop_load 39 ?_)
      refine go_on (wpList_store_last rfl rfl rfl rfl (aout_size outC_size) rfl outC_one ?_)
      intro w8 hrow8 hx8 hz8
      have b0 := (row9_at hrow8).1 w8 (Ext.refl _)
      have hrs8 := (HN7.out.rows [] (by simp)).1.kept (.of_ext hx8)
      have HE8 := Lib.hid (HE7.out.trans hx8)
      have HT8 := Lib.hid (HT7.out.ext hx8)
      have H8 := Lib.hid (H7.out.ext hx8)
      obtain ⟨adm, rfl, hcm⟩ := RSt.at_ hrs8 (k := 0) (by simp [sayO])
      rw [sl_add0] at hcm
      replace hcm : w8.cell? adm = some (.string ⟨#[51, 53, 52, 32, 103, 111, 32, 111, 110]⟩) := hcm w8 (Ext.refl _)
      replace b0 : w8.cell? ⟨w7.heap.size, 0, none⟩ = some (.slice (some adm) 1 q1) := b0
      have o2 := HO2.out _ HE8.out
      generalize w7.heap.size = g7 at *
      clear hrs8 hrow8 hx8 hz8 HE7 HN7 HT7 H7
      go_wp2_with fail
      refine (LStuff_any A3 body.length c3 body w8 (HBO.out.ext HE8.out) rfl (by omega)).mono ?_
      rintro e w9 ⟨v9, rfl, ho9, hx9⟩
      obtain ⟨A9, c9, rfl⟩ := ho9.form
      obtain ⟨u1, u2, u3⟩ := un_stuffed body []
      rw [List.append_nil] at u1 u2 u3
      have HU := LUnstuff_any A9 (stuffed body).length c9 (stuffed body) w9 ho9.bs rfl ho9.cap.1 (own_nil ho9) ((H8.out.ext hx9).ml) (by rw [HGL.out]; omega)
      unfold UnSays at HU
      rw [u1, u2, u3] at HU
      have HST := fun V (hv : Ext w9 V) => sstep_any (H8.out.ext (hx9.trans hv))
      have HX9 := Lib.hid hx9
      clear ho9 hx9 u1 u2 u3 hcm b0 o2
      generalize (stuffed body).length = l9 at *
      go_wp2_with fail
      refine HU.mono ?_
      rintro e w10 ⟨A10, c10, rfl, ho10, hx10⟩
      have HST := HST w10 hx10
      unfold Steps pt at HST
      rw [body_step (p := body) rfl rfl] at HST
      have HO10 := Lib.hid (BsM.own (M := [p, q]) ho10 (fun k hk => by have := H8.out.lt k (mem_bl.2 (.inr (.inr hk))); have := HX9.out.size; omega))
      have HE10 := Lib.hid (HE8.out.trans (HX9.out.trans hx10))
      have HT10 := Lib.hid (HT8.out.ext (HX9.out.trans hx10))
      clear HU ho10 hx10 H8 HE8 HT8 HX9
      by_cases hbg : 600 < (whole body).length
      · have hle : ¬ ((whole body).length : Int) ≤ 600 := by omega
        rw [if_pos hbg] at HST
        clear hbg HT10 HO10
        generalize (whole body).length = wl at *
        go_wp2_with fail
        refine HST.mono ?_
        rintro e w11 ⟨cs, rfl, hn, h11, hk11⟩
        obtain ⟨C1, r1, C2, r2, C3, r3, rfl⟩ := hn.form
        have HE11 := Lib.hid (HE10.out.kept hk11 HPQ.out)
        have HN11 := Lib.hid hn
        clear HST hn h11 hk11 HE10
        go_wp2_with (with_reducible first | refine stop_alloc 39 ?_ | refine stop_store 39 ?_ | refine stop_load 39 ?_)
        refine go_on (wpList_alloc_ rfl rfl aout_info ?_)
        go_wp2_with (with_reducible first | refine stop_alloc 39 ?_ | refine stop_store 39 ?_ | refine stop_load 39 ?_)
        refine go_on (wpList_store_last rfl rfl rfl rfl (aout_size outC_size) rfl outC_one ?_)
        intro w12 hrow12 hx12 hz12
        have HR12 := Lib.hid hrow12
        have b1 := (row9_at hrow12).2.1 w12 (Ext.refl _)
        have hrs12 := (HN11.out.rows [] (by simp)).1.kept (.of_ext hx12)
        have HE12 := Lib.hid (HE11.out.trans hx12)
        obtain ⟨adm2, rfl, hcm2⟩ := RSt.at_ hrs12 (k := 0) (by simp [sayO])
        rw [sl_add0] at hcm2
        have HCM : Hid (∀ V, Ext w12 V → V.cell? adm2 = some (.string ⟨#[53, 53, 50, 32, 116, 111, 111, 32, 108, 111, 110, 103]⟩)) := Lib.hid hcm2
        have HB0 : Hid (∀ V, Ext w12 V → V.cell? ⟨w11.heap.size, 0, none⟩ = some (.slice (some adm2) 1 r1)) := Lib.hid (row9_at HR12.out).1
        replace b1 : w12.cell? ⟨w11.heap.size, 1, none⟩ = some (.bool false) := b1
        generalize w11.heap.size = g11 at *
        clear hrs12 hrow12 hx12 hz12 HE11 HN11 hcm2 HR12
        go_wp2_with fail
        refine (HLV w12 (HWX.out _ HE12.out)).mono ?_
        rintro e w13 ⟨rfl, hx13⟩
        have z1 := HCM.out w13 hx13
        have z2 := HB0.out w13 hx13
        have HEE := Lib.hid ((HWX.out _ HE12.out).trans hx13)
        clear hx13 b1
        go_wp2
        go_ret
        exact ⟨rfl, HEE.out⟩
      have hle : ((whole body).length : Int) ≤ 600 := by omega
      rw [if_neg hbg] at HST
      clear hbg
      go_wp2_with fail
      refine HST.mono ?_
      rintro e w11 ⟨cs, rfl, hn, h11, hk11⟩
      obtain ⟨C1, r1, C2, r2, C3, r3, rfl⟩ := hn.form
      have HE11 := Lib.hid (HE10.out.kept hk11 HPQ.out)
      have HT11 := Lib.hid (HT10.out.kept hk11 (fun k hk => hk))
      have HO11 := Lib.hid (HO10.out.kept hk11)
      have H11 := Lib.hid h11
      have HN11 := Lib.hid hn
      clear HST hn h11 hk11 HE10 HT10 HO10
      go_wp2_with (with_reducible first | refine stop_alloc 39 ?_ | refine stop_store 39 ?_ | refine stop_load 39 ?_)
      refine go_on (wpList_alloc_ rfl rfl aout_info ?_)
      go_wp2_with (with_reducible first | refine stop_alloc 39 ?_ | refine stop_store 39 ?_ | refine stop_load 39 ?_)
      refine go_on (wpList_store_last rfl rfl rfl rfl (aout_size outC_size) rfl outC_one ?_)
      intro w12 hrow12 hx12 hz12
      obtain ⟨-, k1, k4, k5, -, -, -, -⟩ := row9_at hrow12
      have b1 := k1 w12 (Ext.refl _)
      have b4 := k4 w12 (Ext.refl _)
      have b5 := k5 w12 (Ext.refl _)
      have hrr := HN11.out.rows [] (by simp)
      have cv1 := run_str (P := Try.prog) Try.underlying22 Try.underlying5 Try.underlying9 (hrr.2.2.bs.ext hx12) (whole body).length r3 rfl w12 (Ext.refl _)
      have cv2 := run_str (P := Try.prog) Try.underlying22 Try.underlying5 Try.underlying9 (HO11.out.bs.ext hx12) (whole body).length c10 rfl w12 (Ext.refl _)
      have HRA := Lib.hid (hrr.2.1.kept (.of_ext hx12))
      have HK4 := Lib.hid k4
      have HE12 := Lib.hid (HE11.out.trans hx12)
      have HT12 := Lib.hid (HT11.out.ext hx12)
      have HWT := swaits_any (H11.out.ext hx12)
      rw [show decide ((Se.mk [] 5 s.hello s.fl s.fd s.to_).st = 5) = true from rfl] at HWT
      unfold pt at HWT
      have hfew : ¬ (t.length : Int) < (s.to_.length : Int) := by have := HI.out.few; omega
      have HOK := Lib.hid H11.out.ok
      generalize w11.heap.size = g11 at *
      clear hrow12 hx12 hz12 hrr k1 k4 k5 HE11 HT11 HO11 HN11 H11
      go_wp2_with fail
      refine HWT.mono ?_
      rintro e w13 ⟨rfl, hx13⟩
      have HE13 := Lib.hid (HE12.out.trans hx13)
      have HK13 := Lib.hid (fun V (hv : Ext w13 V) => HK4.out V (hx13.trans hv))
      have HRA13 := Lib.hid (HRA.out.kept (.of_ext hx13))
      have HTO13 := Lib.hid ((HT12.out.ext hx13).readO (N := []) (by simp))
      clear HWT hx13 HE12 HT12 HRA HK4 cv1 cv2 b1 b4 b5
      go_wp2
      have hto4 : s.to_.length ≤ 4 := HOK.out.to_
      clear hle hf2 hfew hsl hpos
      go_loopw [25] (fun iv wr => ∃ i : Nat, iv = .int .i64 i ∧ i ≤ s.to_.length ∧ Ext w13 wr) (fun iv _ => s.to_.length - (intOf iv).toNat)
      case atStart => exact ⟨0, rfl, by omega, Ext.refl _⟩
      case round =>
        obtain ⟨i, rfl, hi, hx⟩ := hrel
        have hkk := HK13.out _ hx
        by_cases hil : i < s.to_.length
        · have hil' : (i : Int) < (s.to_.length : Int) := by omega
          obtain ⟨ad, rfl, hca⟩ := RAd.at_ HRA13.out hil
          have HGD := Lib.hid (HI.out.good s.to_[i] (List.getElem_mem hil))
          obtain ⟨hlo, hdm⟩ := HOK.out.ads s.to_[i] (List.getElem_mem hil)
          generalize s.to_[i] = a at *
          obtain ⟨lo, dm⟩ := a
          have HCA := Lib.hid hca
          have HLO : Hid (lo.length ≤ 140737488355328) := Lib.hid (by have := hlo; simp at this; omega)
          obtain ⟨u, hu⟩ : ∃ u, u = lowL lo := ⟨_, rfl⟩
          have hul : u.length ≤ 64 := by rw [hu, lowL_length]; exact hlo
          have HU := Lib.hid hu.symm
          replace hdm : dm.length ≤ 255 := hdm
          obtain ⟨T1, hT1⟩ : ∃ T, T = 60 :: u := ⟨_, rfl⟩
          obtain ⟨T2, hT2⟩ : ∃ T, T = T1 ++ [64] := ⟨_, rfl⟩
          obtain ⟨T3, hT3⟩ : ∃ T, T = T2 ++ dm := ⟨_, rfl⟩
          obtain ⟨T4, hT4⟩ : ∃ T, T = T3 ++ [62] := ⟨_, rfl⟩
          have E14 : Hid ((⟨#[60]⟩ : ByteArray) ++ st u = st T1) := Lib.hid (by rw [hT1]; exact st_append [60] u)
          have E15 : Hid (st T1 ++ (⟨#[64]⟩ : ByteArray) = st T2) := Lib.hid (by rw [hT2]; exact st_append T1 [64])
          have E22 : Hid (st T2 ++ st dm = st T3) := Lib.hid (by rw [hT3]; exact st_append T2 dm)
          have E23 : Hid (st T3 ++ (⟨#[62]⟩ : ByteArray) = st T4) := Lib.hid (by rw [hT4]; exact st_append T3 [62])
          have l1 : T1.length ≤ 65 := by rw [hT1]; simp; omega
          have l2 : T2.length ≤ 66 := by rw [hT2]; simp; omega
          have l3 : T3.length ≤ 321 := by rw [hT3]; simp; omega
          have HT4 : Hid (T4 = 60 :: (lowL lo ++ 64 :: (dm ++ [62]))) := Lib.hid (by rw [hT4, hT3, hT2, hT1, hu]; simp)
          have hs14 : ¬ 9223372036854775807 < 1 + u.length := by omega
          have hs15 : ¬ 9223372036854775807 < T1.length + 1 := by omega
          have hs22 : ¬ 9223372036854775807 < T2.length + dm.length := by omega
          have hs23 : ¬ 9223372036854775807 < T3.length + 1 := by omega
          clear hca hlo hu hT1 hT2 hT3 hT4
          go_wp2
          clear hkk
          go_loopw [26, 27] (fun fv kv wr => ∃ k : Nat, kv = .int .i64 k ∧ k ≤ t.length ∧ fv = .bool ((t.take k).any fun x => decide (lowL x = T4) || decide (x[1]? = some 34)) ∧ Ext w13 wr) (fun _ kv _ => t.length - (intOf kv).toNat)
          case atStart => exact ⟨0, rfl, by omega, rfl, hx⟩
          case round =>
            clear hx
            obtain ⟨k, rfl, hk, rfl, hxk⟩ := hrel
            by_cases hkl : k < t.length
            · have hkl' : (k : Int) < (t.length : Int) := by omega
              obtain ⟨adt, rfl, hct⟩ := RSt.at_ HTO13.out hkl
              have hyl := HTQ.out t[k] (List.getElem_mem hkl)
              have hy2 := HI.out.two t[k] (List.getElem_mem hkl)
              have HAN : Hid (((t.take (k + 1)).any fun x => decide (lowL x = T4) || decide (x[1]? = some 34)) = (((t.take k).any fun x => decide (lowL x = T4) || decide (x[1]? = some 34)) || (decide (lowL t[k] = T4) || decide (t[k][1]? = some 34)))) := Lib.hid (by rw [List.take_add_one, List.getElem?_eq_getElem hkl, List.any_append]; simp)
              generalize t[k] = y at *
              have HYL : Hid (y.length ≤ 140737488355328) := Lib.hid (by omega)
              obtain ⟨Y, hY⟩ : ∃ Y, Y = lowL y := ⟨_, rfl⟩
              have HY := Lib.hid hY.symm
              have hsz : 1 < (st y).size := by rw [st_len]; omega
              have hy1 : (1 : Int) < (y.length : Int) := by omega
              have hat := st_at y 1 hsz
              obtain ⟨qv, hqv⟩ : ∃ qv, ((((st y)[1]'hsz).toNat : Int) == 34) = qv := ⟨_, rfl⟩
              have HQV : Hid (decide (y[1]? = some 34) = qv) := Lib.hid (by
                rw [← hqv, hat, List.getElem?_eq_getElem (by omega), Bool.eq_iff_iff, decide_eq_true_iff, beq_iff_eq]
                constructor
                · intro h
                  simp at h
                  rw [h]
                  rfl
                · intro h
                  have h2 : y[1].toNat = 34 := by omega
                  rw [UInt8.toNat_inj.1 (show y[1].toNat = (34 : UInt8).toNat from h2)])
              have hks := HK13.out
              have hca0 : ∀ V, Ext w13 V → V.cell? (ad.add (i * 2)) = some (.string (st lo)) := fun V hV => by have := HCA.out V hV 0 _ rfl; rwa [sl_add0] at this
              have hca1 : ∀ V, Ext w13 V → V.cell? ⟨(ad.add (i * 2)).block, (ad.add (i * 2)).off + 1, none⟩ = some (.string (st dm)) := fun V hV => by have := HCA.out V hV 1 _ rfl; rwa [add_pos'] at this
              have e14 := E14.out
              have e15 := E15.out
              have e22 := E22.out
              have e23 := E23.out
              have hxd : Ext wr wr.drew := (Ext.refl _).drew
              clear hat hY
              cases hkn : (t.take k).any fun x => decide (lowL x = T4) || decide (x[1]? = some 34) with
              | true =>
                go_wp2_with fail
                refine wp_region_phase (S := fun V => Ext w13 V) 34 (by kernel_rfl) (by kernel_rfl) ?_ (fun hHeld => ?_)
                · exact hxk.trans hxd
                simp only [List.drop_succ_cons, List.drop_zero]
                refine name_head ?_
                intro wr0 hw0
                rw [hw0] at hHeld
                refine wpHead_take (i := 0) (v := ?_) (by rfl) (by kernel_rfl) (by kernel_rfl) (by exact fun _ _ _ h => h) (Or.inl ⟨by rfl, ?_⟩) (by assumption) ?_
                rotate_left
                · intro w hSw
                  first | (go_simp; done) | (go_simp; with_reducible rfl)
                simp only [List.getElem_toArray, List.getElem_cons_zero, Act.put, List.setIfInBounds_toArray, List.set_cons_zero, List.set_cons_succ]
                refine wpHead_take (i := 1) (v := ?_) (by rfl) (by kernel_rfl) (by kernel_rfl) (by exact fun _ _ _ h => h) (Or.inl ⟨by rfl, ?_⟩) (by assumption) ?_
                rotate_left
                · intro w hSw
                  first | (go_simp; done) | (go_simp; with_reducible rfl)
                simp only [List.getElem_toArray, List.getElem_cons_succ, List.getElem_cons_zero, Act.put, List.setIfInBounds_toArray, List.set_cons_zero, List.set_cons_succ]
                refine wpHead_take (i := 2) (v := undef) (by rfl) (by kernel_rfl) (by kernel_rfl) (by exact fun _ _ _ h => h) (Or.inr ⟨by rfl, rfl⟩) (by assumption) ?_
                simp only [List.getElem_toArray, List.getElem_cons_succ, List.getElem_cons_zero, Act.put, List.setIfInBounds_toArray, List.set_cons_zero, List.set_cons_succ]
                refine wpHead_take (i := 3) (v := undef) (by rfl) (by kernel_rfl) (by kernel_rfl) (by exact fun _ _ _ h => h) (Or.inr ⟨by rfl, rfl⟩) (by assumption) ?_
                simp only [List.getElem_toArray, List.getElem_cons_succ, List.getElem_cons_zero, Act.put, List.setIfInBounds_toArray, List.set_cons_zero, List.set_cons_succ]
                refine wpHead_take (i := 4) (v := undef) (by rfl) (by kernel_rfl) (by kernel_rfl) (by exact fun _ _ _ h => h) (Or.inr ⟨by rfl, rfl⟩) (by assumption) ?_
                simp only [List.getElem_toArray, List.getElem_cons_succ, List.getElem_cons_zero, Act.put, List.setIfInBounds_toArray, List.set_cons_zero, List.set_cons_succ]
                refine wpHead_take (i := 5) (v := undef) (by rfl) (by kernel_rfl) (by kernel_rfl) (by exact fun _ _ _ h => h) (Or.inr ⟨by rfl, rfl⟩) (by assumption) ?_
                simp only [List.getElem_toArray, List.getElem_cons_succ, List.getElem_cons_zero, Act.put, List.setIfInBounds_toArray, List.set_cons_zero, List.set_cons_succ]
                refine wpHead_take (i := 6) (v := undef) (by rfl) (by kernel_rfl) (by kernel_rfl) (by exact fun _ _ _ h => h) (Or.inr ⟨by rfl, rfl⟩) (by assumption) ?_
                simp only [List.getElem_toArray, List.getElem_cons_succ, List.getElem_cons_zero, Act.put, List.setIfInBounds_toArray, List.set_cons_zero, List.set_cons_succ]
                refine wpHead_take (i := 7) (v := undef) (by rfl) (by kernel_rfl) (by kernel_rfl) (by exact fun _ _ _ h => h) (Or.inr ⟨by rfl, rfl⟩) (by assumption) ?_
                simp only [List.getElem_toArray, List.getElem_cons_succ, List.getElem_cons_zero, Act.put, List.setIfInBounds_toArray, List.set_cons_zero, List.set_cons_succ]
                refine wpHead_take (i := 8) (v := undef) (by rfl) (by kernel_rfl) (by kernel_rfl) (by exact fun _ _ _ h => h) (Or.inr ⟨by rfl, rfl⟩) (by assumption) ?_
                simp only [List.getElem_toArray, List.getElem_cons_succ, List.getElem_cons_zero, Act.put, List.setIfInBounds_toArray, List.set_cons_zero, List.set_cons_succ]
                refine wpHead_take (i := 9) (v := undef) (by rfl) (by kernel_rfl) (by kernel_rfl) (by exact fun _ _ _ h => h) (Or.inr ⟨by rfl, rfl⟩) (by assumption) ?_
                simp only [List.getElem_toArray, List.getElem_cons_succ, List.getElem_cons_zero, Act.put, List.setIfInBounds_toArray, List.set_cons_zero, List.set_cons_succ]
                refine wpHead_take (i := 10) (v := undef) (by rfl) (by kernel_rfl) (by kernel_rfl) (by exact fun _ _ _ h => h) (Or.inr ⟨by rfl, rfl⟩) (by assumption) ?_
                simp only [List.getElem_toArray, List.getElem_cons_succ, List.getElem_cons_zero, Act.put, List.setIfInBounds_toArray, List.set_cons_zero, List.set_cons_succ]
                refine wpHead_take (i := 11) (v := undef) (by rfl) (by kernel_rfl) (by kernel_rfl) (by exact fun _ _ _ h => h) (Or.inr ⟨by rfl, rfl⟩) (by assumption) ?_
                simp only [List.getElem_toArray, List.getElem_cons_succ, List.getElem_cons_zero, Act.put, List.setIfInBounds_toArray, List.set_cons_zero, List.set_cons_succ]
                refine wpHead_take (i := 12) (v := undef) (by rfl) (by kernel_rfl) (by kernel_rfl) (by exact fun _ _ _ h => h) (Or.inr ⟨by rfl, rfl⟩) (by assumption) ?_
                simp only [List.getElem_toArray, List.getElem_cons_succ, List.getElem_cons_zero, Act.put, List.setIfInBounds_toArray, List.set_cons_zero, List.set_cons_succ]
                refine wpHead_take (i := 13) (v := undef) (by rfl) (by kernel_rfl) (by kernel_rfl) (by exact fun _ _ _ h => h) (Or.inr ⟨by rfl, rfl⟩) (by assumption) ?_
                simp only [List.getElem_toArray, List.getElem_cons_succ, List.getElem_cons_zero, Act.put, List.setIfInBounds_toArray, List.set_cons_zero, List.set_cons_succ]
                refine wpHead_take (i := 14) (v := undef) (by rfl) (by kernel_rfl) (by kernel_rfl) (by exact fun _ _ _ h => h) (Or.inr ⟨by rfl, rfl⟩) (by assumption) ?_
                simp only [List.getElem_toArray, List.getElem_cons_succ, List.getElem_cons_zero, Act.put, List.setIfInBounds_toArray, List.set_cons_zero, List.set_cons_succ]
                refine wpHead_take (i := 15) (v := undef) (by rfl) (by kernel_rfl) (by kernel_rfl) (by exact fun _ _ _ h => h) (Or.inr ⟨by rfl, rfl⟩) (by assumption) ?_
                simp only [List.getElem_toArray, List.getElem_cons_succ, List.getElem_cons_zero, Act.put, List.setIfInBounds_toArray, List.set_cons_zero, List.set_cons_succ]
                refine wpHead_take (i := 16) (v := undef) (by rfl) (by kernel_rfl) (by kernel_rfl) (by exact fun _ _ _ h => h) (Or.inr ⟨by rfl, rfl⟩) (by assumption) ?_
                simp only [List.getElem_toArray, List.getElem_cons_succ, List.getElem_cons_zero, Act.put, List.setIfInBounds_toArray, List.set_cons_zero, List.set_cons_succ]
                refine wpHead_take (i := 17) (v := undef) (by rfl) (by kernel_rfl) (by kernel_rfl) (by exact fun _ _ _ h => h) (Or.inr ⟨by rfl, rfl⟩) (by assumption) ?_
                simp only [List.getElem_toArray, List.getElem_cons_succ, List.getElem_cons_zero, Act.put, List.setIfInBounds_toArray, List.set_cons_zero, List.set_cons_succ]
                refine wpHead_take (i := 18) (v := undef) (by rfl) (by kernel_rfl) (by kernel_rfl) (by exact fun _ _ _ h => h) (Or.inr ⟨by rfl, rfl⟩) (by assumption) ?_
                simp only [List.getElem_toArray, List.getElem_cons_succ, List.getElem_cons_zero, Act.put, List.setIfInBounds_toArray, List.set_cons_zero, List.set_cons_succ]
                refine wpHead_take (i := 19) (v := undef) (by rfl) (by kernel_rfl) (by kernel_rfl) (by exact fun _ _ _ h => h) (Or.inr ⟨by rfl, rfl⟩) (by assumption) ?_
                simp only [List.getElem_toArray, List.getElem_cons_succ, List.getElem_cons_zero, Act.put, List.setIfInBounds_toArray, List.set_cons_zero, List.set_cons_succ]
                refine wpHead_take (i := 20) (v := undef) (by rfl) (by kernel_rfl) (by kernel_rfl) (by exact fun _ _ _ h => h) (Or.inr ⟨by rfl, rfl⟩) (by assumption) ?_
                simp only [List.getElem_toArray, List.getElem_cons_succ, List.getElem_cons_zero, Act.put, List.setIfInBounds_toArray, List.set_cons_zero, List.set_cons_succ]
                refine wpHead_take (i := 21) (v := undef) (by rfl) (by kernel_rfl) (by kernel_rfl) (by exact fun _ _ _ h => h) (Or.inr ⟨by rfl, rfl⟩) (by assumption) ?_
                simp only [List.getElem_toArray, List.getElem_cons_succ, List.getElem_cons_zero, Act.put, List.setIfInBounds_toArray, List.set_cons_zero, List.set_cons_succ]
                refine wpHead_take (i := 22) (v := undef) (by rfl) (by kernel_rfl) (by kernel_rfl) (by exact fun _ _ _ h => h) (Or.inr ⟨by rfl, rfl⟩) (by assumption) ?_
                simp only [List.getElem_toArray, List.getElem_cons_succ, List.getElem_cons_zero, Act.put, List.setIfInBounds_toArray, List.set_cons_zero, List.set_cons_succ]
                refine wpHead_take (i := 23) (v := undef) (by rfl) (by kernel_rfl) (by kernel_rfl) (by exact fun _ _ _ h => h) (Or.inr ⟨by rfl, rfl⟩) (by assumption) ?_
                simp only [List.getElem_toArray, List.getElem_cons_succ, List.getElem_cons_zero, Act.put, List.setIfInBounds_toArray, List.set_cons_zero, List.set_cons_succ]
                refine wpHead_take (i := 24) (v := undef) (by rfl) (by kernel_rfl) (by kernel_rfl) (by exact fun _ _ _ h => h) (Or.inr ⟨by rfl, rfl⟩) (by assumption) ?_
                simp only [List.getElem_toArray, List.getElem_cons_succ, List.getElem_cons_zero, Act.put, List.setIfInBounds_toArray, List.set_cons_zero, List.set_cons_succ]
                refine wpHead_take (i := 25) (v := ?_) (by rfl) (by kernel_rfl) (by kernel_rfl) (by exact fun _ _ _ h => h) (Or.inl ⟨by rfl, ?_⟩) (by assumption) ?_
                rotate_left
                · intro w hSw
                  first | (go_simp; done) | (go_simp; with_reducible rfl)
                simp only [List.getElem_toArray, List.getElem_cons_succ, List.getElem_cons_zero, Act.put, List.setIfInBounds_toArray, List.set_cons_zero, List.set_cons_succ]
                refine wpHead_take (i := 26) (v := ?_) (by rfl) (by kernel_rfl) (by kernel_rfl) (by exact fun _ _ _ h => h) (Or.inl ⟨by rfl, ?_⟩) (by assumption) ?_
                rotate_left
                · intro w hSw
                  first | (go_simp; done) | (go_simp; with_reducible rfl)
                simp only [List.getElem_toArray, List.getElem_cons_succ, List.getElem_cons_zero, Act.put, List.setIfInBounds_toArray, List.set_cons_zero, List.set_cons_succ]
                refine wpHead_take (i := 27) (v := undef) (by rfl) (by kernel_rfl) (by kernel_rfl) (by exact fun _ _ _ h => h) (Or.inr ⟨by rfl, rfl⟩) (by assumption) ?_
                simp only [List.getElem_toArray, List.getElem_cons_succ, List.getElem_cons_zero, Act.put, List.setIfInBounds_toArray, List.set_cons_zero, List.set_cons_succ]
                refine wpHead_take (i := 28) (v := undef) (by rfl) (by kernel_rfl) (by kernel_rfl) (by exact fun _ _ _ h => h) (Or.inr ⟨by rfl, rfl⟩) (by assumption) ?_
                simp only [List.getElem_toArray, List.getElem_cons_succ, List.getElem_cons_zero, Act.put, List.setIfInBounds_toArray, List.set_cons_zero, List.set_cons_succ]
                refine wpHead_take (i := 29) (v := undef) (by rfl) (by kernel_rfl) (by kernel_rfl) (by exact fun _ _ _ h => h) (Or.inr ⟨by rfl, rfl⟩) (by assumption) ?_
                simp only [List.getElem_toArray, List.getElem_cons_succ, List.getElem_cons_zero, Act.put, List.setIfInBounds_toArray, List.set_cons_zero, List.set_cons_succ]
                refine wpHead_take (i := 30) (v := undef) (by rfl) (by kernel_rfl) (by kernel_rfl) (by exact fun _ _ _ h => h) (Or.inr ⟨by rfl, rfl⟩) (by assumption) ?_
                simp only [List.getElem_toArray, List.getElem_cons_succ, List.getElem_cons_zero, Act.put, List.setIfInBounds_toArray, List.set_cons_zero, List.set_cons_succ]
                refine wpHead_take (i := 31) (v := undef) (by rfl) (by kernel_rfl) (by kernel_rfl) (by exact fun _ _ _ h => h) (Or.inr ⟨by rfl, rfl⟩) (by assumption) ?_
                simp only [List.getElem_toArray, List.getElem_cons_succ, List.getElem_cons_zero, Act.put, List.setIfInBounds_toArray, List.set_cons_zero, List.set_cons_succ]
                refine wpHead_take (i := 32) (v := undef) (by rfl) (by kernel_rfl) (by kernel_rfl) (by exact fun _ _ _ h => h) (Or.inr ⟨by rfl, rfl⟩) (by assumption) ?_
                simp only [List.getElem_toArray, List.getElem_cons_succ, List.getElem_cons_zero, Act.put, List.setIfInBounds_toArray, List.set_cons_zero, List.set_cons_succ]
                refine wpHead_take (i := 33) (v := ?_) (by rfl) (by kernel_rfl) (by kernel_rfl) (by exact fun _ _ _ h => h) (Or.inl ⟨by rfl, ?_⟩) (by assumption) ?_
                rotate_left
                · intro w hSw
                  first | (go_simp; done) | (go_simp; with_reducible rfl)
                simp only [List.getElem_toArray, List.getElem_cons_succ, List.getElem_cons_zero, Act.put, List.setIfInBounds_toArray, List.set_cons_zero, List.set_cons_succ]
                refine wpHead_done (by kernel_rfl) ?_
                have HXE := Lib.hid hHeld
                clear hks hca0 hca1 hct e14 e15 e22 e23 hHeld
                go_wp2
                go_roundw
                case rel => exact ⟨k + 1, by go_num, by omega, by rw [HAN.out, hkn]; rfl, HXE.out⟩
                case measure => simp [intOf]; omega
              | false =>
                by_cases hYT : Y = T4
                · have hbq : (Y == T4) = true := by rw [hYT]; exact beq_self_eq_true _
                  have hfin : Hid (decide (lowL y = T4) = true) := Lib.hid (by rw [HY.out, hYT]; simp)
                  clear hYT
                  go_wp2_with fail
                  refine wp_region_phase (S := fun V => Ext w13 V) 34 (by kernel_rfl) (by kernel_rfl) ?_ (fun hHeld => ?_)
                  · exact hxk.trans hxd
                  simp only [List.drop_succ_cons, List.drop_zero]
                  refine name_head ?_
                  intro wr0 hw0
                  rw [hw0] at hHeld
                  refine wpHead_take (i := 0) (v := ?_) (by rfl) (by kernel_rfl) (by kernel_rfl) (by exact fun _ _ _ h => h) (Or.inl ⟨by rfl, ?_⟩) (by assumption) ?_
                  rotate_left
                  · intro w hSw
                    first | (go_simp; done) | (go_simp; with_reducible rfl)
                  simp only [List.getElem_toArray, List.getElem_cons_zero, Act.put, List.setIfInBounds_toArray, List.set_cons_zero, List.set_cons_succ]
                  refine wpHead_take (i := 1) (v := ?_) (by rfl) (by kernel_rfl) (by kernel_rfl) (by exact fun _ _ _ h => h) (Or.inl ⟨by rfl, ?_⟩) (by assumption) ?_
                  rotate_left
                  · intro w hSw
                    first | (go_simp; done) | (go_simp; with_reducible rfl)
                  simp only [List.getElem_toArray, List.getElem_cons_succ, List.getElem_cons_zero, Act.put, List.setIfInBounds_toArray, List.set_cons_zero, List.set_cons_succ]
                  refine wpHead_take (i := 2) (v := ?_) (by rfl) (by kernel_rfl) (by kernel_rfl) (by exact fun _ _ _ h => h) (Or.inl ⟨by rfl, ?_⟩) (by assumption) ?_
                  rotate_left
                  · intro w hSw
                    first | (go_simp; done) | (go_simp; with_reducible rfl)
                  simp only [List.getElem_toArray, List.getElem_cons_succ, List.getElem_cons_zero, Act.put, List.setIfInBounds_toArray, List.set_cons_zero, List.set_cons_succ]
                  refine wpHead_take (i := 3) (v := ?_) (by rfl) (by kernel_rfl) (by kernel_rfl) (by exact fun _ _ _ h => h) (Or.inl ⟨by rfl, ?_⟩) (by assumption) ?_
                  rotate_left
                  · intro w hSw
                    first | (go_simp; done) | (go_simp; with_reducible rfl)
                  simp only [List.getElem_toArray, List.getElem_cons_succ, List.getElem_cons_zero, Act.put, List.setIfInBounds_toArray, List.set_cons_zero, List.set_cons_succ]
                  refine wpHead_take (i := 4) (v := ?_) (by rfl) (by kernel_rfl) (by kernel_rfl) (by exact fun _ _ _ h => h) (Or.inl ⟨by rfl, ?_⟩) (by assumption) ?_
                  rotate_left
                  · intro w hSw
                    first | (go_simp; done) | (go_simp; with_reducible rfl)
                  simp only [List.getElem_toArray, List.getElem_cons_succ, List.getElem_cons_zero, Act.put, List.setIfInBounds_toArray, List.set_cons_zero, List.set_cons_succ]
                  refine wpHead_take (i := 5) (v := ?_) (by rfl) (by kernel_rfl) (by kernel_rfl) (by exact fun _ _ _ h => h) (Or.inl ⟨by rfl, ?_⟩) (by assumption) ?_
                  rotate_left
                  · intro w hSw
                    first | (go_simp; done) | (go_simp; with_reducible rfl)
                  simp only [List.getElem_toArray, List.getElem_cons_succ, List.getElem_cons_zero, Act.put, List.setIfInBounds_toArray, List.set_cons_zero, List.set_cons_succ]
                  refine wpHead_take (i := 7) (v := ?_) (by rfl) (by kernel_rfl) (by kernel_rfl) (by exact fun _ _ _ h => h) (Or.inl ⟨by rfl, ?_⟩) (by assumption) ?_
                  rotate_left
                  · intro w hSw
                    first | (go_simp; done) | (go_simp; with_reducible rfl)
                  simp only [List.getElem_toArray, List.getElem_cons_succ, List.getElem_cons_zero, Act.put, List.setIfInBounds_toArray, List.set_cons_zero, List.set_cons_succ]
                  refine wpHead_take (i := 8) (v := ?_) (by rfl) (by kernel_rfl) (by kernel_rfl) (by exact fun _ _ _ h => h) (Or.inl ⟨by rfl, ?_⟩) (by assumption) ?_
                  rotate_left
                  · intro w hSw
                    first | (go_simp; done) | (go_simp; with_reducible rfl)
                  simp only [List.getElem_toArray, List.getElem_cons_succ, List.getElem_cons_zero, Act.put, List.setIfInBounds_toArray, List.set_cons_zero, List.set_cons_succ]
                  refine wpHead_take (i := 9) (v := ?_) (by rfl) (by kernel_rfl) (by kernel_rfl) (by exact fun _ _ _ h => h) (Or.inl ⟨by rfl, ?_⟩) (by assumption) ?_
                  rotate_left
                  · intro w hSw
                    first | (go_simp; done) | (go_simp; with_reducible rfl)
                  simp only [List.getElem_toArray, List.getElem_cons_succ, List.getElem_cons_zero, Act.put, List.setIfInBounds_toArray, List.set_cons_zero, List.set_cons_succ]
                  refine wpHead_take (i := 10) (v := ?_) (by rfl) (by kernel_rfl) (by kernel_rfl) (by exact fun _ _ _ h => h) (Or.inl ⟨by rfl, ?_⟩) (by assumption) ?_
                  rotate_left
                  · intro w hSw
                    first | (go_simp; done) | (go_simp; with_reducible rfl)
                  simp only [List.getElem_toArray, List.getElem_cons_succ, List.getElem_cons_zero, Act.put, List.setIfInBounds_toArray, List.set_cons_zero, List.set_cons_succ]
                  refine wpHead_take (i := 11) (v := ?_) (by rfl) (by kernel_rfl) (by kernel_rfl) (by exact fun _ _ _ h => h) (Or.inl ⟨by rfl, ?_⟩) (by assumption) ?_
                  rotate_left
                  · intro w hSw
                    first | (go_simp; done) | (go_simp; with_reducible rfl)
                  simp only [List.getElem_toArray, List.getElem_cons_succ, List.getElem_cons_zero, Act.put, List.setIfInBounds_toArray, List.set_cons_zero, List.set_cons_succ]
                  refine wpHead_take (i := 12) (v := ?_) (by rfl) (by kernel_rfl) (by kernel_rfl) (by exact fun _ _ _ h => h) (Or.inl ⟨by rfl, ?_⟩) (by assumption) ?_
                  rotate_left
                  · intro w hSw
                    first | (go_simp; done) | (go_simp; with_reducible rfl)
                  simp only [List.getElem_toArray, List.getElem_cons_succ, List.getElem_cons_zero, Act.put, List.setIfInBounds_toArray, List.set_cons_zero, List.set_cons_succ]
                  refine wpHead_take (i := 16) (v := ?_) (by rfl) (by kernel_rfl) (by kernel_rfl) (by exact fun _ _ _ h => h) (Or.inl ⟨by rfl, ?_⟩) (by assumption) ?_
                  rotate_left
                  · intro w hSw
                    first | (go_simp; done) | (go_simp; with_reducible rfl)
                  simp only [List.getElem_toArray, List.getElem_cons_succ, List.getElem_cons_zero, Act.put, List.setIfInBounds_toArray, List.set_cons_zero, List.set_cons_succ]
                  refine wpHead_take (i := 17) (v := ?_) (by rfl) (by kernel_rfl) (by kernel_rfl) (by exact fun _ _ _ h => h) (Or.inl ⟨by rfl, ?_⟩) (by assumption) ?_
                  rotate_left
                  · intro w hSw
                    first | (go_simp; done) | (go_simp; with_reducible rfl)
                  simp only [List.getElem_toArray, List.getElem_cons_succ, List.getElem_cons_zero, Act.put, List.setIfInBounds_toArray, List.set_cons_zero, List.set_cons_succ]
                  refine wpHead_take (i := 18) (v := ?_) (by rfl) (by kernel_rfl) (by kernel_rfl) (by exact fun _ _ _ h => h) (Or.inl ⟨by rfl, ?_⟩) (by assumption) ?_
                  rotate_left
                  · intro w hSw
                    first | (go_simp; done) | (go_simp; with_reducible rfl)
                  simp only [List.getElem_toArray, List.getElem_cons_succ, List.getElem_cons_zero, Act.put, List.setIfInBounds_toArray, List.set_cons_zero, List.set_cons_succ]
                  refine wpHead_take (i := 19) (v := ?_) (by rfl) (by kernel_rfl) (by kernel_rfl) (by exact fun _ _ _ h => h) (Or.inl ⟨by rfl, ?_⟩) (by assumption) ?_
                  rotate_left
                  · intro w hSw
                    first | (go_simp; done) | (go_simp; with_reducible rfl)
                  simp only [List.getElem_toArray, List.getElem_cons_succ, List.getElem_cons_zero, Act.put, List.setIfInBounds_toArray, List.set_cons_zero, List.set_cons_succ]
                  refine wpHead_take (i := 20) (v := ?_) (by rfl) (by kernel_rfl) (by kernel_rfl) (by exact fun _ _ _ h => h) (Or.inl ⟨by rfl, ?_⟩) (by assumption) ?_
                  rotate_left
                  · intro w hSw
                    first | (go_simp; done) | (go_simp; with_reducible rfl)
                  simp only [List.getElem_toArray, List.getElem_cons_succ, List.getElem_cons_zero, Act.put, List.setIfInBounds_toArray, List.set_cons_zero, List.set_cons_succ]
                  refine wpHead_take (i := 21) (v := ?_) (by rfl) (by kernel_rfl) (by kernel_rfl) (by exact fun _ _ _ h => h) (Or.inl ⟨by rfl, ?_⟩) (by assumption) ?_
                  rotate_left
                  · intro w hSw
                    first | (go_simp; done) | (go_simp; with_reducible rfl)
                  simp only [List.getElem_toArray, List.getElem_cons_succ, List.getElem_cons_zero, Act.put, List.setIfInBounds_toArray, List.set_cons_zero, List.set_cons_succ]
                  refine wpHead_ready (rs := [6]) (by kernel_rfl) (by simp) (by kernel_rfl) ?_
                  refine AllHead.cons (by rfl) (fun K hK => ?_) ?_
                  · refine step_callG (by rfl) (by kernel_rfl) (rlower_st y _ HYL.out) ?_
                    rintro e wr6 ⟨rfl, hx6⟩
                    refine ⟨_, rfl, ?_⟩
                    rw [HY.out]
                    refine hK.out _ _ ?_ (fun hHeld => ?_)
                    · exact Ext.trans hHeld hx6
                    clear hK K
                    try simp only [List.getElem_toArray, List.getElem_cons_succ, List.getElem_cons_zero, Act.put, List.setIfInBounds_toArray, List.set_cons_zero, List.set_cons_succ]
                    refine wpHead_ready (rs := [13]) (by kernel_rfl) (by simp) (by kernel_rfl) ?_
                    refine AllHead.cons (by rfl) (fun K hK => ?_) ?_
                    · refine step_callG (by rfl) (by kernel_rfl) (rlower_st lo _ HLO.out) ?_
                      rintro e wr13 ⟨rfl, hx13⟩
                      refine ⟨_, rfl, ?_⟩
                      rw [HU.out]
                      refine hK.out _ _ ?_ (fun hHeld => ?_)
                      · exact Ext.trans hHeld hx13
                      clear hK K
                      try simp only [List.getElem_toArray, List.getElem_cons_succ, List.getElem_cons_zero, Act.put, List.setIfInBounds_toArray, List.set_cons_zero, List.set_cons_succ]
                      refine wpHead_take (i := 14) (v := ?_) (by rfl) (by kernel_rfl) (by kernel_rfl) (by exact fun _ _ _ h => h) (Or.inl ⟨by rfl, ?_⟩) (by assumption) ?_
                      rotate_left
                      · intro w hSw
                        first | (go_simp; done) | (go_simp; with_reducible rfl)
                      simp only [List.getElem_toArray, List.getElem_cons_succ, List.getElem_cons_zero, Act.put, List.setIfInBounds_toArray, List.set_cons_zero, List.set_cons_succ]
                      refine wpHead_take (i := 15) (v := ?_) (by rfl) (by kernel_rfl) (by kernel_rfl) (by exact fun _ _ _ h => h) (Or.inl ⟨by rfl, ?_⟩) (by assumption) ?_
                      rotate_left
                      · intro w hSw
                        first | (go_simp; done) | (go_simp; with_reducible rfl)
                      simp only [List.getElem_toArray, List.getElem_cons_succ, List.getElem_cons_zero, Act.put, List.setIfInBounds_toArray, List.set_cons_zero, List.set_cons_succ]
                      refine wpHead_take (i := 22) (v := ?_) (by rfl) (by kernel_rfl) (by kernel_rfl) (by exact fun _ _ _ h => h) (Or.inl ⟨by rfl, ?_⟩) (by assumption) ?_
                      rotate_left
                      · intro w hSw
                        first | (go_simp; done) | (go_simp; with_reducible rfl)
                      simp only [List.getElem_toArray, List.getElem_cons_succ, List.getElem_cons_zero, Act.put, List.setIfInBounds_toArray, List.set_cons_zero, List.set_cons_succ]
                      refine wpHead_take (i := 23) (v := ?_) (by rfl) (by kernel_rfl) (by kernel_rfl) (by exact fun _ _ _ h => h) (Or.inl ⟨by rfl, ?_⟩) (by assumption) ?_
                      rotate_left
                      · intro w hSw
                        first | (go_simp; done) | (go_simp; with_reducible rfl)
                      simp only [List.getElem_toArray, List.getElem_cons_succ, List.getElem_cons_zero, Act.put, List.setIfInBounds_toArray, List.set_cons_zero, List.set_cons_succ]
                      refine wpHead_take (i := 24) (v := ?_) (by rfl) (by kernel_rfl) (by kernel_rfl) (by exact fun _ _ _ h => h) (Or.inl ⟨by rfl, ?_⟩) (by assumption) ?_
                      rotate_left
                      · intro w hSw
                        first | (go_simp; done) | (go_simp; with_reducible rfl)
                      simp only [List.getElem_toArray, List.getElem_cons_succ, List.getElem_cons_zero, Act.put, List.setIfInBounds_toArray, List.set_cons_zero, List.set_cons_succ]
                      refine wpHead_take (i := 25) (v := ?_) (by rfl) (by kernel_rfl) (by kernel_rfl) (by exact fun _ _ _ h => h) (Or.inl ⟨by rfl, ?_⟩) (by assumption) ?_
                      rotate_left
                      · intro w hSw
                        first | (go_simp; done) | (go_simp; with_reducible rfl)
                      simp only [List.getElem_toArray, List.getElem_cons_succ, List.getElem_cons_zero, Act.put, List.setIfInBounds_toArray, List.set_cons_zero, List.set_cons_succ]
                      refine wpHead_take (i := 26) (v := ?_) (by rfl) (by kernel_rfl) (by kernel_rfl) (by exact fun _ _ _ h => h) (Or.inl ⟨by rfl, ?_⟩) (by assumption) ?_
                      rotate_left
                      · intro w hSw
                        first | (go_simp; done) | (go_simp; with_reducible rfl)
                      simp only [List.getElem_toArray, List.getElem_cons_succ, List.getElem_cons_zero, Act.put, List.setIfInBounds_toArray, List.set_cons_zero, List.set_cons_succ]
                      refine wpHead_take (i := 27) (v := undef) (by rfl) (by kernel_rfl) (by kernel_rfl) (by exact fun _ _ _ h => h) (Or.inr ⟨by rfl, rfl⟩) (by assumption) ?_
                      simp only [List.getElem_toArray, List.getElem_cons_succ, List.getElem_cons_zero, Act.put, List.setIfInBounds_toArray, List.set_cons_zero, List.set_cons_succ]
                      refine wpHead_take (i := 28) (v := undef) (by rfl) (by kernel_rfl) (by kernel_rfl) (by exact fun _ _ _ h => h) (Or.inr ⟨by rfl, rfl⟩) (by assumption) ?_
                      simp only [List.getElem_toArray, List.getElem_cons_succ, List.getElem_cons_zero, Act.put, List.setIfInBounds_toArray, List.set_cons_zero, List.set_cons_succ]
                      refine wpHead_take (i := 29) (v := undef) (by rfl) (by kernel_rfl) (by kernel_rfl) (by exact fun _ _ _ h => h) (Or.inr ⟨by rfl, rfl⟩) (by assumption) ?_
                      simp only [List.getElem_toArray, List.getElem_cons_succ, List.getElem_cons_zero, Act.put, List.setIfInBounds_toArray, List.set_cons_zero, List.set_cons_succ]
                      refine wpHead_take (i := 30) (v := undef) (by rfl) (by kernel_rfl) (by kernel_rfl) (by exact fun _ _ _ h => h) (Or.inr ⟨by rfl, rfl⟩) (by assumption) ?_
                      simp only [List.getElem_toArray, List.getElem_cons_succ, List.getElem_cons_zero, Act.put, List.setIfInBounds_toArray, List.set_cons_zero, List.set_cons_succ]
                      refine wpHead_take (i := 31) (v := undef) (by rfl) (by kernel_rfl) (by kernel_rfl) (by exact fun _ _ _ h => h) (Or.inr ⟨by rfl, rfl⟩) (by assumption) ?_
                      simp only [List.getElem_toArray, List.getElem_cons_succ, List.getElem_cons_zero, Act.put, List.setIfInBounds_toArray, List.set_cons_zero, List.set_cons_succ]
                      refine wpHead_take (i := 32) (v := undef) (by rfl) (by kernel_rfl) (by kernel_rfl) (by exact fun _ _ _ h => h) (Or.inr ⟨by rfl, rfl⟩) (by assumption) ?_
                      simp only [List.getElem_toArray, List.getElem_cons_succ, List.getElem_cons_zero, Act.put, List.setIfInBounds_toArray, List.set_cons_zero, List.set_cons_succ]
                      refine wpHead_take (i := 33) (v := ?_) (by rfl) (by kernel_rfl) (by kernel_rfl) (by exact fun _ _ _ h => h) (Or.inl ⟨by rfl, ?_⟩) (by assumption) ?_
                      rotate_left
                      · intro w hSw
                        first | (go_simp; done) | (go_simp; with_reducible rfl)
                      simp only [List.getElem_toArray, List.getElem_cons_succ, List.getElem_cons_zero, Act.put, List.setIfInBounds_toArray, List.set_cons_zero, List.set_cons_succ]
                      refine wpHead_done (by kernel_rfl) ?_
                      have HXE := Lib.hid hHeld
                      clear hks hca0 hca1 hct e14 e15 e22 e23 hHeld
                      go_wp2
                      go_roundw
                      case rel => exact ⟨k + 1, by go_num, by omega, by rw [HAN.out, hkn]; rw [hfin.out]; rfl, HXE.out⟩
                      case measure => simp [intOf]; omega
                    exact AllHead.nil
                  exact AllHead.nil
                · have hbq : (Y == T4) = false := beq_eq_false_iff_ne.2 hYT
                  have hfin : Hid (decide (lowL y = T4) = false) := Lib.hid (by rw [HY.out]; simpa using hYT)
                  clear hYT
                  go_wp2_with fail
                  refine wp_region_phase (S := fun V => Ext w13 V) 34 (by kernel_rfl) (by kernel_rfl) ?_ (fun hHeld => ?_)
                  · exact hxk.trans hxd
                  simp only [List.drop_succ_cons, List.drop_zero]
                  refine name_head ?_
                  intro wr0 hw0
                  rw [hw0] at hHeld
                  refine wpHead_take (i := 0) (v := ?_) (by rfl) (by kernel_rfl) (by kernel_rfl) (by exact fun _ _ _ h => h) (Or.inl ⟨by rfl, ?_⟩) (by assumption) ?_
                  rotate_left
                  · intro w hSw
                    first | (go_simp; done) | (go_simp; with_reducible rfl)
                  simp only [List.getElem_toArray, List.getElem_cons_zero, Act.put, List.setIfInBounds_toArray, List.set_cons_zero, List.set_cons_succ]
                  refine wpHead_take (i := 1) (v := ?_) (by rfl) (by kernel_rfl) (by kernel_rfl) (by exact fun _ _ _ h => h) (Or.inl ⟨by rfl, ?_⟩) (by assumption) ?_
                  rotate_left
                  · intro w hSw
                    first | (go_simp; done) | (go_simp; with_reducible rfl)
                  simp only [List.getElem_toArray, List.getElem_cons_succ, List.getElem_cons_zero, Act.put, List.setIfInBounds_toArray, List.set_cons_zero, List.set_cons_succ]
                  refine wpHead_take (i := 2) (v := ?_) (by rfl) (by kernel_rfl) (by kernel_rfl) (by exact fun _ _ _ h => h) (Or.inl ⟨by rfl, ?_⟩) (by assumption) ?_
                  rotate_left
                  · intro w hSw
                    first | (go_simp; done) | (go_simp; with_reducible rfl)
                  simp only [List.getElem_toArray, List.getElem_cons_succ, List.getElem_cons_zero, Act.put, List.setIfInBounds_toArray, List.set_cons_zero, List.set_cons_succ]
                  refine wpHead_take (i := 3) (v := ?_) (by rfl) (by kernel_rfl) (by kernel_rfl) (by exact fun _ _ _ h => h) (Or.inl ⟨by rfl, ?_⟩) (by assumption) ?_
                  rotate_left
                  · intro w hSw
                    first | (go_simp; done) | (go_simp; with_reducible rfl)
                  simp only [List.getElem_toArray, List.getElem_cons_succ, List.getElem_cons_zero, Act.put, List.setIfInBounds_toArray, List.set_cons_zero, List.set_cons_succ]
                  refine wpHead_take (i := 4) (v := ?_) (by rfl) (by kernel_rfl) (by kernel_rfl) (by exact fun _ _ _ h => h) (Or.inl ⟨by rfl, ?_⟩) (by assumption) ?_
                  rotate_left
                  · intro w hSw
                    first | (go_simp; done) | (go_simp; with_reducible rfl)
                  simp only [List.getElem_toArray, List.getElem_cons_succ, List.getElem_cons_zero, Act.put, List.setIfInBounds_toArray, List.set_cons_zero, List.set_cons_succ]
                  refine wpHead_take (i := 5) (v := ?_) (by rfl) (by kernel_rfl) (by kernel_rfl) (by exact fun _ _ _ h => h) (Or.inl ⟨by rfl, ?_⟩) (by assumption) ?_
                  rotate_left
                  · intro w hSw
                    first | (go_simp; done) | (go_simp; with_reducible rfl)
                  simp only [List.getElem_toArray, List.getElem_cons_succ, List.getElem_cons_zero, Act.put, List.setIfInBounds_toArray, List.set_cons_zero, List.set_cons_succ]
                  refine wpHead_take (i := 7) (v := ?_) (by rfl) (by kernel_rfl) (by kernel_rfl) (by exact fun _ _ _ h => h) (Or.inl ⟨by rfl, ?_⟩) (by assumption) ?_
                  rotate_left
                  · intro w hSw
                    first | (go_simp; done) | (go_simp; with_reducible rfl)
                  simp only [List.getElem_toArray, List.getElem_cons_succ, List.getElem_cons_zero, Act.put, List.setIfInBounds_toArray, List.set_cons_zero, List.set_cons_succ]
                  refine wpHead_take (i := 8) (v := ?_) (by rfl) (by kernel_rfl) (by kernel_rfl) (by exact fun _ _ _ h => h) (Or.inl ⟨by rfl, ?_⟩) (by assumption) ?_
                  rotate_left
                  · intro w hSw
                    first | (go_simp; done) | (go_simp; with_reducible rfl)
                  simp only [List.getElem_toArray, List.getElem_cons_succ, List.getElem_cons_zero, Act.put, List.setIfInBounds_toArray, List.set_cons_zero, List.set_cons_succ]
                  refine wpHead_take (i := 9) (v := ?_) (by rfl) (by kernel_rfl) (by kernel_rfl) (by exact fun _ _ _ h => h) (Or.inl ⟨by rfl, ?_⟩) (by assumption) ?_
                  rotate_left
                  · intro w hSw
                    first | (go_simp; done) | (go_simp; with_reducible rfl)
                  simp only [List.getElem_toArray, List.getElem_cons_succ, List.getElem_cons_zero, Act.put, List.setIfInBounds_toArray, List.set_cons_zero, List.set_cons_succ]
                  refine wpHead_take (i := 10) (v := ?_) (by rfl) (by kernel_rfl) (by kernel_rfl) (by exact fun _ _ _ h => h) (Or.inl ⟨by rfl, ?_⟩) (by assumption) ?_
                  rotate_left
                  · intro w hSw
                    first | (go_simp; done) | (go_simp; with_reducible rfl)
                  simp only [List.getElem_toArray, List.getElem_cons_succ, List.getElem_cons_zero, Act.put, List.setIfInBounds_toArray, List.set_cons_zero, List.set_cons_succ]
                  refine wpHead_take (i := 11) (v := ?_) (by rfl) (by kernel_rfl) (by kernel_rfl) (by exact fun _ _ _ h => h) (Or.inl ⟨by rfl, ?_⟩) (by assumption) ?_
                  rotate_left
                  · intro w hSw
                    first | (go_simp; done) | (go_simp; with_reducible rfl)
                  simp only [List.getElem_toArray, List.getElem_cons_succ, List.getElem_cons_zero, Act.put, List.setIfInBounds_toArray, List.set_cons_zero, List.set_cons_succ]
                  refine wpHead_take (i := 12) (v := ?_) (by rfl) (by kernel_rfl) (by kernel_rfl) (by exact fun _ _ _ h => h) (Or.inl ⟨by rfl, ?_⟩) (by assumption) ?_
                  rotate_left
                  · intro w hSw
                    first | (go_simp; done) | (go_simp; with_reducible rfl)
                  simp only [List.getElem_toArray, List.getElem_cons_succ, List.getElem_cons_zero, Act.put, List.setIfInBounds_toArray, List.set_cons_zero, List.set_cons_succ]
                  refine wpHead_take (i := 16) (v := ?_) (by rfl) (by kernel_rfl) (by kernel_rfl) (by exact fun _ _ _ h => h) (Or.inl ⟨by rfl, ?_⟩) (by assumption) ?_
                  rotate_left
                  · intro w hSw
                    first | (go_simp; done) | (go_simp; with_reducible rfl)
                  simp only [List.getElem_toArray, List.getElem_cons_succ, List.getElem_cons_zero, Act.put, List.setIfInBounds_toArray, List.set_cons_zero, List.set_cons_succ]
                  refine wpHead_take (i := 17) (v := ?_) (by rfl) (by kernel_rfl) (by kernel_rfl) (by exact fun _ _ _ h => h) (Or.inl ⟨by rfl, ?_⟩) (by assumption) ?_
                  rotate_left
                  · intro w hSw
                    first | (go_simp; done) | (go_simp; with_reducible rfl)
                  simp only [List.getElem_toArray, List.getElem_cons_succ, List.getElem_cons_zero, Act.put, List.setIfInBounds_toArray, List.set_cons_zero, List.set_cons_succ]
                  refine wpHead_take (i := 18) (v := ?_) (by rfl) (by kernel_rfl) (by kernel_rfl) (by exact fun _ _ _ h => h) (Or.inl ⟨by rfl, ?_⟩) (by assumption) ?_
                  rotate_left
                  · intro w hSw
                    first | (go_simp; done) | (go_simp; with_reducible rfl)
                  simp only [List.getElem_toArray, List.getElem_cons_succ, List.getElem_cons_zero, Act.put, List.setIfInBounds_toArray, List.set_cons_zero, List.set_cons_succ]
                  refine wpHead_take (i := 19) (v := ?_) (by rfl) (by kernel_rfl) (by kernel_rfl) (by exact fun _ _ _ h => h) (Or.inl ⟨by rfl, ?_⟩) (by assumption) ?_
                  rotate_left
                  · intro w hSw
                    first | (go_simp; done) | (go_simp; with_reducible rfl)
                  simp only [List.getElem_toArray, List.getElem_cons_succ, List.getElem_cons_zero, Act.put, List.setIfInBounds_toArray, List.set_cons_zero, List.set_cons_succ]
                  refine wpHead_take (i := 20) (v := ?_) (by rfl) (by kernel_rfl) (by kernel_rfl) (by exact fun _ _ _ h => h) (Or.inl ⟨by rfl, ?_⟩) (by assumption) ?_
                  rotate_left
                  · intro w hSw
                    first | (go_simp; done) | (go_simp; with_reducible rfl)
                  simp only [List.getElem_toArray, List.getElem_cons_succ, List.getElem_cons_zero, Act.put, List.setIfInBounds_toArray, List.set_cons_zero, List.set_cons_succ]
                  refine wpHead_take (i := 21) (v := ?_) (by rfl) (by kernel_rfl) (by kernel_rfl) (by exact fun _ _ _ h => h) (Or.inl ⟨by rfl, ?_⟩) (by assumption) ?_
                  rotate_left
                  · intro w hSw
                    first | (go_simp; done) | (go_simp; with_reducible rfl)
                  simp only [List.getElem_toArray, List.getElem_cons_succ, List.getElem_cons_zero, Act.put, List.setIfInBounds_toArray, List.set_cons_zero, List.set_cons_succ]
                  refine wpHead_ready (rs := [6]) (by kernel_rfl) (by simp) (by kernel_rfl) ?_
                  refine AllHead.cons (by rfl) (fun K hK => ?_) ?_
                  · refine step_callG (by rfl) (by kernel_rfl) (rlower_st y _ HYL.out) ?_
                    rintro e wr6 ⟨rfl, hx6⟩
                    refine ⟨_, rfl, ?_⟩
                    rw [HY.out]
                    refine hK.out _ _ ?_ (fun hHeld => ?_)
                    · exact Ext.trans hHeld hx6
                    clear hK K
                    try simp only [List.getElem_toArray, List.getElem_cons_succ, List.getElem_cons_zero, Act.put, List.setIfInBounds_toArray, List.set_cons_zero, List.set_cons_succ]
                    refine wpHead_ready (rs := [13]) (by kernel_rfl) (by simp) (by kernel_rfl) ?_
                    refine AllHead.cons (by rfl) (fun K hK => ?_) ?_
                    · refine step_callG (by rfl) (by kernel_rfl) (rlower_st lo _ HLO.out) ?_
                      rintro e wr13 ⟨rfl, hx13⟩
                      refine ⟨_, rfl, ?_⟩
                      rw [HU.out]
                      refine hK.out _ _ ?_ (fun hHeld => ?_)
                      · exact Ext.trans hHeld hx13
                      clear hK K
                      try simp only [List.getElem_toArray, List.getElem_cons_succ, List.getElem_cons_zero, Act.put, List.setIfInBounds_toArray, List.set_cons_zero, List.set_cons_succ]
                      refine wpHead_take (i := 14) (v := ?_) (by rfl) (by kernel_rfl) (by kernel_rfl) (by exact fun _ _ _ h => h) (Or.inl ⟨by rfl, ?_⟩) (by assumption) ?_
                      rotate_left
                      · intro w hSw
                        first | (go_simp; done) | (go_simp; with_reducible rfl)
                      simp only [List.getElem_toArray, List.getElem_cons_succ, List.getElem_cons_zero, Act.put, List.setIfInBounds_toArray, List.set_cons_zero, List.set_cons_succ]
                      refine wpHead_take (i := 15) (v := ?_) (by rfl) (by kernel_rfl) (by kernel_rfl) (by exact fun _ _ _ h => h) (Or.inl ⟨by rfl, ?_⟩) (by assumption) ?_
                      rotate_left
                      · intro w hSw
                        first | (go_simp; done) | (go_simp; with_reducible rfl)
                      simp only [List.getElem_toArray, List.getElem_cons_succ, List.getElem_cons_zero, Act.put, List.setIfInBounds_toArray, List.set_cons_zero, List.set_cons_succ]
                      refine wpHead_take (i := 22) (v := ?_) (by rfl) (by kernel_rfl) (by kernel_rfl) (by exact fun _ _ _ h => h) (Or.inl ⟨by rfl, ?_⟩) (by assumption) ?_
                      rotate_left
                      · intro w hSw
                        first | (go_simp; done) | (go_simp; with_reducible rfl)
                      simp only [List.getElem_toArray, List.getElem_cons_succ, List.getElem_cons_zero, Act.put, List.setIfInBounds_toArray, List.set_cons_zero, List.set_cons_succ]
                      refine wpHead_take (i := 23) (v := ?_) (by rfl) (by kernel_rfl) (by kernel_rfl) (by exact fun _ _ _ h => h) (Or.inl ⟨by rfl, ?_⟩) (by assumption) ?_
                      rotate_left
                      · intro w hSw
                        first | (go_simp; done) | (go_simp; with_reducible rfl)
                      simp only [List.getElem_toArray, List.getElem_cons_succ, List.getElem_cons_zero, Act.put, List.setIfInBounds_toArray, List.set_cons_zero, List.set_cons_succ]
                      refine wpHead_take (i := 24) (v := ?_) (by rfl) (by kernel_rfl) (by kernel_rfl) (by exact fun _ _ _ h => h) (Or.inl ⟨by rfl, ?_⟩) (by assumption) ?_
                      rotate_left
                      · intro w hSw
                        first | (go_simp; done) | (go_simp; with_reducible rfl)
                      simp only [List.getElem_toArray, List.getElem_cons_succ, List.getElem_cons_zero, Act.put, List.setIfInBounds_toArray, List.set_cons_zero, List.set_cons_succ]
                      refine wpHead_take (i := 25) (v := ?_) (by rfl) (by kernel_rfl) (by kernel_rfl) (by exact fun _ _ _ h => h) (Or.inl ⟨by rfl, ?_⟩) (by assumption) ?_
                      rotate_left
                      · intro w hSw
                        first | (go_simp; done) | (go_simp; with_reducible rfl)
                      simp only [List.getElem_toArray, List.getElem_cons_succ, List.getElem_cons_zero, Act.put, List.setIfInBounds_toArray, List.set_cons_zero, List.set_cons_succ]
                      refine wpHead_take (i := 26) (v := ?_) (by rfl) (by kernel_rfl) (by kernel_rfl) (by exact fun _ _ _ h => h) (Or.inl ⟨by rfl, ?_⟩) (by assumption) ?_
                      rotate_left
                      · intro w hSw
                        first | (go_simp; done) | (go_simp; with_reducible rfl)
                      simp only [List.getElem_toArray, List.getElem_cons_succ, List.getElem_cons_zero, Act.put, List.setIfInBounds_toArray, List.set_cons_zero, List.set_cons_succ]
                      refine wpHead_take (i := 27) (v := ?_) (by rfl) (by kernel_rfl) (by kernel_rfl) (by exact fun _ _ _ h => h) (Or.inl ⟨by rfl, ?_⟩) (by assumption) ?_
                      rotate_left
                      · intro w hSw
                        first | (go_simp; done) | (go_simp; with_reducible rfl)
                      simp only [List.getElem_toArray, List.getElem_cons_succ, List.getElem_cons_zero, Act.put, List.setIfInBounds_toArray, List.set_cons_zero, List.set_cons_succ]
                      refine wpHead_take (i := 28) (v := ?_) (by rfl) (by kernel_rfl) (by kernel_rfl) (by exact fun _ _ _ h => h) (Or.inl ⟨by rfl, ?_⟩) (by assumption) ?_
                      rotate_left
                      · intro w hSw
                        first | (go_simp; done) | (go_simp; with_reducible rfl)
                      simp only [List.getElem_toArray, List.getElem_cons_succ, List.getElem_cons_zero, Act.put, List.setIfInBounds_toArray, List.set_cons_zero, List.set_cons_succ]
                      refine wpHead_take (i := 29) (v := ?_) (by rfl) (by kernel_rfl) (by kernel_rfl) (by exact fun _ _ _ h => h) (Or.inl ⟨by rfl, ?_⟩) (by assumption) ?_
                      rotate_left
                      · intro w hSw
                        first | (go_simp; done) | (go_simp; with_reducible rfl)
                      simp only [List.getElem_toArray, List.getElem_cons_succ, List.getElem_cons_zero, Act.put, List.setIfInBounds_toArray, List.set_cons_zero, List.set_cons_succ]
                      refine wpHead_take (i := 30) (v := ?_) (by rfl) (by kernel_rfl) (by kernel_rfl) (by exact fun _ _ _ h => h) (Or.inl ⟨by rfl, ?_⟩) (by assumption) ?_
                      rotate_left
                      · intro w hSw
                        first | (go_simp; done) | (go_simp; with_reducible rfl)
                      simp only [List.getElem_toArray, List.getElem_cons_succ, List.getElem_cons_zero, Act.put, List.setIfInBounds_toArray, List.set_cons_zero, List.set_cons_succ]
                      refine wpHead_take (i := 31) (v := ?_) (by rfl) (by kernel_rfl) (by kernel_rfl) (by exact fun _ _ _ h => h) (Or.inl ⟨by rfl, ?_⟩) (by assumption) ?_
                      rotate_left
                      · intro w hSw
                        first | (go_simp; done) | (go_simp; with_reducible rfl)
                      simp only [List.getElem_toArray, List.getElem_cons_succ, List.getElem_cons_zero, Act.put, List.setIfInBounds_toArray, List.set_cons_zero, List.set_cons_succ]
                      refine wpHead_take (i := 32) (v := ?_) (by rfl) (by kernel_rfl) (by kernel_rfl) (by exact fun _ _ _ h => h) (Or.inl ⟨by rfl, ?_⟩) (by assumption) ?_
                      rotate_left
                      · intro w hSw
                        first | (go_simp; done) | (go_simp; with_reducible rfl)
                      simp only [List.getElem_toArray, List.getElem_cons_succ, List.getElem_cons_zero, Act.put, List.setIfInBounds_toArray, List.set_cons_zero, List.set_cons_succ]
                      refine wpHead_take (i := 33) (v := ?_) (by rfl) (by kernel_rfl) (by kernel_rfl) (by exact fun _ _ _ h => h) (Or.inl ⟨by rfl, ?_⟩) (by assumption) ?_
                      rotate_left
                      · intro w hSw
                        first | (go_simp; done) | (go_simp; with_reducible rfl)
                      simp only [List.getElem_toArray, List.getElem_cons_succ, List.getElem_cons_zero, Act.put, List.setIfInBounds_toArray, List.set_cons_zero, List.set_cons_succ]
                      refine wpHead_done (by kernel_rfl) ?_
                      have HXE := Lib.hid hHeld
                      clear hks hca0 hca1 hct e14 e15 e22 e23 hHeld
                      go_wp2
                      go_roundw
                      case rel => exact ⟨k + 1, by go_num, by omega, by rw [HAN.out, hkn]; rw [hfin.out, HQV.out]; rfl, HXE.out⟩
                      case measure => simp [intOf]; omega
                    exact AllHead.nil
                  exact AllHead.nil
            have hkl' : ¬ (k : Int) < (t.length : Int) := by omega
            obtain rfl : k = t.length := by omega
            rw [List.take_length]
            have hany : (t.any fun x => decide (lowL x = T4) || decide (x[1]? = some 34)) = true := by
              obtain ⟨x, hx1, hx2⟩ := HGD.out
              rw [List.any_eq_true]
              refine ⟨x, hx1, ?_⟩
              rcases hx2 with h | h
              · have h' : lowL x = T4 := by rw [HT4.out]; exact h
                rw [h']; simp
              · rw [h]; simp
            rw [hany]
            clear hany
            go_wp2
            go_roundw
            case rel => exact ⟨i + 1, by go_num, by omega, hxk⟩
            case measure => simp [intOf]; omega
        have hil' : ¬ (i : Int) < (s.to_.length : Int) := by omega
        have HXX := Lib.hid (HE13.out.trans hx)
        go_wp2_with fail
        refine (HLV wr (HWX.out _ HXX.out)).mono ?_
        rintro e wz ⟨rfl, hxz⟩
        have HZZ := Lib.hid ((HWX.out _ HXX.out).trans hxz)
        go_wp2
        go_ret
        exact ⟨rfl, HZZ.out⟩
end Go.Proofs.Ytchokelpimibdaa
