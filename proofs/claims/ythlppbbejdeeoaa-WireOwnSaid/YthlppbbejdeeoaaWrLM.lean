/- The walk of the law WireOwn. Condition: the walk of deed.Check (CheckLaw), and the bounds named. -/
import Derived.Test.YthlppbbejdeeoaaWrKM
import Derived.Test.YthlppbbejdeeoaaShp
namespace Go.Proofs.Ythlppbbejdeeoaa
open Go.RowKit
theorem Shp.cell {w w' : World} {g t : Nat} {cs : Array Value} (h : w.heap[g]? = some (.cells cs t (0, 0))) (ht : t ≠ 5) (j : Nat) (v : Value) (hv : cs[j]? = some v) (hs : Shp w w') : w'.cell? ⟨g, j, none⟩ = some v := by
  obtain ⟨cs', h1, h2, _⟩ := hs _ _ _ _ h
  rw [h2 ht] at h1
  rw [cell_of_row w' g j _ _ _ h1, hv]
theorem putMT_no {m : Ml} (h : (putMT m).2 ≠ 0) : (putMT m).1 = [] := by
  unfold putMT at *
  split
  · rfl
  · rename_i h1
    rw [if_neg h1] at h
    exact absurd rfl h
theorem putMT_ok {m : Ml} (h : (putMT m).2 = 0) : checkM m = 0 := by
  unfold putMT at h
  split at h
  · rename_i h1; exact absurd h h1
  · rename_i h1; simpa using h1
set_option maxRecDepth 20000 in
set_option maxHeartbeats 8000000 in
theorem WireOwn_any (HCK : CheckLaw) (m : Ml) (Ap Ad Ae An Av : Option Addr) (cp cd ce cn cv : Nat) (w : World)
    (hP : Sl w Ap (doV m.peers)) (hE : Sl w Ae (doV m.epochs)) (hN : Sl w An (doV m.nums)) (hV : Bs w Av m.vbytes) (hD : RsM RDd 10 [] w Ad m.deeds)
    (hlp : m.peers.length ≤ 140737488351232) (hdl : m.deeds.length ≤ 140737488351232) (hle : m.epochs.length ≤ 140737488351232) (hln : m.nums.length ≤ 140737488351232) (hlv : m.vbytes.length ≤ 140737488351232) :
    Calls Try.prog 4 #[.agg (mlC m (.slice Ap m.peers.length cp) (.slice Ad m.deeds.length cd) (.slice Ae m.epochs.length ce) (.slice An m.nums.length cn) (.slice Av m.vbytes.length cv))] w (Yes w) := by
  have HP := fun W (hx : Ext w W) => wPut_any HCK m Ap Ad Ae An Av cp cd ce cn cv W (hP.ext hx) (hE.ext hx) (hN.ext hx) (hV.ext hx) (hD.kept (.of_ext hx)) hlp hdl hle hln hlv
  obtain ⟨mc, hmc⟩ : ∃ mc, mc = mlC m (.slice Ap m.peers.length cp) (.slice Ad m.deeds.length cd) (.slice Ae m.epochs.length ce) (.slice An m.nums.length cn) (.slice Av m.vbytes.length cv) := ⟨_, rfl⟩
  have hsm : (Try.prog.info? 37).map (·.size) = some mc.size := by rw [hmc]; kernel_rfl
  rw [← hmc] at HP ⊢
  obtain ⟨wa, hwa⟩ : ∃ wa, wa = w.alloc (.cells mc 37) := ⟨_, rfl⟩
  have hxa : Ext w wa := by rw [hwa]; exact (Ext.refl w).alloc _
  have hrowM : wa.heap[w.heap.size]? = some (.cells mc 37 (0, 0)) := by rw [hwa]; exact heap_alloc_new w _
  have HWA := Lib.hid hwa
  clear hP hE hN hV hD hmc hwa
  go_enter Try.func4, Try.ntmps4
  go_wp2_with (first | (with_reducible refine stop_load 37 ?_) | (with_reducible refine stop_store 37 ?_) | (with_reducible refine stop_alloc 37 ?_))
  rw [← HWA.out]
  refine go_on (wpList_load_row rfl 37 _ rfl w.heap.size rfl 37 _ (0, 0) _ hrowM Try.underlying37 rfl hsm ?_)
  go_wp2_with fail
  refine (HP wa hxa).mono ?_
  rintro e w1 ⟨hx1, v1, rfl, hown1⟩
  have hx01 := hxa.trans hx1
  by_cases h0 : (putMT m).2 = 0
  · have hck := putMT_ok h0
    have HTK := take_putT hck
    have hlb : (putMT m).1.length ≤ 2100 := by
      unfold putMT
      rw [if_neg (by simpa using hck)]
      have := (checkM_ok hck).2.2.2
      rw [packL_length]
      omega
    unfold PutSays at HP
    simp only [h0] at HP
    rw [h0]
    generalize (putMT m).1 = lb at *
    obtain ⟨A1, c1, rfl⟩ := hown1.form
    have HT := wTake_any HCK A1 c1 lb w1 hown1.bs hown1.cap.1 hown1.cap.2
    unfold TakeW at HT
    rw [HTK] at HT
    clear HTK h0 hck
    have s1 := run_str (P := Try.prog) Try.underlying32 Try.underlying5 Try.underlying9 hown1.bs lb.length c1 rfl
    have s0 := s1 w1 (Ext.refl _)
    go_wp2_with fail
    refine HT.mono ?_
    rintro e w2 ⟨hx2, P, D, E, N, V, rfl, hrows⟩
    have h1c := hrows.one
    clear HT s0
    go_wp2_with (first | (with_reducible refine stop_load 37 ?_) | (with_reducible refine stop_store 37 ?_) | (with_reducible refine stop_alloc 37 ?_))
    refine go_on (wpList_alloc_ rfl rfl mail_info ?_)
    go_wp2_with (first | (with_reducible refine stop_load 37 ?_) | (with_reducible refine stop_store 37 ?_) | (with_reducible refine stop_alloc 37 ?_))
    refine go_on (wpList_store_last (c' := mlC m P D E N V) rfl rfl rfl rfl (mlC_info _ _ _ _ _ _) rfl h1c ?_)
    intro w3 hrow3 hx3 _
    have hx13 := hx2.trans hx3
    have hds := (hrows.ext hx3).d
    have hvs := (hrows.ext hx3).v
    obtain ⟨Ad2, cd2, rfl⟩ := hds.form
    obtain ⟨Av2, cv2, rfl⟩ := hvs.form
    have CV : ∀ W, Shp w3 W → W.cell? ⟨w2.heap.size, 17, none⟩ = some (.slice Av2 m.vbytes.length cv2) := fun W hs => Shp.cell hrow3 (by decide) 17 _ rfl hs
    have CD : ∀ W, Shp w3 W → W.cell? ⟨w2.heap.size, 10, none⟩ = some (.slice Ad2 m.deeds.length cd2) := fun W hs => Shp.cell hrow3 (by decide) 10 _ rfl hs
    clear hrow3 hrows h1c hx2 hx3
    go_wp2
    go_loopw [8] (fun jv wr => ∃ j : Nat, jv = .int .i64 j ∧ j ≤ m.vbytes.length ∧ Ext w1 wr ∧ Shp w3 wr) (fun jv _ => m.vbytes.length - (intOf jv).toNat)
    case atStart => exact ⟨0, rfl, by omega, hx13, Shp.refl _⟩
    case round =>
      obtain ⟨j, rfl, hj, hxr, hsr⟩ := hrel
      have CVr := CV _ hsr
      by_cases hjl : j < m.vbytes.length
      · obtain ⟨g, b, cs, hA', hg, hcb, hz, hrow⟩ := hvs.shp hsr hjl
        subst hA'
        obtain ⟨y, hy⟩ := xor_one b
        have HSR := Lib.hid (hsr.set hrow j y)
        have HXR := Lib.hid (hxr.setCell (p := ⟨g, j, none⟩) hg (.int .u8 (y.toNat : Int)))
        have hjl2 : (j : Int) < (m.vbytes.length : Int) := by omega
        clear hrow hsr hxr hj CV CD hvs hds
        generalize m.vbytes.length = n at *
        generalize b.toNat = x at *
        go_wp2
        go_roundw
        case rel => exact ⟨j + 1, by go_num, by omega, HXR.out, HSR.out⟩
        case measure => simp [intOf]; omega
      · have hjl2 : ¬ (j : Int) < (m.vbytes.length : Int) := by omega
        clear hj hjl CV hvs
        generalize m.vbytes.length = n at *
        go_wp2
        clear CVr hjl2
        obtain ⟨wq, hwq⟩ : ∃ x, x = wr := ⟨wr, rfl⟩
        subst hwq
        go_loopw [9, 10] (fun iv jv wr => ∃ i : Nat, iv = .int .i64 i ∧ i ≤ m.deeds.length ∧ Ext w1 wr ∧ Shp w3 wr) (fun iv _ _ => m.deeds.length - (intOf iv).toNat)
        case atStart => exact ⟨0, rfl, by omega, hxr, hsr⟩
        case round =>
          clear hxr hsr
          obtain ⟨i, rfl, hi, hxr, hsr⟩ := hrel
          have CDr := CD _ hsr
          by_cases hlt : i < m.deeds.length
          · have hlt2 : (i : Int) < m.deeds.length := by omega
            go_wp2
            go_loopw [10] (fun jv wr => ∃ j : Nat, jv = .int .i64 j ∧ j ≤ m.deeds[i].bytes.length ∧ Ext w1 wr ∧ Shp w3 wr) (fun jv _ => m.deeds[i].bytes.length - (intOf jv).toNat)
            case atStart => exact ⟨0, rfl, by omega, hxr, hsr⟩
            case round =>
              clear hxr hsr CDr
              obtain ⟨j, rfl, hj, hxr, hsr⟩ := hrel
              have CDr := CD _ hsr
              obtain ⟨ad, A', c', hA, hc9, hown⟩ := hds.shp hsr hlt
              subst hA
              by_cases hjl : j < m.deeds[i].bytes.length
              · obtain ⟨g, b, cs, hA', hg, hcb, hz, hrow⟩ := hown.shp hsr hjl
                subst hA'
                obtain ⟨y, hy⟩ := xor_one b
                have HSR := Lib.hid (hsr.set hrow j y)
                have HXR := Lib.hid (hxr.setCell (p := ⟨g, j, none⟩) hg (.int .u8 (y.toNat : Int)))
                have hbl : m.deeds[i].bytes.length ≤ 9223372036854775807 := by have := hown.cap; omega
                have hjl2 : (j : Int) < (m.deeds[i].bytes.length : Int) := by omega
                clear hown hrow hsr hxr hj CD hds
                generalize m.deeds[i].bytes.length = n at *
                generalize b.toNat = x at *
                go_wp2
                go_roundw
                case rel => exact ⟨j + 1, by go_num, by omega, HXR.out, HSR.out⟩
                case measure => simp [intOf]; omega
              · have hjl2 : ¬ (j : Int) < (m.deeds[i].bytes.length : Int) := by omega
                clear hown hj hjl
                generalize m.deeds[i].bytes.length = n at *
                go_wp2
                go_roundw
                case rel => exact ⟨i + 1, by go_num, by omega, hxr, hsr⟩
                case measure => simp [intOf]; omega
          · have hlt2 : ¬ (i : Int) < m.deeds.length := by omega
            have hst := s1 wr hxr
            have ho := hown1.ext hxr
            have HX := Lib.hid (hx1.trans hxr)
            clear s1 hxr hsr hlt hds hown1 CD
            go_wp2
            clear CDr hlt2 hst
            obtain ⟨wq, hwq⟩ : ∃ x, x = wr := ⟨wr, rfl⟩
            subst hwq
            go_loopw [11] (fun jv wr => ∃ (j : Nat) (l' : By), jv = .int .i64 j ∧ j ≤ lb.length ∧ l'.length = lb.length ∧ Ext wa wr ∧ Own wr wa.heap.size (.slice A1 lb.length c1) l') (fun jv _ => lb.length - (intOf jv).toNat)
            case atStart => exact ⟨0, lb, rfl, by omega, rfl, HX.out, ho⟩
            case round =>
              clear ho
              obtain ⟨j, l', rfl, hj, hll, hxr, ho⟩ := hrel
              by_cases hjl : j < lb.length
              · obtain ⟨g, rfl, hg, _⟩ := ho.some_ (by omega)
                have hjl2 : (j : Int) < (lb.length : Int) := by omega
                have hc := ho.cell (k := j) (by omega)
                have hz := ho.free j
                obtain ⟨y, hy⟩ := xor_one l'[j]
                have HO := Lib.hid (ho.set j y)
                have HXR := Lib.hid (hxr.setCell (p := ⟨g, j, none⟩) hg (.int .u8 (y.toNat : Int)))
                have HLL := Lib.hid hll
                generalize l'[j].toNat = x at *
                clear ho hxr hj
                go_wp2
                go_roundw
                case rel => exact ⟨j + 1, l'.set j y, by go_num, by omega, by rw [List.length_set]; exact HLL.out, HXR.out, HO.out⟩
                case measure => simp [intOf]; omega
              · have hjl2 : ¬ (j : Int) < (lb.length : Int) := by omega
                have HP3 := HP wr (hxa.trans hxr)
                have hrM := hxr.obj hrowM
                have hx0r := hxa.trans hxr
                clear ho hj hjl HP hll
                go_wp2_with (first | (with_reducible refine stop_load 37 ?_) | (with_reducible refine stop_store 37 ?_) | (with_reducible refine stop_alloc 37 ?_))
                refine go_on (wpList_load_row rfl 37 _ rfl w.heap.size rfl 37 _ (0, 0) _ hrM Try.underlying37 rfl hsm ?_)
                go_wp2_with fail
                refine HP3.mono ?_
                rintro e w6 ⟨hx6, v6, rfl, hown6⟩
                have hx06 := hx0r.trans hx6
                obtain ⟨A6, c6, rfl⟩ := hown6.form
                clear HP3 hrM
                go_wp2_with fail
                refine (wlive_any HCK w6).mono ?_
                rintro e w7 ⟨rfl, hx7⟩
                have hx07 := hx06.trans hx7
                have s1 := run_str (P := Try.prog) Try.underlying32 Try.underlying5 Try.underlying9 hown6.bs lb.length c6 rfl w7 hx7
                clear hown6
                go_wp2
                go_ret
                exact ⟨rfl, hx07⟩
  · have hb := putMT_no h0
    have k0 : (((putMT m).2 : Int) == 0) = false := by simpa using h0
    have k2 : ¬ (putMT m).2 = 0 := h0
    rw [hb] at hown1
    obtain ⟨A1, c1, rfl⟩ := hown1.form
    generalize (putMT m).2 = z at *
    clear h0 hown1 hb HP
    go_wp2_with fail
    refine (wlive_any HCK w1).mono ?_
    rintro e w7 ⟨rfl, hx7⟩
    have hx07 := hx01.trans hx7
    go_wp2
    go_ret
    exact ⟨rfl, hx07⟩
end Go.Proofs.Ythlppbbejdeeoaa
