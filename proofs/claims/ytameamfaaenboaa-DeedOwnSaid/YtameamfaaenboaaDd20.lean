/- The walk of the law DeedOwn. Condition: that of Check (CheckLaw). -/
import Derived.Test.YtameamfaaenboaaDd19
import Derived.Laws.BitsAllLaws
namespace Go.Proofs.Ytameamfaaenboaa
open Go.RowKit
theorem xor_one (x : UInt8) : ∃ y : UInt8, bits .xor .u8 (x.toNat : Int) 1 = (y.toNat : Int) := by
  have h1 := x.toNat_lt
  have h2 : x.toNat ^^^ 1 < 256 := Nat.xor_lt_two_pow (n := 8) (by omega) (by omega)
  refine ⟨UInt8.ofNat (x.toNat ^^^ 1), ?_⟩
  rw [show (1 : Int) = ((1 : Nat) : Int) from rfl, u8_xor_nat _ _ (by omega) (by omega), UInt8.toNat_ofNat']
  omega
/-- nothing has turned but bytes into bytes -/
def Shp (w w' : World) : Prop := ∀ (g : Nat) cs t fr, w.heap[g]? = some (.cells cs t fr) →
  ∃ cs', w'.heap[g]? = some (.cells cs' t fr) ∧ (t ≠ 5 → cs' = cs) ∧ ∀ (k : Nat) (b : UInt8), cs[k]? = some (.int .u8 (b.toNat : Int)) → ∃ b' : UInt8, cs'[k]? = some (.int .u8 (b'.toNat : Int))
theorem Shp.refl (w : World) : Shp w w := fun _ cs _ _ h => ⟨cs, h, fun _ => rfl, fun _ b hk => ⟨b, hk⟩⟩
theorem Shp.set {w w' : World} {g : Nat} {cs : Array Value} (h : Shp w w') (hg : w'.heap[g]? = some (.cells cs 5 (0, 0))) (k : Nat) (y : UInt8) : Shp w (w'.setCell ⟨g, k, none⟩ (.int .u8 (y.toNat : Int))) := by
  intro g' cs' t fr' hw
  obtain ⟨cs2, h1, h2, h3⟩ := h g' cs' t fr' hw
  by_cases he : g' = g
  · subst he
    rw [hg] at h1
    cases h1
    refine ⟨cs.setIfInBounds k (.int .u8 (y.toNat : Int)), heap_setCell_same w' g' k _ _ _ hg, fun hne => absurd rfl hne, fun j b hj => ?_⟩
    obtain ⟨b', hb⟩ := h3 j b hj
    rw [Array.getElem?_setIfInBounds]
    split
    · rename_i e
      subst e
      split
      · exact ⟨y, rfl⟩
      · rename_i hlt
        rw [Array.getElem?_eq_none (by omega)] at hb
        cases hb
    · exact ⟨b', hb⟩
  · have hk : Kept [g] w' (w'.setCell ⟨g, k, none⟩ (.int .u8 (y.toNat : Int))) := (Kept.refl _ _).setCell (.inl (by simp)) _
    exact ⟨cs2, hk.heap h1 (by simpa using he), h2, h3⟩
theorem Own.shp {w w' : World} {base n c : Nat} {A : Option Addr} {l : By} (h : Own w base (.slice A n c) l) (hs : Shp w w') {k : Nat} (hk : k < l.length) :
    ∃ (g : Nat) (b : UInt8) (cs : Array Value), A = some ⟨g, 0, none⟩ ∧ base ≤ g ∧ w'.cell? ⟨g, k, none⟩ = some (.int .u8 (b.toNat : Int)) ∧ w'.frozen? ⟨g, k, none⟩ = false ∧ w'.heap[g]? = some (.cells cs 5 (0, 0)) := by
  obtain ⟨g, rfl, hg, _⟩ := h.some_ (by omega)
  have hc := h.cell hk
  rcases owns_type h with h0 | ⟨g', cur, h1, h2⟩
  · cases h0
  · simp [Value.ownBlock] at h1
    subst h1
    rw [cell_of_row w g k _ _ _ h2] at hc
    obtain ⟨cs', q1, _, q3⟩ := hs _ _ _ _ h2
    obtain ⟨b', hb⟩ := q3 k _ hc
    exact ⟨g, b', cs', rfl, hg, by rw [cell_of_row w' g k _ _ _ q1, hb], frozen_of_row w' g k _ _ q1, q1⟩
theorem OwnDs.shp {w w' : World} {base n c : Nat} {A : Option Addr} {ds : List Dd} (h : OwnDs w base (.slice A n c) ds) (hs : Shp w w') {i : Nat} (hi : i < ds.length) :
    ∃ (ad : Addr) (A' : Option Addr) (c' : Nat), A = some ad ∧ w'.cell? ⟨(ad.add (i * 10)).block, (ad.add (i * 10)).off + 9, none⟩ = some (.slice A' ds[i].bytes.length c') ∧ Own w base (.slice A' ds[i].bytes.length c') ds[i].bytes := by
  obtain ⟨css, h1, h2, h3, h4⟩ := h
  have hi' : i < css.length := by omega
  obtain ⟨pv, h5, h6⟩ := h4 i css[i] ds[i] (List.getElem?_eq_getElem hi') (List.getElem?_eq_getElem hi)
  obtain ⟨A', c', rfl⟩ := h6.form
  have hv := flatten_get h2 i 9 _ (List.getElem?_eq_getElem hi') (by omega)
  rw [h5] at hv
  have hv : css.flatten[i * 10 + 9]? = some (.slice A' ds[i].bytes.length c') := by rw [hv]; rfl
  rcases h3.2 with ⟨e, hn⟩ | ⟨g, cap, cur, e, hb, hg, _⟩
  · omega
  · injection e with e1 e2 e3
    subst e1
    obtain ⟨ad, e, hc⟩ := (Sl.own h3 rfl) _ _ hv
    injection e with e
    subst e
    rw [add_pos' _ (i * 10 + 8)] at hc
    simp only [Nat.zero_add] at hc
    rw [cell_of_row w g _ _ _ _ hg] at hc
    obtain ⟨cs', q1, q2, _⟩ := hs _ _ _ _ hg
    have q2 := q2 (by decide)
    subst q2
    refine ⟨_, A', c', rfl, ?_, h6⟩
    have e1 : ((⟨g, 0, none⟩ : Addr).add (i * 10)).block = g := addr_add_block _ _
    have e2 : ((⟨g, 0, none⟩ : Addr).add (i * 10)).off = i * 10 := by unfold Addr.add; split <;> simp_all
    rw [e1, e2, cell_of_row w' g _ _ _ _ q1]
    exact hc
theorem putAllT_no {ds : List Dd} (h : (putAllT ds).2 ≠ 0) : (putAllT ds).1 = [] := by
  unfold putAllT at *
  split
  · rfl
  · rename_i h1
    split
    · rfl
    · rename_i h2
      split
      · rfl
      · rename_i h3
        split
        · rfl
        · rename_i h4
          rw [if_neg h1, if_neg h2, if_neg h3, if_neg h4] at h
          exact absurd rfl h
set_option maxRecDepth 20000 in
set_option maxHeartbeats 4000000 in
theorem DeedOwn_any (HCK : CheckLaw) (ds : List Dd) (A : Option Addr) (c : Nat) (w : World) (h : RsM RDd 10 [] w A ds) (hl : ds.length ≤ 140737488351232) :
    Calls Try.prog 5 #[.slice A ds.length c] w (Yes w) := by
  have HP := PutAll_any HCK ds A c w h hl
  go_enter Try.func5, Try.ntmps5
  go_wp2_with fail
  refine HP.mono ?_
  rintro e w1 ⟨hx1, v1, rfl, hown1⟩
  clear HP
  by_cases h0 : (putAllT ds).2 = 0
  · have HTK := takeAll_put h0
    have hlb : (putAllT ds).1.length ≤ 1800 := by have h := putAllT_ok h0; rw [h.1]; exact h.2.2.2.2
    have HP2 := fun W (hx : Ext w W) => PutAll_any HCK ds A c W (h.kept (.of_ext hx)) hl
    have hdl : ds.length ≤ 12 := (putAllT_ok h0).2.2.1
    unfold PutSays at HP2
    rw [h0] at *
    generalize (putAllT ds).1 = lb at *
    obtain ⟨A1, c1, rfl⟩ := hown1.form
    have HT := TakeAll_any HCK A1 c1 lb w1 hown1.bs hown1.cap.1
    unfold TASays at HT
    rw [HTK] at HT
    clear HTK h0
    have s1 := run_str (P := Try.prog) Try.underlying23 Try.underlying5 Try.underlying9 hown1.bs lb.length c1 rfl
    have s0 := s1 w1 (Ext.refl _)
    go_wp2_with fail
    refine HT.mono ?_
    rintro e w2 ⟨hx2, v2, rfl, hds⟩
    obtain ⟨A2, c2, rfl⟩ := hds.form
    clear HT s0
    go_wp2
    go_loopw [8, 9] (fun iv jv wr => ∃ i : Nat, iv = .int .i64 i ∧ i ≤ ds.length ∧ Ext w1 wr ∧ Shp w2 wr) (fun iv _ _ => ds.length - (intOf iv).toNat)
    case atStart => exact ⟨0, rfl, by omega, hx2, Shp.refl _⟩
    case round =>
      obtain ⟨i, rfl, hi, hxr, hsr⟩ := hrel
      by_cases hlt : i < ds.length
      · have hlt2 : (i : Int) < ds.length := by omega
        go_wp2
        go_loopw [9] (fun jv wr => ∃ j : Nat, jv = .int .i64 j ∧ j ≤ ds[i].bytes.length ∧ Ext w1 wr ∧ Shp w2 wr) (fun jv _ => ds[i].bytes.length - (intOf jv).toNat)
        case atStart => exact ⟨0, rfl, by omega, hxr, hsr⟩
        case round =>
          clear hxr hsr
          obtain ⟨j, rfl, hj, hxr, hsr⟩ := hrel
          obtain ⟨ad, A', c', hA, hc9, hown⟩ := hds.shp hsr hlt
          subst hA
          by_cases hjl : j < ds[i].bytes.length
          · obtain ⟨g, b, cs, hA', hg, hcb, hz, hrow⟩ := hown.shp hsr hjl
            subst hA'
            obtain ⟨y, hy⟩ := xor_one b
            have HSR := Lib.hid (hsr.set hrow j y)
            have HXR := Lib.hid (hxr.setCell (p := ⟨g, j, none⟩) hg (.int .u8 (y.toNat : Int)))
            have hbl : ds[i].bytes.length ≤ 9223372036854775807 := by have := hown.cap; omega
            have hjl2 : (j : Int) < (ds[i].bytes.length : Int) := by omega
            clear hown hrow hsr hxr hj
            generalize ds[i].bytes.length = n at *
            generalize b.toNat = x at *
            go_wp2
            go_roundw
            case rel => exact ⟨j + 1, by go_num, by omega, HXR.out, HSR.out⟩
            case measure => simp [intOf]; omega
          · have hjl2 : ¬ (j : Int) < (ds[i].bytes.length : Int) := by omega
            clear hown hj hjl
            generalize ds[i].bytes.length = n at *
            go_wp2
            go_roundw
            case rel => exact ⟨i + 1, by go_num, by omega, hxr, hsr⟩
            case measure => simp [intOf]; omega
      · have hlt2 : ¬ (i : Int) < ds.length := by omega
        have hst := s1 wr hxr
        have ho := hown1.ext hxr
        have HX := Lib.hid (hx1.trans hxr)
        clear s1 hxr hsr hlt hds hown1
        go_wp2
        go_loopw [10] (fun jv wr => ∃ (j : Nat) (l' : By), jv = .int .i64 j ∧ j ≤ lb.length ∧ l'.length = lb.length ∧ Ext w wr ∧ Own wr w.heap.size (.slice A1 lb.length c1) l') (fun jv _ => lb.length - (intOf jv).toNat)
        case atStart => exact ⟨0, lb, rfl, by omega, rfl, HX.out, ho⟩
        case round =>
          clear ho
          obtain ⟨j, l', rfl, hj, hll, hxr, ho⟩ := hrel
          by_cases hjl : j < lb.length
          · obtain ⟨g, rfl, hg, _⟩ := ho.some_ (by omega)
            have hjl2 : (j : Int) < (lb.length : Int) := by omega
            have hc := ho.cell (k := j) (by omega)
            have hz := ho.free j
            obtain ⟨y, hy⟩ := xor_one l'[j]
            have HO := Lib.hid (ho.set j y)
            have HXR := Lib.hid (hxr.setCell (p := ⟨g, j, none⟩) hg (.int .u8 (y.toNat : Int)))
            have HLL := Lib.hid hll
            generalize l'[j].toNat = x at *
            clear ho hxr hj
            go_wp2
            go_roundw
            case rel => exact ⟨j + 1, l'.set j y, by go_num, by omega, by rw [List.length_set]; exact HLL.out, HXR.out, HO.out⟩
            case measure => simp [intOf]; omega
          · have hjl2 : ¬ (j : Int) < (lb.length : Int) := by omega
            have HP3 := HP2 wr hxr
            clear ho hj hjl HP2 hll
            go_wp2_with fail
            refine HP3.mono ?_
            rintro e w6 ⟨hx6, v6, rfl, hown6⟩
            have hx06 := hxr.trans hx6
            obtain ⟨A6, c6, rfl⟩ := hown6.form
            clear HP3 hst
            go_wp2_with fail
            refine (dlive_any HCK w6).mono ?_
            rintro e w7 ⟨rfl, hx7⟩
            have hx07 := hx06.trans hx7
            have s1 := run_str (P := Try.prog) Try.underlying23 Try.underlying5 Try.underlying9 hown6.bs lb.length c6 rfl w7 hx7
            clear hown6
            go_wp2
            go_ret
            exact ⟨rfl, hx07⟩
  · have hb := putAllT_no h0
    have k0 : (((putAllT ds).2 : Int) == 0) = false := by simpa using h0
    have k2 : ¬ (putAllT ds).2 = 0 := h0
    rw [hb] at hown1
    obtain ⟨A1, c1, rfl⟩ := hown1.form
    generalize (putAllT ds).2 = z at *
    clear h0 h hown1 hb
    go_wp2_with fail
    refine (dlive_any HCK w1).mono ?_
    rintro e w7 ⟨rfl, hx7⟩
    have hx07 := hx1.trans hx7
    go_wp2
    go_ret
    exact ⟨rfl, hx07⟩
end Go.Proofs.Ytameamfaaenboaa
