/- The walks of the session's Feed, Heard and New. Conditions: the hypotheses of each theorem. -/
import Derived.Test.YtchokelpimibdaaSm8
namespace Go.Proofs.Ytchokelpimibdaa
open Go.RowKit
theorem sfeed_any {M : List Nat} {w : World} {p q : Nat} {s : Se} (h : IsS M w p q s) (A : Option Addr) (c : Nat) (b : By) (hb : Bs w A b) :
    Calls Try.prog 7 #[pt p, .slice A b.length c] w fun e w' => e = .returned (.int .i64 (feedT s b).1) ∧ IsS M w' p q (feedT s b).2 ∧ Kept [q] w w' := by
  have HS := Lib.hid h
  obtain ⟨E1, E2, E3, EF⟩ := h.cells
  have e1 := E1 w (Ext.refl _)
  have e2 := E2 w (Ext.refl _)
  have hst := h.ok.st
  unfold pt
  clear h E1 E2 E3 EF
  by_cases h6 : s.st = 6
  · have HV : Hid (feedT s b = (13, s)) := Lib.hid (feed_over h6)
    have k6 : ((s.st : Int) == 6) = true := by simp; omega
    clear h6 hst hb e1
    go_enter Try.func7, Try.ntmps7
    go_wp2
    go_ret
    rw [HV.out]
    exact ⟨rfl, HS.out, Kept.refl _ _⟩
  · have HV : Hid (feedT s b = (feedE s.buf b, s.cut (feedL s.buf b))) := Lib.hid (by unfold feedT; rw [if_neg h6])
    have k6 : ((s.st : Int) == 6) = false := by simp; omega
    have hF := LFeed_any w HS.out.ln HS.out.qM HS.out.lt HS.out.ok.buf A c b hb
    have HL := Lib.hid (feedL_le s.buf b HS.out.ok.buf)
    unfold pt at hF
    clear h6 hst hb
    generalize feedE s.buf b = er at *
    generalize feedL s.buf b = lb at *
    go_enter Try.func7, Try.ntmps7
    go_wp2_with fail
    refine hF.mono ?_
    rintro e w1 ⟨rfl, hk, h1⟩
    have H1 := Lib.hid (HS.out.buf_ hk h1 HL.out)
    clear h1 hF e1 e2
    go_wp2
    go_ret
    rw [HV.out]
    exact ⟨rfl, H1.out, hk⟩
set_option maxRecDepth 20000 in
set_option maxHeartbeats 2000000 in
theorem sheard_any {M : List Nat} {w : World} {p q : Nat} {s : Se} (h : IsS M w p q s) (h5 : s.st = 5) :
    Calls Try.prog 16 #[pt p, .int .i64 0] w fun e w' => ∃ cs : List Value, e = .returned (.tuple #[.agg cs.toArray, .int .i64 0]) ∧ NewO w.heap.size w' cs (sayO sentB) ∧ IsS M w' p q (restS s) ∧ Kept [p, q] w w' := by
  have HS := Lib.hid h
  obtain ⟨g0, hg0⟩ : ∃ g, g = w.heap.size := ⟨_, rfl⟩
  have hgw : w.heap.size ≤ g0 := by omega
  have hg0p : g0 ∉ [p] := by have := h.plt; simp; omega
  obtain ⟨wa, hwa⟩ : ∃ wa, wa = w.alloc (.cells zOut 39) := ⟨_, rfl⟩
  have hxa : Ext w wa := hwa ▸ (Ext.refl w).alloc _
  have HRA : Hid (wa.heap[g0]? = some (.cells zOut 39 (0, 0))) := Lib.hid (by rw [hg0, hwa]; exact heap_alloc_new w _)
  have hs2 : IsS (g0 :: M) wa p q s := h.grow hxa (fun k hk => by
      rcases List.mem_cons.1 hk with rfl | h
      · exact .inr hgw
      · exact .inl h) (by simp [h.pM]) (by simp [h.qM]) (fun k hk => by
      rcases List.mem_cons.1 hk with rfl | h'
      · exact obj_lt HRA.out
      · exact Nat.lt_of_lt_of_le (h.lt k h') hxa.size)
  have HSA := Lib.hid hs2
  have HKA := Lib.hid (Kept.of_ext (M := [p, q]) hxa)
  have e2 := hs2.cells.2.1 wa (Ext.refl _)
  have HRS := srest_any hs2
  rw [h5] at e2
  unfold pt at HRS
  unfold pt
  clear h hxa hs2 h5
  go_enter Try.func16, Try.ntmps16
  go_wp2_with (first | (with_reducible refine stop_alloc 39 ?_) | (with_reducible refine stop_store 39 ?_))
  refine go_on (wpList_alloc_ rfl rfl aout_info ?_)
  rw [← hg0, ← hwa]
  clear hg0 hwa
  go_wp2_with fail
  refine HRS.mono ?_
  rintro e w3 ⟨rfl, h3, hk3⟩
  have H3 := Lib.hid h3
  have HR3 := Lib.hid (hk3.heap HRA.out hg0p)
  have HK3 := Lib.hid (HKA.out.trans hk3.pq)
  clear HRS h3 hk3 e2
  go_wp2_with fail
  refine (say_any _ w3).mono ?_
  rintro e wy ⟨cs, rfl, hn, hx⟩
  obtain ⟨A1, c1, A2, c2, A3, c3, rfl⟩ := hn.form
  have HN := Lib.hid hn
  have HX := Lib.hid hx
  clear hn hx
  go_wp2_with (first | (with_reducible refine stop_alloc 39 ?_) | (with_reducible refine stop_store 39 ?_))
  refine go_on (wpList_store_whole (g := g0) rfl rfl rfl rfl (HX.out.obj HR3.out) (aout_size outC_size) rfl outC_one ?_)
  intro W hrow hkW _
  go_wp2
  ((try simp only [Exit.inBlock, Exit.then]); refine bodyPost_ret (results_cell1 rfl _ _ g0 _ _ _ _ rfl hrow Try.underlying39 rfl (by kernel_rfl)) rfl ?_)
  exact ⟨_, rfl, fin_out HS.out hgw (obj_lt HR3.out) HN.out (H3.out.ext HX.out) (HK3.out.ext HX.out) hkW⟩
theorem here_parse : parseT (97 :: 64 :: hereB) = ([97], hereB, 0, 0) := by decide +kernel
theorem here_low : lowL hereB = hereB := by decide +kernel
/-- what New leaves: two blocks of its own -/
def NewS (w : World) (e : Ending) (w' : World) : Prop := ∃ p q, e = .returned (.tuple #[pt p, .int .i64 0]) ∧ Ext w w' ∧ w.heap.size ≤ p ∧ w.heap.size ≤ q ∧ p < w'.heap.size ∧ q < w'.heap.size ∧ ∀ N : List Nat, p ∈ N → q ∈ N → (∀ k ∈ N, k < w'.heap.size) → IsS N w' p q newS
theorem snew_any (w : World) (hm : ML w) : Calls Try.prog 6 #[.string (st hereB)] w (NewS w) := by
  have HP := Parse_any (st (97 :: 64 :: hereB)) w (by rw [st_len]; decide)
  rw [tl_st] at HP
  unfold PSays at HP
  rw [here_parse] at HP
  have HL : ∀ W, Calls Try.prog 18 #[.string (st hereB)] W fun e w' => e = .returned (.string (st hereB)) ∧ Ext W w' := fun W => by
    have := Lower_any (st hereB) W (by rw [st_len]; decide)
    rw [tl_st, here_low] at this
    exact this
  have HM := Lib.hid hm
  have hml := hm.lt
  have ea : (⟨#[97, 64]⟩ : ByteArray) ++ st hereB = st (97 :: 64 :: hereB) := by decide +kernel
  have HML := Lib.hid hml
  clear hm hml
  go_enter Try.func6, Try.ntmps6
  go_wp2_with fail
  refine HP.mono ?_
  rintro e w1 ⟨rfl, hx1⟩
  clear HP ea
  go_wp2_with (first | (with_reducible refine stop_alloc 35 ?_) | (with_reducible refine stop_store 35 ?_))
  refine go_on (wpList_alloc_ rfl rfl addr_info ?_)
  go_wp2_with (first | (with_reducible refine stop_alloc 35 ?_) | (with_reducible refine stop_store 35 ?_))
  refine go_on (wpList_store_last rfl rfl rfl rfl (ad_size _ _) rfl (by simp [Value.oneCell']) ?_)
  intro w2 _ hx2 _
  have HX2 := Lib.hid (hx1.trans hx2)
  clear hx1 hx2
  go_wp2_with fail
  refine (HL w2).mono ?_
  rintro e w3 ⟨rfl, hx3⟩
  clear HL
  go_wp2_with fail
  refine (LNew_any w3).mono ?_
  rintro e w4 ⟨rfl, hx4, h4⟩
  have HX4 := Lib.hid (HX2.out.trans (hx3.trans hx4))
  have HZ3 := Lib.hid (HX2.out.trans hx3).size
  have H4 := Lib.hid h4
  have hq4 := (h4 []).lt
  unfold pt
  clear hx3 hx4 h4
  generalize w3.heap.size = q at *
  have HQ4 := Lib.hid hq4
  clear hq4
  go_wp2
  generalize hw5 : w4.alloc _ = w5
  have hx5 : Ext w4 w5 := hw5 ▸ (Ext.refl w4).alloc _
  have hr5 : w5.heap[w4.heap.size]? = some (.cells (sesC q newS (.slice none 0 0)) 57 (0, 0)) := hw5 ▸ heap_alloc_new w4 _
  go_ret2
  have h1 := HQ4.out
  have h2 := HZ3.out
  have h3 := HX4.out.size
  have h4 := HML.out
  have h5 := obj_lt hr5
  exact ⟨w4.heap.size, q, rfl, HX4.out.trans hx5, h3, h2, h5, Nat.lt_of_lt_of_le h1 hx5.size, fun N hp hq hlt => ⟨⟨none, 0, hr5, RsM.nil _ _ _ _ _, by simp [newS], by omega⟩, (H4.out _).ext hx5, hp, hq, by omega, hlt, newS_ok, HM.out.ext (HX4.out.trans hx5), by omega, by omega⟩⟩
end Go.Proofs.Ytchokelpimibdaa
