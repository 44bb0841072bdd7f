/- The walks of the reference's Short (with what has turned) and PutHeld. Conditions: the hypotheses of each theorem; the library's two tables. -/
import Derived.Test.YthlppbbejdeeoaaGreatDoorRWr1M
import Derived.Test.YthlppbbejdeeoaaGreatDoorC14
import Derived.Test.YthlppbbejdeeoaaGreatDoorRDd8M
namespace Go.Proofs.YthlppbbejdeeoaaGreatDoor
open Go.RowKit
set_option maxRecDepth 20000 in
set_option maxHeartbeats 1000000 in
/-- Num, and that no block of old but the bytes' own has turned; where the row lies now -/
theorem RNumL_any (w0 w : World) (b : Value) (l : By) (v n : Nat) (hx : Ext w0 w) (ho : Own w w0.heap.size b l) (hl : l.length + 4 ≤ 140737488355328) (hn : n ≤ 4) (hv : v < 9223372036854775808) :
 Calls Tryz.prog 63 #[b, .int .i64 v, .int .i64 n] w fun e w' => ∃ b', e = .returned b' ∧ LayG w0 w b (l ++ beN n v) w' b' := by
 have HX := Lib.hid hx
 go_enter Tryz.func63, Tryz.ntmps63
 go_wp2
 go_loopw [1, 7, 8] (fun vv xv iv wr => ∃ i : Nat, iv = .int .i64 i ∧ i ≤ n ∧ vv = .int .i64 ((v / 256 ^ i : Nat)) ∧ Own wr w.heap.size xv (beN i v) ∧ Ext w wr) (fun _ _ iv _ => n - (intOf iv).toNat)
 case atStart => exact ⟨0, rfl, by omega, by simp, Own.empty w w.heap.size (Nat.le_refl _), (Ext.refl w).alloc _⟩
 case round =>
  obtain ⟨i, rfl, hi, rfl, hox, hxr⟩ := hrel
  by_cases hlt : i < n
  ·have hlt2 : (i : Int) < (n : Int) := by omega
   obtain ⟨Ax, cx, rfl⟩ := hox.form
   rw [beN_length] at *
   have HD : Hid (v / 256 ^ i / 256 = v / 256 ^ (i + 1)) := Lib.hid (by rw [Nat.div_div_eq_div_mul, Nat.pow_succ])
   have HBE : Hid (beN (i + 1) v = UInt8.ofNat (v / 256 ^ i) :: beN i v) := Lib.hid rfl
   have hqv : v / 256 ^ i ≤ v := Nat.div_le_self _ _
   generalize v / 256 ^ i = q at *
   go_wp2_with (at_builtin; refine unstop ?_)
   have hnew : Own (wr.alloc (.cells #[.int .u8 ((q : Int) % 256)] 5)) w.heap.size (.slice (some ⟨wr.heap.size, 0, none⟩) 1 1) [UInt8.ofNat q] := Own.new wr w.heap.size _ [UInt8.ofNat q] 1 (by rw [u8_of]; rfl) rfl hxr.size (by simp [maxLen])
   refine go_on (wpList_appB bytesTr hnew (hox.bs.ext ((Ext.refl wr).alloc _)) rfl rfl rfl rfl (by rw [beN_length]) (by simp; omega) (by have := hxr.size; simp; omega) ?_)
   intro v' w1 ho1 hg1 _
   have hx1 : Ext w w1 := (hxr.alloc _).own hnew (Nat.le_refl _) hg1
   have HO : Hid (Own w1 w.heap.size v' (beN (i + 1) v)) := Lib.hid (by rw [HBE.out]; exact ho1)
   clear hnew hox hxr ho1 hg1
   go_wp2
   go_roundw
   case rel => exact ⟨i + 1, by go_num, by omega, by rw [← HD.out]; exact congrArg _ (by omega), HO.out, hx1⟩
   case measure => simp [intOf]; omega
  ·obtain rfl : i = n := by omega
   obtain ⟨Ax, cx, rfl⟩ := hox.form
   rw [beN_length] at *
   have hob : Own wr w0.heap.size b l := ho.ext hxr
   go_wp2_with (at_builtin; refine unstop ?_)
   refine go_on (wpList_appB bytesTr hob hox.bs rfl rfl rfl rfl (by rw [beN_length]) (by simp; omega) (by have := hxr.size; have := HX.out.size; omega) ?_)
   intro v' w1 ho1 hg1 hc1
   have hlay : Lay w0 w (l ++ beN i v) w1 v' := ⟨ho1, (HX.out.trans hxr).own hob (Nat.le_refl _) hg1, fun ts ht => (Stp.of_ext hxr).own hob hg1 ht⟩
   have hgr : w.grownBy w1 b.ownBlock := grown_step (ext_grown hxr _) hg1 (.inl rfl)
   have hlg : LayG w0 w b (l ++ beN i v) w1 v' := ⟨hlay, hgr, by
    rcases hc1 with h1 | h1
    ·exact .inl h1
    ·exact .inr ⟨_, h1, hxr.size⟩⟩
   clear hob ho hox hxr ho1 hg1 hc1 hlay hgr
   go_wp2
   go_ret
   exact ⟨_, rfl, hlg⟩
set_option maxRecDepth 20000 in
set_option maxHeartbeats 1000000 in
theorem RShortG_any (w0 w : World) (b : Value) (l p : By) (hx : Ext w0 w) (ho : Own w w0.heap.size b l) (hl : l.length + p.length + 8 ≤ 140737488355328) :
 Calls Tryz.prog 65 #[b, .string (st p)] w fun e w' => ∃ b', e = .returned b' ∧ Lay w0 w (l ++ shortB p) w' b' ∧ w.grownBy w' b.ownBlock := by
 have HN := RNumL_any w0 w b l p.length 1 hx ho (by omega) (by omega) (by omega)
 obtain ⟨s, hs⟩ : ∃ s, s = st p := ⟨_, rfl⟩
 have hz : s.size = p.length := by rw [hs, st_size]
 rw [← hs]
 have HS := Lib.hid hs
 clear hs
 go_enter Tryz.func65, Tryz.ntmps65
 go_wp2_with fail
 refine HN.mono ?_
 rintro e w1 ⟨b1, rfl, hlg⟩
 have hlay := hlg.l
 go_wp2_with (at_builtin; refine unstop ?_)
 refine go_on (wpList_appS hlay.o rfl rfl rfl (congrArg Value.string HS.out) (by simp; omega) hlay.x.size ?_)
 intro b2 w2 ho2 hg2
 have hlay2 : Lay w0 w (l ++ shortB p) w2 b2 := ⟨by simpa [shortB] using ho2, hlay.x.own hlay.o (Nat.le_refl _) hg2, fun ts ht => (hlay.s ts ht).own hlay.o hg2 ht⟩
 have hgr := grown_step hlg.g hg2 hlg.h
 clear hg2 ho2 ho HN hlay hlg
 go_wp2
 go_ret
 exact ⟨_, rfl, hlay2, hgr⟩
theorem beN1_int {x : Int} (h : 0 ≤ x) (v : Int) (hv : v = x % 256) (W : World) : Bs (W.alloc (.cells #[.int .u8 v] 5)) (some ⟨W.heap.size, 0, none⟩) (beN 1 x.toNat) :=
 new_byte (by rw [hv]; omega) W
def heldB (t1 t2 t3 : Nat) (peers epochs : List Int) (all : By) : By := beN 1 1 ++ putTx ⟨t1, t2, t3⟩ ++ listB 1 peers ++ listB 4 epochs ++ all
theorem flat1_take (l : List Int) (k : Nat) : ((l.take k).flatMap fun v => beN 1 v.toNat).length ≤ l.length := by
 rw [flat1, List.length_take]; omega
theorem flat4_take (l : List Int) (k : Nat) : ((l.take k).flatMap fun v => beN 4 v.toNat).length ≤ 4 * l.length := by
 rw [flat4, List.length_take]; omega
set_option maxRecDepth 20000 in
set_option maxHeartbeats 1000000 in
theorem rPutHeld_any (t1 t2 t3 : Nat) (peers epochs : List Int) (deeds : List Dd) (Ap Ad Ae : Option Addr) (cp cd ce : Nat) (w : World) (h1 : t1 ≤ 4294967295) (h2 : t2 ≤ 4294967295) (h3 : t3 ≤ 4294967295)
 (hP : Sl w Ap (doV peers)) (hE : Sl w Ae (doV epochs)) (hD : RsM RDdB 10 [] w Ad deeds) (hT : Tabs w) (hp : ∀ v ∈ peers, 0 ≤ v) (he : ∀ v ∈ epochs, 0 ≤ v ∧ v ≤ 4294967295) (lp : peers.length ≤ 4) (le : epochs.length ≤ 12) (ld : deeds.length ≤ 1048576) (lb : (putAllT deeds).1.length ≤ 1800) :
 Calls Tryz.prog 64 #[.agg #[.int .i64 t1, .int .i64 t2, .int .i64 t3, .slice Ap peers.length cp, .slice Ad deeds.length cd, .slice Ae epochs.length ce]] w fun e w' => ∃ b, e = .returned b ∧ Own w' w.heap.size b (heldB t1 t2 t3 peers epochs (putAllT deeds).1) ∧ Ext w w' := by
 obtain ⟨wa, hwa⟩ : ∃ wa, wa = w.alloc (.cells #[.int .i64 t1, .int .i64 t2, .int .i64 t3, .slice Ap peers.length cp, .slice Ad deeds.length cd, .slice Ae epochs.length ce] 29) := ⟨_, rfl⟩
 have hxa : Ext w wa := by rw [hwa]; exact (Ext.refl w).alloc _
 have hrow : wa.heap[w.heap.size]? = some (.cells #[.int .i64 t1, .int .i64 t2, .int .i64 t3, .slice Ap peers.length cp, .slice Ad deeds.length cd, .slice Ae epochs.length ce] 29 (0, 0)) := by rw [hwa]; exact heap_alloc_new w _
 obtain ⟨wb, hwb⟩ : ∃ wb, wb = wa.alloc (.cells #[.int .u8 1] 5) := ⟨_, rfl⟩
 have hxb : Ext wa wb := by rw [hwb]; exact (Ext.refl wa).alloc _
 have hownB : Own wb w.heap.size (.slice (some ⟨w.heap.size + 1, 0, none⟩) 1 1) (beN 1 1) := by
  rw [hwb, show w.heap.size + 1 = wa.heap.size by rw [hwa]; simp]
  exact Own.new wa w.heap.size _ (beN 1 1) 1 rfl rfl hxa.size (by simp [maxLen])
 have hrng : wb.rangeAt w.heap.size 0 [.int .i64 t1, .int .i64 t2, .int .i64 t3] := World.rangeAt_of_block (hxb.obj hrow) 0 3
 have HM : 29 ∈ [29] := by simp
 have hrowb := hxb.obj hrow
 have C3 := row_s hrowb HM 3 (.slice Ap peers.length cp) rfl
 have C4 := row_s hrowb HM 4 (.slice Ad deeds.length cd) rfl
 have C5 := row_s hrowb HM 5 (.slice Ae epochs.length ce) rfl
 have HWA := Lib.hid hwa
 have HWB := Lib.hid hwb
 have hND : 5 ∉ [29] := by simp
 have HPT := rPutTx_any w wb _ (beN 1 1) t1 t2 t3 (hxa.trans hxb) hownB (by simp) h1 h2 h3
 have HPA := fun W (hx : Ext w W) => RPutAll_any deeds Ad cd W (hD.kept (.of_ext hx)) ld (hT.ext hx)
 obtain ⟨all, hall⟩ : ∃ x, x = (putAllT deeds).1 := ⟨_, rfl⟩
 have HH : Hid (heldB t1 t2 t3 peers epochs all = beN 1 1 ++ putTx ⟨t1, t2, t3⟩ ++ (beN 1 peers.length ++ peers.flatMap fun v => beN 1 v.toNat) ++ (beN 1 epochs.length ++ epochs.flatMap fun v => beN 4 v.toNat) ++ all) := Lib.hid rfl
 rw [← hall] at lb ⊢
 have HALL := Lib.hid hall
 clear hall
 have hpl : (beN 1 1 ++ putTx ⟨t1, t2, t3⟩).length ≤ 20 := by simp [putTx]
 generalize heldB t1 t2 t3 peers epochs all = hb at *
 clear hwa hwb hrow hrowb hD hT
 go_enter Tryz.func64, Tryz.ntmps64
 go_wp2_with (with_reducible refine sL 25 ?_)
 rw [← HWA.out, ← HWB.out]
 refine go_on (wpList_load_mid rfl 25 _ rfl w.heap.size 0 rfl _ _ hrng Tryz.underlying25 rfl (by kernel_rfl) ?_)
 clear hrng
 go_wp2_with fail
 refine HPT.mono ?_
 rintro e w1 ⟨b1, rfl, hl1⟩
 have hq1 := hl1.s _ hND
 clear HPT hownB
 generalize beN 1 1 ++ putTx ⟨t1, t2, t3⟩ = lh at *
 obtain ⟨A1, c1, rfl⟩ := hl1.o.form
 go_wp2_with (at_builtin; refine unstop ?_)
 refine go_on (wpList_appB bytesTr (hl1.o.alloc _) (beN1_int (x := peers.length) (by omega) _ (by first | rfl | omega) _) rfl rfl rfl rfl (by simp) (by simp; omega) (by have := hl1.x.size; simp; omega) ?_)
 intro b2 w2 ho2 hg2 _
 rw [Int.toNat_natCast] at ho2
 have hl2 : Lay w wb (lh ++ beN 1 peers.length) w2 b2 := (hl1.al ((Ext.refl _).alloc _)).app ho2 hg2
 have hq2 := (hq1.alloc _).own (hl1.o.alloc _) hg2 hND
 clear hl1 hq1 ho2 hg2
 go_wp2
 go_loopw [3, 4] (fun xb iv wr => ∃ k : Nat, iv = .int .i64 k ∧ k ≤ peers.length ∧ Lay w wb (lh ++ beN 1 peers.length ++ (peers.take k).flatMap fun v => beN 1 v.toNat) wr xb ∧ Stp [29] wb wr) (fun _ iv _ => peers.length - (intOf iv).toNat)
 case atStart => exact ⟨0, rfl, by omega, by simpa using hl2, hq2⟩
 case round =>
  clear hl2 hq2
  obtain ⟨k, rfl, hk, hLk, hqk⟩ := hrel
  by_cases hlt : k < peers.length
  ·obtain ⟨ad, rfl, hc⟩ := Sl.now (hP.ext hLk.x) (doV_get hlt)
   have hlt2 : (k : Int) < peers.length := by omega
   have HTK := Lib.hid (wtake_len hlt)
   have hp0 := hp _ (List.getElem_mem hlt)
   have hlen := flat1_take peers k
   generalize peers[k] = x at *
   obtain ⟨x, rfl⟩ : ∃ m : Nat, x = (m : Int) := ⟨x.toNat, by omega⟩
   obtain ⟨A2, c2, rfl⟩ := hLk.o.form
   go_wp2_with (at_builtin; refine unstop ?_)
   refine go_on (wpList_appB bytesTr (hLk.o.alloc _) (beN1_int (x := x) (by omega) _ (by first | rfl | omega) _) rfl rfl rfl rfl (by simp) (by simp only [List.length_append, beN_length]; omega) (by have := hLk.x.size; simp; omega) ?_)
   intro b3 w3 ho3 hg3 _
   rw [Int.toNat_natCast] at ho3
   have hl3 := (hLk.al ((Ext.refl _).alloc (.cells #[.int .u8 ((x : Int) % 256)] 5))).app ho3 hg3
   have hq3 := (hqk.alloc (.cells #[.int .u8 ((x : Int) % 256)] 5)).own (hLk.o.alloc _) hg3 hND
   clear hLk hqk ho3 hg3 hlen hc hp0
   go_wp2
   go_roundw
   case rel => exact ⟨k + 1, by go_num, by omega, by rw [HTK.out, List.flatMap_append, ← List.append_assoc]; simpa using hl3, hq3⟩
   case measure => simp [intOf]; omega
  ·have hlt2 : ¬ (k : Int) < peers.length := by omega
   obtain rfl : k = peers.length := by omega
   rw [List.take_length] at hLk
   obtain ⟨lc, hlc⟩ : ∃ lc, lc = lh ++ beN 1 peers.length ++ peers.flatMap fun v => beN 1 v.toNat := ⟨_, rfl⟩
   rw [← hlc] at hLk
   have hll : lc.length ≤ 30 := by rw [hlc]; simp only [List.length_append, beN_length, flat1]; omega
   have HLC := Lib.hid hlc
   obtain ⟨A2, c2, rfl⟩ := hLk.o.form
   clear hlc hlt
   obtain ⟨wv, hwv⟩ : ∃ x, x = wr := ⟨wr, rfl⟩
   subst hwv
   go_wp2_with (at_builtin; refine unstop ?_)
   refine go_on (wpList_appB bytesTr (hLk.o.alloc _) (beN1_int (x := epochs.length) (by omega) _ (by first | rfl | omega) _) rfl rfl rfl rfl (by simp) (by simp; omega) (by have := hLk.x.size; simp; omega) ?_)
   intro b4 w4 ho4 hg4 _
   rw [Int.toNat_natCast] at ho4
   have hl4 : Lay w wb (lc ++ beN 1 epochs.length) w4 b4 := (hLk.al ((Ext.refl _).alloc _)).app ho4 hg4
   have hq4 := (hqk.alloc _).own (hLk.o.alloc _) hg4 hND
   clear hLk hqk ho4 hg4
   go_wp2
   go_loopw [3, 5] (fun xb iv wr => ∃ k : Nat, iv = .int .i64 k ∧ k ≤ epochs.length ∧ Lay w wb (lc ++ beN 1 epochs.length ++ (epochs.take k).flatMap fun v => beN 4 v.toNat) wr xb ∧ Stp [29] wb wr) (fun _ iv _ => epochs.length - (intOf iv).toNat)
   case atStart => exact ⟨0, rfl, by omega, by simpa using hl4, hq4⟩
   case round =>
    clear hl4 hq4
    obtain ⟨k, rfl, hk, hLk, hqk⟩ := hrel
    by_cases hlt : k < epochs.length
    ·obtain ⟨ad, rfl, hc⟩ := Sl.now (hE.ext hLk.x) (doV_get hlt)
     have hlt2 : (k : Int) < epochs.length := by omega
     have HTK := Lib.hid (wtake_len hlt)
     have hp0 := he _ (List.getElem_mem hlt)
     have hlen := flat4_take epochs k
     generalize epochs[k] = x at *
     obtain ⟨x, rfl⟩ : ∃ m : Nat, x = (m : Int) := ⟨x.toNat, by omega⟩
     have HX := RNumB_any w _ _ _ x 4 hLk.x hLk.o (by simp only [List.length_append, beN_length]; omega) (by omega) (by omega)
     have HLK := Lib.hid hLk
     have HQK := Lib.hid hqk
     clear hLk hlen hp0
     go_wp2_with fail
     refine HX.mono ?_
     rintro e w5 ⟨b5, rfl, hl5⟩
     have hL3 := HLK.out.trans hl5
     have hq3 := HQK.out.trans (hl5.s _ hND)
     clear hl5 HX hqk
     go_wp2
     go_roundw
     case rel => exact ⟨k + 1, by go_num, by omega, by rw [HTK.out, List.flatMap_append, ← List.append_assoc]; simpa using hL3, hq3⟩
     case measure => simp [intOf]; omega
    ·have hlt2 : ¬ (k : Int) < epochs.length := by omega
     obtain rfl : k = epochs.length := by omega
     rw [List.take_length] at hLk
     obtain ⟨ld, hld⟩ : ∃ ld, ld = lc ++ beN 1 epochs.length ++ epochs.flatMap fun v => beN 4 v.toNat := ⟨_, rfl⟩
     rw [← hld] at hLk
     have hdl : ld.length ≤ 100 := by rw [hld]; simp only [List.length_append, beN_length, flat4]; omega
     have HLD := Lib.hid hld
     clear hld
     have HP9 := HPA _ hLk.x
     unfold PutSays at HP9
     rw [← HALL.out] at HP9
     obtain ⟨A3, c3, rfl⟩ := hLk.o.form
     clear hlt HPA
     go_wp2_with fail
     refine HP9.mono ?_
     rintro e w6 ⟨hx6, v, rfl, hov⟩
     obtain ⟨Aa, ca, rfl⟩ := hov.form
     have hl6 := hLk.al hx6
     clear HP9 hLk
     go_wp2_with (at_builtin; refine unstop ?_)
     refine go_on (wpList_appB bytesTr hl6.o hov.bs rfl rfl rfl rfl rfl (by omega) hl6.x.size ?_)
     intro b7 w7 ho7 hg7 _
     have hl7 := hl6.app ho7 hg7
     clear hl6 ho7 hg7 hov hqk
     go_wp2
     go_ret
     have ho := hl7.o
     rw [HLD.out, HLC.out] at ho
     exact ⟨_, rfl, by rw [HH.out]; simpa [List.append_assoc] using ho, hl7.x⟩
end Go.Proofs.YthlppbbejdeeoaaGreatDoor
