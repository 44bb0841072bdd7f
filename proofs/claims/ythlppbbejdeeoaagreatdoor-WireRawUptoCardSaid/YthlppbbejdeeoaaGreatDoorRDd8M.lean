/- The walks of the reference's Bytes and PutAll. Conditions: the hypotheses of each theorem; the library's two tables. -/
import Derived.Test.YthlppbbejdeeoaaGreatDoorC3
import Derived.Test.YthlppbbejdeeoaaGreatDoorRDd7M
import Derived.Test.YthlppbbejdeeoaaGreatDoorC6
import Derived.Test.YthlppbbejdeeoaaGreatDoorC15
namespace Go.Proofs.YthlppbbejdeeoaaGreatDoor
open Go.RowKit
set_option maxRecDepth 20000 in
set_option maxHeartbeats 8000000 in
theorem RBytes_any (w0 w : World) (b : Value) (l : By) (d : Dd) (A : Option Addr) (cap : Nat) (hx : Ext w0 w) (ho : Own w w0.heap.size b l) (hl : l.length ≤ 40000) (hd : checkD d = 0) (hb : Bs w0 A d.bytes) :
 Calls Tryz.prog 61 #[b, .agg (ddC d (.slice A d.bytes.length cap))] w fun e w' => ∃ b', e = .returned b' ∧ Lay w0 w (l ++ putD d) w' b' := by
 obtain ⟨hd1, hd2, hd3, hd4, hd5, ⟨o1, o2, o3, o4, o5, o6, o7, o8, o9⟩, hd7, hd8⟩ := checkD_ok hd
 obtain ⟨dw, du, db, dt, di, dh, df, dsh, de, dby⟩ := d
 simp only at hd1 hd2 hd3 hd4 hd5 o1 o2 o3 o4 o5 o6 o7 o8 o9 hd7 hd8 hb
 obtain ⟨dw, rfl⟩ : ∃ n : Nat, dw = (n : Int) := ⟨dw.toNat, by omega⟩
 obtain ⟨di, rfl⟩ : ∃ n : Nat, di = (n : Int) := ⟨di.toNat, by have := o5.1; omega⟩
 obtain ⟨dh, rfl⟩ : ∃ n : Nat, dh = (n : Int) := ⟨dh.toNat, by have := o6.1; omega⟩
 obtain ⟨dsh, rfl⟩ : ∃ n : Nat, dsh = (n : Int) := ⟨dsh.toNat, by have := o7.1; omega⟩
 obtain ⟨de, rfl⟩ : ∃ n : Nat, de = (n : Int) := ⟨de.toNat, by have := o8.1; omega⟩
 have hwf : IntKind.i64.wrap ((df.toNat : Nat) : Int) = ((df.toNat : Nat) : Int) := wrap64_nat _ (by omega)
 have hdi := o5.2
 have hdh := o6.2
 have hdsh := o7.2
 have hde := o8.2
 unfold ddC
 simp only
 obtain ⟨wa, hwa⟩ : ∃ wa, wa = w.alloc (.cells #[.int .i64 (dw : Nat), .string (st du), .string (st db), .string (st dt), .int .i64 (di : Nat), .int .i64 (dh : Nat), .int .u8 (df.toNat : Int), .int .i64 (dsh : Nat), .int .i64 (de : Nat), .slice A dby.length cap] 90) := ⟨_, rfl⟩
 have hxa : Ext w wa := by rw [hwa]; exact (Ext.refl w).alloc _
 have hrow : wa.heap[w.heap.size]? = some (.cells #[.int .i64 (dw : Nat), .string (st du), .string (st db), .string (st dt), .int .i64 (di : Nat), .int .i64 (dh : Nat), .int .u8 (df.toNat : Int), .int .i64 (dsh : Nat), .int .i64 (de : Nat), .slice A dby.length cap] 90 (0, 0)) := by rw [hwa]; exact heap_alloc_new w _
 have hlay : Lay w0 w l wa b := ⟨ho.ext hxa, hx.trans hxa, fun ts _ => .of_ext hxa⟩
 have HWA := Lib.hid hwa
 have HM : 90 ∈ [90] := by simp
 have C0 := row_s hrow HM 0 _ rfl
 have C1 := row_s hrow HM 1 _ rfl
 have C2 := row_s hrow HM 2 _ rfl
 have C3 := row_s hrow HM 3 _ rfl
 have C4 := row_s hrow HM 4 _ rfl
 have C5 := row_s hrow HM 5 _ rfl
 have C6 := row_s hrow HM 6 _ rfl
 have C7 := row_s hrow HM 7 _ rfl
 have C8 := row_s hrow HM 8 _ rfl
 have C9 := row_s hrow HM 9 _ rfl
 have hN := fun (W : World) (b : Value) (l : By) (v n : Nat) (hL : Lay w0 w l W b) (h1 : l.length ≤ 50000) (hn : n ≤ 4) (hv : v < 9223372036854775808) => RNumB_any w0 W b l v n hL.x hL.o (by omega) hn hv
 have hS := fun (W : World) (b : Value) (l p : By) (hL : Lay w0 w l W b) (h1 : l.length ≤ 50000) (hp : p.length ≤ 24) => RShortB_any w0 W b l p hL.x hL.o (by omega)
 have hND : 5 ∉ [90] := by simp
 have hs0 : Stp [90] wa wa.drew := (Stp.refl _ _).drew
 have hlay0 := hlay.drew
 clear hwa hrow hlay ho hx o1 o2 o3 o4 o5 o6 o7 o8 o9
 go_enter Tryz.func61, Tryz.ntmps61
 go_wp2_with fail
 rw [← HWA.out]
 refine wp_region_phase (S := fun w' => Stp [90] wa w') 13 (by kernel_rfl) (by kernel_rfl) ?_ (fun hHeld => ?_)
 ·exact hs0
 simp only [List.drop_succ_cons, List.drop_zero]
 refine name_head ?_
 intro wr0 hw0
 rw [hw0] at hHeld
 refine wt 0 _ ?_
 simp only [red, Act.put]
 refine wt 1 _ ?_
 simp only [red, Act.put]
 refine wt 2 _ ?_
 simp only [red, Act.put]
 refine wt 4 _ ?_
 simp only [red, Act.put]
 refine wt 5 _ ?_
 simp only [red, Act.put]
 refine wt 7 _ ?_
 simp only [red, Act.put]
 refine wt 8 _ ?_
 simp only [red, Act.put]
 refine wt 10 _ ?_
 simp only [red, Act.put]
 refine wt 11 _ ?_
 simp only [red, Act.put]
 refine rd [3] ?_
 refine ac (fun K hK => ?_) ?_
 ·refine step_callG (by rfl) (by kernel_rfl) (hN _ _ _ dw 1 (by rw [← hw0]; exact hlay0) (by omega) (by omega) (by omega)) ?_
  rintro e wr3 ⟨c3, rfl, hl3⟩
  refine ⟨_, rfl, ?_⟩
  refine hK.out _ _ ?_ (fun hHeld => ?_)
  ·exact hHeld.trans (hl3.s _ hND)
  clear hK K
  try simp only [red, Act.put]
  refine rd [6] ?_
  refine ac (fun K hK => ?_) ?_
  ·have hl3' := hlay0.trans (hw0 ▸ hl3)
   refine step_callG (by rfl) (by kernel_rfl) (hS _ _ _ du hl3' (by simp; omega) (by omega)) ?_
   rintro e wr6 ⟨c6, rfl, hl6⟩
   refine ⟨_, rfl, ?_⟩
   refine hK.out _ _ ?_ (fun hHeld => ?_)
   ·exact hHeld.trans (hl6.s _ hND)
   clear hK K
   try simp only [red, Act.put]
   refine rd [9] ?_
   refine ac (fun K hK => ?_) ?_
   ·have hl6' := hl3'.trans hl6
    refine step_callG (by rfl) (by kernel_rfl) (hS _ _ _ db hl6' (by simp [shortB]; omega) (by omega)) ?_
    rintro e wr9 ⟨c9, rfl, hl9⟩
    refine ⟨_, rfl, ?_⟩
    refine hK.out _ _ ?_ (fun hHeld => ?_)
    ·exact hHeld.trans (hl9.s _ hND)
    clear hK K
    try simp only [red, Act.put]
    refine rd [12] ?_
    refine ac (fun K hK => ?_) ?_
    ·have hl9' := hl6'.trans hl9
     refine step_callG (by rfl) (by kernel_rfl) (hS _ _ _ dt hl9' (by simp [shortB]; omega) (by omega)) ?_
     rintro e wr12 ⟨c12, rfl, hl12⟩
     refine ⟨_, rfl, ?_⟩
     refine hK.out _ _ ?_ (fun hHeld => ?_)
     ·exact hHeld.trans (hl12.s _ hND)
     clear hK K
     try simp only [red, Act.put]
     refine wpHead_done (by kernel_rfl) ?_
     have hl12' := hl9'.trans hl12
     obtain ⟨lb, hlb⟩ : ∃ lb, lb = l ++ beN 1 dw ++ shortB du ++ shortB db ++ shortB dt := ⟨_, rfl⟩
     rw [← hlb] at hl12'
     have hlq : lb.length ≤ 40200 := by rw [hlb]; simp [shortB]; omega
     have HLB := Lib.hid hlb
     clear hlb hl3 hl3' hl6 hl6' hl9 hl9' hl12 hlay0 hs0 hw0 C0 C1 C2 C3 hS
     go_wp2_with fail
     refine (hN _ _ _ di 4 hl12' (by omega) (by omega) (by omega)).mono ?_
     rintro e y1 ⟨d1, rfl, hm1⟩
     have hs1 := hHeld.trans (hm1.s _ hND)
     have hm1 := hl12'.trans hm1
     clear hl12'
     go_wp2_with fail
     refine (hN _ _ _ dh 1 hm1 (by simp; omega) (by omega) (by omega)).mono ?_
     rintro e y2 ⟨d2, rfl, hm2⟩
     have hs2 := hs1.trans (hm2.s _ hND)
     have hm2 := hm1.trans hm2
     clear hm1 hs1
     go_wp2_with fail
     refine (hN _ _ _ df.toNat 1 hm2 (by simp; omega) (by omega) (by omega)).mono ?_
     rintro e y3 ⟨d3, rfl, hm3⟩
     have hs3 := hs2.trans (hm3.s _ hND)
     have hm3 := hm2.trans hm3
     clear hm2 hs2
     go_wp2_with fail
     refine (hN _ _ _ dsh 1 hm3 (by simp; omega) (by omega) (by omega)).mono ?_
     rintro e y4 ⟨d4, rfl, hm4⟩
     have hs4 := hs3.trans (hm4.s _ hND)
     have hm4 := hm3.trans hm4
     clear hm3 hs3
     go_wp2_with fail
     refine (hN _ _ _ de 4 hm4 (by simp; omega) (by omega) (by omega)).mono ?_
     rintro e y5 ⟨d5, rfl, hm5⟩
     have hs5 := hs4.trans (hm5.s _ hND)
     have hm5 := hm4.trans hm5
     clear hm4 hs4
     go_wp2_with fail
     have hs5d := hs5.drew
     have hm5d := hm5.drew
     refine wp_region_phase (S := fun w' => Stp [90] wa w') 7 (by kernel_rfl) (by kernel_rfl) ?_ (fun hHeld => ?_)
     ·exact hs5d
     simp only [List.drop_succ_cons, List.drop_zero]
     refine name_head ?_
     intro wr0 hw0
     rw [hw0] at hHeld
     refine wt 0 _ ?_
     simp only [red, Act.put]
     refine wt 1 _ ?_
     simp only [red, Act.put]
     refine wt 2 _ ?_
     simp only [red, Act.put]
     refine wt 3 _ ?_
     simp only [red, Act.put]
     refine wt 5 _ ?_
     simp only [red, Act.put]
     refine wt 6 _ ?_
     simp only [red, Act.put]
     refine rd [4] ?_
     refine ac (fun K hK => ?_) ?_
     ·refine step_callG (by rfl) (by kernel_rfl) (hN _ _ _ dby.length 2 (by rw [← hw0]; exact hm5d) (by simp; omega) (by omega) (by omega)) ?_
      rintro e wr4 ⟨c4, rfl, hq4⟩
      refine ⟨_, rfl, ?_⟩
      refine hK.out _ _ ?_ (fun hHeld => ?_)
      ·exact hHeld.trans (hq4.s _ hND)
      clear hK K
      try simp only [red, Act.put]
      refine wpHead_done (by kernel_rfl) ?_
      have hq := hm5d.trans (hw0 ▸ hq4)
      refine wpList_appB bytesTr hq.o (hb.ext hq.x) rfl rfl rfl rfl rfl (by simp; omega) hq.x.size ?_
      intro b9 w9 ho9 hg9 _
      have hlay9 : Lay w0 w (l ++ putD ⟨(dw : Nat), du, db, dt, (di : Nat), (dh : Nat), df, (dsh : Nat), (de : Nat), dby⟩) w9 b9 := by
       refine ⟨?_, hq.x.own hq.o (Nat.le_refl _) hg9, fun ts ht => (hq.s ts ht).own hq.o hg9 ht⟩
       have : l ++ putD ⟨(dw : Nat), du, db, dt, (di : Nat), (dh : Nat), df, (dsh : Nat), (de : Nat), dby⟩ = lb ++ beN 4 di ++ beN 1 dh ++ beN 1 df.toNat ++ beN 1 dsh ++ beN 4 de ++ beN 2 dby.length ++ dby := by
        rw [HLB.out]
        simp [putD, longB]
       rw [this]
       exact ho9
      clear hq hq4 hm5 hm5d hs5 hs5d ho9 hg9
      go_wp2
      go_ret
      exact ⟨_, rfl, hlay9⟩
     exact AllHead.nil
    exact AllHead.nil
   exact AllHead.nil
  exact AllHead.nil
 exact AllHead.nil
set_option maxRecDepth 20000 in
set_option maxHeartbeats 8000000 in
theorem RPutAll_any (ds : List Dd) (A : Option Addr) (cap : Nat) (w : World) (h : RsM RDdB 10 [] w A ds) (hlen : ds.length ≤ 1048576) (hT : Tabs w) :
 Calls Tryz.prog 38 #[.slice A ds.length cap] w (PutSays (putAllT ds) w) := by
 have HP : Hid (putAllT ds = if ds.length = 0 then ([], 2) else if 12 < ds.length then ([], 6) else if firstC ds ≠ 0 then ([], firstC ds) else if 1800 < (putAllB ds).length then ([], 6) else (putAllB ds, 0)) := Lib.hid rfl
 go_enter Tryz.func38, Tryz.ntmps38
 by_cases h0 : ds.length = 0
 ·have k0 : ((ds.length : Int) == 0) = true := by simp [h0]
  have HB := Lib.hid (HP.out.trans (if_pos h0))
  clear h0 HP
  go_wp2
  go_ret2
  exact PutSays.none HB.out (Ext.refl w)
 ·have k0 : ((ds.length : Int) == 0) = false := by simpa using h0
  have HP2 := Lib.hid (HP.out.trans (if_neg h0))
  clear HP
  by_cases h12 : (12 : Int) < (ds.length : Int)
  ·have HB := Lib.hid (HP2.out.trans (if_pos (by omega)))
   clear HP2
   go_wp2
   go_ret2
   exact PutSays.none HB.out (Ext.refl w)
  ·have HP3 := Lib.hid (HP2.out.trans (if_neg (by omega)))
   clear HP2
   go_wp2
   go_loopw [4] (fun iv wr => ∃ k : Nat, iv = .int .i64 k ∧ k ≤ ds.length ∧ (∀ d ∈ ds.take k, checkD d = 0) ∧ Ext w wr) (fun iv _ => ds.length - (intOf iv).toNat)
   case atStart => exact ⟨0, rfl, by omega, by simp, Ext.refl w⟩
   case round =>
    obtain ⟨k, rfl, hk, hok, hx⟩ := hrel
    by_cases hlt : k < ds.length
    ·have hlt2 : (k : Int) < ds.length := by omega
     obtain ⟨ad, cs, hA, had, hcs, hcell, A2, cap2, hcs2, hby, hc2, hsm⟩ := h.at_ (by omega) hlt
     subst hA hcs2
     have hcl := fun j v hj => hx.cell (show w.cell? ((ad.add (k * 10)).add j) = some v by rw [add_addB]; exact hcell j v hj)
     have hFC := Lib.hid (fun h0 => firstC_at hlt hok h0)
     have hTK : Hid (ds.take (k + 1) = ds.take k ++ [ds[k]]) := Lib.hid (by rw [List.take_add_one, List.getElem?_eq_getElem hlt]; rfl)
     have hCK := RCheck_any ds[k] A2 cap2 wr (hby.bs.ext hx) hc2 (by have := hsm.user; omega) (by have := hsm.box; omega) (by have := hsm.dest; omega) (hT.ext hx)
     clear hcs hcell hby had hsm
     generalize ds[k] = dd at *
     obtain ⟨dw, du, db, dt, di, dh, df, dsh, de, dby⟩ := dd
     unfold ddC at hCK hcl
     simp only at hcl hCK hc2
     go_wp2_with (with_reducible first | refine sL 90 ?_)
     refine go_on (wpList_load_elem rfl 90 _ rfl (ad.add (k * 10)) rfl _ _ hcl Tryz.underlying90 rfl (by kernel_rfl) ?_)
     go_wp2_with fail
     refine hCK.mono ?_
     rintro e w2 ⟨rfl, hx2⟩
     have hx02 := hx.trans hx2
     clear hCK hcl hx2
     by_cases hc0 : checkD ⟨dw, du, db, dt, di, dh, df, dsh, de, dby⟩ = 0
     ·have HC0 := Lib.hid hc0
      rw [hc0]
      clear hc0
      go_wp2
      go_roundw
      case rel =>
       refine ⟨k + 1, by go_num, by omega, ?_, hx02⟩
       rw [hTK.out]
       intro d hd
       rcases List.mem_append.1 hd with hd | hd
       ·exact hok d hd
       ·simp only [List.mem_singleton] at hd
        subst hd
        exact HC0.out
      case measure => simp [intOf]; omega
     ·have hc2 : (((checkD ⟨dw, du, db, dt, di, dh, df, dsh, de, dby⟩ : Nat) : Int) == 0) = false := by simpa using hc0
      have hc3 : ¬ checkD ⟨dw, du, db, dt, di, dh, df, dsh, de, dby⟩ = 0 := hc0
      have HB : Hid (putAllT ds = ([], checkD ⟨dw, du, db, dt, di, dh, df, dsh, de, dby⟩)) := Lib.hid (by rw [HP3.out, hFC.out hc0]; simp [hc0])
      generalize checkD ⟨dw, du, db, dt, di, dh, df, dsh, de, dby⟩ = z at *
      clear hFC hTK hok
      go_wp2
      go_ret2
      exact PutSays.none HB.out hx02
    ·have hlt2 : ¬ (k : Int) < ds.length := by omega
     obtain rfl : k = ds.length := by omega
     rw [List.take_length] at hok
     have HFC := Lib.hid (firstC_ok hok)
     have HOK := Lib.hid hok
     have hnew : Own (wr.alloc (.cells #[.int .u8 (ds.length : Int)] 5)) w.heap.size (.slice (some ⟨wr.heap.size, 0, none⟩) 1 1) [UInt8.ofNat ds.length] := Own.new wr w.heap.size _ [UInt8.ofNat ds.length] 1 (by rw [show (ds.length : Int) = (ds.length : Int) % 256 by omega, u8_of]; rfl) rfl hx.size (by simp [maxLen])
     have hb1 : beN 1 ds.length = [UInt8.ofNat ds.length] := by simp [beN]
     have hlay0 : Lay w wr (beN 1 ds.length) (wr.alloc (.cells #[.int .u8 (ds.length : Int)] 5)) (.slice (some ⟨wr.heap.size, 0, none⟩) 1 1) := ⟨by rw [hb1]; exact hnew, hx.alloc _, fun ts _ => (Stp.refl ts wr).alloc _⟩
     clear hok hlt hnew hb1
     go_wp2
     go_loopw [6, 7] (fun bv iv wr2 => ∃ k : Nat, iv = .int .i64 k ∧ k ≤ ds.length ∧ Lay w wr (beN 1 ds.length ++ (ds.take k).flatMap putD) wr2 bv) (fun _ iv _ => ds.length - (intOf iv).toNat)
     case atStart => exact ⟨0, rfl, by omega, by simpa using hlay0⟩
     case round =>
      clear hlay0
      obtain ⟨k, rfl, hk, hlay⟩ := hrel
      by_cases hlt : k < ds.length
      ·have hlt2 : (k : Int) < ds.length := by omega
       obtain ⟨ad, cs, hA, had, hcs, hcell, A2, cap2, hcs2, hby, hc2, hsm⟩ := h.at_ (by omega) hlt
       subst hA hcs2
       have hcl := fun j v hj => hlay.x.cell (show w.cell? ((ad.add (k * 10)).add j) = some v by rw [add_addB]; exact hcell j v hj)
       have hTK : Hid (ds.take (k + 1) = ds.take k ++ [ds[k]]) := Lib.hid (by rw [List.take_add_one, List.getElem?_eq_getElem hlt]; rfl)
       have hfl := flat_len (ds.take k) (fun d hd => HOK.out d (List.mem_of_mem_take hd))
       have hlq : (beN 1 ds.length ++ (ds.take k).flatMap putD).length ≤ 30000 := by rw [List.length_append, beN_length]; rw [List.length_take] at hfl; omega
       have hBY := RBytes_any w _ _ _ ds[k] A2 cap2 hlay.x hlay.o (by omega) (HOK.out _ (List.getElem_mem hlt)) hby.bs
       have HLAY := Lib.hid hlay
       clear hcs hcell hby had hsm hfl hlq hlay
       generalize ds[k] = dd at *
       obtain ⟨dw, du, db, dt, di, dh, df, dsh, de, dby⟩ := dd
       unfold ddC at hcl hBY
       simp only at hcl hBY hc2
       go_wp2_with (with_reducible first | refine sL 90 ?_)
       refine go_on (wpList_load_elem rfl 90 _ rfl (ad.add (k * 10)) rfl _ _ hcl Tryz.underlying90 rfl (by kernel_rfl) ?_)
       go_wp2_with fail
       refine hBY.mono ?_
       rintro e w3 ⟨b3, rfl, hl3⟩
       have hl3 := HLAY.out.trans hl3
       clear hBY hcl HLAY
       go_wp2
       go_roundw
       case rel =>
        refine ⟨k + 1, by go_num, by omega, ?_⟩
        rw [hTK.out, List.flatMap_append, ← List.append_assoc]
        simpa using hl3
       case measure => simp [intOf]; omega
      ·have hlt2 : ¬ (k : Int) < ds.length := by omega
       obtain rfl : k = ds.length := by omega
       rw [List.take_length] at hlay
       obtain ⟨lb, hlb⟩ : ∃ lb, lb = beN 1 ds.length ++ ds.flatMap putD := ⟨_, rfl⟩
       rw [← hlb] at hlay
       have HLB : Hid (lb = putAllB ds) := Lib.hid (by rw [hlb, putAllB, List.append_nil])
       obtain ⟨Ab, cb, rfl⟩ := hlay.o.form
       have hlay' := Lib.hid hlay
       have hxl := hlay.x
       clear hlb hlay
       obtain ⟨n, hn⟩ : ∃ n, n = lb.length := ⟨_, rfl⟩
       rw [← hn]
       have HN := Lib.hid hn
       clear hn
       by_cases h18 : (1800 : Int) < (n : Int)
       ·have HB : Hid (putAllT ds = ([], 6)) := Lib.hid (by rw [HP3.out, HFC.out, ← HLB.out, ← HN.out]; simp; omega)
        go_wp2
        go_ret2
        exact PutSays.none HB.out hxl
       ·have HB : Hid (putAllT ds = (lb, 0)) := Lib.hid (by rw [HP3.out, HFC.out, ← HLB.out, ← HN.out, if_neg (by simp), if_neg (by omega)])
        go_wp2
        go_ret2
        rw [HB.out]
        exact ⟨hxl, _, rfl, by have := hlay'.out.o; rwa [← HN.out] at this⟩
end Go.Proofs.YthlppbbejdeeoaaGreatDoor
