/- The walk of the reference's Bytes. Conditions: the message is right (Right), what is read of its deeds (RDdB), and the hypotheses of the theorem; the library's two tables. -/
import Derived.Test.YthlppbbejdeeoaaGreatDoorC3
import Derived.Test.YthlppbbejdeeoaaGreatDoorRWr2M
namespace Go.Proofs.YthlppbbejdeeoaaGreatDoor
open Go.RowKit
attribute [local simp] shortB_len listB4_len listB1_len
theorem Right.bounds {m : Ml} (h : Right m) : m.tx.node ≤ 4294967295 ∧ m.tx.boot ≤ 4294967295 ∧ m.tx.n ≤ 4294967295 ∧ m.verr ≤ 14 ∧ m.shard ≤ 3 ∧ m.sepoch ≤ 4294967295 ∧ m.fate ≤ 2 ∧ m.epoch ≤ 4294967295 ∧ m.n ≤ 4294967295 ∧ (∀ v ∈ m.epochs, 0 ≤ v ∧ v ≤ 4294967295) ∧ (∀ v ∈ m.nums, 0 ≤ v ∧ v ≤ 4294967295) := by
 obtain ⟨hk, hs, hd, ht, hpa, hv, hf, hn, hu⟩ := h
 have ht' : m.tx.node ≤ 4294967295 ∧ m.tx.boot ≤ 4294967295 ∧ m.tx.n ≤ 4294967295 := by
  cases hb : kTx m.kind with
  | true => rw [hb] at ht; have := txB_ok (by simpa using ht); omega
  | false =>
   rw [hb] at ht; have : m.tx = tx00 := by simpa using ht
   rw [this]; decide
 have hv' : m.verr ≤ 14 ∧ m.shard ≤ 3 ∧ m.sepoch ≤ 4294967295 ∧ (∀ v ∈ m.nums, 0 ≤ v ∧ v ≤ 4294967295) := by
  cases hb : kVote m.kind with
  | true => rw [hb] at hv; simp only [if_true] at hv; exact ⟨by omega, by omega, by omega, allI_ok hv.2.2.1⟩
  | false => rw [hb] at hv; simp only [if_false, Bool.false_eq_true] at hv; exact ⟨by omega, by omega, by omega, by rw [hv.2.1]; simp⟩
 have he : ∀ v ∈ m.epochs, 0 ≤ v ∧ v ≤ 4294967295 := by
  split at hpa
  ·exact allI_ok hpa.2.2.2.2
  ·rw [hpa.2.2.2]; simp
 have hn' : m.n ≤ 4294967295 := by
  cases hb : kN m.kind with
  | true => rw [hb] at hn; simp only [if_true] at hn; omega
  | false => rw [hb] at hn; simp only [if_false, Bool.false_eq_true] at hn; omega
 exact ⟨ht'.1, ht'.2.1, ht'.2.2, hv'.1, hv'.2.1, hv'.2.2.1, by split at hf <;> omega, by split at hu <;> omega, hn', he, hv'.2.2.2⟩
theorem fresh_row {w : World} {g n : Nat} {x : Int} (hx : x = (n : Int) % 256) (h : w.heap[g]? = some (.cells #[.int .u8 x] 5 (0, 0))) : Bs w (some ⟨g, 0, none⟩) (beN 1 n) := by
 subst hx
 have := Sl.of_row (l := [.int .u8 ((n : Int) % 256)]) h
 unfold Bs
 have e : bv (beN 1 n) = [.int .u8 ((n : Int) % 256)] := by rw [u8_of]; simp [beN, bv]
 rw [e]
 exact this
theorem held_drop (t1 t2 t3 : Nat) (peers epochs : List Int) (all : By) : (heldB t1 t2 t3 peers epochs all).drop 10 = listB 1 peers ++ listB 4 epochs ++ all := by
 unfold heldB
 simp only [List.append_assoc]
 rw [← List.append_assoc, List.drop_left' (by simp [putTx])]
set_option maxRecDepth 20000 in
set_option maxHeartbeats 16000000 in
theorem rBytes_any (m : Ml) (Ap Ad Ae An Av : Option Addr) (cp cd ce cn cv : Nat) (w : World) (hr : Right m) (hpd : m.kind = 1 → (putAllT m.deeds).2 = 0)
 (hP : Sl w Ap (doV m.peers)) (hE : Sl w Ae (doV m.epochs)) (hNs : Sl w An (doV m.nums)) (hV : Bs w Av m.vbytes) (hD : RsM RDdB 10 [] w Ad m.deeds) (hdl : m.deeds.length ≤ 1048576) (hTb : Tabs w) :
 Calls Tryz.prog 39 #[.agg (mlC m (.slice Ap m.peers.length cp) (.slice Ad m.deeds.length cd) (.slice Ae m.epochs.length ce) (.slice An m.nums.length cn) (.slice Av m.vbytes.length cv))] w fun e w' =>
  ∃ b, e = .returned b ∧ Own w' w.heap.size b (layM m) ∧ Ext w w' := by
 have hbd := hr.bounds
 obtain ⟨ks, ss, ds_, t1, t2, t3, er, sh, ep, fa, ue, nn, e1, e2, e3, e4, e5, e6, e7, e8, e9, e10, e11, e12⟩ := hr.nats
 obtain ⟨hk, -, -, -, hpa, hvo, -, -, hus⟩ := hr
 obtain ⟨kind, src, dst, ⟨tn, tb, tk⟩, ptx, peers, deeds, epochs, verr, nums, su, shard, sepoch, vb, fate, user, epoch, nx⟩ := m
 simp only at *
 subst e1 e2 e3 e4 e5 e6 e7 e8 e9 e10 e11 e12
 obtain ⟨mc, hmc⟩ : ∃ mc, mc = mlC ⟨ks, ss, ds_, ⟨t1, t2, t3⟩, ptx, peers, deeds, epochs, er, nums, su, sh, ep, vb, fa, user, ue, nn⟩ (.slice Ap peers.length cp) (.slice Ad deeds.length cd) (.slice Ae epochs.length ce) (.slice An nums.length cn) (.slice Av vb.length cv) := ⟨_, rfl⟩
 rw [← hmc]
 obtain ⟨wa, hwa⟩ : ∃ wa, wa = w.alloc (.cells mc 37) := ⟨_, rfl⟩
 have hxa : Ext w wa := by rw [hwa]; exact (Ext.refl w).alloc _
 have hrowM : wa.heap[w.heap.size]? = some (.cells mc 37 (0, 0)) := by rw [hwa]; exact heap_alloc_new w _
 have HWA := Lib.hid hwa
 have hlen : peers.length ≤ 4 ∧ nums.length ≤ 12 ∧ su.length ≤ 24 ∧ vb.length ≤ 1800 ∧ user.length ≤ 24 ∧ (∀ v ∈ peers, 0 ≤ v) ∧ (∀ v ∈ epochs, 0 ≤ v) ∧ (∀ v ∈ nums, 0 ≤ v) := by
  refine ⟨?_, ?_, ?_, ?_, ?_, ?_, ?_, ?_⟩
  ·split at hpa
   ·omega
   ·rw [hpa.2.1]; simp
  ·split at hvo
   ·omega
   ·rw [hvo.2.1]; simp
  ·split at hvo
   ·omega
   ·rw [hvo.2.2.1]; simp
  ·split at hvo
   ·omega
   ·rw [hvo.2.2.2.2.2]; simp
  ·split at hus
   ·omega
   ·rw [hus.1]; simp
  ·split at hpa
   ·exact fun v hv => (allI_ok hpa.2.2.1 v hv).1
   ·rw [hpa.2.1]; simp
  ·split at hpa
   ·exact fun v hv => (allI_ok hpa.2.2.2.2 v hv).1
   ·rw [hpa.2.2.2]; simp
  ·split at hvo
   ·exact fun v hv => (allI_ok hvo.2.2.1 v hv).1
   ·rw [hvo.2.1]; simp
 obtain ⟨bp, bn, bs, bb, bu, hpp, hpe, hpn⟩ := hlen
 have hpd2 : ks = 1 → (putAllT deeds).1.length ≤ 1800 ∧ epochs.length ≤ 12 ∧ deeds.length ≤ 12 ∧ ptx = ⟨t1, t2, t3⟩ := fun h => by
  have h1 := hpd (by omega)
  rw [if_pos (by omega)] at hpa
  have := (putAllT_ok h1).2.2.1
  exact ⟨by rw [(putAllT_ok h1).1]; exact (putAllT_ok h1).2.2.2.2, by omega, this, hpa.1⟩
 clear hpa hvo hus hpd
 have HV := fun W (hx : Ext w W) => hV.ext hx
 obtain ⟨q1, q2, q3, q4, q5, q6, q7, q8, q9, q10, q11⟩ := hbd
 obtain ⟨lm, hlm⟩ : ∃ lm, lm = layM ⟨ks, ss, ds_, ⟨t1, t2, t3⟩, ptx, peers, deeds, epochs, er, nums, su, sh, ep, vb, fa, user, ue, nn⟩ := ⟨_, rfl⟩
 rw [← hlm]
 have HM : Hid (lm = beN 1 ks ++ beN 1 ss ++ beN 1 ds_ ++ (if kTx ks then beN 1 t1 ++ beN 4 t2 ++ beN 4 t3 else []) ++ (if kN ks then beN 4 nn else []) ++
  (if (ks : Int) = 1 then listB 1 peers ++ listB 4 epochs ++ (putAllT deeds).1 else if kVote ks then beN 1 er ++ listB 4 nums ++ shortB su ++ beN 1 sh ++ beN 4 ep ++ longB vb else if (ks : Int) = 3 then beN 1 fa else if (ks : Int) = 6 then shortB user ++ beN 4 ue else [])) := Lib.hid (by rw [hlm]; rfl)
 have HMM : 37 ∈ [37] := by simp
 have hcell := fun j v (hv : (mlC ⟨ks, ss, ds_, ⟨t1, t2, t3⟩, ptx, peers, deeds, epochs, er, nums, su, sh, ep, vb, fa, user, ue, nn⟩ (.slice Ap peers.length cp) (.slice Ad deeds.length cd) (.slice Ae epochs.length ce) (.slice An nums.length cn) (.slice Av vb.length cv))[j]? = some v) => row_s hrowM HMM j v (by rw [hmc]; exact hv)
 have C0 := hcell 0 (.int .i64 ks) rfl
 have C1 := hcell 1 (.int .i64 ss) rfl
 have C2 := hcell 2 (.int .i64 ds_) rfl
 have C3 := hcell 3 (.int .i64 t1) rfl
 have C4 := hcell 4 (.int .i64 t2) rfl
 have C5 := hcell 5 (.int .i64 t3) rfl
 have C18 := hcell 18 (.int .i64 fa) rfl
 have C19 := hcell 19 (.string (st user)) rfl
 have C20 := hcell 20 (.int .i64 ue) rfl
 have C21 := hcell 21 (.int .i64 nn) rfl
 have C12 := hcell 12 (.int .i64 er) rfl
 have C13 := hcell 13 (.slice An nums.length cn) rfl
 have C14 := hcell 14 (.string (st su)) rfl
 have C15 := hcell 15 (.int .i64 sh) rfl
 have C16 := hcell 16 (.int .i64 ep) rfl
 have C17 := hcell 17 (.slice Av vb.length cv) rfl
 have RT : ∀ W, Stp [37] wa W → W.rangeAt w.heap.size 3 [.int .i64 t1, .int .i64 t2, .int .i64 t3] := fun W hW => by
  have := World.rangeAt_of_block (hW.2 _ _ _ _ hrowM (by simp)) 3 3
  rw [hmc] at this
  exact this
 have RP : ∀ W, Stp [37] wa W → W.rangeAt w.heap.size 6 [.int .i64 ptx.node, .int .i64 ptx.boot, .int .i64 ptx.n, .slice Ap peers.length cp, .slice Ad deeds.length cd, .slice Ae epochs.length ce] := fun W hW => by
  have := World.rangeAt_of_block (hW.2 _ _ _ _ hrowM (by simp)) 6 6
  rw [hmc] at this
  exact this
 have hND : 5 ∉ [37] := by simp
 have hN := fun (W : World) (b : Value) (l : By) (v n : Nat) (hL : Lay w wa l W b) (h1 : l.length ≤ 9000000) (hn : n ≤ 4) (hv : v ≤ 4294967295) => RNumL_any w W b l v n hL.x hL.o (by omega) hn (by omega)
 have hT := fun (W : World) (b : Value) (l p : By) (hL : Lay w wa l W b) (h1 : l.length ≤ 9000000) (hn : p.length ≤ 2000) => RShortG_any w W b l p hL.x hL.o (by omega)
 have H1 := fun W => rhasTx_any ks W
 have H2 := fun W => rhasN_any ks W
 have H3 := fun W => rhasVote_any ks W
 have hPT := fun (W : World) (b : Value) (l : By) (hL : Lay w wa l W b) (h1 : l.length ≤ 100) => rPutTx_any w W b l t1 t2 t3 hL.x hL.o (by omega) (by omega) (by omega) (by omega)
 have hwaA := HWA.out.symm
 obtain ⟨wb, hwb⟩ : ∃ wb, wb = wa.alloc (.cells #[.int .u8 (ks : Int), .int .u8 ((ss : Int) % 256), .int .u8 ((ds_ : Int) % 256)] 5) := ⟨_, rfl⟩
 have hxb : Ext wa wb := by rw [hwb]; exact (Ext.refl wa).alloc _
 have hl0 : Lay w wa (beN 1 ks ++ beN 1 ss ++ beN 1 ds_) wb (.slice (some ⟨wa.heap.size, 0, none⟩) 3 3) := ⟨by
  rw [hwb]
  exact Own.new wa w.heap.size _ (beN 1 ks ++ beN 1 ss ++ beN 1 ds_) 3 (by rw [show ((ks : Nat) : Int) = (ks : Int) % 256 by omega, u8_of, u8_of, u8_of]; simp [beN, bv]) rfl hxa.size (by simp [maxLen]), hxa.trans hxb, fun ts _ => Stp.of_ext hxb⟩
 have hq0 : Stp [37] wa wb := Stp.of_ext hxb
 have hwbB := hwb.symm
 have hs0 : Stp [37] wa wa := Stp.refl _ _
 clear hcell hwa hwb hrowM hmc hlm HWA
 go_enter Tryz.func39, Tryz.ntmps39
 go_wp2_with fail
 clear hwaA hwbB hs0
 refine (H1 _).mono ?_
 rintro e wq ⟨rfl, hwq⟩
 subst hwq
 rcases hk with hk | hk | hk | hk | hk | hk | hk
 ·
  obtain rfl : ks = 1 := by omega
  clear hk
  rw [show kTx ((1 : Nat) : Int) = true from rfl]
  rw [show kN ((1 : Nat) : Int) = false from rfl] at H2
  rw [show kVote ((1 : Nat) : Int) = false from rfl] at H3
  go_wp2_with (with_reducible refine sL 25 ?_)
  refine go_on (wpList_load_mid rfl 25 _ rfl w.heap.size 3 rfl _ _ (RT _ hq0) Tryz.underlying25 rfl (by kernel_rfl) ?_)
  go_wp2_with fail
  refine (hPT _ _ _ hl0 (by simp)).mono ?_
  rintro e w2 ⟨b2, rfl, hl2⟩
  obtain ⟨lb, hlb, hL⟩ : ∃ lb, lb = beN 1 1 ++ beN 1 ss ++ beN 1 ds_ ++ putTx ⟨t1, t2, t3⟩ ∧ Lay w wa lb w2 b2 := ⟨_, rfl, hl0.trans hl2⟩
  have hq := hq0.trans (hl2.s _ hND)
  clear hl0 hl2 hq0
  go_wp2_with fail
  refine (H2 _).mono ?_
  rintro e wq ⟨rfl, hwq⟩
  subst hwq
  have hln : lb.length ≤ 20 := by rw [hlb]; simp [putTx]
  have HLB := Lib.hid hlb
  clear hlb
  have HK : Hid (lm = lb ++ (listB 1 peers ++ listB 4 epochs ++ (putAllT deeds).1)) := Lib.hid (by rw [HM.out, HLB.out]; simp [putTx, kTx, kN, inI])
  obtain ⟨hal, he12, hd12, hpx⟩ := hpd2 (by trivial)
  subst hpx
  go_wp2_with (with_reducible refine sL 29 ?_)
  refine go_on (wpList_load_mid rfl 29 _ rfl w.heap.size 6 rfl _ _ (RP _ hq) Tryz.underlying29 rfl (by kernel_rfl) ?_)
  have HPH := rPutHeld_any t1 t2 t3 peers epochs deeds Ap Ad Ae cp cd ce _ (by omega) (by omega) (by omega) (hP.ext hL.x) (hE.ext hL.x) (hD.kept (.of_ext hL.x)) (hTb.ext hL.x) hpp q10 bp he12 (by omega) hal
  have HHD := Lib.hid (held_drop t1 t2 t3 peers epochs (putAllT deeds).1)
  have hhl : 10 ≤ (heldB t1 t2 t3 peers epochs (putAllT deeds).1).length := by simp [heldB, putTx]; omega
  have hhu : (heldB t1 t2 t3 peers epochs (putAllT deeds).1).length ≤ 2000 := by simp [heldB, putTx]; omega
  generalize heldB t1 t2 t3 peers epochs (putAllT deeds).1 = hb at *
  go_wp2_with fail
  refine HPH.mono ?_
  rintro e w3 ⟨b3, rfl, hob, hx3⟩
  have hL3 := hL.al hx3
  have hq3 := hq.trans (.of_ext hx3)
  obtain ⟨Ah, ch, rfl⟩ := hob.form
  obtain ⟨A4, hs4, hb4⟩ := cutB_l (P := Tryz.prog) Tryz.underlying22 Tryz.sizeOf5 Ah hb.length ch hb 10 (li := 10) rfl rfl hob.cap.1 hhl
  have hbs4 := hb4 _ hob.bs
  rw [HHD.out] at hbs4
  have hl4 : hb.length - 10 = (listB 1 peers ++ listB 4 epochs ++ (putAllT deeds).1).length := by rw [← HHD.out, List.length_drop]
  have HL4 := Lib.hid hl4
  clear HPH hL hq hb4 hob hl4
  go_wp2_with (at_builtin; refine unstop ?_)
  refine go_on (wpList_appB bytesTr hL3.o hbs4 rfl rfl rfl rfl HL4.out (by have := HL4.out; omega) hL3.x.size ?_)
  intro b5 w5 ho5 hg5 _
  have hL5 := hL3.app ho5 hg5
  have hq5 := hq3.trans ((Stp.refl _ _).own hL3.o hg5 hND)
  clear hL3 hq3 ho5 hg5 hbs4 hs4
  go_wp2_with fail
  refine (H3 _).mono ?_
  rintro e wq ⟨rfl, hwq⟩
  subst hwq
  go_wp2
  go_ret
  exact ⟨_, rfl, by rw [HK.out]; simpa [longB, shortB, List.append_assoc] using hL5.o, hL5.x⟩
 ·
  obtain rfl : ks = 2 := by omega
  clear hk
  rw [show kTx ((2 : Nat) : Int) = true from rfl]
  rw [show kN ((2 : Nat) : Int) = false from rfl] at H2
  rw [show kVote ((2 : Nat) : Int) = true from rfl] at H3
  go_wp2_with (with_reducible refine sL 25 ?_)
  refine go_on (wpList_load_mid rfl 25 _ rfl w.heap.size 3 rfl _ _ (RT _ hq0) Tryz.underlying25 rfl (by kernel_rfl) ?_)
  go_wp2_with fail
  refine (hPT _ _ _ hl0 (by simp)).mono ?_
  rintro e w2 ⟨b2, rfl, hl2⟩
  obtain ⟨lb, hlb, hL⟩ : ∃ lb, lb = beN 1 2 ++ beN 1 ss ++ beN 1 ds_ ++ putTx ⟨t1, t2, t3⟩ ∧ Lay w wa lb w2 b2 := ⟨_, rfl, hl0.trans hl2⟩
  have hq := hq0.trans (hl2.s _ hND)
  clear hl0 hl2 hq0
  go_wp2_with fail
  refine (H2 _).mono ?_
  rintro e wq ⟨rfl, hwq⟩
  subst hwq
  have hln : lb.length ≤ 20 := by rw [hlb]; simp [putTx]
  have HLB := Lib.hid hlb
  clear hlb
  go_wp2_with fail
  refine (H3 _).mono ?_
  rintro e wq ⟨rfl, hwq⟩
  subst hwq
  have HK : Hid (lm = lb ++ (beN 1 er ++ listB 4 nums ++ shortB su ++ beN 1 sh ++ beN 4 ep ++ longB vb)) := Lib.hid (by rw [HM.out, HLB.out]; simp [putTx, kTx, kN, kVote, inI])
  go_wp2_with (at_builtin; refine unstop ?_)
  obtain ⟨Ah, ch, hfe⟩ := hL.o.form
  subst hfe
  refine go_on (wpList_appB bytesTr (hL.o.alloc _) (Bs.new _ (beN 1 er ++ beN 1 nums.length) _ (by rw [show ((er : Nat) : Int) = (er : Int) % 256 by omega, show ((nums.length : Nat) : Int) = (nums.length : Int) % 256 by omega, u8_of, u8_of]; simp [beN, bv]) _ _) rfl rfl rfl rfl (by simp) (by simp; omega) (by have := hL.x.size; simp; omega) ?_)
  intro bv_ wv hov hgv _
  have hLv : Lay w wa (lb ++ (beN 1 er ++ beN 1 nums.length)) wv bv_ := (hL.al ((Ext.refl _).alloc _)).app hov hgv
  have hqv := (hq.alloc _).own (hL.o.alloc _) hgv hND
  clear hL hq hov hgv
  go_wp2
  go_loopw [3, 4] (fun xb iv wr => ∃ k : Nat, iv = .int .i64 k ∧ k ≤ nums.length ∧ Lay w wa (lb ++ (beN 1 er ++ beN 1 nums.length) ++ (nums.take k).flatMap fun v => beN 4 v.toNat) wr xb ∧ Stp [37] wa wr) (fun _ iv _ => nums.length - (intOf iv).toNat)
  case atStart => exact ⟨0, rfl, by omega, by simpa using hLv, hqv⟩
  case round =>
   clear hLv hqv
   obtain ⟨k, rfl, hk, hLk, hqk⟩ := hrel
   by_cases hlt : k < nums.length
   ·obtain ⟨ad, rfl, hc⟩ := Sl.now (hNs.ext hLk.x) (doV_get hlt)
    have hlt2 : (k : Int) < nums.length := by omega
    have HTK := Lib.hid (wtake_len hlt)
    have hp0 := q11 _ (List.getElem_mem hlt)
    have hlen := flat4_take nums k
    generalize nums[k] = x at *
    obtain ⟨x, rfl⟩ : ∃ m : Nat, x = (m : Int) := ⟨x.toNat, by omega⟩
    have HX := hN _ _ _ x 4 hLk (by simp only [List.length_append, beN_length]; omega) (by omega) (by omega)
    have HLK := Lib.hid hLk
    have HQK := Lib.hid hqk
    clear hLk hlen hp0
    go_wp2_with fail
    refine HX.mono ?_
    rintro e w2 ⟨b2, rfl, hlg⟩
    have hL3 := HLK.out.trans hlg.l
    have hq3 := HQK.out.trans (hlg.l.s _ hND)
    clear hlg HX hqk
    go_wp2
    go_roundw
    case rel => exact ⟨k + 1, by go_num, by omega, by rw [HTK.out, List.flatMap_append, ← List.append_assoc]; simpa using hL3, hq3⟩
    case measure => simp [intOf]; omega
   ·have hlt2 : ¬ (k : Int) < nums.length := by omega
    obtain rfl : k = nums.length := by omega
    rw [List.take_length] at hLk
    obtain ⟨lc, hlc⟩ : ∃ lc, lc = lb ++ (beN 1 er ++ beN 1 nums.length) ++ nums.flatMap fun v => beN 4 v.toNat := ⟨_, rfl⟩
    rw [← hlc] at hLk
    have hll : lc.length ≤ 100 := by rw [hlc]; simp only [List.length_append, beN_length, flat4]; omega
    have HLC := Lib.hid hlc
    clear hlc hlt
    obtain ⟨wv, hwv⟩ : ∃ x, x = wr := ⟨wr, rfl⟩
    subst hwv
    go_wp2_with fail
    have C14 := fun W h => C14 W (hqk.trans h)
    have C15 := fun W h => C15 W (hqk.trans h)
    have C16 := fun W h => C16 W (hqk.trans h)
    have C17 := fun W h => C17 W (hqk.trans h)
    have C0 := fun W h => C0 W (hqk.trans h)
    have hbl := fun k hk => (hLk.o.lt k hk).2
    have hsq : Stp [37] wv wv.drew := (Stp.refl _ _).drew
    clear hqk
    refine wp_region_phase (S := fun w' => Stp [37] wv w') 13 (by kernel_rfl) (by kernel_rfl) ?_ (fun hHeld => ?_)
    ·exact hsq
    simp only [List.drop_succ_cons, List.drop_zero]
    refine name_head ?_
    intro wr0 hw0
    rw [hw0] at hHeld
    refine wt 0 _ ?_
    simp only [red, Act.put]
    refine wt 1 _ ?_
    simp only [red, Act.put]
    refine wt 2 _ ?_
    simp only [red, Act.put]
    refine wt 3 _ ?_
    simp only [red, Act.put]
    refine wt 4 _ ?_
    simp only [red, Act.put]
    refine wt 6 _ ?_
    simp only [red, Act.put]
    refine wt 7 _ ?_
    simp only [red, Act.put]
    refine wt 8 _ ?_
    simp only [red, Act.put]
    refine wt 9 _ ?_
    simp only [red, Act.put]
    refine wt 10 _ ?_
    simp only [red, Act.put]
    refine rd [5, 11] ?_
    refine ac (fun K hK => ?_) ?_
    ·have hLw := hLk.drew
     rw [hw0] at hLw
     try replace hLw := hLw.al hxn11
     refine step_callG (by rfl) (by kernel_rfl) (hT wr0 _ _ su hLw (by omega) (by omega)) ?_
     rintro e wr5 ⟨c5, rfl, hl5, hg5⟩
     have hL5 := hLw.trans hl5
     refine ⟨_, rfl, ?_⟩
     refine hK.out _ _ ?_ (fun hHeld => ?_)
     ·exact hHeld.trans (hl5.s _ hND)
     clear hK K
     try simp only [red, Act.put]
     refine rd [11] ?_
     refine ac (fun K hK => ?_) ?_
     ·go_simp
      refine name_world ?_
      rintro wr11 hw11
      have hxn11 : Ext wr5 wr11 := hw11 ▸ (Ext.refl _).alloc _
      have hrow11 : wr11.heap[wr5.heap.size]? = some (.cells #[.int .u8 ((sh : Int) % 256)] 5 (0, 0)) := hw11 ▸ heap_alloc_new wr5 _
      have hne11 := fun k hk => Nat.ne_of_gt (Nat.lt_of_lt_of_le (hbl k hk) hHeld.1)
      refine hK.out _ _ ?_ (fun hHeld => ?_)
      ·exact hHeld.trans (.of_ext hxn11)
      clear hK K
      try simp only [red, Act.put]
      refine rd [12] ?_
      refine ac (fun K hK => ?_) ?_
      ·have hL12 : Lay w wa (lc ++ shortB su) wr11 c5 := by first | exact hL5 | exact hL5.al hxn11
       have hB12 : Bs wr11 (some ⟨_, 0, none⟩) (beN 1 sh) := fresh_row (x := (sh : Int) % 256) rfl (by first | exact hrow11 | exact (hg5.block _ (obj_lt hrow11) (fun e => hne11 _ e.symm rfl)).trans hrow11)
       refine stepAppB bytesTr hL12.o hB12 rfl rfl rfl rfl (by simp) (by simp <;> omega) hL12.x.size ?_
       intro f12 wr12 ho12 hg12
       have hL12' := hL12.app ho12 hg12
       refine hK.out _ _ ?_ (fun hHeld => ?_)
       ·exact hHeld.trans ((Stp.refl _ _).own hL12.o hg12 hND)
       clear hK K
       try simp only [red, Act.put]
       refine wpHead_done (by kernel_rfl) ?_
       have hq12 := hHeld
       clear hLw hl5 hg5 hL5 hxn11 hrow11 hne11 hL12 hB12 ho12 hg12 hw0 hHeld hsq hLk hbl
       go_wp2_with fail
       refine (hN _ _ _ ep 4 hL12' (by simp <;> omega) (by omega) (by omega)).mono ?_
       rintro e w4 ⟨b4, rfl, hlg4⟩
       have hL4 := hL12'.trans hlg4.l
       have hq4 := hq12.trans (hlg4.l.s _ hND)
       clear hL12' hlg4 hq12
       go_wp2_with fail
       refine wp_region_phase (S := fun w' => Stp [37] wv w') 10 (by kernel_rfl) (by kernel_rfl) ?_ (fun hHeld => ?_)
       ·exact hq4.drew
       simp only [List.drop_succ_cons, List.drop_zero]
       refine name_head ?_
       intro wr0 hw0
       rw [hw0] at hHeld
       refine wt 0 _ ?_
       simp only [red, Act.put]
       refine wt 1 _ ?_
       simp only [red, Act.put]
       refine wt 2 _ ?_
       simp only [red, Act.put]
       refine wt 3 _ ?_
       simp only [red, Act.put]
       refine wt 4 _ ?_
       simp only [red, Act.put]
       refine wt 6 _ ?_
       simp only [red, Act.put]
       refine wt 7 _ ?_
       simp only [red, Act.put]
       refine wt 8 _ ?_
       simp only [red, Act.put]
       refine rd [5] ?_
       refine ac (fun K hK => ?_) ?_
       ·refine step_callG (by rfl) (by kernel_rfl) (hN _ _ _ vb.length 2 (by rw [← hw0]; exact hL4.drew) (by simp <;> omega) (by omega) (by omega)) ?_
        rintro e wr5 ⟨f5, rfl, hk5⟩
        refine ⟨_, rfl, ?_⟩
        refine hK.out _ _ ?_ (fun hHeld => ?_)
        ·exact hHeld.trans (hk5.l.s _ hND)
        clear hK K
        try simp only [red, Act.put]
        refine rd [9] ?_
        refine ac (fun K hK => ?_) ?_
        ·have hk5' := hL4.drew.trans (hw0 ▸ hk5.l)
         refine stepAppB bytesTr hk5'.o (HV _ hk5'.x) rfl rfl rfl rfl rfl (by simp <;> omega) hk5'.x.size ?_
         intro f9 wr9 ho9 hg9
         have hk9 := hk5'.app ho9 hg9
         refine hK.out _ _ ?_ (fun hHeld => ?_)
         ·exact hHeld.trans ((Stp.refl _ _).own hk5'.o hg9 hND)
         clear hK K
         try simp only [red, Act.put]
         refine wpHead_done (by kernel_rfl) ?_
         have hk9' := hk9
         have hqz := hHeld
         clear hk5 hk5' ho9 hg9 hk9 hL4 hq4 hHeld hw0
         go_wp2
         go_ret
         exact ⟨_, rfl, by have ho := hk9'.o; rw [HLC.out] at ho; rw [HK.out]; simpa [longB, shortB, listB, List.append_assoc] using ho, hk9'.x⟩
        exact AllHead.nil
       exact AllHead.nil
      exact AllHead.nil
     exact AllHead.nil
    refine ac (fun K hK => ?_) ?_
    ·go_simp
     refine name_world ?_
     rintro wr11 hw11
     have hxn11 : Ext wr0 wr11 := hw11 ▸ (Ext.refl _).alloc _
     have hrow11 : wr11.heap[wr0.heap.size]? = some (.cells #[.int .u8 ((sh : Int) % 256)] 5 (0, 0)) := hw11 ▸ heap_alloc_new wr0 _
     have hne11 := fun k hk => Nat.ne_of_gt (Nat.lt_of_lt_of_le (hbl k hk) hHeld.1)
     refine hK.out _ _ ?_ (fun hHeld => ?_)
     ·exact hHeld.trans (.of_ext hxn11)
     clear hK K
     try simp only [red, Act.put]
     refine rd [5] ?_
     refine ac (fun K hK => ?_) ?_
     ·have hLw := hLk.drew
      rw [hw0] at hLw
      try replace hLw := hLw.al hxn11
      refine step_callG (by rfl) (by kernel_rfl) (hT wr11 _ _ su hLw (by omega) (by omega)) ?_
      rintro e wr5 ⟨c5, rfl, hl5, hg5⟩
      have hL5 := hLw.trans hl5
      refine ⟨_, rfl, ?_⟩
      refine hK.out _ _ ?_ (fun hHeld => ?_)
      ·exact hHeld.trans (hl5.s _ hND)
      clear hK K
      try simp only [red, Act.put]
      refine rd [12] ?_
      refine ac (fun K hK => ?_) ?_
      ·have hL12 : Lay w wa (lc ++ shortB su) wr5 c5 := by first | exact hL5 | exact hL5.al hxn11
       have hB12 : Bs wr5 (some ⟨_, 0, none⟩) (beN 1 sh) := fresh_row (x := (sh : Int) % 256) rfl (by first | exact hrow11 | exact (hg5.block _ (obj_lt hrow11) (fun e => hne11 _ e.symm rfl)).trans hrow11)
       refine stepAppB bytesTr hL12.o hB12 rfl rfl rfl rfl (by simp) (by simp <;> omega) hL12.x.size ?_
       intro f12 wr12 ho12 hg12
       have hL12' := hL12.app ho12 hg12
       refine hK.out _ _ ?_ (fun hHeld => ?_)
       ·exact hHeld.trans ((Stp.refl _ _).own hL12.o hg12 hND)
       clear hK K
       try simp only [red, Act.put]
       refine wpHead_done (by kernel_rfl) ?_
       have hq12 := hHeld
       clear hLw hl5 hg5 hL5 hxn11 hrow11 hne11 hL12 hB12 ho12 hg12 hw0 hHeld hsq hLk hbl
       go_wp2_with fail
       refine (hN _ _ _ ep 4 hL12' (by simp <;> omega) (by omega) (by omega)).mono ?_
       rintro e w4 ⟨b4, rfl, hlg4⟩
       have hL4 := hL12'.trans hlg4.l
       have hq4 := hq12.trans (hlg4.l.s _ hND)
       clear hL12' hlg4 hq12
       go_wp2_with fail
       refine wp_region_phase (S := fun w' => Stp [37] wv w') 10 (by kernel_rfl) (by kernel_rfl) ?_ (fun hHeld => ?_)
       ·exact hq4.drew
       simp only [List.drop_succ_cons, List.drop_zero]
       refine name_head ?_
       intro wr0 hw0
       rw [hw0] at hHeld
       refine wt 0 _ ?_
       simp only [red, Act.put]
       refine wt 1 _ ?_
       simp only [red, Act.put]
       refine wt 2 _ ?_
       simp only [red, Act.put]
       refine wt 3 _ ?_
       simp only [red, Act.put]
       refine wt 4 _ ?_
       simp only [red, Act.put]
       refine wt 6 _ ?_
       simp only [red, Act.put]
       refine wt 7 _ ?_
       simp only [red, Act.put]
       refine wt 8 _ ?_
       simp only [red, Act.put]
       refine rd [5] ?_
       refine ac (fun K hK => ?_) ?_
       ·refine step_callG (by rfl) (by kernel_rfl) (hN _ _ _ vb.length 2 (by rw [← hw0]; exact hL4.drew) (by simp <;> omega) (by omega) (by omega)) ?_
        rintro e wr5 ⟨f5, rfl, hk5⟩
        refine ⟨_, rfl, ?_⟩
        refine hK.out _ _ ?_ (fun hHeld => ?_)
        ·exact hHeld.trans (hk5.l.s _ hND)
        clear hK K
        try simp only [red, Act.put]
        refine rd [9] ?_
        refine ac (fun K hK => ?_) ?_
        ·have hk5' := hL4.drew.trans (hw0 ▸ hk5.l)
         refine stepAppB bytesTr hk5'.o (HV _ hk5'.x) rfl rfl rfl rfl rfl (by simp <;> omega) hk5'.x.size ?_
         intro f9 wr9 ho9 hg9
         have hk9 := hk5'.app ho9 hg9
         refine hK.out _ _ ?_ (fun hHeld => ?_)
         ·exact hHeld.trans ((Stp.refl _ _).own hk5'.o hg9 hND)
         clear hK K
         try simp only [red, Act.put]
         refine wpHead_done (by kernel_rfl) ?_
         have hk9' := hk9
         have hqz := hHeld
         clear hk5 hk5' ho9 hg9 hk9 hL4 hq4 hHeld hw0
         go_wp2
         go_ret
         exact ⟨_, rfl, by have ho := hk9'.o; rw [HLC.out] at ho; rw [HK.out]; simpa [longB, shortB, listB, List.append_assoc] using ho, hk9'.x⟩
        exact AllHead.nil
       exact AllHead.nil
      exact AllHead.nil
     exact AllHead.nil
    exact AllHead.nil
 ·
  obtain rfl : ks = 3 := by omega
  clear hk
  rw [show kTx ((3 : Nat) : Int) = true from rfl]
  rw [show kN ((3 : Nat) : Int) = false from rfl] at H2
  rw [show kVote ((3 : Nat) : Int) = false from rfl] at H3
  go_wp2_with (with_reducible refine sL 25 ?_)
  refine go_on (wpList_load_mid rfl 25 _ rfl w.heap.size 3 rfl _ _ (RT _ hq0) Tryz.underlying25 rfl (by kernel_rfl) ?_)
  go_wp2_with fail
  refine (hPT _ _ _ hl0 (by simp)).mono ?_
  rintro e w2 ⟨b2, rfl, hl2⟩
  obtain ⟨lb, hlb, hL⟩ : ∃ lb, lb = beN 1 3 ++ beN 1 ss ++ beN 1 ds_ ++ putTx ⟨t1, t2, t3⟩ ∧ Lay w wa lb w2 b2 := ⟨_, rfl, hl0.trans hl2⟩
  have hq := hq0.trans (hl2.s _ hND)
  clear hl0 hl2 hq0
  go_wp2_with fail
  refine (H2 _).mono ?_
  rintro e wq ⟨rfl, hwq⟩
  subst hwq
  have hln : lb.length ≤ 20 := by rw [hlb]; simp [putTx]
  have HLB := Lib.hid hlb
  clear hlb
  go_wp2_with fail
  refine (H3 _).mono ?_
  rintro e wq ⟨rfl, hwq⟩
  subst hwq
  have HK : Hid (lm = lb ++ (beN 1 fa)) := Lib.hid (by rw [HM.out, HLB.out]; simp [putTx, kTx, kN, kVote, inI])
  obtain ⟨Ah, ch, hfe⟩ := hL.o.form
  subst hfe
  go_wp2_with (at_builtin; refine unstop ?_)
  refine go_on (wpList_appB bytesTr (hL.o.alloc _) (beN1_int (x := fa) (by omega) fa (by omega) _) rfl rfl rfl rfl (by simp) (by simp; omega) (by have := hL.x.size; simp; omega) ?_)
  intro bf wf hof hgf _
  have hLf : Lay w wa (lb ++ beN 1 fa) wf bf := (hL.al ((Ext.refl _).alloc _)).app hof hgf
  have hqf := (hq.alloc _).own (hL.o.alloc _) hgf hND
  clear hL hq hof hgf
  go_wp2
  go_ret
  exact ⟨_, rfl, by rw [HK.out]; simpa [longB, shortB, List.append_assoc] using hLf.o, hLf.x⟩
 ·
  obtain rfl : ks = 4 := by omega
  clear hk
  rw [show kTx ((4 : Nat) : Int) = true from rfl]
  rw [show kN ((4 : Nat) : Int) = false from rfl] at H2
  rw [show kVote ((4 : Nat) : Int) = false from rfl] at H3
  go_wp2_with (with_reducible refine sL 25 ?_)
  refine go_on (wpList_load_mid rfl 25 _ rfl w.heap.size 3 rfl _ _ (RT _ hq0) Tryz.underlying25 rfl (by kernel_rfl) ?_)
  go_wp2_with fail
  refine (hPT _ _ _ hl0 (by simp)).mono ?_
  rintro e w2 ⟨b2, rfl, hl2⟩
  obtain ⟨lb, hlb, hL⟩ : ∃ lb, lb = beN 1 4 ++ beN 1 ss ++ beN 1 ds_ ++ putTx ⟨t1, t2, t3⟩ ∧ Lay w wa lb w2 b2 := ⟨_, rfl, hl0.trans hl2⟩
  have hq := hq0.trans (hl2.s _ hND)
  clear hl0 hl2 hq0
  go_wp2_with fail
  refine (H2 _).mono ?_
  rintro e wq ⟨rfl, hwq⟩
  subst hwq
  have hln : lb.length ≤ 20 := by rw [hlb]; simp [putTx]
  have HLB := Lib.hid hlb
  clear hlb
  go_wp2_with fail
  refine (H3 _).mono ?_
  rintro e wq ⟨rfl, hwq⟩
  subst hwq
  have HK : Hid (lm = lb ++ ([])) := Lib.hid (by rw [HM.out, HLB.out]; simp [putTx, kTx, kN, kVote, inI])
  go_wp2
  go_ret
  exact ⟨_, rfl, by rw [HK.out]; simpa [longB, shortB, List.append_assoc] using hL.o, hL.x⟩
 ·
  obtain rfl : ks = 5 := by omega
  clear hk
  rw [show kTx ((5 : Nat) : Int) = true from rfl]
  rw [show kN ((5 : Nat) : Int) = false from rfl] at H2
  rw [show kVote ((5 : Nat) : Int) = false from rfl] at H3
  go_wp2_with (with_reducible refine sL 25 ?_)
  refine go_on (wpList_load_mid rfl 25 _ rfl w.heap.size 3 rfl _ _ (RT _ hq0) Tryz.underlying25 rfl (by kernel_rfl) ?_)
  go_wp2_with fail
  refine (hPT _ _ _ hl0 (by simp)).mono ?_
  rintro e w2 ⟨b2, rfl, hl2⟩
  obtain ⟨lb, hlb, hL⟩ : ∃ lb, lb = beN 1 5 ++ beN 1 ss ++ beN 1 ds_ ++ putTx ⟨t1, t2, t3⟩ ∧ Lay w wa lb w2 b2 := ⟨_, rfl, hl0.trans hl2⟩
  have hq := hq0.trans (hl2.s _ hND)
  clear hl0 hl2 hq0
  go_wp2_with fail
  refine (H2 _).mono ?_
  rintro e wq ⟨rfl, hwq⟩
  subst hwq
  have hln : lb.length ≤ 20 := by rw [hlb]; simp [putTx]
  have HLB := Lib.hid hlb
  clear hlb
  go_wp2_with fail
  refine (H3 _).mono ?_
  rintro e wq ⟨rfl, hwq⟩
  subst hwq
  have HK : Hid (lm = lb ++ ([])) := Lib.hid (by rw [HM.out, HLB.out]; simp [putTx, kTx, kN, kVote, inI])
  go_wp2
  go_ret
  exact ⟨_, rfl, by rw [HK.out]; simpa [longB, shortB, List.append_assoc] using hL.o, hL.x⟩
 ·
  obtain rfl : ks = 6 := by omega
  clear hk
  rw [show kTx ((6 : Nat) : Int) = false from rfl]
  rw [show kN ((6 : Nat) : Int) = true from rfl] at H2
  rw [show kVote ((6 : Nat) : Int) = false from rfl] at H3
  go_wp2_with fail
  refine (H2 _).mono ?_
  rintro e wq ⟨rfl, hwq⟩
  subst hwq
  go_wp2_with fail
  refine (hN _ _ _ nn 4 hl0 (by simp) (by omega) (by omega)).mono ?_
  rintro e w2 ⟨b2, rfl, hlg⟩
  obtain ⟨lb, hlb, hL⟩ : ∃ lb, lb = beN 1 6 ++ beN 1 ss ++ beN 1 ds_ ++ beN 4 nn ∧ Lay w wa lb w2 b2 := ⟨_, rfl, hl0.trans hlg.l⟩
  have hq := hq0.trans (hlg.l.s _ hND)
  clear hl0 hlg hq0
  have hln : lb.length ≤ 20 := by rw [hlb]; simp
  have HLB := Lib.hid hlb
  clear hlb
  go_wp2_with fail
  refine (H3 _).mono ?_
  rintro e wq ⟨rfl, hwq⟩
  subst hwq
  have HK : Hid (lm = lb ++ (shortB user ++ beN 4 ue)) := Lib.hid (by rw [HM.out, HLB.out]; simp [kTx, kN, kVote, inI])
  go_wp2_with fail
  refine wp_region_phase (S := fun w' => Stp [37] wa w') 7 (by kernel_rfl) (by kernel_rfl) ?_ (fun hHeld => ?_)
  ·exact hq.drew
  simp only [List.drop_succ_cons, List.drop_zero]
  refine name_head ?_
  intro wr0 hw0
  rw [hw0] at hHeld
  refine wt 0 _ ?_
  simp only [red, Act.put]
  refine wt 1 _ ?_
  simp only [red, Act.put]
  refine wt 2 _ ?_
  simp only [red, Act.put]
  refine wt 4 _ ?_
  simp only [red, Act.put]
  refine wt 5 _ ?_
  simp only [red, Act.put]
  refine rd [3] ?_
  refine ac (fun K hK => ?_) ?_
  ·refine step_callG (by rfl) (by kernel_rfl) (hT _ _ _ user (by rw [← hw0]; exact hL.drew) (by omega) (by omega)) ?_
   rintro e wr3 ⟨c3, rfl, hl3, -⟩
   refine ⟨_, rfl, ?_⟩
   refine hK.out _ _ ?_ (fun hHeld => ?_)
   ·exact hHeld.trans (hl3.s _ hND)
   clear hK K
   try simp only [red, Act.put]
   refine rd [6] ?_
   refine ac (fun K hK => ?_) ?_
   ·have hl3' := hL.drew.trans (hw0 ▸ hl3)
    refine step_callG (by rfl) (by kernel_rfl) (hN _ _ _ ue 4 hl3' (by simp <;> omega) (by omega) (by omega)) ?_
    rintro e wr6 ⟨c6, rfl, hl6⟩
    refine ⟨_, rfl, ?_⟩
    refine hK.out _ _ ?_ (fun hHeld => ?_)
    ·exact hHeld.trans (hl6.l.s _ hND)
    clear hK K
    try simp only [red, Act.put]
    refine wpHead_done (by kernel_rfl) ?_
    have hl6' := hl3'.trans hl6.l
    clear hl3 hl3' hl6 hHeld hw0
    go_wp2
    go_ret
    exact ⟨_, rfl, by rw [HK.out]; simpa [longB, shortB, List.append_assoc] using hl6'.o, hl6'.x⟩
   exact AllHead.nil
  exact AllHead.nil
 ·
  obtain rfl : ks = 7 := by omega
  clear hk
  rw [show kTx ((7 : Nat) : Int) = false from rfl]
  rw [show kN ((7 : Nat) : Int) = true from rfl] at H2
  rw [show kVote ((7 : Nat) : Int) = true from rfl] at H3
  go_wp2_with fail
  refine (H2 _).mono ?_
  rintro e wq ⟨rfl, hwq⟩
  subst hwq
  go_wp2_with fail
  refine (hN _ _ _ nn 4 hl0 (by simp) (by omega) (by omega)).mono ?_
  rintro e w2 ⟨b2, rfl, hlg⟩
  obtain ⟨lb, hlb, hL⟩ : ∃ lb, lb = beN 1 7 ++ beN 1 ss ++ beN 1 ds_ ++ beN 4 nn ∧ Lay w wa lb w2 b2 := ⟨_, rfl, hl0.trans hlg.l⟩
  have hq := hq0.trans (hlg.l.s _ hND)
  clear hl0 hlg hq0
  have hln : lb.length ≤ 20 := by rw [hlb]; simp
  have HLB := Lib.hid hlb
  clear hlb
  go_wp2_with fail
  refine (H3 _).mono ?_
  rintro e wq ⟨rfl, hwq⟩
  subst hwq
  have HK : Hid (lm = lb ++ (beN 1 er ++ listB 4 nums ++ shortB su ++ beN 1 sh ++ beN 4 ep ++ longB vb)) := Lib.hid (by rw [HM.out, HLB.out]; simp [kTx, kN, kVote, inI])
  go_wp2_with (at_builtin; refine unstop ?_)
  obtain ⟨Ah, ch, hfe⟩ := hL.o.form
  subst hfe
  refine go_on (wpList_appB bytesTr (hL.o.alloc _) (Bs.new _ (beN 1 er ++ beN 1 nums.length) _ (by rw [show ((er : Nat) : Int) = (er : Int) % 256 by omega, show ((nums.length : Nat) : Int) = (nums.length : Int) % 256 by omega, u8_of, u8_of]; simp [beN, bv]) _ _) rfl rfl rfl rfl (by simp) (by simp; omega) (by have := hL.x.size; simp; omega) ?_)
  intro bv_ wv hov hgv _
  have hLv : Lay w wa (lb ++ (beN 1 er ++ beN 1 nums.length)) wv bv_ := (hL.al ((Ext.refl _).alloc _)).app hov hgv
  have hqv := (hq.alloc _).own (hL.o.alloc _) hgv hND
  clear hL hq hov hgv
  go_wp2
  go_loopw [3, 4] (fun xb iv wr => ∃ k : Nat, iv = .int .i64 k ∧ k ≤ nums.length ∧ Lay w wa (lb ++ (beN 1 er ++ beN 1 nums.length) ++ (nums.take k).flatMap fun v => beN 4 v.toNat) wr xb ∧ Stp [37] wa wr) (fun _ iv _ => nums.length - (intOf iv).toNat)
  case atStart => exact ⟨0, rfl, by omega, by simpa using hLv, hqv⟩
  case round =>
   clear hLv hqv
   obtain ⟨k, rfl, hk, hLk, hqk⟩ := hrel
   by_cases hlt : k < nums.length
   ·obtain ⟨ad, rfl, hc⟩ := Sl.now (hNs.ext hLk.x) (doV_get hlt)
    have hlt2 : (k : Int) < nums.length := by omega
    have HTK := Lib.hid (wtake_len hlt)
    have hp0 := q11 _ (List.getElem_mem hlt)
    have hlen := flat4_take nums k
    generalize nums[k] = x at *
    obtain ⟨x, rfl⟩ : ∃ m : Nat, x = (m : Int) := ⟨x.toNat, by omega⟩
    have HX := hN _ _ _ x 4 hLk (by simp only [List.length_append, beN_length]; omega) (by omega) (by omega)
    have HLK := Lib.hid hLk
    have HQK := Lib.hid hqk
    clear hLk hlen hp0
    go_wp2_with fail
    refine HX.mono ?_
    rintro e w2 ⟨b2, rfl, hlg⟩
    have hL3 := HLK.out.trans hlg.l
    have hq3 := HQK.out.trans (hlg.l.s _ hND)
    clear hlg HX hqk
    go_wp2
    go_roundw
    case rel => exact ⟨k + 1, by go_num, by omega, by rw [HTK.out, List.flatMap_append, ← List.append_assoc]; simpa using hL3, hq3⟩
    case measure => simp [intOf]; omega
   ·have hlt2 : ¬ (k : Int) < nums.length := by omega
    obtain rfl : k = nums.length := by omega
    rw [List.take_length] at hLk
    obtain ⟨lc, hlc⟩ : ∃ lc, lc = lb ++ (beN 1 er ++ beN 1 nums.length) ++ nums.flatMap fun v => beN 4 v.toNat := ⟨_, rfl⟩
    rw [← hlc] at hLk
    have hll : lc.length ≤ 100 := by rw [hlc]; simp only [List.length_append, beN_length, flat4]; omega
    have HLC := Lib.hid hlc
    clear hlc hlt
    obtain ⟨wv, hwv⟩ : ∃ x, x = wr := ⟨wr, rfl⟩
    subst hwv
    go_wp2_with fail
    have C14 := fun W h => C14 W (hqk.trans h)
    have C15 := fun W h => C15 W (hqk.trans h)
    have C16 := fun W h => C16 W (hqk.trans h)
    have C17 := fun W h => C17 W (hqk.trans h)
    have C0 := fun W h => C0 W (hqk.trans h)
    have hbl := fun k hk => (hLk.o.lt k hk).2
    have hsq : Stp [37] wv wv.drew := (Stp.refl _ _).drew
    clear hqk
    refine wp_region_phase (S := fun w' => Stp [37] wv w') 13 (by kernel_rfl) (by kernel_rfl) ?_ (fun hHeld => ?_)
    ·exact hsq
    simp only [List.drop_succ_cons, List.drop_zero]
    refine name_head ?_
    intro wr0 hw0
    rw [hw0] at hHeld
    refine wt 0 _ ?_
    simp only [red, Act.put]
    refine wt 1 _ ?_
    simp only [red, Act.put]
    refine wt 2 _ ?_
    simp only [red, Act.put]
    refine wt 3 _ ?_
    simp only [red, Act.put]
    refine wt 4 _ ?_
    simp only [red, Act.put]
    refine wt 6 _ ?_
    simp only [red, Act.put]
    refine wt 7 _ ?_
    simp only [red, Act.put]
    refine wt 8 _ ?_
    simp only [red, Act.put]
    refine wt 9 _ ?_
    simp only [red, Act.put]
    refine wt 10 _ ?_
    simp only [red, Act.put]
    refine rd [5, 11] ?_
    refine ac (fun K hK => ?_) ?_
    ·have hLw := hLk.drew
     rw [hw0] at hLw
     try replace hLw := hLw.al hxn11
     refine step_callG (by rfl) (by kernel_rfl) (hT wr0 _ _ su hLw (by omega) (by omega)) ?_
     rintro e wr5 ⟨c5, rfl, hl5, hg5⟩
     have hL5 := hLw.trans hl5
     refine ⟨_, rfl, ?_⟩
     refine hK.out _ _ ?_ (fun hHeld => ?_)
     ·exact hHeld.trans (hl5.s _ hND)
     clear hK K
     try simp only [red, Act.put]
     refine rd [11] ?_
     refine ac (fun K hK => ?_) ?_
     ·go_simp
      refine name_world ?_
      rintro wr11 hw11
      have hxn11 : Ext wr5 wr11 := hw11 ▸ (Ext.refl _).alloc _
      have hrow11 : wr11.heap[wr5.heap.size]? = some (.cells #[.int .u8 ((sh : Int) % 256)] 5 (0, 0)) := hw11 ▸ heap_alloc_new wr5 _
      have hne11 := fun k hk => Nat.ne_of_gt (Nat.lt_of_lt_of_le (hbl k hk) hHeld.1)
      refine hK.out _ _ ?_ (fun hHeld => ?_)
      ·exact hHeld.trans (.of_ext hxn11)
      clear hK K
      try simp only [red, Act.put]
      refine rd [12] ?_
      refine ac (fun K hK => ?_) ?_
      ·have hL12 : Lay w wa (lc ++ shortB su) wr11 c5 := by first | exact hL5 | exact hL5.al hxn11
       have hB12 : Bs wr11 (some ⟨_, 0, none⟩) (beN 1 sh) := fresh_row (x := (sh : Int) % 256) rfl (by first | exact hrow11 | exact (hg5.block _ (obj_lt hrow11) (fun e => hne11 _ e.symm rfl)).trans hrow11)
       refine stepAppB bytesTr hL12.o hB12 rfl rfl rfl rfl (by simp) (by simp <;> omega) hL12.x.size ?_
       intro f12 wr12 ho12 hg12
       have hL12' := hL12.app ho12 hg12
       refine hK.out _ _ ?_ (fun hHeld => ?_)
       ·exact hHeld.trans ((Stp.refl _ _).own hL12.o hg12 hND)
       clear hK K
       try simp only [red, Act.put]
       refine wpHead_done (by kernel_rfl) ?_
       have hq12 := hHeld
       clear hLw hl5 hg5 hL5 hxn11 hrow11 hne11 hL12 hB12 ho12 hg12 hw0 hHeld hsq hLk hbl
       go_wp2_with fail
       refine (hN _ _ _ ep 4 hL12' (by simp <;> omega) (by omega) (by omega)).mono ?_
       rintro e w4 ⟨b4, rfl, hlg4⟩
       have hL4 := hL12'.trans hlg4.l
       have hq4 := hq12.trans (hlg4.l.s _ hND)
       clear hL12' hlg4 hq12
       go_wp2_with fail
       refine wp_region_phase (S := fun w' => Stp [37] wv w') 10 (by kernel_rfl) (by kernel_rfl) ?_ (fun hHeld => ?_)
       ·exact hq4.drew
       simp only [List.drop_succ_cons, List.drop_zero]
       refine name_head ?_
       intro wr0 hw0
       rw [hw0] at hHeld
       refine wt 0 _ ?_
       simp only [red, Act.put]
       refine wt 1 _ ?_
       simp only [red, Act.put]
       refine wt 2 _ ?_
       simp only [red, Act.put]
       refine wt 3 _ ?_
       simp only [red, Act.put]
       refine wt 4 _ ?_
       simp only [red, Act.put]
       refine wt 6 _ ?_
       simp only [red, Act.put]
       refine wt 7 _ ?_
       simp only [red, Act.put]
       refine wt 8 _ ?_
       simp only [red, Act.put]
       refine rd [5] ?_
       refine ac (fun K hK => ?_) ?_
       ·refine step_callG (by rfl) (by kernel_rfl) (hN _ _ _ vb.length 2 (by rw [← hw0]; exact hL4.drew) (by simp <;> omega) (by omega) (by omega)) ?_
        rintro e wr5 ⟨f5, rfl, hk5⟩
        refine ⟨_, rfl, ?_⟩
        refine hK.out _ _ ?_ (fun hHeld => ?_)
        ·exact hHeld.trans (hk5.l.s _ hND)
        clear hK K
        try simp only [red, Act.put]
        refine rd [9] ?_
        refine ac (fun K hK => ?_) ?_
        ·have hk5' := hL4.drew.trans (hw0 ▸ hk5.l)
         refine stepAppB bytesTr hk5'.o (HV _ hk5'.x) rfl rfl rfl rfl rfl (by simp <;> omega) hk5'.x.size ?_
         intro f9 wr9 ho9 hg9
         have hk9 := hk5'.app ho9 hg9
         refine hK.out _ _ ?_ (fun hHeld => ?_)
         ·exact hHeld.trans ((Stp.refl _ _).own hk5'.o hg9 hND)
         clear hK K
         try simp only [red, Act.put]
         refine wpHead_done (by kernel_rfl) ?_
         have hk9' := hk9
         have hqz := hHeld
         clear hk5 hk5' ho9 hg9 hk9 hL4 hq4 hHeld hw0
         go_wp2
         go_ret
         exact ⟨_, rfl, by have ho := hk9'.o; rw [HLC.out] at ho; rw [HK.out]; simpa [longB, shortB, listB, List.append_assoc] using ho, hk9'.x⟩
        exact AllHead.nil
       exact AllHead.nil
      exact AllHead.nil
     exact AllHead.nil
    refine ac (fun K hK => ?_) ?_
    ·go_simp
     refine name_world ?_
     rintro wr11 hw11
     have hxn11 : Ext wr0 wr11 := hw11 ▸ (Ext.refl _).alloc _
     have hrow11 : wr11.heap[wr0.heap.size]? = some (.cells #[.int .u8 ((sh : Int) % 256)] 5 (0, 0)) := hw11 ▸ heap_alloc_new wr0 _
     have hne11 := fun k hk => Nat.ne_of_gt (Nat.lt_of_lt_of_le (hbl k hk) hHeld.1)
     refine hK.out _ _ ?_ (fun hHeld => ?_)
     ·exact hHeld.trans (.of_ext hxn11)
     clear hK K
     try simp only [red, Act.put]
     refine rd [5] ?_
     refine ac (fun K hK => ?_) ?_
     ·have hLw := hLk.drew
      rw [hw0] at hLw
      try replace hLw := hLw.al hxn11
      refine step_callG (by rfl) (by kernel_rfl) (hT wr11 _ _ su hLw (by omega) (by omega)) ?_
      rintro e wr5 ⟨c5, rfl, hl5, hg5⟩
      have hL5 := hLw.trans hl5
      refine ⟨_, rfl, ?_⟩
      refine hK.out _ _ ?_ (fun hHeld => ?_)
      ·exact hHeld.trans (hl5.s _ hND)
      clear hK K
      try simp only [red, Act.put]
      refine rd [12] ?_
      refine ac (fun K hK => ?_) ?_
      ·have hL12 : Lay w wa (lc ++ shortB su) wr5 c5 := by first | exact hL5 | exact hL5.al hxn11
       have hB12 : Bs wr5 (some ⟨_, 0, none⟩) (beN 1 sh) := fresh_row (x := (sh : Int) % 256) rfl (by first | exact hrow11 | exact (hg5.block _ (obj_lt hrow11) (fun e => hne11 _ e.symm rfl)).trans hrow11)
       refine stepAppB bytesTr hL12.o hB12 rfl rfl rfl rfl (by simp) (by simp <;> omega) hL12.x.size ?_
       intro f12 wr12 ho12 hg12
       have hL12' := hL12.app ho12 hg12
       refine hK.out _ _ ?_ (fun hHeld => ?_)
       ·exact hHeld.trans ((Stp.refl _ _).own hL12.o hg12 hND)
       clear hK K
       try simp only [red, Act.put]
       refine wpHead_done (by kernel_rfl) ?_
       have hq12 := hHeld
       clear hLw hl5 hg5 hL5 hxn11 hrow11 hne11 hL12 hB12 ho12 hg12 hw0 hHeld hsq hLk hbl
       go_wp2_with fail
       refine (hN _ _ _ ep 4 hL12' (by simp <;> omega) (by omega) (by omega)).mono ?_
       rintro e w4 ⟨b4, rfl, hlg4⟩
       have hL4 := hL12'.trans hlg4.l
       have hq4 := hq12.trans (hlg4.l.s _ hND)
       clear hL12' hlg4 hq12
       go_wp2_with fail
       refine wp_region_phase (S := fun w' => Stp [37] wv w') 10 (by kernel_rfl) (by kernel_rfl) ?_ (fun hHeld => ?_)
       ·exact hq4.drew
       simp only [List.drop_succ_cons, List.drop_zero]
       refine name_head ?_
       intro wr0 hw0
       rw [hw0] at hHeld
       refine wt 0 _ ?_
       simp only [red, Act.put]
       refine wt 1 _ ?_
       simp only [red, Act.put]
       refine wt 2 _ ?_
       simp only [red, Act.put]
       refine wt 3 _ ?_
       simp only [red, Act.put]
       refine wt 4 _ ?_
       simp only [red, Act.put]
       refine wt 6 _ ?_
       simp only [red, Act.put]
       refine wt 7 _ ?_
       simp only [red, Act.put]
       refine wt 8 _ ?_
       simp only [red, Act.put]
       refine rd [5] ?_
       refine ac (fun K hK => ?_) ?_
       ·refine step_callG (by rfl) (by kernel_rfl) (hN _ _ _ vb.length 2 (by rw [← hw0]; exact hL4.drew) (by simp <;> omega) (by omega) (by omega)) ?_
        rintro e wr5 ⟨f5, rfl, hk5⟩
        refine ⟨_, rfl, ?_⟩
        refine hK.out _ _ ?_ (fun hHeld => ?_)
        ·exact hHeld.trans (hk5.l.s _ hND)
        clear hK K
        try simp only [red, Act.put]
        refine rd [9] ?_
        refine ac (fun K hK => ?_) ?_
        ·have hk5' := hL4.drew.trans (hw0 ▸ hk5.l)
         refine stepAppB bytesTr hk5'.o (HV _ hk5'.x) rfl rfl rfl rfl rfl (by simp <;> omega) hk5'.x.size ?_
         intro f9 wr9 ho9 hg9
         have hk9 := hk5'.app ho9 hg9
         refine hK.out _ _ ?_ (fun hHeld => ?_)
         ·exact hHeld.trans ((Stp.refl _ _).own hk5'.o hg9 hND)
         clear hK K
         try simp only [red, Act.put]
         refine wpHead_done (by kernel_rfl) ?_
         have hk9' := hk9
         have hqz := hHeld
         clear hk5 hk5' ho9 hg9 hk9 hL4 hq4 hHeld hw0
         go_wp2
         go_ret
         exact ⟨_, rfl, by have ho := hk9'.o; rw [HLC.out] at ho; rw [HK.out]; simpa [longB, shortB, listB, List.append_assoc] using ho, hk9'.x⟩
        exact AllHead.nil
       exact AllHead.nil
      exact AllHead.nil
     exact AllHead.nil
    exact AllHead.nil
end Go.Proofs.YthlppbbejdeeoaaGreatDoor
