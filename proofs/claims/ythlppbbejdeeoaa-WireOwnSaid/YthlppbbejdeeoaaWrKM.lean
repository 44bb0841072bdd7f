/- The walks of the laws' live, and of WireBack. Condition: the walk of deed.Check (CheckLaw), and the bounds named. -/
import Derived.Test.YthlppbbejdeeoaaWrIM
import Derived.Test.YthlppbbejdeeoaaWrJM
import Derived.Test.YthlppbbejdeeoaaC1
namespace Go.Proofs.Ythlppbbejdeeoaa
open Go.RowKit
/-! ## the plain laws -/
theorem takeT_pack {l : By} (h0 : 0 < l.length) (h1 : l.length ≤ 2000) : takeT (packL l) = takeMT l := by
  have h := oneL_at [] l [] h0 h1
  rw [List.nil_append, List.append_nil] at h
  have h' : oneL (packL l) 0 = (l, 0 + 6 + (l.length : Int), 0) := h
  unfold takeT
  rw [h', if_neg (by simp), if_neg (by rw [packL_length]; simp only; push_cast; omega)]
theorem take_putT {m : Ml} (h : checkM m = 0) : takeT (putMT m).1 = .inr m := by
  unfold putMT
  rw [if_neg (by simpa using h)]
  rw [takeT_pack (layM_pos m) (checkM_ok h).2.2.2, take_put h]
theorem takeT_nil : takeT [] = .inl 3 := by simp [takeT, oneL]
theorem put_takeT {p : By} {m : Ml} (h : takeT (packO p) = .inr m) : putMT m = (packO p, 0) := by
  unfold packO at *
  by_cases h1 : p.length = 0
  · rw [if_pos h1, takeT_nil] at h
    cases h
  · rw [if_neg h1] at h ⊢
    by_cases h2 : 2000 < p.length
    · rw [if_pos h2, takeT_nil] at h
      cases h
    · rw [if_neg h2] at h ⊢
      rw [takeT_pack (by omega) (by omega)] at h
      obtain ⟨q1, q2⟩ := put_take h
      unfold putMT
      rw [if_neg (by simpa using q2), q1]
theorem takeM_nz {l : By} {c : Nat} (h : takeMT l = .inl c) : c ≠ 0 := by
  rw [takeM_sim] at h
  split at h
  · cases h; decide
  · split at h
    · rename_i hr
      cases h
      exact rdR_nz hr
    · split at h
      · cases h; decide
      · split at h
        · rename_i hc; cases h; exact hc
        · cases h
theorem takeT_nz {b : By} {c : Nat} (h : takeT b = .inl c) : c ≠ 0 := by
  unfold takeT at h
  have := oneL_nn b 0
  split at h
  · cases h; omega
  · split at h
    · cases h; decide
    · exact takeM_nz h
theorem takeT_right {b : By} {m : Ml} (h : takeT b = .inr m) : checkM m = 0 := by
  unfold takeT at h
  split at h
  · cases h
  · split at h
    · cases h
    · exact (put_take h).2
def liveM : Ml := ⟨4, 1, 2, ⟨0, 1, 1⟩, tx00, [], [], [], 0, [], [], 0, 0, [], 0, [], 0, 0⟩
theorem liveL : (packL (layM liveM)).length = 18 ∧ (packL (layM liveM))[6]? = some 4 ∧ ¬ 2000 < (layM liveM).length := by decide +kernel
theorem liveA : argsB liveM = true := by
  have h1 : tx0 tx00 = true := by simp [tx0, tx00]
  have h2 : txB ⟨0, 1, 1⟩ = true := by decide
  unfold argsB txsB partB voteB fateB nB userB liveM
  simp only
  rw [h1, h2]
  decide
theorem liveW : (putMT liveM).2 = 0 ∧ (putMT liveM).1.length = 18 ∧ (putMT liveM).1[6]? = some 4 := by
  have hc : checkM liveM = 0 := by
    unfold checkM
    rw [if_neg (by decide), if_neg (by simp [liveA]), if_neg (by decide), if_neg liveL.2.2]
  unfold putMT
  rw [if_neg (by simpa using hc)]
  exact ⟨rfl, liveL.1, liveL.2.1⟩
theorem mlC_one (m : Ml) (Ap Ad Ae An Av : Option Addr) (np nd ne nn nv cp cd ce cn cv : Nat) : (mlC m (.slice Ap np cp) (.slice Ad nd cd) (.slice Ae ne ce) (.slice An nn cn) (.slice Av nv cv)).all (·.oneCell') = true := by simp [mlC, Value.oneCell']
theorem mlC_info (m : Ml) (P D E N V : Value) : (Try.prog.info? 37).map (·.size) = some (mlC m P D E N V).size := by kernel_rfl
/-- the lengths of a right message -/
theorem right_len {m : Ml} (h : checkM m = 0) : m.peers.length ≤ 140737488351232 ∧ m.deeds.length ≤ 140737488351232 ∧ m.epochs.length ≤ 140737488351232 ∧ m.nums.length ≤ 140737488351232 ∧ m.vbytes.length ≤ 140737488351232 ∧ ∀ d ∈ m.deeds, okD d := by
  have hr := checkM_right h
  have hp := hr.part
  have hv := hr.vote
  have h2 : m.nums.length ≤ 12 ∧ m.vbytes.length ≤ 1800 := by
    split at hv
    · exact ⟨hv.2.1, hv.2.2.2.2.2.2⟩
    · rw [hv.2.1, hv.2.2.2.2.2]; simp
  split at hp
  · rename_i h1
    have hq := putAllT_ok ((checkM_ok h).2.2.1 h1)
    obtain ⟨_, a2, a3, a4, _⟩ := hq
    refine ⟨by omega, by omega, by omega, by omega, by omega, fun d hd => (checkD_ok (firstC_of a4 d hd)).2.2.2.2.2.1⟩
  · obtain ⟨-, a2, a3, a4⟩ := hp
    refine ⟨by rw [a2]; simp, by rw [a3]; simp, by rw [a4]; simp, by omega, by omega, fun d hd => by rw [a3] at hd; cases hd⟩
/-- what Put tells of a message that was taken -/
theorem put_rows (HCK : CheckLaw) {m : Ml} {P D E N V : Value} {w : World} {base : Nat} (h : Rows w base m P D E N V) (hc : checkM m = 0) : Calls Try.prog 5 #[.agg (mlC m P D E N V)] w (PutSays (putMT m) w) := by
  obtain ⟨hP, hD, hE, hN, hV⟩ := h
  obtain ⟨Ap, cp, rfl⟩ := hP.form
  obtain ⟨Ad, cd, rfl⟩ := hD.form
  obtain ⟨Ae, ce, rfl⟩ := hE.form
  obtain ⟨An, cn, rfl⟩ := hN.form
  obtain ⟨Av, cv, rfl⟩ := hV.form
  obtain ⟨l1, l2, l3, l4, l5, l6⟩ := right_len hc
  exact wPut_any HCK m Ap Ad Ae An Av cp cd ce cn cv w hP.sl hE.sl hN.sl hV.bs (hD.rsm l6) l1 l2 l3 l4 l5
theorem put_zero (HCK : CheckLaw) (w : World) : Calls Try.prog 5 #[.agg zMC] w (PutSays ([], 14) w) := by
  have := wPut_any HCK zM none none none none none 0 0 0 0 0 w (Sl.nil _ _) (Sl.nil _ _) (Sl.nil _ _) (Sl.nil _ _) (RsM.nil _ _ _ _ _) (by decide) (by decide) (by decide) (by decide) (by decide)
  exact this
theorem Rows.one {w : World} {base : Nat} {m : Ml} {P D E N V : Value} (h : Rows w base m P D E N V) : (mlC m P D E N V).all (·.oneCell') = true := by
  obtain ⟨hP, hD, hE, hN, hV⟩ := h
  obtain ⟨Ap, cp, rfl⟩ := hP.form
  obtain ⟨Ad, cd, rfl⟩ := hD.form
  obtain ⟨Ae, ce, rfl⟩ := hE.form
  obtain ⟨An, cn, rfl⟩ := hN.form
  obtain ⟨Av, cv, rfl⟩ := hV.form
  exact mlC_one _ _ _ _ _ _ _ _ _ _ _ _ _ _ _ _
set_option maxRecDepth 20000 in
set_option maxHeartbeats 4000000 in
theorem wlive_any (HCK : CheckLaw) (w : World) : Calls Try.prog 9 #[] w fun e w' => e = .returned (.bool true) ∧ Ext w w' := by
  have HP := wPut_any HCK liveM none none none none none 0 0 0 0 0 w (Sl.nil _ _) (Sl.nil _ _) (Sl.nil _ _) (Sl.nil _ _) (RsM.nil _ _ _ _ _) (by decide) (by decide) (by decide) (by decide) (by decide)
  obtain ⟨l1, l2, l3⟩ := liveW
  have hck : checkM liveM = 0 := by
    unfold putMT at l1
    split at l1
    · rename_i h; exact absurd l1 h
    · rename_i h; simpa using h
  have HTK := take_putT hck
  unfold PutSays at HP
  rw [l1] at HP
  generalize (putMT liveM).1 = lb at *
  go_enter Try.func9, Try.ntmps9
  go_wp2_with fail
  refine HP.mono ?_
  rintro e w1 ⟨hx1, v, rfl, hown⟩
  obtain ⟨Ab, cb, rfl⟩ := hown.form
  have HT := wTake_any HCK Ab cb lb w1 hown.bs hown.cap.1 hown.cap.2
  unfold TakeW at HT
  rw [HTK] at HT
  have hlen : 6 < lb.length := by omega
  obtain ⟨ad, rfl, hc6⟩ := hown.bs.at_ hlen
  have h6 : lb[6] = 4 := by
    rw [List.getElem?_eq_getElem hlen] at l3
    injection l3
  rw [h6] at hc6
  rw [add_pos' ad 5] at hc6
  have hc6 : ∀ w', Ext w1 w' → w'.cell? ⟨ad.block, ad.off + 6, none⟩ = some (.int .u8 4) := hc6
  have L2 := Lib.hid l2
  rw [l2] at HT ⊢
  clear hown HP HTK l1 l2 l3 h6 hlen hck
  go_wp2_with fail
  refine HT.mono ?_
  rintro e w2 ⟨hx2, P, D, E, N, V, rfl, hrows⟩
  have hc2 := hc6 w2 hx2
  have hx02 := hx1.trans hx2
  have h1c := hrows.one
  clear HT hrows hc6
  go_wp2_with (first | (with_reducible refine stop_load 37 ?_) | (with_reducible refine stop_store 37 ?_) | (with_reducible refine stop_alloc 37 ?_))
  refine go_on (wpList_alloc_ rfl rfl mail_info ?_)
  go_wp2_with (first | (with_reducible refine stop_load 37 ?_) | (with_reducible refine stop_store 37 ?_) | (with_reducible refine stop_alloc 37 ?_))
  refine go_on (wpList_store_last (c' := mlC liveM P D E N V) rfl rfl rfl rfl (mlC_info _ _ _ _ _ _) rfl h1c ?_)
  intro w3 hrow3 hx3 _
  have C0 := row_e hrow3 0 (.int .i64 4) rfl
  have C2 := row_e hrow3 2 (.int .i64 2) rfl
  have hc3 := hx3.cell hc2
  have hx03 := hx02.trans hx3
  clear hrow3 hc2
  go_wp2
  go_ret
  exact ⟨rfl, hx03⟩
set_option maxRecDepth 20000 in
set_option maxHeartbeats 8000000 in
theorem WireBack_any (HCK : CheckLaw) (m : Ml) (Ap Ad Ae An Av : Option Addr) (cp cd ce cn cv : Nat) (l : By) (B : Option Addr) (cb : Nat) (w : World)
    (hP : Sl w Ap (doV m.peers)) (hE : Sl w Ae (doV m.epochs)) (hN : Sl w An (doV m.nums)) (hV : Bs w Av m.vbytes) (hD : RsM RDd 10 [] w Ad m.deeds)
    (hlp : m.peers.length ≤ 140737488351232) (hdl : m.deeds.length ≤ 140737488351232) (hle : m.epochs.length ≤ 140737488351232) (hln : m.nums.length ≤ 140737488351232) (hlv : m.vbytes.length ≤ 140737488351232) (hb : Bs w B l) :
    Calls Try.prog 3 #[.agg (mlC m (.slice Ap m.peers.length cp) (.slice Ad m.deeds.length cd) (.slice Ae m.epochs.length ce) (.slice An m.nums.length cn) (.slice Av m.vbytes.length cv)), .slice B l.length cb] w (Yes w) := by
  have HP := fun W (hx : Ext w W) => wPut_any HCK m Ap Ad Ae An Av cp cd ce cn cv W (hP.ext hx) (hE.ext hx) (hN.ext hx) (hV.ext hx) (hD.kept (.of_ext hx)) hlp hdl hle hln hlv
  have HS : ∀ W, Ext w W → ∀ P D E N V, Rows W w.heap.size m P D E N V → (∀ d ∈ m.deeds, okD d) → Calls Try.prog 7 #[.agg (mlC m (.slice Ap m.peers.length cp) (.slice Ad m.deeds.length cd) (.slice Ae m.epochs.length ce) (.slice An m.nums.length cn) (.slice Av m.vbytes.length cv)), .agg (mlC m P D E N V)] W fun e w' => e = .returned (.bool true) ∧ Ext W w' := by
    intro W hx P D E N V hr hok
    obtain ⟨hP', hD', hE', hN', hV'⟩ := hr
    obtain ⟨Ap', cp', rfl⟩ := hP'.form
    obtain ⟨Ad', cd', rfl⟩ := hD'.form
    obtain ⟨Ae', ce', rfl⟩ := hE'.form
    obtain ⟨An', cn', rfl⟩ := hN'.form
    obtain ⟨Av', cv', rfl⟩ := hV'.form
    exact MSame_any m Ap Ad Ae An Av Ap' Ad' Ae' An' Av' cp cd ce cn cv cp' cd' ce' cn' cv' W (hP.ext hx) (hE.ext hx) (hN.ext hx) (hV.ext hx) (hD.kept (.of_ext hx)) hP'.sl hE'.sl hN'.sl hV'.bs (hD'.rsm hok) hlp hdl hle hln
  obtain ⟨mc, hmc⟩ : ∃ mc, mc = mlC m (.slice Ap m.peers.length cp) (.slice Ad m.deeds.length cd) (.slice Ae m.epochs.length ce) (.slice An m.nums.length cn) (.slice Av m.vbytes.length cv) := ⟨_, rfl⟩
  have hsm : (Try.prog.info? 37).map (·.size) = some mc.size := by rw [hmc]; kernel_rfl
  rw [← hmc] at HP HS ⊢
  obtain ⟨wa, hwa⟩ : ∃ wa, wa = w.alloc (.cells mc 37) := ⟨_, rfl⟩
  have hxa : Ext w wa := by rw [hwa]; exact (Ext.refl w).alloc _
  have hrowM : wa.heap[w.heap.size]? = some (.cells mc 37 (0, 0)) := by rw [hwa]; exact heap_alloc_new w _
  have HWA := Lib.hid hwa
  clear hP hE hN hV hD hmc hwa
  go_enter Try.func3, Try.ntmps3
  go_wp2_with (first | (with_reducible refine stop_load 37 ?_) | (with_reducible refine stop_store 37 ?_) | (with_reducible refine stop_alloc 37 ?_))
  rw [← HWA.out]
  refine go_on (wpList_load_row rfl 37 _ rfl w.heap.size rfl 37 _ (0, 0) _ hrowM Try.underlying37 rfl hsm ?_)
  go_wp2_with fail
  refine (HP wa hxa).mono ?_
  rintro e w1 ⟨hx1, v1, rfl, hown1⟩
  have hx01 := hxa.trans hx1
  clear HP
  by_cases hck : checkM m = 0
  · have HTK := take_putT hck
    have h2 : (putMT m).2 = 0 := by unfold putMT; rw [if_neg (by simpa using hck)]
    have hok := (right_len hck).2.2.2.2.2
    rw [h2]
    generalize (putMT m).1 = lb at *
    obtain ⟨A1, c1, rfl⟩ := hown1.form
    have HT := wTake_any HCK A1 c1 lb w1 hown1.bs hown1.cap.1 hown1.cap.2
    unfold TakeW at HT
    rw [HTK] at HT
    clear HTK h2 hck hown1
    go_wp2_with fail
    refine HT.mono ?_
    rintro e w2 ⟨hx2, P, D, E, N, V, rfl, hrows⟩
    have hx02 := hx01.trans hx2
    have h1c := hrows.one
    clear HT
    go_wp2_with (first | (with_reducible refine stop_load 37 ?_) | (with_reducible refine stop_store 37 ?_) | (with_reducible refine stop_alloc 37 ?_))
    refine go_on (wpList_alloc_ rfl rfl mail_info ?_)
    go_wp2_with (first | (with_reducible refine stop_load 37 ?_) | (with_reducible refine stop_store 37 ?_) | (with_reducible refine stop_alloc 37 ?_))
    refine go_on (wpList_store_last (c' := mlC m P D E N V) rfl rfl rfl rfl (mlC_info _ _ _ _ _ _) rfl h1c ?_)
    intro w3 hrow3 hx3 _
    have hx03 := hx02.trans hx3
    have hrM := (hx1.trans (hx2.trans hx3)).obj hrowM
    have HS3 := HS w3 hx03 P D E N V ((hrows.low hx01.size).ext hx3) hok
    clear HS hrows hok
    go_wp2_with (first | (with_reducible refine stop_load 37 ?_) | (with_reducible refine stop_store 37 ?_) | (with_reducible refine stop_alloc 37 ?_))
    refine go_on (wpList_load_rowG (by rfl) 37 _ rfl w.heap.size rfl 37 _ (0, 0) _ hrM Try.underlying37 rfl hsm ?_)
    go_wp2_with (first | (with_reducible refine stop_load 37 ?_) | (with_reducible refine stop_store 37 ?_) | (with_reducible refine stop_alloc 37 ?_))
    refine go_on (wpList_load_rowG (by rfl) 37 _ rfl w2.heap.size rfl 37 _ (0, 0) _ hrow3 Try.underlying37 rfl (mlC_info _ _ _ _ _ _) ?_)
    clear hrM hrow3 hrowM
    go_wp2_with fail
    refine HS3.mono ?_
    rintro e w4 ⟨rfl, hx4⟩
    have hx04 := hx03.trans hx4
    clear HS3 hx1 hx2 hx3 hx4 hx01 hx02 hx03 h1c
    have HPK := RPack_any B cb l.length l w4 (hb.ext hx04) rfl
    unfold PackSays at HPK
    generalize packE l = pe at *
    go_wp2_with fail
    refine HPK.mono ?_
    rintro e w5 ⟨v5, rfl, hown5, hx5⟩
    have hx05 := Ext.trans hx04 hx5
    clear HPK hx5
    have HPT := fun m => put_takeT (p := l) (m := m)
    generalize packO l = lo at *
    obtain ⟨Ac, cc, rfl⟩ := hown5.form
    have HT2 := wTake_any HCK Ac cc lo w5 hown5.bs hown5.cap.1 hown5.cap.2
    have HB5 := Lib.hid hown5.bs
    clear hown5
    go_wp2_with fail
    refine HT2.mono ?_
    rintro e w6 ⟨hx6, hq⟩
    have hx06 := hx05.trans hx6
    clear HT2
    cases htk : takeT lo with
    | inl k =>
      rw [htk] at hq
      obtain rfl := hq
      have k1 : (((k : Nat) : Int) == 0) = false := by simpa using takeT_nz htk
      have k2 : ¬ k = 0 := takeT_nz htk
      clear htk HPT HB5
      go_wp2_with (first | (with_reducible refine stop_load 37 ?_) | (with_reducible refine stop_store 37 ?_) | (with_reducible refine stop_alloc 37 ?_))
      refine go_on (wpList_alloc_ rfl rfl mail_info ?_)
      go_wp2_with (first | (with_reducible refine stop_load 37 ?_) | (with_reducible refine stop_store 37 ?_) | (with_reducible refine stop_alloc 37 ?_))
      refine go_on (wpList_store_last (c' := zMC) rfl rfl rfl rfl (by kernel_rfl) rfl zMC_one ?_)
      intro w7 hrow7 hx7 _
      have hx07 := hx06.trans hx7
      go_wp2_with (first | (with_reducible refine stop_load 37 ?_) | (with_reducible refine stop_store 37 ?_) | (with_reducible refine stop_alloc 37 ?_))
      refine go_on (wpList_load_row rfl 37 _ rfl w6.heap.size rfl 37 _ (0, 0) _ hrow7 Try.underlying37 rfl (by kernel_rfl) ?_)
      clear hrow7
      go_wp2_with fail
      refine (put_zero HCK w7).mono ?_
      rintro e w8 ⟨hx8, v8, rfl, -⟩
      have hx08 := hx07.trans hx8
      go_wp2_with fail
      refine (wlive_any HCK w8).mono ?_
      rintro e w9 ⟨rfl, hx9⟩
      have hx09 := hx08.trans hx9
      go_wp2
      go_ret
      exact ⟨rfl, hx09⟩
    | inr x =>
      rw [htk] at hq
      obtain ⟨P, D, E, N, V, rfl, hrows⟩ := hq
      have HP2 := fun W (h : Rows W w5.heap.size x P D E N V) => put_rows HCK h (takeT_right htk)
      rw [HPT x htk] at HP2
      have h1c := hrows.one
      clear HPT htk
      go_wp2_with (first | (with_reducible refine stop_load 37 ?_) | (with_reducible refine stop_store 37 ?_) | (with_reducible refine stop_alloc 37 ?_))
      refine go_on (wpList_alloc_ rfl rfl mail_info ?_)
      go_wp2_with (first | (with_reducible refine stop_load 37 ?_) | (with_reducible refine stop_store 37 ?_) | (with_reducible refine stop_alloc 37 ?_))
      refine go_on (wpList_store_last (c' := mlC x P D E N V) rfl rfl rfl rfl (mlC_info _ _ _ _ _ _) rfl h1c ?_)
      intro w7 hrow7 hx7 _
      have hx07 := hx06.trans hx7
      have hrows7 := hrows.ext hx7
      go_wp2_with (first | (with_reducible refine stop_load 37 ?_) | (with_reducible refine stop_store 37 ?_) | (with_reducible refine stop_alloc 37 ?_))
      refine go_on (wpList_load_row rfl 37 _ rfl w6.heap.size rfl 37 _ (0, 0) _ hrow7 Try.underlying37 rfl (mlC_info _ _ _ _ _ _) ?_)
      clear hrow7
      go_wp2_with fail
      refine (HP2 w7 hrows7).mono ?_
      rintro e w8 ⟨hx8, v8, rfl, hown8⟩
      have hx08 := hx07.trans hx8
      have hx58 := (hx6.trans hx7).trans hx8
      obtain ⟨A8, c8, rfl⟩ := hown8.form
      clear HP2 hrows hrows7 hx6 hx7 hx8 h1c
      go_wp2_with fail
      refine (wlive_any HCK w8).mono ?_
      rintro e w9 ⟨rfl, hx9⟩
      have hx09 := hx08.trans hx9
      have s1 := run_str (P := Try.prog) Try.underlying32 Try.underlying5 Try.underlying9 hown8.bs lo.length c8 rfl w9 hx9
      have s2 := run_str (P := Try.prog) Try.underlying32 Try.underlying5 Try.underlying9 HB5.out lo.length cc rfl w9 (hx58.trans hx9)
      clear hown8 hx58
      go_wp2
      go_ret
      exact ⟨rfl, hx09⟩
  · have h2 : (putMT m).2 = checkM m := by unfold putMT; rw [if_pos hck]
    have k0 : (((checkM m : Nat) : Int) == 0) = false := by simpa using hck
    rw [h2]
    generalize checkM m = z at *
    clear hck hown1 HS h2 hrowM
    have HPK := RPack_any B cb l.length l w1 (hb.ext hx01) rfl
    unfold PackSays at HPK
    generalize packE l = pe at *
    go_wp2_with fail
    refine HPK.mono ?_
    rintro e w5 ⟨v5, rfl, hown5, hx5⟩
    have hx05 := Ext.trans hx01 hx5
    clear HPK hx5
    have HPT := fun m => put_takeT (p := l) (m := m)
    generalize packO l = lo at *
    obtain ⟨Ac, cc, rfl⟩ := hown5.form
    have HT2 := wTake_any HCK Ac cc lo w5 hown5.bs hown5.cap.1 hown5.cap.2
    have HB5 := Lib.hid hown5.bs
    clear hown5
    go_wp2_with fail
    refine HT2.mono ?_
    rintro e w6 ⟨hx6, hq⟩
    have hx06 := hx05.trans hx6
    clear HT2
    cases htk : takeT lo with
    | inl k =>
      rw [htk] at hq
      obtain rfl := hq
      have k1 : (((k : Nat) : Int) == 0) = false := by simpa using takeT_nz htk
      have k2 : ¬ k = 0 := takeT_nz htk
      clear htk HPT HB5
      go_wp2_with (first | (with_reducible refine stop_load 37 ?_) | (with_reducible refine stop_store 37 ?_) | (with_reducible refine stop_alloc 37 ?_))
      refine go_on (wpList_alloc_ rfl rfl mail_info ?_)
      go_wp2_with (first | (with_reducible refine stop_load 37 ?_) | (with_reducible refine stop_store 37 ?_) | (with_reducible refine stop_alloc 37 ?_))
      refine go_on (wpList_store_last (c' := zMC) rfl rfl rfl rfl (by kernel_rfl) rfl zMC_one ?_)
      intro w7 hrow7 hx7 _
      have hx07 := hx06.trans hx7
      go_wp2_with (first | (with_reducible refine stop_load 37 ?_) | (with_reducible refine stop_store 37 ?_) | (with_reducible refine stop_alloc 37 ?_))
      refine go_on (wpList_load_row rfl 37 _ rfl w6.heap.size rfl 37 _ (0, 0) _ hrow7 Try.underlying37 rfl (by kernel_rfl) ?_)
      clear hrow7
      go_wp2_with fail
      refine (put_zero HCK w7).mono ?_
      rintro e w8 ⟨hx8, v8, rfl, -⟩
      have hx08 := hx07.trans hx8
      go_wp2_with fail
      refine (wlive_any HCK w8).mono ?_
      rintro e w9 ⟨rfl, hx9⟩
      have hx09 := hx08.trans hx9
      go_wp2
      go_ret
      exact ⟨rfl, hx09⟩
    | inr x =>
      rw [htk] at hq
      obtain ⟨P, D, E, N, V, rfl, hrows⟩ := hq
      have HP2 := fun W (h : Rows W w5.heap.size x P D E N V) => put_rows HCK h (takeT_right htk)
      rw [HPT x htk] at HP2
      have h1c := hrows.one
      clear HPT htk
      go_wp2_with (first | (with_reducible refine stop_load 37 ?_) | (with_reducible refine stop_store 37 ?_) | (with_reducible refine stop_alloc 37 ?_))
      refine go_on (wpList_alloc_ rfl rfl mail_info ?_)
      go_wp2_with (first | (with_reducible refine stop_load 37 ?_) | (with_reducible refine stop_store 37 ?_) | (with_reducible refine stop_alloc 37 ?_))
      refine go_on (wpList_store_last (c' := mlC x P D E N V) rfl rfl rfl rfl (mlC_info _ _ _ _ _ _) rfl h1c ?_)
      intro w7 hrow7 hx7 _
      have hx07 := hx06.trans hx7
      have hrows7 := hrows.ext hx7
      go_wp2_with (first | (with_reducible refine stop_load 37 ?_) | (with_reducible refine stop_store 37 ?_) | (with_reducible refine stop_alloc 37 ?_))
      refine go_on (wpList_load_row rfl 37 _ rfl w6.heap.size rfl 37 _ (0, 0) _ hrow7 Try.underlying37 rfl (mlC_info _ _ _ _ _ _) ?_)
      clear hrow7
      go_wp2_with fail
      refine (HP2 w7 hrows7).mono ?_
      rintro e w8 ⟨hx8, v8, rfl, hown8⟩
      have hx08 := hx07.trans hx8
      have hx58 := (hx6.trans hx7).trans hx8
      obtain ⟨A8, c8, rfl⟩ := hown8.form
      clear HP2 hrows hrows7 hx6 hx7 hx8 h1c
      go_wp2_with fail
      refine (wlive_any HCK w8).mono ?_
      rintro e w9 ⟨rfl, hx9⟩
      have hx09 := hx08.trans hx9
      have s1 := run_str (P := Try.prog) Try.underlying32 Try.underlying5 Try.underlying9 hown8.bs lo.length c8 rfl w9 hx9
      have s2 := run_str (P := Try.prog) Try.underlying32 Try.underlying5 Try.underlying9 HB5.out lo.length cc rfl w9 (hx58.trans hx9)
      clear hown8 hx58
      go_wp2
      go_ret
      exact ⟨rfl, hx09⟩
end Go.Proofs.Ythlppbbejdeeoaa
