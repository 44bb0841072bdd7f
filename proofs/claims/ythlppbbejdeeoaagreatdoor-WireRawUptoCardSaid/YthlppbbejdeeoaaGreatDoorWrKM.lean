/- The walks of the laws' live, and of WireBack. Condition: the walk of deed.Check (CheckLaw), and the bounds named. -/
import Derived.Test.YthlppbbejdeeoaaGreatDoorWrIM
import Derived.Test.YthlppbbejdeeoaaGreatDoorWrJM
import Derived.Test.YthlppbbejdeeoaaGreatDoorC10
namespace Go.Proofs.YthlppbbejdeeoaaGreatDoor
open Go.RowKit
/-! ## the plain laws -/
theorem takeT_pack {l : By} (h0 : 0 < l.length) (h1 : l.length ≤ 2000) : takeT (packL l) = takeMT l := by
 have h := oneL_at [] l [] h0 h1
 rw [List.nil_append, List.append_nil] at h
 have h' : oneL (packL l) 0 = (l, 0 + 6 + (l.length : Int), 0) := h
 unfold takeT
 rw [h', if_neg (by simp), if_neg (by rw [packL_length]; simp only; push_cast; omega)]
theorem take_putT {m : Ml} (h : checkM m = 0) : takeT (putMT m).1 = .inr m := by
 unfold putMT
 rw [if_neg (by simpa using h)]
 rw [takeT_pack (layM_pos m) (checkM_ok h).2.2.2, take_put h]
theorem takeT_right {b : By} {m : Ml} (h : takeT b = .inr m) : checkM m = 0 := by
 unfold takeT at h
 split at h
 ·cases h
 ·split at h
  ·cases h
  ·exact (put_take h).2
def liveM : Ml := ⟨4, 1, 2, ⟨0, 1, 1⟩, tx00, [], [], [], 0, [], [], 0, 0, [], 0, [], 0, 0⟩
theorem liveL : (packL (layM liveM)).length = 18 ∧ (packL (layM liveM))[6]? = some 4 ∧ ¬ 2000 < (layM liveM).length := by decide +kernel
theorem liveA : argsB liveM = true := by
 have h1 : tx0 tx00 = true := by simp [tx0, tx00]
 have h2 : txB ⟨0, 1, 1⟩ = true := by decide
 unfold argsB txsB partB voteB fateB nB userB liveM
 simp only
 rw [h1, h2]
 decide
theorem liveW : (putMT liveM).2 = 0 ∧ (putMT liveM).1.length = 18 ∧ (putMT liveM).1[6]? = some 4 := by
 have hc : checkM liveM = 0 := by
  unfold checkM
  rw [if_neg (by decide), if_neg (by simp [liveA]), if_neg (by decide), if_neg liveL.2.2]
 unfold putMT
 rw [if_neg (by simpa using hc)]
 exact ⟨rfl, liveL.1, liveL.2.1⟩
theorem mlC_one (m : Ml) (Ap Ad Ae An Av : Option Addr) (np nd ne nn nv cp cd ce cn cv : Nat) : (mlC m (.slice Ap np cp) (.slice Ad nd cd) (.slice Ae ne ce) (.slice An nn cn) (.slice Av nv cv)).all (·.oneCell') = true := by simp [mlC, Value.oneCell']
theorem mlC_info (m : Ml) (P D E N V : Value) : (Tryz.prog.info? 37).map (·.size) = some (mlC m P D E N V).size := by kernel_rfl
/-- the lengths of a right message -/
theorem right_len {m : Ml} (h : checkM m = 0) : m.peers.length ≤ 140737488351232 ∧ m.deeds.length ≤ 140737488351232 ∧ m.epochs.length ≤ 140737488351232 ∧ m.nums.length ≤ 140737488351232 ∧ m.vbytes.length ≤ 140737488351232 ∧ ∀ d ∈ m.deeds, okD d := by
 have hr := checkM_right h
 have hp := hr.part
 have hv := hr.vote
 have h2 : m.nums.length ≤ 12 ∧ m.vbytes.length ≤ 1800 := by
  split at hv
  ·exact ⟨hv.2.1, hv.2.2.2.2.2.2⟩
  ·rw [hv.2.1, hv.2.2.2.2.2]; simp
 split at hp
 ·rename_i h1
  have hq := putAllT_ok ((checkM_ok h).2.2.1 h1)
  obtain ⟨_, a2, a3, a4, _⟩ := hq
  refine ⟨by omega, by omega, by omega, by omega, by omega, fun d hd => (checkD_ok (firstC_of a4 d hd)).2.2.2.2.2.1⟩
 ·obtain ⟨-, a2, a3, a4⟩ := hp
  refine ⟨by rw [a2]; simp, by rw [a3]; simp, by rw [a4]; simp, by omega, by omega, fun d hd => by rw [a3] at hd; cases hd⟩
theorem Rows.one {w : World} {base : Nat} {m : Ml} {P D E N V : Value} (h : Rows w base m P D E N V) : (mlC m P D E N V).all (·.oneCell') = true := by
 obtain ⟨hP, hD, hE, hN, hV⟩ := h
 obtain ⟨Ap, cp, rfl⟩ := hP.form
 obtain ⟨Ad, cd, rfl⟩ := hD.form
 obtain ⟨Ae, ce, rfl⟩ := hE.form
 obtain ⟨An, cn, rfl⟩ := hN.form
 obtain ⟨Av, cv, rfl⟩ := hV.form
 exact mlC_one _ _ _ _ _ _ _ _ _ _ _ _ _ _ _ _
set_option maxRecDepth 20000 in
set_option maxHeartbeats 4000000 in
theorem wlive_any (HCK : CheckLaw) (w : World) : Calls Tryz.prog 9 #[] w fun e w' => e = .returned (.bool true) ∧ Ext w w' := by
 have HP := wPut_any HCK liveM none none none none none 0 0 0 0 0 w (Sl.nil _ _) (Sl.nil _ _) (Sl.nil _ _) (Sl.nil _ _) (RsM.nil _ _ _ _ _) (by decide) (by decide) (by decide) (by decide) (by decide)
 obtain ⟨l1, l2, l3⟩ := liveW
 have hck : checkM liveM = 0 := by
  unfold putMT at l1
  split at l1
  ·rename_i h; exact absurd l1 h
  ·rename_i h; simpa using h
 have HTK := take_putT hck
 unfold PutSays at HP
 rw [l1] at HP
 generalize (putMT liveM).1 = lb at *
 go_enter Tryz.func9, Tryz.ntmps9
 go_wp2_with fail
 refine HP.mono ?_
 rintro e w1 ⟨hx1, v, rfl, hown⟩
 obtain ⟨Ab, cb, rfl⟩ := hown.form
 have HT := wTake_any HCK Ab cb lb w1 hown.bs hown.cap.1 hown.cap.2
 unfold TakeW at HT
 rw [HTK] at HT
 have hlen : 6 < lb.length := by omega
 obtain ⟨ad, rfl, hc6⟩ := hown.bs.at_ hlen
 have h6 : lb[6] = 4 := by
  rw [List.getElem?_eq_getElem hlen] at l3
  injection l3
 rw [h6] at hc6
 rw [add_pos' ad 5] at hc6
 have hc6 : ∀ w', Ext w1 w' → w'.cell? ⟨ad.block, ad.off + 6, none⟩ = some (.int .u8 4) := hc6
 have L2 := Lib.hid l2
 rw [l2] at HT ⊢
 clear hown HP HTK l1 l2 l3 h6 hlen hck
 go_wp2_with fail
 refine HT.mono ?_
 rintro e w2 ⟨hx2, P, D, E, N, V, rfl, hrows⟩
 have hc2 := hc6 w2 hx2
 have hx02 := hx1.trans hx2
 have h1c := hrows.one
 clear HT hrows hc6
 go_wp2_with (with_reducible first | refine sL 37 ?_ | refine sS 37 ?_ | refine sA 37 ?_)
 refine go_on (wpList_alloc_ rfl rfl mail_info ?_)
 go_wp2_with (with_reducible first | refine sL 37 ?_ | refine sS 37 ?_ | refine sA 37 ?_)
 refine go_on (wpList_store_last (c' := mlC liveM P D E N V) rfl rfl rfl rfl (mlC_info _ _ _ _ _ _) rfl h1c ?_)
 intro w3 hrow3 hx3 _
 have C0 := row_e hrow3 0 (.int .i64 4) rfl
 have C2 := row_e hrow3 2 (.int .i64 2) rfl
 have hc3 := hx3.cell hc2
 have hx03 := hx02.trans hx3
 clear hrow3 hc2
 go_wp2
 go_ret
 exact ⟨rfl, hx03⟩
end Go.Proofs.YthlppbbejdeeoaaGreatDoor
