/- The walk of the law DeedBack. Condition: that of Check (CheckLaw). -/
import Derived.Test.YtameamfaaenboaaDd18
namespace Go.Proofs.Ytameamfaaenboaa
open Go.RowKit
theorem takeAll_nz {l : By} {k : Nat} (h : takeAllT l = .inl k) : k ≠ 0 := by
  unfold takeAllT at h
  split at h
  · cases h; decide
  · cases hp : readP allP l with
    | inl e => rw [hp] at h; cases h; exact Nz.all.read hp
    | inr u =>
      rw [hp] at h
      simp only at h
      split at h
      · rename_i hc; cases h; exact hc
      · cases h
set_option maxRecDepth 20000 in
set_option maxHeartbeats 4000000 in
theorem DeedBack_any (HCK : CheckLaw) (ds : List Dd) (A : Option Addr) (c : Nat) (l : By) (B : Option Addr) (cb : Nat) (w : World) (h : RsM RDd 10 [] w A ds) (hl : ds.length ≤ 140737488351232) (hb : Bs w B l) (hlc : l.length ≤ cb) :
    Calls Try.prog 3 #[.slice A ds.length c, .slice B l.length cb] w (Yes w) := by
  have HP := PutAll_any HCK ds A c w h hl
  go_enter Try.func3, Try.ntmps3
  go_wp2_with fail
  refine HP.mono ?_
  rintro e w1 ⟨hx1, v1, rfl, hown1⟩
  clear HP
  by_cases h0 : (putAllT ds).2 = 0
  · have HTK := takeAll_put h0
    obtain ⟨-, -, -, hf0, -⟩ := putAllT_ok h0
    have hokD : ∀ d ∈ ds, okD d := fun d hd => (checkD_ok (firstC_of hf0 d hd)).2.2.2.2.2.1
    rw [h0]
    generalize (putAllT ds).1 = lb at *
    obtain ⟨A1, c1, rfl⟩ := hown1.form
    have HT := TakeAll_any HCK A1 c1 lb w1 hown1.bs hown1.cap.1
    unfold TASays at HT
    rw [HTK] at HT
    clear HTK hf0 h0 hown1
    go_wp2_with fail
    refine HT.mono ?_
    rintro e w2 ⟨hx2, v2, rfl, hds⟩
    obtain ⟨A2, c2, rfl⟩ := hds.form
    have hx02 := hx1.trans hx2
    have HS := DSameAll_any ds A A2 c c2 w2 (h.kept (.of_ext hx02)) (hds.rsm hokD) hl
    clear HT hds hx2 hx1 hokD
    go_wp2_with fail
    refine HS.mono ?_
    rintro e w3 ⟨rfl, hx3⟩
    have hx03 := hx02.trans hx3
    clear HS hx02 hx3 h
    have HT2 := TakeAll_any HCK B cb l w3 (hb.ext hx03) hlc
    go_wp2_with fail
    refine HT2.mono ?_
    rintro e w5 ⟨hx5, hq⟩
    have hx05 := Ext.trans hx03 hx5
    clear HT2 hx5
    cases htk : takeAllT l with
    | inl k =>
      rw [htk] at hq
      obtain rfl := hq
      have k1 : (((k : Nat) : Int) == 0) = false := by simpa using takeAll_nz htk
      have k2 : ¬ k = 0 := takeAll_nz htk
      have HP2 := PutAll_any HCK [] none 0 w5 (RsM.nil _ _ _ _ _) (by simp)
      rw [List.length_nil, show putAllT [] = ([], 2) from rfl] at HP2
      clear htk hb
      go_wp2_with fail
      refine HP2.mono ?_
      rintro e w6 ⟨hx6, v6, rfl, hown6⟩
      have hx06 := hx05.trans hx6
      clear HP2 hown6
      go_wp2_with fail
      refine (dlive_any HCK w6).mono ?_
      rintro e w7 ⟨rfl, hx7⟩
      have hx07 := hx06.trans hx7
      go_wp2
      go_ret
      exact ⟨rfl, hx07⟩
    | inr ds2 =>
      rw [htk] at hq
      obtain ⟨v, rfl, hds⟩ := hq
      obtain ⟨-, hokD, -, hn12, -, -⟩ := takeAllT_ok htk
      obtain ⟨A5, c5, rfl⟩ := hds.form
      have HP2 := PutAll_any HCK ds2 A5 c5 w5 (hds.rsm hokD) (by omega)
      rw [putAll_take htk] at HP2
      clear htk hokD hds
      go_wp2_with fail
      refine HP2.mono ?_
      rintro e w6 ⟨hx6, v6, rfl, hown6⟩
      have hx06 := hx05.trans hx6
      obtain ⟨A6, c6, rfl⟩ := hown6.form
      clear HP2
      go_wp2_with fail
      refine (dlive_any HCK w6).mono ?_
      rintro e w7 ⟨rfl, hx7⟩
      have hx07 := hx06.trans hx7
      have s1 := run_str (P := Try.prog) Try.underlying23 Try.underlying5 Try.underlying9 hown6.bs l.length c6 rfl w7 hx7
      have s2 := run_str (P := Try.prog) Try.underlying23 Try.underlying5 Try.underlying9 hb l.length cb rfl w7 hx07
      clear hown6 hb
      go_wp2
      go_ret
      exact ⟨rfl, hx07⟩
  · have k0 : (((putAllT ds).2 : Int) == 0) = false := by simpa using h0
    generalize (putAllT ds).2 = z at *
    clear h0 hown1 h
    have HT2 := TakeAll_any HCK B cb l w1 (hb.ext hx1) hlc
    go_wp2_with fail
    refine HT2.mono ?_
    rintro e w5 ⟨hx5, hq⟩
    have hx05 := Ext.trans hx1 hx5
    clear HT2 hx5
    cases htk : takeAllT l with
    | inl k =>
      rw [htk] at hq
      obtain rfl := hq
      have k1 : (((k : Nat) : Int) == 0) = false := by simpa using takeAll_nz htk
      have k2 : ¬ k = 0 := takeAll_nz htk
      have HP2 := PutAll_any HCK [] none 0 w5 (RsM.nil _ _ _ _ _) (by simp)
      rw [List.length_nil, show putAllT [] = ([], 2) from rfl] at HP2
      clear htk hb
      go_wp2_with fail
      refine HP2.mono ?_
      rintro e w6 ⟨hx6, v6, rfl, hown6⟩
      have hx06 := hx05.trans hx6
      clear HP2 hown6
      go_wp2_with fail
      refine (dlive_any HCK w6).mono ?_
      rintro e w7 ⟨rfl, hx7⟩
      have hx07 := hx06.trans hx7
      go_wp2
      go_ret
      exact ⟨rfl, hx07⟩
    | inr ds2 =>
      rw [htk] at hq
      obtain ⟨v, rfl, hds⟩ := hq
      obtain ⟨-, hokD, -, hn12, -, -⟩ := takeAllT_ok htk
      obtain ⟨A5, c5, rfl⟩ := hds.form
      have HP2 := PutAll_any HCK ds2 A5 c5 w5 (hds.rsm hokD) (by omega)
      rw [putAll_take htk] at HP2
      clear htk hokD hds
      go_wp2_with fail
      refine HP2.mono ?_
      rintro e w6 ⟨hx6, v6, rfl, hown6⟩
      have hx06 := hx05.trans hx6
      obtain ⟨A6, c6, rfl⟩ := hown6.form
      clear HP2
      go_wp2_with fail
      refine (dlive_any HCK w6).mono ?_
      rintro e w7 ⟨rfl, hx7⟩
      have hx07 := hx06.trans hx7
      have s1 := run_str (P := Try.prog) Try.underlying23 Try.underlying5 Try.underlying9 hown6.bs l.length c6 rfl w7 hx7
      have s2 := run_str (P := Try.prog) Try.underlying23 Try.underlying5 Try.underlying9 hb l.length cb rfl w7 hx07
      clear hown6 hb
      go_wp2
      go_ret
      exact ⟨rfl, hx07⟩
end Go.Proofs.Ytameamfaaenboaa
