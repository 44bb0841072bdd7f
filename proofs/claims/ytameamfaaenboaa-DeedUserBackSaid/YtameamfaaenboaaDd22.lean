/- The walk of the law DeedUserBack. Condition: that of Check (CheckLaw). -/
import Derived.Test.YtameamfaaenboaaDd19
import Derived.Test.YtameamfaaenboaaDd21
import Derived.Test.YtameamfaaenboaaDdRow
namespace Go.Proofs.Ytameamfaaenboaa
open Go.RowKit
theorem takeUs_okU {l : By} {u : Us} (h : takeUs l = .inr u) : okU u := checkU_okU (takeUs_ok h).2
theorem putUs_z : putUsT ⟨[], 0, []⟩ = ([], 4) := by decide +kernel
set_option maxRecDepth 20000 in
set_option maxHeartbeats 4000000 in
theorem DeedUserBack_any (HCK : CheckLaw) (u : Us) (A : Option Addr) (c : Nat) (l : By) (B : Option Addr) (cb : Nat) (w : World) (h : RsM RBx2 4 [] w A u.boxes) (hl : u.boxes.length ≤ 140737488351232) (hn : u.name.length ≤ 140737488351232) (hb : Bs w B l) (hlc : l.length ≤ cb) (hl2 : l.length ≤ 140737488351232) :
    Calls Try.prog 4 #[.agg (usC u (.slice A u.boxes.length c)), .slice B l.length cb] w (Yes w) := by
  obtain ⟨wa, hwa⟩ : ∃ wa, wa = w.alloc (.cells (usC u (.slice A u.boxes.length c)) 34) := ⟨_, rfl⟩
  have hxa : Ext w wa := by rw [hwa]; exact (Ext.refl w).alloc _
  have hrow : wa.heap[w.heap.size]? = some (.cells (usC u (.slice A u.boxes.length c)) 34 (0, 0)) := by rw [hwa]; exact heap_alloc_new w _
  have hbx := RBx2.weak h
  have hnm := RBx2.names h
  have HP := PutUser_any u A c wa (hbx.kept (.of_ext hxa)) (by omega) hnm
  have HWA := Lib.hid hwa
  clear hwa h
  go_enter Try.func4, Try.ntmps4
  go_wp2_with (first | (with_reducible refine stop_alloc 34 ?_) | (with_reducible refine stop_store 34 ?_) | (with_reducible refine stop_load 34 ?_))
  rw [← HWA.out]
  refine go_on (wpList_load_row rfl 34 _ rfl w.heap.size rfl 34 _ (0, 0) _ hrow Try.underlying34 rfl (by kernel_rfl) ?_)
  go_wp2_with (first | (with_reducible refine stop_alloc 34 ?_) | (with_reducible refine stop_store 34 ?_) | (with_reducible refine stop_load 34 ?_))
  refine HP.mono ?_
  rintro e w1 ⟨hx1, v1, rfl, hown1⟩
  have hrow1 := hx1.obj hrow
  have hx01 := hxa.trans hx1
  clear HP hrow hx1
  by_cases h0 : (putUsT u).2 = 0
  · obtain ⟨hTK, hlen, hck⟩ := takeUs_putT h0
    have hokU := checkU_okU hck
    rw [h0]
    generalize (putUsT u).1 = lb at *
    obtain ⟨A1, c1, rfl⟩ := hown1.form
    have HT := TakeUser_any A1 c1 lb w1 hown1.bs hown1.cap.1 (by omega)
    unfold TUSays at HT
    rw [hTK] at HT
    clear hTK h0 hown1 hck
    go_wp2_with (first | (with_reducible refine stop_alloc 34 ?_) | (with_reducible refine stop_store 34 ?_) | (with_reducible refine stop_load 34 ?_))
    refine HT.mono ?_
    rintro e w2 ⟨hx2, v2, rfl, hds⟩
    obtain ⟨A2, c2, rfl⟩ := hds.form
    have hrow2 := hx2.obj hrow1
    have hx02 := hx01.trans hx2
    clear HT hx2 hrow1 hx01
    have hnu : (u.boxes).length ≤ 140737488351232 := hl
    have HS := fun W (hx : Ext w2 W) => SameUser_any u A A2 c c2 W (hbx.kept (.of_ext (hx02.trans hx))) (hds.rsm.kept (.of_ext hx)) hl (fun b hb => by have := (hokU.2.2.2 b hb).2.2.2.1; omega)
    have hlen2 : ¬ (1700 : Int) < (lb.length : Int) := by omega
    clear hds hokU hlen hbx hnm hn hl
    go_wp2_with (first | (with_reducible refine stop_alloc 34 ?_) | (with_reducible refine stop_store 34 ?_) | (with_reducible refine stop_load 34 ?_))
    refine go_on (wpList_alloc_ rfl rfl user_info ?_)
    go_wp2_with (first | (with_reducible refine stop_alloc 34 ?_) | (with_reducible refine stop_store 34 ?_) | (with_reducible refine stop_load 34 ?_))
    refine go_on (wpList_store_last (c' := usC u (.slice A2 u.boxes.length c2)) rfl rfl rfl rfl (by kernel_rfl) rfl (by simp [usC, Value.oneCell']) ?_)
    intro wc hrowC hxc _
    have hrow3 := hxc.obj hrow2
    have hx0c := hx02.trans hxc
    go_wp2_with (first | (with_reducible refine stop_alloc 34 ?_) | (with_reducible refine stop_store 34 ?_) | (with_reducible refine stop_load 34 ?_))
    refine go_on (wpList_load_rowG (by rfl) 34 _ rfl w.heap.size rfl 34 _ (0, 0) _ hrow3 Try.underlying34 rfl (by kernel_rfl) ?_)
    go_wp2_with (first | (with_reducible refine stop_alloc 34 ?_) | (with_reducible refine stop_store 34 ?_) | (with_reducible refine stop_load 34 ?_))
    refine go_on (wpList_load_rowG (by rfl) 34 _ rfl w2.heap.size rfl 34 _ (0, 0) _ hrowC Try.underlying34 rfl (by kernel_rfl) ?_)
    have HS2 := HS wc hxc
    clear HS hrow3 hrowC hxc hrow2
    go_wp2_with fail
    refine HS2.mono ?_
    rintro e w4 ⟨rfl, hx4⟩
    have hx04 := hx0c.trans hx4
    clear HS2 hx0c hx4
    have HT2 := TakeUser_any B cb l w4 (hb.ext hx04) hlc hl2
    go_wp2_with (first | (with_reducible refine stop_alloc 34 ?_) | (with_reducible refine stop_store 34 ?_) | (with_reducible refine stop_load 34 ?_))
    refine HT2.mono ?_
    rintro e w5 ⟨hx5, hq⟩
    have hx05 := Ext.trans hx04 hx5
    clear HT2
    cases htk : takeUs l with
    | inl k =>
      rw [htk] at hq
      obtain rfl := hq
      have k1 : (((k : Nat) : Int) == 0) = false := by simpa using takeUs_pos htk
      have k2 : ¬ k = 0 := takeUs_pos htk
      clear htk hb
      have HU := fun W => PutUser_any ⟨[], 0, []⟩ none 0 W (RsM.nil _ _ _ _ _) (by simp) (by simp)
      rw [putUs_z] at HU
      go_wp2_with (first | (with_reducible refine stop_alloc 34 ?_) | (with_reducible refine stop_store 34 ?_) | (with_reducible refine stop_load 34 ?_))
      refine go_on (wpList_alloc_ rfl rfl user_info ?_)
      go_wp2_with (first | (with_reducible refine stop_alloc 34 ?_) | (with_reducible refine stop_store 34 ?_) | (with_reducible refine stop_load 34 ?_))
      refine go_on (wpList_store_last (c' := zUser) rfl rfl rfl rfl (by kernel_rfl) rfl (by simp [zUser, Value.oneCell']) ?_)
      intro wc hrowC hxc _
      have hx0c := hx05.trans hxc
      go_wp2_with (first | (with_reducible refine stop_alloc 34 ?_) | (with_reducible refine stop_store 34 ?_) | (with_reducible refine stop_load 34 ?_))
      refine go_on (wpList_load_row rfl 34 _ rfl _ rfl 34 _ (0, 0) _ hrowC Try.underlying34 rfl (by kernel_rfl) ?_)
      unfold zUser
      have HU2 := HU wc
      unfold usC at HU2
      clear hrowC HU hxc hx5
      go_wp2_with fail
      refine HU2.mono ?_
      rintro e w6 ⟨hx6, v6, rfl, hown6⟩
      have hx06 := hx0c.trans hx6
      clear HU2 hown6
      go_wp2_with fail
      refine (dlive_any HCK w6).mono ?_
      rintro e w7 ⟨rfl, hx7⟩
      have hx07 := hx06.trans hx7
      go_wp2
      go_ret
      exact ⟨rfl, hx07⟩
    | inr y =>
      rw [htk] at hq
      obtain ⟨v, rfl, hown⟩ := hq
      obtain ⟨A5, c5, rfl⟩ := hown.form
      have hoky := takeUs_okU htk
      have HU := fun W (hx : Ext w5 W) => PutUser_any y A5 c5 W (hown.rsm.kept (.of_ext hx)) (by have := hoky.1; omega) (fun b hb => by have := (hoky.2.2.2 b hb).1; omega)
      rw [putUs_take htk] at HU
      clear htk hown hoky
      go_wp2_with (first | (with_reducible refine stop_alloc 34 ?_) | (with_reducible refine stop_store 34 ?_) | (with_reducible refine stop_load 34 ?_))
      refine go_on (wpList_alloc_ rfl rfl user_info ?_)
      go_wp2_with (first | (with_reducible refine stop_alloc 34 ?_) | (with_reducible refine stop_store 34 ?_) | (with_reducible refine stop_load 34 ?_))
      refine go_on (wpList_store_last (c' := usC y (.slice A5 y.boxes.length c5)) rfl rfl rfl rfl (by kernel_rfl) rfl (by simp [usC, Value.oneCell']) ?_)
      intro wc hrowC hxc _
      have hx0c := hx05.trans hxc
      go_wp2_with (first | (with_reducible refine stop_alloc 34 ?_) | (with_reducible refine stop_store 34 ?_) | (with_reducible refine stop_load 34 ?_))
      refine go_on (wpList_load_row rfl 34 _ rfl _ rfl 34 _ (0, 0) _ hrowC Try.underlying34 rfl (by kernel_rfl) ?_)
      have HU2 := HU wc hxc
      clear hrowC HU hxc hx5
      go_wp2_with fail
      refine HU2.mono ?_
      rintro e w6 ⟨hx6, v6, rfl, hown6⟩
      have hx06 := hx0c.trans hx6
      obtain ⟨A6, c6, rfl⟩ := hown6.form
      clear HU2
      go_wp2_with fail
      refine (dlive_any HCK w6).mono ?_
      rintro e w7 ⟨rfl, hx7⟩
      have hx07 := hx06.trans hx7
      have s1 := run_str (P := Try.prog) Try.underlying23 Try.underlying5 Try.underlying9 hown6.bs l.length c6 rfl w7 hx7
      have s2 := run_str (P := Try.prog) Try.underlying23 Try.underlying5 Try.underlying9 hb l.length cb rfl w7 hx07
      clear hown6 hb
      go_wp2
      go_ret
      exact ⟨rfl, hx07⟩
  · have k0 : (((putUsT u).2 : Int) == 0) = false := by simpa using h0
    generalize (putUsT u).2 = z at *
    clear h0 hown1 hbx hnm
    have HT2 := TakeUser_any B cb l w1 (hb.ext hx01) hlc hl2
    go_wp2_with (first | (with_reducible refine stop_alloc 34 ?_) | (with_reducible refine stop_store 34 ?_) | (with_reducible refine stop_load 34 ?_))
    refine HT2.mono ?_
    rintro e w5 ⟨hx5, hq⟩
    have hx05 := Ext.trans hx01 hx5
    clear HT2
    cases htk : takeUs l with
    | inl k =>
      rw [htk] at hq
      obtain rfl := hq
      have k1 : (((k : Nat) : Int) == 0) = false := by simpa using takeUs_pos htk
      have k2 : ¬ k = 0 := takeUs_pos htk
      clear htk hb
      have HU := fun W => PutUser_any ⟨[], 0, []⟩ none 0 W (RsM.nil _ _ _ _ _) (by simp) (by simp)
      rw [putUs_z] at HU
      go_wp2_with (first | (with_reducible refine stop_alloc 34 ?_) | (with_reducible refine stop_store 34 ?_) | (with_reducible refine stop_load 34 ?_))
      refine go_on (wpList_alloc_ rfl rfl user_info ?_)
      go_wp2_with (first | (with_reducible refine stop_alloc 34 ?_) | (with_reducible refine stop_store 34 ?_) | (with_reducible refine stop_load 34 ?_))
      refine go_on (wpList_store_last (c' := zUser) rfl rfl rfl rfl (by kernel_rfl) rfl (by simp [zUser, Value.oneCell']) ?_)
      intro wc hrowC hxc _
      have hx0c := hx05.trans hxc
      go_wp2_with (first | (with_reducible refine stop_alloc 34 ?_) | (with_reducible refine stop_store 34 ?_) | (with_reducible refine stop_load 34 ?_))
      refine go_on (wpList_load_row rfl 34 _ rfl _ rfl 34 _ (0, 0) _ hrowC Try.underlying34 rfl (by kernel_rfl) ?_)
      unfold zUser
      have HU2 := HU wc
      unfold usC at HU2
      clear hrowC HU hxc hx5
      go_wp2_with fail
      refine HU2.mono ?_
      rintro e w6 ⟨hx6, v6, rfl, hown6⟩
      have hx06 := hx0c.trans hx6
      clear HU2 hown6
      go_wp2_with fail
      refine (dlive_any HCK w6).mono ?_
      rintro e w7 ⟨rfl, hx7⟩
      have hx07 := hx06.trans hx7
      go_wp2
      go_ret
      exact ⟨rfl, hx07⟩
    | inr y =>
      rw [htk] at hq
      obtain ⟨v, rfl, hown⟩ := hq
      obtain ⟨A5, c5, rfl⟩ := hown.form
      have hoky := takeUs_okU htk
      have HU := fun W (hx : Ext w5 W) => PutUser_any y A5 c5 W (hown.rsm.kept (.of_ext hx)) (by have := hoky.1; omega) (fun b hb => by have := (hoky.2.2.2 b hb).1; omega)
      rw [putUs_take htk] at HU
      clear htk hown hoky
      go_wp2_with (first | (with_reducible refine stop_alloc 34 ?_) | (with_reducible refine stop_store 34 ?_) | (with_reducible refine stop_load 34 ?_))
      refine go_on (wpList_alloc_ rfl rfl user_info ?_)
      go_wp2_with (first | (with_reducible refine stop_alloc 34 ?_) | (with_reducible refine stop_store 34 ?_) | (with_reducible refine stop_load 34 ?_))
      refine go_on (wpList_store_last (c' := usC y (.slice A5 y.boxes.length c5)) rfl rfl rfl rfl (by kernel_rfl) rfl (by simp [usC, Value.oneCell']) ?_)
      intro wc hrowC hxc _
      have hx0c := hx05.trans hxc
      go_wp2_with (first | (with_reducible refine stop_alloc 34 ?_) | (with_reducible refine stop_store 34 ?_) | (with_reducible refine stop_load 34 ?_))
      refine go_on (wpList_load_row rfl 34 _ rfl _ rfl 34 _ (0, 0) _ hrowC Try.underlying34 rfl (by kernel_rfl) ?_)
      have HU2 := HU wc hxc
      clear hrowC HU hxc hx5
      go_wp2_with fail
      refine HU2.mono ?_
      rintro e w6 ⟨hx6, v6, rfl, hown6⟩
      have hx06 := hx0c.trans hx6
      obtain ⟨A6, c6, rfl⟩ := hown6.form
      clear HU2
      go_wp2_with fail
      refine (dlive_any HCK w6).mono ?_
      rintro e w7 ⟨rfl, hx7⟩
      have hx07 := hx06.trans hx7
      have s1 := run_str (P := Try.prog) Try.underlying23 Try.underlying5 Try.underlying9 hown6.bs l.length c6 rfl w7 hx7
      have s2 := run_str (P := Try.prog) Try.underlying23 Try.underlying5 Try.underlying9 hb l.length cb rfl w7 hx07
      clear hown6 hb
      go_wp2
      go_ret
      exact ⟨rfl, hx07⟩
end Go.Proofs.Ytameamfaaenboaa
