/- The walk of deed's live. Condition: that of Check (CheckLaw). -/
import Derived.Test.YtameamfaaenboaaDoorDd16
import Derived.Test.YtameamfaaenboaaDoorDd17
namespace Go.Proofs.YtameamfaaenboaaDoor
open Go.RowKit
def liveD : Dd := ⟨1, [117], [], [], 0, 0, 0, 0, 0, []⟩
def liveU : Us := ⟨[117], 1, [⟨inboxL, 1, 1, []⟩]⟩
theorem live1 : (putAllT [liveD]).2 = 0 ∧ (putAllT [liveD]).1.length = 19 ∧ (putAllT [liveD]).1.take 6 = [1, 1, 1, 117, 0, 0] := by decide +kernel
theorem live2 : (putUsT liveU).2 = 0 ∧ 10 < (putUsT liveU).1.length := by decide +kernel
theorem live3 : foldB [105, 110, 66, 111, 120] = inboxL := by decide +kernel
theorem RsM.one {α : Type} {R : Reading α} {s : Nat} {w : World} {g t : Nat} {cs : Array Value} {x : α} {fr : Nat × Nat} (h : w.heap[g]? = some (.cells cs t fr)) (hs : cs.size = s) (hR : R.says [] w cs.toList x) : RsM R s [] w (some ⟨g, 0, none⟩) [x] := by
  refine ⟨[cs.toList], rfl, by simp [hs], ?_, ?_⟩
  · intro k v hk
    obtain ⟨ad, e, hc⟩ := Sl.row h k v (by simpa using hk)
    exact ⟨ad, e, by simp, hc⟩
  · intro k cs' x' h1 h2
    match k with
    | 0 => simp at h1 h2; subst h1 h2; exact hR
    | k + 1 => simp at h1
theorem OwnDs.one {w : World} {base n c : Nat} {A : Option Addr} {d : Dd} (h : OwnDs w base (.slice A n c) [d]) : ∃ g, A = some ⟨g, 0, none⟩ ∧ w.cell? ⟨g, 1, none⟩ = some (.string (st d.user)) := by
  obtain ⟨css, h1, h2, h3, h4⟩ := h
  obtain ⟨cs, rfl⟩ : ∃ cs, css = [cs] := by
    match css, h1 with
    | [cs], _ => exact ⟨cs, rfl⟩
  obtain ⟨pv, h5, _⟩ := h4 0 cs d rfl rfl
  have hsl := (Sl.own h3 rfl) 1 (.string (st d.user)) (by simp [h5, ddC])
  rcases h3.2 with ⟨e, hn⟩ | ⟨g, cap, cur, e, _⟩
  · exact absurd hn (by simp)
  · injection e with e1 e2 e3
    subst e1
    obtain ⟨ad, e, hc⟩ := hsl
    injection e with e
    subst e
    exact ⟨g, rfl, by simpa [Addr.add] using hc⟩
set_option maxRecDepth 20000 in
set_option maxHeartbeats 4000000 in
theorem dlive_any (HCK : CheckLaw) (w : World) : Calls Tryd.prog 8 #[] w fun e w' => e = .returned (.bool true) ∧ Ext w w' := by
  obtain ⟨w1, hw1⟩ : ∃ w1, w1 = w.alloc (.cells #[.int .i64 1, .string ⟨#[117]⟩, .string ⟨#[]⟩, .string ⟨#[]⟩, .int .i64 0, .int .i64 0, .int .u8 0, .int .i64 0, .int .i64 0, .slice none 0 0] 28) := ⟨_, rfl⟩
  have hx1 : Ext w w1 := by rw [hw1]; exact (Ext.refl w).alloc _
  have hrow1 : w1.heap[w.heap.size]? = some (.cells (ddC liveD (.slice none 0 0)) 28 (0, 0)) := by rw [hw1]; exact heap_alloc_new w _
  have HP := PutAll_any HCK [liveD] (some ⟨w.heap.size, 0, none⟩) 1 w1 (RsM.one hrow1 rfl ⟨none, 0, rfl, SlM.of_sl (Sl.nil _ _), by simp [liveD]⟩) (by simp)
  obtain ⟨l1, l2, l3⟩ := live1
  have HTK := takeAll_put l1
  unfold PutSays at HP
  rw [l1] at HP
  generalize (putAllT [liveD]).1 = lb at *
  have HW1 := Lib.hid hw1
  clear hw1 hrow1
  go_enter Tryd.func8, Tryd.ntmps8
  go_wp2_with fail
  rw [← HW1.out]
  refine HP.mono ?_
  rintro e w2 ⟨hx2, v, rfl, hown⟩
  have hx02 := hx1.trans hx2
  obtain ⟨Ab, cb, rfl⟩ := hown.form
  have HT := TakeAll_any HCK Ab cb lb w2 hown.bs hown.cap.1
  have HB := Lib.hid hown
  clear HP hown hx1 hx2
  unfold TASays at HT
  rw [HTK] at HT
  have L2 := Lib.hid l2
  rw [l2] at HT HB ⊢
  clear l2
  go_wp2_with fail
  refine HT.mono ?_
  rintro e w3 ⟨hx3, v, rfl, hds⟩
  obtain ⟨Ad, cd, rfl⟩ := hds.form
  obtain ⟨gd, rfl, hcd⟩ := hds.one
  have hcd := fun w' (hx' : Ext w3 w') => hx'.cell hcd
  have hx03 := hx02.trans hx3
  clear HT hds
  go_wp2_with (first | (with_reducible refine stop_alloc 42 ?_) | (with_reducible refine stop_store 42 ?_) | (with_reducible refine stop_load 42 ?_))
  obtain ⟨wb, hwb⟩ : ∃ wb, wb = w3.alloc (.cells #[.string ⟨#[73, 78, 66, 79, 88]⟩, .int .i64 1, .int .i64 1, .slice none 0 0] 51) := ⟨_, rfl⟩
  have hxb : Ext w3 wb := by rw [hwb]; exact (Ext.refl w3).alloc _
  have hrowb : wb.heap[w3.heap.size]? = some (.cells (bxC ⟨inboxL, 1, 1, []⟩ (.slice none 0 0)) 51 (0, 0)) := by rw [hwb]; exact heap_alloc_new w3 _
  have hszb : wb.heap.size = w3.heap.size + 1 := by rw [hwb]; simp
  rw [← hwb]
  clear hwb
  refine go_on (wpList_alloc_ rfl rfl user_info ?_)
  go_wp2_with (first | (with_reducible refine stop_alloc 42 ?_) | (with_reducible refine stop_store 42 ?_) | (with_reducible refine stop_load 42 ?_))
  rw [← hszb]
  refine go_on (wpList_store_last (c' := #[.string ⟨#[117]⟩, .int .i64 1, .slice (some ⟨w3.heap.size, 0, none⟩) 1 1]) rfl rfl rfl rfl (by kernel_rfl) rfl (by simp [Value.oneCell']) ?_)
  intro wc hrowC hxc _
  have hrowb' := hxc.obj hrowb
  have HU := PutUser_any liveU (some ⟨w3.heap.size, 0, none⟩) 1 wc (RsM.one hrowb' rfl ⟨none, 0, rfl, RsM.nil _ _ _ _ _⟩) (by simp [liveU]) (by simp [liveU, inboxL])
  obtain ⟨u1, u2⟩ := live2
  unfold PutSays at HU
  rw [u1] at HU
  generalize (putUsT liveU).1 = lu at *
  have hx3c := hxb.trans hxc
  have hx0c := hx03.trans hx3c
  clear hrowb hrowb' hxb hxc hszb
  go_wp2_with (first | (with_reducible refine stop_alloc 42 ?_) | (with_reducible refine stop_store 42 ?_) | (with_reducible refine stop_load 42 ?_))
  refine go_on (wpList_load_row rfl 42 _ rfl _ rfl 42 _ (0, 0) _ hrowC Tryd.underlying42 rfl (by kernel_rfl) ?_)
  clear hrowC
  go_wp2_with fail
  refine HU.mono ?_
  rintro e w4 ⟨hx4, v, rfl, hown⟩
  obtain ⟨Au, cu, rfl⟩ := hown.form
  have hx34 := hx3c.trans hx4
  have hx04 := hx0c.trans hx4
  have hlu : (10 : Int) < (lu.length : Int) := by omega
  have HF := Fold_any [105, 110, 66, 111, 120] w4 (by simp)
  rw [live3] at HF
  obtain ⟨A', hs1, hs2⟩ := cutB_h (P := Tryd.prog) Tryd.underlying26 Tryd.sizeOf5 Ab 19 cb lb 6 (hi := 6) rfl L2.out (by have := HB.out.cap.1; have := L2.out; omega) (by omega)
  have hst := run_str (P := Tryd.prog) Tryd.underlying26 Tryd.underlying5 Tryd.underlying9 (hs2 _ HB.out.bs) 6 cb (by simp [L2.out])
  rw [l3] at hst
  have hst4 := hst w4 (hx3.trans hx34)
  have hcd4 := hcd w4 hx34
  clear hst hs2 hcd hx3 hx34 HU hown hx02 hx03 hx3c hx0c hx4 u1 u2 l1 HTK
  unfold inboxL at HF
  go_wp2_with fail
  refine HF.mono ?_
  rintro e w5 ⟨rfl, hx5⟩
  clear HF hs1 hst4 hcd4
  go_wp2
  go_ret
  exact ⟨rfl, hx04.trans hx5⟩
end Go.Proofs.YtameamfaaenboaaDoor
