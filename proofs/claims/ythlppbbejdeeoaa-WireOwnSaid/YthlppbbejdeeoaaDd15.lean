/- The walk of deed.TakeAll. Conditions: that of Check (CheckLaw), and the bounds named. -/
import Derived.Test.YthlppbbejdeeoaaDd14
namespace Go.Proofs.Ythlppbbejdeeoaa
open Go.RowKit
theorem OwnDs.rsm {w : World} {base n c : Nat} {A : Option Addr} {ds : List Dd} (h : OwnDs w base (.slice A n c) ds) (hok : ∀ d ∈ ds, okD d) : RsM RDd 10 [] w A ds := by
  obtain ⟨css, h1, h2, h3, h4⟩ := h
  refine ⟨css, h1, h2, SlM.own h3 rfl (by simp), fun k cs x a b => ?_⟩
  obtain ⟨pv, h5, h6⟩ := h4 k cs x a b
  obtain ⟨A', c', rfl⟩ := h6.form
  obtain ⟨_, q1, q2, q3, _, _, _, _, q4⟩ := hok x (List.mem_of_getElem? b)
  exact ⟨A', c', h5, BsM.own h6 (by simp), h6.cap.1, by omega, by omega, by omega, by omega⟩
/-- cells of a deed, whatever its bytes -/
def RAny : Reading Dd where
  says _ _ cs d := ∃ A n c, cs = (ddC d (.slice A n c)).toList
  kept := fun h _ => h
  old := fun h _ => h
theorem OwnDs.any {w : World} {base n c : Nat} {A : Option Addr} {ds : List Dd} (h : OwnDs w base (.slice A n c) ds) : RsM RAny 10 [] w A ds := by
  obtain ⟨css, h1, h2, h3, h4⟩ := h
  refine ⟨css, h1, h2, SlM.own h3 rfl (by simp), fun k cs x a b => ?_⟩
  obtain ⟨pv, h5, h6⟩ := h4 k cs x a b
  obtain ⟨A', c', rfl⟩ := h6.form
  exact ⟨A', _, c', h5⟩
theorem OwnDs.len {w : World} {base n c : Nat} {A : Option Addr} {ds : List Dd} (h : OwnDs w base (.slice A n c) ds) : ds.length ≤ 9223372036854775807 := by
  obtain ⟨css, _, _, h3, _⟩ := h
  rcases h3.2 with ⟨e, hn⟩ | ⟨g, cap, cur, e, _, _, hc, hm, _⟩
  · omega
  · exact Nat.le_trans hc hm
theorem VDs.stp {O base g : Nat} {ds : List Dd} {w1 w2 : World} {x : Value} (h : VDs O base ds w1) (hg : w1.heap[g]? = some (.cells #[x] 29 (0, 0))) (hk : Kept [g] w1 w2) : VDs O base ds w2 := by
  obtain ⟨v, h1, h2⟩ := h
  exact ⟨v, hk.heap h1 (by simp; exact obj_ne h1 hg (by decide)), OwnDs.stp h2 (.kept hk (by intro k hk _; simp at hk; subst hk; exact ⟨_, _, _, hg, by decide⟩))⟩
/-- what TakeAll tells -/
def TASays (l : By) (w : World) (e : Ending) (w' : World) : Prop := Ext w w' ∧ match takeAllT l with
  | .inl k => e = .returned (.tuple #[.slice none 0 0, .int .i64 (k : Nat)])
  | .inr ds => ∃ v, e = .returned (.tuple #[v, .int .i64 0]) ∧ OwnDs w' w.heap.size v ds
theorem TASays.no {l : By} {w w' : World} {k : Nat} (h : takeAllT l = .inl k) (hx : Ext w w') : TASays l w (.returned (.tuple #[.slice none 0 0, .int .i64 (k : Nat)])) w' := by
  refine ⟨hx, ?_⟩
  rw [h]
theorem firstC_take {ds : List Dd} {k : Nat} (hk : k < ds.length) : firstC (ds.take (k + 1)) = if firstC (ds.take k) = 0 then checkD ds[k] else firstC (ds.take k) := by
  have e : ds.take (k + 1) = ds.take k ++ [ds[k]] := by rw [List.take_add_one, List.getElem?_eq_getElem hk]; rfl
  have hz : firstC (ds.take k) = 0 ↔ (ds.take k).find? (fun d => decide (checkD d ≠ 0)) = none := by
    constructor
    · intro h
      exact List.find?_eq_none.2 fun d hd => by simp [firstC_of h d hd]
    · intro h
      unfold firstC
      rw [h]
  split
  · rename_i h
    unfold firstC
    rw [e, List.find?_append, hz.1 h]
    simp only [Option.none_or, List.find?_cons, List.find?_nil]
    by_cases h0 : checkD ds[k] = 0
    · simp [h0]
    · simp [h0]
  · rename_i h
    unfold firstC at *
    rw [e, List.find?_append]
    cases hf : (ds.take k).find? (fun d => decide (checkD d ≠ 0)) with
    | none => exact absurd (hz.2 hf) h
    | some x => rfl
theorem okD_all {l : By} {ds : List Dd} (h : readP allP l = .inr ds) : l = putAllB ds ∧ (∀ d ∈ ds, okD d) ∧ 1 ≤ ds.length ∧ ds.length ≤ 12 := by
  unfold readP at h
  cases hp : allP l with
  | inl e => rw [hp] at h; cases h
  | inr q =>
    obtain ⟨a, r⟩ := q
    rw [hp] at h
    simp only at h
    split at h
    · rename_i hr
      cases h
      subst hr
      unfold allP at hp
      obtain ⟨n, l1, h1, h2⟩ := andP_inr hp
      obtain ⟨u, l2, h3, h4⟩ := andP_inr h2
      unfold mustP at h3
      split at h3
      · rename_i hn
        cases h3
        simp only [Bool.and_eq_true, decide_eq_true_eq] at hn
        obtain ⟨e1, e2⟩ := (Rt.num 1).got _ _ _ h1
        obtain ⟨e3, e4, e5⟩ := (Rt.rep Rt.deed n).got _ _ _ h4
        subst e5
        exact ⟨by rw [e1, e3]; simp [putAllB], e4, hn.1, hn.2⟩
      · cases h3
    · cases h
set_option maxRecDepth 20000 in
set_option maxHeartbeats 8000000 in
theorem TakeAll_any (HCK : CheckLaw) (A : Option Addr) (cap : Nat) (l : By) (w : World) (hb : Bs w A l) (hlc : l.length ≤ cap) : Calls Try.prog 34 #[.slice A l.length cap] w (TASays l w) := by
  have hmf : ∀ (fn : Fn) (first cap : Array Value) (w : World), (Instr.makeFunc fn first cap).run Try.prog w = .ok (.func fn first cap) w := fun _ _ _ _ => rfl
  have HP : Hid (takeAllT l = if 1800 < l.length then .inl 6 else match readP allP l with | .inl e => .inl e | .inr ds => if firstC ds ≠ 0 then .inl (firstC ds) else .inr ds) := Lib.hid rfl
  by_cases h18 : (1800 : Int) < (l.length : Int)
  · have HT := Lib.hid (HP.out.trans (if_pos (by omega)))
    clear HP
    go_enter Try.func34, Try.ntmps34
    go_wp2
    go_ret2
    exact TASays.no HT.out (Ext.refl w)
  have HT := Lib.hid (HP.out.trans (if_neg (by omega)))
  clear HP
  obtain ⟨wa, hwa⟩ : ∃ wa, wa = w.alloc (.cells #[.slice none 0 0] 26) := ⟨_, rfl⟩
  have hxa : Ext w wa := by rw [hwa]; exact (Ext.refl w).alloc _
  have hOa : wa.heap[w.heap.size]? = some (.cells #[.slice none 0 0] 26 (0, 0)) := by rw [hwa]; exact heap_alloc_new w _
  have hsz : wa.heap.size = w.heap.size + 1 := by rw [hwa]; simp
  have HWA := Lib.hid hwa
  have HRD := read_any allP 45 w.heap.size (VDs w.heap.size w.heap.size) (fun w' => ∃ ds, VDs w.heap.size w.heap.size ds w') w wa A cap l hxa hb hlc (by omega) (Nat.le_refl _) call_TakeAll1
    (fun w1 R hx1 hR hr => TakeAll1_any w w1 R w.heap.size l hr (by omega) (hx1.obj hOa) (Nat.le_refl _) (by omega))
    (fun a w1 w2 g x h1 h2 h3 => h1.stp h2 h3) (fun w1 w2 g x h1 h2 h3 => by obtain ⟨ds, h⟩ := h1; exact ⟨ds, h.stp h2 h3⟩) (fun a w1 h => ⟨a, h⟩)
  clear hwa hsz hOa hb
  unfold pt at HRD
  go_enter Try.func34, Try.ntmps34
  go_wp2_with fail
  rw [← HWA.out]
  refine HRD.mono ?_
  intro e w1 hq
  clear HRD
  unfold ReadSays at hq
  cases hp : readP allP l with
  | inl k =>
    rw [hp] at hq
    obtain ⟨rfl, hk, hx, ds, v, hOv, hds⟩ := hq
    have HT2 : Hid (takeAllT l = .inl k) := Lib.hid (by rw [HT.out, hp])
    have k1 : (((k : Nat) : Int) == 0) = false := by simpa using Nz.all.read hp
    obtain ⟨Av, cv, rfl⟩ := hds.form
    have hany := hds.any
    have hdl := hds.len
    obtain ⟨CO, _⟩ := row1_cell hOv
    clear HT hp hOv hds hk
    go_wp2
    go_loopw [5, 16] (fun ev iv wr => ∃ j : Nat, ev = .int .i64 (k : Nat) ∧ iv = .int .i64 j ∧ j ≤ ds.length ∧ Ext w1 wr) (fun _ iv _ => ds.length - (intOf iv).toNat)
    case atStart => exact ⟨0, rfl, rfl, by omega, Ext.refl _⟩
    case round =>
      obtain ⟨j, rfl, rfl, hj, hx1⟩ := hrel
      by_cases hlt : j < ds.length
      · obtain ⟨ad, cs, hA, had, hcs, hcell, A2, n2, c2, hcs2⟩ := hany.at_ (by omega) hlt
        subst hA hcs2
        have hlt2 : (j : Int) < ds.length := by omega
        have hcl := fun i v hj => hx1.cell (show w1.cell? ((ad.add (j * 10)).add i) = some v by rw [add_addB]; exact hcell i v hj)
        clear hcell had hcs
        generalize ds[j] = dd at *
        unfold ddC at hcl
        go_wp2_with (first | (with_reducible refine stop_alloc 48 ?_) | (with_reducible refine stop_store 48 ?_) | (with_reducible refine stop_load 48 ?_))
        refine go_on (wpList_load_elem rfl 48 _ rfl (ad.add (j * 10)) rfl _ _ hcl Try.underlying48 rfl (by kernel_rfl) ?_)
        go_wp2_with (first | (with_reducible refine stop_alloc 48 ?_) | (with_reducible refine stop_store 48 ?_) | (with_reducible refine stop_load 48 ?_))
        refine go_on (wpList_alloc_ rfl rfl deed_info ?_)
        go_wp2_with (first | (with_reducible refine stop_alloc 48 ?_) | (with_reducible refine stop_store 48 ?_) | (with_reducible refine stop_load 48 ?_))
        refine go_on (wpList_store_last rfl rfl rfl rfl (by kernel_rfl) rfl (by simp [Value.oneCell']) ?_)
        intro wb hrowB hxb _
        have hx1b := hx1.trans hxb
        clear hcl hx1 hrowB hxb
        go_wp2
        go_roundw
        case rel => exact ⟨j + 1, rfl, by go_num, by omega, hx1b⟩
        case measure => simp [intOf]; omega
      · have hlt2 : ¬ (j : Int) < ds.length := by omega
        clear hany CO
        go_wp2
        go_ret2
        exact TASays.no HT2.out (hx.trans hx1)
  | inr ds =>
    rw [hp] at hq
    obtain ⟨rfl, ⟨v, hOv, hds⟩, hk, hx⟩ := hq
    obtain ⟨hput, hokD, hn1, hn12⟩ := okD_all hp
    have HT2 : Hid (takeAllT l = if firstC ds ≠ 0 then .inl (firstC ds) else .inr ds) := Lib.hid (by rw [HT.out, hp])
    obtain ⟨Av, cv, rfl⟩ := hds.form
    have hany := hds.rsm hokD
    have HDS := Lib.hid hds
    obtain ⟨CO, _⟩ := row1_cell hOv
    clear HT hp hds hk hput
    go_wp2
    go_loopw [5, 16] (fun ev iv wr => ∃ j : Nat, ev = .int .i64 (firstC (ds.take j) : Nat) ∧ iv = .int .i64 j ∧ j ≤ ds.length ∧ Ext w1 wr) (fun _ iv _ => ds.length - (intOf iv).toNat)
    case atStart => exact ⟨0, by simp [firstC], rfl, by omega, Ext.refl _⟩
    case round =>
      obtain ⟨j, rfl, rfl, hj, hx1⟩ := hrel
      by_cases hlt : j < ds.length
      · obtain ⟨ad, cs, hA, had, hcs, hcell, A2, cap2, hcs2, hby, hc2, hb1, hb2, hb3, hb4⟩ := hany.at_ (by omega) hlt
        subst hA hcs2
        have hlt2 : (j : Int) < ds.length := by omega
        have hcl := fun i v hj => hx1.cell (show w1.cell? ((ad.add (j * 10)).add i) = some v by rw [add_addB]; exact hcell i v hj)
        have HFT := Lib.hid (firstC_take hlt)
        have hCK := fun w' (hx' : Ext w1 w') => HCK ds[j] A2 cap2 w' (hby.bs.ext hx') hc2 hb1 (by omega) (by omega) (by omega)
        clear hcell had hcs hby hc2 hb1 hb2 hb3 hb4
        generalize ds[j] = dd at *
        unfold ddC at hcl hCK
        go_wp2_with (first | (with_reducible refine stop_alloc 48 ?_) | (with_reducible refine stop_store 48 ?_) | (with_reducible refine stop_load 48 ?_))
        refine go_on (wpList_load_elem rfl 48 _ rfl (ad.add (j * 10)) rfl _ _ hcl Try.underlying48 rfl (by kernel_rfl) ?_)
        go_wp2_with (first | (with_reducible refine stop_alloc 48 ?_) | (with_reducible refine stop_store 48 ?_) | (with_reducible refine stop_load 48 ?_))
        refine go_on (wpList_alloc_ rfl rfl deed_info ?_)
        go_wp2_with (first | (with_reducible refine stop_alloc 48 ?_) | (with_reducible refine stop_store 48 ?_) | (with_reducible refine stop_load 48 ?_))
        refine go_on (wpList_store_last rfl rfl rfl rfl (by kernel_rfl) rfl (by simp [Value.oneCell']) ?_)
        intro wb hrowB hxb _
        have hx1b := hx1.trans hxb
        clear hcl hx1 hxb
        by_cases hf : firstC (ds.take j) = 0
        · have HFT2 := Lib.hid (HFT.out.trans (if_pos hf))
          rw [hf]
          clear hf HFT
          go_wp2_with (first | (with_reducible refine stop_alloc 48 ?_) | (with_reducible refine stop_store 48 ?_) | (with_reducible refine stop_load 48 ?_))
          refine go_on (wpList_load_row rfl 48 _ rfl wr.heap.size rfl 48 _ (0, 0) _ hrowB Try.underlying48 rfl (by kernel_rfl) ?_)
          go_wp2_with fail
          refine (hCK wb hx1b).mono ?_
          rintro e w2 ⟨rfl, hx2⟩
          have hx12 := hx1b.trans hx2
          clear hCK hrowB hx1b hx2
          rw [← HFT2.out]
          go_wp2
          go_roundw
          case rel => exact ⟨j + 1, rfl, by go_num, by omega, hx12⟩
          case measure => simp [intOf]; omega
        · have HFT2 := Lib.hid (HFT.out.trans (if_neg hf))
          have k1 : (((firstC (ds.take j) : Nat) : Int) == 0) = false := by simpa using hf
          clear hf HFT hCK hrowB
          go_wp2
          go_roundw
          case rel => exact ⟨j + 1, by rw [HFT2.out], by go_num, by omega, hx1b⟩
          case measure => simp [intOf]; omega
      · have hlt2 : ¬ (j : Int) < ds.length := by omega
        obtain rfl : j = ds.length := by omega
        rw [List.take_length]
        clear hany hlt
        have CO' := fun w' (hx' : Ext wr w') => CO w' (hx1.trans hx')
        clear CO
        by_cases hf : firstC ds = 0
        · have HT3 := Lib.hid (HT2.out.trans (if_neg (by simpa using hf)))
          rw [hf]
          clear hf HT2
          go_wp2
          go_ret2
          refine ⟨hx.trans hx1, ?_⟩
          rw [HT3.out]
          exact ⟨_, rfl, OwnDs.stp HDS.out (.of_ext hx1)⟩
        · have HT3 := Lib.hid (HT2.out.trans (if_pos hf))
          have k1 : (((firstC ds : Nat) : Int) == 0) = false := by simpa using hf
          generalize firstC ds = z at *
          clear hf HT2
          go_wp2
          go_ret2
          exact TASays.no HT3.out (hx.trans hx1)
end Go.Proofs.Ythlppbbejdeeoaa
