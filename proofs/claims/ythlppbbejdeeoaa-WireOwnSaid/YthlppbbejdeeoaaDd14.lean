/- The walk of deed.PutAll. Conditions: that of Check (CheckLaw), and the bounds named. -/
import Derived.Test.YthlppbbejdeeoaaDd13
import Derived.Test.YthlppbbejdeeoaaStep
namespace Go.Proofs.Ythlppbbejdeeoaa
open Go.RowKit
/-- what the walk of Check shows -/
def CheckLaw : Prop := ∀ (d : Dd) (A : Option Addr) (cap : Nat) (w : World), Bs w A d.bytes → d.bytes.length ≤ cap → d.bytes.length ≤ 140737488351232 → d.user.length ≤ 140737488355328 → d.box.length ≤ 140737488355328 → d.dest.length ≤ 140737488355328 →
    Calls Try.prog 39 #[.agg (ddC d (.slice A d.bytes.length cap))] w fun e w' => e = .returned (.int .i64 (checkD d : Nat)) ∧ Ext w w'
/-- bytes of the call's own, or why there are none -/
def PutSays (r : By × Nat) (w : World) (e : Ending) (w' : World) : Prop := Ext w w' ∧ ∃ v, e = .returned (.tuple #[v, .int .i64 (r.2 : Nat)]) ∧ Own w' w.heap.size v r.1
theorem PutSays.none {r : By × Nat} {w w' : World} {k : Nat} (hr : r = ([], k)) (hx : Ext w w') : PutSays r w (.returned (.tuple #[.slice none 0 0, .int .i64 (k : Nat)])) w' := by
  subst hr
  exact ⟨hx, _, rfl, Own.nil _ _⟩
theorem flat_len (ds : List Dd) (h : ∀ d ∈ ds, checkD d = 0) : (ds.flatMap putD).length ≤ 2000 * ds.length := by
  induction ds with
  | nil => simp
  | cons d ds ih =>
    have h1 := putD_len (h d (.head _))
    have h2 := ih fun x hx => h x (.tail _ hx)
    simp only [List.flatMap_cons, List.length_append, List.length_cons]
    omega
theorem firstC_ok {ds : List Dd} (h : ∀ d ∈ ds, checkD d = 0) : firstC ds = 0 := by
  unfold firstC
  have : ds.find? (fun d => decide (checkD d ≠ 0)) = none := List.find?_eq_none.2 fun d hd => by simp [h d hd]
  rw [this]
theorem firstC_of {ds : List Dd} (h : firstC ds = 0) : ∀ d ∈ ds, checkD d = 0 := by
  intro d hd
  unfold firstC at h
  cases hf : ds.find? (fun d => decide (checkD d ≠ 0)) with
  | none =>
    have := List.find?_eq_none.1 hf d hd
    simpa using this
  | some x =>
    rw [hf] at h
    have := List.find?_some hf
    simp at this
    exact absurd h this
theorem firstC_at {ds : List Dd} {k : Nat} (hk : k < ds.length) (h : ∀ d ∈ ds.take k, checkD d = 0) (h0 : checkD ds[k] ≠ 0) : firstC ds = checkD ds[k] := by
  unfold firstC
  have h1 : ds.find? (fun d => decide (checkD d ≠ 0)) = some ds[k] := by
    rw [List.find?_eq_some_iff_append]
    refine ⟨by simpa using h0, ds.take k, ds.drop (k + 1), ?_, fun a ha => by simp [h a ha]⟩
    rw [← List.drop_eq_getElem_cons hk, List.take_append_drop]
  rw [h1]
theorem row_s {ts : List Nat} {w : World} {p t : Nat} {cs : Array Value} {fr : Nat × Nat} (h : w.heap[p]? = some (.cells cs t fr)) (ht : t ∈ ts) (j : Nat) (v : Value) (hv : cs[j]? = some v) : ∀ w', Stp ts w w' → w'.cell? ⟨p, j, none⟩ = some v := fun w' hx => by
  rw [cell_of_row w' p j _ _ _ (hx.2 _ _ _ _ h ht), hv]
set_option maxRecDepth 20000 in
set_option maxHeartbeats 8000000 in
theorem PutAll_any (HCK : CheckLaw) (ds : List Dd) (A : Option Addr) (cap : Nat) (w : World) (h : RsM RDd 10 [] w A ds) (hlen : ds.length ≤ 140737488351232) :
    Calls Try.prog 24 #[.slice A ds.length cap] w (PutSays (putAllT ds) w) := by
  have HN0 := numS_any w w (.slice none 0 0) [] ds.length 1 (Ext.refl w) (Own.nil _ _) (by simp) (by omega)
  rw [List.nil_append] at HN0
  have HP : Hid (putAllT ds = if ds.length = 0 then ([], 2) else if 12 < ds.length then ([], 6) else if firstC ds ≠ 0 then ([], firstC ds) else if 1800 < (putAllB ds).length then ([], 6) else (putAllB ds, 0)) := Lib.hid rfl
  have hmf : ∀ d ∈ ds, True := fun _ _ => trivial
  clear hmf
  go_enter Try.func24, Try.ntmps24
  by_cases h0 : ds.length = 0
  · have k0 : ((ds.length : Int) == 0) = true := by simp [h0]
    have HB := Lib.hid (HP.out.trans (if_pos h0))
    clear h0 HP HN0
    go_wp2
    go_ret2
    exact PutSays.none HB.out (Ext.refl w)
  · have k0 : ((ds.length : Int) == 0) = false := by simpa using h0
    have HP2 := Lib.hid (HP.out.trans (if_neg h0))
    clear h0 HP
    by_cases h12 : (12 : Int) < (ds.length : Int)
    · have HB := Lib.hid (HP2.out.trans (if_pos (by omega)))
      clear HP2 HN0
      go_wp2
      go_ret2
      exact PutSays.none HB.out (Ext.refl w)
    · have HP3 := Lib.hid (HP2.out.trans (if_neg (by omega)))
      clear HP2
      go_wp2_with fail
      refine HN0.mono ?_
      rintro e w1 ⟨b1, rfl, hlay⟩
      clear HN0
      go_wp2
      go_loopw [4, 21] (fun xb iv wr => ∃ k : Nat, iv = .int .i64 k ∧ k ≤ ds.length ∧ (∀ d ∈ ds.take k, checkD d = 0) ∧ Lay w w (beN 1 ds.length ++ (ds.take k).flatMap putD) wr xb) (fun _ iv _ => ds.length - (intOf iv).toNat)
      case atStart => exact ⟨0, rfl, by omega, by simp, by simpa using hlay⟩
      case round =>
        clear hlay
        obtain ⟨k, rfl, hk, hok, hlay⟩ := hrel
        have hx := hlay.x
        have hflat := flat_len _ hok
        simp only [List.length_take] at hflat
        by_cases hlt : k < ds.length
        · obtain ⟨ad, cs, hA, had, hcs, hcell, A2, cap2, hcs2, hby, hc2, hb1, hb2, hb3, hb4⟩ := h.at_ (by omega) hlt
          subst hA hcs2
          have hlt2 : (k : Int) < ds.length := by omega
          have hcl := fun j v hj => hx.cell (show w.cell? ((ad.add (k * 10)).add j) = some v by rw [add_addB]; exact hcell j v hj)
          have hFC := Lib.hid (fun h0 => firstC_at hlt hok h0)
          have hTK : Hid (ds.take (k + 1) = ds.take k ++ [ds[k]]) := Lib.hid (by rw [List.take_add_one, List.getElem?_eq_getElem hlt]; rfl)
          have hCK := fun w' (hx' : Ext w w') => HCK ds[k] A2 cap2 w' (hby.bs.ext hx') hc2 hb1 (by omega) (by omega) (by omega)
          have hLB := fun w' (hx' : Ext w w') => hby.bs.ext hx'
          clear hcs hcell hby had
          generalize ds[k] = dd at *
          obtain ⟨dw, du, db, dt, di, dh, df, dsh, de, dby⟩ := dd
          unfold ddC at hCK hcl
          simp only at hcl hCK hLB hc2 hb1 hb2 hb3 hb4
          go_wp2_with (first | (with_reducible refine stop_alloc 48 ?_) | (with_reducible refine stop_store 48 ?_) | (with_reducible refine stop_load 48 ?_))
          refine go_on (wpList_load_elem rfl 48 _ rfl (ad.add (k * 10)) rfl _ _ hcl Try.underlying48 rfl (by kernel_rfl) ?_)
          go_wp2_with (first | (with_reducible refine stop_alloc 48 ?_) | (with_reducible refine stop_store 48 ?_) | (with_reducible refine stop_load 48 ?_))
          refine go_on (wpList_alloc_ rfl rfl deed_info ?_)
          go_wp2_with (first | (with_reducible refine stop_alloc 48 ?_) | (with_reducible refine stop_store 48 ?_) | (with_reducible refine stop_load 48 ?_))
          refine go_on (wpList_store_last rfl rfl rfl rfl (by kernel_rfl) rfl (by simp [Value.oneCell']) ?_)
          intro wb hrowB hxb _
          go_wp2_with (first | (with_reducible refine stop_alloc 48 ?_) | (with_reducible refine stop_store 48 ?_) | (with_reducible refine stop_load 48 ?_))
          refine go_on (wpList_load_row rfl 48 _ rfl wr.heap.size rfl 48 _ (0, 0) _ hrowB Try.underlying48 rfl (by kernel_rfl) ?_)
          have hlayb : Lay w w (beN 1 ds.length ++ (ds.take k).flatMap putD) wb _ := ⟨hlay.o.ext hxb, hx.trans hxb, fun ts ht => (hlay.s ts ht).trans (.of_ext hxb)⟩
          clear hcl hlay hx
          go_wp2_with fail
          refine (hCK wb hlayb.x).mono ?_
          rintro e w2 ⟨rfl, hx2⟩
          have hrow2 := hx2.obj hrowB
          have hlay2 : Lay w w (beN 1 ds.length ++ (ds.take k).flatMap putD) w2 _ := ⟨hlayb.o.ext hx2, hlayb.x.trans hx2, fun ts ht => (hlayb.s ts ht).trans (.of_ext hx2)⟩
          clear hrowB hlayb hxb hx2 hCK
          by_cases hc0 : checkD ⟨dw, du, db, dt, di, dh, df, dsh, de, dby⟩ = 0
          · obtain ⟨hd1, hd2, hd3, hd4, hd5, ⟨o1, o2, o3, o4, o5, o6, o7, o8, o9⟩, hd7, hd8⟩ := checkD_ok hc0
            simp only at hd1 hd2 hd3 hd4 hd5 o1 o2 o3 o4 o5 o6 o7 o8 o9 hd7 hd8
            have HC0 := Lib.hid hc0
            rw [hc0]
            have hPD := Lib.hid (show putD ⟨dw, du, db, dt, di, dh, df, dsh, de, dby⟩ = _ from rfl)
            obtain ⟨dw, rfl⟩ : ∃ n : Nat, dw = (n : Int) := ⟨dw.toNat, by omega⟩
            obtain ⟨di, rfl⟩ : ∃ n : Nat, di = (n : Int) := ⟨di.toNat, by have := o5.1; omega⟩
            obtain ⟨dh, rfl⟩ : ∃ n : Nat, dh = (n : Int) := ⟨dh.toNat, by have := o6.1; omega⟩
            obtain ⟨dsh, rfl⟩ : ∃ n : Nat, dsh = (n : Int) := ⟨dsh.toNat, by have := o7.1; omega⟩
            obtain ⟨de, rfl⟩ : ∃ n : Nat, de = (n : Int) := ⟨de.toNat, by have := o8.1; omega⟩
            have hwf : IntKind.i64.wrap ((df.toNat : Nat) : Int) = ((df.toNat : Nat) : Int) := wrap64_nat _ (by omega)
            have hlen2 : (beN 1 ds.length ++ (ds.take k).flatMap putD).length ≤ 30000 := by simp only [List.length_append, beN_length]; omega
            clear hc0 o1 o2 o3 o4 o5 o6 o7 o8 o9 hflat
            generalize hbase : beN 1 ds.length ++ (ds.take k).flatMap putD = lb at *
            have HBASE := Lib.hid hbase
            clear hbase
            have HM : 48 ∈ [48] := by simp
            have C0 := row_s hrow2 HM 0 _ rfl
            have C1 := row_s hrow2 HM 1 _ rfl
            have C2 := row_s hrow2 HM 2 _ rfl
            have C3 := row_s hrow2 HM 3 _ rfl
            have C4 := row_s hrow2 HM 4 _ rfl
            have C5 := row_s hrow2 HM 5 _ rfl
            have C6 := row_s hrow2 HM 6 _ rfl
            have C7 := row_s hrow2 HM 7 _ rfl
            have C8 := row_s hrow2 HM 8 _ rfl
            have C9 := row_s hrow2 HM 9 _ rfl
            have hN := fun (W : World) (b : Value) (l : By) (v n : Nat) (hL : Lay w w l W b) (h1 : l.length ≤ 40000) (hn : n ≤ 4) => numS_any w W b l v n hL.x hL.o (by omega) hn
            have hS := fun (W : World) (b : Value) (l p : By) (hL : Lay w w l W b) (h1 : l.length ≤ 40000) (hp : p.length ≤ 24) => shortS_any w W b l p hL.x hL.o (by omega)
            have hLg := fun (W : World) (b : Value) (l : By) (hL : Lay w w l W b) (h1 : l.length ≤ 40000) => longS_any w W b l dby A2 cap2 hL.x hL.o (hLB w (Ext.refl w)) (by omega)
            have hND : 5 ∉ [48] := by simp
            have hs0 : Stp [48] w2 w2.drew := (Stp.refl _ _).drew
            have hlay3 := hlay2.drew
            clear hlay2 hLB HCK h
            go_wp2_with fail
            refine wp_region_phase (S := fun w' => Stp [48] w2 w') 13 (by kernel_rfl) (by kernel_rfl) ?_ (fun hHeld => ?_)
            · exact hs0
            simp only [List.drop_succ_cons, List.drop_zero]
            refine name_head ?_
            intro wr0 hw0
            rw [hw0] at hHeld
            refine wpHead_take (i := 0) (v := ?_) (by rfl) (by kernel_rfl) (by kernel_rfl) (by exact fun _ _ _ h => h) (Or.inl ⟨by rfl, ?_⟩) (by assumption) ?_
            rotate_left
            · intro w hSw
              first | (go_simp; done) | (go_simp; with_reducible rfl)
            simp only [List.getElem_toArray, List.getElem_cons_zero, Act.put, List.setIfInBounds_toArray, List.set_cons_zero, List.set_cons_succ]
            refine wpHead_take (i := 1) (v := ?_) (by rfl) (by kernel_rfl) (by kernel_rfl) (by exact fun _ _ _ h => h) (Or.inl ⟨by rfl, ?_⟩) (by assumption) ?_
            rotate_left
            · intro w hSw
              first | (go_simp; done) | (go_simp; with_reducible rfl)
            simp only [List.getElem_toArray, List.getElem_cons_succ, List.getElem_cons_zero, Act.put, List.setIfInBounds_toArray, List.set_cons_zero, List.set_cons_succ]
            refine wpHead_take (i := 2) (v := ?_) (by rfl) (by kernel_rfl) (by kernel_rfl) (by exact fun _ _ _ h => h) (Or.inl ⟨by rfl, ?_⟩) (by assumption) ?_
            rotate_left
            · intro w hSw
              first | (go_simp; done) | (go_simp; with_reducible rfl)
            simp only [List.getElem_toArray, List.getElem_cons_succ, List.getElem_cons_zero, Act.put, List.setIfInBounds_toArray, List.set_cons_zero, List.set_cons_succ]
            refine wpHead_take (i := 4) (v := ?_) (by rfl) (by kernel_rfl) (by kernel_rfl) (by exact fun _ _ _ h => h) (Or.inl ⟨by rfl, ?_⟩) (by assumption) ?_
            rotate_left
            · intro w hSw
              first | (go_simp; done) | (go_simp; with_reducible rfl)
            simp only [List.getElem_toArray, List.getElem_cons_succ, List.getElem_cons_zero, Act.put, List.setIfInBounds_toArray, List.set_cons_zero, List.set_cons_succ]
            refine wpHead_take (i := 5) (v := ?_) (by rfl) (by kernel_rfl) (by kernel_rfl) (by exact fun _ _ _ h => h) (Or.inl ⟨by rfl, ?_⟩) (by assumption) ?_
            rotate_left
            · intro w hSw
              first | (go_simp; done) | (go_simp; with_reducible rfl)
            simp only [List.getElem_toArray, List.getElem_cons_succ, List.getElem_cons_zero, Act.put, List.setIfInBounds_toArray, List.set_cons_zero, List.set_cons_succ]
            refine wpHead_take (i := 7) (v := ?_) (by rfl) (by kernel_rfl) (by kernel_rfl) (by exact fun _ _ _ h => h) (Or.inl ⟨by rfl, ?_⟩) (by assumption) ?_
            rotate_left
            · intro w hSw
              first | (go_simp; done) | (go_simp; with_reducible rfl)
            simp only [List.getElem_toArray, List.getElem_cons_succ, List.getElem_cons_zero, Act.put, List.setIfInBounds_toArray, List.set_cons_zero, List.set_cons_succ]
            refine wpHead_take (i := 8) (v := ?_) (by rfl) (by kernel_rfl) (by kernel_rfl) (by exact fun _ _ _ h => h) (Or.inl ⟨by rfl, ?_⟩) (by assumption) ?_
            rotate_left
            · intro w hSw
              first | (go_simp; done) | (go_simp; with_reducible rfl)
            simp only [List.getElem_toArray, List.getElem_cons_succ, List.getElem_cons_zero, Act.put, List.setIfInBounds_toArray, List.set_cons_zero, List.set_cons_succ]
            refine wpHead_take (i := 10) (v := ?_) (by rfl) (by kernel_rfl) (by kernel_rfl) (by exact fun _ _ _ h => h) (Or.inl ⟨by rfl, ?_⟩) (by assumption) ?_
            rotate_left
            · intro w hSw
              first | (go_simp; done) | (go_simp; with_reducible rfl)
            simp only [List.getElem_toArray, List.getElem_cons_succ, List.getElem_cons_zero, Act.put, List.setIfInBounds_toArray, List.set_cons_zero, List.set_cons_succ]
            refine wpHead_take (i := 11) (v := ?_) (by rfl) (by kernel_rfl) (by kernel_rfl) (by exact fun _ _ _ h => h) (Or.inl ⟨by rfl, ?_⟩) (by assumption) ?_
            rotate_left
            · intro w hSw
              first | (go_simp; done) | (go_simp; with_reducible rfl)
            simp only [List.getElem_toArray, List.getElem_cons_succ, List.getElem_cons_zero, Act.put, List.setIfInBounds_toArray, List.set_cons_zero, List.set_cons_succ]
            refine wpHead_ready (rs := [3]) (by kernel_rfl) (by simp) (by kernel_rfl) ?_
            refine AllHead.cons (by rfl) (fun K hK => ?_) ?_
            · refine step_callG (by rfl) (by kernel_rfl) (hN _ _ _ dw 1 (by rw [← hw0]; exact hlay3) (by omega) (by omega)) ?_
              rintro e wr3 ⟨c3, rfl, hl3⟩
              refine ⟨_, rfl, ?_⟩
              refine hK.out _ _ ?_ (fun hHeld => ?_)
              · exact hHeld.trans (hl3.s _ hND)
              clear hK K
              try simp only [List.getElem_toArray, List.getElem_cons_succ, List.getElem_cons_zero, Act.put, List.setIfInBounds_toArray, List.set_cons_zero, List.set_cons_succ]
              refine wpHead_ready (rs := [6]) (by kernel_rfl) (by simp) (by kernel_rfl) ?_
              refine AllHead.cons (by rfl) (fun K hK => ?_) ?_
              · have hl3' := hlay3.trans (hw0 ▸ hl3)
                refine step_callG (by rfl) (by kernel_rfl) (hS _ _ _ du hl3' (by simp; omega) (by omega)) ?_
                rintro e wr6 ⟨c6, rfl, hl6⟩
                refine ⟨_, rfl, ?_⟩
                refine hK.out _ _ ?_ (fun hHeld => ?_)
                · exact hHeld.trans (hl6.s _ hND)
                clear hK K
                try simp only [List.getElem_toArray, List.getElem_cons_succ, List.getElem_cons_zero, Act.put, List.setIfInBounds_toArray, List.set_cons_zero, List.set_cons_succ]
                refine wpHead_ready (rs := [9]) (by kernel_rfl) (by simp) (by kernel_rfl) ?_
                refine AllHead.cons (by rfl) (fun K hK => ?_) ?_
                · have hl6' := hl3'.trans hl6
                  refine step_callG (by rfl) (by kernel_rfl) (hS _ _ _ db hl6' (by simp [shortB]; omega) (by omega)) ?_
                  rintro e wr9 ⟨c9, rfl, hl9⟩
                  refine ⟨_, rfl, ?_⟩
                  refine hK.out _ _ ?_ (fun hHeld => ?_)
                  · exact hHeld.trans (hl9.s _ hND)
                  clear hK K
                  try simp only [List.getElem_toArray, List.getElem_cons_succ, List.getElem_cons_zero, Act.put, List.setIfInBounds_toArray, List.set_cons_zero, List.set_cons_succ]
                  refine wpHead_ready (rs := [12]) (by kernel_rfl) (by simp) (by kernel_rfl) ?_
                  refine AllHead.cons (by rfl) (fun K hK => ?_) ?_
                  · have hl9' := hl6'.trans hl9
                    refine step_callG (by rfl) (by kernel_rfl) (hS _ _ _ dt hl9' (by simp [shortB]; omega) (by omega)) ?_
                    rintro e wr12 ⟨c12, rfl, hl12⟩
                    refine ⟨_, rfl, ?_⟩
                    refine hK.out _ _ ?_ (fun hHeld => ?_)
                    · exact hHeld.trans (hl12.s _ hND)
                    clear hK K
                    try simp only [List.getElem_toArray, List.getElem_cons_succ, List.getElem_cons_zero, Act.put, List.setIfInBounds_toArray, List.set_cons_zero, List.set_cons_succ]
                    refine wpHead_done (by kernel_rfl) ?_
                    have hl12' := hl9'.trans hl12
                    have hs12 := hHeld.drew
                    have hlq := hl12'.drew
                    have HQ : Hid (lb ++ beN 1 dw ++ shortB du ++ shortB db ++ shortB dt = lb ++ (beN 1 dw ++ (shortB du ++ (shortB db ++ shortB dt)))) := Lib.hid (by simp only [List.append_assoc])
                    rw [HQ.out] at hlq
                    have hlq2 : (lb ++ (beN 1 dw ++ (shortB du ++ (shortB db ++ shortB dt)))).length ≤ 30100 := by simp [shortB]; omega
                    generalize hlb2 : lb ++ (beN 1 dw ++ (shortB du ++ (shortB db ++ shortB dt))) = lb2 at *
                    have HLB2 := Lib.hid hlb2
                    clear hlb2 hl3 hl3' hl6 hl6' hl9 hl9' hl12 hl12' hlay3 HQ hs0 hw0 hHeld C0 C1 C2 C3 hS
                    go_wp2_with fail
                    refine wp_region_phase (S := fun w' => Stp [48] w2 w') 17 (by kernel_rfl) (by kernel_rfl) ?_ (fun hHeld => ?_)
                    · exact hs12
                    simp only [List.drop_succ_cons, List.drop_zero]
                    refine name_head ?_
                    intro wr0 hw0
                    rw [hw0] at hHeld
                    refine wpHead_take (i := 0) (v := ?_) (by rfl) (by kernel_rfl) (by kernel_rfl) (by exact fun _ _ _ h => h) (Or.inl ⟨by rfl, ?_⟩) (by assumption) ?_
                    rotate_left
                    · intro w hSw
                      first | (go_simp; done) | (go_simp; with_reducible rfl)
                    simp only [List.getElem_toArray, List.getElem_cons_zero, Act.put, List.setIfInBounds_toArray, List.set_cons_zero, List.set_cons_succ]
                    refine wpHead_take (i := 1) (v := ?_) (by rfl) (by kernel_rfl) (by kernel_rfl) (by exact fun _ _ _ h => h) (Or.inl ⟨by rfl, ?_⟩) (by assumption) ?_
                    rotate_left
                    · intro w hSw
                      first | (go_simp; done) | (go_simp; with_reducible rfl)
                    simp only [List.getElem_toArray, List.getElem_cons_succ, List.getElem_cons_zero, Act.put, List.setIfInBounds_toArray, List.set_cons_zero, List.set_cons_succ]
                    refine wpHead_take (i := 2) (v := ?_) (by rfl) (by kernel_rfl) (by kernel_rfl) (by exact fun _ _ _ h => h) (Or.inl ⟨by rfl, ?_⟩) (by assumption) ?_
                    rotate_left
                    · intro w hSw
                      first | (go_simp; done) | (go_simp; with_reducible rfl)
                    simp only [List.getElem_toArray, List.getElem_cons_succ, List.getElem_cons_zero, Act.put, List.setIfInBounds_toArray, List.set_cons_zero, List.set_cons_succ]
                    refine wpHead_take (i := 4) (v := ?_) (by rfl) (by kernel_rfl) (by kernel_rfl) (by exact fun _ _ _ h => h) (Or.inl ⟨by rfl, ?_⟩) (by assumption) ?_
                    rotate_left
                    · intro w hSw
                      first | (go_simp; done) | (go_simp; with_reducible rfl)
                    simp only [List.getElem_toArray, List.getElem_cons_succ, List.getElem_cons_zero, Act.put, List.setIfInBounds_toArray, List.set_cons_zero, List.set_cons_succ]
                    refine wpHead_take (i := 5) (v := ?_) (by rfl) (by kernel_rfl) (by kernel_rfl) (by exact fun _ _ _ h => h) (Or.inl ⟨by rfl, ?_⟩) (by assumption) ?_
                    rotate_left
                    · intro w hSw
                      first | (go_simp; done) | (go_simp; with_reducible rfl)
                    simp only [List.getElem_toArray, List.getElem_cons_succ, List.getElem_cons_zero, Act.put, List.setIfInBounds_toArray, List.set_cons_zero, List.set_cons_succ]
                    refine wpHead_take (i := 7) (v := ?_) (by rfl) (by kernel_rfl) (by kernel_rfl) (by exact fun _ _ _ h => h) (Or.inl ⟨by rfl, ?_⟩) (by assumption) ?_
                    rotate_left
                    · intro w hSw
                      first | (go_simp; done) | (go_simp; with_reducible rfl)
                    simp only [List.getElem_toArray, List.getElem_cons_succ, List.getElem_cons_zero, Act.put, List.setIfInBounds_toArray, List.set_cons_zero, List.set_cons_succ]
                    refine wpHead_take (i := 8) (v := ?_) (by rfl) (by kernel_rfl) (by kernel_rfl) (by exact fun _ _ _ h => h) (Or.inl ⟨by rfl, ?_⟩) (by assumption) ?_
                    rotate_left
                    · intro w hSw
                      first | (go_simp; done) | (go_simp; with_reducible rfl)
                    simp only [List.getElem_toArray, List.getElem_cons_succ, List.getElem_cons_zero, Act.put, List.setIfInBounds_toArray, List.set_cons_zero, List.set_cons_succ]
                    refine wpHead_take (i := 9) (v := ?_) (by rfl) (by kernel_rfl) (by kernel_rfl) (by exact fun _ _ _ h => h) (Or.inl ⟨by rfl, ?_⟩) (by assumption) ?_
                    rotate_left
                    · intro w hSw
                      first | (go_simp; done) | (go_simp; with_reducible rfl)
                    simp only [List.getElem_toArray, List.getElem_cons_succ, List.getElem_cons_zero, Act.put, List.setIfInBounds_toArray, List.set_cons_zero, List.set_cons_succ]
                    refine wpHead_take (i := 11) (v := ?_) (by rfl) (by kernel_rfl) (by kernel_rfl) (by exact fun _ _ _ h => h) (Or.inl ⟨by rfl, ?_⟩) (by assumption) ?_
                    rotate_left
                    · intro w hSw
                      first | (go_simp; done) | (go_simp; with_reducible rfl)
                    simp only [List.getElem_toArray, List.getElem_cons_succ, List.getElem_cons_zero, Act.put, List.setIfInBounds_toArray, List.set_cons_zero, List.set_cons_succ]
                    refine wpHead_take (i := 12) (v := ?_) (by rfl) (by kernel_rfl) (by kernel_rfl) (by exact fun _ _ _ h => h) (Or.inl ⟨by rfl, ?_⟩) (by assumption) ?_
                    rotate_left
                    · intro w hSw
                      first | (go_simp; done) | (go_simp; with_reducible rfl)
                    simp only [List.getElem_toArray, List.getElem_cons_succ, List.getElem_cons_zero, Act.put, List.setIfInBounds_toArray, List.set_cons_zero, List.set_cons_succ]
                    refine wpHead_take (i := 14) (v := ?_) (by rfl) (by kernel_rfl) (by kernel_rfl) (by exact fun _ _ _ h => h) (Or.inl ⟨by rfl, ?_⟩) (by assumption) ?_
                    rotate_left
                    · intro w hSw
                      first | (go_simp; done) | (go_simp; with_reducible rfl)
                    simp only [List.getElem_toArray, List.getElem_cons_succ, List.getElem_cons_zero, Act.put, List.setIfInBounds_toArray, List.set_cons_zero, List.set_cons_succ]
                    refine wpHead_take (i := 15) (v := ?_) (by rfl) (by kernel_rfl) (by kernel_rfl) (by exact fun _ _ _ h => h) (Or.inl ⟨by rfl, ?_⟩) (by assumption) ?_
                    rotate_left
                    · intro w hSw
                      first | (go_simp; done) | (go_simp; with_reducible rfl)
                    simp only [List.getElem_toArray, List.getElem_cons_succ, List.getElem_cons_zero, Act.put, List.setIfInBounds_toArray, List.set_cons_zero, List.set_cons_succ]
                    refine wpHead_ready (rs := [3]) (by kernel_rfl) (by simp) (by kernel_rfl) ?_
                    refine AllHead.cons (by rfl) (fun K hK => ?_) ?_
                    · refine step_callG (by rfl) (by kernel_rfl) (hN _ _ _ di 4 (by rw [← hw0]; exact hlq) (by omega) (by omega)) ?_
                      rintro e wr3 ⟨d3, rfl, hm3⟩
                      refine ⟨_, rfl, ?_⟩
                      refine hK.out _ _ ?_ (fun hHeld => ?_)
                      · exact hHeld.trans (hm3.s _ hND)
                      clear hK K
                      try simp only [List.getElem_toArray, List.getElem_cons_succ, List.getElem_cons_zero, Act.put, List.setIfInBounds_toArray, List.set_cons_zero, List.set_cons_succ]
                      refine wpHead_ready (rs := [6]) (by kernel_rfl) (by simp) (by kernel_rfl) ?_
                      refine AllHead.cons (by rfl) (fun K hK => ?_) ?_
                      · have hm3' := hlq.trans (hw0 ▸ hm3)
                        refine step_callG (by rfl) (by kernel_rfl) (hN _ _ _ dh 1 hm3' (by simp; omega) (by omega)) ?_
                        rintro e wr6 ⟨d6, rfl, hm6⟩
                        refine ⟨_, rfl, ?_⟩
                        refine hK.out _ _ ?_ (fun hHeld => ?_)
                        · exact hHeld.trans (hm6.s _ hND)
                        clear hK K
                        try simp only [List.getElem_toArray, List.getElem_cons_succ, List.getElem_cons_zero, Act.put, List.setIfInBounds_toArray, List.set_cons_zero, List.set_cons_succ]
                        refine wpHead_ready (rs := [10]) (by kernel_rfl) (by simp) (by kernel_rfl) ?_
                        refine AllHead.cons (by rfl) (fun K hK => ?_) ?_
                        · have hm6' := hm3'.trans hm6
                          refine step_callG (by rfl) (by kernel_rfl) (hN _ _ _ df.toNat 1 hm6' (by simp; omega) (by omega)) ?_
                          rintro e wr10 ⟨d10, rfl, hm10⟩
                          refine ⟨_, rfl, ?_⟩
                          refine hK.out _ _ ?_ (fun hHeld => ?_)
                          · exact hHeld.trans (hm10.s _ hND)
                          clear hK K
                          try simp only [List.getElem_toArray, List.getElem_cons_succ, List.getElem_cons_zero, Act.put, List.setIfInBounds_toArray, List.set_cons_zero, List.set_cons_succ]
                          refine wpHead_ready (rs := [13]) (by kernel_rfl) (by simp) (by kernel_rfl) ?_
                          refine AllHead.cons (by rfl) (fun K hK => ?_) ?_
                          · have hm10' := hm6'.trans hm10
                            refine step_callG (by rfl) (by kernel_rfl) (hN _ _ _ dsh 1 hm10' (by simp; omega) (by omega)) ?_
                            rintro e wr13 ⟨d13, rfl, hm13⟩
                            refine ⟨_, rfl, ?_⟩
                            refine hK.out _ _ ?_ (fun hHeld => ?_)
                            · exact hHeld.trans (hm13.s _ hND)
                            clear hK K
                            try simp only [List.getElem_toArray, List.getElem_cons_succ, List.getElem_cons_zero, Act.put, List.setIfInBounds_toArray, List.set_cons_zero, List.set_cons_succ]
                            refine wpHead_ready (rs := [16]) (by kernel_rfl) (by simp) (by kernel_rfl) ?_
                            refine AllHead.cons (by rfl) (fun K hK => ?_) ?_
                            · have hm13' := hm10'.trans hm13
                              refine step_callG (by rfl) (by kernel_rfl) (hN _ _ _ de 4 hm13' (by simp; omega) (by omega)) ?_
                              rintro e wr16 ⟨d16, rfl, hm16⟩
                              refine ⟨_, rfl, ?_⟩
                              refine hK.out _ _ ?_ (fun hHeld => ?_)
                              · exact hHeld.trans (hm16.s _ hND)
                              clear hK K
                              try simp only [List.getElem_toArray, List.getElem_cons_succ, List.getElem_cons_zero, Act.put, List.setIfInBounds_toArray, List.set_cons_zero, List.set_cons_succ]
                              refine wpHead_done (by kernel_rfl) ?_
                              have hm16' := hm13'.trans hm16
                              clear hm3 hm3' hm6 hm6' hm10 hm10' hm13 hm13' hm16 hlq
                              go_wp2_with fail
                              refine (hLg _ _ _ hm16' (by simp; omega)).mono ?_
                              rintro e w9 ⟨b9, rfl, hl9⟩
                              have hlz := hm16'.trans hl9
                              clear hl9 hm16'
                              go_wp2
                              go_roundw
                              case rel =>
                                refine ⟨k + 1, by go_num, by omega, ?_, ?_⟩
                                · rw [hTK.out]
                                  intro d hd
                                  rcases List.mem_append.1 hd with hd | hd
                                  · exact hok d hd
                                  · simp only [List.mem_singleton] at hd
                                    subst hd
                                    exact HC0.out
                                · have : beN 1 ds.length ++ (ds.take (k + 1)).flatMap putD = lb2 ++ beN 4 di ++ beN 1 dh ++ beN 1 df.toNat ++ beN 1 dsh ++ beN 4 de ++ longB dby := by
                                    rw [hTK.out, List.flatMap_append, ← List.append_assoc, HBASE.out, ← HLB2.out]
                                    simp [putD]
                                  rw [this]
                                  exact hlz
                              case measure => simp [intOf]; omega
                            exact AllHead.nil
                          exact AllHead.nil
                        exact AllHead.nil
                      exact AllHead.nil
                    exact AllHead.nil
                  exact AllHead.nil
                exact AllHead.nil
              exact AllHead.nil
            exact AllHead.nil
          · have hc2 : (((checkD ⟨dw, du, db, dt, di, dh, df, dsh, de, dby⟩ : Nat) : Int) == 0) = false := by simpa using hc0
            have HB : Hid (putAllT ds = ([], checkD ⟨dw, du, db, dt, di, dh, df, dsh, de, dby⟩)) := Lib.hid (by rw [HP3.out, hFC.out hc0]; simp [hc0])
            generalize checkD ⟨dw, du, db, dt, di, dh, df, dsh, de, dby⟩ = z at *
            clear hFC hTK hflat hok
            go_wp2
            go_ret2
            exact PutSays.none HB.out hlay2.x
        · have hkn : k = ds.length := by omega
          subst hkn
          rw [List.take_length] at hlay hok
          have HFC := Lib.hid (firstC_ok hok)
          obtain ⟨lb, hlb⟩ : ∃ lb, lb = beN 1 ds.length ++ ds.flatMap putD := ⟨_, rfl⟩
          rw [← hlb] at hlay
          have HLB : Hid (lb = putAllB ds) := Lib.hid (by rw [hlb, putAllB, List.append_nil])
          obtain ⟨Ab, cb, rfl⟩ := hlay.o.form
          have hlay' := Lib.hid hlay
          clear hlb hlay hok hflat
          obtain ⟨n, hn⟩ : ∃ n, n = lb.length := ⟨_, rfl⟩
          rw [← hn]
          have HN := Lib.hid hn
          clear hn
          by_cases h18 : (1800 : Int) < (n : Int)
          · have HB : Hid (putAllT ds = ([], 6)) := Lib.hid (by rw [HP3.out, HFC.out, ← HLB.out, ← HN.out]; simp; omega)
            go_wp2
            go_ret2
            exact PutSays.none HB.out hx
          · have HB : Hid (putAllT ds = (lb, 0)) := Lib.hid (by rw [HP3.out, HFC.out, ← HLB.out, ← HN.out, if_neg (by simp), if_neg (by omega)])
            go_wp2
            go_ret2
            rw [HB.out]
            exact ⟨hx, _, rfl, by have := hlay'.out.o; rwa [← HN.out] at this⟩
end Go.Proofs.Ythlppbbejdeeoaa
