/- The walk of addr.Path. Condition: the bound named. -/
import Derived.Test.YtchokelpimibdaaAd3
import Derived.Test.YtchokelpimibdaaStep
import Derived.Deep.QuietTactic
import Derived.BigQuiet
namespace Go.Proofs.Ytchokelpimibdaa
open Go.RowKit
def okAt (l : List UInt8) (i : Nat) : Bool := decide (l[0]? = some 60 ∧ l[i]? = some 62 ∧ (parseT ((l.take i).drop 1)).2.2.2 = 0)
def pathT (l : List UInt8) : List UInt8 × List UInt8 × List UInt8 × Nat :=
  if Lib.hasPrefix l [60, 62] = true then ([], [], l.drop 2, 0)
  else match (List.range l.length).find? (okAt l) with
    | some i => ((parseT ((l.take i).drop 1)).1, (parseT ((l.take i).drop 1)).2.1, l.drop (i + 1), 0)
    | none => ([], [], [], 4)
def PaSays (l : List UInt8) (w : World) (e : Ending) (w' : World) : Prop :=
  e = .returned (.tuple #[.agg #[.string (st (pathT l).1), .string (st (pathT l).2.1)], .string (st (pathT l).2.2.1), .int .i64 ((pathT l).2.2.2 : Nat)]) ∧ Ext w w'
theorem okAt_find {l : List UInt8} {k : Nat} (hk : k < l.length) (hn : ∀ j, j < k → okAt l j = false) (hb : okAt l k = true) : (List.range l.length).find? (okAt l) = some k := by
  rw [List.find?_range_eq_some]
  exact ⟨hb, by simpa using hk, fun j hj => by simp [hn j hj]⟩
theorem okAt_none {l : List UInt8} (hn : ∀ j, j < l.length → okAt l j = false) : (List.range l.length).find? (okAt l) = none := by
  rw [List.find?_eq_none]
  intro j hj
  simp [hn j (by simpa using hj)]
theorem okAt_step {l : List UInt8} {k : Nat} (hn : ∀ j, j < k → okAt l j = false) (hb : okAt l k = false) : ∀ j, j < k + 1 → okAt l j = false := by
  intro j hj
  by_cases e : j = k
  · rw [e]; exact hb
  · exact hn j (by omega)
theorem kc {N : List Nat} {w : World} {a : Addr} {v : Value} (h : w.cell? a = some v) (hn : a.block ∉ N) : ∀ w', Kept N w w' → w'.cell? a = some v := fun _ k => k.cell h hn
set_option maxRecDepth 20000 in
set_option maxHeartbeats 1600000 in
theorem Path_any (s : ByteArray) (w : World) (hs : s.size ≤ 140737488355320) : Calls Try.prog 52 #[.string s] w (PaSays (tl s) w) := by
  have HH := fun w => Try.strings_HasPrefix s ⟨#[60, 62]⟩ w
  rw [show s.data.toList = tl s from rfl, show (ByteArray.mk #[60, 62]).data.toList = [60, 62] from rfl] at HH
  obtain ⟨g0, hg0⟩ : ∃ g, g = w.heap.size := ⟨_, rfl⟩
  go_enter Try.func52, Try.ntmps52
  go_wp2_with (first | (with_reducible refine stop_alloc 35 ?_) | (with_reducible refine stop_store 35 ?_) | (with_reducible refine stop_load 35 ?_))
  refine go_on (wpList_alloc_ rfl rfl addr_info ?_)
  have hr0 := heap_alloc_new w (.cells zAddr 35 (0, 0))
  have hx0 : Ext w (w.alloc (.cells zAddr 35)) := (Ext.refl w).alloc _
  rw [← hg0] at hr0 ⊢
  have hgw : w.heap.size ≤ g0 := by omega
  have HGW := Lib.hid hgw
  generalize w.alloc (.cells zAddr 35) = w0 at *
  clear hg0 hgw
  cases hp : Lib.hasPrefix (tl s) [60, 62] with
  | true =>
    rw [hp] at HH
    have h2 : (2 : Int) ≤ (s.size : Int) := by
      have : 2 ≤ (tl s).length := by
        unfold Lib.hasPrefix at hp
        exact (List.isPrefixOf_iff_prefix.1 hp).length_le
      rw [tl_length] at this
      omega
    have HE : Hid (pathT (tl s) = ([], [], (tl s).drop 2, 0)) := Lib.hid (by unfold pathT; rw [if_pos hp])
    have HD : Hid (s.extract 2 s.size = st ((tl s).drop 2)) := Lib.hid (by rw [ex_st, show s.size = (tl s).length by simp, List.take_length])
    clear hp
    go_wp2_with fail
    refine (HH _).mono ?_
    rintro e w1 ⟨rfl, rfl⟩
    clear HH
    go_wp2_with fail
    refine wp_region_phase (S := fun w' => Kept [g0] w1 w') 4 (by kernel_rfl) (by kernel_rfl) ?_ (fun hHeld => ?_)
    · exact (Kept.refl _ _).drew
    simp only [List.drop_succ_cons, List.drop_zero]
    refine name_head ?_
    intro wr0 hw0
    rw [hw0] at hHeld
    refine wpHead_take (i := 0) (v := ?_) (by rfl) (by kernel_rfl) (by kernel_rfl) (by exact fun _ _ _ h => h) (Or.inl ⟨by rfl, ?_⟩) (by assumption) ?_
    rotate_left
    · intro w hSw
      first | (go_simp; done) | (go_simp; with_reducible rfl)
    simp only [List.getElem_toArray, List.getElem_cons_zero, Act.put, List.setIfInBounds_toArray, List.set_cons_zero, List.set_cons_succ]
    refine wpHead_take (i := 1) (v := ?_) (by rfl) (by kernel_rfl) (by kernel_rfl) (by exact fun _ _ _ h => h) (Or.inl ⟨by rfl, ?_⟩) (by assumption) ?_
    rotate_left
    · intro w hSw
      first | (go_simp; done) | (go_simp; with_reducible rfl)
    simp only [List.getElem_toArray, List.getElem_cons_succ, List.getElem_cons_zero, Act.put, List.setIfInBounds_toArray, List.set_cons_zero, List.set_cons_succ]
    refine wpHead_take (i := 2) (v := ?_) (by rfl) (by kernel_rfl) (by kernel_rfl) (by exact fun _ _ _ h => h) (Or.inl ⟨by rfl, ?_⟩) (by assumption) ?_
    rotate_left
    · intro w hSw
      first | (go_simp; done) | (go_simp; with_reducible rfl)
    simp only [List.getElem_toArray, List.getElem_cons_succ, List.getElem_cons_zero, Act.put, List.setIfInBounds_toArray, List.set_cons_zero, List.set_cons_succ]
    refine wpHead_ready (rs := [3]) (by kernel_rfl) (by simp) (by kernel_rfl) ?_
    refine AllHead.cons (by rfl) (fun K hK => ?_) ?_
    · refine step_store_whole (c := zAddr) (by rfl) rfl rfl rfl (by rw [← hw0]; exact hr0) (by kernel_rfl) rfl (by simp [Value.oneCell']) ?_
      intro wr3 hrow hk5 hz5
      refine hK.out _ _ ?_ (fun hHeld => ?_)
      · exact hHeld.trans hk5
      clear hK K
      try simp only [List.getElem_toArray, List.getElem_cons_succ, List.getElem_cons_zero, Act.put]
      refine wpHead_done (by kernel_rfl) ?_
      have hx5 := hx0.kept hHeld (one_ge HGW.out)
      go_wp2
      ((try simp only [Exit.inBlock, Exit.then]); refine bodyPost_ret (results_cell2 rfl _ _ g0 _ _ _ _ rfl hrow Try.underlying35 rfl (by kernel_rfl)) rfl ?_)
      unfold PaSays
      rw [HE.out, ← HD.out]
      exact ⟨rfl, hx5⟩
    exact AllHead.nil
  | false =>
    rw [hp] at HH
    have HPT : Hid (pathT (tl s) = match (List.range (tl s).length).find? (okAt (tl s)) with
      | some i => ((parseT (((tl s).take i).drop 1)).1, (parseT (((tl s).take i).drop 1)).2.1, (tl s).drop (i + 1), 0)
      | none => ([], [], [], 4)) := Lib.hid (by unfold pathT; rw [if_neg (by rw [hp]; decide)])
    have hok0 : okAt (tl s) 0 = false := by
      unfold okAt
      rw [decide_eq_false]
      rintro ⟨h1, h2, _⟩
      rw [h1] at h2
      cases h2
    have HOK0 := Lib.hid hok0
    clear hp hok0
    go_wp2_with fail
    refine (HH _).mono ?_
    rintro e w1 ⟨rfl, rfl⟩
    clear HH
    go_wp2
    go_loopw [16] (fun a wr => ∃ i : Nat, a = .int .i64 i ∧ i ≤ s.size ∧ (∀ j, j < i → okAt (tl s) j = false) ∧ Ext w1 wr) (fun a _ => s.size - (intOf a).toNat)
    case atStart => exact ⟨0, rfl, by omega, fun j hj => by omega, Ext.refl _⟩
    case round =>
      obtain ⟨i, rfl, hi, hn, hx⟩ := hrel
      have HN := Lib.hid hn
      clear hn
      by_cases hlt : i < s.size
      · have hlt2 : (i : Int) < (s.size : Int) := by omega
        have h0s : 0 < s.size := by omega
        have HG0 := Lib.hid (tl_get? s 0 h0s)
        have HGI := Lib.hid (tl_get? s i hlt)
        by_cases h60 : s[0].toNat = 60
        · have e60 : ((s[0].toNat : Int) != 60) = false := by rw [h60]; rfl
          by_cases h62 : s[i].toNat = 62
          · have e62 : ((s[i].toNat : Int) != 62) = false := by rw [h62]; rfl
            have hi0 : i ≠ 0 := by rintro rfl; rw [h60] at h62; omega
            have hi1 : (1 : Int) ≤ (i : Int) := by omega
            have hi2 : (i : Int) ≤ (s.size : Int) := by omega
            have HP := fun w => Parse_any (s.extract 1 i) w (by simp; omega)
            have HX : Hid (tl (s.extract 1 i) = ((tl s).take i).drop 1) := Lib.hid (by rw [ex_st, tl_st])
            rw [HX.out] at HP
            have HB : Hid (okAt (tl s) i = decide ((parseT (((tl s).take i).drop 1)).2.2.2 = 0)) := Lib.hid (by
              unfold okAt
              rw [HG0.out, HGI.out, show s[0] = 60 from UInt8.toNat_inj.1 h60, show s[i] = 62 from UInt8.toNat_inj.1 h62]
              simp)
            have HFD : Hid (okAt (tl s) i = true → pathT (tl s) = ((parseT (((tl s).take i).drop 1)).1, (parseT (((tl s).take i).drop 1)).2.1, (tl s).drop (i + 1), 0)) := Lib.hid (fun hb => by rw [HPT.out, okAt_find (by rw [tl_length]; exact hlt) HN.out hb])
            clear h60 h62 hi0 HX
            unfold PSays at HP
            generalize parseT (((tl s).take i).drop 1) = pr at *
            obtain ⟨pa, pb, pc, pd⟩ := pr
            dsimp only at HP HB HFD
            go_wp2_with fail
            refine (HP _).mono ?_
            rintro e w3 ⟨rfl, hx3'⟩
            have hx3 := hx.trans hx3'
            clear HP hx3' hx
            go_wp2_with (first | (with_reducible refine stop_alloc 35 ?_) | (with_reducible refine stop_store 35 ?_) | (with_reducible refine stop_load 35 ?_))
            refine go_on (wpList_alloc_ rfl rfl addr_info ?_)
            go_wp2_with (first | (with_reducible refine stop_alloc 35 ?_) | (with_reducible refine stop_store 35 ?_) | (with_reducible refine stop_load 35 ?_))
            refine go_on (wpList_store_whole rfl rfl rfl rfl (heap_alloc_new w3 _) (by kernel_rfl) rfl (by simp [Value.oneCell']) ?_)
            intro w4 hrow4 hk4 hz4
            have hx4 : Ext w1 w4 := (hx3.alloc _).kept hk4 (one_ge hx3.size)
            have hne : w3.heap.size ≠ g0 := by have := obj_lt (hx3.obj hr0); omega
            clear hk4 hz4 hx3
            generalize w3.heap.size = g3 at *
            by_cases h0 : pd = 0
            · subst h0
              have HE := Lib.hid (HFD.out (by rw [HB.out]; rfl))
              have hci : (i : Int) + 1 ≤ (s.size : Int) := by omega
              have hw1 : IntKind.i64.wrap ((i : Int) + 1) = (i : Int) + 1 := IntWalk.i64_in _ (by omega)
              have hb0 : (0 : Int) ≤ (i : Int) + 1 := by omega
              have hb4 : ((i : Int) + 1).toNat = i + 1 := by omega
              have HD : Hid (s.extract (i + 1) s.size = st ((tl s).drop (i + 1))) := Lib.hid (by rw [ex_st, show s.size = (tl s).length by simp, List.take_length])
              have K0 := kc (N := [g0]) (row2_at hrow4).1 (by simpa using hne)
              have K1 := kc (N := [g0]) (row2_at hrow4).2.1 (by simpa using hne)
              have hr04 := hx4.obj hr0
              clear hne hrow4
              go_wp2_with fail
              refine wp_region_phase (S := fun w' => Kept [g0] w4 w') 6 (by kernel_rfl) (by kernel_rfl) ?_ (fun hHeld => ?_)
              · exact (Kept.refl _ _).drew
              simp only [List.drop_succ_cons, List.drop_zero]
              refine name_head ?_
              intro wr0 hw0
              rw [hw0] at hHeld
              refine wpHead_take (i := 0) (v := ?_) (by rfl) (by kernel_rfl) (by kernel_rfl) (by exact fun _ _ _ h => h) (Or.inl ⟨by rfl, ?_⟩) (by assumption) ?_
              rotate_left
              · intro w hSw
                first | (go_simp; done) | (go_simp; with_reducible rfl)
              simp only [List.getElem_toArray, List.getElem_cons_zero, Act.put, List.setIfInBounds_toArray, List.set_cons_zero, List.set_cons_succ]
              refine wpHead_take (i := 1) (v := ?_) (by rfl) (by kernel_rfl) (by kernel_rfl) (by exact fun _ _ _ h => h) (Or.inl ⟨by rfl, ?_⟩) (by assumption) ?_
              rotate_left
              · intro w hSw
                first | (go_simp; done) | (go_simp; with_reducible rfl)
              simp only [List.getElem_toArray, List.getElem_cons_succ, List.getElem_cons_zero, Act.put, List.setIfInBounds_toArray, List.set_cons_zero, List.set_cons_succ]
              refine wpHead_take (i := 2) (v := ?_) (by rfl) (by kernel_rfl) (by kernel_rfl) (by exact fun _ _ _ h => h) (Or.inl ⟨by rfl, ?_⟩) (by assumption) ?_
              rotate_left
              · intro w hSw
                first | (go_simp; done) | (go_simp; with_reducible rfl)
              simp only [List.getElem_toArray, List.getElem_cons_succ, List.getElem_cons_zero, Act.put, List.setIfInBounds_toArray, List.set_cons_zero, List.set_cons_succ]
              refine wpHead_take (i := 3) (v := ?_) (by rfl) (by kernel_rfl) (by kernel_rfl) (by exact fun _ _ _ h => h) (Or.inl ⟨by rfl, ?_⟩) (by assumption) ?_
              rotate_left
              · intro w hSw
                first | (go_simp; done) | (go_simp; with_reducible rfl)
              simp only [List.getElem_toArray, List.getElem_cons_succ, List.getElem_cons_zero, Act.put, List.setIfInBounds_toArray, List.set_cons_zero, List.set_cons_succ]
              refine wpHead_take (i := 4) (v := ?_) (by rfl) (by kernel_rfl) (by kernel_rfl) (by exact fun _ _ _ h => h) (Or.inl ⟨by rfl, ?_⟩) (by assumption) ?_
              rotate_left
              · intro w hSw
                first | (go_simp; done) | (go_simp; with_reducible rfl)
              simp only [List.getElem_toArray, List.getElem_cons_succ, List.getElem_cons_zero, Act.put, List.setIfInBounds_toArray, List.set_cons_zero, List.set_cons_succ]
              refine wpHead_ready (rs := [5]) (by kernel_rfl) (by simp) (by kernel_rfl) ?_
              refine AllHead.cons (by rfl) (fun K hK => ?_) ?_
              · refine step_store_whole (c := zAddr) (by rfl) rfl rfl rfl (by rw [← hw0]; exact hr04) (by kernel_rfl) rfl (by simp [Value.oneCell']) ?_
                intro wr5 hrow hk5 hz5
                refine hK.out _ _ ?_ (fun hHeld => ?_)
                · exact hHeld.trans hk5
                clear hK K
                try simp only [List.getElem_toArray, List.getElem_cons_succ, List.getElem_cons_zero, Act.put]
                refine wpHead_done (by kernel_rfl) ?_
                have hx5 := (hx0.trans hx4).kept hHeld (one_ge HGW.out)
                go_wp2
                ((try simp only [Exit.inBlock, Exit.then]); refine bodyPost_ret (results_cell2 rfl _ _ g0 _ _ _ _ rfl hrow Try.underlying35 rfl (by kernel_rfl)) rfl ?_)
                unfold PaSays
                rw [HE.out, ← HD.out]
                exact ⟨rfl, hx5⟩
              exact AllHead.nil
            · have q0 : ((pd : Int) == 0) = false := beq_eq_false_iff_ne.2 (by omega)
              have HB2 : Hid (okAt (tl s) i = false) := Lib.hid (by rw [HB.out, decide_eq_false h0])
              clear h0 HB HFD
              go_wp2
              go_roundw
              case rel => exact ⟨i + 1, by go_num, by omega, okAt_step HN.out HB2.out, hx4⟩
              case measure => simp [intOf]; omega
          · have e62 : ((s[i].toNat : Int) != 62) = true := by simp; omega
            have HB : Hid (okAt (tl s) i = false) := Lib.hid (by unfold okAt; rw [decide_eq_false]; rintro ⟨_, h2, _⟩; rw [HGI.out] at h2; exact h62 (by rw [Option.some.inj h2]; rfl))
            clear h60 h62
            go_wp2
            go_roundw
            case rel => exact ⟨i + 1, by go_num, by omega, okAt_step HN.out HB.out, hx⟩
            case measure => simp [intOf]; omega
        · have e60 : ((s[0].toNat : Int) != 60) = true := by simp; omega
          have HB : Hid (okAt (tl s) i = false) := Lib.hid (by unfold okAt; rw [decide_eq_false]; rintro ⟨h2, _⟩; rw [HG0.out] at h2; exact h60 (by rw [Option.some.inj h2]; rfl))
          clear h60
          go_wp2
          go_roundw
          case rel => exact ⟨i + 1, by go_num, by omega, okAt_step HN.out HB.out, hx⟩
          case measure => simp [intOf]; omega
      · have hi' : i = s.size := by omega
        subst hi'
        have hlt2 : ¬ (s.size : Int) < (s.size : Int) := by omega
        have HE : Hid (pathT (tl s) = ([], [], [], 4)) := Lib.hid (by rw [HPT.out, okAt_none (by rw [tl_length]; exact HN.out)])
        go_wp2_with (first | (with_reducible refine stop_alloc 35 ?_) | (with_reducible refine stop_store 35 ?_) | (with_reducible refine stop_load 35 ?_))
        refine go_on (wpList_store_whole rfl rfl rfl rfl (hx.obj hr0) (by kernel_rfl) rfl (by simp [Value.oneCell']) ?_)
        intro w6 hrow hk6 hz6
        have hx6 := (hx0.trans hx).kept hk6 (one_ge HGW.out)
        go_wp2
        ((try simp only [Exit.inBlock, Exit.then]); refine bodyPost_ret (results_cell2 rfl _ _ g0 _ _ _ _ rfl hrow Try.underlying35 rfl (by kernel_rfl)) rfl ?_)
        unfold PaSays
        rw [HE.out]
        exact ⟨rfl, hx6⟩
end Go.Proofs.Ytchokelpimibdaa
