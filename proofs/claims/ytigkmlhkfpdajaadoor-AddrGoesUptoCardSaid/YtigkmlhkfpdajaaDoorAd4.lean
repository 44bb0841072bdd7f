/- The walk of addr.Print. Conditions: the bounds named. -/
import Derived.Test.YtigkmlhkfpdajaaDoorAd3
import Derived.Test.YtigkmlhkfpdajaaDoorText8
import Derived.Deep.RegionHeld3
import Derived.Test.YtigkmlhkfpdajaaDoorStep
import Derived.Deep.QuietTactic
import Derived.BigQuiet
namespace Go.Proofs.YtigkmlhkfpdajaaDoor
open Go.RowKit
def badLet (d : Nat × List UInt8) : Bool := decide (d.1 < 32 ∨ 126 < d.1)
def printT (lo dm : List UInt8) : List UInt8 × Nat :=
  if (letL lo).any badLet = true then ([], 4)
  else if lo = [] ∨ dm ≠ lowL dm ∨ ((parseT (97 :: 64 :: dm)).2.2.2 ≠ 0 ∧ (parseT (97 :: 64 :: dm)).2.2.2 ≠ 6) then ([], 4)
  else if 64 < lo.length ∨ 255 < dm.length then ([], 6)
  else if bareT lo = true then (lo ++ 64 :: dm, 0)
  else ((quoteT lo).1 ++ 64 :: dm, 0)
def PrSays (lo dm : List UInt8) (w : World) (e : Ending) (w' : World) : Prop := e = .returned (.tuple #[.string (st (printT lo dm).1), .int .i64 ((printT lo dm).2 : Nat)]) ∧ Ext w w'
theorem rows2 {w : World} {p t : Nat} {a b : Value} (h : w.heap[p]? = some (.cells #[a, b] t (0, 0))) : (∀ w', Ext w w' → w'.cell? ⟨p, 0, none⟩ = some a) ∧ (∀ w', Ext w w' → w'.cell? ⟨p, 1, none⟩ = some b) ∧ (∀ w' j, Ext w w' → w'.frozen? ⟨p, j, none⟩ = false) :=
  ⟨fun _ hx => (row2_at (hx.obj h)).1, fun _ hx => (row2_at (hx.obj h)).2.1, fun _ j hx => (row2_at (hx.obj h)).2.2 j⟩
theorem quoteT_len (l : List UInt8) : (quoteT l).1.length ≤ 5130 := by
  have h := outL_len (letL l)
  have h2 := lets_len' l
  unfold quoteT
  split
  · simp
  · split
    · simp
    · simp only [List.length_append, List.length_cons, List.length_nil]; omega
set_option maxRecDepth 20000 in
set_option maxHeartbeats 1600000 in
theorem Print_any (lo dm : List UInt8) (w : World) (hlo : lo.length ≤ 140737488355320) (hdm : dm.length ≤ 140737488355310) : Calls Tryd.prog 13 #[.agg #[.string (st lo), .string (st dm)]] w (PrSays lo dm w) := by
  have hc0 := rows2 (heap_alloc_new w (.cells #[.string (st lo), .string (st dm)] 23 (0, 0)))
  have hx0 : Ext w (w.alloc (.cells #[.string (st lo), .string (st dm)] 23)) := (Ext.refl w).alloc _
  have hit0 := World.iter_heap (w.alloc (.cells #[.string (st lo), .string (st dm)] 23)) (st lo) 0
  obtain ⟨C0, C1, C2⟩ := hc0
  go_enter Tryd.func13, Tryd.ntmps13
  go_wp2_with (first | (with_reducible refine stop_alloc 23 ?_) | (with_reducible refine stop_store 23 ?_) | (with_reducible refine stop_load 23 ?_))
  obtain ⟨g, hg⟩ : ∃ g, g = w.heap.size := ⟨_, rfl⟩
  rw [← hg] at C0 C1 C2 ⊢
  have hgw : w.heap.size ≤ g := by omega
  have HG := Lib.hid hgw
  generalize hw0 : w.alloc (.cells #[.string (st lo), .string (st dm)] 23) = w0 at *
  have hg0 : w0.heap.size = g + 1 := by rw [← hw0, hg]; simp
  rw [hg0] at hit0
  have hxi : Ext w0 (w0.iter (st lo) 0) := (Ext.refl w0).alloc _
  have HGI : Hid (w0.heap.size ≤ g + 1) := Lib.hid (by omega)
  clear hw0 hg0 hgw hg
  go_loopw [] (fun wr => ∃ pos ds, At lo pos ds ∧ ds.any badLet = false ∧ It wr (g + 1) (st lo) pos ∧ Ext w0 wr) (fun wr => lo.length - wr.iterPos (g + 1))
  case atStart => exact ⟨0, [], At.zero _, rfl, hit0, hxi⟩
  case round =>
    obtain ⟨pos, ds, hat, hds, hit, hx⟩ := hrel
    clear hit0 hxi
    have HDS := Lib.hid hds
    have HPOS := Lib.hid (iterPos_of hit)
    rw [← tl_st lo] at hat
    have HAT := Lib.hid hat
    clear hat hds
    by_cases hlt : pos < (st lo).size
    · have hnx := hit.next hlt
      have hit2 := hit.at_ (pos + (Utf8.decode (st lo) pos).2)
      have hx2 := hx.iterAt (pos := pos + (Utf8.decode (st lo) pos).2) (s := st lo) HGI.out
      obtain ⟨bb, hbl, hspl, hat2⟩ := HAT.out.here hlt
      have hp1 := dec_pos (st lo) pos hlt
      have HAT2 := Lib.hid hat2
      have HPOS2 := Lib.hid (iterPos_of hit2)
      rw [tl_st] at hspl
      have HSPL := Lib.hid hspl
      have HLT : Hid (pos < lo.length) := Lib.hid (by rwa [st_size] at hlt)
      clear hspl hat2 hbl
      generalize (Utf8.decode (st lo) pos).1 = c at *
      generalize (Utf8.decode (st lo) pos).2 = W at *
      by_cases hb1 : (c : Int) < 32
      · have HE : Hid (printT lo dm = ([], 4)) := Lib.hid (by unfold printT; rw [if_pos (by rw [HSPL.out]; simp [badLet]; exact .inr (.inl (.inl (by omega))))])
        go_wp2
        go_ret2
        exact ⟨by rw [HE.out]; rfl, hx0.trans hx2⟩
      · by_cases hb2 : (126 : Int) < c
        · have HE : Hid (printT lo dm = ([], 4)) := Lib.hid (by unfold printT; rw [if_pos (by rw [HSPL.out]; simp [badLet]; exact .inr (.inl (.inr (by omega))))])
          go_wp2
          go_ret2
          exact ⟨by rw [HE.out]; rfl, hx0.trans hx2⟩
        · have HB : Hid ((ds ++ [(c, bb)]).any badLet = false) := Lib.hid (by rw [List.any_append, HDS.out]; simp [badLet]; omega)
          go_wp2
          go_roundw
          case rel => exact ⟨pos + W, ds ++ [(c, bb)], by rw [tl_st] at HAT2; exact HAT2.out, HB.out, hit2, hx2⟩
          case measure => rw [HPOS2.out, HPOS.out]; have := HLT.out; omega
    · have hst := hit.stop hlt
      have HANY : Hid ((letL lo).any badLet = false) := Lib.hid (by have := HAT.out.done hlt; rw [tl_st] at this; rw [this]; exact HDS.out)
      clear HAT HDS hlt
      have HP := fun w => Parse_any (⟨#[97, 64]⟩ ++ st dm) w (by simp [show (⟨#[97, 64]⟩ : ByteArray) = st [97, 64] from rfl, st_append, st_size]; omega)
      rw [show tl (⟨#[97, 64]⟩ ++ st dm) = 97 :: 64 :: dm by rw [show (⟨#[97, 64]⟩ : ByteArray) = st [97, 64] from rfl, st_append, tl_st]; rfl] at HP
      have HLOW := fun w => Lower_any (st dm) w (by rw [st_size]; omega)
      rw [tl_st] at HLOW
      have HBARE := fun w => bare_any (st lo) w (by rw [st_size]; omega)
      rw [tl_st] at HBARE
      have HQ := fun w => Quote_any (st lo) w (by rw [st_size]; omega)
      rw [tl_st] at HQ
      have HPR : Hid (printT lo dm = if lo = [] ∨ dm ≠ lowL dm ∨ ((parseT (97 :: 64 :: dm)).2.2.2 ≠ 0 ∧ (parseT (97 :: 64 :: dm)).2.2.2 ≠ 6) then ([], 4)
        else if 64 < lo.length ∨ 255 < dm.length then ([], 6) else if bareT lo = true then (lo ++ 64 :: dm, 0) else ((quoteT lo).1 ++ 64 :: dm, 0)) := Lib.hid (by unfold printT; rw [if_neg (by rw [HANY.out]; decide)])
      have hcc : ¬ (9223372036854775807 : Int) < 2 + (dm.length : Int) := by omega
      go_wp2_with fail
      refine (HP _).mono ?_
      unfold PSays
      rintro e w1 ⟨rfl, hx1⟩
      clear HP
      generalize parseT (97 :: 64 :: dm) = pr at *
      obtain ⟨pa, pb, pc, pd⟩ := pr
      dsimp only at HPR ⊢
      have hx01 := hx.trans hx1
      clear hx hx1
      go_wp2_with (first | (with_reducible refine stop_alloc 23 ?_) | (with_reducible refine stop_store 23 ?_) | (with_reducible refine stop_load 23 ?_))
      refine go_on (wpList_alloc_ rfl rfl addr_info ?_)
      go_wp2_with (first | (with_reducible refine stop_alloc 23 ?_) | (with_reducible refine stop_store 23 ?_) | (with_reducible refine stop_load 23 ?_))
      refine go_on (wpList_store_whole rfl rfl rfl rfl (heap_alloc_new w1 _) (by kernel_rfl) rfl (by simp [Value.oneCell']) ?_)
      intro w2 hrow hk2 hz2
      have hx2 : Ext w0 w2 := (hx01.alloc _).kept hk2 (one_ge hx01.size)
      clear hrow hk2 hz2 hx01
      generalize w1.heap.size = g2 at *
      by_cases hlo0 : lo = []
      · subst hlo0
        have hq0 : (([] : List UInt8) == []) = true := rfl
        have HE : Hid (printT [] dm = ([], 4)) := Lib.hid (by rw [HPR.out, if_pos (.inl rfl)])
        clear HPR HLOW HBARE HQ
        go_wp2_with fail
        have c0 := C0 _ hx2.drew
        have c1 := C1 _ hx2.drew
        go_quiet (fail)
        go_wp2
        go_ret2
        exact ⟨by rw [HE.out]; rfl, hx0.trans (hx2.drewN _)⟩
      · have hq0 : (lo == []) = false := by simpa using hlo0
        have HL0 := Lib.hid hlo0
        clear hlo0
        by_cases hd : dm = lowL dm
        · have HD := Lib.hid hd
          have hq1 : (dm == lowL dm) = true := by simp [← hd]
          clear hd
          generalize lowL dm = ld at *
          have hpdc : (pd ≠ 0 ∧ pd ≠ 6) ∨ pd = 0 ∨ pd = 6 := by omega
          rcases hpdc with hpd | hpd
          · have HE : Hid (printT lo dm = ([], 4)) := Lib.hid (by rw [HPR.out, if_pos (.inr (.inr hpd))])
            have hq2 : ((pd : Int) != 0) = true := by simp; omega
            have hq3 : ((pd : Int) != 6) = true := by simp; omega
            clear HPR HBARE HQ hpd
            go_wp2_with fail
            go_region_held3 (fun w' => Ext w0 w') (first | exact hx2.drew | assumption) ((go_at_call 19; refine (HLOW _).mono ?_; rintro e w3 ⟨rfl, hx3'⟩; have hx3 : Ext w0 w3 := (by first | exact hx2.drew.trans hx3' | exact Ext.trans (by assumption) hx3'); clear hx3'))
            all_goals
              go_wp2
              go_ret2
              exact ⟨by rw [HE.out]; rfl, hx0.trans hx3⟩
          · have HPR2 := Lib.hid (HPR.out.trans (if_neg (by rintro (h | h | h); exact HL0.out h; exact h HD.out; omega)))
            clear HPR
            rcases hpd with rfl | rfl
            · go_wp2_with fail
              refine wp_region_phase (S := fun w' => Ext w0 w') 19 (by kernel_rfl) (by kernel_rfl) ?_ (fun hHeld => ?_)
              · exact hx2.drew
              simp only [List.drop_succ_cons, List.drop_zero]
              refine name_head ?_
              intro wr0 hw0
              rw [hw0] at hHeld
              refine wpHead_take (i := 0) (v := ?_) (by rfl) (by kernel_rfl) (by kernel_rfl) (by exact fun _ _ _ h => h) (Or.inl ⟨by rfl, ?_⟩) (by assumption) ?_
              rotate_left
              · intro w hSw
                first | (go_simp; done) | (go_simp; with_reducible rfl)
              simp only [List.getElem_toArray, List.getElem_cons_zero, Act.put, List.setIfInBounds_toArray, List.set_cons_zero, List.set_cons_succ]
              refine wpHead_take (i := 1) (v := ?_) (by rfl) (by kernel_rfl) (by kernel_rfl) (by exact fun _ _ _ h => h) (Or.inl ⟨by rfl, ?_⟩) (by assumption) ?_
              rotate_left
              · intro w hSw
                first | (go_simp; done) | (go_simp; with_reducible rfl)
              simp only [List.getElem_toArray, List.getElem_cons_succ, List.getElem_cons_zero, Act.put, List.setIfInBounds_toArray, List.set_cons_zero, List.set_cons_succ]
              refine wpHead_take (i := 2) (v := ?_) (by rfl) (by kernel_rfl) (by kernel_rfl) (by exact fun _ _ _ h => h) (Or.inl ⟨by rfl, ?_⟩) (by assumption) ?_
              rotate_left
              · intro w hSw
                first | (go_simp; done) | (go_simp; with_reducible rfl)
              simp only [List.getElem_toArray, List.getElem_cons_succ, List.getElem_cons_zero, Act.put, List.setIfInBounds_toArray, List.set_cons_zero, List.set_cons_succ]
              refine wpHead_take (i := 3) (v := ?_) (by rfl) (by kernel_rfl) (by kernel_rfl) (by exact fun _ _ _ h => h) (Or.inl ⟨by rfl, ?_⟩) (by assumption) ?_
              rotate_left
              · intro w hSw
                first | (go_simp; done) | (go_simp; with_reducible rfl)
              simp only [List.getElem_toArray, List.getElem_cons_succ, List.getElem_cons_zero, Act.put, List.setIfInBounds_toArray, List.set_cons_zero, List.set_cons_succ]
              refine wpHead_take (i := 4) (v := ?_) (by rfl) (by kernel_rfl) (by kernel_rfl) (by exact fun _ _ _ h => h) (Or.inl ⟨by rfl, ?_⟩) (by assumption) ?_
              rotate_left
              · intro w hSw
                first | (go_simp; done) | (go_simp; with_reducible rfl)
              simp only [List.getElem_toArray, List.getElem_cons_succ, List.getElem_cons_zero, Act.put, List.setIfInBounds_toArray, List.set_cons_zero, List.set_cons_succ]
              refine wpHead_take (i := 5) (v := ?_) (by rfl) (by kernel_rfl) (by kernel_rfl) (by exact fun _ _ _ h => h) (Or.inl ⟨by rfl, ?_⟩) (by assumption) ?_
              rotate_left
              · intro w hSw
                first | (go_simp; done) | (go_simp; with_reducible rfl)
              simp only [List.getElem_toArray, List.getElem_cons_succ, List.getElem_cons_zero, Act.put, List.setIfInBounds_toArray, List.set_cons_zero, List.set_cons_succ]
              refine wpHead_take (i := 6) (v := ?_) (by rfl) (by kernel_rfl) (by kernel_rfl) (by exact fun _ _ _ h => h) (Or.inl ⟨by rfl, ?_⟩) (by assumption) ?_
              rotate_left
              · intro w hSw
                first | (go_simp; done) | (go_simp; with_reducible rfl)
              simp only [List.getElem_toArray, List.getElem_cons_succ, List.getElem_cons_zero, Act.put, List.setIfInBounds_toArray, List.set_cons_zero, List.set_cons_succ]
              refine wpHead_take (i := 7) (v := ?_) (by rfl) (by kernel_rfl) (by kernel_rfl) (by exact fun _ _ _ h => h) (Or.inl ⟨by rfl, ?_⟩) (by assumption) ?_
              rotate_left
              · intro w hSw
                first | (go_simp; done) | (go_simp; with_reducible rfl)
              simp only [List.getElem_toArray, List.getElem_cons_succ, List.getElem_cons_zero, Act.put, List.setIfInBounds_toArray, List.set_cons_zero, List.set_cons_succ]
              refine wpHead_ready (rs := [8]) (by kernel_rfl) (by simp) (by kernel_rfl) ?_
              refine AllHead.cons (by rfl) (fun K hK => ?_) ?_
              · refine step_callG (by rfl) (by kernel_rfl) (HLOW _) ?_
                rintro e wr8 ⟨rfl, hx8⟩
                refine ⟨_, rfl, ?_⟩
                refine hK.out _ _ ?_ (fun hHeld => ?_)
                · exact hHeld.trans hx8
                clear hK K
                try simp only [List.getElem_toArray, List.getElem_cons_succ, List.getElem_cons_zero, Act.put, List.setIfInBounds_toArray, List.set_cons_zero, List.set_cons_succ]
                refine wpHead_take (i := 9) (v := ?_) (by rfl) (by kernel_rfl) (by kernel_rfl) (by exact fun _ _ _ h => h) (Or.inl ⟨by rfl, ?_⟩) (by assumption) ?_
                rotate_left
                · intro w hSw
                  first | (go_simp; done) | (go_simp; with_reducible rfl)
                simp only [List.getElem_toArray, List.getElem_cons_succ, List.getElem_cons_zero, Act.put, List.setIfInBounds_toArray, List.set_cons_zero, List.set_cons_succ]
                refine wpHead_take (i := 10) (v := ?_) (by rfl) (by kernel_rfl) (by kernel_rfl) (by exact fun _ _ _ h => h) (Or.inl ⟨by rfl, ?_⟩) (by assumption) ?_
                rotate_left
                · intro w hSw
                  first | (go_simp; done) | (go_simp; with_reducible rfl)
                simp only [List.getElem_toArray, List.getElem_cons_succ, List.getElem_cons_zero, Act.put, List.setIfInBounds_toArray, List.set_cons_zero, List.set_cons_succ]
                refine wpHead_take (i := 11) (v := ?_) (by rfl) (by kernel_rfl) (by kernel_rfl) (by exact fun _ _ _ h => h) (Or.inl ⟨by rfl, ?_⟩) (by assumption) ?_
                rotate_left
                · intro w hSw
                  first | (go_simp; done) | (go_simp; with_reducible rfl)
                simp only [List.getElem_toArray, List.getElem_cons_succ, List.getElem_cons_zero, Act.put, List.setIfInBounds_toArray, List.set_cons_zero, List.set_cons_succ]
                refine wpHead_take (i := 12) (v := ?_) (by rfl) (by kernel_rfl) (by kernel_rfl) (by exact fun _ _ _ h => h) (Or.inl ⟨by rfl, ?_⟩) (by assumption) ?_
                rotate_left
                · intro w hSw
                  first | (go_simp; done) | (go_simp; with_reducible rfl)
                simp only [List.getElem_toArray, List.getElem_cons_succ, List.getElem_cons_zero, Act.put, List.setIfInBounds_toArray, List.set_cons_zero, List.set_cons_succ]
                refine wpHead_take (i := 13) (v := ?_) (by rfl) (by kernel_rfl) (by kernel_rfl) (by exact fun _ _ _ h => h) (Or.inl ⟨by rfl, ?_⟩) (by assumption) ?_
                rotate_left
                · intro w hSw
                  first | (go_simp; done) | (go_simp; with_reducible rfl)
                simp only [List.getElem_toArray, List.getElem_cons_succ, List.getElem_cons_zero, Act.put, List.setIfInBounds_toArray, List.set_cons_zero, List.set_cons_succ]
                refine wpHead_take (i := 14) (v := ?_) (by rfl) (by kernel_rfl) (by kernel_rfl) (by exact fun _ _ _ h => h) (Or.inl ⟨by rfl, ?_⟩) (by assumption) ?_
                rotate_left
                · intro w hSw
                  first | (go_simp; done) | (go_simp; with_reducible rfl)
                simp only [List.getElem_toArray, List.getElem_cons_succ, List.getElem_cons_zero, Act.put, List.setIfInBounds_toArray, List.set_cons_zero, List.set_cons_succ]
                refine wpHead_take (i := 15) (v := undef) (by rfl) (by kernel_rfl) (by kernel_rfl) (by exact fun _ _ _ h => h) (Or.inr ⟨by rfl, rfl⟩) (by assumption) ?_
                simp only [List.getElem_toArray, List.getElem_cons_succ, List.getElem_cons_zero, Act.put, List.setIfInBounds_toArray, List.set_cons_zero, List.set_cons_succ]
                refine wpHead_take (i := 16) (v := undef) (by rfl) (by kernel_rfl) (by kernel_rfl) (by exact fun _ _ _ h => h) (Or.inr ⟨by rfl, rfl⟩) (by assumption) ?_
                simp only [List.getElem_toArray, List.getElem_cons_succ, List.getElem_cons_zero, Act.put, List.setIfInBounds_toArray, List.set_cons_zero, List.set_cons_succ]
                refine wpHead_take (i := 17) (v := ?_) (by rfl) (by kernel_rfl) (by kernel_rfl) (by exact fun _ _ _ h => h) (Or.inl ⟨by rfl, ?_⟩) (by assumption) ?_
                rotate_left
                · intro w hSw
                  first | (go_simp; done) | (go_simp; with_reducible rfl)
                simp only [List.getElem_toArray, List.getElem_cons_succ, List.getElem_cons_zero, Act.put, List.setIfInBounds_toArray, List.set_cons_zero, List.set_cons_succ]
                refine wpHead_take (i := 18) (v := ?_) (by rfl) (by kernel_rfl) (by kernel_rfl) (by exact fun _ _ _ h => h) (Or.inl ⟨by rfl, ?_⟩) (by assumption) ?_
                rotate_left
                · intro w hSw
                  first | (go_simp; done) | (go_simp; with_reducible rfl)
                simp only [List.getElem_toArray, List.getElem_cons_succ, List.getElem_cons_zero, Act.put, List.setIfInBounds_toArray, List.set_cons_zero, List.set_cons_succ]
                refine wpHead_done (by kernel_rfl) ?_
                have hx3 : Ext w0 wr8 := hHeld
                have c0 := C0 _ hx3
                have c1 := C1 _ hx3
                by_cases h64 : (64 : Int) < (lo.length : Int)
                · have HF : Hid (printT lo dm = ([], 6)) := Lib.hid (by rw [HPR2.out, if_pos (.inl (by omega))])
                  clear HPR2
                  go_wp2
                  go_ret2
                  exact ⟨by rw [HF.out]; rfl, hx0.trans hx3⟩
                · by_cases h255 : (255 : Int) < (dm.length : Int)
                  · have HF : Hid (printT lo dm = ([], 6)) := Lib.hid (by rw [HPR2.out, if_pos (.inr (by omega))])
                    clear HPR2
                    go_wp2
                    go_ret2
                    exact ⟨by rw [HF.out]; rfl, hx0.trans hx3⟩
                  · have HF := Lib.hid (HPR2.out.trans (if_neg (by omega)))
                    clear HPR2
                    go_wp2_with fail
                    refine (HBARE _).mono ?_
                    rintro e w5 ⟨rfl, hx5⟩
                    have hx5' := hx3.trans hx5
                    clear hx5 hx3 c0 c1
                    have c0 := C0 _ hx5'
                    have c1 := C1 _ hx5'
                    cases hb : bareT lo with
                    | true =>
                      rw [hb] at HF
                      have HG : Hid (printT lo dm = (lo ++ 64 :: dm, 0)) := Lib.hid (by rw [HF.out, if_pos rfl])
                      have hcc1 : ¬ (9223372036854775807 : Int) < (lo.length : Int) + 1 := by omega
                      have hcc2 : ¬ (9223372036854775807 : Int) < (lo.length : Int) + 1 + (dm.length : Int) := by omega
                      clear HF hb
                      go_wp2
                      go_ret2
                      refine ⟨?_, hx0.trans hx5'⟩
                      rw [HG.out]
                      simp [show (⟨#[64]⟩ : ByteArray) = st [64] from rfl, st_append]
                    | false =>
                      rw [hb] at HF
                      have HG : Hid (printT lo dm = ((quoteT lo).1 ++ 64 :: dm, 0)) := Lib.hid (by rw [HF.out, if_neg (by decide)])
                      clear HF hb
                      go_wp2_with fail
                      refine (HQ _).mono ?_
                      rintro e w6 ⟨rfl, hx6⟩
                      have HQL := quoteT_len lo
                      generalize quoteT lo = qq at *
                      obtain ⟨q1, q2, q3⟩ := qq
                      dsimp only at HG HQL ⊢
                      have hx6' := hx5'.trans hx6
                      clear hx6 hx5' c0 c1 HQ
                      have c0 := C0 _ hx6'
                      have c1 := C1 _ hx6'
                      have hcc1 : ¬ (9223372036854775807 : Int) < (q1.length : Int) + 1 := by omega
                      have hcc2 : ¬ (9223372036854775807 : Int) < (q1.length : Int) + 1 + (dm.length : Int) := by omega
                      go_wp2
                      go_ret2
                      refine ⟨?_, hx0.trans hx6'⟩
                      rw [HG.out]
                      simp [show (⟨#[64]⟩ : ByteArray) = st [64] from rfl, st_append]
              exact AllHead.nil
            · go_wp2_with fail
              go_region_held3 (fun w' => Ext w0 w') (first | exact hx2.drew | assumption) ((go_at_call 19; refine (HLOW _).mono ?_; rintro e w3 ⟨rfl, hx3'⟩; have hx3 : Ext w0 w3 := (by first | exact hx2.drew.trans hx3' | exact Ext.trans (by assumption) hx3'); clear hx3'))
              all_goals
                have c0 := C0 _ hx3
                have c1 := C1 _ hx3
                by_cases h64 : (64 : Int) < (lo.length : Int)
                · have HF : Hid (printT lo dm = ([], 6)) := Lib.hid (by rw [HPR2.out, if_pos (.inl (by omega))])
                  clear HPR2
                  go_wp2
                  go_ret2
                  exact ⟨by rw [HF.out]; rfl, hx0.trans hx3⟩
                · by_cases h255 : (255 : Int) < (dm.length : Int)
                  · have HF : Hid (printT lo dm = ([], 6)) := Lib.hid (by rw [HPR2.out, if_pos (.inr (by omega))])
                    clear HPR2
                    go_wp2
                    go_ret2
                    exact ⟨by rw [HF.out]; rfl, hx0.trans hx3⟩
                  · have HF := Lib.hid (HPR2.out.trans (if_neg (by omega)))
                    clear HPR2
                    go_wp2_with fail
                    refine (HBARE _).mono ?_
                    rintro e w5 ⟨rfl, hx5⟩
                    have hx5' := hx3.trans hx5
                    clear hx5 hx3 c0 c1
                    have c0 := C0 _ hx5'
                    have c1 := C1 _ hx5'
                    cases hb : bareT lo with
                    | true =>
                      rw [hb] at HF
                      have HG : Hid (printT lo dm = (lo ++ 64 :: dm, 0)) := Lib.hid (by rw [HF.out, if_pos rfl])
                      have hcc1 : ¬ (9223372036854775807 : Int) < (lo.length : Int) + 1 := by omega
                      have hcc2 : ¬ (9223372036854775807 : Int) < (lo.length : Int) + 1 + (dm.length : Int) := by omega
                      clear HF hb
                      go_wp2
                      go_ret2
                      refine ⟨?_, hx0.trans hx5'⟩
                      rw [HG.out]
                      simp [show (⟨#[64]⟩ : ByteArray) = st [64] from rfl, st_append]
                    | false =>
                      rw [hb] at HF
                      have HG : Hid (printT lo dm = ((quoteT lo).1 ++ 64 :: dm, 0)) := Lib.hid (by rw [HF.out, if_neg (by decide)])
                      clear HF hb
                      go_wp2_with fail
                      refine (HQ _).mono ?_
                      rintro e w6 ⟨rfl, hx6⟩
                      have HQL := quoteT_len lo
                      generalize quoteT lo = qq at *
                      obtain ⟨q1, q2, q3⟩ := qq
                      dsimp only at HG HQL ⊢
                      have hx6' := hx5'.trans hx6
                      clear hx6 hx5' c0 c1 HQ
                      have c0 := C0 _ hx6'
                      have c1 := C1 _ hx6'
                      have hcc1 : ¬ (9223372036854775807 : Int) < (q1.length : Int) + 1 := by omega
                      have hcc2 : ¬ (9223372036854775807 : Int) < (q1.length : Int) + 1 + (dm.length : Int) := by omega
                      go_wp2
                      go_ret2
                      refine ⟨?_, hx0.trans hx6'⟩
                      rw [HG.out]
                      simp [show (⟨#[64]⟩ : ByteArray) = st [64] from rfl, st_append]
        · have HE : Hid (printT lo dm = ([], 4)) := Lib.hid (by rw [HPR.out, if_pos (.inr (.inl hd))])
          have hq1 : (dm == lowL dm) = false := by simpa using hd
          clear HPR HBARE HQ hd
          generalize lowL dm = ld at *
          go_wp2_with fail
          refine wp_region_phase (S := fun w' => Ext w0 w') 19 (by kernel_rfl) (by kernel_rfl) ?_ (fun hHeld => ?_)
          · exact hx2.drew
          simp only [List.drop_succ_cons, List.drop_zero]
          refine name_head ?_
          intro wr0 hw0
          rw [hw0] at hHeld
          refine wpHead_take (i := 0) (v := ?_) (by rfl) (by kernel_rfl) (by kernel_rfl) (by exact fun _ _ _ h => h) (Or.inl ⟨by rfl, ?_⟩) (by assumption) ?_
          rotate_left
          · intro w hSw
            first | (go_simp; done) | (go_simp; with_reducible rfl)
          simp only [List.getElem_toArray, List.getElem_cons_zero, Act.put, List.setIfInBounds_toArray, List.set_cons_zero, List.set_cons_succ]
          refine wpHead_take (i := 1) (v := ?_) (by rfl) (by kernel_rfl) (by kernel_rfl) (by exact fun _ _ _ h => h) (Or.inl ⟨by rfl, ?_⟩) (by assumption) ?_
          rotate_left
          · intro w hSw
            first | (go_simp; done) | (go_simp; with_reducible rfl)
          simp only [List.getElem_toArray, List.getElem_cons_succ, List.getElem_cons_zero, Act.put, List.setIfInBounds_toArray, List.set_cons_zero, List.set_cons_succ]
          refine wpHead_take (i := 2) (v := ?_) (by rfl) (by kernel_rfl) (by kernel_rfl) (by exact fun _ _ _ h => h) (Or.inl ⟨by rfl, ?_⟩) (by assumption) ?_
          rotate_left
          · intro w hSw
            first | (go_simp; done) | (go_simp; with_reducible rfl)
          simp only [List.getElem_toArray, List.getElem_cons_succ, List.getElem_cons_zero, Act.put, List.setIfInBounds_toArray, List.set_cons_zero, List.set_cons_succ]
          refine wpHead_take (i := 3) (v := ?_) (by rfl) (by kernel_rfl) (by kernel_rfl) (by exact fun _ _ _ h => h) (Or.inl ⟨by rfl, ?_⟩) (by assumption) ?_
          rotate_left
          · intro w hSw
            first | (go_simp; done) | (go_simp; with_reducible rfl)
          simp only [List.getElem_toArray, List.getElem_cons_succ, List.getElem_cons_zero, Act.put, List.setIfInBounds_toArray, List.set_cons_zero, List.set_cons_succ]
          refine wpHead_take (i := 4) (v := ?_) (by rfl) (by kernel_rfl) (by kernel_rfl) (by exact fun _ _ _ h => h) (Or.inl ⟨by rfl, ?_⟩) (by assumption) ?_
          rotate_left
          · intro w hSw
            first | (go_simp; done) | (go_simp; with_reducible rfl)
          simp only [List.getElem_toArray, List.getElem_cons_succ, List.getElem_cons_zero, Act.put, List.setIfInBounds_toArray, List.set_cons_zero, List.set_cons_succ]
          refine wpHead_take (i := 5) (v := ?_) (by rfl) (by kernel_rfl) (by kernel_rfl) (by exact fun _ _ _ h => h) (Or.inl ⟨by rfl, ?_⟩) (by assumption) ?_
          rotate_left
          · intro w hSw
            first | (go_simp; done) | (go_simp; with_reducible rfl)
          simp only [List.getElem_toArray, List.getElem_cons_succ, List.getElem_cons_zero, Act.put, List.setIfInBounds_toArray, List.set_cons_zero, List.set_cons_succ]
          refine wpHead_take (i := 6) (v := ?_) (by rfl) (by kernel_rfl) (by kernel_rfl) (by exact fun _ _ _ h => h) (Or.inl ⟨by rfl, ?_⟩) (by assumption) ?_
          rotate_left
          · intro w hSw
            first | (go_simp; done) | (go_simp; with_reducible rfl)
          simp only [List.getElem_toArray, List.getElem_cons_succ, List.getElem_cons_zero, Act.put, List.setIfInBounds_toArray, List.set_cons_zero, List.set_cons_succ]
          refine wpHead_take (i := 7) (v := ?_) (by rfl) (by kernel_rfl) (by kernel_rfl) (by exact fun _ _ _ h => h) (Or.inl ⟨by rfl, ?_⟩) (by assumption) ?_
          rotate_left
          · intro w hSw
            first | (go_simp; done) | (go_simp; with_reducible rfl)
          simp only [List.getElem_toArray, List.getElem_cons_succ, List.getElem_cons_zero, Act.put, List.setIfInBounds_toArray, List.set_cons_zero, List.set_cons_succ]
          refine wpHead_ready (rs := [8]) (by kernel_rfl) (by simp) (by kernel_rfl) ?_
          refine AllHead.cons (by rfl) (fun K hK => ?_) ?_
          · refine step_callG (by rfl) (by kernel_rfl) (HLOW _) ?_
            rintro e wr8 ⟨rfl, hx8⟩
            refine ⟨_, rfl, ?_⟩
            refine hK.out _ _ ?_ (fun hHeld => ?_)
            · exact hHeld.trans hx8
            clear hK K
            try simp only [List.getElem_toArray, List.getElem_cons_succ, List.getElem_cons_zero, Act.put, List.setIfInBounds_toArray, List.set_cons_zero, List.set_cons_succ]
            refine wpHead_take (i := 9) (v := ?_) (by rfl) (by kernel_rfl) (by kernel_rfl) (by exact fun _ _ _ h => h) (Or.inl ⟨by rfl, ?_⟩) (by assumption) ?_
            rotate_left
            · intro w hSw
              first | (go_simp; done) | (go_simp; with_reducible rfl)
            simp only [List.getElem_toArray, List.getElem_cons_succ, List.getElem_cons_zero, Act.put, List.setIfInBounds_toArray, List.set_cons_zero, List.set_cons_succ]
            refine wpHead_take (i := 10) (v := ?_) (by rfl) (by kernel_rfl) (by kernel_rfl) (by exact fun _ _ _ h => h) (Or.inl ⟨by rfl, ?_⟩) (by assumption) ?_
            rotate_left
            · intro w hSw
              first | (go_simp; done) | (go_simp; with_reducible rfl)
            simp only [List.getElem_toArray, List.getElem_cons_succ, List.getElem_cons_zero, Act.put, List.setIfInBounds_toArray, List.set_cons_zero, List.set_cons_succ]
            refine wpHead_take (i := 11) (v := ?_) (by rfl) (by kernel_rfl) (by kernel_rfl) (by exact fun _ _ _ h => h) (Or.inl ⟨by rfl, ?_⟩) (by assumption) ?_
            rotate_left
            · intro w hSw
              first | (go_simp; done) | (go_simp; with_reducible rfl)
            simp only [List.getElem_toArray, List.getElem_cons_succ, List.getElem_cons_zero, Act.put, List.setIfInBounds_toArray, List.set_cons_zero, List.set_cons_succ]
            refine wpHead_take (i := 12) (v := undef) (by rfl) (by kernel_rfl) (by kernel_rfl) (by exact fun _ _ _ h => h) (Or.inr ⟨by rfl, rfl⟩) (by assumption) ?_
            simp only [List.getElem_toArray, List.getElem_cons_succ, List.getElem_cons_zero, Act.put, List.setIfInBounds_toArray, List.set_cons_zero, List.set_cons_succ]
            refine wpHead_take (i := 13) (v := undef) (by rfl) (by kernel_rfl) (by kernel_rfl) (by exact fun _ _ _ h => h) (Or.inr ⟨by rfl, rfl⟩) (by assumption) ?_
            simp only [List.getElem_toArray, List.getElem_cons_succ, List.getElem_cons_zero, Act.put, List.setIfInBounds_toArray, List.set_cons_zero, List.set_cons_succ]
            refine wpHead_take (i := 14) (v := undef) (by rfl) (by kernel_rfl) (by kernel_rfl) (by exact fun _ _ _ h => h) (Or.inr ⟨by rfl, rfl⟩) (by assumption) ?_
            simp only [List.getElem_toArray, List.getElem_cons_succ, List.getElem_cons_zero, Act.put, List.setIfInBounds_toArray, List.set_cons_zero, List.set_cons_succ]
            refine wpHead_take (i := 15) (v := undef) (by rfl) (by kernel_rfl) (by kernel_rfl) (by exact fun _ _ _ h => h) (Or.inr ⟨by rfl, rfl⟩) (by assumption) ?_
            simp only [List.getElem_toArray, List.getElem_cons_succ, List.getElem_cons_zero, Act.put, List.setIfInBounds_toArray, List.set_cons_zero, List.set_cons_succ]
            refine wpHead_take (i := 16) (v := undef) (by rfl) (by kernel_rfl) (by kernel_rfl) (by exact fun _ _ _ h => h) (Or.inr ⟨by rfl, rfl⟩) (by assumption) ?_
            simp only [List.getElem_toArray, List.getElem_cons_succ, List.getElem_cons_zero, Act.put, List.setIfInBounds_toArray, List.set_cons_zero, List.set_cons_succ]
            refine wpHead_take (i := 17) (v := undef) (by rfl) (by kernel_rfl) (by kernel_rfl) (by exact fun _ _ _ h => h) (Or.inr ⟨by rfl, rfl⟩) (by assumption) ?_
            simp only [List.getElem_toArray, List.getElem_cons_succ, List.getElem_cons_zero, Act.put, List.setIfInBounds_toArray, List.set_cons_zero, List.set_cons_succ]
            refine wpHead_take (i := 18) (v := ?_) (by rfl) (by kernel_rfl) (by kernel_rfl) (by exact fun _ _ _ h => h) (Or.inl ⟨by rfl, ?_⟩) (by assumption) ?_
            rotate_left
            · intro w hSw
              first | (go_simp; done) | (go_simp; with_reducible rfl)
            simp only [List.getElem_toArray, List.getElem_cons_succ, List.getElem_cons_zero, Act.put, List.setIfInBounds_toArray, List.set_cons_zero, List.set_cons_succ]
            refine wpHead_done (by kernel_rfl) ?_
            have hx3 : Ext w0 wr8 := hHeld
            go_wp2
            go_ret2
            exact ⟨by rw [HE.out]; rfl, hx0.trans hx3⟩
          exact AllHead.nil
end Go.Proofs.YtigkmlhkfpdajaaDoor
