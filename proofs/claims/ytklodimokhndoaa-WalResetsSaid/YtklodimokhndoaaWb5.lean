/- The walk of the log's Append. Conditions: the hypotheses of the theorem. -/
import Derived.Test.YtklodimokhndoaaWb4
namespace Go.Proofs.Ytklodimokhndoaa
open Go.RowKit
theorem layG_ge : ∀ (f : Nat) (b : Bool) (o rest : By), o.length ≤ (layG f b o rest).length
  | 0, _, _, _ => Nat.le_refl _
  | f + 1, b, o, rest => by
    unfold layG
    split
    · exact Nat.le_refl _
    · have h1 := layC_len b o rest
      have h2 := skipF_ge o.length
      exact Nat.le_trans (by omega) (layG_ge f false (layC b o rest) _)
theorem layG_le : ∀ (f : Nat) (b : Bool) (o rest : By), rest.length ≤ f → (layG f b o rest).length ≤ o.length + 7 * rest.length
  | 0, _, o, rest, h => by unfold layG; omega
  | f + 1, b, o, rest, h => by
    unfold layG
    split
    · omega
    · rename_i hr
      have h1 := layC_len b o rest
      have h2 := skipF_le o.length
      have h3 := fitF_pos o hr
      have h4 := fitF_le o rest
      have h5 := layG_le f false (layC b o rest) (rest.drop (fitF o rest)) (by simp; omega)
      simp only [List.length_drop] at h5
      omega
theorem layF_gt (o r : By) (h : r ≠ []) : skipF o.length + 4 ≤ (layF o r).length := by
  unfold layF
  cases r with
  | nil => exact absurd rfl h
  | cons x r =>
    have h1 := layC_len true o (x :: r)
    have h3 := fitF_pos o h
    simp only [List.length_cons]
    unfold layG
    rw [if_neg h]
    exact Nat.le_trans (by omega) (layG_ge _ _ _ _)
theorem layF_le (o r : By) : (layF o r).length ≤ o.length + 7 * r.length := layG_le _ _ _ _ (Nat.le_refl _)
theorem BsM.page {N : List Nat} {w : World} {g : Nat} {l : By} (h : BsM N w (some ⟨g, 0, none⟩) l) (z k : Nat) : BsM N w (some ⟨g, z, none⟩) ((l.drop z).take k) := fun j u hj => by
  rw [bv_take, bv_drop, List.getElem?_take] at hj
  split at hj
  · rw [List.getElem?_drop] at hj
    obtain ⟨ad, e, hn, hc⟩ := h _ u hj
    injection e with e
    subst e
    refine ⟨_, rfl, hn, ?_⟩
    have e1 : (⟨g, 0, none⟩ : Addr).add (z + j) = ⟨g, z + j, none⟩ := by unfold Addr.add; split <;> simp_all
    have e2 : (⟨g, z, none⟩ : Addr).add j = ⟨g, z + j, none⟩ := by unfold Addr.add; split <;> simp_all
    rw [e1] at hc
    rw [e2]
    exact hc
  · cases hj
theorem sliceZ (g n c z hi : Nat) (h : z < hi) (h2 : hi ≤ n) (hc : n ≤ c) (W : World) : (Instr.slice 46 (.slice (some ⟨g, 0, none⟩) n c) (some (.int .i64 (z : Int))) (some (.int .i64 (hi : Int))) none).run Try.prog W = .ok (.slice (some ⟨g, z, none⟩) (hi - z) (c - z)) W := by
  have he : Try.prog.elem 46 = 5 := by simp [Program.elem, Try.underlying46]
  have ht' : Try.prog.underlying 46 = some (.slice (Try.prog.elem 46)) := by rw [he]; exact Try.underlying46
  rw [run_slice_lh W 46 _ _ _ ht' .i64 .i64 _ _ (by omega) (by omega) (by omega), he, size8]
  have q3 : ¬ c = z := by omega
  simp [Result.andThen, sliced, q3, Addr.add]
  intro h
  exact h.symm
theorem apW_pre (b k0 : Nat) (sp : By) {k m : Nat} (h : k ≤ m) : ∃ r, apW b k0 sp m = apW b k0 sp k ++ r := by
  refine ⟨(List.range' (k0 + k) (m - k)).map fun i => (b + 1 + i, pgO sp i), ?_⟩
  have e : List.range' k0 m = List.range' k0 k ++ List.range' (k0 + k) (m - k) := by
    have := List.range'_append_1 (s := k0) (m := k) (n := m - k)
    rw [this]
    congr 1
    omega
  unfold apW
  rw [e, List.map_append]
theorem SysI.bs {M N : List Nat} {w w' : World} {p q : Nat} {s : Dk} {g : Lg} {B B' : List Nat} {A : Option Addr} {c : Nat} {v : Value} {vs : List Value} (h : SysI M N w p q s g B A c v vs) (t : Turn B w B' w') {A1 : Option Addr} {l : By} (hb : BsM N w A1 l) : BsM (B' ++ N) w' A1 l := by
  refine (SlM.old hb (N := B' ++ N) fun k hk => ?_).kept (t.kept.mono fun k hk => List.mem_append.2 (.inr (h.MN _ (h.BM k hk))))
  rcases List.mem_append.1 hk with hk | hk
  · rcases t.new k hk with h1 | h1
    · exact .inl (h.MN _ (h.BM k h1))
    · exact .inr h1
  · exact .inl hk
theorem ap_step {M N M1 N1 B1 B5 : List Nat} {w wr W W' : World} {p q : Nat} {s1 s5 : Dk} {g : Lg} {A : Option Addr} {c : Nat} {v : Value} {vs : List Value} {As Ar : Option Addr} {sp r : By} (h : SysI M1 N1 wr p q s1 g B1 A c v vs) (ht : Turn M w M1 wr) (hN1 : ∀ k ∈ N, k ∈ N1) (hN2 : ∀ k ∈ N1, k ∈ N ∨ w.heap.size ≤ k)
    (hsp : BsM N1 wr As sp) (hr : BsM N1 wr Ar r) (hx : Ext wr W) (hd : Disk B5 W' p s5) (t5 : Turn B1 W B5 W') :
    ∃ M5 N5, SysI M5 N5 W' p q s5 g B5 A c v vs ∧ Turn M w M5 W' ∧ (∀ k ∈ N, k ∈ N5) ∧ (∀ k ∈ N5, k ∈ N ∨ w.heap.size ≤ k) ∧ BsM N5 W' As sp ∧ BsM N5 W' Ar r := by
  have h4 := h.ext hx
  refine ⟨B5 ++ M1, B5 ++ N1, h4.turn hd t5, (ht.ext hx).trans (h4.turned t5), fun k hk => List.mem_append.2 (.inr (hN1 k hk)), fun k hk => ?_, h4.bs t5 (BsM.kept hsp (.of_ext hx)), h4.bs t5 (BsM.kept hr (.of_ext hx))⟩
  rcases List.mem_append.1 hk with hk | hk
  · rcases t5.new k hk with h1 | h1
    · exact hN2 k (h.MN _ (h.BM k h1))
    · exact .inr (Nat.le_trans (Nat.le_trans ht.kept.size hx.size) h1)
  · exact hN2 k hk
/-- within the loop of Append -/
structure ApI (M N : List Nat) (w : World) (p q : Nat) (s : Dk) (g : Lg) (A : Option Addr) (c : Nat) (v : Value) (vs : List Value) (As : Option Addr) (sp : By) (Ar : Option Addr) (r : By) (k0 k : Nat) (wr : World) : Prop where
  ex : ∃ B1 M1 N1, SysI M1 N1 wr p q (wrF s (apW (g.at_ g.half) k0 sp k)).2 g B1 A c v vs ∧ Turn M w M1 wr ∧ (∀ k ∈ N, k ∈ N1) ∧ (∀ k ∈ N1, k ∈ N ∨ w.heap.size ≤ k) ∧ BsM N1 wr As sp ∧ BsM N1 wr Ar r
  ok : (wrF s (apW (g.at_ g.half) k0 sp k)).1 = 0
set_option maxRecDepth 20000 in
set_option maxHeartbeats 4000000 in
theorem wappend_any {M N : List Nat} {w : World} {p q : Nat} {s : Dk} {g : Lg} (h : Sys M N w p q s g) (hs : s.Ok) {n : Nat} (hf : s.Few n) (hn : n ≤ 100000) (hg : g.Fit) (hsp : g.space.length ≤ 64 * (g.size - 1)) (hrn : g.recs.length ≤ 1000000) (Ar : Option Addr) (cr : Nat) (r : By) (hr : BsM N w Ar r) (hrc : r.length ≤ cr) :
    Calls Try.prog 20 #[pt q, .slice Ar r.length cr] w fun e w' => ∃ M' N', e = .returned (.int .i64 (appendR s g r).1) ∧ Sys M' N' w' p q (appendR s g r).2.1 (appendR s g r).2.2 ∧ Turn M w M' w' ∧ (∀ k ∈ N, k ∈ N') ∧ (∀ k ∈ N', k ∈ N ∨ w.heap.size ≤ k) := by
  obtain ⟨B, A, c, v, vs, hI⟩ := h
  have HI := Lib.hid hI
  have HBG := wbegin_any hI.row hI.disk
  have HAP : Hid (appendR s g r = if beginE s g ≠ 0 then (beginE s g, s, g) else if wrongR r ≠ 0 then (wrongR r, s, g) else if 64 * (g.size - 1) < (layF g.space r).length then (8, s, g)
    else if (wrF s (apW (g.at_ g.half) (skipF g.space.length / 64) (layF g.space r) (apP g.space.length (layF g.space r)))).1 ≠ 0 then
      ((wrF s (apW (g.at_ g.half) (skipF g.space.length / 64) (layF g.space r) (apP g.space.length (layF g.space r)))).1, (wrF s (apW (g.at_ g.half) (skipF g.space.length / 64) (layF g.space r) (apP g.space.length (layF g.space r)))).2, g)
    else (0, (wrF s (apW (g.at_ g.half) (skipF g.space.length / 64) (layF g.space r) (apP g.space.length (layF g.space r)))).2, ⟨g.age, g.base, g.size, g.half, g.gen, layF g.space r, g.recs ++ [r]⟩)) := Lib.hid rfl
  have HR := Lib.hid hr
  obtain ⟨hg1, hg2, hg3, hg4, hg5⟩ := hg
  clear hI hr
  have STAY : Hid (∀ (W : World), Ext w W → ∃ M' N', Sys M' N' W p q s g ∧ Turn M w M' W ∧ (∀ k ∈ N, k ∈ N') ∧ (∀ k ∈ N', k ∈ N ∨ w.heap.size ≤ k)) := Lib.hid fun W hx =>
    ⟨M, N, ⟨B, A, c, v, vs, HI.out.ext hx⟩, .of_ext hx, fun k hk => hk, fun k hk => .inl hk⟩
  unfold pt at *
  go_enter Try.func20, Try.ntmps20
  go_wp2_with fail
  refine HBG.mono ?_
  rintro e w1 ⟨rfl, hx1⟩
  clear HBG
  by_cases hb0 : beginE s g ≠ 0
  · have db : (beginE s g != 0) = true := by simpa using hb0
    have HV := Lib.hid (HAP.out.trans (if_pos hb0))
    clear HAP hb0
    go_wp2
    go_ret
    rw [HV.out]
    obtain ⟨M', N', h1, h2, h3, h4⟩ := STAY.out _ hx1
    exact ⟨M', N', rfl, h1, h2, h3, h4⟩
  · have db : (beginE s g != 0) = false := by simpa using hb0
    rw [if_neg hb0] at HAP
    clear hb0
    generalize beginE s g = eb at *
    have HWR := wwrong_any Ar cr r w1
    go_wp2_with fail
    refine HWR.mono ?_
    rintro e w2 ⟨rfl, rfl⟩
    clear HWR
    by_cases hw0 : wrongR r ≠ 0
    · have dw : (wrongR r != 0) = true := by simpa using hw0
      have HV := Lib.hid (HAP.out.trans (if_pos hw0))
      clear HAP hw0
      go_wp2
      go_ret
      rw [HV.out]
      obtain ⟨M', N', h1, h2, h3, h4⟩ := STAY.out _ hx1
      exact ⟨M', N', rfl, h1, h2, h3, h4⟩
    · have dw : (wrongR r != 0) = false := by simpa using hw0
      rw [if_neg hw0] at HAP
      have hrr : 0 < r.length ∧ r.length ≤ 2000 := by
        have := Decidable.not_not.1 hw0
        unfold wrongR at this
        split at this
        · cases this
        · split at this
          · cases this
          · omega
      obtain ⟨hr0, hr2⟩ := hrr
      clear hw0
      generalize wrongR r = ew at *
      have HI1 := Lib.hid (HI.out.ext hx1)
      have HR1 := Lib.hid (BsM.kept HR.out (.of_ext hx1))
      obtain ⟨c0, -, -, -, c4, -, c6, -, -⟩ := HI1.out.row.cell
      have c6w := c6 w2 (Ext.refl _)
      have HLD := wlaid_any A c g.space Ar cr r w2 HI1.out.sp.bs HR1.out.bs hrc (by omega) hr2
      have hge := layF_le g.space r
      have hgt := layF_gt g.space r (by intro e; rw [e] at hr0; simp at hr0)
      have HSK0 := fun W => wskip_any g.space.length W (by omega)
      clear c0 c4 c6
      unfold pt at *
      go_wp2_with fail
      refine HLD.mono ?_
      rintro e w3 ⟨v3, rfl, ho3, hx3⟩
      clear HLD
      obtain ⟨As, cs, rfl⟩ := ho3.form
      obtain ⟨gs, rfl, -, -⟩ := ho3.some_ (by omega)
      have HI3 := Lib.hid (HI1.out.ext hx3)
      have HR3 := Lib.hid (BsM.kept HR1.out (.of_ext hx3))
      have HX3 := Lib.hid (hx1.trans hx3)
      have HSP : Hid (BsM N w3 (some ⟨gs, 0, none⟩) (layF g.space r) ∧ (layF g.space r).length ≤ cs) := Lib.hid ⟨BsM.own ho3 (fun k hk => Nat.lt_of_lt_of_le (HI.out.lt k hk) hx1.size), ho3.cap.1⟩
      have HRO := wroom_any HI3.out.row (by omega) hg3
      clear ho3 hx3 hx1 c6w HI1 HR1 HR
      generalize hlf : layF g.space r = sp at *
      have HLF := Lib.hid hlf
      clear hlf
      unfold pt at *
      go_wp2_with fail
      refine HRO.mono ?_
      rintro e w' ⟨rfl, rfl⟩
      clear HRO
      by_cases hfull : 64 * (g.size - 1) < sp.length
      · have df : (((g.size - 1) * 64 : Nat) : Int) < (sp.length : Int) := by omega
        have HV := Lib.hid (HAP.out.trans (if_pos hfull))
        clear HAP hfull
        go_wp2
        go_ret
        rw [HV.out]
        obtain ⟨M', N', h1, h2, h3, h4⟩ := STAY.out _ HX3.out
        exact ⟨M', N', rfl, h1, h2, h3, h4⟩
      · have df : ¬ (((g.size - 1) * 64 : Nat) : Int) < (sp.length : Int) := by omega
        rw [if_neg hfull] at HAP
        clear STAY
        have hfl : sp.length ≤ 64 * (g.size - 1) := by omega
        clear hfull
        have HIW := HI3.out
        obtain ⟨c0, -, -, -, c4, -, c6, -, -⟩ := HI3.out.row.cell
        have c6w := c6 _ (Ext.refl _)
        have hsk1 := skipF_ge g.space.length
        have hsk2 := skipF_le g.space.length
        have HPP0 : Hid (apP g.space.length sp = (sp.length + 63) / 64 - skipF g.space.length / 64) := Lib.hid rfl
        generalize skipF g.space.length = a at *
        have hq0 : (a : Int) / 64 = ((a / 64 : Nat) : Int) := by omega
        have HPP : Hid (apP g.space.length sp = (sp.length + 63) / 64 - a / 64) := HPP0
        generalize hk0 : a / 64 = k0 at *
        have hk0b : 64 * k0 ≤ a := by omega
        have HK0 := Lib.hid hk0
        clear hk0 HPP0
        have wq0 : IntKind.i64.wrap ((k0 : Int) * 64) = ((64 * k0 : Nat) : Int) := by rw [wrapI _ (by omega) (by omega)]; omega
        generalize hP : apP g.space.length sp = P at *
        clear hP
        have hz0 : 64 * k0 < sp.length := by omega
        have HA0 : Hid (ApI M N w p q s g A c v vs (some ⟨gs, 0, none⟩) sp Ar r k0 0 w') := Lib.hid ⟨⟨B, M, N, HI3.out, .of_ext HX3.out, fun k hk => hk, fun k hk => .inl hk, HSP.out.1, HR3.out⟩, rfl⟩
        have hcs := HSP.out.2
        clear c0 c4 c6 HI3 HIW HSP HR3 HI
        generalize hz00 : 64 * k0 = z0 at *
        have HZ0 : Hid (z0 = 64 * (k0 + 0)) := Lib.hid (by omega)
        clear hz00
        unfold pt at *
        go_wp2_with fail
        refine (HSK0 _).mono ?_
        rintro e w' ⟨rfl, rfl⟩
        clear HSK0 c6w
        go_wp2
        go_loopw [8] (fun iv wr => ∃ (k z : Nat), iv = .int .i64 z ∧ Hid (z = 64 * (k0 + k)) ∧ z ≤ sp.length + 63 ∧ Hid (ApI M N w p q s g A c v vs (some ⟨gs, 0, none⟩) sp Ar r k0 k wr)) (fun iv _ => sp.length + 64 - (intOf iv).toNat)
        case atStart => exact ⟨0, z0, rfl, HZ0, by omega, HA0⟩
        case round =>
          clear HA0 HZ0
          obtain ⟨k, z, rfl, HZ, hz, HA⟩ := hrel
          by_cases hlt : z < sp.length
          · have hlt2 : (z : Int) < (sp.length : Int) := by omega
            obtain ⟨⟨B1, M1, N1, hI1, ht1, hN1, hN2, hsp1, hr1⟩, hok1⟩ := HA.out
            obtain ⟨c0, -, -, -, c4, -, -, -, -⟩ := hI1.row.cell
            have hzz := HZ.out
            have hPk : k < P := by rw [HPP.out]; omega
            have hkk : k0 + k ≤ 1000 := by omega
            have HHI : Hid (min (z + 64) sp.length - z = min 64 (sp.length - z)) := Lib.hid (by omega)
            have hhi1 : z < min (z + 64) sp.length := by omega
            have hhi2 : min (z + 64) sp.length ≤ sp.length := by omega
            have hhi3 : min (z + 64) sp.length - z ≤ 64 := by omega
            have hmin : min ((z : Int) + 64) (sp.length : Int) = ((min (z + 64) sp.length : Nat) : Int) := by omega
            have wz : IntKind.i64.wrap ((z : Int) + 64) = (z : Int) + 64 := wrapI _ (by omega) (by omega)
            have wq : (z : Int) / 64 = ((k0 + k : Nat) : Int) := by omega
            have hbb : g.at_ g.half ≤ 800 := by
              have : g.half = 0 ∨ g.half = 1 := by omega
              rcases this with e | e <;> simp [Lg.at_, e] <;> omega
            have wb1 : IntKind.i64.wrap ((g.at_ g.half : Int) + 1) = (g.at_ g.half : Int) + 1 := wrapI _ (by omega) (by omega)
            have wb2 : IntKind.i64.wrap ((g.at_ g.half : Int) + 1 + ((k0 + k : Nat) : Int)) = ((g.at_ g.half + 1 + (k0 + k) : Nat) : Int) := by rw [wrapI _ (by omega) (by omega)]; omega
            have HPG : Hid (pgO sp (k0 + k) = (sp.drop z).take (min (z + 64) sp.length - z)) := Lib.hid (by
              rw [pgO, ← hzz]
              by_cases h9 : sp.length ≤ z + 64
              · rw [List.take_of_length_le (by simp; omega), List.take_of_length_le (by simp; omega)]
              · rw [show min (z + 64) sp.length - z = 64 by omega])
            have HPL : Hid ((pgO sp (k0 + k)).length = min (z + 64) sp.length - z) := Lib.hid (by rw [HPG.out]; simp; omega)
            have hcut := fun W => sliceZ gs sp.length cs z (min (z + 64) sp.length) hhi1 hhi2 hcs W
            have HBG := fun W (hx : Ext wr W) => wbegins_any (hI1.row.ext hx) g.half hg1 hg3 hg4
            have hat : g.base + g.half * g.size = g.at_ g.half := rfl
            rw [hat] at HBG
            have HI1 := Lib.hid hI1
            have HS1 := Lib.hid hsp1
            have HR1 := Lib.hid hr1
            have HN1 := Lib.hid hN1
            have HN2 := Lib.hid hN2
            have HT1 := Lib.hid ht1
            have HOK := Lib.hid hok1
            have hxd := (Ext.refl wr).drew
            clear hI1 ht1 hN1 hN2 hsp1 hr1 hok1 hzz hat HA hhi1 hhi2
            generalize hhh : min (z + 64) sp.length = hi at *
            clear hhh
            have HBB : Hid (g.at_ g.half = g.at_ g.half) := Lib.hid rfl
            generalize hbbe : g.at_ g.half = bb at *
            replace HBB := Lib.hid hbbe
            clear hbbe
            have HKK : Hid (k0 + k = k0 + k) := Lib.hid rfl
            generalize hkq : k0 + k = kk at *
            have HKQ := Lib.hid hkq
            clear hkq HKK
            unfold pt at *
            go_wp2_with fail
            refine wp_region_phase (S := fun V => Ext wr V) 22 (by kernel_rfl) (by kernel_rfl) ?_ (fun hHeld => ?_)
            · exact hxd
            simp only [List.drop_succ_cons, List.drop_zero]
            refine name_head ?_
            intro wr0 hw0
            rw [hw0] at hHeld
            refine wpHead_take (i := 0) (v := ?_) (by rfl) (by kernel_rfl) (by kernel_rfl) (by exact fun _ _ _ h => h) (Or.inl ⟨by rfl, ?_⟩) (by assumption) ?_
            rotate_left
            · intro w hSw
              first | (go_simp; done) | (go_simp; with_reducible rfl)
            simp only [List.getElem_toArray, List.getElem_cons_zero, Act.put, List.setIfInBounds_toArray, List.set_cons_zero, List.set_cons_succ]
            refine wpHead_take (i := 1) (v := ?_) (by rfl) (by kernel_rfl) (by kernel_rfl) (by exact fun _ _ _ h => h) (Or.inl ⟨by rfl, ?_⟩) (by assumption) ?_
            rotate_left
            · intro w hSw
              first | (go_simp; done) | (go_simp; with_reducible rfl)
            simp only [List.getElem_toArray, List.getElem_cons_succ, List.getElem_cons_zero, Act.put, List.setIfInBounds_toArray, List.set_cons_zero, List.set_cons_succ]
            refine wpHead_take (i := 2) (v := ?_) (by rfl) (by kernel_rfl) (by kernel_rfl) (by exact fun _ _ _ h => h) (Or.inl ⟨by rfl, ?_⟩) (by assumption) ?_
            rotate_left
            · intro w hSw
              first | (go_simp; done) | (go_simp; with_reducible rfl)
            simp only [List.getElem_toArray, List.getElem_cons_succ, List.getElem_cons_zero, Act.put, List.setIfInBounds_toArray, List.set_cons_zero, List.set_cons_succ]
            refine wpHead_take (i := 3) (v := ?_) (by rfl) (by kernel_rfl) (by kernel_rfl) (by exact fun _ _ _ h => h) (Or.inl ⟨by rfl, ?_⟩) (by assumption) ?_
            rotate_left
            · intro w hSw
              first | (go_simp; done) | (go_simp; with_reducible rfl)
            simp only [List.getElem_toArray, List.getElem_cons_succ, List.getElem_cons_zero, Act.put, List.setIfInBounds_toArray, List.set_cons_zero, List.set_cons_succ]
            refine wpHead_take (i := 4) (v := ?_) (by rfl) (by kernel_rfl) (by kernel_rfl) (by exact fun _ _ _ h => h) (Or.inl ⟨by rfl, ?_⟩) (by assumption) ?_
            rotate_left
            · intro w hSw
              first | (go_simp; done) | (go_simp; with_reducible rfl)
            simp only [List.getElem_toArray, List.getElem_cons_succ, List.getElem_cons_zero, Act.put, List.setIfInBounds_toArray, List.set_cons_zero, List.set_cons_succ]
            refine wpHead_take (i := 5) (v := ?_) (by rfl) (by kernel_rfl) (by kernel_rfl) (by exact fun _ _ _ h => h) (Or.inl ⟨by rfl, ?_⟩) (by assumption) ?_
            rotate_left
            · intro w hSw
              first | (go_simp; done) | (go_simp; with_reducible rfl)
            simp only [List.getElem_toArray, List.getElem_cons_succ, List.getElem_cons_zero, Act.put, List.setIfInBounds_toArray, List.set_cons_zero, List.set_cons_succ]
            refine wpHead_take (i := 6) (v := ?_) (by rfl) (by kernel_rfl) (by kernel_rfl) (by exact fun _ _ _ h => h) (Or.inl ⟨by rfl, ?_⟩) (by assumption) ?_
            rotate_left
            · intro w hSw
              first | (go_simp; done) | (go_simp; with_reducible rfl)
            simp only [List.getElem_toArray, List.getElem_cons_succ, List.getElem_cons_zero, Act.put, List.setIfInBounds_toArray, List.set_cons_zero, List.set_cons_succ]
            refine wpHead_take (i := 7) (v := ?_) (by rfl) (by kernel_rfl) (by kernel_rfl) (by exact fun _ _ _ h => h) (Or.inl ⟨by rfl, ?_⟩) (by assumption) ?_
            rotate_left
            · intro w hSw
              first | (go_simp; done) | (go_simp; with_reducible rfl)
            simp only [List.getElem_toArray, List.getElem_cons_succ, List.getElem_cons_zero, Act.put, List.setIfInBounds_toArray, List.set_cons_zero, List.set_cons_succ]
            refine wpHead_take (i := 8) (v := ?_) (by rfl) (by kernel_rfl) (by kernel_rfl) (by exact fun _ _ _ h => h) (Or.inl ⟨by rfl, ?_⟩) (by assumption) ?_
            rotate_left
            · intro w hSw
              first | (go_simp; done) | (go_simp; with_reducible rfl)
            simp only [List.getElem_toArray, List.getElem_cons_succ, List.getElem_cons_zero, Act.put, List.setIfInBounds_toArray, List.set_cons_zero, List.set_cons_succ]
            refine wpHead_take (i := 11) (v := ?_) (by rfl) (by kernel_rfl) (by kernel_rfl) (by exact fun _ _ _ h => h) (Or.inl ⟨by rfl, ?_⟩) (by assumption) ?_
            rotate_left
            · intro w hSw
              first | (go_simp; done) | (go_simp; with_reducible rfl)
            simp only [List.getElem_toArray, List.getElem_cons_succ, List.getElem_cons_zero, Act.put, List.setIfInBounds_toArray, List.set_cons_zero, List.set_cons_succ]
            refine wpHead_take (i := 12) (v := ?_) (by rfl) (by kernel_rfl) (by kernel_rfl) (by exact fun _ _ _ h => h) (Or.inl ⟨by rfl, ?_⟩) (by assumption) ?_
            rotate_left
            · intro w hSw
              first | (go_simp; done) | (go_simp; with_reducible rfl)
            simp only [List.getElem_toArray, List.getElem_cons_succ, List.getElem_cons_zero, Act.put, List.setIfInBounds_toArray, List.set_cons_zero, List.set_cons_succ]
            refine wpHead_take (i := 14) (v := ?_) (by rfl) (by kernel_rfl) (by kernel_rfl) (by exact fun _ _ _ h => h) (Or.inl ⟨by rfl, ?_⟩) (by assumption) ?_
            rotate_left
            · intro w hSw
              first | (go_simp; done) | (go_simp; with_reducible rfl)
            simp only [List.getElem_toArray, List.getElem_cons_succ, List.getElem_cons_zero, Act.put, List.setIfInBounds_toArray, List.set_cons_zero, List.set_cons_succ]
            refine wpHead_take (i := 15) (v := ?_) (by rfl) (by kernel_rfl) (by kernel_rfl) (by exact fun _ _ _ h => h) (Or.inl ⟨by rfl, ?_⟩) (by assumption) ?_
            rotate_left
            · intro w hSw
              first | (go_simp; done) | (go_simp; with_reducible rfl)
            simp only [List.getElem_toArray, List.getElem_cons_succ, List.getElem_cons_zero, Act.put, List.setIfInBounds_toArray, List.set_cons_zero, List.set_cons_succ]
            refine wpHead_take (i := 16) (v := ?_) (by rfl) (by kernel_rfl) (by kernel_rfl) (by exact fun _ _ _ h => h) (Or.inl ⟨by rfl, ?_⟩) (by assumption) ?_
            rotate_left
            · intro w hSw
              first | (go_simp; done) | (go_simp; with_reducible rfl)
            simp only [List.getElem_toArray, List.getElem_cons_succ, List.getElem_cons_zero, Act.put, List.setIfInBounds_toArray, List.set_cons_zero, List.set_cons_succ]
            refine wpHead_take (i := 17) (v := ?_) (by rfl) (by kernel_rfl) (by kernel_rfl) (by exact fun _ _ _ h => h) (Or.inl ⟨by rfl, ?_⟩) (by assumption) ?_
            rotate_left
            · intro w hSw
              first | (go_simp; done) | (go_simp; with_reducible rfl)
            simp only [List.getElem_toArray, List.getElem_cons_succ, List.getElem_cons_zero, Act.put, List.setIfInBounds_toArray, List.set_cons_zero, List.set_cons_succ]
            refine wpHead_take (i := 18) (v := ?_) (by rfl) (by kernel_rfl) (by kernel_rfl) (by exact fun _ _ _ h => h) (Or.inl ⟨by rfl, ?_⟩) (by assumption) ?_
            rotate_left
            · intro w hSw
              first | (go_simp; done) | (go_simp; with_reducible rfl)
            simp only [List.getElem_toArray, List.getElem_cons_succ, List.getElem_cons_zero, Act.put, List.setIfInBounds_toArray, List.set_cons_zero, List.set_cons_succ]
            refine wpHead_take (i := 19) (v := ?_) (by rfl) (by kernel_rfl) (by kernel_rfl) (by exact fun _ _ _ h => h) (Or.inl ⟨by rfl, ?_⟩) (by assumption) ?_
            rotate_left
            · intro w hSw
              first | (go_simp; done) | (go_simp; with_reducible rfl)
            simp only [List.getElem_toArray, List.getElem_cons_succ, List.getElem_cons_zero, Act.put, List.setIfInBounds_toArray, List.set_cons_zero, List.set_cons_succ]
            refine wpHead_take (i := 20) (v := ?_) (by rfl) (by kernel_rfl) (by kernel_rfl) (by exact fun _ _ _ h => h) (Or.inl ⟨by rfl, ?_⟩) (by assumption) ?_
            rotate_left
            · intro w hSw
              first | (go_simp; done) | (go_simp; with_reducible rfl)
            simp only [List.getElem_toArray, List.getElem_cons_succ, List.getElem_cons_zero, Act.put, List.setIfInBounds_toArray, List.set_cons_zero, List.set_cons_succ]
            refine wpHead_take (i := 21) (v := ?_) (by rfl) (by kernel_rfl) (by kernel_rfl) (by exact fun _ _ _ h => h) (Or.inl ⟨by rfl, ?_⟩) (by assumption) ?_
            rotate_left
            · intro w hSw
              first | (go_simp; done) | (go_simp; with_reducible rfl)
            simp only [List.getElem_toArray, List.getElem_cons_succ, List.getElem_cons_zero, Act.put, List.setIfInBounds_toArray, List.set_cons_zero, List.set_cons_succ]
            refine wpHead_ready (rs := [9]) (by kernel_rfl) (by simp) (by kernel_rfl) ?_
            refine AllHead.cons (by rfl) (fun K hK => ?_) ?_
            · refine step_callG (by rfl) (by kernel_rfl) (HBG wr0 hHeld) ?_
              rintro e wr9 ⟨rfl, hx3'⟩
              have hx3 := hHeld.trans hx3'
              refine ⟨_, rfl, ?_⟩
              refine hK.out _ _ ?_ (fun hHeld => ?_)
              · exact hx3
              clear hK K
              try simp only [List.getElem_toArray, List.getElem_cons_succ, List.getElem_cons_zero, Act.put, List.setIfInBounds_toArray, List.set_cons_zero, List.set_cons_succ]
              refine wpHead_take (i := 10) (v := ?_) (by rfl) (by kernel_rfl) (by kernel_rfl) (by exact fun _ _ _ h => h) (Or.inl ⟨by rfl, ?_⟩) (by assumption) ?_
              rotate_left
              · intro w hSw
                first | (go_simp; done) | (go_simp; with_reducible rfl)
              simp only [List.getElem_toArray, List.getElem_cons_succ, List.getElem_cons_zero, Act.put, List.setIfInBounds_toArray, List.set_cons_zero, List.set_cons_succ]
              refine wpHead_take (i := 13) (v := ?_) (by rfl) (by kernel_rfl) (by kernel_rfl) (by exact fun _ _ _ h => h) (Or.inl ⟨by rfl, ?_⟩) (by assumption) ?_
              rotate_left
              · intro w hSw
                first | (go_simp; done) | (go_simp; with_reducible rfl)
              simp only [List.getElem_toArray, List.getElem_cons_succ, List.getElem_cons_zero, Act.put, List.setIfInBounds_toArray, List.set_cons_zero, List.set_cons_succ]
              refine wpHead_done (by kernel_rfl) ?_
              clear HBG c0 c4 hxd wz wq wb1 wb2 hmin hcut
              have HI4 := Lib.hid (HI1.out.ext hHeld)
              have hbm : BsM B1 wr9 (some ⟨gs, z, none⟩) (pgO sp kk) := by
                rw [HPG.out]
                exact SlM.less ((BsM.kept HS1.out (.of_ext hHeld)).page z _) (fun k hk => HI4.out.MN _ (HI4.out.BM k hk))
              have hfw := wrF_few (apW bb k0 sp k) s n hf
              have HWR := Write_any HI4.out.disk (wrF_ok _ _ hs) hfw (by have := HKQ.out; simp [apW]; omega) ((bb + 1 + kk : Nat) : Int) (some ⟨gs, z, none⟩) (cs - z) (pgO sp kk) hbm
              rw [HPL.out] at HWR
              have HSN : Hid (wrF s (apW bb k0 sp (k + 1)) = (writeE (wrF s (apW bb k0 sp k)).2 ((bb + 1 + kk : Nat) : Int) (pgO sp kk), writeS (wrF s (apW bb k0 sp k)).2 ((bb + 1 + kk : Nat) : Int) (pgO sp kk))) := Lib.hid (by
                rw [apW_succ, HKQ.out]
                exact wrF_snoc (y := (bb + 1 + kk, pgO sp kk)) (Prod.ext HOK.out rfl))
              generalize writeE (wrF s (apW bb k0 sp k)).2 ((bb + 1 + kk : Nat) : Int) (pgO sp kk) = e5 at *
              generalize writeS (wrF s (apW bb k0 sp k)).2 ((bb + 1 + kk : Nat) : Int) (pgO sp kk) = s5 at *
              clear hbm hfw hx3 hx3'
              unfold pt at *
              go_wp2_with fail
              refine HWR.mono ?_
              rintro e w5 ⟨B5, rfl, hd5, ht5⟩
              clear HWR
              have HST := Lib.hid (ap_step HI1.out HT1.out HN1.out HN2.out HS1.out HR1.out hHeld hd5 ht5)
              clear hd5 ht5 hHeld HI1 HI4 HT1 HN1 HN2 HS1 HR1 HPG HPL
              by_cases hw : e5 = 0
              · have dw : (e5 != 0) = false := by simp [hw]
                have HA5 : Hid (ApI M N w p q s g A c v vs (some ⟨gs, 0, none⟩) sp Ar r k0 (k + 1) w5) := Lib.hid (by
                  obtain ⟨M5, N5, z1, z2⟩ := HST.out
                  refine ⟨⟨B5, M5, N5, ?_, z2⟩, ?_⟩ <;> rw [HBB.out, HSN.out]
                  · exact z1
                  · exact hw)
                clear hw HST
                go_wp2_with fail
                go_roundw
                case rel => exact ⟨k + 1, z + 64, by go_num, Lib.hid (by have := HZ.out; have := HKQ.out; omega), by omega, HA5⟩
                case measure => simp [intOf]; omega
              · have dw : (e5 != 0) = true := by simpa using hw
                have HV : Hid (appendR s g r = (e5, s5, g)) := Lib.hid (by
                  obtain ⟨rest, hrest⟩ := apW_pre bb k0 sp (k := k + 1) (m := P) (by omega)
                  have hbad := wrF_bad _ s s5 e5 rest hw HSN.out
                  rw [← hrest] at hbad
                  rw [HAP.out, hbad, if_pos hw])
                clear hw
                go_wp2
                go_ret
                rw [HV.out]
                obtain ⟨M5, N5, z1, z2, z3, z4, -⟩ := HST.out
                exact ⟨M5, N5, rfl, ⟨B5, A, c, v, vs, z1⟩, z2, z3, z4⟩
            exact AllHead.nil
          · have hlt2 : ¬ (z : Int) < (sp.length : Int) := by omega
            obtain ⟨⟨B1, M1, N1, hI1, ht1, hN1, hN2, hsp1, hr1⟩, hok1⟩ := HA.out
            have hzz := HZ.out
            obtain rfl : k = P := by rw [HPP.out]; omega
            clear hzz
            have HV : Hid (appendR s g r = (0, (wrF s (apW (g.at_ g.half) k0 sp k)).2, ⟨g.age, g.base, g.size, g.half, g.gen, sp, g.recs ++ [r]⟩)) := Lib.hid (by rw [HAP.out, if_neg (by rw [hok1]; decide)])
            obtain ⟨-, -, -, -, -, -, c6, -, f6⟩ := hI1.row.cell
            have c6 := c6 wr (Ext.refl _)
            have f66 := f6 wr 6 (Ext.refl _)
            have hI6 := hI1.set6 hsp1 hcs
            have hkq : Kept [q] wr (wr.setCell ⟨q, 6, none⟩ (.slice (some ⟨gs, 0, none⟩) sp.length cs)) := (Kept.refl _ _).setCell (.inl (by simp)) _
            have hr6 := BsM.kept hr1 (hkq.mono (N := N1) (by simpa using hI1.MN q hI1.qM))
            have ht6 : Turn M w M1 (wr.setCell ⟨q, 6, none⟩ (.slice (some ⟨gs, 0, none⟩) sp.length cs)) := ht1.trans (Turn.of_kept (hkq.mono (by simpa using hI1.qM)))
            generalize wrF s (apW (g.at_ g.half) k0 sp k) = z5 at *
            obtain ⟨W6, hW6⟩ : ∃ W6, wr.setCell ⟨q, 6, none⟩ (.slice (some ⟨gs, 0, none⟩) sp.length cs) = W6 := ⟨_, rfl⟩
            rw [hW6] at hI6 hr6 ht6
            have HW6 := Lib.hid hW6
            have HI6 := Lib.hid hI6
            have HR6 := Lib.hid hr6
            have HT6 := Lib.hid ht6
            have HN1 := Lib.hid hN1
            have HN2 := Lib.hid hN2
            obtain ⟨Av, cv, rfl⟩ := own_form hI6.own
            have hqR : q ∉ (Value.slice Av g.recs.length cv).ownBlock.toList := fun hm => by
              have hm : (Value.slice Av g.recs.length cv).ownBlock = some q := by simpa using hm
              rcases hI6.vq with e | e
              · rw [e] at hm; cases hm
              · exact e hm
            have HRN : Hid (∀ k ∈ (Value.slice Av g.recs.length cv).ownBlock.toList, k ∈ N1) := Lib.hid fun k hk => hI6.MN k (hI6.vM k (by simpa using hk))
            have HQR := Lib.hid hqR
            clear hI1 hr1 hkq hI6 hr6 ht6 hW6 hN1 hN2 hsp1 ht1 f6 hqR hok1
            unfold pt at *
            go_wp2_with fail
            rw [HW6.out]
            generalize hR : (Value.slice Av g.recs.length cv).ownBlock.toList = R at *
            have hxd : Kept R W6 W6.drew := Kept.of_ext (Ext.refl W6).drew
            have C7 : ∀ V, Kept R W6 V → V.cell? ⟨q, 7, none⟩ = some (.slice Av g.recs.length cv) := fun V hx => (LgC.cell (HI6.out.row.kept hx HQR.out)).2.2.2.2.1
            have F7 : ∀ V, Kept R W6 V → V.frozen? ⟨q, 7, none⟩ = false := fun V hx => (LgC.cell (HI6.out.row.kept hx HQR.out)).2.2.2.2.2 7
            have HCL := fun V (hx : Kept R W6 V) => fclone_any Ar cr r.length r V (BsM.kept HR6.out (hx.mono HRN.out)).bs (by omega) rfl
            have HRR := Lib.hid hR
            clear hR c6 f66
            go_wp2_with fail
            refine wp_region_phase (S := fun V => Kept R W6 V) 11 (by kernel_rfl) (by kernel_rfl) ?_ (fun hHeld => ?_)
            · exact hxd
            simp only [List.drop_succ_cons, List.drop_zero]
            refine name_head ?_
            intro wr0 hw0
            rw [hw0] at hHeld
            have ho : wr0.ownsRow 0 46 1 (.slice Av g.recs.length cv) g.recs.length vs := hw0 ▸ HI6.out.own
            refine wpHead_take (i := 0) (v := ?_) (by rfl) (by kernel_rfl) (by kernel_rfl) (by exact fun _ _ _ h => h) (Or.inl ⟨by rfl, ?_⟩) (by assumption) ?_
            rotate_left
            · intro w hSw
              first | (go_simp; done) | (go_simp; with_reducible rfl)
            simp only [List.getElem_toArray, List.getElem_cons_zero, Act.put, List.setIfInBounds_toArray, List.set_cons_zero, List.set_cons_succ]
            refine wpHead_take (i := 1) (v := ?_) (by rfl) (by kernel_rfl) (by kernel_rfl) (by exact fun _ _ _ h => h) (Or.inl ⟨by rfl, ?_⟩) (by assumption) ?_
            rotate_left
            · intro w hSw
              first | (go_simp; done) | (go_simp; with_reducible rfl)
            simp only [List.getElem_toArray, List.getElem_cons_succ, List.getElem_cons_zero, Act.put, List.setIfInBounds_toArray, List.set_cons_zero, List.set_cons_succ]
            refine wpHead_take (i := 2) (v := ?_) (by rfl) (by kernel_rfl) (by kernel_rfl) (by exact fun _ _ _ h => h) (Or.inl ⟨by rfl, ?_⟩) (by assumption) ?_
            rotate_left
            · intro w hSw
              first | (go_simp; done) | (go_simp; with_reducible rfl)
            simp only [List.getElem_toArray, List.getElem_cons_succ, List.getElem_cons_zero, Act.put, List.setIfInBounds_toArray, List.set_cons_zero, List.set_cons_succ]
            refine wpHead_take (i := 3) (v := ?_) (by rfl) (by kernel_rfl) (by kernel_rfl) (by exact fun _ _ _ h => h) (Or.inl ⟨by rfl, ?_⟩) (by assumption) ?_
            rotate_left
            · intro w hSw
              first | (go_simp; done) | (go_simp; with_reducible rfl)
            simp only [List.getElem_toArray, List.getElem_cons_succ, List.getElem_cons_zero, Act.put, List.setIfInBounds_toArray, List.set_cons_zero, List.set_cons_succ]
            refine wpHead_take (i := 4) (v := ?_) (by rfl) (by kernel_rfl) (by kernel_rfl) (by exact fun _ _ _ h => h) (Or.inl ⟨by rfl, ?_⟩) (by assumption) ?_
            rotate_left
            · intro w hSw
              first | (go_simp; done) | (go_simp; with_reducible rfl)
            simp only [List.getElem_toArray, List.getElem_cons_succ, List.getElem_cons_zero, Act.put, List.setIfInBounds_toArray, List.set_cons_zero, List.set_cons_succ]
            refine wpHead_take (i := 5) (v := ?_) (by rfl) (by kernel_rfl) (by kernel_rfl) (by exact fun _ _ _ h => h) (Or.inl ⟨by rfl, ?_⟩) (by assumption) ?_
            rotate_left
            · intro w hSw
              first | (go_simp; done) | (go_simp; with_reducible rfl)
            simp only [List.getElem_toArray, List.getElem_cons_succ, List.getElem_cons_zero, Act.put, List.setIfInBounds_toArray, List.set_cons_zero, List.set_cons_succ]
            refine wpHead_ready (rs := [6]) (by kernel_rfl) (by simp) (by kernel_rfl) ?_
            refine AllHead.cons (by rfl) (fun K hK => ?_) ?_
            · refine step_callG (by rfl) (by kernel_rfl) (HCL wr0 hHeld) ?_
              rintro e wr6 ⟨vu, rfl, hu, hxu⟩
              obtain ⟨Au, cu, rfl⟩ := hu.form
              replace ho := owns_ext ho hxu
              have hku := hHeld.ext hxu
              have hbu := hHeld.size
              refine ⟨_, rfl, ?_⟩
              refine hK.out _ _ ?_ (fun hHeld => ?_)
              · exact hku
              clear hK K
              try simp only [List.getElem_toArray, List.getElem_cons_succ, List.getElem_cons_zero, Act.put, List.setIfInBounds_toArray, List.set_cons_zero, List.set_cons_succ]
              refine wpHead_ready (rs := [7]) (by kernel_rfl) (by simp) (by kernel_rfl) ?_
              refine AllHead.cons (by rfl) (fun K hK => ?_) ?_
              · go_simp
                refine name_world ?_
                rintro wr7 hw7
                have hxn7 : Ext wr6 wr7 := hw7 ▸ (Ext.refl _).alloc _
                have hrow7 : wr7.heap[wr6.heap.size]? = some (.cells #[.slice Au r.length cu] 46) := hw7 ▸ heap_alloc_new wr6 _
                replace ho := owns_ext ho hxn7
                replace hu := hu.ext hxn7
                have hk7 := hHeld.ext hxn7
                refine hK.out _ _ ?_ (fun hHeld => ?_)
                · exact hk7
                clear hK K
                try simp only [List.getElem_toArray, List.getElem_cons_succ, List.getElem_cons_zero, Act.put, List.setIfInBounds_toArray, List.set_cons_zero, List.set_cons_succ]
                refine wpHead_ready (rs := [8]) (by kernel_rfl) (by simp) (by kernel_rfl) ?_
                refine AllHead.cons (by rfl) (fun K hK => ?_) ?_
                · refine step_ap bytessT ho (Sl.of_row (l := [.slice Au r.length cu]) hrow7) rfl rfl rfl rfl rfl (by simp [Value.oneCell']) (by omega) (by omega) (Nat.zero_le _) ?_
                  rintro v8 wr8 ho8 hg8 hor8
                  have hk8 : Kept R W6 wr8 := hHeld.grown hg8 fun k hk => .inl (by rw [← HRR.out]; simp [hk])
                  replace hu := hu.kept hg8 (owns_apart hu ho (by decide))
                  have hor9 : v8.ownBlock = (Value.slice Av g.recs.length cv).ownBlock ∨ ∃ k, v8.ownBlock = some k ∧ W6.heap.size ≤ k := by
                    rcases hor8 with e | e
                    · exact .inl e
                    · exact .inr ⟨_, e, hHeld.size⟩
                  obtain ⟨A8, c8, rfl⟩ := own_form ho8
                  refine hK.out _ _ ?_ (fun hHeld => ?_)
                  · exact hk8
                  clear hK K
                  try simp only [List.getElem_toArray, List.getElem_cons_succ, List.getElem_cons_zero, Act.put, List.setIfInBounds_toArray, List.set_cons_zero, List.set_cons_succ]
                  refine wpHead_take (i := 9) (v := ?_) (by rfl) (by kernel_rfl) (by kernel_rfl) (by exact fun _ _ _ h => h) (Or.inl ⟨by rfl, ?_⟩) (by assumption) ?_
                  rotate_left
                  · intro w hSw
                    first | (go_simp; done) | (go_simp; with_reducible rfl)
                  simp only [List.getElem_toArray, List.getElem_cons_succ, List.getElem_cons_zero, Act.put, List.setIfInBounds_toArray, List.set_cons_zero, List.set_cons_succ]
                  refine wpHead_take (i := 10) (v := ?_) (by rfl) (by kernel_rfl) (by kernel_rfl) (by exact fun _ _ _ h => h) (Or.inl ⟨by rfl, ?_⟩) (by assumption) ?_
                  rotate_left
                  · intro w hSw
                    first | (go_simp; done) | (go_simp; with_reducible rfl)
                  simp only [List.getElem_toArray, List.getElem_cons_succ, List.getElem_cons_zero, Act.put, List.setIfInBounds_toArray, List.set_cons_zero, List.set_cons_succ]
                  refine wpHead_done (by kernel_rfl) ?_
                  have hkz : Kept (Value.slice Av g.recs.length cv).ownBlock.toList W6 wr8 := by rw [HRR.out]; exact hk8
                  have HP := Lib.hid (HI6.out.push hkz ho8 hor9 hu hbu)
                  have HNN : Hid (∀ k ∈ (Value.slice A8 (g.recs.length + 1) c8).ownBlock.toList ++ N1, k ∈ N ∨ w.heap.size ≤ k) := Lib.hid fun k hk => by
                    rcases List.mem_append.1 hk with hk | hk
                    · have hk : (Value.slice A8 (g.recs.length + 1) c8).ownBlock = some k := by simpa using hk
                      rcases hor9 with e | ⟨j, e, hj⟩
                      · exact HN2.out k (HRN.out k (by rw [← HRR.out, ← e]; simp [hk]))
                      · rw [e] at hk
                        injection hk with hk
                        have := HT6.out.kept.size
                        exact .inr (by omega)
                    · exact HN2.out k hk
                  have c78 := C7 wr8 hk8
                  have f78 := F7 wr8 hk8
                  clear hkz ho8 hor9 hu hbu hg8 hor8 ho hk8 hk7 hku hHeld C7 F7 HCL
                  go_wp2
                  go_ret
                  rw [HV.out]
                  exact ⟨rfl, _, _, ⟨B1, _, _, _, _, HP.out.1⟩, HT6.out.trans HP.out.2, fun k hk => List.mem_append.2 (.inr (HN1.out k hk)), HNN.out⟩
                exact AllHead.nil
              exact AllHead.nil
            exact AllHead.nil
end Go.Proofs.Ytklodimokhndoaa
