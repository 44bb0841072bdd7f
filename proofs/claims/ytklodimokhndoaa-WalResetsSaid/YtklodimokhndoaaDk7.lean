/- The walk of disk.Flush. Conditions: those of IsDk. -/
import Derived.Test.YtklodimokhndoaaChecked
import Derived.Test.YtklodimokhndoaaDk6
namespace Go.Proofs.Ytklodimokhndoaa
open Go.RowKit
section
variable {B : List Nat} {w : World} {p g cap : Nat} {s : Dk} {v : Value}
/-- a part of a page is written -/
theorem IsDk.paged (h : IsDk B w p s g cap v) (hs : ∀ q ∈ s.sure, q.length = 64) {i : Nat} (hi : i < s.sure.length) (j : Nat) (q : List UInt8) (hj : j + q.length ≤ 64) :
    IsDk B (w.setCells g (i * 64 + j) (bv q)) p ⟨s.sure.set i (splice s.sure[i] j q), s.waits, s.down, s.cut, s.age⟩ g cap v ∧ Kept [g] w (w.setCells g (i * 64 + j) (bv q)) := by
  have hk : Kept [g] w (w.setCells g (i * 64 + j) (bv q)) := kept_setCells (.inl (by simp)) _ _ _ (Kept.refl _ _)
  have hpl := pcs_len hs
  have e : splice (pcs s.sure) (i * 64 + j) (bv q) = pcs (s.sure.set i (splice s.sure[i] j q)) := by
    unfold pcs
    rw [flat_splice (bv_len64 hs) (by simpa using hi) j (bv q) (by simpa using hj)]
    simp [List.map_set, bv_splice]
  have ho := own_setCells (bv q) (i * 64 + j) w (pcs s.sure) h.own1 (by rw [hpl, bv_length]; have : (i + 1) * 64 ≤ s.sure.length * 64 := Nat.mul_le_mul_right _ hi; omega)
  rw [e] at ho
  have hgr : w.grownBy (w.setCells g (i * 64 + j) (bv q)) (some g) := ⟨hk.os, hk.tape, hk.output, hk.size, fun k hk2 hne => hk.block k hk2 (by simpa using fun e => hne (by rw [e]))⟩
  have h2 : v.ownBlock = none ∨ v.ownBlock ≠ some g := by
    cases hv : v.ownBlock with
    | none => exact .inl rfl
    | some k => exact .inr (by have := (h.apart2 k hv).2; simpa using this)
  exact ⟨⟨by simpa using hk.heap h.row (by simpa using h.apart1.symm), by simpa using ho, h.own2.kept hgr h2, h.pB, h.gB, h.vB, fun k hk2 => by rw [setCells_size]; exact h.lt k hk2⟩, hk⟩
theorem splice_all (a q : List UInt8) (h : a.length = q.length) : splice a 0 q = q := by simp [splice, List.drop_of_length_le, h]
theorem IsDk.paged_all (h : IsDk B w p s g cap v) (hs : ∀ q ∈ s.sure, q.length = 64) {i : Nat} (hi : i < s.sure.length) (q : List UInt8) (hq : q.length = 64) :
    IsDk B (w.setCells g (i * 64) (bv q)) p ⟨s.sure.set i q, s.waits, s.down, s.cut, s.age⟩ g cap v ∧ Kept [g] w (w.setCells g (i * 64) (bv q)) := by
  have h1 := h.paged hs hi 0 q (by omega)
  rw [Nat.add_zero, splice_all _ _ (by rw [hs _ (List.getElem_mem hi), hq])] at h1
  exact h1
theorem IsDk.sure_there (h : IsDk B w p s g cap v) (hs : ∀ q ∈ s.sure, q.length = 64) {i : Nat} (hi : i < s.sure.length) : w.there g (i * 64) 64 :=
  own_there h.own1 _ _ (by rw [pcs_len hs]; have : (i + 1) * 64 ≤ s.sure.length * 64 := Nat.mul_le_mul_right _ hi; omega)
theorem wpList_store_page {ops : Array Oper} {Q : Exit → Act → World → Prop} {rest : List Oper} {a : Act} {x y : Operand} {o : Oper} {i : Nat} {q : List UInt8} (hgd : o.guard = none) (ho : o.op = .store 104 x y)
    (h : IsDk B w p s g cap v) (hs : ∀ q ∈ s.sure, q.length = 64) (hi : i < s.sure.length) (hq : q.length = 64) (hx : a.eval x = .pointer (some ⟨g, i * 64, none⟩)) (hy : a.eval y = .agg (bv q).toArray)
    (hK : ∀ W, IsDk B W p ⟨s.sure.set i q, s.waits, s.down, s.cut, s.age⟩ g cap v → Kept [g] w W → wpList Try.prog ops Q rest (a.put o.dst undef) W) : wpList Try.prog ops Q (o :: rest) a w := by
  obtain ⟨h1, h2⟩ := h.paged_all hs hi q hq
  refine wpList_store_mid hgd 104 x y ho g (i * 64) (bv q).toArray hx hy (by simpa [hq] using h.sure_there hs hi) (page_size hq) (bv_all q) ?_
  exact hK _ h1 h2
theorem IsDk.cleared (h : IsDk B w p s g cap v) : IsDk B (w.setCell ⟨p, 1, none⟩ (.slice none 0 0)) p ⟨s.sure, [], s.down, s.cut, s.age⟩ g cap (.slice none 0 0) ∧ Kept [p] w (w.setCell ⟨p, 1, none⟩ (.slice none 0 0)) := by
  have hs1 : w.grownBy (w.setCell ⟨p, 1, none⟩ (.slice none 0 0)) (some p) := ⟨rfl, rfl, rfl, by simp, fun k _ hk => heap_setCell_other w ⟨p, 1, none⟩ k _ (fun e => hk (by simp [e]))⟩
  exact ⟨⟨by simpa using heap_setCell_same w p 1 _ _ (.slice none 0 0) h.row, h.own1.kept hs1 (.inr (by simpa [Value.ownBlock] using h.apart1)), World.ownsRow_nil _ _ _ _, h.pB, h.gB, by simp [Value.ownBlock], fun k hk => by simpa using h.lt k hk⟩,
    (Kept.refl _ _).setCell (.inl (by simp)) _⟩
theorem IsDk.sub (h : IsDk B w p s g cap v) : (∀ k ∈ [p], k ∈ B) ∧ (∀ k ∈ [g], k ∈ B) := ⟨by intro k hk; simp at hk; subst hk; exact h.pB, by intro k hk; simp at hk; subst hk; exact h.gB⟩
/-- pages behind some writes -/
def laid (l : List (List UInt8)) (ws : List (Nat × List UInt8)) : List (List UInt8) := ws.foldl (fun l x => l.set x.1 x.2) l
theorem laid_snoc (l : List (List UInt8)) (ws : List (Nat × List UInt8)) (x : Nat × List UInt8) : laid l (ws ++ [x]) = (laid l ws).set x.1 x.2 := by simp [laid]
theorem laid_len : ∀ (ws : List (Nat × List UInt8)) (l : List (List UInt8)), (laid l ws).length = l.length
  | [], _ => rfl
  | x :: ws, l => by
    show (laid (l.set x.1 x.2) ws).length = _
    rw [laid_len ws]
    simp
theorem laid_page : ∀ (ws : List (Nat × List UInt8)) (l : List (List UInt8)), (∀ q ∈ l, q.length = 64) → (∀ x ∈ ws, x.2.length = 64) → ∀ q ∈ laid l ws, q.length = 64
  | [], _, h, _ => h
  | x :: ws, l, h, h2 => by
    show ∀ q ∈ laid (l.set x.1 x.2) ws, q.length = 64
    refine laid_page ws _ (fun q hq => ?_) fun y hy => h2 y (by simp [hy])
    rcases List.mem_or_eq_of_mem_set hq with hq | rfl
    · exact h q hq
    · exact h2 x (by simp)
def flushed (s : Dk) : Dk := ⟨laid s.sure s.waits, [], (spent s).down, (spent s).cut, s.age⟩
theorem spent_age (s : Dk) : (spent s).age = s.age := by unfold spent; split <;> rfl
theorem flushed_ok (hs : s.Ok) : (flushed s).Ok := Dk.Ok.mk (laid_page _ _ hs.page fun x hx => (hs.wait x hx).1) (fun x hx => absurd hx (by simp [flushed])) (by simpa [flushed, laid_len] using hs.n1) (by simpa [flushed, laid_len] using hs.n2)
set_option maxHeartbeats 1000000 in
theorem Flush_ok (w : World) (h : IsDk B w p s g cap v) (hs : s.Ok) (hd : s.down = false) (hc : s.cut ≤ 9223372036854775807) (hm : s.waits.length ≤ 1000000) (hsp : (spent s).down = false) :
    Calls Try.prog 52 #[pt p] w fun e w' => e = .returned (.int .i64 0) ∧ Kept B w w' ∧ IsDk B w' p (flushed s) g cap (.slice none 0 0) := by
  have HW := wrong_any w h 0 true
  have HS := fun W (hx : Ext w W) => spend_any W (h.ext hx) hd hc
  rw [wrong_zero hs hd] at HW
  rw [hsp] at HS
  have HOK := Lib.hid hs
  have hpB := h.pB
  have hgB := h.gB
  obtain ⟨cut, hsp2⟩ : ∃ cut, spent s = ⟨s.sure, s.waits, false, cut, s.age⟩ := ⟨(spent s).cut, by
    have h1 := spent_sure s
    have h2 := spent_waits s
    have h3 := spent_age s
    revert hsp h1 h2 h3
    generalize spent s = t
    intro hsp h1 h2 h3
    cases t
    simp only at hsp h1 h2 h3
    rw [hsp, h1, h2, h3]⟩
  have hF : flushed s = ⟨laid s.sure (s.waits.take s.waits.length), [], false, cut, s.age⟩ := by unfold flushed; rw [hsp2, List.take_length]
  rw [hF]
  rw [hsp2] at HS
  clear hsp2 hF
  obtain ⟨A, c, rfl⟩ := own_form h.own2
  clear h hd hc hsp hs
  obtain ⟨sure, ws, down, cut0, age⟩ := s
  simp only at *
  unfold pt at *
  go_enter Try.func52, Try.ntmps52
  go_wp2_with fail
  refine HW.mono ?_
  rintro e w1 ⟨rfl, hx⟩
  clear HW
  go_wp2_with fail
  refine (HS w1 hx).mono ?_
  rintro e w2 ⟨rfl, hk2, h2⟩
  clear HS
  have HKB := Lib.hid ((Kept.of_ext (M := B) hx).trans (hk2.mono h2.sub.1))
  have c1 := h2.cells.2.1 w2 (Ext.refl _)
  have H2 := Lib.hid h2
  clear hk2 h2 hx
  go_wp2
  go_loopw [19] (fun k wr => ∃ j : Nat, k = .int .i64 j ∧ j ≤ ws.length ∧ Kept B w wr ∧ IsDk B wr p ⟨laid sure (ws.take j), ws, false, cut, age⟩ g cap (.slice A ws.length c)) (fun k _ => ws.length - (intOf k).toNat)
  case atStart => exact ⟨0, rfl, by omega, HKB.out, H2.out⟩
  case round =>
    obtain ⟨j, rfl, hj, hkr, hr⟩ := hrel
    have HKR := Lib.hid hkr
    have HR := Lib.hid hr
    have hok : (⟨laid sure (ws.take j), ws, false, cut, age⟩ : Dk).Ok :=
      ⟨laid_page _ _ HOK.out.page fun x hx => (HOK.out.wait x (List.mem_of_mem_take hx)).1, fun x hx => ⟨(HOK.out.wait x hx).1, by show x.1 < (laid sure _).length; rw [laid_len]; exact (HOK.out.wait x hx).2⟩, by show 1 ≤ (laid sure _).length; rw [laid_len]; exact HOK.out.n1, by show (laid sure _).length ≤ 512; rw [laid_len]; exact HOK.out.n2⟩
    have HOKJ := Lib.hid hok
    clear hkr hr hok
    by_cases hlt : j < ws.length
    · have hjn : (j : Int) < (ws.length : Int) := by omega
      obtain ⟨g2, rfl, hg2, hrw, -, hcl⟩ := HR.out.wait_at HOKJ.out (j := j) hlt
      have HW := Lib.hid hrw
      have hxl := (HOK.out.wait _ (List.getElem_mem hlt))
      have hstep : laid sure (ws.take (j + 1)) = (laid sure (ws.take j)).set (ws[j]).1 (ws[j]).2 := by
        rw [List.take_add_one, List.getElem?_eq_getElem hlt, Option.toList_some, laid_snoc]
      have HST := Lib.hid hstep
      have HXL := Lib.hid hxl
      have hsl : (laid sure (ws.take j)).length = sure.length := laid_len _ _
      have HSL := Lib.hid hsl
      clear hrw hstep hxl hsl
      simp only at HW HXL
      generalize ws[j] = xx at *
      obtain ⟨xi, xp⟩ := xx
      simp only at HST HXL
      generalize laid sure (ws.take j) = sj at *
      go_wp2_with (first | (with_reducible refine stop_load61 ?_) | (with_reducible refine stop_alloc61 ?_) | (with_reducible refine stop_store61 ?_))
      refine go_on (wpList_load_mid rfl 106 _ rfl g2 (j * 65) rfl (wc (xi, xp)) _ HW.out Try.underlying106 rfl (by simpa using write_size HXL.out.1) ?_)
      go_wp2_with (first | (with_reducible refine stop_load61 ?_) | (with_reducible refine stop_alloc61 ?_) | (with_reducible refine stop_store61 ?_))
      refine go_on (wpList_alloc_ rfl rfl write_info ?_)
      go_wp2_with (first | (with_reducible refine stop_load61 ?_) | (with_reducible refine stop_alloc61 ?_) | (with_reducible refine stop_store61 ?_))
      refine go_on (wpList_store_last rfl rfl rfl rfl (write_size HXL.out.1) (by simp [wc, zpage_len, HXL.out.1]) (wc_all _) ?_)
      intro w5 hr5 hx5 hz5
      obtain ⟨d0, d1, d2⟩ := wc_range hr5
      have h5 := HR.out.ext hx5
      have D0 : ∀ w', Ext w5 w' → w'.cell? ⟨wr.heap.size, 0, none⟩ = some (.int .i64 (xi : Int)) := fun w' hx => hx.cell d0
      have D1 := Lib.hid (fun w' (hx : Ext w5 w') => range_ext d1 hx)
      have C0 := h5.cells.1
      have H5 := Lib.hid h5
      have HK5 := Lib.hid ((HKR.out).ext hx5)
      have hxi : (xi : Int) < (sj.length : Int) := by rw [HSL.out]; have := HXL.out.2; omega
      have hxi0 : xi < sj.length := by omega
      clear hr5 hx5 hz5 d0 d1 d2 h5
      go_wp2_with fail
      have hxn : Ext w5 w5.drew := (Ext.refl w5).drew
      refine wp_region_phase (S := fun w' => Ext w5 w') 9 (by kernel_rfl) (by kernel_rfl) ?_ (fun hHeld => ?_)
      · exact hxn
      simp only [List.drop_succ_cons, List.drop_zero]
      refine name_head ?_
      intro wr0 hw0
      rw [hw0] at hHeld
      refine wpHead_take (i := 0) (v := ?_) (by rfl) (by kernel_rfl) (by kernel_rfl) (by exact fun _ _ _ h => h) (Or.inl ⟨by rfl, ?_⟩) (by assumption) ?_
      rotate_left
      · intro w hSw
        first | (go_simp; done) | (go_simp; with_reducible rfl)
      simp only [List.getElem_toArray, List.getElem_cons_zero, Act.put, List.setIfInBounds_toArray, List.set_cons_zero, List.set_cons_succ]
      refine wpHead_take (i := 1) (v := ?_) (by rfl) (by kernel_rfl) (by kernel_rfl) (by exact fun _ _ _ h => h) (Or.inl ⟨by rfl, ?_⟩) (by assumption) ?_
      rotate_left
      · intro w hSw
        first | (go_simp; done) | (go_simp; with_reducible rfl)
      simp only [List.getElem_toArray, List.getElem_cons_succ, List.getElem_cons_zero, Act.put, List.setIfInBounds_toArray, List.set_cons_zero, List.set_cons_succ]
      refine wpHead_take (i := 2) (v := ?_) (by rfl) (by kernel_rfl) (by kernel_rfl) (by exact fun _ _ _ h => h) (Or.inl ⟨by rfl, ?_⟩) (by assumption) ?_
      rotate_left
      · intro w hSw
        first | (go_simp; done) | (go_simp; with_reducible rfl)
      simp only [List.getElem_toArray, List.getElem_cons_succ, List.getElem_cons_zero, Act.put, List.setIfInBounds_toArray, List.set_cons_zero, List.set_cons_succ]
      refine wpHead_take (i := 3) (v := ?_) (by rfl) (by kernel_rfl) (by kernel_rfl) (by exact fun _ _ _ h => h) (Or.inl ⟨by rfl, ?_⟩) (by assumption) ?_
      rotate_left
      · intro w hSw
        first | (go_simp; done) | (go_simp; with_reducible rfl)
      simp only [List.getElem_toArray, List.getElem_cons_succ, List.getElem_cons_zero, Act.put, List.setIfInBounds_toArray, List.set_cons_zero, List.set_cons_succ]
      refine wpHead_take (i := 4) (v := ?_) (by rfl) (by kernel_rfl) (by kernel_rfl) (by exact fun _ _ _ h => h) (Or.inl ⟨by rfl, ?_⟩) (by assumption) ?_
      rotate_left
      · intro w hSw
        first | (go_simp; done) | (go_simp; with_reducible rfl)
      simp only [List.getElem_toArray, List.getElem_cons_succ, List.getElem_cons_zero, Act.put, List.setIfInBounds_toArray, List.set_cons_zero, List.set_cons_succ]
      refine wpHead_take (i := 5) (v := ?_) (by rfl) (by kernel_rfl) (by kernel_rfl) (by exact fun _ _ _ h => h) (Or.inl ⟨by rfl, ?_⟩) (by assumption) ?_
      rotate_left
      · intro w hSw
        first | (go_simp; done) | (go_simp; with_reducible rfl)
      simp only [List.getElem_toArray, List.getElem_cons_succ, List.getElem_cons_zero, Act.put, List.setIfInBounds_toArray, List.set_cons_zero, List.set_cons_succ]
      refine wpHead_take (i := 6) (v := ?_) (by rfl) (by kernel_rfl) (by kernel_rfl) (by exact fun _ _ _ h => h) (Or.inl ⟨by rfl, ?_⟩) (by assumption) ?_
      rotate_left
      · intro w hSw
        first | (go_simp; done) | (go_simp; with_reducible rfl)
      simp only [List.getElem_toArray, List.getElem_cons_succ, List.getElem_cons_zero, Act.put, List.setIfInBounds_toArray, List.set_cons_zero, List.set_cons_succ]
      refine wpHead_take (i := 7) (v := (.agg (bv xp).toArray)) (by rfl) (by kernel_rfl) (by kernel_rfl) (by exact fun _ _ _ h => h) (yieldsIf_load_mid (by rfl) 104 _ (by rfl) wr.heap.size 1 (by rfl) (bv xp) _ (fun w' hS => D1.out w' hS) Try.underlying104 rfl (by simpa using page_size HXL.out.1)) (by assumption) ?_
      simp only [List.getElem_toArray, List.getElem_cons_succ, List.getElem_cons_zero, Act.put, List.setIfInBounds_toArray, List.set_cons_zero, List.set_cons_succ]
      refine wpHead_take (i := 8) (v := ?_) (by rfl) (by kernel_rfl) (by kernel_rfl) (by exact fun _ _ _ h => h) (Or.inl ⟨by rfl, ?_⟩) (by assumption) ?_
      rotate_left
      · intro w hSw
        first | (go_simp; done) | (go_simp; with_reducible rfl)
      simp only [List.getElem_toArray, List.getElem_cons_succ, List.getElem_cons_zero, Act.put, List.setIfInBounds_toArray, List.set_cons_zero, List.set_cons_succ]
      refine wpHead_done (by kernel_rfl) ?_
      have h0 := H5.out.ext hHeld
      refine wpList_store_page rfl rfl h0 (by have := HOKJ.out.page; exact this) hxi0 HXL.out.1 rfl rfl ?_
      intro W hW hkW
      have HW6 := Lib.hid hW
      have HK6 := Lib.hid ((HK5.out.ext hHeld).trans (hkW.mono (N := B) h0.sub.2))
      clear hW hkW h0
      go_wp2
      go_roundw
      case rel => exact ⟨j + 1, by go_num, by omega, HK6.out, by rw [HST.out]; exact HW6.out⟩
      case measure => simp [intOf]; omega
    · have hjn : ¬ (j : Int) < (ws.length : Int) := by omega
      have hjj : j = ws.length := by omega
      rw [hjj] at HR
      have hcl := HR.out.cleared
      have HC := Lib.hid hcl
      have HK := Lib.hid (HKR.out.trans (hcl.2.mono (N := B) HR.out.sub.1))
      have c1 := HR.out.cells.2.1 wr (Ext.refl _)
      have cf := fun j => HR.out.cells.2.2.2.2.2 wr j (Ext.refl _)
      clear hjj hcl
      go_wp2
      go_ret
      exact ⟨rfl, HK.out, by have := HC.out.1; rw [List.take_length] at this; exact this⟩
end
end Go.Proofs.Ytklodimokhndoaa
