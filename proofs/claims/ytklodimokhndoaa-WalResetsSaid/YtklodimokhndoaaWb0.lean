/- The walks of the log's crown, Force, Left, Room. Conditions: the hypotheses of each theorem. -/
import Derived.Test.YtklodimokhndoaaWa5
import Derived.Test.YtklodimokhndoaaWa9
namespace Go.Proofs.Ytklodimokhndoaa
open Go.RowKit
/-- a head is written, and flushed -/
def crownD (s : Dk) (i gen : Nat) : Int × Dk :=
  if writeE s i (packL (be 8 gen)) ≠ 0 then (writeE s i (packL (be 8 gen)), writeS s i (packL (be 8 gen))) else (flushE (writeS s i (packL (be 8 gen))), flushS (writeS s i (packL (be 8 gen))))
theorem crownD_ok {s : Dk} (h : s.Ok) (i gen : Nat) : (crownD s i gen).2.Ok := by
  unfold crownD
  split
  · exact writeS_ok h _ _
  · exact flushS_ok (writeS_ok h _ _)
theorem crownD_few {s : Dk} {m : Nat} (h : s.Few m) (i gen : Nat) : (crownD s i gen).2.Few (m + 2) := by
  unfold crownD
  split
  · exact (writeS_few h _ _).mono (by omega)
  · exact flushS_few (writeS_few h _ _)
theorem packL_len (l : By) : (packL l).length = 6 + l.length := by simp [packL, be_length]; omega
set_option maxRecDepth 20000 in
set_option maxHeartbeats 2000000 in
theorem wcrown_any {B : List Nat} {w : World} {q p : Nat} {g : Lg} {A : Option Addr} {c : Nat} {v : Value} {s : Dk} {n : Nat} (h : LgRow w q p g A c v) (hD : Disk B w p s) (hqB : q ∉ B) (hs : s.Ok) (hf : s.Few n) (hn : n ≤ 100000)
    (k gen : Nat) (hb : g.base ≤ 512) (h2 : g.size ≤ 256) (hk : k ≤ 1) :
    Calls Try.prog 32 #[pt q, .int .i64 k, .int .u64 gen] w fun e w' => ∃ B', e = .returned (.int .i64 (crownD s (g.at_ k) gen).1) ∧ Disk B' w' p (crownD s (g.at_ k) gen).2 ∧ Turn B w B' w' := by
  have HN := wnumber_any gen w
  have HBL := be_length 8 gen
  have HC : Hid (crownD s (g.at_ k) gen = if writeE s (g.at_ k : Nat) (packL (be 8 gen)) ≠ 0 then (writeE s (g.at_ k : Nat) (packL (be 8 gen)), writeS s (g.at_ k : Nat) (packL (be 8 gen))) else (flushE (writeS s (g.at_ k : Nat) (packL (be 8 gen))), flushS (writeS s (g.at_ k : Nat) (packL (be 8 gen))))) := Lib.hid rfl
  have HPL := packL_len (be 8 gen)
  rw [HBL] at HPL
  have HLT := Lib.hid hD.lt
  have HR := Lib.hid h
  have HD := Lib.hid hD
  have HG : Hid (g.at_ k = g.base + k * g.size) := Lib.hid rfl
  have HQB := Lib.hid hqB
  clear h hD hqB
  generalize g.at_ k = b at *
  generalize hbe : be 8 gen = bb at *
  generalize hpk : packL bb = pk at *
  have HPK := Lib.hid hpk
  have HBB := Lib.hid HBL
  have hpl : pk.length ≤ 14 := by omega
  clear HBL HPL
  clear hbe hpk
  unfold pt at *
  go_enter Try.func32, Try.ntmps32
  go_wp2_with fail
  refine HN.mono ?_
  rintro e w1 ⟨gb, rfl, hgb, hbs, hx1⟩
  clear HN
  have HP := Pack_ok (some ⟨gb, 0, none⟩) 8 8 bb w1 hbs HBB.out.symm (by have := HBB.out; omega) (by have := HBB.out; omega)
  rw [HPK.out] at HP
  clear hbs
  go_wp2_with fail
  refine HP.mono ?_
  rintro e w2 ⟨v2, rfl, ho2, hx2'⟩
  obtain ⟨A2, c2, rfl⟩ := ho2.form
  have hx2 := hx1.trans hx2'
  have HO2 := Lib.hid ho2
  obtain ⟨c0, -⟩ := (HR.out.ext hx2).cell
  have HBG := fun W (hx : Ext w2 W) => wbegins_any (HR.out.ext (hx2.trans hx)) k hb h2 hk
  rw [← HG.out] at HBG
  have HX2 := Lib.hid hx2
  have HX1 := Lib.hid hx1
  have hxd := (Ext.refl w2).drew
  clear HP hx2' hx1 hx2 ho2 hgb
  unfold pt at *
  go_wp2_with fail
  refine wp_region_phase (S := fun V => Ext w2 V) 8 (by kernel_rfl) (by kernel_rfl) ?_ (fun hHeld => ?_)
  · exact hxd
  simp only [List.drop_succ_cons, List.drop_zero]
  refine name_head ?_
  intro wr0 hw0
  rw [hw0] at hHeld
  refine wpHead_take (i := 0) (v := ?_) (by rfl) (by kernel_rfl) (by kernel_rfl) (by exact fun _ _ _ h => h) (Or.inl ⟨by rfl, ?_⟩) (by assumption) ?_
  rotate_left
  · intro w hSw
    first | (go_simp; done) | (go_simp; with_reducible rfl)
  simp only [List.getElem_toArray, List.getElem_cons_zero, Act.put, List.setIfInBounds_toArray, List.set_cons_zero, List.set_cons_succ]
  refine wpHead_take (i := 1) (v := ?_) (by rfl) (by kernel_rfl) (by kernel_rfl) (by exact fun _ _ _ h => h) (Or.inl ⟨by rfl, ?_⟩) (by assumption) ?_
  rotate_left
  · intro w hSw
    first | (go_simp; done) | (go_simp; with_reducible rfl)
  simp only [List.getElem_toArray, List.getElem_cons_succ, List.getElem_cons_zero, Act.put, List.setIfInBounds_toArray, List.set_cons_zero, List.set_cons_succ]
  refine wpHead_take (i := 2) (v := ?_) (by rfl) (by kernel_rfl) (by kernel_rfl) (by exact fun _ _ _ h => h) (Or.inl ⟨by rfl, ?_⟩) (by assumption) ?_
  rotate_left
  · intro w hSw
    first | (go_simp; done) | (go_simp; with_reducible rfl)
  simp only [List.getElem_toArray, List.getElem_cons_succ, List.getElem_cons_zero, Act.put, List.setIfInBounds_toArray, List.set_cons_zero, List.set_cons_succ]
  refine wpHead_take (i := 3) (v := ?_) (by rfl) (by kernel_rfl) (by kernel_rfl) (by exact fun _ _ _ h => h) (Or.inl ⟨by rfl, ?_⟩) (by assumption) ?_
  rotate_left
  · intro w hSw
    first | (go_simp; done) | (go_simp; with_reducible rfl)
  simp only [List.getElem_toArray, List.getElem_cons_succ, List.getElem_cons_zero, Act.put, List.setIfInBounds_toArray, List.set_cons_zero, List.set_cons_succ]
  refine wpHead_take (i := 4) (v := ?_) (by rfl) (by kernel_rfl) (by kernel_rfl) (by exact fun _ _ _ h => h) (Or.inl ⟨by rfl, ?_⟩) (by assumption) ?_
  rotate_left
  · intro w hSw
    first | (go_simp; done) | (go_simp; with_reducible rfl)
  simp only [List.getElem_toArray, List.getElem_cons_succ, List.getElem_cons_zero, Act.put, List.setIfInBounds_toArray, List.set_cons_zero, List.set_cons_succ]
  refine wpHead_take (i := 5) (v := ?_) (by rfl) (by kernel_rfl) (by kernel_rfl) (by exact fun _ _ _ h => h) (Or.inl ⟨by rfl, ?_⟩) (by assumption) ?_
  rotate_left
  · intro w hSw
    first | (go_simp; done) | (go_simp; with_reducible rfl)
  simp only [List.getElem_toArray, List.getElem_cons_succ, List.getElem_cons_zero, Act.put, List.setIfInBounds_toArray, List.set_cons_zero, List.set_cons_succ]
  refine wpHead_take (i := 7) (v := ?_) (by rfl) (by kernel_rfl) (by kernel_rfl) (by exact fun _ _ _ h => h) (Or.inl ⟨by rfl, ?_⟩) (by assumption) ?_
  rotate_left
  · intro w hSw
    first | (go_simp; done) | (go_simp; with_reducible rfl)
  simp only [List.getElem_toArray, List.getElem_cons_succ, List.getElem_cons_zero, Act.put, List.setIfInBounds_toArray, List.set_cons_zero, List.set_cons_succ]
  refine wpHead_ready (rs := [6]) (by kernel_rfl) (by simp) (by kernel_rfl) ?_
  refine AllHead.cons (by rfl) (fun K hK => ?_) ?_
  · refine step_callG (by rfl) (by kernel_rfl) (HBG wr0 hHeld) ?_
    rintro e wr6 ⟨rfl, hx3'⟩
    have hx3 := hHeld.trans hx3'
    refine ⟨_, rfl, ?_⟩
    refine hK.out _ _ ?_ (fun hHeld => ?_)
    · exact hx3
    clear hK K
    try simp only [List.getElem_toArray, List.getElem_cons_succ, List.getElem_cons_zero, Act.put, List.setIfInBounds_toArray, List.set_cons_zero, List.set_cons_succ]
    refine wpHead_done (by kernel_rfl) ?_
    clear HBG c0 hxd
    have hbm : BsM B wr6 A2 pk := BsM.own (HO2.out.ext hHeld) (fun k hk => Nat.lt_of_lt_of_le (HLT.out k hk) HX1.out.size)
    have HWR := Write_any (HD.out.ext (HX2.out.trans hHeld)) hs hf (by omega) (b : Int) A2 c2 pk hbm
    have HXA := Lib.hid (HX2.out.trans hHeld)
    clear hbm hHeld hx3 hx3'
    have hok := writeS_ok hs (b : Int) pk
    have hfw := writeS_few hf (b : Int) pk
    generalize writeE s (b : Int) pk = ew at *
    generalize writeS s (b : Int) pk = s2 at *
    unfold pt at HWR
    go_wp2_with fail
    refine HWR.mono ?_
    rintro e w4 ⟨B2, rfl, hd2, ht2⟩
    clear HWR
    have HT2 := Lib.hid ((Turn.of_ext (B := B) HXA.out).trans ht2)
    have HRR := Lib.hid ((HR.out.ext HXA.out).kept ht2.kept HQB.out)
    have HDD := Lib.hid hd2
    obtain ⟨c0, -⟩ := HRR.out.cell
    have c0 := c0 w4 (Ext.refl _)
    clear ht2 hd2
    by_cases hw : ew = 0
    · have dw : (ew != 0) = false := by simp [hw]
      rw [if_neg (by simp [hw])] at HC
      clear hw
      have HFL := Flush_any HDD.out hok hfw (by omega)
      unfold pt at *
      go_wp2_with fail
      refine HFL.mono ?_
      rintro e w5 ⟨rfl, hd5, ht5⟩
      go_wp2
      go_ret
      exact ⟨B2, by rw [HC.out]; rfl, by rw [HC.out]; exact hd5, HT2.out.trans ht5⟩
    · have dw : (ew != 0) = true := by simpa using hw
      rw [if_pos hw] at HC
      clear hw
      unfold pt at *
      go_wp2
      go_ret
      exact ⟨B2, by rw [HC.out]; rfl, by rw [HC.out]; exact HDD.out, HT2.out⟩
  exact AllHead.nil
end Go.Proofs.Ytklodimokhndoaa
