/- The walk of the law FrameBack: it answers true and turns nothing that was there. Condition: the bytes around are at most 2^20. -/
import Derived.Test.YtapjgncalldngaaFrmLaw
namespace Go.Proofs.Ytapjgncalldngaa
open Go.RowKit
theorem packL_length (p : List UInt8) : (packL p).length = 6 + p.length := by simp [packL, be_length]; omega
theorem oneL_at (x p z : List UInt8) (h0 : 0 < p.length) (h1 : p.length ≤ 2000) : oneL (x ++ packL p ++ z) x.length = (p, (x.length : Int) + 6 + p.length, 0) := by
  have l2 := be_length 2 p.length
  have l4 := be_length 4 (crcF [be 2 p.length, p])
  have hd : (x ++ packL p ++ z).drop x.length = be 2 p.length ++ (be 4 (crcF [be 2 p.length, p]) ++ (p ++ z)) := by
    rw [List.append_assoc, List.drop_left]; simp [packL]
  have t2 : (be 2 p.length ++ (be 4 (crcF [be 2 p.length, p]) ++ (p ++ z))).take 2 = be 2 p.length := by rw [List.take_append_of_le_length (by omega), List.take_of_length_le (by omega)]
  have d2 : (be 2 p.length ++ (be 4 (crcF [be 2 p.length, p]) ++ (p ++ z))).drop 2 = be 4 (crcF [be 2 p.length, p]) ++ (p ++ z) := by rw [List.drop_append_of_le_length (by omega), List.drop_of_length_le (by omega), List.nil_append]
  have t4 : (be 4 (crcF [be 2 p.length, p]) ++ (p ++ z)).take 4 = be 4 (crcF [be 2 p.length, p]) := by rw [List.take_append_of_le_length (by omega), List.take_of_length_le (by omega)]
  have d6 : (be 2 p.length ++ (be 4 (crcF [be 2 p.length, p]) ++ (p ++ z))).drop 6 = p ++ z := by
    rw [show (6 : Nat) = 2 + 4 from rfl, ← List.drop_drop, d2, List.drop_append_of_le_length (by omega), List.drop_of_length_le (by omega), List.nil_append]
  have hn : numL (be 2 p.length) = p.length := numL_be 2 _ (by omega)
  have hc4 : numL (be 4 (crcF [be 2 p.length, p])) = crcF [be 2 p.length, p] := numL_be 4 _ (crcF_lt _)
  have hl : (be 2 p.length ++ (be 4 (crcF [be 2 p.length, p]) ++ (p ++ z))).length = 6 + p.length + z.length := by simp [l2, l4]; omega
  have hx : ¬ ((x.length : Int) < 0 ∨ (((x ++ packL p ++ z).length : Nat) : Int) < (x.length : Int)) := by simp; omega
  unfold oneL
  rw [if_neg hx, Int.toNat_natCast, hd, hl, if_neg (by omega), t2, hn, if_neg (by omega), if_neg (by omega), d6, d2, t4, hc4]
  have tp : (p ++ z).take p.length = p := by simp
  rw [tp]
  simp
theorem oneL_end (b : List UInt8) : (oneL b b.length).2.2 ≠ 0 := by
  unfold oneL
  rw [if_neg (by omega), if_pos (by simp)]
  simp
theorem scan_two (p q : List UInt8) (h0 : 0 < p.length) (h1 : p.length ≤ 2000) (g0 : 0 < q.length) (g1 : q.length ≤ 2000) : scanL (packL p ++ packL q) = ([p, q], (packL p).length + (packL q).length) := by
  have hs := ScanAt.start (packL p ++ packL q)
  have e1 := oneL_at [] p (packL q) h0 h1
  have e2 := oneL_at (packL p) q [] g0 g1
  simp only [List.nil_append, List.length_nil, List.append_nil] at e1 e2
  obtain ⟨n, hn, _, _, hs1⟩ := hs.step (by rw [e1])
  rw [e1] at hn hs1
  have hn' : n = (packL p).length := by rw [packL_length]; simp at hn; omega
  subst hn'
  obtain ⟨m, hm, _, _, hs2⟩ := hs1.step (by rw [e2])
  rw [e2] at hm hs2
  have hm' : m = (packL p ++ packL q).length := by rw [List.length_append, packL_length, packL_length]; simp [packL_length] at hm; omega
  subst hm'
  have := hs2.stop (oneL_end _)
  rw [this, List.length_append]
  rfl
set_option maxHeartbeats 2000000 in
theorem back_any (A B C : Option Addr) (ca cb cc n m k : Nat) (p q r : List UInt8) (w : World) (hA : Bs w A p) (hB : Bs w B q) (hC : Bs w C r) (hn : n = p.length) (hm : m = q.length) (hk : k = r.length) (hr : r.length ≤ 1048576) :
    Calls Try.prog 8 #[.slice A n ca, .slice B m cb, .slice C k cc] w (Yes w) := by
  subst hn hm hk
  by_cases h1 : packE p = 0 ∧ packE q = 0
  · obtain ⟨h1, h2⟩ := h1
    have e1 : 0 < p.length ∧ p.length ≤ 2000 := by unfold packE at h1; (repeat' split at h1) <;> omega
    have e2 : 0 < q.length ∧ q.length ≤ 2000 := by unfold packE at h2; (repeat' split at h2) <;> omega
    have o1 : packO p = packL p := by unfold packO; rw [if_neg (by omega), if_neg (by omega)]
    have o2 : packO q = packL q := by unfold packO; rw [if_neg (by omega), if_neg (by omega)]
    have H1 := Lib.hid h1
    have H2 := Lib.hid h2
    have O1 := Lib.hid o1
    have O2 := Lib.hid o2
    clear h1 h2 o1 o2
    go_enter Try.func8, Try.ntmps8
    go_wp2_with fail
    refine (Pack_any A ca _ p w hA rfl).mono ?_
    rintro e w1 ⟨v1, rfl, ho1, hx1⟩
    obtain ⟨A1, c1, rfl⟩ := ho1.form
    rw [H1.out]
    rw [O1.out] at ho1 ⊢
    have lp := packL_length p
    rw [lp]
    go_wp2_with fail
    refine (Pack_any B cb _ q w1 (hB.ext hx1) rfl).mono ?_
    rintro e w2 ⟨v2, rfl, ho2, hx2⟩
    obtain ⟨A2, c2, rfl⟩ := ho2.form
    rw [H2.out]
    rw [O2.out] at ho2 ⊢
    have lq := packL_length q
    rw [lq]
    have LP := Lib.hid lp
    have LQ := Lib.hid lq
    clear lp lq
    go_wp2_with (at_builtin; refine unstop ?_)
    have hx2' : Ext w w2 := hx1.trans hx2
    have he3 : Ext w2 (w2.alloc (.cells #[] 5)) := (Ext.refl _).alloc _
    refine go_on (wpList_appB bytesT (Own.empty w2 w2.heap.size (Nat.le_refl _)) (hC.ext (hx2'.trans he3)) rfl rfl rfl rfl rfl (by simp; omega) (by simp) ?_)
    rintro v3 w3 ho3 hg3 -
    have hx3 : Ext w2 w3 := he3.own (Own.empty w2 w2.heap.size (Nat.le_refl _)) (Nat.le_refl _) hg3
    obtain ⟨A3, c3, rfl⟩ := ho3.form
    rw [List.nil_append] at ho3 ⊢
    go_wp2_with (at_builtin; refine unstop ?_)
    refine go_on (wpList_appB bytesT ho3 (ho1.bs.ext (hx2.trans hx3)) rfl rfl rfl rfl LP.out.symm (by rw [LP.out]; omega) (by have := hx3.size; omega) ?_)
    rintro v4 w4 ho4 hg4 -
    have hx4 : Ext w2 w4 := hx3.own ho3 (Nat.le_refl _) hg4
    obtain ⟨A4, c4, rfl⟩ := ho4.form
    rw [List.length_append, LP.out] at ho4 ⊢
    go_wp2_with (at_builtin; refine unstop ?_)
    refine go_on (wpList_appB bytesT ho4 (ho2.bs.ext hx4) rfl rfl rfl rfl LQ.out.symm (by rw [List.length_append, LP.out, LQ.out]; omega) (by have := hx4.size; omega) ?_)
    rintro v5 w5 ho5 hg5 -
    have hx5 : Ext w2 w5 := hx4.own ho4 (Nat.le_refl _) hg5
    obtain ⟨A5, c5, rfl⟩ := ho5.form
    rw [List.length_append, List.length_append, LP.out, LQ.out] at ho5 ⊢
    go_wp2_with (at_builtin; refine unstop ?_)
    refine go_on (wpList_appB bytesT ho5 (hC.ext (hx2'.trans hx5)) rfl rfl rfl rfl rfl (by rw [List.length_append, List.length_append, LP.out, LQ.out]; omega) (by have := hx5.size; omega) ?_)
    rintro v6 w6 ho6 hg6 -
    have hx6 : Ext w2 w6 := hx5.own ho5 (Nat.le_refl _) hg6
    obtain ⟨A6, c6, rfl⟩ := ho6.form
    have hl6 : (r ++ packL p ++ packL q ++ r).length = r.length + (6 + p.length) + (6 + q.length) + r.length := by rw [List.length_append, List.length_append, List.length_append, LP.out, LQ.out]
    rw [hl6] at ho6 ⊢
    have q1 := oneL_at r p (packL q ++ r) e1.1 e1.2
    have q2 := oneL_at (r ++ packL p) q r e2.1 e2.2
    rw [← List.append_assoc] at q1
    have hcap := ho6.cap
    have HL6 := Lib.hid hl6
    clear hl6
    generalize hall : r ++ packL p ++ packL q ++ r = all at *
    have HALL := Lib.hid hall
    have Q1 := Lib.hid q1
    have hat : (((r ++ packL p).length : Nat) : Int) = (r.length : Int) + 6 + p.length := by rw [List.length_append, LP.out]; omega
    rw [hat] at q2
    have Q2 := Lib.hid q2
    clear hat
    clear hall q1 q2
    go_wp2_with fail
    refine (One_any A6 c6 _ all r.length w6 ho6.bs HL6.out.symm hcap.1 hcap.2).mono ?_
    rintro e w7 ⟨v7, rfl, ho7, hx7⟩
    obtain ⟨A7, c7, rfl⟩ := ho7.form
    rw [Q1.out] at ho7 ⊢
    dsimp only at ho7 ⊢
    go_wp2_with fail
    refine (One_any A6 c6 _ all _ w7 (ho6.bs.ext hx7) HL6.out.symm hcap.1 hcap.2).mono ?_
    rintro e w8 ⟨v8, rfl, ho8, hx8⟩
    obtain ⟨A8, c8, rfl⟩ := ho8.form
    rw [Q2.out] at ho8 ⊢
    dsimp only at ho8 ⊢
    have hx68 : Ext w6 w8 := hx7.trans hx8
    have hx28 : Ext w2 w8 := hx6.trans hx68
    go_wp2_with (at_builtin; refine unstop ?_)
    have he9 : Ext w8 (w8.alloc (.cells #[] 5)) := (Ext.refl _).alloc _
    refine go_on (wpList_appB bytesT (Own.empty w8 w8.heap.size (Nat.le_refl _)) (ho1.bs.ext (hx2.trans (hx28.trans he9))) rfl rfl rfl rfl LP.out.symm (by rw [LP.out]; simp; omega) (by simp) ?_)
    rintro v9 w9 ho9 hg9 -
    have hx9 : Ext w8 w9 := he9.own (Own.empty w8 w8.heap.size (Nat.le_refl _)) (Nat.le_refl _) hg9
    obtain ⟨A9, c9, rfl⟩ := ho9.form
    rw [List.nil_append] at ho9 ⊢
    rw [LP.out] at ho9 ⊢
    go_wp2_with (at_builtin; refine unstop ?_)
    refine go_on (wpList_appB bytesT ho9 (ho2.bs.ext (hx28.trans hx9)) rfl rfl rfl rfl LQ.out.symm (by rw [LP.out, LQ.out]; omega) (by have := hx9.size; omega) ?_)
    rintro va wa hoa hga -
    have hxa : Ext w8 wa := hx9.own ho9 (Nat.le_refl _) hga
    obtain ⟨Aa, ca', rfl⟩ := hoa.form
    have hla : (packL p ++ packL q).length = 6 + p.length + (6 + q.length) := by rw [List.length_append, LP.out, LQ.out]
    rw [hla] at hoa ⊢
    have hcapa := hoa.cap
    have hst := scan_two p q e1.1 e1.2 e2.1 e2.2
    rw [LP.out, LQ.out] at hst
    have HST := Lib.hid hst
    have HLA := Lib.hid hla
    clear hst hla
    generalize packL p ++ packL q = pq at *
    go_wp2_with fail
    refine (Scan_any Aa ca' _ pq wa hoa.bs HLA.out.symm hcapa.1 hcapa.2 (by rw [HLA.out]; omega)).mono ?_
    rintro e wb ⟨vb, rfl, hob, hxb⟩
    obtain ⟨Ab, cb', rfl⟩ := hob.form
    rw [HST.out] at hob ⊢
    dsimp only [List.length_cons, List.length_nil] at hob ⊢
    go_wp2_with fail
    refine (live_any wb).mono ?_
    rintro e wc ⟨rfl, hxc⟩
    have hx8c : Ext w8 wc := hxa.trans (hxb.trans hxc)
    have hxw : Ext w wc := hx2'.trans (hx28.trans hx8c)
    have s1 := run_str (P := Try.prog) Try.underlying22 Try.underlying5 Try.underlying9 (ho7.bs.ext (hx8.trans hx8c)) _ c7 rfl
    have s2 := run_str (P := Try.prog) Try.underlying22 Try.underlying5 Try.underlying9 (hA.ext hxw) _ ca rfl
    have s3 := run_str (P := Try.prog) Try.underlying22 Try.underlying5 Try.underlying9 (ho8.bs.ext hx8c) _ c8 rfl
    have s4 := run_str (P := Try.prog) Try.underlying22 Try.underlying5 Try.underlying9 (hB.ext hxw) _ cb rfl
    go_wp2_with fail
    refine (RSame_any Ab _ cb' _ 2 2 [p, q] [p, q] _ ((hob.ext (hxc.trans ((Ext.refl _).alloc _))).bss) (BsS.new2 (hA.ext hxw) (hB.ext hxw) _ _) (by simp) (by simp) (by simp)).mono ?_
    rintro e wd ⟨rfl, hxd⟩
    have hd := Lib.hid (show decide ([p, q] = [p, q]) = true from decide_eq_true rfl)
    rw [hd.out]
    go_wp2
    all_goals try omega
    go_ret
    exact Yes.mk' rfl (hxw.trans (((Ext.refl _).alloc _).trans hxd))
  · have hlv : Hid ((packE p != 0) = true ∨ ((packE p != 0) = false ∧ (packE q != 0) = true)) := by
      by_cases h2 : packE p = 0
      · exact .inr ⟨by rw [h2]; rfl, by rw [bne_iff_ne]; intro h3; exact h1 ⟨h2, h3⟩⟩
      · exact .inl (by rw [bne_iff_ne]; exact h2)
    clear h1
    rcases hlv.out with h1 | ⟨h1, h2⟩
    all_goals
      clear hlv
      go_enter Try.func8, Try.ntmps8
      go_wp2_with fail
      refine (Pack_any A ca _ p w hA rfl).mono ?_
      rintro e w1 ⟨v1, rfl, ho1, hx1⟩
      go_wp2_with fail
      refine (Pack_any B cb _ q w1 (hB.ext hx1) rfl).mono ?_
      rintro e w2 ⟨v2, rfl, ho2, hx2⟩
      go_wp2_with fail
      refine (live_any w2).mono ?_
      rintro e w3 ⟨rfl, hx3⟩
      go_wp2
      go_ret
      exact Yes.mk' rfl (hx1.trans (hx2.trans hx3))
end Go.Proofs.Ytapjgncalldngaa
