/- The log's Reset, in plain words. No program. Conditions: the hypotheses of each theorem. What a new beginning leaves, cut off wherever. No program. Conditions: the hypotheses of each theorem. A new beginning is whole, or there is none. No program. Conditions: the hypotheses of each theorem. The walk of the log's Reset, where the other half's head is empty. Conditions: the hypotheses of the theorem. What Reset leaves is a disk and a log that may be; rows of bytes that lie apart. Conditions: the hypotheses of each theorem. -/
import Derived.Test.YtklodimokhndoaaC5
import Derived.Test.YtklodimokhndoaaC6
namespace Go.Proofs.Ytklodimokhndoaa
/-- records laid one behind the other, while there is room -/
def spF (room : Nat) (o : By) (rs : List By) : By := rs.foldl (fun o r => if o.length ≤ room then layF o r else o) o
/-- what is wrong with the first record that may not be -/
def wrongA : List By → Int
  | [] => 0
  | r :: rs => if wrongR r ≠ 0 then wrongR r else wrongA rs
def resetR (s : Dk) (g : Lg) (rs : List By) : Int × Dk × Lg :=
  if beginE s g ≠ 0 then (beginE s g, s, g) else if wrongA rs ≠ 0 then (wrongA rs, s, g) else if 64 * (g.size - 1) < (spF (64 * (g.size - 1)) [] rs).length then (8, s, g)
  else if (layD s (g.at_ (1 - g.half)) (g.size - 1) (spF (64 * (g.size - 1)) [] rs) true).1 ≠ 0 then
    ((layD s (g.at_ (1 - g.half)) (g.size - 1) (spF (64 * (g.size - 1)) [] rs) true).1, (layD s (g.at_ (1 - g.half)) (g.size - 1) (spF (64 * (g.size - 1)) [] rs) true).2, g)
  else if (crownD (layD s (g.at_ (1 - g.half)) (g.size - 1) (spF (64 * (g.size - 1)) [] rs) true).2 (g.at_ (1 - g.half) : Nat) (g.gen + 1)).1 ≠ 0 then
    ((crownD (layD s (g.at_ (1 - g.half)) (g.size - 1) (spF (64 * (g.size - 1)) [] rs) true).2 (g.at_ (1 - g.half) : Nat) (g.gen + 1)).1,
      (crownD (layD s (g.at_ (1 - g.half)) (g.size - 1) (spF (64 * (g.size - 1)) [] rs) true).2 (g.at_ (1 - g.half) : Nat) (g.gen + 1)).2, g)
  else (0, (crownD (layD s (g.at_ (1 - g.half)) (g.size - 1) (spF (64 * (g.size - 1)) [] rs) true).2 (g.at_ (1 - g.half) : Nat) (g.gen + 1)).2, ⟨g.age, g.base, g.size, 1 - g.half, g.gen + 1, spF (64 * (g.size - 1)) [] rs, rs⟩)
theorem spF_stop (room : Nat) : ∀ (rs : List By) (o : By), room < o.length → spF room o rs = o
  | [], _, _ => rfl
  | r :: rs, o, h => by
    show spF room (if o.length ≤ room then layF o r else o) rs = o
    rw [if_neg (by omega)]
    exact spF_stop room rs o h
theorem spF_all (room : Nat) : ∀ (rs : List By) (o : By), (spF room o rs).length ≤ room → (∀ r ∈ rs, RecOk r) → spF room o rs = layA o rs ∧ o.length + 4 * rs.length ≤ (spF room o rs).length
  | [], o, _, _ => ⟨rfl, by simp [spF]⟩
  | r :: rs, o, h, hr => by
    have e : spF room o (r :: rs) = spF room (if o.length ≤ room then layF o r else o) rs := rfl
    by_cases ho : o.length ≤ room
    · rw [if_pos ho] at e
      rw [e] at h ⊢
      obtain ⟨h1, h2⟩ := spF_all room rs (layF o r) h (fun x hx => hr x (List.mem_cons_of_mem _ hx))
      have h3 := layF_gt o r (hr r (List.mem_cons_self ..)).1
      have h4 := skipF_ge o.length
      exact ⟨h1, by simp only [List.length_cons]; omega⟩
    · rw [if_neg ho, spF_stop room rs o (by omega)] at e
      rw [e] at h
      omega
theorem wrongA_ok : ∀ (rs : List By), wrongA rs = 0 → ∀ r ∈ rs, RecOk r
  | [], _, r, h => by cases h
  | r :: rs, h, x, hx => by
    unfold wrongA at h
    by_cases h1 : wrongR r ≠ 0
    · rw [if_pos h1] at h
      exact absurd h h1
    · rw [if_neg h1] at h
      rcases List.mem_cons.1 hx with rfl | hx
      · have h2 := Decidable.not_not.1 h1
        unfold wrongR at h2
        split at h2
        · cases h2
        · rename_i h3
          split at h2
          · cases h2
          · exact ⟨fun e => h3 (by rw [e]; rfl), by omega⟩
      · exact wrongA_ok rs h x hx
end Go.Proofs.Ytklodimokhndoaa
namespace Go.Proofs.Ytklodimokhndoaa
/-- the head of the second generation -/
def head2 : By := padL (packL (be 8 2))
theorem head2_len : head2.length = 64 := by decide +kernel
/-- of which a crash leaves all, or nothing that counts -/
theorem head2_torn : ∀ n, n ≤ 64 → genF (mix head2 (List.replicate 64 0) n) = if n < 14 then 0 else 2 := by decide +kernel
theorem allG_same {s s' : Dk} (hs : s.Ok) (hs' : s'.Ok) (hw : s.waits = []) (hw' : s'.waits = []) {b n : Nat} (hl : b + n < s.sure.length) (hl' : b + n < s'.sure.length) (h : ∀ k, k < n → s'.sure.getD (b + 1 + k) [] = s.sure.getD (b + 1 + k) []) : allG s' b n = allG s b n := by
  have h1 := allG_len hs n hl
  have h2 := allG_len hs' n hl'
  refine page_ext (by omega) fun p hp => ?_
  rw [allG_get hs' hw' n p hl' (by omega), allG_get hs hw n p hl (by omega), h (p / 64) (by omega)]
/-- a space, all of it sure -/
structure Fl (s : Dk) (T : By) : Prop where
  ok : s.Ok
  len : s.sure.length = 23
  waits : s.waits = []
  down : s.down = false
  h1 : genF (s.sure.getD 1 []) = 1
  h11 : s.sure.getD 11 [] = List.replicate 64 0
  all : allG s 1 9 = T ++ List.replicate (576 - T.length) 0
theorem genF_z64 : genF (List.replicate 64 0) = 0 := by decide +kernel
theorem Fl.cl0 {s s5 : Dk} {T : By} (h : Fl s T) (hok : s5.Ok) (hl : s5.sure.length = 23) (C : Cr) (hp : ∀ i, i < 11 → (crashed s5 C).sure.getD i [] = s.sure.getD i []) (h11 : genF ((crashed s5 C).sure.getD 11 []) = 0) :
    Cl 0 (crashed s5 C) (T ++ List.replicate (576 - T.length) 0) := by
  have hcok := crashed_ok hok C
  have hcl : (crashed s5 C).sure.length = 23 := by rw [crashed_len]; exact hl
  have e1 : genF ((crashed s5 C).sure.getD 1 []) = 1 := by rw [hp 1 (by omega)]; exact h.h1
  refine ⟨hcok, hcl, rfl, rfl, rfl, by rw [e1, h11]; decide, by rw [e1, h11]; rfl, ?_⟩
  rw [← h.all]
  exact allG_same h.ok hcok h.waits rfl (by rw [h.len]; omega) (by omega) fun k hk => hp _ (by omega)
/-- the other half counts -/
theorem cl1 {s3 s5 : Dk} {T : By} (hok3 : s3.Ok) (hl3 : s3.sure.length = 23) (hw3 : s3.waits = []) (hall : allG s3 11 9 = T) (hok : s5.Ok) (hl : s5.sure.length = 23) (C : Cr) (hp : ∀ i, i ≠ 11 → (crashed s5 C).sure.getD i [] = s3.sure.getD i []) (h1 : genF (s3.sure.getD 1 []) = 1) (h11 : genF ((crashed s5 C).sure.getD 11 []) = 2) :
    Cl 1 (crashed s5 C) T := by
  have hcok := crashed_ok hok C
  have hcl : (crashed s5 C).sure.length = 23 := by rw [crashed_len]; exact hl
  have e1 : genF ((crashed s5 C).sure.getD 1 []) = 1 := by rw [hp 1 (by omega)]; exact h1
  refine ⟨hcok, hcl, rfl, rfl, rfl, by rw [e1, h11]; decide, by rw [e1, h11]; rfl, ?_⟩
  rw [← hall]
  exact allG_same hok3 hcok hw3 rfl (by omega) (by omega) fun k hk => hp _ (by omega)
theorem dif_mem {was tob : By} {m k : Nat} : k ∈ dif was tob m ↔ k < m ∧ pgO tob k ≠ pgO was k := by
  unfold dif
  simp
/-- a space that is laid and flushed is sure -/
theorem layD_sure {s : Dk} (hs : s.Ok) (hd : s.down = false) (hw : s.waits = []) {b m : Nat} (hl : b + m < s.sure.length) (is : By) (hil : is.length ≤ 64 * m) (h0 : (layD s b m is true).1 = 0) :
    (layD s b m is true).2.waits = [] ∧ (layD s b m is true).2.down = false ∧ allG (layD s b m is true).2 b m = is ++ List.replicate (64 * m - is.length) 0 ∧ ∀ i, (i < b + 1 ∨ b + m < i) → (layD s b m is true).2.sure.getD i [] = s.sure.getD i [] := by
  have hok := layD_ok hs b m is true
  have hlen := layD_len s b m is true
  have htl : (is ++ List.replicate (64 * m - is.length) (0 : UInt8)).length = 64 * m := by simp; omega
  have hal := allG_len hs m hl
  have hdm : ∀ k ∈ dif (allG s b m) (is ++ List.replicate (64 * m - is.length) 0) m, k < m := fun k hk => (dif_mem.1 hk).1
  have hsh := wrF_shape (difs b (allG s b m) (is ++ List.replicate (64 * m - is.length) 0) m) s hd (fun x hx => by
    unfold difs at hx
    obtain ⟨k, hk, rfl⟩ := List.mem_map.1 hx
    have := hdm k hk
    exact ⟨by simp only; omega, pgO_le _ _⟩)
  have hmap : (difs b (allG s b m) (is ++ List.replicate (64 * m - is.length) 0) m).map (fun x => (x.1, padL x.2)) = (dif (allG s b m) (is ++ List.replicate (64 * m - is.length) 0) m).map fun k => (b + 1 + k, padL (pgO (is ++ List.replicate (64 * m - is.length) 0) k)) := by
    unfold difs
    rw [List.map_map]
    rfl
  rw [hw, List.nil_append, hmap] at hsh
  rcases hsh with ⟨q1, q2, q3, q4⟩ | ⟨q1, -⟩
  · have e : layD s b m is true = (flushE (wrF s (difs b (allG s b m) (is ++ List.replicate (64 * m - is.length) 0) m)).2, flushS (wrF s (difs b (allG s b m) (is ++ List.replicate (64 * m - is.length) 0) m)).2) := by
      unfold layD
      rw [if_neg (by rw [q1]; decide), if_pos (.inl rfl)]
    rw [e] at h0 hok hlen ⊢
    generalize (wrF s (difs b (allG s b m) (is ++ List.replicate (64 * m - is.length) 0) m)).2 = s1 at *
    simp only at h0 hok hlen ⊢
    have hsp : ¬ (spent s1).down = true := by
      intro hsp
      unfold flushE at h0
      rw [if_neg (by rw [q2]; decide), if_pos hsp] at h0
      cases h0
    have ef : flushS s1 = flushed s1 := by unfold flushS; rw [if_neg (by rw [q2]; decide), if_neg hsp]
    rw [ef] at hok hlen ⊢
    have hpl : ∀ k, k < m → (s.sure.getD (b + 1 + k) []).length = 64 := fun k hk => sure_len hs (by omega)
    have hN : ∀ k, (padL (pgO (is ++ List.replicate (64 * m - is.length) 0) k)).length = 64 := fun k => padL_len (pgO_le _ _)
    have hlaid : ∀ (ws : List Nat) (l : List By), (∀ k ∈ ws, k < m) → b + m < l.length → (∀ k, k < m → (laid l (ws.map fun k => (b + 1 + k, padL (pgO (is ++ List.replicate (64 * m - is.length) 0) k)))).getD (b + 1 + k) [] = if k ∈ ws then padL (pgO (is ++ List.replicate (64 * m - is.length) 0) k) else l.getD (b + 1 + k) []) ∧
        ∀ i, (i < b + 1 ∨ b + m < i) → (laid l (ws.map fun k => (b + 1 + k, padL (pgO (is ++ List.replicate (64 * m - is.length) 0) k)))).getD i [] = l.getD i [] := by
      intro ws
      induction ws with
      | nil => intro l _ _; exact ⟨fun k _ => by simp [laid], fun i _ => rfl⟩
      | cons v r ih =>
        intro l hv hl
        have hv1 := hv v (List.mem_cons_self ..)
        have hset : ∀ i, (l.set (b + 1 + v) (padL (pgO (is ++ List.replicate (64 * m - is.length) 0) v))).getD i [] = if i = b + 1 + v then padL (pgO (is ++ List.replicate (64 * m - is.length) 0) v) else l.getD i [] := fun i => getD_set _ _ _ _ _ (by omega)
        obtain ⟨h1, h2⟩ := ih (l.set (b + 1 + v) (padL (pgO (is ++ List.replicate (64 * m - is.length) 0) v))) (fun x hx => hv x (List.mem_cons_of_mem _ hx)) (by simpa using hl)
        refine ⟨fun k hk => ?_, fun i hi => ?_⟩
        · show (laid (l.set (b + 1 + v) _) (r.map _)).getD _ _ = _
          rw [h1 k hk, hset]
          by_cases e : k = v
          · subst e
            simp
          · rw [if_neg (show ¬ b + 1 + k = b + 1 + v by omega)]
            simp [e]
        · have := h2 i hi
          rw [hset, if_neg (by omega)] at this
          exact this
    obtain ⟨l1, l2⟩ := hlaid _ s1.sure hdm (by rw [q3]; exact hl)
    rw [← q4] at l1 l2
    have hfs : (flushed s1).sure = laid s1.sure s1.waits := rfl
    refine ⟨rfl, by simpa [flushed] using hsp, ?_, fun i hi => by rw [hfs, l2 i hi, q3]⟩
    have hal2 := allG_len hok (b := b) m (by omega)
    refine page_ext (by omega) fun p hp => ?_
    have hk : p / 64 < m := by omega
    rw [allG_get hok rfl m p (by omega) (by omega), hfs, l1 (p / 64) hk]
    have hpk : (pgO (is ++ List.replicate (64 * m - is.length) 0) (p / 64)).getD (p % 64) 0 = (is ++ List.replicate (64 * m - is.length) 0).getD p 0 := by
      rw [pgO_get _ _ (by omega), show 64 * (p / 64) + p % 64 = p by omega]
    split
    · rw [padL_get, hpk]
    · rename_i hnm
      have hpe : pgO (is ++ List.replicate (64 * m - is.length) 0) (p / 64) = pgO (allG s b m) (p / 64) := by
        rcases Classical.em (pgO (is ++ List.replicate (64 * m - is.length) 0) (p / 64) = pgO (allG s b m) (p / 64)) with h | h
        · exact h
        · exact absurd (dif_mem.2 ⟨hk, h⟩) hnm
      rw [← hpk, hpe, pgO_get _ _ (by omega), show 64 * (p / 64) + p % 64 = p by omega, allG_get hs hw m p hl (by omega), q3]
  · exfalso
    have : (layD s b m is true).1 = 7 := by
      unfold layD
      rw [if_pos (by rw [q1]; decide)]
      exact q1
    rw [this] at h0
    cases h0
end Go.Proofs.Ytklodimokhndoaa
namespace Go.Proofs.Ytklodimokhndoaa
theorem beginE_ne {s : Dk} {g : Lg} (ha : g.age = s.age) (hd : s.down = false) : ¬ beginE s g ≠ 0 := by
  unfold beginE
  rw [if_neg (by omega), if_neg (by rw [hd]; decide)]
  decide
theorem packL_head2 : (packL (be 8 2)).length = 14 := by decide +kernel
/-- A NEW BEGINNING IS WHOLE, OR THERE IS NONE: behind a crash, wherever it was cut off, the log's space is what it was, or what was to be -/
theorem reset_crash {s : Dk} {g : Lg} {T : By} {all : List By} (h : Fl s T) (hT : T = layA [] all) (hok : ∀ r ∈ all, RecOk r) (ha : g.age = s.age) (hat : g.at_ (1 - g.half) = 11) (hsz : g.size - 1 = 9) (hgen : g.gen = 1) (rs : List By) (C : Cr) :
    ∃ k D, Cl k (crashed (resetR s g rs).2.1 C) D ∧
      (((resetR s g rs).1 = 0 ∧ (resetR s g rs).2.2.recs = rs ∧ (readF D).1 = rs) ∨
        ((resetR s g rs).1 ≠ 0 ∧ (resetR s g rs).2.2 = g ∧ ((readF D).1 = all ∨ ((resetR s g rs).1 = 7 ∧ (readF D).1 = rs)))) := by
  have hread : (readF (T ++ List.replicate (576 - T.length) 0)).1 = all := by rw [hT, readF_laid all _ hok]
  have keep : ∀ (e : Int) (s5 : Dk), e ≠ 0 → s5.Ok → s5.sure.length = 23 → (∀ i, i < 11 → (crashed s5 C).sure.getD i [] = s.sure.getD i []) → genF ((crashed s5 C).sure.getD 11 []) = 0 → resetR s g rs = (e, s5, g) →
      ∃ k D, Cl k (crashed (resetR s g rs).2.1 C) D ∧
      (((resetR s g rs).1 = 0 ∧ (resetR s g rs).2.2.recs = rs ∧ (readF D).1 = rs) ∨
        ((resetR s g rs).1 ≠ 0 ∧ (resetR s g rs).2.2 = g ∧ ((readF D).1 = all ∨ ((resetR s g rs).1 = 7 ∧ (readF D).1 = rs)))) := by
    intro e s5 he h1 h2 h3 h4 hr
    rw [hr]
    exact ⟨0, _, h.cl0 h1 h2 C h3 h4, .inr ⟨he, rfl, .inl hread⟩⟩
  have same : ∀ s5 : Dk, s5.waits = [] → (crashed s5 C).sure = s5.sure := fun s5 hw => by unfold crashed; rw [hw]; rfl
  have hc11 : genF (s.sure.getD 11 []) = 0 := by rw [h.h11]; exact genF_z64
  have stay : ∀ e : Int, e ≠ 0 → resetR s g rs = (e, s, g) → ∃ k D, Cl k (crashed (resetR s g rs).2.1 C) D ∧
      (((resetR s g rs).1 = 0 ∧ (resetR s g rs).2.2.recs = rs ∧ (readF D).1 = rs) ∨
        ((resetR s g rs).1 ≠ 0 ∧ (resetR s g rs).2.2 = g ∧ ((readF D).1 = all ∨ ((resetR s g rs).1 = 7 ∧ (readF D).1 = rs)))) := fun e he hr =>
    keep e s he h.ok h.len (fun i _ => by rw [same s h.waits]) (by rw [same s h.waits]; exact hc11) hr
  have hb := beginE_ne ha h.down
  obtain ⟨R, hRE⟩ : ∃ R, R = resetR s g rs := ⟨_, rfl⟩
  have hR := hRE
  unfold resetR at hR
  rw [if_neg hb, hat, hsz, hgen] at hR
  by_cases hw : wrongA rs ≠ 0
  · rw [if_pos hw] at hR
    exact stay _ hw (hRE.symm.trans hR)
  · rw [if_neg hw] at hR
    have hrok := wrongA_ok rs (Decidable.not_not.1 hw)
    by_cases hf : 64 * 9 < (spF (64 * 9) [] rs).length
    · rw [if_pos hf] at hR
      exact stay 8 (by decide) (hRE.symm.trans hR)
    · rw [if_neg hf] at hR
      obtain ⟨hsp, -⟩ := spF_all (64 * 9) rs [] (by omega) hrok
      generalize spF (64 * 9) [] rs = sp at *
      have hl11 : 11 + 9 < s.sure.length := by rw [h.len]; omega
      have hlok := layD_ok h.ok 11 9 sp true
      have hllen : (layD s 11 9 sp true).2.sure.length = 23 := by rw [layD_len]; exact h.len
      by_cases hl : (layD s 11 9 sp true).1 ≠ 0
      · rw [if_pos hl] at hR
        obtain ⟨nn, -, -, h3⟩ := layD_torn h.ok h.down h.waits hl11 sp true C
        exact keep _ _ hl hlok hllen (fun i hi => h3 i (by omega)) (by rw [h3 11 (by omega)]; exact hc11) (hRE.symm.trans hR)
      · rw [if_neg hl] at hR
        obtain ⟨w1, w2, w3, w4⟩ := layD_sure h.ok h.down h.waits hl11 sp (by omega) (Decidable.not_not.1 hl)
        generalize (layD s 11 9 sp true).2 = s3 at *
        have hp11 : s3.sure.getD 11 [] = List.replicate 64 0 := by rw [w4 11 (by omega)]; exact h.h11
        have hread2 : (readF (sp ++ List.replicate (64 * 9 - sp.length) 0)).1 = rs := by rw [hsp, readF_laid rs _ hrok]
        have hg1 : genF (s3.sure.getD 1 []) = 1 := by rw [w4 1 (by omega)]; exact h.h1
        have hwr : wrongE s3 ((11 : Nat) : Int) true = 0 := wrong_ok w2 (by omega)
        by_cases hs : (spent s3).down = true
        · have e1 : writeE s3 ((11 : Nat) : Int) (packL (be 8 2)) = 7 := by unfold writeE; rw [hwr, if_neg (by decide), packL_head2, if_neg (by decide), if_pos hs]
          have e2 : writeS s3 ((11 : Nat) : Int) (packL (be 8 2)) = spent s3 := by unfold writeS; rw [hwr, if_neg (by decide), packL_head2, if_neg (by decide), if_pos hs]
          have ec : crownD s3 ((11 : Nat) : Int).toNat 2 = (7, spent s3) := by
            show crownD s3 11 2 = _
            unfold crownD
            rw [if_pos (show writeE s3 ((11 : Nat) : Int) (packL (be 8 2)) ≠ 0 by rw [e1]; decide)]
            rw [show writeE s3 ((11 : Nat) : Int) (packL (be 8 2)) = 7 from e1, show writeS s3 ((11 : Nat) : Int) (packL (be 8 2)) = spent s3 from e2]
          have ec : crownD s3 11 (1 + 1) = (7, spent s3) := ec
          rw [ec, if_pos (show (7 : Int) ≠ 0 by decide)] at hR
          have hss : (crashed (spent s3) C).sure = s3.sure := by rw [same _ ((spent_waits s3).trans w1), spent_sure]
          exact keep 7 _ (by decide) (spent_ok hlok) (by rw [spent_sure]; exact hllen) (fun i hi => by rw [hss]; exact w4 i (by omega)) (by rw [hss, hp11]; exact genF_z64) (hRE.symm.trans hR)
        · have e1 : writeE s3 ((11 : Nat) : Int) (packL (be 8 2)) = 0 := by unfold writeE; rw [hwr, if_neg (by decide), packL_head2, if_neg (by decide), if_neg hs]
          have e2 : writeS s3 ((11 : Nat) : Int) (packL (be 8 2)) = wrote s3 11 (packL (be 8 2)) := by unfold writeS; rw [hwr, if_neg (by decide), packL_head2, if_neg (by decide), if_neg hs]; rfl
          have ec : crownD s3 11 (1 + 1) = (flushE (wrote s3 11 (packL (be 8 2))), flushS (wrote s3 11 (packL (be 8 2)))) := by
            unfold crownD
            rw [if_neg (show ¬ writeE s3 ((11 : Nat) : Int) (packL (be 8 (1 + 1))) ≠ 0 by rw [show (1 + 1 : Nat) = 2 from rfl, e1]; decide)]
            rw [show writeS s3 ((11 : Nat) : Int) (packL (be 8 (1 + 1))) = wrote s3 11 (packL (be 8 2)) from e2]
          have hwok : (wrote s3 11 (packL (be 8 2))).Ok := by
            have := writeS_ok hlok ((11 : Nat) : Int) (packL (be 8 2))
            rw [e2] at this
            exact this
          have hwd : (wrote s3 11 (packL (be 8 2))).down = false := by simpa [wrote] using hs
          have hww : (wrote s3 11 (packL (be 8 2))).waits = [(11, head2)] := by simp [wrote, spent_waits, w1, head2]
          have hws : (wrote s3 11 (packL (be 8 2))).sure = s3.sure := spent_sure s3
          rw [ec] at hR
          generalize wrote s3 11 (packL (be 8 2)) = s4 at *
          have hset : ∀ (x : By) (i : Nat), (s3.sure.set 11 x).getD i [] = if i = 11 then x else s3.sure.getD i [] := fun x i => getD_set _ _ _ _ _ (by omega)
          by_cases hs4 : (spent s4).down = true
          · have f1 : flushE s4 = 7 := by unfold flushE; rw [if_neg (by rw [hwd]; decide), if_pos hs4]
            have f2 : flushS s4 = spent s4 := by unfold flushS; rw [if_neg (by rw [hwd]; decide), if_pos hs4]
            rw [f1, f2, if_pos (show (7 : Int) ≠ 0 by decide)] at hR
            have hss : (crashed (spent s4) C).sure = s3.sure.set 11 (mix head2 (List.replicate 64 0) (cutAt C 0)) := by
              unfold crashed
              rw [spent_waits, spent_sure, hww, hws]
              show s3.sure.set 11 (mix head2 (s3.sure.getD 11 []) (cutAt C 0)) = _
              rw [hp11]
            have ht := head2_torn (cutAt C 0) (cutAt_le C 0)
            by_cases hcn : cutAt C 0 < 14
            · rw [if_pos hcn] at ht
              exact keep 7 _ (by decide) (spent_ok hwok) (by rw [spent_sure, hws]; exact hllen) (fun i hi => by rw [hss, hset, if_neg (by omega)]; exact w4 i (by omega)) (by rw [hss, hset, if_pos rfl]; exact ht) (hRE.symm.trans hR)
            · rw [if_neg hcn] at ht
              rw [hRE.symm.trans hR]
              exact ⟨1, _, cl1 hlok hllen w1 w3 (spent_ok hwok) (by rw [spent_sure, hws]; exact hllen) C (fun i hi => by rw [hss, hset, if_neg hi]) hg1 (by rw [hss, hset, if_pos rfl]; exact ht), .inr ⟨show (7 : Int) ≠ 0 by decide, rfl, .inr ⟨rfl, hread2⟩⟩⟩
          · have f1 : flushE s4 = 0 := by unfold flushE; rw [if_neg (by rw [hwd]; decide), if_neg hs4]
            have f2 : flushS s4 = flushed s4 := by unfold flushS; rw [if_neg (by rw [hwd]; decide), if_neg hs4]
            rw [f1, f2, if_neg (show ¬ (0 : Int) ≠ 0 by decide)] at hR
            have hss : (crashed (flushed s4) C).sure = s3.sure.set 11 head2 := by
              rw [same _ rfl]
              show laid s4.sure s4.waits = _
              rw [hww, hws]
              rfl
            have ht := head2_torn 64 (Nat.le_refl _)
            rw [mix_all head2_len (by simp)] at ht
            rw [hRE.symm.trans hR]
            exact ⟨1, _, cl1 hlok hllen w1 w3 (flushed_ok hwok) (by show (laid s4.sure s4.waits).length = 23; rw [laid_len, hws]; exact hllen) C (fun i hi => by rw [hss, hset, if_neg hi]) hg1 (by rw [hss, hset, if_pos rfl]; exact ht), .inl ⟨rfl, rfl, hread2⟩⟩
/-- a run whose disk nothing cuts off, once it is forced, and then perhaps is to be cut off -/
theorem force_fl {n : Nat} {x : Rs} {S0 : List By} (h : RunP 1 9 S0 n x) (hup : x.s.Up) (hl : x.s.sure.length = 23) (g1 : genF (S0.getD 1 []) = 1) (g11 : S0.getD 11 [] = List.replicate 64 0) (i : Int) :
    forceE x.s x.g = 0 ∧ Fl (cutS (forceS x.s x.g) i) x.g.space ∧ x.g.space = layA [] x.all ∧ ∀ r ∈ x.all, RecOk r := by
  rcases h.st with ⟨L, vs, hu⟩ | ⟨hd, -⟩
  · have hage := h.good.age
    have hsp : spent x.s = x.s := spent_zero hup.2
    have e1 : forceE x.s x.g = 0 := by unfold forceE flushE; rw [if_neg (by omega), hsp, if_neg (by rw [hup.1]; decide), if_neg (by rw [hup.1]; decide)]
    have e2 : forceS x.s x.g = flushed x.s := by unfold forceS flushS; rw [if_neg (by omega), hsp, if_neg (by rw [hup.1]; decide), if_neg (by rw [hup.1]; decide)]
    have hok := flushed_ok h.good.gd.ok
    have hlen : (flushed x.s).sure.length = 23 := by show (laid x.s.sure x.s.waits).length = 23; rw [laid_len]; exact hl
    have hfl := hu.sp.flush
    have hla := laid_space 1 9 x.g.space vs x.s.sure L hu.sp.ins hu.sp.len hu.sp.pages
    have hhead : ∀ i, (i < 2 ∨ 10 < i) → (flushed x.s).sure.getD i [] = S0.getD i [] := fun i hi => by
      show (laid x.s.sure x.s.waits).getD i [] = _
      rw [hu.sp.waits, hla.2 i (by omega)]
      exact hu.head i (by omega)
    have c1 : (cutS (flushed x.s) i).sure = (flushed x.s).sure := cutS_len _ _
    have c2 : (cutS (flushed x.s) i).waits = [] := by unfold cutS; split <;> rfl
    have c3 : (cutS (flushed x.s) i).down = false := by
      have : (flushed x.s).down = false := by show (spent x.s).down = false; rw [hsp]; exact hup.1
      unfold cutS
      split <;> exact this
    have cok := cutS_ok hok i
    have hTl : x.g.space.length ≤ 576 := by have := h.good.gd.sp; rw [h.size] at this; omega
    rw [e2]
    refine ⟨e1, ⟨cok, by rw [c1]; exact hlen, c2, c3, by rw [c1, hhead 1 (by omega)]; exact g1, by rw [c1, hhead 11 (by omega)]; exact g11, ?_⟩, hu.space, hu.ok⟩
    have hal := allG_len cok (b := 1) 9 (by rw [c1, hlen]; omega)
    refine page_ext (by rw [hal]; simp; omega) fun p hp => ?_
    rw [allG_get cok c2 9 p (by rw [c1, hlen]; omega) (by omega), c1, hfl.pages (p / 64) (by omega), pgC_get _ _ _ (by omega), show 64 * (p / 64) + p % 64 = p by omega]
    have hz : (x.g.space ++ List.replicate (576 - x.g.space.length) 0).getD p 0 = x.g.space.getD p 0 := by
      by_cases h9 : p < x.g.space.length
      · exact getD_app_left h9
      · rw [getD_app_right (by omega), getD_zeros, getD_none (by omega)]
    rw [hz]
    rcases hu.full (p / 64) (p % 64) (by omega) (by omega) with h9 | h9
    · rw [if_pos h9]
    · rw [show 64 * (p / 64) + p % 64 = p by omega] at h9
      rw [h9]
      simp
  · exact absurd hup.1 (by rw [hd]; decide)
theorem appendR_gen (s : Dk) (g : Lg) (r : By) : (appendR s g r).2.2.gen = g.gen := by
  unfold appendR
  split
  · rfl
  · split
    · rfl
    · split
      · rfl
      · split <;> rfl
theorem stepR_gen (x : Rs) (d : WDe) : (stepR x d).g.gen = x.g.gen := by
  unfold stepR
  split
  · exact appendR_gen _ _ _
  · split
    · rfl
    · split <;> rfl
theorem lvA_gen : lvA.2.2.gen = 1 := by decide +kernel
theorem lvA_p11 : lvA.2.1.sure.getD 11 [] = List.replicate 64 0 := by decide +kernel
theorem rs_gen {s : Dk} {g : Lg} (h : g.gen = 1) : (Rs.mk s g [] 0).g.gen = 1 := h
theorem rs0_gen : rs0.g.gen = 1 := by unfold rs0; exact rs_gen lvA_gen
theorem at_other {g : Lg} (h1 : g.at_ g.half = 1) (h2 : g.size - 1 = 9) (h3 : g.half ≤ 1) : g.at_ (1 - g.half) = 11 := by
  have h5 : g.half = 0 ∨ g.half = 1 := by omega
  unfold Lg.at_ at *
  rcases h5 with e | e <;> rw [e] at h1 ⊢ <;> omega
end Go.Proofs.Ytklodimokhndoaa
namespace Go.Proofs.Ytklodimokhndoaa
open Go.RowKit
/-- a record, as a deed that appends it -/
theorem wrec_deed {w : World} {A : Option Addr} {l : List By} (h : RsM RRec 1 [] w A l) {k : Nat} (hk : k < l.length) :
    ∃ ad A1 c1, A = some ad ∧ (∀ w', Ext w w' → w'.cell? (ad.add k) = some (.slice A1 l[k].length c1)) ∧ WDeR [] w ⟨0, 0, l[k], [], ⟨[], 0, 0⟩⟩ A1 c1 none 0 none := by
  obtain ⟨ad, cs, e, _, _, hc, A1, c1, rfl, h1, h2, h3, h4⟩ := h.at_ (by omega) hk
  refine ⟨ad, A1, c1, e, fun w' hx => ?_, h1.bytes, h2, h3, by simp only; omega, ?_, Nat.le_refl _, by simp, SlM.nil _ _ _, by simp⟩
  · have := hx.cell (hc 0 _ rfl)
    simpa using this
  · exact ⟨[], rfl, by simp, SlM.nil _ _ _, fun k x y hx => by simp at hx⟩
theorem drop_next {α : Type} {l : List α} {i : Nat} (h : i < l.length) : l.drop i = l[i] :: l.drop (i + 1) := List.drop_eq_getElem_cons h
theorem spF_len (room : Nat) : ∀ (rs : List By) (o : By), (∀ r ∈ rs, r.length ≤ 2000) → o.length ≤ room + 14000 → (spF room o rs).length ≤ room + 14000
  | [], _, _, h => h
  | r :: rs, o, hr, h => by
    show (spF room (if o.length ≤ room then layF o r else o) rs).length ≤ _
    refine spF_len room rs _ (fun x hx => hr x (List.mem_cons_of_mem _ hx)) ?_
    have h1 := layF_le o r
    have h2 := hr r (List.mem_cons_self ..)
    split <;> omega
/-- the log begins anew -/
theorem SysI.reset {M N : List Nat} {w w' : World} {p q : Nat} {s : Dk} {g : Lg} {B : List Nat} {A : Option Addr} {c : Nat} {v : Value} {vs : List Value} (h : SysI M N w p q s g B A c v vs) (hk : Kept [q] w w') {g' : Lg} {A' : Option Addr} {c' : Nat} (hr : LgRow w' q p g' A' c' (.slice none 0 0)) (he : g'.recs = []) (hs : BsM N w A' g'.space) (hc : g'.space.length ≤ c') :
    SysI M N w' p q s g' B A' c' (.slice none 0 0) [] := by
  have hkN : Kept N w w' := hk.mono fun k hk2 => by simp at hk2; subst hk2; exact h.MN _ h.qM
  refine ⟨?_, hr, h.BM, h.qM, (fun k hk2 => by cases hk2), h.qB, (fun k hk2 => by cases hk2), h.MN, fun k hk2 => Nat.lt_of_lt_of_le (h.lt k hk2) hk.size, hs.kept hkN, hc, by rw [he]; exact World.ownsRow_nil _ _ _ _, fun k l hk2 => by rw [he] at hk2; simp at hk2⟩
  obtain ⟨g0, cap0, v0, hi⟩ := h.disk
  refine ⟨g0, cap0, v0, hi.kept hk fun k hkB hm => ?_⟩
  simp at hm
  subst hm
  exact h.qB hkB
set_option maxRecDepth 20000 in
set_option maxHeartbeats 4000000 in
theorem wreset_any {M N : List Nat} {W w : World} {p q n : Nat} {s : Dk} {g : Lg} (h : Sys M N w p q s g) (hg : Gd n s g) (hn : n ≤ 50000) (hgen : g.gen < 1000) (hz : readS s (g.at_ (1 - g.half)) = List.replicate 64 0) (hx : Ext W w) (hN : ∀ k ∈ N, W.heap.size ≤ k)
    (A : Option Addr) (c : Nat) (rs : List By) (hr : RsM RRec 1 [] W A rs) (hrl : rs.length * 24 ≤ 140737488355328) :
    Calls Try.prog 23 #[pt q, .slice A rs.length c] w fun e w' => e = .returned (.int .i64 (resetR s g rs).1) ∧ Aft M N w w' p q (resetR s g rs).2.1 (resetR s g rs).2.2 := by
  obtain ⟨B, Ag, cg, v, vs, hI⟩ := h
  have HI := Lib.hid hI
  have HBG := wbegin_any hI.row hI.disk
  have HRR : Hid (resetR s g rs = if beginE s g ≠ 0 then (beginE s g, s, g) else if wrongA rs ≠ 0 then (wrongA rs, s, g) else if 64 * (g.size - 1) < (spF (64 * (g.size - 1)) [] rs).length then (8, s, g)
    else if (layD s (g.at_ (1 - g.half)) (g.size - 1) (spF (64 * (g.size - 1)) [] rs) true).1 ≠ 0 then
      ((layD s (g.at_ (1 - g.half)) (g.size - 1) (spF (64 * (g.size - 1)) [] rs) true).1, (layD s (g.at_ (1 - g.half)) (g.size - 1) (spF (64 * (g.size - 1)) [] rs) true).2, g)
    else if (crownD (layD s (g.at_ (1 - g.half)) (g.size - 1) (spF (64 * (g.size - 1)) [] rs) true).2 (g.at_ (1 - g.half) : Nat) (g.gen + 1)).1 ≠ 0 then
      ((crownD (layD s (g.at_ (1 - g.half)) (g.size - 1) (spF (64 * (g.size - 1)) [] rs) true).2 (g.at_ (1 - g.half) : Nat) (g.gen + 1)).1,
        (crownD (layD s (g.at_ (1 - g.half)) (g.size - 1) (spF (64 * (g.size - 1)) [] rs) true).2 (g.at_ (1 - g.half) : Nat) (g.gen + 1)).2, g)
    else (0, (crownD (layD s (g.at_ (1 - g.half)) (g.size - 1) (spF (64 * (g.size - 1)) [] rs) true).2 (g.at_ (1 - g.half) : Nat) (g.gen + 1)).2, ⟨g.age, g.base, g.size, 1 - g.half, g.gen + 1, spF (64 * (g.size - 1)) [] rs, rs⟩)) := Lib.hid rfl
  have HGD := Lib.hid hg
  have HRA := Lib.hid hr
  have HXW := Lib.hid hx
  have HNN := Lib.hid hN
  have HZ := Lib.hid hz
  obtain ⟨hg1, hg2, hg3, hg4, hg5⟩ := hg.fit
  have HRW := Lib.hid (fun W' (hx' : Ext w W') => wroom_any (hI.row.ext hx') (by omega) hg3)
  have STAY : Hid (∀ (V : World), Ext w V → Aft M N w V p q s g) := Lib.hid fun V hx => ⟨M, N, ⟨B, Ag, cg, v, vs, HI.out.ext hx⟩, .of_ext hx, fun k hk => hk, fun k hk => .inl hk⟩
  clear hI hg hr hx hN hz
  unfold pt at *
  go_enter Try.func23, Try.ntmps23
  go_wp2_with fail
  refine HBG.mono ?_
  rintro e w1 ⟨rfl, hx1⟩
  clear HBG
  by_cases hb0 : beginE s g ≠ 0
  · have db : (beginE s g != 0) = true := by simpa using hb0
    have HV := Lib.hid (HRR.out.trans (if_pos hb0))
    clear HRR hb0
    go_wp2
    go_ret
    rw [HV.out]
    exact ⟨rfl, STAY.out _ hx1⟩
  · have db : (beginE s g != 0) = false := by simpa using hb0
    have hdn : s.down = false := by
      have := Decidable.not_not.1 hb0
      unfold beginE at this
      split at this
      · cases this
      · split at this
        · cases this
        · rename_i h1
          simpa using h1
    rw [if_neg hb0] at HRR
    clear hb0
    generalize beginE s g = eb at *
    have HS0 : Hid (∃ v0, Value.slice none 0 0 = v0 ∧ Own w1 w1.heap.size v0 []) := Lib.hid ⟨_, rfl, Own.nil _ _⟩
    have HX1 := Lib.hid hx1
    clear hx1
    go_wp2
    go_loopw [6, 26] (fun sv iv wr => ∃ (i : Nat) (As : Option Addr) (cs : Nat) (sp : By), iv = .int .i64 i ∧ i ≤ rs.length ∧ sv = .slice As sp.length cs ∧ sp.length ≤ 64 * (g.size - 1) + 14000 ∧ Hid (Own wr w.heap.size (.slice As sp.length cs) sp) ∧ Hid (Ext w wr) ∧ Hid (wrongA rs = wrongA (rs.drop i)) ∧ Hid (spF (64 * (g.size - 1)) [] rs = spF (64 * (g.size - 1)) sp (rs.drop i))) (fun _ iv _ => rs.length - (intOf iv).toNat)
    case atStart => exact ⟨0, none, 0, [], rfl, by omega, rfl, by simp, Lib.hid (Own.nil _ _), HX1, Lib.hid (by simp), Lib.hid (by simp)⟩
    case round =>
      clear HS0 HX1
      obtain ⟨i, As, cs, sp, rfl, hi, rfl, hspl, HO, HX, HWA, HSF⟩ := hrel
      by_cases hlt : i < rs.length
      · have hlt2 : (i : Int) < (rs.length : Int) := by omega
        obtain ⟨ad, A1, c1, rfl, E0, hd⟩ := wrec_deed HRA.out hlt
        have e0 := E0 _ (HXW.out.trans HX.out)
        have HDN := Lib.hid (drop_next hlt)
        have hb1 := hd.by_
        have hbc := hd.bc
        have HBY := Lib.hid (BsM.bs (hb1.kept (.of_ext (HXW.out.trans HX.out))))
        clear E0 hd hb1
        simp only at hbc
        generalize rs[i] = r at *
        have HWR := wwrong_any A1 c1 r wr
        go_wp2_with fail
        refine HWR.mono ?_
        rintro e w2 ⟨rfl, rfl⟩
        clear HWR
        by_cases hw0 : wrongR r ≠ 0
        · have dw : (wrongR r != 0) = true := by simpa using hw0
          have hwa : wrongA rs = wrongR r := by rw [HWA.out, HDN.out]; unfold wrongA; rw [if_pos hw0]
          have HV := Lib.hid (HRR.out.trans (if_pos (by rw [hwa]; exact hw0)))
          rw [hwa] at HV
          clear HRR hw0 hwa
          go_wp2
          go_ret
          rw [HV.out]
          exact ⟨rfl, STAY.out _ HX.out⟩
        · have dw : (wrongR r != 0) = false := by simpa using hw0
          have hrr : 0 < r.length ∧ r.length ≤ 2000 := by
            have := Decidable.not_not.1 hw0
            unfold wrongR at this
            split at this
            · cases this
            · split at this
              · cases this
              · omega
          have HWB : Hid (wrongA rs = wrongA (rs.drop (i + 1))) := Lib.hid (by rw [HWA.out, HDN.out]; conv => lhs; unfold wrongA
                                                                               rw [if_neg hw0])
          have HSF2 : Hid (spF (64 * (g.size - 1)) [] rs = spF (64 * (g.size - 1)) (if sp.length ≤ 64 * (g.size - 1) then layF sp r else sp) (rs.drop (i + 1))) := Lib.hid (by rw [HSF.out, HDN.out]; rfl)
          clear hw0 HWA HSF HDN
          generalize wrongR r = ew at *
          have HRO := HRW.out _ HX.out
          go_wp2_with fail
          refine HRO.mono ?_
          rintro e w3 ⟨rfl, rfl⟩
          clear HRO
          by_cases hle : sp.length ≤ 64 * (g.size - 1)
          · rw [if_pos hle] at HSF2
            have dl : (sp.length : Int) ≤ (((g.size - 1) * 64 : Nat) : Int) := by omega
            have HLD := wlaid_any As cs sp A1 c1 r w3 HO.out.bs HBY.out hbc (by omega) hrr.2
            have hlf := layF_le sp r
            clear hle
            go_wp2_with fail
            refine HLD.mono ?_
            rintro e w4 ⟨v4, rfl, ho4, hx4⟩
            obtain ⟨A4, c4, rfl⟩ := ho4.form
            clear HLD
            have HO4 := Lib.hid (ho4.low HX.out.size)
            have HX4 := Lib.hid (HX.out.trans hx4)
            clear ho4 hx4 HO HX e0 HBY
            go_wp2
            go_roundw
            case rel => exact ⟨i + 1, A4, c4, _, by go_num, by omega, rfl, by omega, HO4, HX4, HWB, HSF2⟩
            case measure => simp [intOf]; omega
          · rw [if_neg hle] at HSF2
            have dl : ¬ (sp.length : Int) ≤ (((g.size - 1) * 64 : Nat) : Int) := by omega
            clear hle e0 HBY
            go_wp2
            go_roundw
            case rel => exact ⟨i + 1, As, cs, sp, by go_num, by omega, rfl, hspl, HO, HX, HWB, HSF2⟩
            case measure => simp [intOf]; omega
      · have hlt2 : ¬ (i : Int) < (rs.length : Int) := by omega
        obtain rfl : i = rs.length := by omega
        have hwa : wrongA rs = 0 := by rw [HWA.out, List.drop_length]; rfl
        have hsf : spF (64 * (g.size - 1)) [] rs = sp := by rw [HSF.out, List.drop_length]; rfl
        rw [if_neg (by rw [hwa]; simp), hsf] at HRR
        have HRO := HRW.out _ HX.out
        have hrok : Hid (∀ r ∈ rs, RecOk r) := Lib.hid (wrongA_ok rs hwa)
        have hR4 := HI.out.row.ext HX.out
        obtain ⟨-, -, -, -, c4, c5, -, -, -⟩ := hR4.cell
        have c4 := c4 _ (Ext.refl _)
        have c5 := c5 _ (Ext.refl _)
        have wh : IntKind.i64.wrap (1 - (g.half : Int)) = ((1 - g.half : Nat) : Int) := by rw [wrapI _ (by omega) (by omega)]; omega
        have dg : ((g.gen : Int) == 4611686018427387904) = false := by
          have : ¬ (g.gen : Int) = 4611686018427387904 := by omega
          simpa using this
        have hh1 : 1 - g.half ≤ 1 := by omega
        have HSF9 := Lib.hid hsf
        clear HWA HSF hlt hlt2 hwa hsf hR4
        generalize hho : 1 - g.half = ho at *
        have HHO := Lib.hid hho
        clear hho
        unfold pt at *
        go_wp2_with fail
        refine HRO.mono ?_
        rintro e w2 ⟨rfl, rfl⟩
        clear HRO
        by_cases hfull : 64 * (g.size - 1) < sp.length
        · have df : (((g.size - 1) * 64 : Nat) : Int) < (sp.length : Int) := by omega
          have HV := Lib.hid (HRR.out.trans (if_pos hfull))
          clear HRR hfull
          go_wp2
          go_ret
          rw [HV.out]
          exact ⟨rfl, STAY.out _ HX.out⟩
        · have df : ¬ (((g.size - 1) * 64 : Nat) : Int) < (sp.length : Int) := by omega
          rw [if_neg hfull] at HRR
          have hfl : sp.length ≤ 64 * (g.size - 1) := by omega
          clear hfull STAY
          have hin : g.at_ ho + g.size ≤ s.sure.length := by
            have := HGD.out.len
            have : ho = 0 ∨ ho = 1 := by omega
            rcases this with e | e <;> simp [Lg.at_, e] <;> omega
          have hatb : g.base + ho * g.size = g.at_ ho := rfl
          have HBG := fun V (hx : Ext w2 V) => wbegins_any (HI.out.row.ext (HX.out.trans hx)) ho hg1 hg3 hh1
          rw [hatb] at HBG
          have HRD := fun V (hx : Ext w2 V) => Read_any (HI.out.disk.ext (HX.out.trans hx)) HGD.out.ok HGD.out.few (by omega) ((g.at_ ho : Nat) : Int)
          rw [wrong_ok hdn (by omega), readL_ok hdn (by omega), HZ.out, List.length_replicate] at HRD
          have C0 : ∀ V, Ext w2 V → V.cell? ⟨q, 0, none⟩ = some (.pointer (some ⟨p, 0, none⟩)) := fun V hx => ((HI.out.row.ext (HX.out.trans hx)).cell).1 _ (Ext.refl _)
          have hrlT := Lib.hid hrl
          clear c4 hatb hrl
          unfold pt at *
          go_wp2_with fail
          refine wp_region_phase (S := fun V => Ext w2 V) 12 (by kernel_rfl) (by kernel_rfl) ?_ (fun hHeld => ?_)
          · exact (Ext.refl w2).drew
          simp only [List.drop_succ_cons, List.drop_zero]
          refine name_head ?_
          intro wr0 hw0
          rw [hw0] at hHeld
          refine wpHead_take (i := 0) (v := ?_) (by rfl) (by kernel_rfl) (by kernel_rfl) (by exact fun _ _ _ h => h) (Or.inl ⟨by rfl, ?_⟩) (by assumption) ?_
          rotate_left
          · intro w hSw
            first | (go_simp; done) | (go_simp; with_reducible rfl)
          simp only [List.getElem_toArray, List.getElem_cons_zero, Act.put, List.setIfInBounds_toArray, List.set_cons_zero, List.set_cons_succ]
          refine wpHead_take (i := 1) (v := ?_) (by rfl) (by kernel_rfl) (by kernel_rfl) (by exact fun _ _ _ h => h) (Or.inl ⟨by rfl, ?_⟩) (by assumption) ?_
          rotate_left
          · intro w hSw
            first | (go_simp; done) | (go_simp; with_reducible rfl)
          simp only [List.getElem_toArray, List.getElem_cons_succ, List.getElem_cons_zero, Act.put, List.setIfInBounds_toArray, List.set_cons_zero, List.set_cons_succ]
          refine wpHead_take (i := 2) (v := ?_) (by rfl) (by kernel_rfl) (by kernel_rfl) (by exact fun _ _ _ h => h) (Or.inl ⟨by rfl, ?_⟩) (by assumption) ?_
          rotate_left
          · intro w hSw
            first | (go_simp; done) | (go_simp; with_reducible rfl)
          simp only [List.getElem_toArray, List.getElem_cons_succ, List.getElem_cons_zero, Act.put, List.setIfInBounds_toArray, List.set_cons_zero, List.set_cons_succ]
          refine wpHead_take (i := 3) (v := ?_) (by rfl) (by kernel_rfl) (by kernel_rfl) (by exact fun _ _ _ h => h) (Or.inl ⟨by rfl, ?_⟩) (by assumption) ?_
          rotate_left
          · intro w hSw
            first | (go_simp; done) | (go_simp; with_reducible rfl)
          simp only [List.getElem_toArray, List.getElem_cons_succ, List.getElem_cons_zero, Act.put, List.setIfInBounds_toArray, List.set_cons_zero, List.set_cons_succ]
          refine wpHead_take (i := 4) (v := ?_) (by rfl) (by kernel_rfl) (by kernel_rfl) (by exact fun _ _ _ h => h) (Or.inl ⟨by rfl, ?_⟩) (by assumption) ?_
          rotate_left
          · intro w hSw
            first | (go_simp; done) | (go_simp; with_reducible rfl)
          simp only [List.getElem_toArray, List.getElem_cons_succ, List.getElem_cons_zero, Act.put, List.setIfInBounds_toArray, List.set_cons_zero, List.set_cons_succ]
          refine wpHead_take (i := 5) (v := ?_) (by rfl) (by kernel_rfl) (by kernel_rfl) (by exact fun _ _ _ h => h) (Or.inl ⟨by rfl, ?_⟩) (by assumption) ?_
          rotate_left
          · intro w hSw
            first | (go_simp; done) | (go_simp; with_reducible rfl)
          simp only [List.getElem_toArray, List.getElem_cons_succ, List.getElem_cons_zero, Act.put, List.setIfInBounds_toArray, List.set_cons_zero, List.set_cons_succ]
          refine wpHead_ready (rs := [6]) (by kernel_rfl) (by simp) (by kernel_rfl) ?_
          refine AllHead.cons (by rfl) (fun K hK => ?_) ?_
          · refine step_callG (by rfl) (by kernel_rfl) (HBG wr0 hHeld) ?_
            rintro e wr6 ⟨rfl, hx6⟩
            have hk6 := hHeld.trans hx6
            refine ⟨_, rfl, ?_⟩
            refine hK.out _ _ ?_ (fun hHeld => ?_)
            · exact hk6
            clear hK K
            try simp only [List.getElem_toArray, List.getElem_cons_succ, List.getElem_cons_zero, Act.put, List.setIfInBounds_toArray, List.set_cons_zero, List.set_cons_succ]
            refine wpHead_ready (rs := [7]) (by kernel_rfl) (by simp) (by kernel_rfl) ?_
            refine AllHead.cons (by rfl) (fun K hK => ?_) ?_
            · refine step_callG (by rfl) (by kernel_rfl) (HRD wr6 hHeld) ?_
              rintro e wr7 ⟨A7, c7, rfl, hf7, hx7, hl7⟩
              have hk7 := hHeld.trans hx7
              refine ⟨_, rfl, ?_⟩
              refine hK.out _ _ ?_ (fun hHeld => ?_)
              · exact hk7
              clear hK K
              try simp only [List.getElem_toArray, List.getElem_cons_succ, List.getElem_cons_zero, Act.put, List.setIfInBounds_toArray, List.set_cons_zero, List.set_cons_succ]
              refine wpHead_take (i := 8) (v := ?_) (by rfl) (by kernel_rfl) (by kernel_rfl) (by exact fun _ _ _ h => h) (Or.inl ⟨by rfl, ?_⟩) (by assumption) ?_
              rotate_left
              · intro w hSw
                first | (go_simp; done) | (go_simp; with_reducible rfl)
              simp only [List.getElem_toArray, List.getElem_cons_succ, List.getElem_cons_zero, Act.put, List.setIfInBounds_toArray, List.set_cons_zero, List.set_cons_succ]
              refine wpHead_take (i := 9) (v := ?_) (by rfl) (by kernel_rfl) (by kernel_rfl) (by exact fun _ _ _ h => h) (Or.inl ⟨by rfl, ?_⟩) (by assumption) ?_
              rotate_left
              · intro w hSw
                first | (go_simp; done) | (go_simp; with_reducible rfl)
              simp only [List.getElem_toArray, List.getElem_cons_succ, List.getElem_cons_zero, Act.put, List.setIfInBounds_toArray, List.set_cons_zero, List.set_cons_succ]
              refine wpHead_take (i := 10) (v := ?_) (by rfl) (by kernel_rfl) (by kernel_rfl) (by exact fun _ _ _ h => h) (Or.inl ⟨by rfl, ?_⟩) (by assumption) ?_
              rotate_left
              · intro w hSw
                first | (go_simp; done) | (go_simp; with_reducible rfl)
              simp only [List.getElem_toArray, List.getElem_cons_succ, List.getElem_cons_zero, Act.put, List.setIfInBounds_toArray, List.set_cons_zero, List.set_cons_succ]
              refine wpHead_take (i := 11) (v := ?_) (by rfl) (by kernel_rfl) (by kernel_rfl) (by exact fun _ _ _ h => h) (Or.inl ⟨by rfl, ?_⟩) (by assumption) ?_
              rotate_left
              · intro w hSw
                first | (go_simp; done) | (go_simp; with_reducible rfl)
              simp only [List.getElem_toArray, List.getElem_cons_succ, List.getElem_cons_zero, Act.put, List.setIfInBounds_toArray, List.set_cons_zero, List.set_cons_succ]
              refine wpHead_done (by kernel_rfl) ?_
              have hb7 : Bs wr7 A7 (List.replicate 64 0) := BsM.bs (M := []) (hf7.bsM (by simp))
              have hxm := (Ext.refl wr7).alloc (.cells (madeCells #[.int .u8 0] 64) 5)
              have hbm := BsM.bs (bsM_made [] wr7 64 (by simp))
              have HEQ := Equal_any A7 (some ⟨wr7.heap.size, 0, none⟩) (List.replicate 64 0) (List.replicate 64 0) c7 64 (wr7.alloc (.cells (madeCells #[.int .u8 0] 64) 5)) (hb7.ext hxm) hbm
              rw [List.length_replicate] at HEQ
              have hmk : ∀ V, (Instr.makeSlice 46 (.int .i64 64) (.int .i64 64)).run Try.prog V = .ok (.slice (some ⟨V.heap.size, 0, none⟩) 64 64) (V.alloc (.cells (madeCells #[.int .u8 0] 64) 5)) := fun V => run_make_row' (P := Try.prog) 46 5 (.int .u8 0) 1 Try.underlying46 (by kernel_rfl) rfl .i64 .i64 64 (by omega) (by omega) V
              have hdd : decide ((List.replicate 64 0 : By) = List.replicate 64 0) = true := decide_eq_true rfl
              have HX8 := Lib.hid (HX.out.trans (hHeld.trans hxm))
              have HB8 := Lib.hid (HO.out.bs.ext (hHeld.trans hxm))
              have HO8 := Lib.hid (HO.out.ext (hHeld.trans hxm))
              clear HBG HRD C0 hf7 hx6 hx7 hl7 hk6 hk7 hb7 hbm hxm hHeld
              go_wp2_with fail
              refine HEQ.mono ?_
              rintro e w8 ⟨rfl, rfl⟩
              rw [hdd]
              clear HEQ hmk hdd
              generalize wr7.alloc (.cells (madeCells #[.int .u8 0] 64) 5) = w8 at *
              have HLY := wlay_any (HI.out.row.ext HX8.out) (HI.out.disk.ext HX8.out) HGD.out.ok HGD.out.few (by omega) hdn ho hg1 hg2 hg3 hh1 hin As cs sp HB8.out hfl true
              have HOK1 := Lib.hid (layD_ok HGD.out.ok (g.at_ ho) (g.size - 1) sp true)
              have HFW1 := Lib.hid (layD_few HGD.out.few (g.at_ ho) (g.size - 1) sp true)
              generalize layD s (g.at_ ho) (g.size - 1) sp true = ly at *
              obtain ⟨e1, s1⟩ := ly
              simp only at HRR HLY HOK1 HFW1
              unfold pt at *
              go_wp2_with fail
              refine HLY.mono ?_
              rintro e w9 ⟨B9, rfl, hd9, ht9⟩
              clear HLY
              have ht9' := (Turn.of_ext HX8.out).trans ht9
              have HA9 := Lib.hid (HI.out.aft hd9 ht9')
              have hI8 := HI.out.ext HX8.out
              have hI9 := hI8.turn hd9 ht9
              have HS9 := Lib.hid (hI8.bs ht9 (BsM.own HO8.out fun k hk => HI.out.lt k hk))
              have HT9 := Lib.hid ((Turn.of_ext (B := M) HX8.out).trans (hI8.turned ht9))
              have HC9 : Hid (sp.length ≤ cs) := Lib.hid HO8.out.cap.1
              by_cases h1e : e1 ≠ 0
              · have d1 : (e1 != 0) = true := by simpa using h1e
                have HV := Lib.hid (HRR.out.trans (if_pos h1e))
                clear HRR h1e hI9 hI8
                go_wp2
                go_ret
                rw [HV.out]
                exact ⟨rfl, HA9.out⟩
              · have d1 : (e1 != 0) = false := by simpa using h1e
                rw [if_neg h1e] at HRR
                clear h1e HA9
                have HI9 := Lib.hid hI9
                obtain ⟨-, -, -, -, -, c5, -, -, -⟩ := hI9.row.cell
                have c5 := c5 _ (Ext.refl _)
                have wg : IntKind.u64.wrap ((g.gen : Int) + 1) = ((g.gen + 1 : Nat) : Int) := by
                  simp only [IntKind.wrap, IntKind.bits, IntKind.signed]
                  simp
                  omega
                have HCR := wcrown_any hI9.row hd9 hI9.qB HOK1.out HFW1.out (by omega) ho (g.gen + 1) hg1 hg3 hh1
                have HNW : Hid (∀ k ∈ B9 ++ N, k ∈ N ∨ w.heap.size ≤ k) := Lib.hid fun k hk => by
                  rcases List.mem_append.1 hk with hk | hk
                  · rcases ht9'.new k hk with h1 | h1
                    · exact .inl (HI.out.MN k (HI.out.BM k h1))
                    · exact .inr h1
                  · exact .inl hk
                clear hI9 hd9 ht9 ht9' hI8
                generalize hgn : g.gen + 1 = gn at *
                clear hgn
                generalize crownD s1 (g.at_ ho : Nat) (gn) = cr at *
                obtain ⟨e2, s2⟩ := cr
                simp only at HRR HCR
                unfold pt at *
                go_wp2_with fail
                refine HCR.mono ?_
                rintro e w10 ⟨B10, rfl, hd10, ht10⟩
                clear HCR
                have hI10 := HI9.out.turn hd10 ht10
                have HT10 := Lib.hid (HT9.out.trans (HI9.out.turned ht10))
                have hs10 := HI9.out.bs ht10 HS9.out
                have HN10 : Hid (∀ k ∈ B10 ++ (B9 ++ N), k ∈ N ∨ w.heap.size ≤ k) := Lib.hid fun k hk => by
                  rcases List.mem_append.1 hk with hk | hk
                  · rcases ht10.new k hk with h1 | h1
                    · exact HNW.out k (List.mem_append.2 (.inl h1))
                    · exact .inr (Nat.le_trans HT9.out.kept.size h1)
                  · exact HNW.out k hk
                by_cases h2e : e2 ≠ 0
                · have d2 : (e2 != 0) = true := by simpa using h2e
                  have HV := Lib.hid (HRR.out.trans (if_pos h2e))
                  have HA10 : Hid (Aft M N w w10 p q s2 g) := Lib.hid ⟨_, _, ⟨_, _, _, _, _, hI10⟩, HT10.out, fun k hk => List.mem_append.2 (.inr (List.mem_append.2 (.inr hk))), HN10.out⟩
                  clear HRR h2e hI10 hd10 ht10
                  go_wp2
                  go_ret
                  rw [HV.out]
                  exact ⟨rfl, HA10.out⟩
                · have d2 : (e2 != 0) = false := by simpa using h2e
                  have HV := Lib.hid (HRR.out.trans (if_neg h2e))
                  clear HRR h2e
                  have hrow : LgC ((((w10.setCell ⟨q, 4, none⟩ (.int .i64 (ho : Nat))).setCell ⟨q, 5, none⟩ (.int .u64 (gn : Nat))).setCell ⟨q, 6, none⟩ (.slice As sp.length cs)).setCell ⟨q, 7, none⟩ (.slice none 0 0)) q p g.age g.base g.size ho (gn) (.slice As sp.length cs) (.slice none 0 0) :=
                    LgC.set7 (LgC.set6 (LgC.set5 (LgC.set4 hI10.row ho) (gn)) _) _
                  have hkq : Kept [q] w10 ((((w10.setCell ⟨q, 4, none⟩ (.int .i64 (ho : Nat))).setCell ⟨q, 5, none⟩ (.int .u64 (gn : Nat))).setCell ⟨q, 6, none⟩ (.slice As sp.length cs)).setCell ⟨q, 7, none⟩ (.slice none 0 0)) :=
                    ((((Kept.refl _ _).setCell (.inl (by simp)) _).setCell (.inl (by simp)) _).setCell (.inl (by simp)) _).setCell (.inl (by simp)) _
                  have hIR := hI10.reset hkq (g' := ⟨g.age, g.base, g.size, ho, gn, sp, []⟩) (A' := As) (c' := cs) hrow rfl hs10 HC9.out
                  have HTR := Lib.hid (HT10.out.trans (Turn.of_kept (hkq.mono fun k hk => by simp at hk; subst hk; exact hI10.qM)))
                  obtain ⟨-, -, -, -, c4, c5, c6, c7, f6⟩ := hI10.row.cell
                  have c5 := c5 _ (Ext.refl _)
                  have f64 := f6 w10 4 (Ext.refl _)
                  have f65 := f6 w10 5 (Ext.refl _)
                  have f66 := f6 w10 6 (Ext.refl _)
                  have f67 := f6 w10 7 (Ext.refl _)
                  clear f6
                  obtain ⟨W4, hW4⟩ : ∃ W4, (((w10.setCell ⟨q, 4, none⟩ (.int .i64 (ho : Nat))).setCell ⟨q, 5, none⟩ (.int .u64 (gn : Nat))).setCell ⟨q, 6, none⟩ (.slice As sp.length cs)).setCell ⟨q, 7, none⟩ (.slice none 0 0) = W4 := ⟨_, rfl⟩
                  rw [hW4] at hIR HTR
                  have HW4 := Lib.hid hW4
                  have HR0 : Hid (∃ M' N' v' vs', SysI M' N' W4 p q s2 ⟨g.age, g.base, g.size, ho, gn, sp, rs.take 0⟩ B10 As cs v' vs' ∧ Turn M w M' W4 ∧ (∀ k ∈ N, k ∈ N') ∧ (∀ k ∈ N', k ∈ N ∨ w.heap.size ≤ k)) := Lib.hid
                    ⟨_, _, _, _, hIR, HTR.out, fun k hk => List.mem_append.2 (.inr (List.mem_append.2 (.inr hk))), HN10.out⟩
                  clear hI10 hd10 ht10 hrow hkq hIR hW4 hs10 HTR HT10 HN10 HI9 HS9 HT9 HC9 HNW HO8 HB8 HX8 HO HX
                  go_wp2_with fail
                  rw [HW4.out]
                  clear HW4 c5 f64 f65 f66 f67
                  go_loopw [134] (fun iv wr => ∃ i : Nat, iv = .int .i64 i ∧ i ≤ rs.length ∧ Hid (∃ M' N' v' vs', SysI M' N' wr p q s2 ⟨g.age, g.base, g.size, ho, gn, sp, rs.take i⟩ B10 As cs v' vs' ∧ Turn M w M' wr ∧ (∀ k ∈ N, k ∈ N') ∧ (∀ k ∈ N', k ∈ N ∨ w.heap.size ≤ k))) (fun iv _ => rs.length - (intOf iv).toNat)
                  case atStart => exact ⟨0, rfl, by omega, HR0⟩
                  case round =>
                    clear HR0
                    obtain ⟨i, rfl, hi, HRR0⟩ := hrel
                    by_cases hlt : i < rs.length
                    · have hlt2 : (i : Int) < (rs.length : Int) := by omega
                      have hib : rs.length ≤ 5864062014806 := by have := hrlT.out; omega
                      obtain ⟨M1, N1, v1, vs1, hI1, ht1, hn1, hn2⟩ := HRR0.out
                      obtain ⟨Av, cv, rfl⟩ := own_form hI1.own
                      obtain ⟨ad, A1, c1, rfl, E0, hd⟩ := wrec_deed HRA.out hlt
                      have hxr : Ext W wr := HXW.out.kept ht1.kept fun k hk => HNN.out k (HI.out.MN k hk)
                      have hN1 : ∀ k ∈ N1, W.heap.size ≤ k := fun k hk => by
                        rcases hn2 k hk with h1 | h1
                        · exact HNN.out k h1
                        · exact Nat.le_trans HXW.out.size h1
                      have e0 := E0 _ hxr
                      have hrr := (hrok.out rs[i] (List.getElem_mem hlt)).2
                      have HTK : Hid (rs.take (i + 1) = rs.take i ++ [rs[i]]) := Lib.hid (by rw [List.take_add_one, List.getElem?_eq_getElem hlt]; rfl)
                      have HR6 := Lib.hid (deed_by hd hxr hN1)
                      have htl : (rs.take i).length ≤ 140737488355328 / 24 - 1 := by rw [List.length_take]; have := hrlT.out; omega
                      clear E0 hd hxr hN1 HRR0
                      simp only at HR6
                      generalize rs[i] = r at *
                      generalize rs.take i = rc at *
                      have hqR : q ∉ (Value.slice Av rc.length cv).ownBlock.toList := fun hm => by
                        have hm : (Value.slice Av rc.length cv).ownBlock = some q := by simpa using hm
                        rcases hI1.vq with e | e
                        · rw [e] at hm; cases hm
                        · exact e hm
                      have HRN : Hid (∀ k ∈ (Value.slice Av rc.length cv).ownBlock.toList, k ∈ N1) := Lib.hid fun k hk => hI1.MN k (hI1.vM k (by simpa using hk))
                      have HI6 := Lib.hid hI1
                      have HT6 := Lib.hid ht1
                      have HN1 := Lib.hid hn1
                      have HN2 := Lib.hid hn2
                      have HQR := Lib.hid hqR
                      clear hI1 ht1 hn1 hn2 hqR
                      generalize hR : (Value.slice Av rc.length cv).ownBlock.toList = R at *
                      have C7 : ∀ V, Kept R wr V → V.cell? ⟨q, 7, none⟩ = some (.slice Av rc.length cv) := fun V hx => (LgC.cell (HI6.out.row.kept hx HQR.out)).2.2.2.2.1
                      have F7 : ∀ V, Kept R wr V → V.frozen? ⟨q, 7, none⟩ = false := fun V hx => (LgC.cell (HI6.out.row.kept hx HQR.out)).2.2.2.2.2 7
                      have HCL := fun V (hx : Kept R wr V) => fclone_any A1 c1 r.length r V (BsM.kept HR6.out (hx.mono HRN.out)).bs (by omega) rfl
                      have HRR1 := Lib.hid hR
                      clear hR
                      go_wp2_with fail
                      refine wp_region_phase (S := fun V => Kept R wr V) 9 (by kernel_rfl) (by kernel_rfl) ?_ (fun hHeld => ?_)
                      · exact Kept.of_ext (Ext.refl wr).drew
                      simp only [List.drop_succ_cons, List.drop_zero]
                      refine name_head ?_
                      intro wr0 hw0
                      rw [hw0] at hHeld
                      have hox : wr0.ownsRow 0 46 1 (.slice Av rc.length cv) rc.length vs1 := hw0 ▸ HI6.out.own
                      refine wpHead_take (i := 0) (v := ?_) (by rfl) (by kernel_rfl) (by kernel_rfl) (by exact fun _ _ _ h => h) (Or.inl ⟨by rfl, ?_⟩) (by assumption) ?_
                      rotate_left
                      · intro w hSw
                        first | (go_simp; done) | (go_simp; with_reducible rfl)
                      simp only [List.getElem_toArray, List.getElem_cons_zero, Act.put, List.setIfInBounds_toArray, List.set_cons_zero, List.set_cons_succ]
                      refine wpHead_take (i := 1) (v := ?_) (by rfl) (by kernel_rfl) (by kernel_rfl) (by exact fun _ _ _ h => h) (Or.inl ⟨by rfl, ?_⟩) (by assumption) ?_
                      rotate_left
                      · intro w hSw
                        first | (go_simp; done) | (go_simp; with_reducible rfl)
                      simp only [List.getElem_toArray, List.getElem_cons_succ, List.getElem_cons_zero, Act.put, List.setIfInBounds_toArray, List.set_cons_zero, List.set_cons_succ]
                      refine wpHead_take (i := 2) (v := ?_) (by rfl) (by kernel_rfl) (by kernel_rfl) (by exact fun _ _ _ h => h) (Or.inl ⟨by rfl, ?_⟩) (by assumption) ?_
                      rotate_left
                      · intro w hSw
                        first | (go_simp; done) | (go_simp; with_reducible rfl)
                      simp only [List.getElem_toArray, List.getElem_cons_succ, List.getElem_cons_zero, Act.put, List.setIfInBounds_toArray, List.set_cons_zero, List.set_cons_succ]
                      refine wpHead_take (i := 3) (v := ?_) (by rfl) (by kernel_rfl) (by kernel_rfl) (by exact fun _ _ _ h => h) (Or.inl ⟨by rfl, ?_⟩) (by assumption) ?_
                      rotate_left
                      · intro w hSw
                        first | (go_simp; done) | (go_simp; with_reducible rfl)
                      simp only [List.getElem_toArray, List.getElem_cons_succ, List.getElem_cons_zero, Act.put, List.setIfInBounds_toArray, List.set_cons_zero, List.set_cons_succ]
                      refine wpHead_take (i := 4) (v := ?_) (by rfl) (by kernel_rfl) (by kernel_rfl) (by exact fun _ _ _ h => h) (Or.inl ⟨by rfl, ?_⟩) (by assumption) ?_
                      rotate_left
                      · intro w hSw
                        first | (go_simp; done) | (go_simp; with_reducible rfl)
                      simp only [List.getElem_toArray, List.getElem_cons_succ, List.getElem_cons_zero, Act.put, List.setIfInBounds_toArray, List.set_cons_zero, List.set_cons_succ]
                      refine wpHead_take (i := 5) (v := ?_) (by rfl) (by kernel_rfl) (by kernel_rfl) (by exact fun _ _ _ h => h) (Or.inl ⟨by rfl, ?_⟩) (by assumption) ?_
                      rotate_left
                      · intro w hSw
                        first | (go_simp; done) | (go_simp; with_reducible rfl)
                      simp only [List.getElem_toArray, List.getElem_cons_succ, List.getElem_cons_zero, Act.put, List.setIfInBounds_toArray, List.set_cons_zero, List.set_cons_succ]
                      refine wpHead_ready (rs := [6]) (by kernel_rfl) (by simp) (by kernel_rfl) ?_
                      refine AllHead.cons (by rfl) (fun K hK => ?_) ?_
                      · refine step_callG (by rfl) (by kernel_rfl) (HCL wr0 hHeld) ?_
                        rintro e wr6 ⟨vu, rfl, hu, hxu⟩
                        obtain ⟨Au, cu, rfl⟩ := hu.form
                        replace hox := owns_ext hox hxu
                        have hku := hHeld.ext hxu
                        have hbu := hHeld.size
                        refine ⟨_, rfl, ?_⟩
                        refine hK.out _ _ ?_ (fun hHeld => ?_)
                        · exact hku
                        clear hK K
                        try simp only [List.getElem_toArray, List.getElem_cons_succ, List.getElem_cons_zero, Act.put, List.setIfInBounds_toArray, List.set_cons_zero, List.set_cons_succ]
                        refine wpHead_ready (rs := [7]) (by kernel_rfl) (by simp) (by kernel_rfl) ?_
                        refine AllHead.cons (by rfl) (fun K hK => ?_) ?_
                        · go_simp
                          refine name_world ?_
                          rintro wr7 hw7
                          have hxn7 : Ext wr6 wr7 := hw7 ▸ (Ext.refl _).alloc _
                          have hrow7 : wr7.heap[wr6.heap.size]? = some (.cells #[.slice Au r.length cu] 46) := hw7 ▸ heap_alloc_new wr6 _
                          replace hox := owns_ext hox hxn7
                          replace hu := hu.ext hxn7
                          have hk7 := hHeld.ext hxn7
                          refine hK.out _ _ ?_ (fun hHeld => ?_)
                          · exact hk7
                          clear hK K
                          try simp only [List.getElem_toArray, List.getElem_cons_succ, List.getElem_cons_zero, Act.put, List.setIfInBounds_toArray, List.set_cons_zero, List.set_cons_succ]
                          refine wpHead_ready (rs := [8]) (by kernel_rfl) (by simp) (by kernel_rfl) ?_
                          refine AllHead.cons (by rfl) (fun K hK => ?_) ?_
                          · refine step_ap bytessT hox (Sl.of_row (l := [.slice Au r.length cu]) hrow7) rfl rfl rfl rfl rfl (by simp [Value.oneCell']) (by omega) (by omega) (Nat.zero_le _) ?_
                            rintro v8 wr8 ho8 hg8 hor8
                            have hk8 : Kept R wr wr8 := hHeld.grown hg8 fun k hk => .inl (by rw [← HRR1.out]; simp [hk])
                            replace hu := hu.kept hg8 (owns_apart hu hox (by decide))
                            have hor9 : v8.ownBlock = (Value.slice Av rc.length cv).ownBlock ∨ ∃ k, v8.ownBlock = some k ∧ wr.heap.size ≤ k := by
                              rcases hor8 with e | e
                              · exact .inl e
                              · exact .inr ⟨_, e, hHeld.size⟩
                            obtain ⟨A8, c8, rfl⟩ := own_form ho8
                            refine hK.out _ _ ?_ (fun hHeld => ?_)
                            · exact hk8
                            clear hK K
                            try simp only [List.getElem_toArray, List.getElem_cons_succ, List.getElem_cons_zero, Act.put, List.setIfInBounds_toArray, List.set_cons_zero, List.set_cons_succ]
                            refine wpHead_done (by kernel_rfl) ?_
                            have hkz : Kept (Value.slice Av rc.length cv).ownBlock.toList wr wr8 := by rw [HRR1.out]; exact hk8
                            have hP := HI6.out.push hkz ho8 hor9 hu hbu
                            have HP : Hid (∃ M' N' v' vs', SysI M' N' (wr8.setCell ⟨q, 7, none⟩ (.slice A8 (rc.length + 1) c8)) p q s2 ⟨g.age, g.base, g.size, ho, gn, sp, rs.take (i + 1)⟩ B10 As cs v' vs' ∧ Turn M w M' (wr8.setCell ⟨q, 7, none⟩ (.slice A8 (rc.length + 1) c8)) ∧ (∀ k ∈ N, k ∈ N') ∧ (∀ k ∈ N', k ∈ N ∨ w.heap.size ≤ k)) := Lib.hid (by
                              rw [HTK.out]
                              refine ⟨_, _, _, _, hP.1, HT6.out.trans hP.2, fun k hk => List.mem_append.2 (.inr (HN1.out k hk)), fun k hk => ?_⟩
                              rcases List.mem_append.1 hk with hk | hk
                              · have hk : (Value.slice A8 (rc.length + 1) c8).ownBlock = some k := by simpa using hk
                                rcases hor9 with e | ⟨j, e, hj⟩
                                · exact HN2.out k (HRN.out k (by rw [← HRR1.out, ← e]; simp [hk]))
                                · rw [e] at hk
                                  injection hk with hk
                                  have := HT6.out.kept.size
                                  exact .inr (by omega)
                              · exact HN2.out k hk)
                            have c78 := C7 wr8 hk8
                            have f78 := F7 wr8 hk8
                            clear hkz ho8 hor9 hu hbu hg8 hor8 hox hk8 hk7 hku hHeld C7 F7 HCL hP
                            go_wp2
                            go_roundw
                            case rel => exact ⟨i + 1, by go_num, by omega, HP⟩
                            case measure => simp [intOf]; omega
                          exact AllHead.nil
                        exact AllHead.nil
                      exact AllHead.nil
                    · have hlt2 : ¬ (i : Int) < (rs.length : Int) := by omega
                      obtain rfl : i = rs.length := by omega
                      rw [List.take_length] at HRR0
                      go_wp2
                      go_ret
                      rw [HV.out]
                      obtain ⟨M', N', v', vs', h1, h2, h3, h4⟩ := HRR0.out
                      exact ⟨rfl, M', N', ⟨_, _, _, _, _, h1⟩, h2, h3, h4⟩
            exact AllHead.nil
          exact AllHead.nil
end Go.Proofs.Ytklodimokhndoaa
namespace Go.Proofs.Ytklodimokhndoaa
open Go.RowKit
theorem resetR_ok {n : Nat} {s : Dk} {g : Lg} (hg : Gd n s g) (rs : List By) : (resetR s g rs).2.1.Ok ∧ (resetR s g rs).2.1.Few (n + 1000) := by
  have h1 := layD_ok hg.ok (g.at_ (1 - g.half)) (g.size - 1) (spF (64 * (g.size - 1)) [] rs) true
  have h2 := layD_few hg.few (g.at_ (1 - g.half)) (g.size - 1) (spF (64 * (g.size - 1)) [] rs) true
  have h3 := crownD_ok h1 (g.at_ (1 - g.half)) (g.gen + 1)
  have h4 := crownD_few h2 (g.at_ (1 - g.half)) (g.gen + 1)
  have hs := hg.fit.s2
  unfold resetR
  split
  · exact ⟨hg.ok, hg.few.mono (by omega)⟩
  · split
    · exact ⟨hg.ok, hg.few.mono (by omega)⟩
    · split
      · exact ⟨hg.ok, hg.few.mono (by omega)⟩
      · split
        · exact ⟨h1, h2.mono (by omega)⟩
        · split
          · exact ⟨h3, h4.mono (by omega)⟩
          · exact ⟨h3, h4.mono (by omega)⟩
theorem resetR_recs {n : Nat} {s : Dk} {g : Lg} (hg : Gd n s g) (rs : List By) : (resetR s g rs).2.2.recs.length ≤ n + 100000 ∧ ∀ r ∈ (resetR s g rs).2.2.recs, r.length ≤ 2000 := by
  have h0 : g.recs.length ≤ n + 100000 ∧ ∀ r ∈ g.recs, r.length ≤ 2000 := ⟨by have := hg.rl; omega, hg.rs⟩
  have hs := hg.fit.s2
  unfold resetR
  split
  · exact h0
  · split
    · exact h0
    · rename_i hw
      split
      · exact h0
      · rename_i hf
        split
        · exact h0
        · split
          · exact h0
          · have hok := wrongA_ok rs (Decidable.not_not.1 hw)
            obtain ⟨-, h5⟩ := spF_all (64 * (g.size - 1)) rs [] (by omega) hok
            simp only [List.length_nil] at h5
            exact ⟨by simp only; omega, fun r hr => (hok r hr).2⟩
/-- rows of bytes that lie in no block of N -/
def BsK (N : List Nat) (w : World) (A : Option Addr) (ls : List By) : Prop := ∃ vs : List Value, SlM N w A vs ∧ ∀ (k : Nat) (l : By), ls[k]? = some l → ∃ A' c', vs[k]? = some (.slice A' l.length c') ∧ BsM N w A' l
theorem BsK.kept {N : List Nat} {w w' : World} {A : Option Addr} {ls : List By} (h : BsK N w A ls) (hk : Kept N w w') : BsK N w' A ls := by
  obtain ⟨vs, h1, h2⟩ := h
  exact ⟨vs, h1.kept hk, fun k l hl => by obtain ⟨A', c', h3, h4⟩ := h2 k l hl; exact ⟨A', c', h3, h4.kept hk⟩⟩
theorem BsK.old {N N' : List Nat} {w : World} {A : Option Addr} {ls : List By} (h : BsK N w A ls) (hs : ∀ k ∈ N', k ∈ N ∨ w.heap.size ≤ k) : BsK N' w A ls := by
  obtain ⟨vs, h1, h2⟩ := h
  exact ⟨vs, SlM.old h1 hs, fun k l hl => by obtain ⟨A', c', h3, h4⟩ := h2 k l hl; exact ⟨A', c', h3, SlM.old h4 hs⟩⟩
theorem BsK.bss {N : List Nat} {w : World} {A : Option Addr} {ls : List By} (h : BsK N w A ls) : BsS w A ls := by
  obtain ⟨vs, h1, h2⟩ := h
  intro k l hl
  obtain ⟨A', c', h3, h4⟩ := h2 k l hl
  obtain ⟨ad, e, hc⟩ := h1.sl k _ h3
  exact ⟨ad, A', c', e, hc, h4.bs⟩
theorem OwnS.bsk {N : List Nat} {w : World} {base n c : Nat} {A : Option Addr} {ls : List By} (h : OwnS w base (.slice A n c) ls) (hN : ∀ k ∈ N, k < base) : BsK N w A ls := by
  obtain ⟨vs, h1, h2⟩ := h
  refine ⟨vs, SlM.own h1 rfl hN, fun k l hl => ?_⟩
  obtain ⟨v, h3, h4⟩ := h2 k l hl
  obtain ⟨A', c', rfl⟩ := h4.form
  exact ⟨A', c', h3, BsM.own h4 hN⟩
/-- through a turn of the disk and the log -/
theorem BsK.aft {M N : List Nat} {w w' : World} {p q : Nat} {s : Dk} {g : Lg} {A : Option Addr} {ls : List By} (h : BsK N w A ls) (ha : Aft M N w w' p q s g) (hMN : ∀ k ∈ M, k ∈ N) : BsK N w' A ls := by
  obtain ⟨M', N', -, ht, -, -⟩ := ha
  exact h.kept (ht.kept.mono hMN)
theorem RunI.aft2 {M N M' N' : List Nat} {w0 w w' : World} {P p q : Nat} {s s' : Dk} {g g' : Lg} {all : List By} {sure : Nat} {v : Value} {vs : List Value} (h : RunI M N w0 w P p q s g all sure v vs) (h1 : Sys M' N' w' p q s' g') (h2 : Turn M w M' w') (h3 : ∀ k ∈ N, k ∈ N') (h4 : ∀ k ∈ N', k ∈ N ∨ w.heap.size ≤ k) : RunI M' N' w0 w' P p q s' g' all sure v vs := by
  have hP := h.lt P h.PN
  have hout : ∀ k, k < w.heap.size → k ∉ M → k ∉ M' := fun k hk hn hm => by
    rcases h2.new k hm with h5 | h5
    · exact hn h5
    · omega
  refine ⟨h.ex.kept h2.kept fun k hk => h.new k (h.sys.MN k hk), h2.kept.heap h.row h.PM, h1, hout P hP h.PM, h3 P h.PN, fun k hk => ?_, fun k hk => hout k (h.lt k (h.vN k hk)) (h.vM k hk), fun k hk => h3 k (h.vN k hk), ?_, fun k l hk => ?_⟩
  · rcases h4 k hk with h5 | h5
    · exact h.new k h5
    · exact Nat.le_trans h.ex.size h5
  · obtain ⟨o1, o2⟩ := h.own
    refine ⟨o1, ?_⟩
    rcases o2 with o2 | ⟨g', cap', cur, e, hb, hg, o3⟩
    · exact .inl o2
    · exact .inr ⟨g', cap', cur, e, hb, h2.kept.heap hg (h.vM g' (by rw [e]; rfl)), o3⟩
  · obtain ⟨A', c', e1, e2, e3⟩ := h.els k l hk
    exact ⟨A', c', e1, e2, (SlM.old e3 h4).kept (h2.kept.mono fun k hk => h3 k (h.sys.MN k hk))⟩
/-- a turn, while rows of bytes lie apart -/
theorem RunI.aftK {M N : List Nat} {w0 w w' : World} {P p q : Nat} {s s' : Dk} {g g' : Lg} {all ls : List By} {sure : Nat} {v : Value} {vs : List Value} {A : Option Addr} (h : RunI M N w0 w P p q s g all sure v vs) (hK : BsK N w A ls) (ha : Aft M N w w' p q s' g') :
    ∃ M' N', RunI M' N' w0 w' P p q s' g' all sure v vs ∧ BsK N' w' A ls := by
  obtain ⟨M', N', h1, h2, h3, h4⟩ := ha
  exact ⟨M', N', h.aft2 h1 h2 h3 h4, (hK.old h4).kept (h2.kept.mono fun k hk => h3 k (h.sys.MN k hk))⟩
theorem recs_bss {w w' : World} {A : Option Addr} {l : List By} (h : RsM RRec 1 [] w A l) (hx : Ext w w') : BsS w' A l := by
  intro k r hk
  obtain ⟨hlt, rfl⟩ := List.getElem?_eq_some_iff.1 hk
  obtain ⟨ad, A1, c1, e, h1, h2⟩ := wrec_deed h hlt
  exact ⟨ad, A1, c1, e, h1 w' hx, (BsM.bs h2.by_).ext hx⟩
end Go.Proofs.Ytklodimokhndoaa
