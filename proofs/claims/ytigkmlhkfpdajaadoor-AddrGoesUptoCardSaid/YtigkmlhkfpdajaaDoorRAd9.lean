/- Plain laws: where a text is no address, what stands ahead of the letter that is told goes on to one. Conditions: the hypotheses of each theorem. -/
import Derived.Test.YtigkmlhkfpdajaaDoorRAd8
namespace Go.Proofs.YtigkmlhkfpdajaaDoor
open Go.RowKit
def bytesOf (ds : List (Nat × List UInt8)) : List UInt8 := ds.flatMap fun d => d.2
/-- what AddrGoes asks -/
structure Goes (l : List UInt8) (q e : Nat) : Prop where
  le : q ≤ (letL l).length
  short : e = 3 → q = (letL l).length
  form : e = 4 → q < (letL l).length
  ex : ∃ x ∈ ends, okE (bytesOf ((letL l).take q) ++ x)
theorem ends_mem {e : List UInt8} (h : e ∈ [([] : List UInt8), [97], [64, 97], [97, 64, 97]]) : e ∈ ends := by
  unfold ends
  simp only [List.mem_cons, List.not_mem_nil, or_false] at h ⊢
  rcases h with h | h | h | h <;> simp [h]
theorem end_asc {e : List UInt8} (h : e ∈ ends) : ∀ b ∈ e, b.toNat < 128 := by
  have : ∀ e ∈ ends, ∀ b ∈ e, b.toNat < 128 := by decide +kernel
  exact this e h
theorem head_of {l h e : List UInt8} (h34 : ¬ l[0]? = some 34) {q : Nat} (hd : (letL l).take q = asc h) (hb : ∀ b ∈ h, b.toNat < 128) (he : e[0]? ≠ some 34) : ¬ (h ++ e)[0]? = some 34 := by
  cases h with
  | nil => simpa using he
  | cons x r =>
    intro h0
    have : x = 34 := by simpa using h0
    subst this
    have : (letL l)[0]? = some (34, [34]) := by
      cases q with
      | zero => simp [asc] at hd
      | succ q =>
        have := congrArg (fun d : List (Nat × List UInt8) => d[0]?) hd
        simp only [List.getElem?_take, asc] at this
        simpa using this
    exact h34 ((head_34 l).2 ⟨_, this⟩)
theorem goes_bare {l : List UInt8} (h34 : ¬ l[0]? = some 34) (he : (parseT l).2.2.2 = 3 ∨ (parseT l).2.2.2 = 4) : Goes l (parseT l).2.2.1 (parseT l).2.2.2 := by
  have hp := rest0 h34
  have hrs := runF_stop (letL l) 0 0 0 none 0 (by omega) (by omega) (by omega)
  have hok := letL_ok _ l (Nat.le_refl _)
  have key : ∀ (q s' n' : Nat) (a' : Option Nat) (pos' : Nat), s' ≤ 6 → (s' = 5 → n' ≤ 62) → s' ≠ 3 → (q = 0 → s' ≠ 4) → (∀ d ∈ (letL l).take q, d.1 < 128) → (∀ r, runF ((letL l).take q ++ r) 0 0 0 none 0 = runF r s' n' q a' pos') → ∃ x ∈ ends, okE (bytesOf ((letL l).take q) ++ x) := by
    intro q s' n' a' pos' h1 h2 h3 h4 h5 h6
    obtain ⟨e, hm, e1, e2, z, e3⟩ := run_end s' n' q a' pos' h1 h2 h3
    obtain ⟨a1, a2⟩ := all_asc ((letL l).take q) (fun d hd => hok d (List.mem_of_mem_take hd)) h5
    refine ⟨e, ends_mem hm, ?_⟩
    unfold okE
    have hb : bytesOf ((letL l).take q) = ((letL l).take q).flatMap fun d => d.2 := rfl
    rw [hb]
    generalize ((letL l).take q).flatMap (fun d => d.2) = hd at *
    rw [rest0 (head_of h34 a1 a2 e2)]
    refine rest_ok (z := z) ?_
    rw [List.drop_zero, letL_prn _ _ a2, ← a1, letL_all e (end_asc (ends_mem hm)), h6, e3]
  rw [hp] at he ⊢
  unfold restT at he ⊢
  rw [List.drop_zero] at he ⊢
  cases hr : runF (letL l) 0 0 0 none 0 with
  | inl q =>
    rw [hr] at he
    obtain ⟨h1, h2, s', n', a', pos', e3, e4, e5, e6, e7⟩ := hrs.1 q hr
    rw [Nat.sub_zero] at h2 e7
    simp only
    refine ⟨by omega, by simp, fun _ => h2, key q s' n' a' pos' e3 e4 (fun h => by have := (e6 h).2; omega) ?_ ?_ e7⟩
    · rintro rfl rfl
      have := e7 []
      rw [List.take_zero] at this
      simp [runF] at this
    · have := (runF_asc ((letL l).take q) ((letL l).drop q) 0 0 0 none 0 (by omega)).1 q (by rw [List.take_append_drop]; exact hr) (by simp; omega)
      exact this
  | inr x =>
    obtain ⟨z, q, a⟩ := x
    rw [hr] at he
    obtain ⟨h1, n', pos', e3, e4, e5, e6, e7⟩ := hrs.2 z q a hr
    rw [Nat.zero_add] at h1
    by_cases hz : z = 4
    · exfalso
      subst hz
      simp only at he
      rw [if_neg (by simp)] at he
      have hall : ∀ (p : Prop) [Decidable p] (x y : List UInt8), ¬ ((if p then (([] : List UInt8), ([] : List UInt8), 0, 6) else (x, y, 0, 0)).2.2.2 = 3 ∨ (if p then (([] : List UInt8), ([] : List UInt8), 0, 6) else (x, y, 0, 0)).2.2.2 = 4) := by
        intro p _ x y
        split <;> simp
      exact hall _ _ _ he
    · simp only
      rw [if_pos (by omega)]
      have htk : (letL l).take q = letL l := List.take_of_length_le (by omega)
      simp only
      refine ⟨by omega, fun _ => h1, by simp, key q z n' a pos' e3 e4 (fun h => by have := (e6 h).2; omega) (fun _ => hz) ?_ (by rw [htk]; exact e7)⟩
      rw [htk]
      have := (runF_asc (letL l) [] 0 0 0 none 0 (by omega)).2 (z, q, a) (by rw [List.append_nil]; exact hr)
      exact this
/-- a signed text: how far it is read -/
theorem long_run : ∀ (ds : List (Nat × List UInt8)) (sg : Bool) (pl : Nat) (out : List UInt8) (pos : Nat), pl ≠ 0 →
    ((longF ds sg pl out pos).2.2.2 = 0 → ∃ ds1 ds2, ds = ds1 ++ ds2 ∧ (∀ d ∈ ds1, d.1 < 128) ∧ ∀ r, (∀ d ∈ ds1, d.2.length = 1) → longF (ds1 ++ r) sg pl out pos = ((longF ds sg pl out pos).1, pos + ds1.length, 0, 0) ∧ (longF ds sg pl out pos).2.1 = pos + ds1.length) ∧
    ((longF ds sg pl out pos).2.2.2 ≠ 0 → ∃ k sg' out', (longF ds sg pl out pos).2.2.1 = pl + k ∧ (((longF ds sg pl out pos).2.2.2 = 3 ∧ k = ds.length) ∨ ((longF ds sg pl out pos).2.2.2 = 4 ∧ k < ds.length)) ∧ (∀ d ∈ ds.take k, d.1 < 128) ∧
      ∀ r, (∀ d ∈ ds.take k, d.2.length = 1) → longF (ds.take k ++ r) sg pl out pos = longF r sg' (pl + k) out' (pos + k))
  | [], sg, pl, out, pos, hp => ⟨fun h => by simp [longF] at h, fun _ => ⟨0, sg, out, rfl, .inl ⟨rfl, rfl⟩, by simp, fun r _ => rfl⟩⟩
  | (c, b) :: ds, sg, pl, out, pos, hp => by
    by_cases h1 : (c < 32 ∨ 126 < c) ∨ (sg = true ∧ c ≠ 34 ∧ c ≠ 92)
    · have e : longF ((c, b) :: ds) sg pl out pos = ([], 0, pl, 4) := by unfold longF; rw [if_pos h1]
      rw [e]
      exact ⟨fun h => by simp at h, fun _ => ⟨0, sg, out, rfl, .inr ⟨rfl, by simp⟩, by simp, fun r _ => rfl⟩⟩
    · have hc : c < 128 := by omega
      by_cases h3 : sg = false ∧ c = 34
      · have e : ∀ r, longF ((c, b) :: r) sg pl out pos = (out, pos + 1, 0, 0) := by intro r; unfold longF; rw [if_neg h1, if_neg hp, if_neg (by rw [h3.2]; simp), if_pos h3]
        rw [e]
        refine ⟨fun _ => ⟨[(c, b)], ds, rfl, by simpa using hc, fun r _ => ⟨by rw [List.singleton_append, e]; rfl, rfl⟩⟩, fun h => absurd rfl h⟩
      · -- the run goes on
        have hon : ∃ sg' out', ∀ r, longF ((c, b) :: r) sg pl out pos = longF r sg' (pl + 1) out' (pos + b.length) := by
          by_cases h2 : sg = false ∧ c = 92
          · exact ⟨true, out, fun r => by conv => lhs; unfold longF
                                          rw [if_neg h1, if_neg hp, if_pos h2]⟩
          · exact ⟨false, out ++ [UInt8.ofNat c], fun r => by conv => lhs; unfold longF
                                                              rw [if_neg h1, if_neg hp, if_neg h2, if_neg h3]⟩
        obtain ⟨sg', out', hon⟩ := hon
        obtain ⟨i1, i2⟩ := long_run ds sg' (pl + 1) out' (pos + b.length) (by omega)
        rw [hon]
        constructor
        · intro h0
          obtain ⟨ds1, ds2, e1, e2, e3⟩ := i1 h0
          refine ⟨(c, b) :: ds1, ds2, by rw [e1]; rfl, ?_, fun r hl => ?_⟩
          · intro d hd
            rw [List.mem_cons] at hd
            rcases hd with rfl | hd
            · exact hc
            · exact e2 d hd
          · have hb : b.length = 1 := hl (c, b) (by simp)
            obtain ⟨f1, f2⟩ := e3 r (fun d hd => hl d (List.mem_cons_of_mem _ hd))
            rw [List.cons_append, hon, f1, f2, hb]
            simp only [List.length_cons]
            exact ⟨by rw [show pos + 1 + ds1.length = pos + (ds1.length + 1) by omega], by omega⟩
        · intro h0
          obtain ⟨k, sg2, out2, e1, e2, e3, e4⟩ := i2 h0
          refine ⟨k + 1, sg2, out2, by rw [e1]; omega, by simp only [List.length_cons]; omega, ?_, fun r hl => ?_⟩
          · intro d hd
            rw [List.take_succ_cons, List.mem_cons] at hd
            rcases hd with rfl | hd
            · exact hc
            · exact e3 d hd
          · rw [List.take_succ_cons] at hl ⊢
            have hb : b.length = 1 := hl (c, b) (by simp)
            rw [List.cons_append, hon, e4 r (fun d hd => hl d (List.mem_cons_of_mem _ hd)), hb, show pl + 1 + k = pl + (k + 1) by omega, show pos + 1 + k = pos + (k + 1) by omega]
theorem asc_one (l : List UInt8) : ∀ d ∈ asc l, d.2.length = 1 := by
  intro d hd
  obtain ⟨b, _, rfl⟩ := List.mem_map.1 hd
  rfl
theorem tail_at (pl nn : Nat) : ∃ z : Nat × Option Nat, runF (letL [64, 97]) 3 0 pl none nn = .inr (4, z.1, z.2) := by
  rw [letL_asc 64 _ (by decide), letL_asc 97 _ (by decide), letL_nil]
  exact endS_4 (by simp [runF, nextS, alnumB, endS])
theorem okE_quoted {l said : List UInt8} {nn : Nat} (h34 : l[0]? = some 34) (h : longT l = (said, nn, 0, 0)) {z : Nat × Option Nat} (hr : runF (letL (l.drop nn)) 3 0 (letL (l.take nn)).length none nn = .inr (4, z.1, z.2)) : okE l := by
  unfold okE parseT
  rw [if_pos h34, h]
  simp only
  rw [if_neg (by simp)]
  exact rest_ok (z := z) hr
theorem goes_quoted {l : List UInt8} (h34 : l[0]? = some 34) (he : (parseT l).2.2.2 = 3 ∨ (parseT l).2.2.2 = 4) : Goes l (parseT l).2.2.1 (parseT l).2.2.2 := by
  obtain ⟨r, rfl⟩ : ∃ r, l = 34 :: r := by
    cases l with
    | nil => cases h34
    | cons x r => exact ⟨r, by have : x = 34 := by simpa using h34
                               rw [this]⟩
  have hlet : letL (34 :: r) = (34, [34]) :: letL r := letL_asc 34 r (by decide)
  have hok := letL_ok _ r (Nat.le_refl _)
  obtain ⟨i1, i2⟩ := long_run (letL r) false 1 [] 1 (by omega)
  have hlt := long_first r
  by_cases h0 : (longT (34 :: r)).2.2.2 = 0
  · rw [hlt] at h0
    obtain ⟨ds1, ds2, e1, e2, e3⟩ := i1 h0
    rw [e1] at hok
    obtain ⟨a1, a2⟩ := all_asc ds1 (fun d hd => hok d (List.mem_append_left _ hd)) e2
    have hone : ∀ d ∈ ds1, d.2.length = 1 := by rw [a1]; exact asc_one _
    generalize hh1 : ds1.flatMap (fun d => d.2) = h1 at *
    have hlen1 : ds1.length = h1.length := by rw [a1, asc_length]
    generalize hsd : (longF (letL r) false 1 [] 1).1 = said at *
    have hlong : ∀ x, longT (34 :: (h1 ++ x)) = (said, 1 + h1.length, 0, 0) := by
      intro x
      rw [long_first, letL_prn _ _ a2, ← a1, (e3 (letL x) hone).1, hlen1]
    have hr2 : r = h1 ++ r.drop h1.length := by
      have := let_bytes _ r (Nat.le_refl _)
      rw [e1, List.flatMap_append, hh1] at this
      conv => lhs; rw [← List.take_append_drop h1.length r]
      congr 1
      conv => lhs; rw [← this]
      exact List.take_left
    have hds2 : letL (r.drop h1.length) = ds2 := by
      have := drop_let ds1 r ds2 e1
      rwa [hh1] at this
    have hlr : longT (34 :: r) = (said, 1 + h1.length, 0, 0) := by rw [hr2]; exact hlong _
    have htake : ∀ x, (34 :: (h1 ++ x)).take (1 + h1.length) = 34 :: h1 := by
      intro x
      rw [Nat.add_comm, List.take_succ_cons, List.take_left]
    have hdrop : ∀ x, (34 :: (h1 ++ x)).drop (1 + h1.length) = x := by
      intro x
      rw [Nat.add_comm, List.drop_succ_cons, List.drop_left]
    have hpl : (letL (34 :: h1)).length = 1 + h1.length := by
      rw [letL_asc 34 _ (by decide), letL_all h1 a2, List.length_cons, asc_length]; omega
    have hp : parseT (34 :: r) = restT (34 :: r) said 3 (1 + h1.length) (1 + h1.length) := by
      have := htake (r.drop h1.length)
      rw [← hr2] at this
      unfold parseT
      rw [if_pos (show (34 :: r)[0]? = some 34 from rfl), hlr]
      simp only
      rw [if_neg (by simp), this, hpl]
    have hdr : letL ((34 :: r).drop (1 + h1.length)) = ds2 := by
      have := hdrop (r.drop h1.length)
      rw [← hr2] at this
      rw [this, hds2]
    generalize hnn : 1 + h1.length = nn at *
    have hrs := runF_stop ds2 3 0 nn none nn (by omega) (by omega) (by omega)
    -- an end, from where it stopped
    have key : ∀ (k s' n' : Nat) (a' : Option Nat) (pos' : Nat), s' ≤ 6 → (s' = 5 → n' ≤ 62) → (s' = 3 → k = 0) → (∀ d ∈ ds2.take k, d.1 < 128) → (∀ x, runF (ds2.take k ++ x) 3 0 nn none nn = runF x s' n' (nn + k) a' pos') → ∃ x ∈ ends, okE (bytesOf ((letL (34 :: r)).take (nn + k)) ++ x) := by
      intro k s' n' a' pos' g1 g2 g3 g4 g5
      have hbytes : bytesOf ((letL (34 :: r)).take (nn + k)) = 34 :: (h1 ++ (ds2.take k).flatMap fun d => d.2) := by
        rw [hlet, e1, ← hnn, show 1 + h1.length + k = (h1.length + k) + 1 by omega, List.take_succ_cons, List.take_append, List.take_of_length_le (by omega), show h1.length + k - ds1.length = k by omega]
        unfold bytesOf
        rw [List.flatMap_cons, List.flatMap_append, hh1]
        rfl
      obtain ⟨b1, b2⟩ := all_asc (ds2.take k) (fun d hd => hok d (List.mem_append_right _ (List.mem_of_mem_take hd))) g4
      generalize hh2 : (ds2.take k).flatMap (fun d => d.2) = h2 at *
      have fin : ∀ x ∈ ends, (∃ z : Nat × Option Nat, runF (ds2.take k ++ asc x) 3 0 nn none nn = .inr (4, z.1, z.2)) → okE (bytesOf ((letL (34 :: r)).take (nn + k)) ++ x) := by
        rintro x hx ⟨z, hz⟩
        rw [hbytes, show (34 :: (h1 ++ h2)) ++ x = 34 :: (h1 ++ (h2 ++ x)) by simp]
        refine okE_quoted rfl (hlong (h2 ++ x)) (z := z) ?_
        rw [htake, hpl, hdrop, letL_prn _ _ b2, ← b1, letL_all x (end_asc hx)]
        exact hz
      by_cases hs3 : s' = 3
      · have hk := g3 hs3
        subst hk
        refine ⟨[64, 97], by simp [ends], fin _ (by simp [ends]) ?_⟩
        obtain ⟨z, hz⟩ := tail_at nn nn
        refine ⟨z, ?_⟩
        rw [List.take_zero, List.nil_append, ← letL_all [64, 97] (by decide +kernel)]
        exact hz
      · obtain ⟨e, hm, _, _, z, e3'⟩ := run_end s' n' (nn + k) a' pos' g1 g2 hs3
        exact ⟨e, ends_mem hm, fin e (ends_mem hm) ⟨z, by rw [g5, e3']⟩⟩
    have hlenl : (letL (34 :: r)).length = nn + ds2.length := by rw [hlet, e1]; simp; omega
    rw [hp] at he ⊢
    unfold restT at he ⊢
    rw [hdr] at he ⊢
    cases hr : runF ds2 3 0 nn none nn with
    | inl q =>
      rw [hr] at he
      obtain ⟨f1, f2, s', n', a', pos', f3, f4, f5, f6, f7⟩ := hrs.1 q hr
      simp only
      have hq : nn + (q - nn) = q := by omega
      refine ⟨by omega, by simp, fun _ => by omega, ?_⟩
      have := key (q - nn) s' n' a' pos' f3 f4 (fun h => by have := (f6 h).1; omega) ?_ (by rw [hq]; exact f7)
      · rwa [hq] at this
      · exact (runF_asc (ds2.take (q - nn)) (ds2.drop (q - nn)) 3 0 nn none nn (by omega)).1 q (by rw [List.take_append_drop]; exact hr) (by simp; omega)
    | inr x =>
      obtain ⟨z, q, a⟩ := x
      rw [hr] at he
      obtain ⟨f1, n', pos', f3, f4, f5, f6, f7⟩ := hrs.2 z q a hr
      by_cases hz : z = 4
      · exfalso
        subst hz
        simp only at he
        rw [if_neg (by simp)] at he
        have hall : ∀ (p : Prop) [Decidable p] (x y : List UInt8), ¬ ((if p then (([] : List UInt8), ([] : List UInt8), 0, 6) else (x, y, 0, 0)).2.2.2 = 3 ∨ (if p then (([] : List UInt8), ([] : List UInt8), 0, 6) else (x, y, 0, 0)).2.2.2 = 4) := by
          intro p _ x y
          split <;> simp
        exact hall _ _ _ he
      · simp only
        rw [if_pos (by omega)]
        have htk : ds2.take ds2.length = ds2 := List.take_length
        simp only
        refine ⟨by omega, fun _ => by omega, by simp, ?_⟩
        have := key ds2.length z n' a pos' f3 f4 (fun h => by have := (f6 h).1; rw [this]; rfl) ?_ (by rw [htk, ← f1]; exact f7)
        · rwa [← f1] at this
        · rw [htk]
          exact (runF_asc ds2 [] 3 0 nn none nn (by omega)).2 (z, q, a) (by rw [List.append_nil]; exact hr)
  · have hp : parseT (34 :: r) = ([], [], (longT (34 :: r)).2.2.1, (longT (34 :: r)).2.2.2) := by
      unfold parseT
      rw [if_pos (show (34 :: r)[0]? = some 34 from rfl), if_pos h0]
    rw [hp]
    rw [hlt] at h0 ⊢
    obtain ⟨k, sg', out', e1, e2, e3, e4⟩ := i2 h0
    simp only
    rw [e1]
    obtain ⟨a1, a2⟩ := all_asc ((letL r).take k) (fun d hd => hok d (List.mem_of_mem_take hd)) e3
    have hone : ∀ d ∈ (letL r).take k, d.2.length = 1 := by rw [a1]; exact asc_one _
    have hkl : k ≤ (letL r).length := by omega
    have hlen : ((letL r).take k).length = k := by simp; omega
    have hbytes : bytesOf ((letL (34 :: r)).take (1 + k)) = 34 :: ((letL r).take k).flatMap fun d => d.2 := by
      rw [hlet, Nat.add_comm, List.take_succ_cons]
      unfold bytesOf
      rw [List.flatMap_cons]
      rfl
    refine ⟨by rw [hlet]; simp; omega, fun h => by rw [hlet]; simp; omega, fun h => by rw [hlet]; simp; omega, ?_⟩
    rw [hbytes]
    generalize hh1 : ((letL r).take k).flatMap (fun d => d.2) = h1 at *
    have hl1 : h1.length = k := by have := congrArg List.length a1; rw [hlen, asc_length] at this; omega
    have hlong : ∀ x, (∀ b ∈ x, b.toNat < 128) → longT (34 :: (h1 ++ x)) = longF (asc x) sg' (1 + k) out' (1 + k) := by
      intro x hx
      rw [long_first, letL_prn _ _ a2, ← a1, e4 (letL x) hone, letL_all x hx]
    cases sg' with
    | false =>
      refine ⟨[34, 64, 97], by simp [ends], ?_⟩
      rw [List.cons_append]
      have hl : longT (34 :: (h1 ++ [34, 64, 97])) = (out', 1 + k + 1, 0, 0) := by
        rw [hlong _ (by decide +kernel)]
        simp only [asc, List.map_cons]
        unfold longF
        rw [if_neg (by simp), if_neg (by omega), if_neg (by simp), if_pos ⟨rfl, rfl⟩]
      have hdr : (34 :: (h1 ++ [34, 64, 97])).drop (1 + k + 1) = [64, 97] := by
        rw [List.drop_succ_cons, ← hl1, Nat.add_comm, ← List.drop_drop, List.drop_left]
        rfl
      obtain ⟨z, hz⟩ := tail_at (letL ((34 :: (h1 ++ [34, 64, 97])).take (1 + k + 1))).length (1 + k + 1)
      exact okE_quoted rfl hl (z := z) (by rw [hdr]; exact hz)
    | true =>
      refine ⟨[92, 34, 64, 97], by simp [ends], ?_⟩
      rw [List.cons_append]
      have hl : longT (34 :: (h1 ++ [92, 34, 64, 97])) = (out' ++ [92], 1 + k + 2, 0, 0) := by
        rw [hlong _ (by decide +kernel)]
        simp only [asc, List.map_cons]
        unfold longF
        rw [if_neg (by simp), if_neg (by omega), if_neg (by simp), if_neg (by simp)]
        unfold longF
        rw [if_neg (by simp), if_neg (by omega), if_neg (by simp), if_pos ⟨rfl, rfl⟩]
        rfl
      have hdr : (34 :: (h1 ++ [92, 34, 64, 97])).drop (1 + k + 2) = [64, 97] := by
        rw [show 1 + k + 2 = (h1.length + 2) + 1 by omega, List.drop_succ_cons, ← List.drop_drop, List.drop_left]
        rfl
      obtain ⟨z, hz⟩ := tail_at (letL ((34 :: (h1 ++ [92, 34, 64, 97])).take (1 + k + 2))).length (1 + k + 2)
      exact okE_quoted rfl hl (z := z) (by rw [hdr]; exact hz)
theorem goes {l : List UInt8} (he : (parseT l).2.2.2 = 3 ∨ (parseT l).2.2.2 = 4) : Goes l (parseT l).2.2.1 (parseT l).2.2.2 := by
  by_cases h34 : l[0]? = some 34
  · exact goes_quoted h34 he
  · exact goes_bare h34 he
theorem longF_err : ∀ (ds : List (Nat × List UInt8)) (sg : Bool) (pl : Nat) (out : List UInt8) (pos : Nat), (longF ds sg pl out pos).2.2.2 = 0 ∨ (longF ds sg pl out pos).2.2.2 = 3 ∨ (longF ds sg pl out pos).2.2.2 = 4
  | [], _, _, _, _ => by simp [longF]
  | (c, b) :: ds, sg, pl, out, pos => by
    unfold longF
    split
    · simp
    · split
      · exact longF_err ds _ _ _ _
      · split
        · exact longF_err ds _ _ _ _
        · split
          · simp
          · exact longF_err ds _ _ _ _
theorem rest_zero {l said : List UInt8} {s0 fr pl0 : Nat} (h : ¬ ((restT l said s0 fr pl0).2.2.2 = 3 ∨ (restT l said s0 fr pl0).2.2.2 = 4)) : (restT l said s0 fr pl0).2.2.1 = 0 := by
  unfold restT at h ⊢
  cases hr : runF (letL (l.drop fr)) s0 0 pl0 none fr with
  | inl q => rw [hr] at h; simp at h
  | inr x =>
    obtain ⟨z, q, a⟩ := x
    rw [hr] at h
    simp only at h ⊢
    by_cases hz : z = 4
    · rw [if_neg (by omega)]
      have hall : ∀ (p : Prop) [Decidable p] (x y : List UInt8), (if p then (([] : List UInt8), ([] : List UInt8), 0, 6) else (x, y, 0, 0)).2.2.1 = 0 := by
        intro p _ x y
        split <;> simp
      exact hall _ _ _
    · rw [if_pos (by omega)] at h; simp at h
theorem goes_not {l : List UInt8} (h : ¬ ((parseT l).2.2.2 = 3 ∨ (parseT l).2.2.2 = 4)) : (parseT l).2.2.1 = 0 := by
  unfold parseT at h ⊢
  by_cases h34 : l[0]? = some 34
  · rw [if_pos h34] at h ⊢
    by_cases h0 : (longT l).2.2.2 = 0
    · rw [if_neg (by simpa using h0)] at h ⊢
      exact rest_zero h
    · rw [if_pos h0] at h
      have := longF_err (letL l) false 0 [] 0
      simp only [longT] at h h0
      omega
  · rw [if_neg h34] at h ⊢
    exact rest_zero h
end Go.Proofs.YtigkmlhkfpdajaaDoor
