/- Plain laws of a node: a node that redoes the same records is done with the same transactions; no name is given twice. No program. Conditions: the hypotheses of each theorem. What CoordTxs holds in memory: a node, a log, names; a script's calls. Conditions: the hypotheses of each theorem. Calls on what CoordTxs holds. Conditions: the hypotheses of each theorem. -/
import Derived.Test.YtijopcdjlpafdaaC0
import Derived.Test.YtijopcdjlpafdaaCo17M
namespace Go.Proofs.Ytijopcdjlpafdaa
theorem len_sub {α : Type} [DecidableEq α] : ∀ (l m : List α), l.Nodup → (∀ a ∈ l, a ∈ m) → l.length ≤ m.length
 | [], _, _, _ => by simp
 | a :: l, m, hn, hs => by
  have ha := hs a (by simp)
  have h1 := List.nodup_cons.1 hn
  have h2 := len_sub l (m.erase a) h1.2 fun b hb => by
   have hne : b ≠ a := fun e => h1.1 (e ▸ hb)
   exact (List.mem_erase_of_ne hne).2 (hs b (by simp [hb]))
  rw [List.length_erase_of_mem ha] at h2
  have := List.length_pos_of_mem ha
  simp only [List.length_cons]
  omega
theorem one_eq {l : List Tr} (h : l.Pairwise fun a b => a.id ≠ b.id) {a b : Tr} (ha : a ∈ l) (hb : b ∈ l) (e : a.id = b.id) : a = b := by
 induction l with
 | nil => cases ha
 | cons c l ih =>
  rw [List.pairwise_cons] at h
  rcases List.mem_cons.1 ha with ha | ha
  ·rcases List.mem_cons.1 hb with hb | hb
   ·rw [ha, hb]
   ·exact absurd (ha ▸ e) (h.1 _ hb)
  ·rcases List.mem_cons.1 hb with hb | hb
   ·exact absurd (hb ▸ e).symm (h.1 _ ha)
   ·exact ih h.2 ha hb
theorem at_true {s : Cs} (hs : s.Ok) {id : TxI} {t : Tr} (ht : t ∈ s.under) (hid : t.id = id) (hd : t.done = true) : ∃ i, s.at_ id true = some i := by
 cases hf : findT s.under id with
 | none => exact absurd hid (findT_none.1 hf t ht)
 | some i =>
  obtain ⟨hi, h2⟩ := findT_some hf
  have hr := row_mem hi
  have : s.row i = t := one_eq hs.one hr ht (by rw [hid]; exact h2)
  refine ⟨i, ?_⟩
  unfold Cs.at_
  rw [hf]
  simp only
  rw [this, if_pos hd]
theorem mem_erase {s : Cs} (hs : s.Ok) {i : Nat} (hi : i < s.under.length) (t : Tr) : t ∈ s.under.eraseIdx i ↔ t ∈ s.under ∧ t.id ≠ (s.row i).id := by
 rw [List.mem_eraseIdx_iff_getElem]
 constructor
 ·rintro ⟨j, hj, hne, rfl⟩
  refine ⟨List.getElem_mem hj, fun e => ?_⟩
  have h := List.pairwise_iff_getElem.1 hs.one
  have hr : s.row i = s.under[i] := by unfold Cs.row; rw [List.getD_eq_getElem?_getD, List.getElem?_eq_getElem hi]; rfl
  rw [hr] at e
  rcases Nat.lt_or_gt_of_ne hne with hlt | hlt
  ·exact h j i hj hi hlt e
  ·exact h i j hi hj hlt e.symm
 ·rintro ⟨hm, hne⟩
  obtain ⟨j, hj, rfl⟩ := List.mem_iff_getElem.1 hm
  refine ⟨j, hj, ?_, rfl⟩
  rintro rfl
  apply hne
  unfold Cs.row
  rw [List.getD_eq_getElem?_getD, List.getElem?_eq_getElem hj]
  rfl
/-- z is done with what x is done with, and has nothing else -/
structure Rel (x z : Cs) : Prop where
 node : z.node = x.node
 boot : z.boot = x.boot
 all : ∀ t ∈ z.under, t.done = true
 to : ∀ t ∈ z.under, ∃ u ∈ x.under, u.id = t.id ∧ u.done = true
 back : ∀ u ∈ x.under, u.done = true → ∃ t ∈ z.under, t.id = u.id
theorem rel_new (n : Int) : Rel ⟨n, 0, 1, []⟩ ⟨n, 0, 1, []⟩ := ⟨rfl, rfl, by simp, by simp, by simp⟩
theorem rel_len {x z : Cs} (h : Rel x z) (hz : z.Ok) : z.under.length ≤ (x.under.filter (·.done)).length := by
 have h1 := len_sub (z.under.map (·.id)) ((x.under.filter (·.done)).map (·.id)) (by
  unfold List.Nodup
  rw [List.pairwise_map]
  exact hz.one) (fun a ha => by
  obtain ⟨t, ht, rfl⟩ := List.mem_map.1 ha
  obtain ⟨u, hu, he, hd⟩ := h.to t ht
  exact List.mem_map.2 ⟨u, List.mem_filter.2 ⟨hu, hd⟩, he⟩)
 simpa using h1
theorem rel_lives {x z : Cs} (h : Rel x z) (b : Int) (hr : (livesO x b).1 = 0) : (livesO z b).1 = 0 ∧ Rel (livesO x b).2 (livesO z b).2 := by
 unfold livesO at hr ⊢
 by_cases hb : b ≤ x.boot
 ·rw [if_pos hb] at hr; cases hr
 ·rw [if_neg hb, if_neg (by rw [h.boot]; exact hb)]
  refine ⟨rfl, h.node, rfl, fun t ht => h.all t (List.mem_filter.1 ht).1, fun t ht => ?_, fun u hu hd => ?_⟩
  ·obtain ⟨u, hu, he, hd⟩ := h.to t (List.mem_filter.1 ht).1
   exact ⟨u, List.mem_filter.2 ⟨hu, hd⟩, he, hd⟩
  ·obtain ⟨t, ht, he⟩ := h.back u (List.mem_filter.1 hu).1 hd
   exact ⟨t, List.mem_filter.2 ⟨ht, h.all t ht⟩, he⟩
theorem rel_erase {x z : Cs} (h : Rel x z) (hx : x.Ok) (hz : z.Ok) {id : TxI} {i : Nat} (hi : x.at_ id true = some i) : ∃ j, z.at_ id true = some j ∧ Rel { x with under := x.under.eraseIdx i } { z with under := z.under.eraseIdx j } := by
 obtain ⟨h1, h2, h3, _⟩ := at_some hi
 obtain ⟨t, ht, he⟩ := h.back _ (row_mem h1) h3
 obtain ⟨j, hj⟩ := at_true hz ht (by rw [he, h2]) (h.all t ht)
 obtain ⟨j1, j2, j3, _⟩ := at_some hj
 refine ⟨j, hj, h.node, h.boot, fun t ht => h.all t ((mem_erase hz j1 t).1 ht).1, fun t ht => ?_, fun u hu hd => ?_⟩
 ·obtain ⟨ht1, ht2⟩ := (mem_erase hz j1 t).1 ht
  obtain ⟨u, hu, he, hd⟩ := h.to t ht1
  exact ⟨u, (mem_erase hx h1 u).2 ⟨hu, by rw [he, h2]; rw [j2] at ht2; exact ht2⟩, he, hd⟩
 ·obtain ⟨hu1, hu2⟩ := (mem_erase hx h1 u).1 hu
  obtain ⟨t, ht, he⟩ := h.back u hu1 hd
  exact ⟨t, (mem_erase hz j1 t).2 ⟨ht, by rw [he, j2]; rw [h2] at hu2; exact hu2⟩, he⟩
theorem rel_isDone {x z : Cs} (h : Rel x z) (hx : x.Ok) (hz : z.Ok) (id : TxI) (sh : List Int) (hr : (isDoneO x id sh).1 = 0) : (isDoneO z id sh).1 = 0 ∧ Rel (isDoneO x id sh).2 (isDoneO z id sh).2 := by
 unfold isDoneO at hr ⊢
 by_cases h1 : x.boot < id.boot
 ·rw [if_pos h1] at hr; cases hr
 ·rw [if_neg h1] at hr ⊢
  by_cases h2 : badF x id sh = true
  ·rw [if_pos h2] at hr; cases hr
  ·rw [if_neg h2] at hr ⊢
   by_cases h3 : findT x.under id = none ∧ 8 ≤ x.under.length
   ·rw [if_pos h3] at hr; cases hr
   ·rw [if_neg h3, if_neg (by rw [h.boot]; exact h1)]
    -- id is not done in x, so it is not in z
    have hnd : ∀ u ∈ x.under, u.id = id → u.done = false := by
     intro u hu he
     cases hf : findT x.under id with
     | none => exact absurd he (findT_none.1 hf u hu)
     | some i =>
      obtain ⟨hi, h4⟩ := findT_some hf
      have hr2 : x.row i = u := one_eq hx.one (row_mem hi) hu (by rw [he]; exact h4)
      unfold badF at h2
      rw [hf] at h2
      simp only [hr2] at h2
      cases hd : u.done
      ·rfl
      ·rw [hd] at h2; simp at h2
    have hzn : findT z.under id = none := findT_none.2 fun t ht he => by
     obtain ⟨u, hu, he2, hd⟩ := h.to t ht
     have := hnd u hu (by rw [he2, he])
     rw [hd] at this
     cases this
    have hbz : badF z id sh = false := by unfold badF; rw [hzn]
    have hlen : z.under.length < 8 := by
     have h5 := rel_len h hz
     have hfew := hx.few
     cases hf : findT x.under id with
     | none =>
      have := List.length_filter_le (fun t : Tr => t.done) x.under
      have h6 : ¬ 8 ≤ x.under.length := fun h => h3 ⟨hf, h⟩
      omega
     | some i =>
      obtain ⟨hi, h4⟩ := findT_some hf
      have h7 := hnd _ (row_mem hi) h4
      have : (x.under.filter (·.done)).length < x.under.length := List.length_filter_lt_length_iff_exists.2 ⟨_, row_mem hi, by rw [h7]; decide⟩
      omega
    rw [if_neg (by rw [hbz]; decide), if_neg (by omega)]
    refine ⟨rfl, h.node, h.boot, fun t ht => ?_, fun t ht => ?_, fun u hu hd => ?_⟩
    ·rcases List.mem_append.1 ht with ht | ht
     ·exact h.all t (List.mem_filter.1 ht).1
     ·simp only [List.mem_singleton] at ht; subst ht; rfl
    ·rcases List.mem_append.1 ht with ht | ht
     ·obtain ⟨h8, h9⟩ := List.mem_filter.1 ht
      obtain ⟨u, hu, he, hd⟩ := h.to t h8
      exact ⟨u, List.mem_append.2 (.inl (List.mem_filter.2 ⟨hu, by rw [he]; exact h9⟩)), he, hd⟩
     ·simp only [List.mem_singleton] at ht
      subst ht
      exact ⟨⟨id, sh, true, [], []⟩, List.mem_append.2 (.inr (by simp)), rfl, rfl⟩
    ·rcases List.mem_append.1 hu with hu | hu
     ·obtain ⟨h8, h9⟩ := List.mem_filter.1 hu
      obtain ⟨t, ht, he⟩ := h.back u h8 hd
      exact ⟨t, List.mem_append.2 (.inl (List.mem_filter.2 ⟨ht, by rw [he]; exact h9⟩)), he⟩
     ·simp only [List.mem_singleton] at hu
      subst hu
      exact ⟨⟨id, sh, true, [], []⟩, List.mem_append.2 (.inr (by simp)), rfl⟩
theorem rel_redo {x z : Cs} (h : Rel x z) (hx : x.Ok) (hz : z.Ok) (r : By) (hr : (redoO x r).1 = 0) : (redoO z r).1 = 0 ∧ Rel (redoO x r).2 (redoO z r).2 := by
 unfold redoO at hr ⊢
 split at hr
 ·cases hr
 ·rename_i h1
  rw [if_neg h1, if_neg h1]
  split at hr
  ·rename_i h2
   rw [if_pos h2, if_pos h2]
   exact rel_lives h _ hr
  ·rename_i h2
   rw [if_neg h2, if_neg h2]
   split at hr
   ·cases hr
   ·rename_i h3
    rw [if_neg h3, if_neg h3]
    rw [show (⟨z.node, (valAt r 1 : Nat), (valAt r 5 : Nat)⟩ : TxI) = ⟨x.node, (valAt r 1 : Nat), (valAt r 5 : Nat)⟩ by rw [h.node]]
    split at hr
    ·rename_i h4
     rw [if_pos h4, if_pos h4]
     cases hat : x.at_ ⟨x.node, (valAt r 1 : Nat), (valAt r 5 : Nat)⟩ true with
     | none => rw [hat] at hr; cases hr
     | some i =>
      obtain ⟨j, hj, hrel⟩ := rel_erase h hx hz hat
      rw [hj]
      exact ⟨rfl, hrel⟩
    ·rename_i h4
     rw [if_neg h4, if_neg h4]
     split at hr
     ·rename_i h5
      rw [if_pos h5, if_pos h5]
      simp only at hr ⊢
      split at hr
      ·rename_i h6
       rw [if_pos h6, if_pos h6]
       exact rel_isDone h hx hz _ _ hr
      ·cases hr
     ·cases hr
/-- a name that was given -/
def Given (s : Cs) (t : TxI) : Prop := t.boot < s.boot ∨ (t.boot = s.boot ∧ t.n < s.next)
theorem given_mono {s s' : Cs} {t : TxI} (h : Given s t) (hb : s.boot < s'.boot ∨ (s.boot = s'.boot ∧ s.next ≤ s'.next)) : Given s' t := by
 unfold Given at *
 omega
theorem redo_grows (s : Cs) (r : By) : s.boot < (redoO s r).2.boot ∨ (s.boot = (redoO s r).2.boot ∧ s.next ≤ (redoO s r).2.next) := by
 have hrefl : s.boot < s.boot ∨ (s.boot = s.boot ∧ s.next ≤ s.next) := by omega
 unfold redoO
 split
 ·exact hrefl
 ·split
  ·unfold livesO
   split
   ·exact hrefl
   ·exact .inl (by simp only; omega)
  ·split
   ·exact hrefl
   ·split
    ·cases s.at_ ⟨s.node, (valAt r 1 : Nat), (valAt r 5 : Nat)⟩ true with
     | none => exact hrefl
     | some i => exact hrefl
    ·split
     ·simp only
      split
      ·unfold isDoneO
       split
       ·exact hrefl
       ·split
        ·exact hrefl
        ·split
         ·exact hrefl
         ·exact .inr ⟨rfl, by simp only; split <;> omega⟩
      ·exact hrefl
     ·exact hrefl
theorem redo_node (s : Cs) (r : By) : (redoO s r).2.node = s.node := by
 unfold redoO
 split
 ·rfl
 ·split
  ·unfold livesO; split <;> rfl
  ·split
   ·rfl
   ·split
    ·cases s.at_ ⟨s.node, (valAt r 1 : Nat), (valAt r 5 : Nat)⟩ true <;> rfl
    ·split
     ·simp only
      split
      ·unfold isDoneO
       split
       ·rfl
       ·split
        ·rfl
        ·split <;> rfl
      ·rfl
     ·rfl
theorem redo_life (s : Cs) (b : Int) (h1 : 1 ≤ b) (h2 : b ≤ 2147483647) : redoO s (1 :: be4 b) = livesO s b := by
 have hv : valAt (1 :: be4 b) 1 = b.toNat := by
  unfold valAt be4
  rw [List.drop_succ_cons, List.drop_zero, List.take_of_length_le (by simp), valB_be]
  omega
 have hl : (1 :: be4 b : By).length = 5 := by simp [be4]
 unfold redoO
 rw [hv, if_neg (by rw [hl]; unfold goodF; simp; omega), if_pos ⟨rfl, hl⟩]
 congr 1
 omega
/-! ## a log, redone -/
def N0 (n : Int) : Cs := ⟨n, 0, 1, []⟩
def zAt (n : Int) (log : List By) (j : Nat) : Cs := (log.take j).foldl (fun z r => (redoO z r).2) (N0 n)
theorem zAt_zero (n : Int) (log : List By) : zAt n log 0 = N0 n := rfl
theorem zAt_succ (n : Int) (log : List By) (j : Nat) (h : j < log.length) : zAt n log (j + 1) = (redoO (zAt n log j) log[j]).2 := by
 unfold zAt
 rw [List.take_succ_eq_append_getElem h, List.foldl_append]
 rfl
theorem zAt_push (n : Int) (log : List By) (r : By) (j : Nat) (h : j ≤ log.length) : zAt n (log ++ [r]) j = zAt n log j := by
 unfold zAt
 rw [List.take_append_of_le_length h]
theorem zAt_ok (n : Int) (log : List By) : ∀ j, (zAt n log j).Ok := by
 intro j
 induction j with
 | zero => exact ok_new n
 | succ j ih =>
  rcases Nat.lt_or_ge j log.length with h | h
  ·rw [zAt_succ n log j h]; exact ok_redo ih _
  ·unfold zAt at *
   rw [List.take_of_length_le (by omega)]
   rw [List.take_of_length_le h] at ih
   exact ih
/-- what stays true while CoordTxs plays -/
structure TInv (n : Int) (x : Cs) (log : List By) (txs : List TxI) (m : Nat) : Prop where
 ok : x.Ok
 node : x.node = n
 boot : x.boot ≤ m
 good : ∀ j (h : j < log.length), (redoO (zAt n log j) log[j]).1 = 0
 rel : Rel x (zAt n log log.length)
 given : ∀ t ∈ txs, Given x t
theorem TInv.start (n : Int) : TInv n (N0 n) [] [] 0 := ⟨ok_new n, rfl, by simp [N0], fun j h => by simp at h, rel_new n, by simp⟩
theorem TInv.mono {n : Int} {x : Cs} {log : List By} {txs : List TxI} {m k : Nat} (h : TInv n x log txs m) (hk : m ≤ k) : TInv n x log txs k :=
 ⟨h.ok, h.node, by have := h.boot; omega, h.good, h.rel, h.given⟩
theorem TInv.push {n : Int} {x : Cs} {log : List By} {txs : List TxI} {m : Nat} (h : TInv n x log txs m) (r : By) (hr : (redoO x r).1 = 0) (hb : (redoO x r).2.boot ≤ m) : TInv n (redoO x r).2 (log ++ [r]) txs m := by
 obtain ⟨h1, h2⟩ := rel_redo h.rel h.ok (zAt_ok _ _ _) r hr
 have e : ∀ j, j ≤ log.length → zAt n (log ++ [r]) j = zAt n log j := fun j hj => zAt_push n log r j hj
 refine ⟨ok_redo h.ok r, by rw [redo_node, h.node], hb, fun j hj => ?_, ?_, fun t ht => given_mono (h.given t ht) (redo_grows x r)⟩
 ·rw [List.length_append] at hj
  simp only [List.length_cons, List.length_nil] at hj
  rw [e j (by omega)]
  by_cases hjl : j < log.length
  ·rw [List.getElem_append_left hjl]
   exact h.good j hjl
  ·obtain rfl : j = log.length := by omega
   rw [List.getElem_append_right (Nat.le_refl _)]
   simpa using h1
 ·rw [List.length_append]
  simp only [List.length_cons, List.length_nil]
  rw [zAt_succ n _ _ (by simp), e _ (Nat.le_refl _), List.getElem_append_right (Nat.le_refl _)]
  simpa using h2
/-- the same rows that are done -/
theorem Rel.other {x x' z : Cs} (h : Rel x z) (hn : x'.node = x.node) (hb : x'.boot = x.boot) (h1 : ∀ u ∈ x.under, u.done = true → ∃ v ∈ x'.under, v.id = u.id ∧ v.done = true) (h2 : ∀ v ∈ x'.under, v.done = true → ∃ u ∈ x.under, u.id = v.id ∧ u.done = true) : Rel x' z := by
 refine ⟨h.node.trans hn.symm, h.boot.trans hb.symm, h.all, fun t ht => ?_, fun v hv hd => ?_⟩
 ·obtain ⟨u, hu, he, hd⟩ := h.to t ht
  obtain ⟨v, hv, he2, hd2⟩ := h1 u hu hd
  exact ⟨v, hv, he2.trans he, hd2⟩
 ·obtain ⟨u, hu, he, hd2⟩ := h2 v hv hd
  obtain ⟨t, ht, he2⟩ := h.back u hu hd2
  exact ⟨t, ht, he2.trans he⟩
theorem set_rows {s : Cs} {i : Nat} (hi : i < s.under.length) {t' : Tr} (hid : t'.id = (s.row i).id) (hd : t'.done = (s.row i).done) :
 (∀ u ∈ s.under, u.done = true → ∃ v ∈ s.under.set i t', v.id = u.id ∧ v.done = true) ∧ (∀ v ∈ s.under.set i t', v.done = true → ∃ u ∈ s.under, u.id = v.id ∧ u.done = true) := by
 have hr : s.row i = s.under[i] := by unfold Cs.row; rw [List.getD_eq_getElem?_getD, List.getElem?_eq_getElem hi]; rfl
 rw [hr] at hid hd
 constructor
 ·intro u hu hdu
  obtain ⟨j, hj, rfl⟩ := List.mem_iff_getElem.1 hu
  by_cases hij : i = j
  ·subst hij
   exact ⟨t', List.mem_iff_getElem.2 ⟨i, by simpa using hi, by simp⟩, hid, hd.trans hdu⟩
  ·exact ⟨_, List.mem_iff_getElem.2 ⟨j, by simpa using hj, by simp [hij]⟩, rfl, hdu⟩
 ·intro v hv hdv
  rcases List.mem_or_eq_of_mem_set hv with hv | rfl
  ·exact ⟨v, hv, rfl, hdv⟩
  ·exact ⟨_, List.getElem_mem hi, hid.symm, hd.symm.trans hdv⟩
theorem erase_rows {s : Cs} (hs : s.Ok) {i : Nat} (hi : i < s.under.length) (hd : (s.row i).done = false) :
 (∀ u ∈ s.under, u.done = true → ∃ v ∈ s.under.eraseIdx i, v.id = u.id ∧ v.done = true) ∧ (∀ v ∈ s.under.eraseIdx i, v.done = true → ∃ u ∈ s.under, u.id = v.id ∧ u.done = true) := by
 constructor
 ·intro u hu hdu
  refine ⟨u, (mem_erase hs hi u).2 ⟨hu, fun e => ?_⟩, rfl, hdu⟩
  have := one_eq hs.one hu (row_mem hi) e
  rw [this, hd] at hdu
  cases hdu
 ·intro v hv hdv
  exact ⟨v, ((mem_erase hs hi v).1 hv).1, rfl, hdv⟩
theorem TInv.begin {n : Int} {x : Cs} {log : List By} {txs : List TxI} {m : Nat} (h : TInv n x log txs m) (sh : List Int) (he : beginE x sh = 0) : TInv n (beginS x sh) log (txs ++ [beginT x sh]) m ∧ ∀ t ∈ txs, t ≠ beginT x sh := by
 have hok := ok_begin h.ok sh
 have e1 : beginT x sh = ⟨x.node, x.boot, x.next⟩ := by unfold beginT; rw [if_pos he]
 have e2 : beginS x sh = { x with next := x.next + 1, under := x.under ++ [⟨⟨x.node, x.boot, x.next⟩, sh, false, [], []⟩] } := by unfold beginS; rw [if_pos he]
 rw [e2] at hok
 rw [e1, e2]
 refine ⟨⟨hok, h.node, h.boot, h.good, h.rel.other rfl rfl (fun u hu hd => ⟨u, List.mem_append.2 (.inl hu), rfl, hd⟩) (fun v hv hd => ?_), fun t ht => ?_⟩, fun t ht e => ?_⟩
 ·rcases List.mem_append.1 hv with hv | hv
  ·exact ⟨v, hv, rfl, hd⟩
  ·simp only [List.mem_singleton] at hv; subst hv; cases hd
 ·rcases List.mem_append.1 ht with ht | ht
  ·exact given_mono (h.given t ht) (.inr ⟨rfl, by simp only; omega⟩)
  ·simp only [List.mem_singleton] at ht; subst ht; exact .inr ⟨rfl, by simp only; omega⟩
 ·have := h.given t ht
  subst e
  unfold Given at this
  simp only at this
  omega
theorem TInv.vote {n : Int} {x : Cs} {log : List By} {txs : List TxI} {m : Nat} (h : TInv n x log txs m) (id : TxI) (shard : Int) (yes : Bool) : TInv n (voteO x id shard yes).s log txs m := by
 have hok := ok_vote h.ok id shard yes
 unfold voteO at *
 cases hat : x.at_ id false with
 | none => exact h
 | some i =>
  obtain ⟨h1, h2, h3, _⟩ := at_some hat
  simp only [hat] at hok ⊢
  split
  ·exact h
  ·rename_i hs
   rw [if_neg hs] at hok
   split
   ·rename_i hy
    rw [if_pos hy] at hok
    split
    ·exact h
    ·rename_i ha
     rw [if_neg ha] at hok
     have := erase_rows h.ok h1 h3
     exact ⟨hok, h.node, h.boot, h.good, h.rel.other rfl rfl this.1 this.2, fun t ht => given_mono (h.given t ht) (.inr ⟨rfl, Int.le_refl _⟩)⟩
   ·rename_i hy
    rw [if_neg hy] at hok
    have := set_rows h1 (t' := { x.row i with yes := (x.row i).yes ++ [shard] }) rfl rfl
    exact ⟨hok, h.node, h.boot, h.good, h.rel.other rfl rfl this.1 this.2, fun t ht => given_mono (h.given t ht) (.inr ⟨rfl, Int.le_refl _⟩)⟩
theorem TInv.ack {n : Int} {x : Cs} {log : List By} {txs : List TxI} {m : Nat} (h : TInv n x log txs m) (id : TxI) (shard : Int) : TInv n (ackO x id shard).s log txs m := by
 have hok := ok_ack h.ok id shard
 unfold ackO at *
 cases hat : x.at_ id true with
 | none => exact h
 | some i =>
  obtain ⟨h1, h2, h3, _⟩ := at_some hat
  simp only [hat] at hok ⊢
  split
  ·exact h
  ·rename_i hs
   rw [if_neg hs] at hok
   have := set_rows h1 (t' := { x.row i with ack := (x.row i).ack ++ [shard] }) rfl rfl
   exact ⟨hok, h.node, h.boot, h.good, h.rel.other rfl rfl this.1 this.2, fun t ht => given_mono (h.given t ht) (.inr ⟨rfl, Int.le_refl _⟩)⟩
theorem boot_redo {s : Cs} (h : s.Ok) (hb : s.boot < 2147483647) : bootO s = (1 :: be4 (s.boot + 1), 0) ∧ (redoO s (1 :: be4 (s.boot + 1))).1 = 0 ∧ (redoO s (1 :: be4 (s.boot + 1))).2.boot = s.boot + 1 := by
 have h1 := h.boot1
 refine ⟨by unfold bootO; rw [if_neg (by omega)], ?_, ?_⟩
 ·rw [redo_life s _ (by omega) (by omega)]; unfold livesO; rw [if_neg (by omega)]
 ·rw [redo_life s _ (by omega) (by omega)]; unfold livesO; rw [if_neg (by omega)]
/-- a node anew of its records, and its next life -/
theorem TInv.anew {n : Int} {x : Cs} {log : List By} {txs : List TxI} {m : Nat} (h : TInv n x log txs m) (hm : m < 1000000) :
 bootO (zAt n log log.length) = (1 :: be4 (x.boot + 1), 0) ∧ (redoO (zAt n log log.length) (1 :: be4 (x.boot + 1))).1 = 0 ∧ TInv n (redoO (zAt n log log.length) (1 :: be4 (x.boot + 1))).2 (log ++ [1 :: be4 (x.boot + 1)]) txs (m + 1) := by
 have hz := zAt_ok n log log.length
 have hb := h.boot
 have hzb : (zAt n log log.length).boot = x.boot := h.rel.boot
 obtain ⟨b1, b2, b3⟩ := boot_redo hz (by rw [hzb]; omega)
 rw [hzb] at b1 b2 b3
 have h0 : TInv n (zAt n log log.length) log [] m := ⟨hz, by rw [h.rel.node, h.node], by rw [hzb]; exact h.boot, h.good, ⟨rfl, rfl, h.rel.all, fun t ht => ⟨t, ht, rfl, h.rel.all t ht⟩, fun u hu _ => ⟨u, hu, rfl⟩⟩, by simp⟩
 have h1 := (h0.mono (Nat.le_succ m)).push (1 :: be4 (x.boot + 1)) b2 (by rw [b3]; omega)
 refine ⟨b1, b2, h1.ok, h1.node, h1.boot, h1.good, h1.rel, fun t ht => .inl ?_⟩
 rw [b3]
 have := h.given t ht
 unfold Given at this
 omega
end Go.Proofs.Ytijopcdjlpafdaa
namespace Go.Proofs.Ytijopcdjlpafdaa
open Go.RowKit
theorem bytessT : ElemOf Try.prog 28 23 1 24 := ElemOf.mk' (z := .slice none 0 0) Try.underlying28 (by kernel_rfl) rfl (by omega)
theorem apitxsT : ElemOf Try.prog 29 35 3 24 := ElemOf.mk' (z := .agg #[.int .i64 0, .int .i64 0, .int .i64 0]) Try.underlying29 (by kernel_rfl) rfl (by omega)
def txiC (t : TxI) : List Value := [.int .i64 t.node, .int .i64 t.boot, .int .i64 t.n]
theorem txiC_one (t : TxI) : ∀ u ∈ txiC t, u.oneCell' = true := by
 intro u hu
 simp only [txiC, List.mem_cons, List.not_mem_nil, or_false] at hu
 rcases hu with rfl | rfl | rfl <;> rfl
def OwnX (w : World) (base : Nat) (v : Value) (l : List TxI) : Prop := w.ownsRow base 35 3 v l.length (l.flatMap txiC)
theorem flat3_get (l : List TxI) : ∀ (k j : Nat), k < l.length → j < 3 → (l.flatMap txiC)[k * 3 + j]? = (txiC (l.getD k ⟨0, 0, 0⟩))[j]? := by
 induction l with
 | nil => intro k j hk; simp at hk
 | cons t l ih =>
  intro k j hk hj
  cases k with
  | zero =>
   simp only [List.flatMap_cons, Nat.zero_mul, Nat.zero_add]
   rw [List.getElem?_append_left (by simp [txiC]; omega)]
   rfl
  | succ k =>
   simp only [List.flatMap_cons]
   rw [List.getElem?_append_right (by simp [txiC]; omega), show (k + 1) * 3 + j - (txiC t).length = k * 3 + j by simp [txiC]; omega, ih k j (by simpa using hk) hj]
   rfl
theorem add_field (ad : Addr) (n k : Nat) : ad.add (n + (k + 1)) = ⟨(ad.add n).block, (ad.add n).off + (k + 1), none⟩ := by
 unfold Addr.add
 by_cases h : n = 0 <;> simp [h, Nat.add_assoc]
/-- one call of a script -/
structure Cl where
 do_ : Int
 shards : List Int
 shard : Int
 keep : Bool
 which : Nat
 tx : TxI
 bytes : By
def RCl : Reading Cl where
 says M w cs d := ∃ A c A2 c2, cs = [.int .i64 d.do_, .slice A d.shards.length c, .int .i64 d.shard, .bool d.keep, .int .u8 (d.which : Int), .int .i64 d.tx.node, .int .i64 d.tx.boot, .int .i64 d.tx.n, .slice A2 d.bytes.length c2] ∧ SlM M w A (ib d.shards) ∧ BsM M w A2 d.bytes ∧
  d.shards.length ≤ 140737488355328 ∧ d.bytes.length ≤ 140737488351232 ∧ d.bytes.length ≤ c2 ∧ d.which < 256
 kept := by
  rintro M w w' cs x ⟨A, c, A2, c2, h1, h2, h3, h4⟩ hx
  exact ⟨A, c, A2, c2, h1, h2.kept hx, BsM.kept h3 hx, h4⟩
 old := by
  rintro M N w cs x ⟨A, c, A2, c2, h1, h2, h3, h4⟩ hx
  exact ⟨A, c, A2, c2, h1, SlM.old h2 hx, SlM.old h3 hx, h4⟩
theorem RsM.cl {w : World} {A : Option Addr} {l : List Cl} (h : RsM RCl 9 [] w A l) {k : Nat} (hk : k < l.length) :
 ∃ ad A1 c1 A2 c2, A = some ad ∧ Sl w A1 (ib l[k].shards) ∧ Bs w A2 l[k].bytes ∧ l[k].shards.length ≤ 140737488355328 ∧ l[k].bytes.length ≤ 140737488351232 ∧ l[k].bytes.length ≤ c2 ∧ l[k].which < 256 ∧
  (∀ w', Ext w w' → w'.cell? (ad.add (k * 9)) = some (.int .i64 l[k].do_)) ∧
  (∀ w', Ext w w' → w'.cell? ⟨(ad.add (k * 9)).block, (ad.add (k * 9)).off + 1, none⟩ = some (.slice A1 l[k].shards.length c1)) ∧
  (∀ w', Ext w w' → w'.cell? ⟨(ad.add (k * 9)).block, (ad.add (k * 9)).off + 2, none⟩ = some (.int .i64 l[k].shard)) ∧
  (∀ w', Ext w w' → w'.cell? ⟨(ad.add (k * 9)).block, (ad.add (k * 9)).off + 3, none⟩ = some (.bool l[k].keep)) ∧
  (∀ w', Ext w w' → w'.cell? ⟨(ad.add (k * 9)).block, (ad.add (k * 9)).off + 4, none⟩ = some (.int .u8 (l[k].which : Int))) ∧
  (∀ w', Ext w w' → w'.cell? ⟨(ad.add (k * 9)).block, (ad.add (k * 9)).off + 5, none⟩ = some (.int .i64 l[k].tx.node)) ∧
  (∀ w', Ext w w' → w'.cell? ⟨(ad.add (k * 9)).block, (ad.add (k * 9)).off + 6, none⟩ = some (.int .i64 l[k].tx.boot)) ∧
  (∀ w', Ext w w' → w'.cell? ⟨(ad.add (k * 9)).block, (ad.add (k * 9)).off + 7, none⟩ = some (.int .i64 l[k].tx.n)) ∧
  (∀ w', Ext w w' → w'.cell? ⟨(ad.add (k * 9)).block, (ad.add (k * 9)).off + 8, none⟩ = some (.slice A2 l[k].bytes.length c2)) := by
 obtain ⟨ad, cs, e, _, _, hcell, A1, c1, A2, c2, rfl, h1, h2, h3, h4, h5, h6⟩ := h.at_ (by omega) hk
 refine ⟨ad, A1, c1, A2, c2, e, h1.sl, BsM.bs h2, h3, h4, h5, h6, ?_, ?_, ?_, ?_, ?_, ?_, ?_, ?_, ?_⟩
 ·exact fun w' hx => hx.cell (hcell 0 _ rfl)
 ·exact fun w' hx => hx.cell (by rw [← add_field ad (k * 9) 0]; exact hcell 1 _ rfl)
 ·exact fun w' hx => hx.cell (by rw [← add_field ad (k * 9) 1]; exact hcell 2 _ rfl)
 ·exact fun w' hx => hx.cell (by rw [← add_field ad (k * 9) 2]; exact hcell 3 _ rfl)
 ·exact fun w' hx => hx.cell (by rw [← add_field ad (k * 9) 3]; exact hcell 4 _ rfl)
 ·exact fun w' hx => hx.cell (by rw [← add_field ad (k * 9) 4]; exact hcell 5 _ rfl)
 ·exact fun w' hx => hx.cell (by rw [← add_field ad (k * 9) 5]; exact hcell 6 _ rfl)
 ·exact fun w' hx => hx.cell (by rw [← add_field ad (k * 9) 6]; exact hcell 7 _ rfl)
 ·exact fun w' hx => hx.cell (by rw [← add_field ad (k * 9) 7]; exact hcell 8 _ rfl)
/-- the node, the log, the names -/
structure TMem (w wr : World) (p : Nat) (lv tv : Value) (x : Cs) (log : List By) (txs : List TxI) : Prop where
 ex : Ext w wr
 pge : w.heap.size ≤ p
 co : ∃ M, Co M wr p x ∧ p ∈ M ∧ (∀ k ∈ M, k < wr.heap.size) ∧ (∀ g, lv.ownBlock = some g → g ∈ M) ∧ (∀ g, tv.ownBlock = some g → g ∈ M) ∧ (∀ k ∈ M, w.heap.size ≤ k)
 lo : OwnS wr w.heap.size lv log
 to : OwnX wr w.heap.size tv txs
section
variable {w wr w' : World} {p : Nat} {lv tv : Value} {x : Cs} {log : List By} {txs : List TxI}
theorem TMem.ext (h : TMem w wr p lv tv x log txs) (hx : Ext wr w') : TMem w w' p lv tv x log txs := by
 obtain ⟨M, h1, h2, h3, h4, h5, h6⟩ := h.co
 exact ⟨h.ex.trans hx, h.pge, ⟨M, h1.ext hx, h2, fun k hk => Nat.lt_of_lt_of_le (h3 k hk) hx.size, h4, h5, h6⟩, h.lo.ext hx, owns_ext h.to hx⟩
theorem Co.obj {M : List Nat} (h : Co M w p x) : ∃ cs, w.heap[p]? = some (.cells cs 72 (0, 0)) := by
 obtain ⟨A, cap, h⟩ := h
 exact ⟨_, h.row⟩
theorem OwnS.off {base : Nat} {v : Value} {ls : List By} {cs : Array Value} {t : TypeId} (h : OwnS w base v ls) (hp : w.heap[p]? = some (.cells cs t (0, 0))) (h1 : 23 ≠ t) (h2 : 5 ≠ t) (hk : Kept [p] w w') : OwnS w' base v ls := by
 obtain ⟨vs, q1, q2⟩ := h
 refine ⟨vs, q1.kept hk.grown1 (owns_obj q1 hp h1), fun k l hl => ?_⟩
 obtain ⟨u, q3, q4⟩ := q2 k l hl
 exact ⟨u, q3, Own.kept q4 hk.grown1 (owns_obj q4 hp h2)⟩
theorem co_grown {M : List Nat} {v v' : Value} (h : Co M wr p x) (hp : p ∈ M) (hM : ∀ k ∈ M, k < wr.heap.size) (hv : ∀ g, v.ownBlock = some g → g ∈ M) (hvp : v.ownBlock = none ∨ v.ownBlock ≠ some p) (hg : wr.grownBy w' v.ownBlock) (hlt : ∀ g, v'.ownBlock = some g → g < w'.heap.size) (hor : v'.ownBlock = v.ownBlock ∨ v'.ownBlock = some wr.heap.size) {b : Nat} (hb : ∀ k ∈ M, b ≤ k) (hvb : ∀ g, v'.ownBlock = some g → b ≤ g) :
 ∃ M', Co M' w' p x ∧ p ∈ M' ∧ (∀ k ∈ M', k < w'.heap.size) ∧ (∀ k ∈ M, k ∈ M') ∧ (∀ g, v'.ownBlock = some g → g ∈ M') ∧ (∀ k ∈ M', b ≤ k) := by
 have hk : Kept v.ownBlock.toList wr w' := (Kept.refl _ _).grown hg fun k hk => .inl (by simp [hk])
 have h1 : Co (v'.ownBlock.toList ++ M) wr p x := h.old fun k hk => by
  rcases List.mem_append.1 hk with hk | hk
  ·have hk : v'.ownBlock = some k := by simpa using hk
   rcases hor with e | e
   ·exact .inl (hv k (by rw [← e, hk]))
   ·rw [hk] at e; injection e with e; exact .inr (Nat.le_of_eq e.symm)
  ·exact .inl hk
 refine ⟨_, h1.kept hk (by rcases hvp with e | e <;> simp [e]) (fun k hk => List.mem_append.2 (.inr (hv k (by simpa using hk)))), List.mem_append.2 (.inr hp), fun k hk2 => ?_, fun k hk => List.mem_append.2 (.inr hk), fun g hg => List.mem_append.2 (.inl (by simp [hg])), fun k hk2 => (List.mem_append.1 hk2).elim (fun h => hvb k (by simpa using h)) (hb k)⟩
 rcases List.mem_append.1 hk2 with hk2 | hk2
 ·exact hlt k (by simpa using hk2)
 ·exact Nat.lt_of_lt_of_le (hM k hk2) hg.size
theorem TMem.tx (h : TMem w wr p lv tv x log txs) {k : Nat} (hk : k < txs.length) : ∃ ad cap, tv = .slice (some ad) txs.length cap ∧ ∀ W, Ext wr W → ∀ j v, (txiC txs[k])[j]? = some v → W.cell? ((ad.add (k * 3)).add j) = some v := by
 obtain ⟨A, cap, hv⟩ := own_form h.to
 have hs := Sl.own h.to hv
 have hg : txs.getD k ⟨0, 0, 0⟩ = txs[k] := by rw [List.getD_eq_getElem?_getD, List.getElem?_eq_getElem hk]; rfl
 obtain ⟨ad, e, _⟩ := hs (k * 3 + 0) _ (by rw [flat3_get txs k 0 hk (by omega), hg]; rfl)
 subst e
 refine ⟨ad, cap, hv, fun W hx j v hj => ?_⟩
 have hj3 : j < 3 := (List.getElem?_eq_some_iff.1 hj).1
 obtain ⟨ad', e', hc⟩ := hs (k * 3 + j) v (by rw [flat3_get txs k j hk hj3, hg]; exact hj)
 cases e'
 rw [add_addB]
 exact hx.cell hc
end
end Go.Proofs.Ytijopcdjlpafdaa
namespace Go.Proofs.Ytijopcdjlpafdaa
open Go.RowKit
/-- nothing but nodes has turned -/
def Oth (w w' : World) : Prop := w.heap.size ≤ w'.heap.size ∧ ∀ (k : Nat) cs t fr, w.heap[k]? = some (.cells cs t fr) → t ≠ 72 → w'.heap[k]? = some (.cells cs t fr)
theorem Oth.ext {w w' : World} (h : Ext w w') : Oth w w' := ⟨h.size, fun _ _ _ _ h1 _ => h.obj h1⟩
theorem Oth.trans {w w' w'' : World} (h : Oth w w') (k : Oth w' w'') : Oth w w'' := ⟨Nat.le_trans h.1 k.1, fun a cs t fr h1 h2 => k.2 a cs t fr (h.2 a cs t fr h1 h2) h2⟩
theorem Oth.kept {w w' : World} {p : Nat} {cs : Array Value} (hp : w.heap[p]? = some (.cells cs 72 (0, 0))) (h : Kept [p] w w') : Oth w w' :=
 ⟨h.size, fun k cs' t fr h1 h2 => h.heap h1 (by
  simp
  rintro rfl
  rw [hp] at h1
  cases h1
  exact h2 rfl)⟩
theorem Own.oth {w w' : World} {base : Nat} {v : Value} {l : By} (h : Own w base v l) (hx : Oth w w') : Own w' base v l := by
 refine ⟨h.1, ?_⟩
 rcases h.2 with h0 | ⟨g, cap, cur, h1, h2, h3, h4⟩
 ·exact .inl h0
 ·exact .inr ⟨g, cap, cur, h1, h2, hx.2 _ _ _ _ h3 (by decide), h4⟩
theorem TxAt.oth {w w' : World} {g : Nat} {id : TxI} (h : TxAt w g id) (hx : Oth w w') : TxAt w' g id := hx.2 _ _ _ _ h (by decide)
section
variable {w wr w' : World} {p : Nat} {lv tv : Value} {x : Cs} {log : List By} {txs : List TxI}
end
end Go.Proofs.Ytijopcdjlpafdaa
