/- The plain law of CoordAgain: a node that redoes the records tells the same fates. No program. Conditions: the hypotheses of each theorem. The plain law of CoordAgain: records, redone by both. No program. Conditions: the hypotheses of each theorem. The pair and two other nodes, in memory. Conditions: the hypotheses of each theorem. -/
import Derived.Test.YtijopcdjlpafdaaCoP6M
import Derived.Test.YtijopcdjlpafdaaC7
import Derived.Test.YtijopcdjlpafdaaCoP7M
namespace Go.Proofs.Ytijopcdjlpafdaa
def nameOf (t : Tr) : TxI × List Int := (t.id, t.shards)
/-- y knows of what is done just what s knows -/
structure Ag (s y : Cs) : Prop where
 ok : s.Ok
 oky : y.Ok
 node : y.node = s.node
 boot : y.boot = s.boot
 done : ∀ t ∈ y.under, t.done = true
 same : y.under.map nameOf = (s.under.filter (·.done)).map nameOf
theorem putD_name {t u : Tr} (h : nameOf t = nameOf u) : putD t = putD u := by
 unfold nameOf at h
 injection h with h1 h2
 unfold putD
 rw [h1, h2]
theorem map_putD {l m : List Tr} (h : l.map nameOf = m.map nameOf) : l.map putD = m.map putD := by
 have e : putD = fun t => (fun x : TxI × List Int => putD ⟨x.1, x.2, false, [], []⟩) (nameOf t) := by
  funext t
  exact putD_name (u := ⟨t.id, t.shards, false, [], []⟩) rfl
 have e2 : ∀ l : List Tr, l.map putD = (l.map nameOf).map fun x : TxI × List Int => putD ⟨x.1, x.2, false, [], []⟩ := fun l => by
  rw [List.map_map]
  exact List.map_congr_left fun t _ => congrFun e t
 rw [e2, e2, h]
theorem all_filter {l : List Tr} (h : ∀ t ∈ l, t.done = true) : l.filter (·.done) = l := List.filter_eq_self.2 fun t ht => h t ht
theorem Ag.snap {s y : Cs} (h : Ag s y) : snapF y = snapF s := by
 unfold snapF
 rw [h.boot, all_filter h.done, map_putD h.same]
/-- a name of what is done -/
theorem Ag.mem {s y : Cs} (h : Ag s y) (id : TxI) : (∃ t ∈ y.under, t.id = id) ↔ ∃ t ∈ s.under, t.done = true ∧ t.id = id := by
 constructor
 ·rintro ⟨t, ht, rfl⟩
  have : nameOf t ∈ (s.under.filter (·.done)).map nameOf := by rw [← h.same]; exact List.mem_map_of_mem ht
  obtain ⟨u, hu, e⟩ := List.mem_map.1 this
  obtain ⟨h1, h2⟩ := List.mem_filter.1 hu
  unfold nameOf at e
  injection e with e1 _
  exact ⟨u, h1, h2, e1⟩
 ·rintro ⟨t, ht, hd, rfl⟩
  have : nameOf t ∈ y.under.map nameOf := by rw [h.same]; exact List.mem_map_of_mem (List.mem_filter.2 ⟨ht, hd⟩)
  obtain ⟨u, hu, e⟩ := List.mem_map.1 this
  unfold nameOf at e
  injection e with e1 _
  exact ⟨u, hu, e1⟩
theorem row_one {s : Cs} (h : s.Ok) {i j : Nat} (hi : i < s.under.length) (hj : j < s.under.length) (e : s.under[i].id = s.under[j].id) : i = j := by
 have := List.pairwise_iff_getElem.1 h.one
 rcases Nat.lt_trichotomy i j with h1 | h1 | h1
 ·exact absurd e (this i j hi hj h1)
 ·exact h1
 ·exact absurd e.symm (this j i hj hi h1)
theorem find_of {s : Cs} (h : s.Ok) {t : Tr} (ht : t ∈ s.under) : ∃ i, ∃ hi : i < s.under.length, findT s.under t.id = some i ∧ s.under[i] = t := by
 cases hf : findT s.under t.id with
 | none => exact absurd rfl (findT_none.1 hf t ht)
 | some i =>
  obtain ⟨h1, h2⟩ := findT_some hf
  obtain ⟨j, hj, rfl⟩ := List.mem_iff_getElem.1 ht
  refine ⟨i, h1, rfl, ?_⟩
  have h3 : s.under[i].id = s.under[j].id := by
   rw [List.getD_eq_getElem?_getD, List.getElem?_eq_getElem h1] at h2
   exact h2
  have := row_one h h1 hj h3
  subst this
  rfl
/-- what is told Done is there, and done -/
theorem ask_iff {s : Cs} (h : s.Ok) (id : TxI) : askF s id = 1 ↔ ∃ t ∈ s.under, t.done = true ∧ t.id = id := by
 constructor
 ·intro ha
  unfold askF at ha
  split at ha
  ·cases ha
  ·split at ha
   ·cases ha
   ·rename_i i hf
    obtain ⟨h1, h2⟩ := findT_some hf
    split at ha
    ·rename_i hd
     exact ⟨_, row_mem h1, hd, h2⟩
    ·cases ha
 ·rintro ⟨t, ht, hd, rfl⟩
  have hT := h.rows t ht
  obtain ⟨i, hi, hf, he⟩ := find_of h ht
  unfold askF
  rw [if_neg, hf]
  ·simp only
   rw [row_of hi, he, if_pos hd]
  ·have h1 := hT.node
   have h2 := hT.boot1
   have h3 := hT.boot2
   have h4 := hT.n1
   have h5 := hT.next
   rintro (h | h | h | h | h)
   ·exact h h1
   ·omega
   ·omega
   ·omega
   ·have := h5 h.1; omega
theorem Ag.ask {s y : Cs} (h : Ag s y) (id : TxI) : askF y id = 1 ↔ askF s id = 1 := by
 rw [ask_iff h.ok, ask_iff h.oky, ← h.mem id]
 constructor
 ·rintro ⟨t, ht, _, e⟩
  exact ⟨t, ht, e⟩
 ·rintro ⟨t, ht, e⟩
  exact ⟨t, ht, h.done t ht, e⟩
/-! ## calls that leave what is done -/
theorem Ag.left {s s' y : Cs} (h : Ag s y) (hok : s'.Ok) (hn : s'.node = s.node) (hb : s'.boot = s.boot) (hs : (s'.under.filter (·.done)).map nameOf = (s.under.filter (·.done)).map nameOf) : Ag s' y :=
 ⟨hok, h.oky, by rw [h.node, hn], by rw [h.boot, hb], h.done, by rw [h.same, hs]⟩
theorem filter_set {l : List Tr} {i : Nat} (hi : i < l.length) {t : Tr} (hd : t.done = l[i].done) (hn : nameOf t = nameOf l[i]) : ((l.set i t).filter (·.done)).map nameOf = (l.filter (·.done)).map nameOf := by
 induction l generalizing i with
 | nil => simp at hi
 | cons u l ih =>
  cases i with
  | zero =>
   simp only [List.getElem_cons_zero] at hd hn
   simp only [List.set_cons_zero, List.filter_cons, hd]
   cases u.done <;> simp [hn]
  | succ i =>
   simp only [List.getElem_cons_succ] at hd hn
   have := ih (by simpa using hi) hd hn
   simp only [List.set_cons_succ, List.filter_cons]
   cases u.done <;> simp [this]
theorem filter_eraseIdx {l : List Tr} {i : Nat} (hi : i < l.length) (hd : l[i].done = false) : (l.eraseIdx i).filter (·.done) = l.filter (·.done) := by
 induction l generalizing i with
 | nil => simp at hi
 | cons u l ih =>
  cases i with
  | zero =>
   simp only [List.getElem_cons_zero] at hd
   simp [hd]
  | succ i =>
   simp only [List.getElem_cons_succ] at hd
   have := ih (by simpa using hi) hd
   simp only [List.eraseIdx_cons_succ, List.filter_cons]
   cases u.done <;> simp [this]
theorem Ag.begin {s y : Cs} (h : Ag s y) (sh : List Int) : Ag (beginS s sh) y := by
 refine h.left (ok_begin h.ok sh) ?_ ?_ ?_
 all_goals
  unfold beginS
  split
  ·simp
  ·rfl
theorem Ag.vote {s y : Cs} (h : Ag s y) (id : TxI) (sh : Int) (yes : Bool) : Ag (voteO s id sh yes).s y := by
 have hok := ok_vote h.ok id sh yes
 unfold voteO at *
 cases hat : s.at_ id false with
 | none => exact h
 | some i =>
  rw [hat] at hok
  obtain ⟨h1, h2, h3, _⟩ := at_some hat
  rw [row_of h1] at h3
  simp only at hok ⊢
  split
  ·exact h
  ·rename_i hs
   rw [if_neg hs] at hok
   split
   ·rename_i hy
    rw [if_pos hy] at hok
    split
    ·exact h
    ·rename_i ha
     rw [if_neg ha] at hok
     exact h.left hok rfl rfl (by rw [filter_eraseIdx h1 h3])
   ·rename_i hy
    rw [if_neg hy] at hok
    exact h.left hok rfl rfl (filter_set h1 (by rw [row_of h1]) (by rw [row_of h1]; rfl))
theorem Ag.drop {s y : Cs} (h : Ag s y) (id : TxI) : Ag (dropO s id).2 y := by
 have hok := ok_drop h.ok id
 unfold dropO at *
 cases hat : s.at_ id false with
 | none => exact h
 | some i =>
  rw [hat] at hok
  obtain ⟨h1, h2, h3, _⟩ := at_some hat
  rw [row_of h1] at h3
  simp only at hok ⊢
  split
  ·exact h
  ·rename_i ha
   rw [if_neg ha] at hok
   exact h.left hok rfl rfl (by rw [filter_eraseIdx h1 h3])
theorem Ag.ack {s y : Cs} (h : Ag s y) (id : TxI) (sh : Int) : Ag (ackO s id sh).s y := by
 have hok := ok_ack h.ok id sh
 unfold ackO at *
 cases hat : s.at_ id true with
 | none => exact h
 | some i =>
  rw [hat] at hok
  obtain ⟨h1, h2, h3, _⟩ := at_some hat
  simp only at hok ⊢
  split
  ·exact h
  ·rename_i hs
   rw [if_neg hs] at hok
   exact h.left hok rfl rfl (filter_set h1 (by rw [row_of h1]) (by rw [row_of h1]; rfl))
end Go.Proofs.Ytijopcdjlpafdaa
namespace Go.Proofs.Ytijopcdjlpafdaa
theorem redo_putG {x x0 : Cs} (hb0 : x0.boot ≤ 2147483647) {t : Tr} (hT : t.Ok x0) (hnn : x.node = x0.node) : redoO x (putD t) = isDoneO x t.id t.shards := by
 have hl := rightF_len hT.right
 have hm := rightF_mem hT.right
 have b1 := hT.boot1; have b2 := hT.boot2; have b3 := hb0; have n1 := hT.n1; have n2 := hT.n2
 have hlen : (putD t).length = 10 + t.shards.length := by unfold putD be4; simp; omega
 have hcat : putD t = 2 :: (be4 t.id.boot ++ (be4 t.id.n ++ (beN 1 t.shards.length ++ t.shards.map fun x => UInt8.ofNat x.toNat))) := by unfold putD; simp
 have v1 : valAt (putD t) 1 = t.id.boot.toNat := by
  unfold valAt
  rw [hcat, List.drop_succ_cons, List.drop_zero, List.take_append_of_le_length (by simp [be4]), List.take_of_length_le (by simp [be4])]
  unfold be4
  rw [valB_be]
  omega
 have v5 : valAt (putD t) 5 = t.id.n.toNat := by
  unfold valAt
  rw [hcat, List.drop_succ_cons, List.drop_append_of_le_length (by simp [be4]), List.drop_of_length_le (by simp [be4]), List.nil_append, List.take_append_of_le_length (by simp [be4]), List.take_of_length_le (by simp [be4])]
  unfold be4
  rw [valB_be]
  omega
 have h9 : (putD t).getD 9 0 = UInt8.ofNat t.shards.length := by
  rw [hcat]
  have e : (be4 t.id.boot).length = 4 := by simp [be4]
  have e2 : (be4 t.id.n).length = 4 := by simp [be4]
  rw [List.getD_cons_succ, List.getD_eq_getElem?_getD, List.getElem?_append_right (by omega), List.getElem?_append_right (by omega), e, e2]
  simp [beN]
 have h0 : (putD t).getD 0 0 = 2 := by rw [hcat]; rfl
 have hd : ((putD t).drop 10).map (fun c => ((c.toNat : Nat) : Int)) = t.shards := by
  rw [hcat, List.drop_succ_cons, List.drop_append, List.drop_append, List.drop_append]
  have e : (be4 t.id.boot).length = 4 := by simp [be4]
  have e2 : (be4 t.id.n).length = 4 := by simp [be4]
  have e3 : (beN 1 t.shards.length).length = 1 := by simp
  rw [e, e2, e3, List.drop_of_length_le (by omega), List.drop_of_length_le (by omega), List.drop_of_length_le (by omega)]
  simp only [List.nil_append, List.drop_zero, Nat.sub_self, Nat.reduceSub]
  rw [List.map_map]
  apply List.ext_getElem (by simp)
  intro j h1 h2
  simp only [List.getElem_map, Function.comp]
  have := hm _ (List.getElem_mem h2)
  rw [UInt8.toNat_ofNat']
  omega
 have hg1 : goodF t.id.boot.toNat = true := by unfold goodF; simp; omega
 have hg5 : goodF t.id.n.toNat = true := by unfold goodF; simp; omega
 have hid : (⟨x.node, ((t.id.boot.toNat : Nat) : Int), ((t.id.n.toNat : Nat) : Int)⟩ : TxI) = t.id := by
  have e := hT.node.trans hnn.symm
  have e1 : ((t.id.boot.toNat : Nat) : Int) = t.id.boot := by omega
  have e2 : ((t.id.n.toNat : Nat) : Int) = t.id.n := by omega
  rw [e1, e2, ← e]
 unfold redoO
 rw [v1, v5, h0, hlen, h9, hg1, hg5, hd, hid]
 rw [if_neg (by simp; omega), if_neg (by simp), if_neg (by simp; omega), if_neg (by simp), if_pos (by refine ⟨rfl, by omega, ?_⟩; rw [UInt8.toNat_ofNat']; omega)]
 simp only
 rw [if_pos hT.right]
theorem redo_overG {x x0 : Cs} (hb0 : x0.boot ≤ 2147483647) {t : Tr} (hT : t.Ok x0) (hnn : x.node = x0.node) : redoO x (3 :: be4 t.id.boot ++ be4 t.id.n) = match x.at_ t.id true with
 | none => ((13 : Int), x)
 | some i => ((0 : Int), { x with under := x.under.eraseIdx i }) := by
 have b1 := hT.boot1; have b2 := hT.boot2; have n1 := hT.n1; have n2 := hT.n2
 have hlen : (3 :: be4 t.id.boot ++ be4 t.id.n : By).length = 9 := by simp [be4]
 have v1 : valAt (3 :: be4 t.id.boot ++ be4 t.id.n) 1 = t.id.boot.toNat := by
  unfold valAt
  rw [List.cons_append, List.drop_succ_cons, List.drop_zero, List.take_append_of_le_length (by simp [be4]), List.take_of_length_le (by simp [be4])]
  unfold be4
  rw [valB_be]
  omega
 have v5 : valAt (3 :: be4 t.id.boot ++ be4 t.id.n) 5 = t.id.n.toNat := by
  unfold valAt
  rw [List.cons_append, List.drop_succ_cons, List.drop_append_of_le_length (by simp [be4]), List.drop_of_length_le (by simp [be4]), List.nil_append, List.take_of_length_le (by simp [be4])]
  unfold be4
  rw [valB_be]
  omega
 have hid : (⟨x.node, ((t.id.boot.toNat : Nat) : Int), ((t.id.n.toNat : Nat) : Int)⟩ : TxI) = t.id := by
  have e := hT.node.trans hnn.symm
  have e1 : ((t.id.boot.toNat : Nat) : Int) = t.id.boot := by omega
  have e2 : ((t.id.n.toNat : Nat) : Int) = t.id.n := by omega
  rw [e1, e2, ← e]
 have hg1 : goodF t.id.boot.toNat = true := by unfold goodF; simp; omega
 have hg5 : goodF t.id.n.toNat = true := by unfold goodF; simp; omega
 unfold redoO
 rw [v1, v5, hlen, hg1, hg5, hid]
 rw [if_neg (by simp), if_neg (by simp), if_neg (by simp), if_pos ⟨rfl, rfl⟩]
 cases x.at_ t.id true <;> rfl
theorem Ag.life {s y : Cs} (h : Ag s y) (hb : s.boot + 1 ≤ 2147483647) : (redoO y (1 :: be4 (s.boot + 1))).1 = 0 ∧ Ag (redoO s (1 :: be4 (s.boot + 1))).2 (redoO y (1 :: be4 (s.boot + 1))).2 := by
 have h1 := h.ok.boot1
 have e1 := redo_life s (s.boot + 1) (by omega) hb
 have e2 := redo_life y (s.boot + 1) (by omega) hb
 have o1 := ok_redo h.ok (1 :: be4 (s.boot + 1))
 have o2 := ok_redo h.oky (1 :: be4 (s.boot + 1))
 rw [e1] at o1 ⊢
 rw [e2] at o2 ⊢
 have l1 : livesO s (s.boot + 1) = (0, ⟨s.node, s.boot + 1, 1, s.under.filter (·.done)⟩) := by unfold livesO; rw [if_neg (by omega)]
 have l2 : livesO y (s.boot + 1) = (0, ⟨y.node, s.boot + 1, 1, y.under.filter (·.done)⟩) := by unfold livesO; rw [if_neg (by have := h.boot; omega)]
 rw [l1] at o1 ⊢
 rw [l2] at o2 ⊢
 refine ⟨rfl, o1, o2, h.node, rfl, fun t ht => ?_, ?_⟩
 ·exact h.done t (List.mem_filter.1 ht).1
 ·simp only
  rw [all_filter h.done, List.filter_filter]
  simpa using h.same
theorem filter_id_map (l : List Tr) (id : TxI) : (l.filter fun t => decide (t.id ≠ id)).map nameOf = (l.map nameOf).filter fun x => decide (x.1 ≠ id) := by
 rw [List.filter_map]
 rfl
theorem filter_swap (l : List Tr) (id : TxI) : (l.filter fun t => decide (t.id ≠ id)).filter (·.done) = (l.filter (·.done)).filter fun t => decide (t.id ≠ id) := by
 rw [List.filter_filter, List.filter_filter]
 exact List.filter_congr fun t _ => Bool.and_comm _ _
theorem isDone_new {y : Cs} {id : TxI} {sh : List Int} (hb : id.boot ≤ y.boot) (hf : findT y.under id = none) (hl : y.under.length < 8) : isDoneO y id sh = (0, { y with under := y.under ++ [⟨id, sh, true, [], []⟩], next := if id.boot = y.boot then max y.next (id.n + 1) else y.next }) := by
 have hbad : badF y id sh = false := by unfold badF; rw [hf]
 unfold isDoneO
 rw [if_neg (by omega), hbad, if_neg (by simp), if_neg (by omega), filter_none hf]
theorem filter_lt {l : List Tr} {t : Tr} (ht : t ∈ l) (hd : t.done = false) : (l.filter (·.done)).length < l.length := by
 rcases Nat.lt_or_ge (l.filter (·.done)).length l.length with h | h
 ·exact h
 ·exfalso
  have := List.length_filter_eq_length_iff.1 (Nat.le_antisymm (List.length_filter_le _ _) h) t ht
  rw [hd] at this
  cases this
theorem Ag.put {s y : Cs} (h : Ag s y) {t : Tr} (ht : t ∈ s.under) (hd : t.done = false) (ha : allIn t.shards t.yes = true) : (redoO y (putD t)).1 = 0 ∧ Ag (redoO s (putD t)).2 (redoO y (putD t)).2 := by
 have hT := h.ok.rows t ht
 have o1 := ok_redo h.ok (putD t)
 have o2 := ok_redo h.oky (putD t)
 have e1 := redo_putG h.ok.boot2 hT rfl
 have e2 := redo_putG (x := y) h.ok.boot2 hT h.node
 obtain ⟨i, hi, hf, he⟩ := find_of h.ok ht
 have hlen : y.under.length = (s.under.filter (·.done)).length := by simpa using congrArg List.length h.same
 have hlt := filter_lt ht hd
 have hfew := h.ok.few
 have hfy : findT y.under t.id = none := by
  rw [findT_none]
  intro u hu e
  obtain ⟨v, hv, hvd, hve⟩ := (h.mem t.id).1 ⟨u, hu, e⟩
  obtain ⟨j, hj, rfl⟩ := List.mem_iff_getElem.1 hv
  have := row_one h.ok hj hi (by rw [he]; exact hve)
  subst this
  rw [he, hd] at hvd
  cases hvd
 have d2 := isDone_new (sh := t.shards) (by rw [h.boot]; exact hT.boot2) hfy (by omega)
 have hbad : badF s t.id t.shards = false := by
  unfold badF
  rw [hf]
  simp only
  rw [row_of hi, he, hd, ha]
  simp
 have d1 : isDoneO s t.id t.shards = (0, { s with under := (s.under.filter fun u => decide (u.id ≠ t.id)) ++ [⟨t.id, t.shards, true, [], []⟩], next := if t.id.boot = s.boot then max s.next (t.id.n + 1) else s.next }) := by
  have := hT.boot2
  unfold isDoneO
  rw [if_neg (by omega), hbad, if_neg (by simp), hf, if_neg (by simp)]
 rw [e1, d1] at o1 ⊢
 rw [e2, d2] at o2 ⊢
 refine ⟨rfl, o1, o2, h.node, h.boot, fun u hu => ?_, ?_⟩
 ·rcases List.mem_append.1 hu with hu | hu
  ·exact h.done u hu
  ·simp only [List.mem_singleton] at hu
   subst hu
   rfl
 ·simp only
  rw [List.map_append, List.filter_append, List.map_append, filter_swap, filter_id_map, ← h.same, ← filter_id_map, filter_none hfy]
  simp
theorem Ag.over {s y : Cs} (h : Ag s y) {t : Tr} (ht : t ∈ s.under) (hd : t.done = true) : (redoO y (3 :: be4 t.id.boot ++ be4 t.id.n)).1 = 0 ∧ Ag (redoO s (3 :: be4 t.id.boot ++ be4 t.id.n)).2 (redoO y (3 :: be4 t.id.boot ++ be4 t.id.n)).2 := by
 have hT := h.ok.rows t ht
 have o1 := ok_redo h.ok (3 :: be4 t.id.boot ++ be4 t.id.n)
 have o2 := ok_redo h.oky (3 :: be4 t.id.boot ++ be4 t.id.n)
 have e1 := redo_overG h.ok.boot2 hT rfl
 have e2 := redo_overG (x := y) h.ok.boot2 hT h.node
 obtain ⟨i, hi, hf, he⟩ := find_of h.ok ht
 obtain ⟨u, hu, hue⟩ := (h.mem t.id).2 ⟨t, ht, hd, rfl⟩
 obtain ⟨j, hj, hfj, hje⟩ := find_of h.oky hu
 rw [hue] at hfj
 rw [at_of hf hi, he, if_pos hd] at e1
 rw [at_of hfj hj, hje, if_pos (h.done u hu)] at e2
 rw [e1] at o1 ⊢
 rw [e2] at o2 ⊢
 refine ⟨rfl, o1, o2, h.node, h.boot, fun v hv => h.done v (List.mem_of_mem_eraseIdx hv), ?_⟩
 simp only
 rw [← filter_erase h.ok.one hi (by rw [he] : s.under[i].id = t.id), ← filter_erase h.oky.one hj (by rw [hje]; exact hue : y.under[j].id = t.id), filter_swap, filter_id_map, filter_id_map, h.same]
/-! ## a step -/
/-- the record that a fork of the node gives -/
def recS (s : Cs) (txs : List TxI) (d : Cl) : By :=
 if d.do_ = 0 then (bootO s).1
 else if d.do_ = 2 ∨ d.do_ = 3 then (voteO s (txOf txs d) d.shard (d.do_ == 2)).r
 else if d.do_ = 5 then (ackO s (txOf txs d) d.shard).r
 else []
theorem Ag.redoK {s y : Cs} (h : Ag s y) (r : By) (k : Bool) (hr : 0 < r.length → k = true → (redoO y r).1 = 0 ∧ Ag (redoO s r).2 (redoO y r).2) : if 0 < r.length ∧ k = true then (redoO y r).1 = 0 ∧ Ag (Go.Proofs.Ytijopcdjlpafdaa.redoK s r k) (redoO y r).2 else Ag (Go.Proofs.Ytijopcdjlpafdaa.redoK s r k) y := by
 by_cases hc : 0 < r.length ∧ k = true
 ·rw [if_pos hc]
  have e : Go.Proofs.Ytijopcdjlpafdaa.redoK s r k = (redoO s r).2 := by unfold Go.Proofs.Ytijopcdjlpafdaa.redoK; rw [if_neg (by rw [hc.2]; simp; intro e; rw [e] at hc; simp at hc)]
  rw [e]
  exact hr hc.1 hc.2
 ·rw [if_neg hc]
  have e : Go.Proofs.Ytijopcdjlpafdaa.redoK s r k = s := by
   unfold Go.Proofs.Ytijopcdjlpafdaa.redoK
   rw [if_pos]
   cases k with
   | false => exact .inl rfl
   | true =>
    refine .inr ?_
    rcases r with _ | ⟨a, r⟩
    ·rfl
    ·exact absurd ⟨by simp, rfl⟩ hc
  rw [e]
  exact h
theorem Ag.step {s y : Cs} (h : Ag s y) (txs : List TxI) (d : Cl) (hd : d.do_ ≠ 6) :
 if 0 < (recS s txs d).length ∧ d.keep = true then (redoO y (recS s txs d)).1 = 0 ∧ Ag (doS s txs d).1 (redoO y (recS s txs d)).2 else Ag (doS s txs d).1 y := by
 by_cases d0 : d.do_ = 0
 ·have e1 : recS s txs d = (bootO s).1 := by unfold recS; rw [if_pos d0]
  have e2 : doS s txs d = (Go.Proofs.Ytijopcdjlpafdaa.redoK s (bootO s).1 d.keep, txs) := by unfold doS; rw [if_pos d0]
  rw [e1, e2]
  refine h.redoK _ _ fun hl _ => ?_
  unfold bootO at hl ⊢
  split
  ·rename_i hb
   rw [if_pos hb] at hl
   simp at hl
  ·rename_i hb
   exact h.life (by have := h.ok.boot2; omega)
 by_cases d1 : d.do_ = 1
 ·have e1 : recS s txs d = [] := by unfold recS; rw [if_neg d0, if_neg (by omega), if_neg (by omega)]
  have e2 : (doS s txs d).1 = beginS s d.shards := by unfold doS; rw [if_neg d0, if_pos d1]
  rw [e1, e2, if_neg (by simp)]
  exact h.begin _
 by_cases d2 : d.do_ = 2 ∨ d.do_ = 3
 ·have e1 : recS s txs d = (voteO s (txOf txs d) d.shard (d.do_ == 2)).r := by unfold recS; rw [if_neg d0, if_pos d2]
  have e2 : (doS s txs d).1 = Go.Proofs.Ytijopcdjlpafdaa.redoK (voteO s (txOf txs d) d.shard (d.do_ == 2)).s (voteO s (txOf txs d) d.shard (d.do_ == 2)).r d.keep := by unfold doS; rw [if_neg d0, if_neg d1, if_pos d2]
  rw [e1, e2]
  refine (h.vote _ _ _).redoK _ _ fun hl _ => ?_
  have hv := h.vote (txOf txs d) d.shard (d.do_ == 2)
  obtain ⟨t, ht, htd, hta, hr⟩ : ∃ t ∈ (voteO s (txOf txs d) d.shard (d.do_ == 2)).s.under, t.done = false ∧ allIn t.shards t.yes = true ∧ (voteO s (txOf txs d) d.shard (d.do_ == 2)).r = putD t := by
   clear hv
   unfold voteO at hl ⊢
   cases hat : s.at_ (txOf txs d) false with
   | none => rw [hat] at hl; simp at hl
   | some i =>
    rw [hat] at hl
    obtain ⟨h1, h2, h3, _⟩ := at_some hat
    simp only at hl ⊢
    split
    ·rename_i hs; rw [if_pos hs] at hl; simp at hl
    ·rename_i hs
     rw [if_neg hs] at hl
     split
     ·rename_i hy
      rw [if_pos hy] at hl
      split at hl <;> simp at hl
     ·rename_i hy
      rw [if_neg hy] at hl
      simp only at hl ⊢
      split
      ·rename_i ha
       exact ⟨{ s.row i with yes := (s.row i).yes ++ [d.shard] }, List.mem_iff_getElem.2 ⟨i, by simpa using h1, by simp⟩, h3, ha, rfl⟩
      ·rename_i ha
       rw [if_neg ha] at hl
       simp at hl
  rw [hr]
  exact hv.put ht htd hta
 by_cases d4 : d.do_ = 4
 ·have e1 : recS s txs d = [] := by unfold recS; rw [if_neg d0, if_neg d2, if_neg (by omega)]
  have e2 : (doS s txs d).1 = (dropO s (txOf txs d)).2 := by unfold doS; rw [if_neg d0, if_neg d1, if_neg d2, if_pos d4]
  rw [e1, e2, if_neg (by simp)]
  exact h.drop _
 by_cases d5 : d.do_ = 5
 ·have e1 : recS s txs d = (ackO s (txOf txs d) d.shard).r := by unfold recS; rw [if_neg d0, if_neg d2, if_pos d5]
  have e2 : (doS s txs d).1 = Go.Proofs.Ytijopcdjlpafdaa.redoK (ackO s (txOf txs d) d.shard).s (ackO s (txOf txs d) d.shard).r d.keep := by unfold doS; rw [if_neg d0, if_neg d1, if_neg d2, if_neg d4, if_pos d5]
  rw [e1, e2]
  refine (h.ack _ _).redoK _ _ fun hl _ => ?_
  have hv := h.ack (txOf txs d) d.shard
  obtain ⟨t, ht, htd, hr⟩ : ∃ t ∈ (ackO s (txOf txs d) d.shard).s.under, t.done = true ∧ (ackO s (txOf txs d) d.shard).r = 3 :: be4 t.id.boot ++ be4 t.id.n := by
   clear hv
   unfold ackO at hl ⊢
   cases hat : s.at_ (txOf txs d) true with
   | none => rw [hat] at hl; simp at hl
   | some i =>
    rw [hat] at hl
    obtain ⟨h1, h2, h3, _⟩ := at_some hat
    simp only at hl ⊢
    split
    ·rename_i hs; rw [if_pos hs] at hl; simp at hl
    ·rename_i hs
     rw [if_neg hs] at hl
     split
     ·rename_i ha
      refine ⟨{ s.row i with ack := (s.row i).ack ++ [d.shard] }, List.mem_iff_getElem.2 ⟨i, by simpa using h1, by simp⟩, h3, ?_⟩
      simp only
      rw [h2]
     ·rename_i ha
      rw [if_neg ha] at hl
      simp at hl
  rw [hr]
  exact hv.over ht htd
 ·have e1 : recS s txs d = [] := by unfold recS; rw [if_neg d0, if_neg d2, if_neg d5]
  have e2 : (doS s txs d).1 = s := by unfold doS; rw [if_neg d0, if_neg d1, if_neg d2, if_neg d4, if_neg d5, if_neg hd]
  rw [e1, e2, if_neg (by simp)]
  exact h
/-! ## a snapshot, redone -/
structure ZOk (s z : Cs) (k : Nat) : Prop where
 ok : z.Ok
 node : z.node = s.node
 boot : k = 0 ∨ z.boot = s.boot
 done : ∀ t ∈ z.under, t.done = true
 same : z.under.map nameOf = ((s.under.filter (·.done)).take (k - 1)).map nameOf
theorem zK_ok {s : Cs} (h : s.Ok) : ∀ k, k ≤ (snapF s).length → ZOk s (zAt s.node (snapF s) k) k ∧ ∀ j, (hj : j < (snapF s).length) → j < k → (redoO (zAt s.node (snapF s) j) (snapF s)[j]).1 = 0 := by
 intro k
 induction k with
 | zero =>
  intro _
  exact ⟨⟨ok_new _, rfl, .inl rfl, fun t ht => absurd ht (by simp [zAt, N0]), by simp [zAt, N0]⟩, fun j _ h => absurd h (by omega)⟩
 | succ k ih =>
  intro hk
  obtain ⟨hz, hj⟩ := ih (by omega)
  have hbz : s.boot ≠ 0 := fun e => by unfold snapF at hk; rw [if_pos e] at hk; simp at hk
  have hb1 := h.boot1
  have hb2 := h.boot2
  have hsn : snapF s = (1 :: be4 s.boot) :: (s.under.filter (·.done)).map putD := by unfold snapF; rw [if_neg hbz]
  have key : (redoO (zAt s.node (snapF s) k) (snapF s)[k]).1 = 0 ∧ ZOk s (redoO (zAt s.node (snapF s) k) (snapF s)[k]).2 (k + 1) := by
   have ho := ok_redo hz.ok (snapF s)[k]
   cases k with
   | zero =>
    have e : (snapF s)[0] = 1 :: be4 s.boot := by simp only [hsn, List.getElem_cons_zero]
    rw [e] at ho ⊢
    rw [zAt_zero] at ho ⊢
    have e1 := redo_life (N0 s.node) s.boot (by omega) hb2
    have e2 : livesO (N0 s.node) s.boot = (0, ⟨s.node, s.boot, 1, []⟩) := by unfold livesO N0; rw [if_neg (by simp only; omega)]; rfl
    rw [e1, e2] at ho ⊢
    exact ⟨rfl, ho, rfl, .inr rfl, fun t ht => absurd ht (by simp), by simp⟩
   | succ k =>
    have hlk : k < (s.under.filter (·.done)).length := by
     have : (snapF s).length = (s.under.filter (·.done)).length + 1 := by rw [hsn]; simp
     omega
    have e : (snapF s)[k + 1] = putD (s.under.filter (·.done))[k] := by simp only [hsn, List.getElem_cons_succ, List.getElem_map]
    have hmem : (s.under.filter (·.done))[k] ∈ s.under := (List.mem_filter.1 (List.getElem_mem hlk)).1
    have hT := h.rows _ hmem
    have hP : (s.under.filter (·.done)).Pairwise fun a b => a.id ≠ b.id := h.one.filter _
    have hle := List.length_filter_le (fun t : Tr => t.done) s.under
    have hfew := h.few
    rw [e] at ho ⊢
    generalize zAt s.node (snapF s) (k + 1) = z at *
    have hzb : z.boot = s.boot := by rcases hz.boot with e | e; exact absurd e (by omega); exact e
    have hsame := hz.same
    simp only [Nat.add_sub_cancel] at hsame
    have hzl : z.under.length = k := by
     have := congrArg List.length hsame
     simp only [List.length_map, List.length_take] at this
     omega
    have hf : findT z.under (s.under.filter (·.done))[k].id = none := by
     rw [findT_none]
     intro u hu e
     have hm : nameOf u ∈ ((s.under.filter (·.done)).take k).map nameOf := by rw [← hsame]; exact List.mem_map_of_mem hu
     obtain ⟨v, hv, hve⟩ := List.mem_map.1 hm
     obtain ⟨j, hj, rfl⟩ := List.mem_iff_getElem.1 hv
     simp only [List.length_take] at hj
     rw [List.getElem_take] at hve
     unfold nameOf at hve
     injection hve with h1 _
     exact List.pairwise_iff_getElem.1 hP j k (by omega) hlk (by omega) (h1.trans e)
    have d2 := isDone_new (y := z) (sh := (s.under.filter (·.done))[k].shards) (by rw [hzb]; exact hT.boot2) hf (by omega)
    rw [redo_putG h.boot2 hT hz.node, d2] at ho ⊢
    refine ⟨rfl, ho, hz.node, .inr hzb, fun u hu => ?_, ?_⟩
    ·rcases List.mem_append.1 hu with hu | hu
     ·exact hz.done u hu
     ·simp only [List.mem_singleton] at hu
      subst hu
      rfl
    ·simp only [Nat.add_sub_cancel]
     rw [List.take_succ_eq_append_getElem hlk, List.map_append, List.map_append, hsame]
     rfl
  rw [zAt_succ _ _ _ (by omega)]
  refine ⟨key.2, fun j hj2 hlt => ?_⟩
  rcases Nat.lt_or_ge j k with h1 | h1
  ·exact hj j hj2 h1
  ·have : j = k := by omega
   subst this
   exact key.1
/-- a new node that has redone a whole snapshot knows of what is done just what the node knows -/
theorem zK_ag {s y : Cs} (h : Ag s y) : Ag s (zAt s.node (snapF s) (snapF s).length) := by
 have hz := (zK_ok h.ok _ (Nat.le_refl _)).1
 by_cases hb : s.boot = 0
 ·have hu : s.under = [] := by
   rcases hs : s.under with _ | ⟨t, l⟩
   ·rfl
   ·have hT := h.ok.rows t (by rw [hs]; simp)
    have := hT.boot1
    have := hT.boot2
    omega
  have e : snapF s = [] := by unfold snapF; rw [if_pos hb]
  rw [e] at hz ⊢
  exact ⟨h.ok, hz.ok, hz.node, by simp [zAt, N0, hb], hz.done, by rw [hz.same, hu]; simp⟩
 ·have e : (snapF s).length = (s.under.filter (·.done)).length + 1 := by unfold snapF; rw [if_neg hb]; simp
  refine ⟨h.ok, hz.ok, hz.node, ?_, hz.done, ?_⟩
  ·rcases hz.boot with e1 | e1
   ·omega
   ·exact e1
  ·rw [hz.same, e, Nat.add_sub_cancel, List.take_length]
end Go.Proofs.Ytijopcdjlpafdaa
namespace Go.Proofs.Ytijopcdjlpafdaa
open Go.RowKit
theorem co_turn {E B B' : List Nat} {w w' : World} {Y : Nat} {y : Cs} (hc : Co (E ++ B) w Y y) (hY : Y ∉ B) (ht : PTurn B w B' w') : Co (E ++ B') w' Y y :=
 (hc.old (N := E ++ B') fun k hk => (List.mem_append.1 hk).elim (fun h => .inl (List.mem_append.2 (.inl h))) fun h => (ht.new k h).elim (fun h => .inl (List.mem_append.2 (.inr h))) .inr).kept ht.kept hY fun k hk => List.mem_append.2 (.inr (ht.sub k hk))
theorem new_subE {E B : List Nat} {w : World} : ∀ k ∈ (w.heap.size :: E) ++ B, k ∈ E ++ B ∨ w.heap.size ≤ k := fun k hk => by
 rw [List.cons_append] at hk
 rcases List.mem_cons.1 hk with rfl | hk
 ·exact .inr (Nat.le_refl _)
 ·exact .inl hk
section
variable {E B : List Nat} {w0 w w' : World} {P p q n : Nat} {tv : Value} {s : Cs} {txs : List TxI}
/-- another block is laid beside -/
theorem PM.add (h : PM E B w0 w P p q tv s txs n) (hx : Ext w w') (hz : w.heap.size < w'.heap.size) : PM (w.heap.size :: E) B w0 w' P p q tv s txs n :=
 ⟨h.ex.trans hx, hx.obj h.row, (h.co.old new_subE).ext hx, (h.rc.old new_subE).ext hx, h.pB, h.qB, h.PB, h.tB, fun k hk => by
  rw [List.cons_append] at hk
  rcases List.mem_cons.1 hk with rfl | hk
  ·exact hz
  ·exact Nat.lt_of_lt_of_le (h.lt k hk) hx.size, h.ge, fun k hk hB => by
  rcases List.mem_cons.1 hk with rfl | hk
  ·exact Nat.lt_irrefl _ (h.lt _ (List.mem_append.2 (.inr hB)))
  ·exact h.dj k hk hB, owns_ext h.to hx, h.ok, h.few⟩
theorem drop_sub {b : Nat} : ∀ k ∈ E ++ B, k ∈ (b :: E) ++ B ∨ w.heap.size ≤ k := fun k hk => .inl (by rw [List.cons_append]; exact List.mem_cons_of_mem _ hk)
theorem PM.drop {b : Nat} (h : PM (b :: E) B w0 w P p q tv s txs n) : PM E B w0 w P p q tv s txs n :=
 ⟨h.ex, h.row, h.co.old drop_sub, h.rc.old drop_sub, h.pB, h.qB, h.PB, h.tB, fun k hk => h.lt k (by rw [List.cons_append]; exact List.mem_cons_of_mem _ hk), h.ge, fun k hk => h.dj k (List.mem_cons_of_mem _ hk), h.to, h.ok, h.few⟩
end
/-- the pair and two nodes beside it -/
structure QM (E B : List Nat) (w0 w : World) (P p q : Nat) (tv : Value) (s : Cs) (txs : List TxI) (n Y Z : Nat) (y z : Cs) : Prop where
 pm : PM E B w0 w P p q tv s txs n
 y : Co (E ++ B) w Y y
 z : Co (E ++ B) w Z z
 yE : Y ∈ E
 zE : Z ∈ E
 YZ : Y ≠ Z
 geE : ∀ k ∈ E, w0.heap.size ≤ k
section
variable {E B B' : List Nat} {w0 w w' : World} {P p q n m Y Z : Nat} {tv tv' : Value} {s s' y z y' z' : Cs} {txs txs' : List TxI}
theorem QM.ext (h : QM E B w0 w P p q tv s txs n Y Z y z) (hx : Ext w w') : QM E B w0 w' P p q tv s txs n Y Z y z := ⟨h.pm.ext hx, h.y.ext hx, h.z.ext hx, h.yE, h.zE, h.YZ, h.geE⟩
theorem QM.yM (h : QM E B w0 w P p q tv s txs n Y Z y z) : Y ∈ E ++ B := List.mem_append.2 (.inl h.yE)
theorem QM.zM (h : QM E B w0 w P p q tv s txs n Y Z y z) : Z ∈ E ++ B := List.mem_append.2 (.inl h.zE)
theorem QM.turn (h : QM E B w0 w P p q tv s txs n Y Z y z) (hp : PM E B' w0 w' P p q tv' s' txs' m) (ht : PTurn B w B' w') : QM E B' w0 w' P p q tv' s' txs' m Y Z y z :=
 ⟨hp, co_turn h.y (h.pm.dj _ h.yE) ht, co_turn h.z (h.pm.dj _ h.zE) ht, h.yE, h.zE, h.YZ, h.geE⟩
theorem QM.add (h : QM E B w0 w P p q tv s txs n Y Z y z) (hx : Ext w w') (hz : w.heap.size < w'.heap.size) : QM (w.heap.size :: E) B w0 w' P p q tv s txs n Y Z y z :=
 ⟨h.pm.add hx hz, (h.y.old new_subE).ext hx, (h.z.old new_subE).ext hx, List.mem_cons_of_mem _ h.yE, List.mem_cons_of_mem _ h.zE, h.YZ, fun k hk => by
  rcases List.mem_cons.1 hk with rfl | hk
  ·exact h.pm.ex.size
  ·exact h.geE k hk⟩
theorem QM.drop {b : Nat} (h : QM (b :: E) B w0 w P p q tv s txs n Y Z y z) (hY : Y ∈ E) (hZ : Z ∈ E) : QM E B w0 w P p q tv s txs n Y Z y z :=
 ⟨h.pm.drop, h.y.old drop_sub, h.z.old drop_sub, hY, hZ, h.YZ, fun k hk => h.geE k (List.mem_cons_of_mem _ hk)⟩
theorem QM.other {b : Nat} (h : QM E B w0 w P p q tv s txs n Y Z y z) (hk : Kept [b] w w') (hb : b ∈ E) (hY : b ≠ Y) (hZ : b ≠ Z) : QM E B w0 w' P p q tv s txs n Y Z y z :=
 ⟨h.pm.other hk fun k hk => .inl (by simp only [List.mem_singleton] at hk; subst hk; exact ⟨hb, h.geE _ hb⟩), h.y.kept hk (by simpa using hY.symm) (by simpa using .inl hb), h.z.kept hk (by simpa using hZ.symm) (by simpa using .inl hb), h.yE, h.zE, h.YZ, h.geE⟩
theorem QM.ydo (h : QM E B w0 w P p q tv s txs n Y Z y z) (hk : Kept [Y] w w') (hy : Co (E ++ B) w' Y y') : QM E B w0 w' P p q tv s txs n Y Z y' z :=
 ⟨h.pm.other hk fun k hk => .inl (by simp only [List.mem_singleton] at hk; subst hk; exact ⟨h.yE, h.geE _ h.yE⟩), hy, h.z.kept hk (by simpa using h.YZ.symm) (by simpa using .inl h.yE), h.yE, h.zE, h.YZ, h.geE⟩
theorem QM.zdo (h : QM E B w0 w P p q tv s txs n Y Z y z) (hk : Kept [Z] w w') (hz : Co (E ++ B) w' Z z') : QM E B w0 w' P p q tv s txs n Y Z y z' :=
 ⟨h.pm.other hk fun k hk => .inl (by simp only [List.mem_singleton] at hk; subst hk; exact ⟨h.zE, h.geE _ h.zE⟩), h.y.kept hk (by simpa using h.YZ) (by simpa using .inl h.zE), hz, h.yE, h.zE, h.YZ, h.geE⟩
end
/-- and a fork of the node as it was -/
structure FM (b : Nat) (s0 : Cs) (E B : List Nat) (w0 w : World) (P p q : Nat) (tv : Value) (s : Cs) (txs : List TxI) (n Y Z : Nat) (y z : Cs) : Prop where
 qm : QM (b :: E) B w0 w P p q tv s txs n Y Z y z
 bc : Co ((b :: E) ++ B) w b s0
 bY : b ≠ Y
 bZ : b ≠ Z
 yE : Y ∈ E
 zE : Z ∈ E
section
variable {E B B' : List Nat} {w0 w w' : World} {P p q n m Y Z b : Nat} {tv tv' : Value} {s s' y z s0 s1 : Cs} {txs txs' : List TxI}
theorem QM.fork (h : QM E B w0 w P p q tv s txs n Y Z y z) (hx : Ext w w') (hz : w.heap.size < w'.heap.size) (hc : ∀ N : List Nat, (∀ k ∈ N, k ∈ E ++ B ∨ k = w.heap.size) → Co N w' w.heap.size s) : FM w.heap.size s E B w0 w' P p q tv s txs n Y Z y z :=
 ⟨h.add hx hz, hc _ fun k hk => by
  rw [List.cons_append] at hk
  rcases List.mem_cons.1 hk with rfl | hk
  ·exact .inr rfl
  ·exact .inl hk, fun e => Nat.lt_irrefl _ (e ▸ h.pm.lt Y h.yM), fun e => Nat.lt_irrefl _ (e ▸ h.pm.lt Z h.zM), h.yE, h.zE⟩
theorem FM.bM (_ : FM b s0 E B w0 w P p q tv s txs n Y Z y z) : b ∈ (b :: E) ++ B := by simp
theorem FM.ext (h : FM b s0 E B w0 w P p q tv s txs n Y Z y z) (hx : Ext w w') : FM b s0 E B w0 w' P p q tv s txs n Y Z y z := ⟨h.qm.ext hx, h.bc.ext hx, h.bY, h.bZ, h.yE, h.zE⟩
theorem FM.turn (h : FM b s0 E B w0 w P p q tv s txs n Y Z y z) (hp : PM (b :: E) B' w0 w' P p q tv' s' txs' m) (ht : PTurn B w B' w') : FM b s0 E B' w0 w' P p q tv' s' txs' m Y Z y z :=
 ⟨h.qm.turn hp ht, co_turn h.bc (h.qm.pm.dj _ (by simp)) ht, h.bY, h.bZ, h.yE, h.zE⟩
theorem FM.bdo (h : FM b s0 E B w0 w P p q tv s txs n Y Z y z) (hk : Kept [b] w w') : QM E B w0 w' P p q tv s txs n Y Z y z :=
 (h.qm.other hk (by simp) h.bY h.bZ).drop h.yE h.zE
theorem FM.done (h : FM b s0 E B w0 w P p q tv s txs n Y Z y z) : QM E B w0 w P p q tv s txs n Y Z y z := h.qm.drop h.yE h.zE
end
theorem QM.mono {E B : List Nat} {w0 w : World} {P p q n m Y Z : Nat} {tv : Value} {s y z : Cs} {txs : List TxI} (h : QM E B w0 w P p q tv s txs n Y Z y z) (hm : n ≤ m) : QM E B w0 w P p q tv s txs m Y Z y z := ⟨h.pm.mono hm, h.y, h.z, h.yE, h.zE, h.YZ, h.geE⟩
/-! ## a node's number stays -/
theorem if_node {c : Prop} [Decidable c] {a b : Int × Cs} {n : Int} (ha : a.2.node = n) (hb : b.2.node = n) : (if c then a else b).2.node = n := by split <;> assumption
theorem node_redo (s : Cs) (r : By) : (redoO s r).2.node = s.node := by
 have h1 : ∀ b, (livesO s b).2.node = s.node := fun b => by unfold livesO; exact if_node rfl rfl
 have h2 : ∀ id sh, (isDoneO s id sh).2.node = s.node := fun id sh => by unfold isDoneO; exact if_node rfl (if_node rfl (if_node rfl rfl))
 unfold redoO
 refine if_node rfl (if_node (h1 _) (if_node rfl (if_node ?_ (if_node (if_node (h2 _ _) rfl) rfl))))
 cases s.at_ ⟨s.node, (valAt r 1 : Nat), (valAt r 5 : Nat)⟩ true <;> rfl
theorem node_redoK (s : Cs) (r : By) (k : Bool) : (redoK s r k).node = s.node := by
 unfold redoK
 split
 ·rfl
 ·exact node_redo s r
theorem node_vote (s : Cs) (id : TxI) (sh : Int) (y : Bool) : (voteO s id sh y).s.node = s.node := by
 unfold voteO
 cases s.at_ id false with
 | none => rfl
 | some i =>
  simp only
  repeat' split
  all_goals rfl
theorem node_ack (s : Cs) (id : TxI) (sh : Int) : (ackO s id sh).s.node = s.node := by
 unfold ackO
 cases s.at_ id true with
 | none => rfl
 | some i =>
  simp only
  repeat' split
  all_goals rfl
theorem node_drop (s : Cs) (id : TxI) : (dropO s id).2.node = s.node := by
 unfold dropO
 cases s.at_ id false with
 | none => rfl
 | some i =>
  simp only
  repeat' split
  all_goals rfl
theorem node_begin (s : Cs) (sh : List Int) : (beginS s sh).node = s.node := by
 unfold beginS
 split <;> rfl
theorem doS_node (s : Cs) (txs : List TxI) (d : Cl) : (doS s txs d).1.node = s.node := by
 unfold doS
 repeat' split
 all_goals first | rfl | simp only [node_redoK, node_vote, node_ack, node_drop, node_begin]
theorem recS_len {s : Cs} (h : s.Ok) (txs : List TxI) (d : Cl) : (recS s txs d).length ≤ 100 := by
 unfold recS
 repeat' split
 ·exact bootLen s
 ·exact voteLen h _ _ _
 ·exact ackLen s _ _
 ·simp
/-! ## records -/
theorem putD_len {s : Cs} {t : Tr} (h : t.Ok s) : (putD t).length ≤ 100 := by
 have := (rightF_len h.right).2
 unfold putD be4
 simp
 omega
theorem snap_rec {s : Cs} (h : s.Ok) {r : By} (hr : r ∈ snapF s) : r.length ≤ 100 := by
 unfold snapF at hr
 split at hr
 ·simp at hr
 ·rcases List.mem_cons.1 hr with rfl | hr
  ·simp [be4]
  ·obtain ⟨t, ht, rfl⟩ := List.mem_map.1 hr
   exact putD_len (h.rows t (List.mem_filter.1 ht).1)
theorem OwnS.recAt {w : World} {base : Nat} {A : Option Addr} {n c : Nat} {ls : List By} (h : OwnS w base (.slice A n c) ls) {k : Nat} (hk : k < ls.length) :
 ∃ ad A' c', A = some ad ∧ (∀ W, Ext w W → W.cell? (ad.add k) = some (.slice A' ls[k].length c')) ∧ Bs w A' ls[k] ∧ ls[k].length ≤ c' := by
 obtain ⟨vs, h1, h2⟩ := h
 obtain ⟨u, h3, h4⟩ := h2 k ls[k] (List.getElem?_eq_getElem hk)
 obtain ⟨ad, e, hc⟩ := Sl.own h1 rfl k u h3
 obtain ⟨A', c', rfl⟩ := h4.form
 exact ⟨ad, A', c', e, fun W hx => hx.cell hc, h4.bs, h4.cap.1⟩
end Go.Proofs.Ytijopcdjlpafdaa
