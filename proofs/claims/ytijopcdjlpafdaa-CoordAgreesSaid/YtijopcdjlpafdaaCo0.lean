/- The plain node: what coord's methods compute, and what stays true of a node. No program. Conditions: the hypotheses of each theorem. -/
import Derived.Test.YtijopcdjlpafdaaDd0
namespace Go.Proofs.Ytijopcdjlpafdaa
/-- a transaction's name -/
structure TxI where
  node : Int
  boot : Int
  n : Int
  deriving DecidableEq
/-- a transaction under way -/
structure Tr where
  id : TxI
  shards : List Int
  done : Bool
  yes : List Int
  ack : List Int
/-- a node -/
structure Cs where
  node : Int
  boot : Int
  next : Int
  under : List Tr
def be4 (x : Int) : By := beN 4 x.toNat
def okAt (l : List Int) (i : Nat) : Bool := decide (0 ≤ l.getD i 0) && decide (l.getD i 0 ≤ 3) && (i == 0 || decide (l.getD (i - 1) 0 < l.getD i 0))
def rightF (l : List Int) : Bool := decide (l ≠ []) && (List.range l.length).all (okAt l)
def hasI (l : List Int) (x : Int) : Bool := l.any fun y => decide (y = x)
def allIn (l m : List Int) : Bool := l.all fun x => hasI m x
def findT (l : List Tr) (id : TxI) : Option Nat := l.findIdx? fun t => decide (t.id = id)
def dTr : Tr := ⟨⟨0, 0, 0⟩, [], false, [], []⟩
def Cs.row (s : Cs) (i : Nat) : Tr := s.under.getD i dTr
def Cs.at_ (s : Cs) (id : TxI) (d : Bool) : Option Nat := match findT s.under id with
  | some i => if (s.row i).done = d then some i else none
  | none => none
def putD (t : Tr) : By := 2 :: be4 t.id.boot ++ be4 t.id.n ++ beN 1 t.shards.length ++ t.shards.map fun x => UInt8.ofNat x.toNat
/-- a call's outcome: the record, the error, the node -/
structure Out where
  r : By
  e : Int
  s : Cs
def bootO (s : Cs) : By × Int := if s.boot = 2147483647 then ([], 8) else (1 :: be4 (s.boot + 1), 0)
def beginE (s : Cs) (sh : List Int) : Int := if s.boot = 0 then 13 else if rightF sh = false then 2 else if 8 ≤ s.under.length ∨ 2147483647 ≤ s.next then 8 else 0
def beginT (s : Cs) (sh : List Int) : TxI := if beginE s sh = 0 then ⟨s.node, s.boot, s.next⟩ else ⟨0, 0, 0⟩
def beginS (s : Cs) (sh : List Int) : Cs := if beginE s sh = 0 then { s with next := s.next + 1, under := s.under ++ [⟨⟨s.node, s.boot, s.next⟩, sh, false, [], []⟩] } else s
def voteO (s : Cs) (id : TxI) (shard : Int) (yes : Bool) : Out := match s.at_ id false with
  | none => ⟨[], 9, s⟩
  | some i =>
    let t := s.row i
    if hasI t.shards shard = false then ⟨[], 2, s⟩
    else if yes = false then (if allIn t.shards t.yes then ⟨[], 13, s⟩ else ⟨[], 0, { s with under := s.under.eraseIdx i }⟩)
    else
      let t' := { t with yes := t.yes ++ [shard] }
      ⟨if allIn t'.shards t'.yes then putD t' else [], 0, { s with under := s.under.set i t' }⟩
def dropO (s : Cs) (id : TxI) : Int × Cs := match s.at_ id false with
  | none => (9, s)
  | some i => if allIn (s.row i).shards (s.row i).yes then (13, s) else (0, { s with under := s.under.eraseIdx i })
def ackO (s : Cs) (id : TxI) (shard : Int) : Out := match s.at_ id true with
  | none => ⟨[], 9, s⟩
  | some i =>
    let t := s.row i
    if hasI t.shards shard = false then ⟨[], 2, s⟩
    else
      let t' := { t with ack := t.ack ++ [shard] }
      ⟨if allIn t'.shards t'.ack then 3 :: be4 id.boot ++ be4 id.n else [], 0, { s with under := s.under.set i t' }⟩
def askF (s : Cs) (id : TxI) : Int :=
  if id.node ≠ s.node ∨ id.boot < 1 ∨ s.boot < id.boot ∨ id.n < 1 ∨ (id.boot = s.boot ∧ s.next ≤ id.n) then 0
  else match findT s.under id with
    | none => 2
    | some i => if (s.row i).done then 1 else 0
def todoT (t : Tr) : List (TxI × Int × Int) := t.shards.flatMap fun n =>
  if t.done = true ∧ hasI t.ack n = false then [(t.id, n, 1)] else if t.done = false ∧ hasI t.yes n = false then [(t.id, n, 0)] else []
def todoF (s : Cs) : List (TxI × Int × Int) := s.under.flatMap todoT
def goodF (n : Nat) : Bool := decide (1 ≤ n) && decide (n ≤ 2147483647)
def livesO (s : Cs) (b : Int) : Int × Cs := if b ≤ s.boot then (13, s) else (0, { s with boot := b, next := 1, under := s.under.filter (·.done) })
def badF (s : Cs) (id : TxI) (sh : List Int) : Bool := match findT s.under id with
  | some i => (s.row i).done || !allIn (s.row i).shards (s.row i).yes || decide ((s.row i).shards ≠ sh)
  | none => false
def isDoneO (s : Cs) (id : TxI) (sh : List Int) : Int × Cs :=
  if s.boot < id.boot then (13, s)
  else if badF s id sh = true then (13, s)
  else if findT s.under id = none ∧ 8 ≤ s.under.length then (8, s)
  else (0, { s with under := (s.under.filter fun t => decide (t.id ≠ id)) ++ [⟨id, sh, true, [], []⟩], next := if id.boot = s.boot then max s.next (id.n + 1) else s.next })
def valAt (r : By) (k : Nat) : Nat := valB ((r.drop k).take 4)
def redoO (s : Cs) (r : By) : Int × Cs :=
  if r.length < 5 ∨ goodF (valAt r 1) = false then (4, s)
  else if r.getD 0 0 = 1 ∧ r.length = 5 then livesO s (valAt r 1 : Nat)
  else if r.length < 9 ∨ goodF (valAt r 5) = false then (4, s)
  else if r.getD 0 0 = 3 ∧ r.length = 9 then
    match s.at_ ⟨s.node, (valAt r 1 : Nat), (valAt r 5 : Nat)⟩ true with
    | none => (13, s)
    | some i => (0, { s with under := s.under.eraseIdx i })
  else if r.getD 0 0 = 2 ∧ 9 < r.length ∧ r.length = 10 + (r.getD 9 0).toNat then
    let sh := (r.drop 10).map fun c => ((c.toNat : Nat) : Int)
    if rightF sh then isDoneO s ⟨s.node, (valAt r 1 : Nat), (valAt r 5 : Nat)⟩ sh else (4, s)
  else (4, s)
def snapF (s : Cs) : List By := if s.boot = 0 then [] else (1 :: be4 s.boot) :: (s.under.filter (·.done)).map putD
/-- a node's row is right -/
structure Tr.Ok (s : Cs) (t : Tr) : Prop where
  right : rightF t.shards = true
  yes : ∀ x ∈ t.yes, x ∈ t.shards
  ack : ∀ x ∈ t.ack, x ∈ t.shards
  node : t.id.node = s.node
  boot1 : 1 ≤ t.id.boot
  boot2 : t.id.boot ≤ s.boot
  n1 : 1 ≤ t.id.n
  n2 : t.id.n ≤ 2147483647
  next : t.id.boot = s.boot → t.id.n < s.next
/-- what stays true of a node -/
structure Cs.Ok (s : Cs) : Prop where
  boot1 : 0 ≤ s.boot
  boot2 : s.boot ≤ 2147483647
  next1 : 1 ≤ s.next
  next2 : s.next ≤ 2147483648
  few : s.under.length ≤ 8
  rows : ∀ t ∈ s.under, t.Ok s
  one : s.under.Pairwise fun a b => a.id ≠ b.id
theorem rightF_iff {l : List Int} : rightF l = true ↔ l ≠ [] ∧ ∀ i, i < l.length → 0 ≤ l.getD i 0 ∧ l.getD i 0 ≤ 3 ∧ (0 < i → l.getD (i - 1) 0 < l.getD i 0) := by
  unfold rightF okAt
  simp only [Bool.and_eq_true, decide_eq_true_eq, List.all_eq_true, List.mem_range, Bool.or_eq_true, beq_iff_eq]
  constructor
  · rintro ⟨h1, h2⟩
    refine ⟨h1, fun i hi => ?_⟩
    obtain ⟨⟨a, b⟩, c⟩ := h2 i hi
    exact ⟨a, b, fun h0 => by rcases c with c | c; omega; exact c⟩
  · rintro ⟨h1, h2⟩
    refine ⟨h1, fun i hi => ?_⟩
    obtain ⟨a, b, c⟩ := h2 i hi
    exact ⟨⟨a, b⟩, by by_cases h0 : i = 0; exact .inl h0; exact .inr (c (by omega))⟩
theorem rightF_mem {l : List Int} (h : rightF l = true) : ∀ x ∈ l, 0 ≤ x ∧ x ≤ 3 := by
  intro x hx
  obtain ⟨i, hi, rfl⟩ := List.mem_iff_getElem.1 hx
  have := (rightF_iff.1 h).2 i hi
  rw [List.getD_eq_getElem?_getD, List.getElem?_eq_getElem hi] at this
  exact ⟨this.1, this.2.1⟩
theorem rightF_len {l : List Int} (h : rightF l = true) : 1 ≤ l.length ∧ l.length ≤ 4 := by
  have h' := (rightF_iff.1 h)
  refine ⟨List.length_pos_iff.2 h'.1, ?_⟩
  have key : ∀ i, i < l.length → (i : Int) ≤ l.getD i 0 := by
    intro i
    induction i with
    | zero => intro hi; have := (h'.2 0 hi).1; omega
    | succ i ih =>
      intro hi
      have h1 := ih (by omega)
      have h2 := (h'.2 (i + 1) hi).2.2 (by omega)
      simp only [Nat.add_sub_cancel] at h2
      omega
  rcases Nat.lt_or_ge 4 l.length with h5 | h5
  · have h1 := key 4 h5
    have h2 := (h'.2 4 h5).2.1
    omega
  · exact h5
theorem hasI_iff {l : List Int} {x : Int} : hasI l x = true ↔ x ∈ l := by simp [hasI]
theorem allIn_iff {l m : List Int} : allIn l m = true ↔ ∀ x ∈ l, x ∈ m := by simp [allIn, hasI_iff]
theorem findT_some {l : List Tr} {id : TxI} {i : Nat} (h : findT l id = some i) : i < l.length ∧ (l.getD i dTr).id = id := by
  unfold findT at h
  obtain ⟨h1, h2, _⟩ := List.findIdx?_eq_some_iff_getElem.1 h
  refine ⟨h1, ?_⟩
  rw [List.getD_eq_getElem?_getD, List.getElem?_eq_getElem h1]
  simpa using h2
theorem findT_none {l : List Tr} {id : TxI} : findT l id = none ↔ ∀ t ∈ l, t.id ≠ id := by
  unfold findT
  simp
theorem at_some {s : Cs} {id : TxI} {d : Bool} {i : Nat} (h : s.at_ id d = some i) : i < s.under.length ∧ (s.row i).id = id ∧ (s.row i).done = d ∧ findT s.under id = some i := by
  unfold Cs.at_ at h
  cases hf : findT s.under id with
  | none => rw [hf] at h; cases h
  | some k =>
    rw [hf] at h
    simp only at h
    split at h
    · rename_i hd
      cases h
      obtain ⟨h1, h2⟩ := findT_some hf
      exact ⟨h1, h2, hd, rfl⟩
    · cases h
theorem row_mem {s : Cs} {i : Nat} (h : i < s.under.length) : s.row i ∈ s.under := by
  unfold Cs.row
  rw [List.getD_eq_getElem?_getD, List.getElem?_eq_getElem h]
  exact List.getElem_mem h
/-! ## what stays true -/
theorem Tr.Ok.of {s s' : Cs} {t : Tr} (h : t.Ok s) (h1 : s'.node = s.node) (h2 : s.boot ≤ s'.boot) (h3 : s'.boot = s.boot → s.next ≤ s'.next) : t.Ok s' :=
  ⟨h.right, h.yes, h.ack, by rw [h1, h.node], h.boot1, Int.le_trans h.boot2 h2, h.n1, h.n2, fun e => by
    have hb := h.boot2
    have := h.next (by omega)
    have := h3 (by omega)
    omega⟩
theorem ok_new (n : Int) : Cs.Ok ⟨n, 0, 1, []⟩ := ⟨by simp, by simp, by simp, by simp, by simp, by simp, by simp⟩
theorem ok_begin {s : Cs} (h : s.Ok) (sh : List Int) : (beginS s sh).Ok := by
  unfold beginS
  split
  · rename_i he
    unfold beginE at he
    split at he
    · cases he
    · rename_i h0
      split at he
      · cases he
      · rename_i hr
        split at he
        · cases he
        · rename_i hf
          have hb := h.boot1
          have hn := h.next1
          have hb2 := h.boot2
          simp only [not_or] at hf
          refine ⟨h.boot1, h.boot2, by simp only; omega, by simp only; omega, by simp only [List.length_append, List.length_cons, List.length_nil]; omega, ?_, ?_⟩
          · intro t ht
            rcases List.mem_append.1 ht with ht | ht
            · exact (h.rows t ht).of rfl (Int.le_refl _) (fun _ => by simp only; omega)
            · simp only [List.mem_singleton] at ht
              subst ht
              exact ⟨by simpa using hr, by simp, by simp, rfl, by simp only; omega, Int.le_refl _, hn, by simp only; omega, fun _ => by simp only; omega⟩
          · rw [List.pairwise_append]
            refine ⟨h.one, by simp, fun a ha b hb' e => ?_⟩
            simp only [List.mem_singleton] at hb'
            subst hb'
            have := (h.rows a ha).next (by rw [e])
            rw [e] at this
            simp only at this
            omega
  · exact h
theorem ok_erase {s : Cs} (h : s.Ok) (i : Nat) : Cs.Ok { s with under := s.under.eraseIdx i } :=
  ⟨h.boot1, h.boot2, h.next1, h.next2, Nat.le_trans (List.length_eraseIdx_le _ _) h.few, fun t ht => (h.rows t (List.mem_of_mem_eraseIdx ht)).of rfl (Int.le_refl _) (fun _ => Int.le_refl _), h.one.sublist (List.eraseIdx_sublist ..)⟩
theorem ok_set {s : Cs} (h : s.Ok) (i : Nat) (hi : i < s.under.length) (t' : Tr) (hid : t'.id = (s.row i).id) (ht : t'.Ok s) : Cs.Ok { s with under := s.under.set i t' } := by
  refine ⟨h.boot1, h.boot2, h.next1, h.next2, by simp only [List.length_set]; exact h.few, fun t hm => ?_, ?_⟩
  · rcases List.mem_or_eq_of_mem_set hm with hm | rfl
    · exact (h.rows t hm).of rfl (Int.le_refl _) (fun _ => Int.le_refl _)
    · exact ht.of rfl (Int.le_refl _) (fun _ => Int.le_refl _)
  · have e : ∀ l : List Tr, l.Pairwise (fun a b => a.id ≠ b.id) ↔ (l.map (·.id)).Pairwise (· ≠ ·) := fun l => by rw [List.pairwise_map]
    simp only
    rw [e, List.map_set]
    have : (s.under.map (·.id)).set i t'.id = s.under.map (·.id) := by
      rw [hid]
      apply List.ext_getElem?
      intro j
      rw [List.getElem?_set]
      by_cases hj : i = j
      · subst hj
        rw [if_pos rfl]
        simp [hi, Cs.row]
      · rw [if_neg hj]
    rw [this, ← e]
    exact h.one
theorem ok_vote {s : Cs} (h : s.Ok) (id : TxI) (shard : Int) (yes : Bool) : (voteO s id shard yes).s.Ok := by
  unfold voteO
  cases hat : s.at_ id false with
  | none => exact h
  | some i =>
    obtain ⟨h1, h2, h3, _⟩ := at_some hat
    simp only
    split
    · exact h
    · rename_i hs
      split
      · split
        · exact h
        · exact ok_erase h i
      · refine ok_set h i h1 _ rfl ?_
        have ht := h.rows _ (row_mem h1)
        exact ⟨ht.right, fun x hx => by
          rcases List.mem_append.1 hx with hx | hx
          · exact ht.yes x hx
          · simp at hx; subst hx; exact hasI_iff.1 (by simpa using hs), ht.ack, ht.node, ht.boot1, ht.boot2, ht.n1, ht.n2, ht.next⟩
theorem ok_drop {s : Cs} (h : s.Ok) (id : TxI) : (dropO s id).2.Ok := by
  unfold dropO
  cases hat : s.at_ id false with
  | none => exact h
  | some i =>
    simp only
    split
    · exact h
    · exact ok_erase h i
theorem ok_ack {s : Cs} (h : s.Ok) (id : TxI) (shard : Int) : (ackO s id shard).s.Ok := by
  unfold ackO
  cases hat : s.at_ id true with
  | none => exact h
  | some i =>
    obtain ⟨h1, h2, h3, _⟩ := at_some hat
    simp only
    split
    · exact h
    · rename_i hs
      refine ok_set h i h1 _ rfl ?_
      have ht := h.rows _ (row_mem h1)
      exact ⟨ht.right, ht.yes, fun x hx => by
        rcases List.mem_append.1 hx with hx | hx
        · exact ht.ack x hx
        · simp at hx; subst hx; exact hasI_iff.1 (by simpa using hs), ht.node, ht.boot1, ht.boot2, ht.n1, ht.n2, ht.next⟩
theorem ok_lives {s : Cs} (h : s.Ok) (b : Int) (hb : b ≤ 2147483647) : (livesO s b).2.Ok := by
  unfold livesO
  split
  · exact h
  · rename_i hlt
    have h1 := h.boot1
    exact ⟨by simp only; omega, hb, by simp, by simp, Nat.le_trans (List.length_filter_le _ _) h.few, fun t ht => by
      have := h.rows t ((List.mem_filter.1 ht).1)
      exact this.of rfl (by simp only; omega) (fun e => by simp only at e; omega), h.one.filter _⟩
theorem length_filter_lt {l : List Tr} {id : TxI} {i : Nat} (h : findT l id = some i) : (l.filter fun t => decide (t.id ≠ id)).length < l.length := by
  obtain ⟨h1, h2⟩ := findT_some h
  rcases Nat.lt_or_ge (l.filter fun t => decide (t.id ≠ id)).length l.length with h3 | h3
  · exact h3
  · exfalso
    have := List.length_filter_eq_length_iff.1 (Nat.le_antisymm (List.length_filter_le _ _) h3)
    have hm : l.getD i dTr ∈ l := by rw [List.getD_eq_getElem?_getD, List.getElem?_eq_getElem h1]; exact List.getElem_mem h1
    have := this _ hm
    simp only [decide_eq_true_eq] at this
    exact this h2
theorem ok_isDone {s : Cs} (h : s.Ok) (id : TxI) (sh : List Int) (h1 : id.node = s.node) (h2 : 1 ≤ id.boot) (h3 : 1 ≤ id.n) (h4 : id.n ≤ 2147483647) (hr : rightF sh = true) : (isDoneO s id sh).2.Ok := by
  unfold isDoneO
  split
  · exact h
  · rename_i hb
    split
    · exact h
    · split
      · exact h
      · rename_i hf
        have hn1 := h.next1
        have hn2 := h.next2
        have hmax : s.next ≤ (if id.boot = s.boot then max s.next (id.n + 1) else s.next) := by split <;> omega
        refine ⟨h.boot1, h.boot2, by simp only; omega, by simp only; split <;> omega, ?_, ?_, ?_⟩
        · simp only [List.length_append, List.length_cons, List.length_nil]
          cases hi : findT s.under id with
          | none =>
            have := List.length_filter_le (fun t : Tr => decide (t.id ≠ id)) s.under
            simp only [hi, true_and, Nat.not_le] at hf
            omega
          | some i =>
            have := length_filter_lt hi
            have := h.few
            omega
        · intro t ht
          rcases List.mem_append.1 ht with ht | ht
          · exact (h.rows t ((List.mem_filter.1 ht).1)).of rfl (Int.le_refl _) (fun _ => hmax)
          · simp only [List.mem_singleton] at ht
            subst ht
            exact ⟨hr, by simp, by simp, h1, h2, by simp only; omega, h3, h4, fun e => by simp only at e ⊢; rw [if_pos e]; omega⟩
        · rw [List.pairwise_append]
          refine ⟨h.one.filter _, by simp, fun a ha b hb' e => ?_⟩
          simp only [List.mem_singleton] at hb'
          subst hb'
          have := (List.mem_filter.1 ha).2
          simp at this
          exact this e
theorem ok_redo {s : Cs} (h : s.Ok) (r : By) : (redoO s r).2.Ok := by
  unfold redoO
  split
  · exact h
  · rename_i h5
    have hg1 : goodF (valAt r 1) = true := by simp only [not_or] at h5; simpa using h5.2
    unfold goodF at hg1
    simp only [Bool.and_eq_true, decide_eq_true_eq] at hg1
    split
    · exact ok_lives h _ (by omega)
    · split
      · exact h
      · rename_i h9
        have hg5 : goodF (valAt r 5) = true := by simp only [not_or] at h9; simpa using h9.2
        unfold goodF at hg5
        simp only [Bool.and_eq_true, decide_eq_true_eq] at hg5
        split
        · cases hat : s.at_ ⟨s.node, (valAt r 1 : Nat), (valAt r 5 : Nat)⟩ true with
          | none => exact h
          | some i => exact ok_erase h i
        · split
          · simp only
            split
            · rename_i hr
              exact ok_isDone h _ _ rfl (by simp only; omega) (by simp only; omega) (by simp only; omega) hr
            · exact h
          · exact h
end Go.Proofs.Ytijopcdjlpafdaa
