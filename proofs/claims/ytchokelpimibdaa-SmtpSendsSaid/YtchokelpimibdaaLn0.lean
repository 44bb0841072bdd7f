/- Lines and dotted bodies in plain words: no program in sight. Conditions: the hypotheses of each theorem. -/
import Derived.Lib.IndexMore
namespace Go.Proofs.Ytchokelpimibdaa
/-- a line's end stands at a place -/
def endsB (l : List UInt8) (k : Nat) : Bool := l[k]? == some 13 && l[k + 1]? == some 10
theorem ends_iff {l : List UInt8} {k : Nat} : endsB l k = true ↔ l[k]? = some 13 ∧ l[k + 1]? = some 10 := by simp [endsB]
theorem ends_lt {l : List UInt8} {k : Nat} (h : endsB l k = true) : k + 1 < l.length := by
  obtain ⟨_, h⟩ := ends_iff.1 h
  exact (List.getElem?_eq_some_iff.1 h).1
theorem ends_drop (l : List UInt8) (a k : Nat) : endsB (l.drop a) k = endsB l (a + k) := by
  unfold endsB
  rw [List.getElem?_drop, List.getElem?_drop, Nat.add_assoc]
theorem occ_ends (l : List UInt8) (i : Nat) : Lib.occAt l [13, 10] i = endsB l i := by
  unfold Lib.occAt endsB
  rw [show l[i]? = (l.drop i)[0]? by simp, show l[i + 1]? = (l.drop i)[1]? by simp]
  match l.drop i with
  | [] => rfl
  | [a] => simp [List.isPrefixOf]
  | a :: b :: r =>
    simp only [List.isPrefixOf, List.getElem?_cons_zero, List.getElem?_cons_succ, Bool.and_true]
    rw [Bool.eq_iff_iff]
    simp only [Bool.and_eq_true, beq_iff_eq, Option.some.injEq]
    exact ⟨fun ⟨h1, h2⟩ => ⟨h1.symm, h2.symm⟩, fun ⟨h1, h2⟩ => ⟨h1.symm, h2.symm⟩⟩
/-- where the first line's end stands -/
def fnd (l : List UInt8) : Option Nat := (List.range l.length).find? (endsB l)
theorem fnd_some {l : List UInt8} {k : Nat} : fnd l = some k ↔ endsB l k = true ∧ ∀ j, j < k → endsB l j = false := by
  unfold fnd
  rw [List.find?_range_eq_some]
  constructor
  · rintro ⟨h1, _, h3⟩
    exact ⟨h1, fun j hj => by simpa using h3 j hj⟩
  · rintro ⟨h1, h3⟩
    exact ⟨h1, by have := ends_lt h1; simp; omega, fun j hj => by simpa using h3 j hj⟩
theorem fnd_none {l : List UInt8} : fnd l = none ↔ ∀ j, endsB l j = false := by
  unfold fnd
  rw [List.find?_range_eq_none]
  constructor
  · intro h j
    rcases Nat.lt_or_ge j l.length with hj | hj
    · simpa using h j hj
    · cases he : endsB l j with
      | false => rfl
      | true => have := ends_lt he; omega
  · intro h j _
    simp [h j]
theorem fnd_lt {l : List UInt8} {k : Nat} (h : fnd l = some k) : k + 2 ≤ l.length := ends_lt (fnd_some.1 h).1
theorem index_fnd (l : List UInt8) : Lib.index l [13, 10] = match fnd l with | some k => (k : Int) | none => -1 := by
  rcases Lib.index_spec l [13, 10] with ⟨h1, h2⟩ | ⟨i, h1, h2, h3, h4⟩
  · have : fnd l = none := fnd_none.2 fun j => by
      rcases Nat.lt_or_ge l.length j with hj | hj
      · cases he : endsB l j with
        | false => rfl
        | true => have := ends_lt he; omega
      · rw [← occ_ends]; exact h2 j hj
    rw [this, h1]
  · have : fnd l = some i := fnd_some.2 ⟨by rw [← occ_ends]; exact h3, fun j hj => by rw [← occ_ends]; exact h4 j hj⟩
    rw [this, h1]
theorem fnd_split {l : List UInt8} {k : Nat} (h : fnd l = some k) : l = l.take k ++ ([13, 10] ++ l.drop (k + 2)) := by
  obtain ⟨h1, h2⟩ := ends_iff.1 (fnd_some.1 h).1
  obtain ⟨hk, h1⟩ := List.getElem?_eq_some_iff.1 h1
  obtain ⟨hk2, h2⟩ := List.getElem?_eq_some_iff.1 h2
  have e : l.drop k = 13 :: 10 :: l.drop (k + 2) := by
    rw [List.drop_eq_getElem_cons hk, List.drop_eq_getElem_cons hk2, h1, h2]
  have := List.take_append_drop k l
  rw [e] at this
  exact this.symm
/-! ## what is taken -/
def lineE (l : List UInt8) : Int := match fnd l with | none => 3 | some k => if 1024 < k then 6 else 0
def lineS (l : List UInt8) : List UInt8 := match fnd l with | none => [] | some k => if 1024 < k then [] else l.take k
def lineL (l : List UInt8) : List UInt8 := match fnd l with | none => l | some k => l.drop (k + 2)
def rawE (l : List UInt8) (n : Int) : Int := if n < 0 then 2 else if l.length < n then 3 else 0
def rawS (l : List UInt8) (n : Int) : List UInt8 := if n < 0 then [] else if l.length < n then [] else l.take n.toNat
def rawL (l : List UInt8) (n : Int) : List UInt8 := if n < 0 then l else if l.length < n then l else l.drop n.toNat
def feedE (l p : List UInt8) : Int := if 16384 < l.length + p.length then 8 else 0
def feedL (l p : List UInt8) : List UInt8 := if 16384 < l.length + p.length then l else l ++ p
theorem lineL_le (l : List UInt8) : (lineL l).length ≤ l.length := by
  unfold lineL
  split
  · exact Nat.le_refl _
  · simp
theorem rawL_le (l : List UInt8) (n : Int) : (rawL l n).length ≤ l.length := by
  unfold rawL
  split
  · exact Nat.le_refl _
  · split
    · exact Nat.le_refl _
    · simp
theorem feedL_le (l p : List UInt8) (h : l.length ≤ 16384) : (feedL l p).length ≤ 16384 := by
  unfold feedL
  split
  · exact h
  · simp; omega
/-! ## dotted bodies -/
/-- does a line begin at a place? -/
def beg (p : List UInt8) (k : Nat) : Bool := k == 0 || decide (2 ≤ k) && endsB p (k - 2)
def stuff1 (p : List UInt8) (k : Nat) : List UInt8 := (if p[k]? = some 46 ∧ beg p k = true then [46] else []) ++ (p[k]?).toList
def stuffTo (p : List UInt8) (k : Nat) : List UInt8 := (List.range k).flatMap (stuff1 p)
def stuffed (p : List UInt8) : List UInt8 := stuffTo p p.length ++ (if beg p p.length = true then [] else [13, 10]) ++ [46, 13, 10]
def un1 (p : List UInt8) (k : Nat) : List UInt8 := if p[k]? = some 46 ∧ beg p k = true then [] else (p[k]?).toList
def unTo (p : List UInt8) (k : Nat) : List UInt8 := (List.range k).flatMap (un1 p)
def dot (p : List UInt8) (k : Nat) : Bool := beg p k && p[k]? == some 46 && endsB p (k + 1)
/-- where the last line, of a dot alone, begins -/
def fin (p : List UInt8) : Option Nat := (List.range p.length).find? (dot p)
def unE (p : List UInt8) : Int := match fin p with | none => 3 | some _ => 0
def unL (p : List UInt8) : List UInt8 := match fin p with | none => [] | some k => unTo p k
def unN (p : List UInt8) : Nat := match fin p with | none => 0 | some k => k + 3
theorem stuffTo_succ (p : List UInt8) (k : Nat) : stuffTo p (k + 1) = stuffTo p k ++ stuff1 p k := by simp [stuffTo, List.range_succ]
theorem unTo_succ (p : List UInt8) (k : Nat) : unTo p (k + 1) = unTo p k ++ un1 p k := by simp [unTo, List.range_succ]
theorem stuff1_le (p : List UInt8) (k : Nat) : (stuff1 p k).length ≤ 2 := by
  have h : (p[k]?).toList.length ≤ 1 := by cases p[k]? <;> simp
  unfold stuff1
  split <;> simp <;> omega
theorem stuffTo_le (p : List UInt8) : ∀ k, (stuffTo p k).length ≤ 2 * k
  | 0 => by simp [stuffTo]
  | k + 1 => by
    rw [stuffTo_succ, List.length_append]
    have := stuffTo_le p k
    have := stuff1_le p k
    omega
theorem un1_le (p : List UInt8) (k : Nat) : (un1 p k).length ≤ 1 := by
  have h : (p[k]?).toList.length ≤ 1 := by cases p[k]? <;> simp
  unfold un1
  split
  · simp
  · exact h
theorem unTo_le (p : List UInt8) : ∀ k, (unTo p k).length ≤ k
  | 0 => by simp [unTo]
  | k + 1 => by
    rw [unTo_succ, List.length_append]
    have := unTo_le p k
    have := un1_le p k
    omega
theorem dot_iff {p : List UInt8} {k : Nat} : dot p k = true ↔ beg p k = true ∧ p[k]? = some 46 ∧ endsB p (k + 1) = true := by simp [dot, and_assoc]
theorem dot_lt {p : List UInt8} {k : Nat} (h : dot p k = true) : k + 2 < p.length := by
  have := ends_lt (dot_iff.1 h).2.2
  omega
theorem fin_some {p : List UInt8} {k : Nat} : fin p = some k ↔ dot p k = true ∧ ∀ j, j < k → dot p j = false := by
  unfold fin
  rw [List.find?_range_eq_some]
  constructor
  · rintro ⟨h1, _, h3⟩
    exact ⟨h1, fun j hj => by simpa using h3 j hj⟩
  · rintro ⟨h1, h3⟩
    exact ⟨h1, by have := dot_lt h1; simp; omega, fun j hj => by simpa using h3 j hj⟩
theorem fin_none {p : List UInt8} : fin p = none ↔ ∀ j, dot p j = false := by
  unfold fin
  rw [List.find?_range_eq_none]
  constructor
  · intro h j
    rcases Nat.lt_or_ge j p.length with hj | hj
    · simpa using h j hj
    · cases he : dot p j with
      | false => rfl
      | true => have := dot_lt he; omega
  · intro h j _
    simp [h j]
theorem fin_lt {p : List UInt8} {k : Nat} (h : fin p = some k) : k + 3 ≤ p.length := dot_lt (fin_some.1 h).1
theorem unL_le (p : List UInt8) : (unL p).length ≤ p.length := by
  unfold unL
  split
  · simp
  · rename_i k hk
    have := unTo_le p k
    have := fin_lt hk
    omega
theorem unN_le (p : List UInt8) : unN p ≤ p.length := by
  unfold unN
  split
  · simp
  · rename_i k hk; exact fin_lt hk
/-! ## line by line -/
theorem beg_zero (p : List UInt8) : beg p 0 = true := rfl
theorem beg_pos {p : List UInt8} {k : Nat} (h : 0 < k) : beg p k = true ↔ 2 ≤ k ∧ endsB p (k - 2) = true := by
  have : (k == 0) = false := by simp; omega
  simp [beg, this]
section
variable {p : List UInt8} {pos a : Nat}
/-- no line begins within a line -/
theorem beg_within (hb : beg p pos = true) (hf : ∀ j, j < a → endsB (p.drop pos) j = false) {j : Nat} (h1 : pos < j) (h2 : j < pos + a + 2) : beg p j = false := by
  cases he : beg p j with
  | false => rfl
  | true =>
    obtain ⟨h3, h4⟩ := (beg_pos (by omega)).1 he
    rcases Nat.lt_or_ge (j - 2) pos with h5 | h5
    · have hj : j = pos + 1 := by omega
      subst hj
      rcases Nat.eq_zero_or_pos pos with h6 | h6
      · omega
      · obtain ⟨h7, h8⟩ := (beg_pos h6).1 hb
        have e1 := (ends_iff.1 h4).1
        have e2 := (ends_iff.1 h8).2
        rw [show pos + 1 - 2 = pos - 2 + 1 by omega] at e1
        rw [e1] at e2
        cases e2
    · have := hf (j - 2 - pos) (by omega)
      rw [ends_drop, show pos + (j - 2 - pos) = j - 2 by omega] at this
      rw [this] at h4
      cases h4
theorem beg_next (h : fnd (p.drop pos) = some a) : beg p (pos + a + 2) = true := by
  rw [beg_pos (by omega)]
  refine ⟨by omega, ?_⟩
  have := (fnd_some.1 h).1
  rw [ends_drop] at this
  exact this
/-- is the line that begins here the last one? -/
theorem dot_here (hb : beg p pos = true) (h : fnd (p.drop pos) = some a) : dot p pos = true ↔ a = 1 ∧ p[pos]? = some 46 := by
  obtain ⟨h1, h2⟩ := fnd_some.1 h
  rw [dot_iff]
  constructor
  · rintro ⟨_, h3, h4⟩
    have h5 : endsB (p.drop pos) 1 = true := by rw [ends_drop]; exact h4
    have h6 : a ≤ 1 := by
      rcases Nat.lt_or_ge 1 a with h7 | h7
      · rw [h2 1 h7] at h5; cases h5
      · exact h7
    have h7 : a ≠ 0 := by
      rintro rfl
      rw [ends_drop] at h1
      have := (ends_iff.1 h1).1
      rw [Nat.add_zero, h3] at this
      cases this
    exact ⟨by omega, h3⟩
  · rintro ⟨rfl, h3⟩
    refine ⟨hb, h3, ?_⟩
    rw [ends_drop] at h1
    exact h1
theorem dot_within (hb : beg p pos = true) (h : fnd (p.drop pos) = some a) {j : Nat} (h1 : pos < j) (h2 : j < pos + a + 2) : dot p j = false := by
  cases he : dot p j with
  | false => rfl
  | true =>
    have := (dot_iff.1 he).1
    rw [beg_within hb (fnd_some.1 h).2 h1 h2] at this
    cases this
theorem unTo_plain : ∀ n, (∀ j, pos < j → j < pos + n → beg p j = false) → pos + n ≤ p.length → 0 < n →
    unTo p (pos + n) = unTo p pos ++ un1 p pos ++ (p.drop (pos + 1)).take (n - 1)
  | 0, _, _, h => by omega
  | 1, _, _, _ => by rw [unTo_succ]; simp
  | n + 2, hb, hl, _ => by
    rw [show pos + (n + 2) = pos + (n + 1) + 1 by omega, unTo_succ, unTo_plain (n + 1) (fun j h1 h2 => hb j h1 (by omega)) (by omega) (by omega), List.append_assoc, List.append_assoc, List.append_assoc]
    congr 2
    have h3 := hb (pos + (n + 1)) (by omega) (by omega)
    unfold un1
    rw [h3]
    simp only [Bool.false_eq_true, and_false, if_false]
    rw [show n + 2 - 1 = n + 1 by omega, show n + 1 - 1 = n by omega, List.take_add_one, List.getElem?_drop, show pos + 1 + n = pos + (n + 1) by omega]
/-- a line goes over: without its dot -/
theorem unTo_line (hb : beg p pos = true) (h : fnd (p.drop pos) = some a) : unTo p (pos + a + 2) = unTo p pos ++ (if p[pos]? = some 46 then ((p.drop pos).take (a + 2)).drop 1 else (p.drop pos).take (a + 2)) := by
  have hl := fnd_lt h
  rw [List.length_drop] at hl
  rw [show pos + a + 2 = pos + (a + 2) by omega, unTo_plain (a + 2) (fun j h1 h2 => beg_within hb (fnd_some.1 h).2 h1 (by omega)) (by omega) (by omega), List.append_assoc]
  congr 1
  have e : (p.drop pos).take (a + 2) = p[pos]'(by omega) :: (p.drop (pos + 1)).take (a + 1) := by
    rw [List.drop_eq_getElem_cons (by omega), List.take_succ_cons]
  have e2 : p[pos]? = some (p[pos]'(by omega)) := List.getElem?_eq_getElem (by omega)
  unfold un1
  rw [hb, e, show a + 2 - 1 = a + 1 by omega, e2]
  by_cases h46 : p[pos]'(by omega) = 46
  · simp [h46]
  · simp [h46]
theorem fin_no (hb : ∀ j, j < pos → dot p j = false) (h : fnd (p.drop pos) = none) : fin p = none := fin_none.2 fun j => by
  rcases Nat.lt_or_ge j pos with h1 | h1
  · exact hb j h1
  · cases he : dot p j with
    | false => rfl
    | true =>
      have h2 := (dot_iff.1 he).2.2
      have h3 := fnd_none.1 h (j + 1 - pos)
      rw [ends_drop, show pos + (j + 1 - pos) = j + 1 by omega] at h3
      rw [h3] at h2
      cases h2
end
/-! ## unstuff of stuff -/
/-- the body, with a line's end at its end -/
def whole (p : List UInt8) : List UInt8 := p ++ (if beg p p.length = true then [] else [13, 10])
theorem ends_append {p q : List UInt8} {k : Nat} (h : k + 1 < p.length) : endsB (p ++ q) k = endsB p k := by
  unfold endsB
  rw [List.getElem?_append_left (by omega), List.getElem?_append_left h]
theorem beg_append {p q : List UInt8} {k : Nat} (h : k ≤ p.length) : beg (p ++ q) k = beg p k := by
  rcases Nat.eq_zero_or_pos k with rfl | h0
  · rfl
  · rw [Bool.eq_iff_iff, beg_pos h0, beg_pos h0]
    constructor
    · rintro ⟨h1, h2⟩; exact ⟨h1, by rwa [ends_append (by omega)] at h2⟩
    · rintro ⟨h1, h2⟩; exact ⟨h1, by rwa [ends_append (by omega)]⟩
theorem stuff1_append {p q : List UInt8} {k : Nat} (h : k < p.length) : stuff1 (p ++ q) k = stuff1 p k := by
  unfold stuff1
  rw [beg_append (by omega), List.getElem?_append_left h]
theorem stuffTo_append {p q : List UInt8} : ∀ {k : Nat}, k ≤ p.length → stuffTo (p ++ q) k = stuffTo p k
  | 0, _ => rfl
  | k + 1, h => by rw [stuffTo_succ, stuffTo_succ, stuffTo_append (by omega), stuff1_append (by omega)]
theorem beg_whole (p : List UInt8) : beg (whole p) (whole p).length = true := by
  unfold whole
  by_cases h : beg p p.length = true
  · rw [if_pos h]; simpa using h
  · rw [if_neg h, beg_pos (by simp)]
    refine ⟨by simp, ?_⟩
    rw [ends_iff]
    simp
theorem stuffed_whole (p : List UInt8) : stuffed p = stuffTo (whole p) (whole p).length ++ [46, 13, 10] := by
  unfold stuffed
  congr 1
  by_cases h : beg p p.length = true
  · have e : whole p = p := by unfold whole; rw [if_pos h]; simp
    rw [if_pos h, e]; simp
  · have e : whole p = p ++ [13, 10] := by unfold whole; rw [if_neg h]
    have e1 : (p ++ [13, 10])[p.length]? = some 13 := by simp
    have e2 : (p ++ [13, 10])[p.length + 1]? = some 10 := by simp
    have e3 : (p ++ ([13, 10] : List UInt8)).length = p.length + 1 + 1 := by simp
    rw [if_neg h, e, e3, stuffTo_succ, stuffTo_succ, stuffTo_append (Nat.le_refl _)]
    unfold stuff1
    rw [e1, e2]
    simp
/-- the text that has the stuffed one at its beginning -/
structure Stf (q s : List UInt8) (k : Nat) : Prop where
  pre : ∃ r, s = stuffTo q k ++ r
  un : unTo s (stuffTo q k).length = q.take k
  beg : beg s (stuffTo q k).length = beg q k
  no : ∀ j, j < (stuffTo q k).length → dot s j = false
  last : 0 < k → 0 < (stuffTo q k).length ∧ s[(stuffTo q k).length - 1]? = q[k - 1]?
theorem stf {q s r : List UInt8} (hs : s = stuffTo q q.length ++ r) : ∀ k, k ≤ q.length → Stf q s k
  | 0, _ => ⟨⟨s, rfl⟩, rfl, rfl, fun j hj => by simp [stuffTo] at hj, fun h => by omega⟩
  | k + 1, hk => by
    obtain ⟨hpre, hun, hbeg, hno, hlast⟩ := stf hs k (by omega)
    have hq : q[k]? = some (q[k]'(by omega)) := List.getElem?_eq_getElem (by omega)
    generalize hc : q[k]'(by omega) = c at hq
    obtain ⟨r2, hpre2⟩ : ∃ r2, s = stuffTo q (k + 1) ++ r2 := by
      have h1 : ∀ n, k + 1 + n ≤ q.length → ∃ r2, stuffTo q (k + 1 + n) = stuffTo q (k + 1) ++ r2 := by
        intro n
        induction n with
        | zero => exact fun _ => ⟨[], by simp⟩
        | succ n ih =>
          intro h
          obtain ⟨r2, e⟩ := ih (by omega)
          exact ⟨r2 ++ stuff1 q (k + 1 + n), by rw [← Nat.add_assoc, stuffTo_succ, e, List.append_assoc]⟩
      obtain ⟨r2, e⟩ := h1 (q.length - (k + 1)) (by omega)
      rw [show k + 1 + (q.length - (k + 1)) = q.length by omega] at e
      exact ⟨r2 ++ r, by rw [hs, e, List.append_assoc]⟩
    have htake : q.take (k + 1) = q.take k ++ [c] := by rw [List.take_add_one, hq]; rfl
    have hsucc := stuffTo_succ q k
    have hget : ∀ j, j < (stuff1 q k).length → s[(stuffTo q k).length + j]? = (stuff1 q k)[j]? := by
      intro j hj
      rw [hpre2, hsucc, List.append_assoc, List.getElem?_append_right (by omega), show (stuffTo q k).length + j - (stuffTo q k).length = j by omega, List.getElem?_append_left hj]
    generalize hn : (stuffTo q k).length = n at *
    by_cases hd : c = 46 ∧ beg q k = true
    · obtain ⟨rfl, hd⟩ := hd
      have h1 : stuff1 q k = [46, 46] := by unfold stuff1; rw [hq, hd]; rfl
      rw [h1] at hget hsucc
      have g0 : s[n]? = some 46 := hget 0 (by simp)
      have g1 : s[n + 1]? = some 46 := hget 1 (by simp)
      have hlen : (stuffTo q (k + 1)).length = n + 2 := by rw [hsucc, List.length_append, hn]; rfl
      have hb1 : Proofs.Ytchokelpimibdaa.beg s (n + 1) = false := by
        cases he : Proofs.Ytchokelpimibdaa.beg s (n + 1) with
        | false => rfl
        | true =>
          obtain ⟨h2, h3⟩ := (beg_pos (by omega)).1 he
          have h4 := (ends_iff.1 h3).2
          rw [show n + 1 - 2 + 1 = n by omega, g0] at h4
          cases h4
      have hun1 : un1 s n = [] := by unfold un1; rw [g0, hbeg, hd]; rfl
      have hun2 : un1 s (n + 1) = [46] := by unfold un1; rw [g1, hb1]; rfl
      refine ⟨⟨r2, hpre2⟩, ?_, ?_, ?_, fun _ => ?_⟩
      · rw [hlen, show n + 2 = n + 1 + 1 from rfl, unTo_succ, unTo_succ, hun, hun1, hun2, htake]; simp
      · rw [hlen]
        have e1 : Proofs.Ytchokelpimibdaa.beg s (n + 2) = false := by
          cases he : Proofs.Ytchokelpimibdaa.beg s (n + 2) with
          | false => rfl
          | true =>
            obtain ⟨h2, h3⟩ := (beg_pos (by omega)).1 he
            have h4 := (ends_iff.1 h3).1
            rw [show n + 2 - 2 = n by omega, g0] at h4
            cases h4
        have e2 : Proofs.Ytchokelpimibdaa.beg q (k + 1) = false := by
          cases he : Proofs.Ytchokelpimibdaa.beg q (k + 1) with
          | false => rfl
          | true =>
            obtain ⟨h2, h3⟩ := (beg_pos (by omega)).1 he
            have h4 := (ends_iff.1 h3).2
            rw [show k + 1 - 2 + 1 = k by omega, hq] at h4
            cases h4
        rw [e1, e2]
      · rw [hlen]
        intro j hj
        rcases Nat.lt_or_ge j n with h2 | h2
        · exact hno j h2
        · cases he : dot s j with
          | false => rfl
          | true =>
            obtain ⟨h3, h4, h5⟩ := dot_iff.1 he
            rcases Nat.lt_or_ge n j with h6 | h6
            · rw [show j = n + 1 by omega, hb1] at h3; cases h3
            · have := (ends_iff.1 h5).1
              rw [show j + 1 = n + 1 by omega, g1] at this
              cases this
      · rw [hlen]
        exact ⟨by omega, by rw [show n + 2 - 1 = n + 1 by omega, g1, show k + 1 - 1 = k by omega, hq]⟩
    · have h1 : stuff1 q k = [c] := by
        unfold stuff1
        rw [hq, if_neg (by rintro ⟨h2, h3⟩; exact hd ⟨by simpa using h2, h3⟩)]
        rfl
      rw [h1] at hget hsucc
      have g0 : s[n]? = some c := hget 0 (by simp)
      have hlen : (stuffTo q (k + 1)).length = n + 1 := by rw [hsucc, List.length_append, hn]; rfl
      have hun1 : un1 s n = [c] := by
        unfold un1
        rw [g0, hbeg, if_neg (by rintro ⟨h2, h3⟩; exact hd ⟨by simpa using h2, h3⟩)]
        rfl
      refine ⟨⟨r2, hpre2⟩, ?_, ?_, ?_, fun _ => ?_⟩
      · rw [hlen, unTo_succ, hun, hun1, htake]
      · rw [hlen, Bool.eq_iff_iff, beg_pos (by omega), beg_pos (by omega)]
        rcases Nat.eq_zero_or_pos k with rfl | h0
        · have : n = 0 := by rw [← hn]; rfl
          subst this
          constructor <;> (rintro ⟨h2, _⟩; omega)
        · obtain ⟨h2, h3⟩ := hlast h0
          have e1 : s[n + 1 - 2]? = q[k + 1 - 2]? := by rw [show n + 1 - 2 = n - 1 by omega, show k + 1 - 2 = k - 1 by omega]; exact h3
          have e2 : s[n + 1 - 2 + 1]? = q[k + 1 - 2 + 1]? := by rw [show n + 1 - 2 + 1 = n by omega, show k + 1 - 2 + 1 = k by omega, g0, hq]
          rw [ends_iff, ends_iff, e1, e2]
          constructor
          · rintro ⟨_, h4⟩; exact ⟨by omega, h4⟩
          · rintro ⟨_, h4⟩; exact ⟨by omega, h4⟩
      · rw [hlen]
        intro j hj
        rcases Nat.lt_or_ge j n with h2 | h2
        · exact hno j h2
        · cases he : dot s j with
          | false => rfl
          | true =>
            obtain ⟨h3, h4, h5⟩ := dot_iff.1 he
            rw [show j = n by omega] at h3 h4
            rw [hbeg] at h3
            rw [g0] at h4
            exact absurd ⟨by simpa using h4, h3⟩ hd
      · rw [hlen]
        exact ⟨by omega, by rw [show n + 1 - 1 = n by omega, g0, show k + 1 - 1 = k by omega, hq]⟩
theorem un_stuffed (p behind : List UInt8) : unE (stuffed p ++ behind) = 0 ∧ unL (stuffed p ++ behind) = whole p ∧ unN (stuffed p ++ behind) = (stuffed p).length := by
  have hs : stuffed p ++ behind = stuffTo (whole p) (whole p).length ++ ([46, 13, 10] ++ behind) := by rw [stuffed_whole, List.append_assoc]
  have h := stf hs _ (Nat.le_refl _)
  have hb := h.beg
  rw [beg_whole] at hb
  have hf : fin (stuffed p ++ behind) = some (stuffTo (whole p) (whole p).length).length := by
    refine fin_some.2 ⟨dot_iff.2 ⟨hb, ?_, ends_iff.2 ⟨?_, ?_⟩⟩, h.no⟩
    · rw [hs, List.getElem?_append_right (Nat.le_refl _)]; simp
    · rw [hs, List.getElem?_append_right (by omega), show (stuffTo (whole p) (whole p).length).length + 1 - (stuffTo (whole p) (whole p).length).length = 1 by omega]; rfl
    · rw [hs, List.getElem?_append_right (by omega), show (stuffTo (whole p) (whole p).length).length + 1 + 1 - (stuffTo (whole p) (whole p).length).length = 2 by omega]; rfl
  refine ⟨by unfold unE; rw [hf], by unfold unL; rw [hf]; simp only; rw [h.un, List.take_length], by unfold unN; rw [hf, stuffed_whole]; simp⟩
end Go.Proofs.Ytchokelpimibdaa
