/- What is read, as functions of what there is to be read: numbers, texts, letters, boxes, users, deeds. Plain laws; conditions: the hypotheses of each theorem. -/
import Derived.Test.YthlppbbejdeeoaaCut
import Derived.Test.YthlppbbejdeeoaaDd13
namespace Go.Proofs.Ythlppbbejdeeoaa
open Go.RowKit
structure Sim {α : Type} (p : Prs α) (Q : Option By → Option By) (V : Option By → α) : Prop where
  no : Q none = none
  go : ∀ l, p l = match Q (some l) with | none => .inl 3 | some r => .inr (V (some l), r)
theorem Sim.num (n : Nat) : Sim (numP n) (cutQ n) (fun q => valB (cutV n q)) := ⟨rfl, fun l => by
  unfold numP cutQ cutV
  by_cases h : l.length < n <;> simp [h]⟩
theorem Sim.take (n : Nat) : Sim (takeP n) (cutQ n) (cutV n) := ⟨rfl, fun l => by
  unfold takeP cutQ cutV
  by_cases h : l.length < n <;> simp [h]⟩
theorem Sim.pure {α : Type} (a : α) : Sim (pureP a) (fun q => q) (fun _ => a) := ⟨rfl, fun _ => rfl⟩
theorem Sim.and {α β : Type} {p : Prs α} {f : α → Prs β} {Q : Option By → Option By} {V : Option By → α} {Q2 : α → Option By → Option By} {V2 : α → Option By → β} (h : Sim p Q V) (hf : ∀ a, Sim (f a) (Q2 a) (V2 a)) :
    Sim (andP p f) (fun q => Q2 (V q) (Q q)) (fun q => V2 (V q) (Q q)) := by
  refine ⟨by simp only [h.no]; exact (hf _).no, fun l => ?_⟩
  unfold andP
  rw [h.go l]
  cases hq : Q (some l) with
  | none => simp only [(hf _).no]
  | some r => exact (hf _).go r
def repQ (Q : Option By → Option By) : Nat → Option By → Option By
  | 0, q => q
  | _ + 1, none => none
  | n + 1, some l => repQ Q n (Q (some l))
def repV {α : Type} (Q : Option By → Option By) (V : Option By → α) : Nat → Option By → List α
  | 0, _ => []
  | _ + 1, none => []
  | n + 1, some l => V (some l) :: repV Q V n (Q (some l))
theorem repQ_none (Q : Option By → Option By) (n : Nat) : repQ Q n none = none := by cases n <;> rfl
theorem repV_none {α : Type} (Q : Option By → Option By) (V : Option By → α) (n : Nat) : repV Q V n none = [] := by cases n <;> rfl
theorem repV_le {α : Type} (Q : Option By → Option By) (V : Option By → α) : ∀ (n : Nat) (q : Option By), (repV Q V n q).length ≤ n
  | 0, _ => by simp [repV]
  | _ + 1, none => by simp [repV]
  | n + 1, some l => by simp only [repV, List.length_cons]; have := repV_le Q V n (Q (some l)); omega
theorem Sim.rep {α : Type} {p : Prs α} {Q : Option By → Option By} {V : Option By → α} (h : Sim p Q V) (n : Nat) : Sim (repA p n []) (repQ Q n) (repV Q V n) := by
  refine ⟨repQ_none Q n, ?_⟩
  induction n with
  | zero => intro l; rfl
  | succ n ih =>
    intro l
    unfold repA andP
    rw [h.go l]
    simp only [repQ, repV]
    cases hq : Q (some l) with
    | none => simp only [repQ_none]
    | some r =>
      simp only
      rw [repA_acc, ih r]
      cases repQ Q n (some r) <;> simp
/-! ## letters, boxes, users -/
def shQ (q : Option By) : Option By := cutQ (valB (cutV 1 q)) (cutQ 1 q)
def shV (q : Option By) : By := cutV (valB (cutV 1 q)) (cutQ 1 q)
def loQ (q : Option By) : Option By := cutQ (valB (cutV 2 q)) (cutQ 2 q)
def loV (q : Option By) : By := cutV (valB (cutV 2 q)) (cutQ 2 q)
theorem Sim.short : Sim shortP shQ shV := (Sim.num 1).and fun a => Sim.take a
theorem Sim.long : Sim longP loQ loV := (Sim.num 2).and fun a => Sim.take a
def letQ (q : Option By) : Option By := loQ (cutQ 1 (cutQ 4 q))
def letV (q : Option By) : Lt := ⟨(valB (cutV 4 q) : Nat), UInt8.ofNat (valB (cutV 1 (cutQ 4 q))), loV (cutQ 1 (cutQ 4 q))⟩
theorem Sim.letter : Sim letP letQ letV := (Sim.num 4).and fun _ => (Sim.num 1).and fun _ => Sim.long.and fun _ => Sim.pure _
def boxQ4 (q : Option By) : Option By := cutQ 4 (cutQ 4 (shQ q))
def boxQ (q : Option By) : Option By := repQ letQ (valB (cutV 1 (boxQ4 q))) (cutQ 1 (boxQ4 q))
def boxV (q : Option By) : Bx := ⟨shV q, (valB (cutV 4 (shQ q)) : Nat), (valB (cutV 4 (cutQ 4 (shQ q))) : Nat), repV letQ letV (valB (cutV 1 (boxQ4 q))) (cutQ 1 (boxQ4 q))⟩
theorem Sim.box : Sim boxP boxQ boxV := Sim.short.and fun _ => (Sim.num 4).and fun _ => (Sim.num 4).and fun _ => (Sim.num 1).and fun m => (Sim.letter.rep m).and fun _ => Sim.pure _
def usrQ1 (q : Option By) : Option By := cutQ 4 (shQ q)
def usrQ (q : Option By) : Option By := repQ boxQ (valB (cutV 1 (usrQ1 q))) (cutQ 1 (usrQ1 q))
def usrV (q : Option By) : Us := ⟨shV q, (valB (cutV 4 (shQ q)) : Nat), repV boxQ boxV (valB (cutV 1 (usrQ1 q))) (cutQ 1 (usrQ1 q))⟩
theorem Sim.user : Sim userP usrQ usrV := Sim.short.and fun _ => (Sim.num 4).and fun _ => (Sim.num 1).and fun m => (Sim.box.rep m).and fun _ => Sim.pure _
theorem takeUs_sim (l : By) : takeUs l = match usrQ (some l) with
    | none => .inl 3
    | some r => if r = [] then (if checkU (usrV (some l)) ≠ 0 then .inl (checkU (usrV (some l))) else .inr (usrV (some l))) else .inl 4 := by
  unfold takeUs readP
  rw [Sim.user.go l]
  cases usrQ (some l) with
  | none => rfl
  | some r =>
    simp only
    by_cases h : r = [] <;> simp [h]
/-! ## deeds -/
def dedQ0 (q : Option By) : Option By := shQ (shQ (shQ (cutQ 1 q)))
def dedQ (q : Option By) : Option By := loQ (cutQ 4 (cutQ 1 (cutQ 1 (cutQ 1 (cutQ 4 (dedQ0 q))))))
def dedV (q : Option By) : Dd := ⟨(valB (cutV 1 q) : Nat), shV (cutQ 1 q), shV (shQ (cutQ 1 q)), shV (shQ (shQ (cutQ 1 q))), (valB (cutV 4 (dedQ0 q)) : Nat), (valB (cutV 1 (cutQ 4 (dedQ0 q))) : Nat),
  UInt8.ofNat (valB (cutV 1 (cutQ 1 (cutQ 4 (dedQ0 q))))), (valB (cutV 1 (cutQ 1 (cutQ 1 (cutQ 4 (dedQ0 q))))) : Nat), (valB (cutV 4 (cutQ 1 (cutQ 1 (cutQ 1 (cutQ 4 (dedQ0 q)))))) : Nat), loV (cutQ 4 (cutQ 1 (cutQ 1 (cutQ 1 (cutQ 4 (dedQ0 q))))))⟩
theorem Sim.deed : Sim deedP dedQ dedV := (Sim.num 1).and fun _ => Sim.short.and fun _ => Sim.short.and fun _ => Sim.short.and fun _ => (Sim.num 4).and fun _ => (Sim.num 1).and fun _ => (Sim.num 1).and fun _ => (Sim.num 1).and fun _ => (Sim.num 4).and fun _ => Sim.long.and fun _ => Sim.pure _
theorem valB_cut (n : Nat) (q : Option By) : valB (cutV n q) < 256 ^ n := Nat.lt_of_lt_of_le (valB_lt _) (Nat.pow_le_pow_right (by omega) (cutV_le n q))
theorem takeAllT_sim (l : By) : takeAllT l = if 1800 < l.length then .inl 6 else
    match cutQ 1 (some l) with
    | none => .inl 3
    | some r => if ¬ (1 ≤ valB (cutV 1 (some l)) ∧ valB (cutV 1 (some l)) ≤ 12) then .inl 4 else
      match repQ dedQ (valB (cutV 1 (some l))) (some r) with
      | none => .inl 3
      | some r2 => if r2 = [] then (if firstC (repV dedQ dedV (valB (cutV 1 (some l))) (some r)) ≠ 0 then .inl (firstC (repV dedQ dedV (valB (cutV 1 (some l))) (some r))) else .inr (repV dedQ dedV (valB (cutV 1 (some l))) (some r))) else .inl 4 := by
  unfold takeAllT
  by_cases h : 1800 < l.length
  · rw [if_pos h, if_pos h]
  · rw [if_neg h, if_neg h]
    unfold readP allP
    conv => lhs; unfold andP
    rw [(Sim.num 1).go l]
    cases hq : cutQ 1 (some l) with
    | none => rfl
    | some r =>
      simp only
      generalize valB (cutV 1 (some l)) = n
      unfold mustP
      by_cases hn : 1 ≤ n ∧ n ≤ 12
      · simp only [hn.1, hn.2, decide_true, Bool.and_self, if_true]
        rw [(Sim.deed.rep n).go r]
        cases repQ dedQ n (some r) with
        | none => simp
        | some r2 => by_cases h2 : r2 = [] <;> simp [h2]
      · have e : (decide (1 ≤ n) && decide (n ≤ 12)) = false := by
          by_cases a : 1 ≤ n <;> by_cases b : n ≤ 12 <;> simp [a, b]; exact absurd ⟨a, b⟩ hn
        rw [e]
        simp [hn]
end Go.Proofs.Ythlppbbejdeeoaa
