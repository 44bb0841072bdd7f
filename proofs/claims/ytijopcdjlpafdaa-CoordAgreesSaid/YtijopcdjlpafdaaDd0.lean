/- Plain laws: numbers as bytes, and parsers that undo what is put. No program. Conditions: the hypotheses of each theorem. -/
import Derived.Test.YtijopcdjlpafdaaLib
namespace Go.Proofs.Ytijopcdjlpafdaa
open Go.RowKit
abbrev By := List UInt8
/-- a number of n bytes -/
def beN : Nat → Nat → By
  | 0, _ => []
  | n + 1, v => UInt8.ofNat (v / 256 ^ n) :: beN n v
def valF (a : Nat) (l : By) : Nat := l.foldl (fun v c => v * 256 + c.toNat) a
def valB (l : By) : Nat := valF 0 l
@[simp] theorem beN_length : ∀ n v, (beN n v).length = n
  | 0, _ => rfl
  | n + 1, v => by rw [beN, List.length_cons, beN_length n v]
theorem valF_eq : ∀ (l : By) (a : Nat), valF a l = a * 256 ^ l.length + valB l
  | [], a => by simp [valF, valB]
  | c :: l, a => by
    have h1 := valF_eq l (a * 256 + c.toNat)
    have h2 := valF_eq l (0 * 256 + c.toNat)
    simp only [valB, valF, List.foldl_cons, List.length_cons] at h1 h2 ⊢
    rw [h1, h2, Nat.pow_succ, Nat.add_mul, Nat.add_mul, Nat.mul_assoc, Nat.mul_comm 256]
    omega
theorem valB_cons (c : UInt8) (l : By) : valB (c :: l) = c.toNat * 256 ^ l.length + valB l := by
  have := valF_eq l (0 * 256 + c.toNat)
  rw [Nat.zero_mul, Nat.zero_add] at this
  rw [← this]
  show valF (0 * 256 + c.toNat) l = _
  rw [Nat.zero_mul, Nat.zero_add]
theorem valB_lt : ∀ l : By, valB l < 256 ^ l.length
  | [] => by simp [valB, valF]
  | c :: l => by
    have h1 := valB_lt l
    have h2 := c.toNat_lt
    rw [valB_cons, List.length_cons, Nat.pow_succ]
    have : c.toNat * 256 ^ l.length ≤ 255 * 256 ^ l.length := Nat.mul_le_mul_right _ (by omega)
    omega
theorem valB_be : ∀ n v, valB (beN n v) = v % 256 ^ n
  | 0, v => by simp [beN, valB, valF, Nat.mod_one]
  | n + 1, v => by
    rw [beN, valB_cons, valB_be n v, beN_length]
    have e : (UInt8.ofNat (v / 256 ^ n)).toNat = v / 256 ^ n % 256 := by simp
    rw [e, Nat.pow_succ, Nat.mod_mul, Nat.mul_comm]
    omega
theorem be_valB : ∀ l : By, beN l.length (valB l) = l
  | [] => rfl
  | c :: l => by
    have hp : 0 < 256 ^ l.length := Nat.pow_pos (by omega)
    have hlt := valB_lt l
    have hmod : ∀ (n : Nat) (l' : By) (v w : Nat), v % 256 ^ n = w % 256 ^ n → beN n v = beN n w := by
      intro n
      induction n with
      | zero => intros; rfl
      | succ n ih =>
        intro l' v w h
        have h1 : v / 256 ^ n % 256 = w / 256 ^ n % 256 := by
          rw [Nat.pow_succ] at h
          rw [← Nat.mod_mul_right_div_self, ← Nat.mod_mul_right_div_self, h]
        have h2 : v % 256 ^ n = w % 256 ^ n := by
          have := congrArg (· % 256 ^ n) h
          simp only [Nat.pow_succ] at this
          rwa [Nat.mod_mul_right_mod, Nat.mod_mul_right_mod] at this
        rw [beN, beN, ih l' v w h2]
        congr 1
        apply UInt8.toNat_inj.1
        simpa using h1
    rw [List.length_cons, beN, valB_cons]
    have h1 : (c.toNat * 256 ^ l.length + valB l) / 256 ^ l.length = c.toNat := by
      rw [Nat.mul_comm, Nat.mul_add_div hp, Nat.div_eq_of_lt hlt, Nat.add_zero]
    rw [h1, hmod l.length l _ (valB l) (by rw [Nat.mul_comm, Nat.mul_add_mod]), be_valB l]
    simp
theorem beN_valF (n v : Nat) (h : v < 256 ^ n) : valB (beN n v) = v := by rw [valB_be, Nat.mod_eq_of_lt h]
def withinB (named : Bool) (n a b : Int) : Bool := if named = false then decide (n = 0) else decide (a ≤ n) && decide (n ≤ b)
/-! ## parsers -/
abbrev Prs (α : Type) := By → Nat ⊕ (α × By)
def pureP {α : Type} (a : α) : Prs α := fun l => .inr (a, l)
def andP {α β : Type} (p : Prs α) (f : α → Prs β) : Prs β := fun l => match p l with
  | .inl e => .inl e
  | .inr (a, r) => f a r
def takeP (n : Nat) : Prs By := fun l => if l.length < n then .inl 3 else .inr (l.take n, l.drop n)
def numP (n : Nat) : Prs Nat := fun l => if l.length < n then .inl 3 else .inr (valB (l.take n), l.drop n)
def shortP : Prs By := andP (numP 1) takeP
def longP : Prs By := andP (numP 2) takeP
def shortB (s : By) : By := beN 1 s.length ++ s
def longB (s : By) : By := beN 2 s.length ++ s
/-- n of them, behind some -/
def repA {α : Type} (p : Prs α) : Nat → List α → Prs (List α)
  | 0, acc => pureP acc
  | n + 1, acc => andP p fun a => repA p n (acc ++ [a])
structure Rt {α : Type} (p : Prs α) (bs : α → By) (ok : α → Prop) : Prop where
  put : ∀ a r, ok a → p (bs a ++ r) = .inr (a, r)
  got : ∀ l a r, p l = .inr (a, r) → l = bs a ++ r ∧ ok a
theorem Rt.pure {α : Type} (a : α) : Rt (pureP a) (fun _ => []) (fun b => b = a) :=
  ⟨fun b r h => by subst h; rfl, fun l b r h => by simp only [pureP, Sum.inr.injEq, Prod.mk.injEq] at h; exact ⟨h.2, h.1.symm⟩⟩
theorem Rt.congr {α : Type} {p : Prs α} {put : α → By} {ok ok' : α → Prop} (h : Rt p put ok) (e : ∀ a, ok' a ↔ ok a) : Rt p put ok' :=
  ⟨fun a r ha => h.put a r ((e a).1 ha), fun l a r hl => ⟨(h.got l a r hl).1, (e a).2 (h.got l a r hl).2⟩⟩
theorem andP_inr {α β : Type} {p : Prs α} {f : α → Prs β} {l r : By} {b : β} (h : andP p f l = .inr (b, r)) : ∃ a l1, p l = .inr (a, l1) ∧ f a l1 = .inr (b, r) := by
  unfold andP at h
  cases hpl : p l with
  | inl e => rw [hpl] at h; cases h
  | inr q => rw [hpl] at h; exact ⟨q.1, q.2, rfl, h⟩
theorem andP_put {α β : Type} {p : Prs α} {f : α → Prs β} {l l1 : By} {a : α} (h : p l = .inr (a, l1)) : andP p f l = f a l1 := by
  unfold andP
  rw [h]
theorem pureP_inr {α : Type} {a b : α} {l r : By} (h : pureP a l = .inr (b, r)) : b = a ∧ l = r := by
  simp only [pureP, Sum.inr.injEq, Prod.mk.injEq] at h
  exact ⟨h.1.symm, h.2⟩
theorem Rt.num (n : Nat) : Rt (numP n) (beN n) (fun v => v < 256 ^ n) := by
  constructor
  · intro v r h
    unfold numP
    rw [if_neg (by simp), List.take_left' (by simp), List.drop_left' (by simp), beN_valF n v h]
  · intro l v r h
    unfold numP at h
    split at h
    · cases h
    · rename_i hl
      simp only [Sum.inr.injEq, Prod.mk.injEq] at h
      obtain ⟨rfl, rfl⟩ := h
      have hn : (l.take n).length = n := by rw [List.length_take]; omega
      have h1 := be_valB (l.take n)
      have h2 := valB_lt (l.take n)
      rw [hn] at h1 h2
      exact ⟨by rw [h1, List.take_append_drop], h2⟩
theorem takeP_got {n : Nat} {l s r : By} (h : takeP n l = .inr (s, r)) : l = s ++ r ∧ s.length = n := by
  unfold takeP at h
  split at h
  · cases h
  · simp only [Sum.inr.injEq, Prod.mk.injEq] at h
    obtain ⟨rfl, rfl⟩ := h
    exact ⟨(List.take_append_drop _ _).symm, by rw [List.length_take]; omega⟩
theorem takeP_put (s r : By) : takeP s.length (s ++ r) = .inr (s, r) := by
  unfold takeP
  rw [if_neg (by simp), List.take_left, List.drop_left]
theorem Rt.run (n : Nat) : Rt (andP (numP n) takeP) (fun s => beN n s.length ++ s) (fun s => s.length < 256 ^ n) := by
  constructor
  · intro s r h
    rw [List.append_assoc, andP_put ((Rt.num n).put _ _ h), takeP_put]
  · intro l s r h
    obtain ⟨k, l1, h1, h2⟩ := andP_inr h
    obtain ⟨h3, h4⟩ := takeP_got h2
    obtain ⟨h5, h6⟩ := (Rt.num n).got _ _ _ h1
    subst h4
    exact ⟨by rw [h5, h3, List.append_assoc], h6⟩
theorem Rt.short : Rt shortP shortB (fun s => s.length < 256) := (Rt.run 1).congr fun s => by simp
theorem Rt.long : Rt longP longB (fun s => s.length < 65536) := (Rt.run 2).congr fun s => by simp
theorem repA_acc {α : Type} (p : Prs α) : ∀ (n : Nat) (acc : List α) (l : By), repA p n acc l = match repA p n [] l with | .inl e => .inl e | .inr (as, r) => .inr (acc ++ as, r)
  | 0, acc, l => by simp [repA, pureP]
  | n + 1, acc, l => by
    unfold repA andP
    cases p l with
    | inl e => rfl
    | inr q =>
      obtain ⟨a, r⟩ := q
      simp only
      rw [repA_acc p n (acc ++ [a]) r, repA_acc p n ([] ++ [a]) r]
      cases repA p n [] r with
      | inl e => rfl
      | inr q => simp
theorem Rt.rep {α : Type} {p : Prs α} {put : α → By} {ok : α → Prop} (hp : Rt p put ok) : ∀ n, Rt (repA p n []) (fun as => as.flatMap put) (fun as => (∀ a ∈ as, ok a) ∧ as.length = n)
  | 0 => ⟨fun as r h => by
      have : as = [] := List.eq_nil_of_length_eq_zero h.2
      subst this; rfl, fun l as r h => by
      simp only [repA, pureP, Sum.inr.injEq, Prod.mk.injEq] at h
      obtain ⟨rfl, rfl⟩ := h
      exact ⟨rfl, by simp, rfl⟩⟩
  | n + 1 => by
    have ih := Rt.rep hp n
    constructor
    · rintro as r ⟨h1, h2⟩
      match as, h2 with
      | a :: as, h2 =>
        unfold repA andP
        simp only [List.flatMap_cons, List.append_assoc]
        rw [hp.put a _ (h1 a (by simp))]
        simp only [List.nil_append]
        rw [repA_acc, ih.put as r ⟨fun x hx => h1 x (List.mem_cons_of_mem _ hx), by simpa using h2⟩]
        rfl
    · intro l as r h
      unfold repA andP at h
      cases hpl : p l with
      | inl e => rw [hpl] at h; cases h
      | inr q =>
        obtain ⟨a, l1⟩ := q
        rw [hpl] at h
        simp only [List.nil_append] at h
        rw [repA_acc] at h
        cases hr : repA p n [] l1 with
        | inl e => rw [hr] at h; cases h
        | inr q =>
          obtain ⟨as', r'⟩ := q
          rw [hr] at h
          simp only [Sum.inr.injEq, Prod.mk.injEq] at h
          obtain ⟨rfl, rfl⟩ := h
          obtain ⟨h1, h2⟩ := hp.got l a l1 hpl
          obtain ⟨h3, h4, h5⟩ := ih.got l1 as' r' hr
          refine ⟨by rw [h1, h3]; simp, ?_, by simp [h5]⟩
          intro x hx
          simp only [List.singleton_append, List.mem_cons] at hx
          rcases hx with rfl | hx
          · exact h2
          · exact h4 x hx
end Go.Proofs.Ytijopcdjlpafdaa
