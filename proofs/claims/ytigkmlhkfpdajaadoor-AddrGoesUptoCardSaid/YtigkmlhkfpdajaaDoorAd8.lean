/- Plain laws: parse of print is the address; what is taken is printed, and taken again. Conditions: the hypotheses of each theorem. -/
import Derived.Test.YtigkmlhkfpdajaaDoorAd4
import Derived.Test.YtigkmlhkfpdajaaDoorAd7
import Derived.Test.YtigkmlhkfpdajaaDoorText15
namespace Go.Proofs.YtigkmlhkfpdajaaDoor
open Go.RowKit
def prn (l : List UInt8) : Prop := ∀ b ∈ l, 32 ≤ b.toNat ∧ b.toNat ≤ 126
def asc (l : List UInt8) : List (Nat × List UInt8) := l.map fun b => (b.toNat, [b])
theorem asc_length (l : List UInt8) : (asc l).length = l.length := by simp [asc]
theorem asc_bytes (l : List UInt8) : (asc l).flatMap (fun d => d.2) = l := by
  induction l with
  | nil => rfl
  | cons b l ih => simp only [asc, List.map_cons, List.flatMap_cons] at ih ⊢; rw [ih]; rfl
theorem letL_prn (r : List UInt8) : ∀ (lo : List UInt8), (∀ b ∈ lo, b.toNat < 128) → letL (lo ++ r) = asc lo ++ letL r
  | [], _ => rfl
  | b :: lo, h => by
    rw [List.cons_append, letL_asc b _ (h b (by simp)), letL_prn r lo fun x hx => h x (List.mem_cons_of_mem _ hx)]
    rfl
theorem letL_all (lo : List UInt8) (h : ∀ b ∈ lo, b.toNat < 128) : letL lo = asc lo := by
  have := letL_prn [] lo h
  rw [List.append_nil, letL_nil, List.append_nil] at this
  exact this
theorem prn.asc {lo : List UInt8} (h : prn lo) : ∀ b ∈ lo, b.toNat < 128 := fun b hb => by have := h b hb; omega
theorem runE_asc : ∀ c, c < 128 → runE c = [UInt8.ofNat c] := by decide +kernel
/-- a letter below 128 is one byte -/
theorem letOk_asc {d : Nat × List UInt8} (h : letOk d) (h1 : d.1 < 128) : d = ((UInt8.ofNat d.1).toNat, [UInt8.ofNat d.1]) := by
  obtain ⟨c, b⟩ := d
  simp only at h1
  rcases h with ⟨h, _⟩ | ⟨_, h⟩
  · simp only at h; omega
  · simp only at h
    rw [runE_asc c h1] at h
    rw [h]
    simp only [Prod.mk.injEq, and_true]
    simp
    omega
theorem all_asc : ∀ (ds : List (Nat × List UInt8)), (∀ d ∈ ds, letOk d) → (∀ d ∈ ds, d.1 < 128) → ds = asc (ds.flatMap fun d => d.2) ∧ ∀ b ∈ ds.flatMap (fun d => d.2), b.toNat < 128
  | [], _, _ => ⟨rfl, by simp⟩
  | d :: ds, h, h1 => by
    obtain ⟨i1, i2⟩ := all_asc ds (fun x hx => h x (List.mem_cons_of_mem _ hx)) (fun x hx => h1 x (List.mem_cons_of_mem _ hx))
    have hd := letOk_asc (h d (by simp)) (h1 d (by simp))
    have hlt := h1 d (by simp)
    constructor
    · rw [List.flatMap_cons, hd]
      conv => lhs; rw [i1]
      rfl
    · intro b hb
      rw [List.flatMap_cons, List.mem_append] at hb
      rcases hb with hb | hb
      · rw [hd] at hb
        simp only [List.mem_singleton] at hb
        subst hb
        simp
        omega
      · exact i2 b hb
theorem prn_of {lo : List UInt8} (h : (letL lo).any badLet = false) : prn lo := by
  have hok := letL_ok _ lo (Nat.le_refl _)
  have hb : ∀ d ∈ letL lo, 32 ≤ d.1 ∧ d.1 ≤ 126 := by
    intro d hd
    have := List.any_eq_false.1 h d hd
    simp only [badLet, decide_eq_true_eq] at this
    omega
  obtain ⟨h1, h2⟩ := all_asc (letL lo) hok (fun d hd => by have := hb d hd; omega)
  rw [let_bytes _ lo (Nat.le_refl _)] at h1
  intro b hb'
  have : (b.toNat, [b]) ∈ letL lo := by rw [h1]; exact List.mem_map.2 ⟨b, hb', rfl⟩
  exact hb _ this
theorem of_prn {lo : List UInt8} (h : prn lo) : (letL lo).any badLet = false := by
  rw [letL_all lo h.asc, List.any_eq_false]
  intro d hd
  obtain ⟨b, hb, rfl⟩ := List.mem_map.1 hd
  have := h b hb
  simp only [badLet, decide_eq_true_eq]
  omega
/-! ## runs -/
def run1 : List (Nat × List UInt8) → Nat → Nat → Option (Nat × Nat)
  | [], s, n => some (s, n)
  | (c, _) :: ds, s, n => if (nextS s c n).2 = false then none else run1 ds (nextS s c n).1 (if (nextS s c n).1 = 6 then 0 else n + 1)
theorem runF_ok : ∀ (ds : List (Nat × List UInt8)) (s n pl k pos s' n' : Nat), run1 ds s n = some (s', n') → runF ds s n pl (some k) pos = .inr (s', pl + ds.length, some k)
  | [], s, n, pl, k, pos, s', n', h => by
    simp only [run1, Option.some.injEq, Prod.mk.injEq] at h
    obtain ⟨rfl, rfl⟩ := h
    rfl
  | (c, b) :: ds, s, n, pl, k, pos, s', n', h => by
    unfold run1 at h
    split at h
    · cases h
    · rename_i hn
      unfold runF
      rw [if_neg hn, if_neg (show ¬ ((nextS s c n).1 = 6 ∧ (some k : Option Nat) = none) by simp), runF_ok ds _ _ _ _ _ _ _ h, List.length_cons]
      congr 3
      omega
theorem runF_ok' : ∀ (ds : List (Nat × List UInt8)) (s n pl k pos s' pl' : Nat) (a : Option Nat), runF ds s n pl (some k) pos = .inr (s', pl', a) → (∃ n', run1 ds s n = some (s', n')) ∧ a = some k
  | [], s, n, pl, k, pos, s', pl', a, h => by
    simp only [runF, Sum.inr.injEq, Prod.mk.injEq] at h
    obtain ⟨rfl, rfl, rfl⟩ := h
    exact ⟨⟨n, rfl⟩, rfl⟩
  | (c, b) :: ds, s, n, pl, k, pos, s', pl', a, h => by
    unfold runF at h
    split at h
    · cases h
    · rename_i hn
      rw [if_neg (show ¬ ((nextS s c n).1 = 6 ∧ (some k : Option Nat) = none) by simp)] at h
      obtain ⟨⟨n', h1⟩, h2⟩ := runF_ok' ds _ _ _ _ _ _ _ _ h
      exact ⟨⟨n', by unfold run1; rw [if_neg hn]; exact h1⟩, h2⟩
theorem nextS_n {s : Nat} (c n : Nat) (h : s ≤ 3) : nextS s c n = nextS s c 0 := by
  have : s = 0 ∨ s = 1 ∨ s = 2 ∨ s = 3 := by omega
  rcases this with rfl | rfl | rfl | rfl <;> simp [nextS]
theorem nextS_2 {s : Nat} (c : Nat) (h : s ≤ 2) (h6 : (nextS s c 0).1 ≠ 6) : (nextS s c 0).1 ≤ 2 := by
  have : s = 0 ∨ s = 1 ∨ s = 2 := by omega
  rcases this with rfl | rfl | rfl
  · simp [nextS]
  · unfold nextS at h6 ⊢
    by_cases h1 : c = 46
    · simp [h1]
    · by_cases h2 : c = 64
      · simp [h2] at h6
      · simp [h1, h2]
  · simp [nextS]
theorem nextS_6 {s c : Nat} (h : s ≤ 2) (h6 : (nextS s c 0).1 = 6) : s = 1 ∧ c = 64 := by
  have : s = 0 ∨ s = 1 ∨ s = 2 := by omega
  rcases this with rfl | rfl | rfl
  · simp [nextS] at h6
  · unfold nextS at h6
    by_cases h1 : c = 46
    · simp [h1] at h6
    · by_cases h2 : c = 64
      · exact ⟨rfl, h2⟩
      · simp [h1, h2] at h6
  · simp [nextS] at h6
theorem runF_bare (r : List (Nat × List UInt8)) : ∀ (ds : List (Nat × List UInt8)) (s n pl pos : Nat), s ≤ 2 → bareF ds s = true → runF (ds ++ r) s n pl none pos = runF r 1 (n + ds.length) (pl + ds.length) none (pos + (ds.flatMap fun d => d.2).length)
  | [], s, n, pl, pos, _, h => by
    simp only [bareF, decide_eq_true_eq] at h
    subst h
    rfl
  | (c, b) :: ds, s, n, pl, pos, hs, h => by
    unfold bareF at h
    split at h
    · cases h
    · rename_i hn
      rw [List.cons_append]
      conv => lhs; unfold runF
      rw [nextS_n c n (by omega), if_neg (fun h => hn (.inl h)), if_neg (fun h => hn (.inr h)), if_neg (fun h => hn (.inr h.1)), runF_bare r ds _ _ _ _ (nextS_2 c hs (fun h => hn (.inr h))) h]
      simp only [List.length_cons, List.flatMap_cons, List.length_append]
      congr 1 <;> omega
theorem runF_split : ∀ (ds : List (Nat × List UInt8)) (s n pl pos s' pl' : Nat) (a' : Option Nat), s ≤ 2 → 2 < s' → runF ds s n pl none pos = .inr (s', pl', a') →
    ∃ ds1 b ds2, ds = ds1 ++ (64, b) :: ds2 ∧ bareF ds1 s = true ∧ a' = some (pos + (ds1.flatMap fun d => d.2).length) ∧ ∃ n', run1 ds2 6 0 = some (s', n')
  | [], s, n, pl, pos, s', pl', a', hs, hs', h => by
    simp only [runF, Sum.inr.injEq, Prod.mk.injEq] at h
    omega
  | (c, b) :: ds, s, n, pl, pos, s', pl', a', hs, hs', h => by
    unfold runF at h
    rw [nextS_n c n (by omega)] at h
    split at h
    · cases h
    · rename_i hn
      by_cases h6 : (nextS s c 0).1 = 6
      · obtain ⟨rfl, rfl⟩ := nextS_6 hs h6
        rw [if_pos h6, if_pos ⟨h6, rfl⟩, h6] at h
        obtain ⟨h1, h2⟩ := runF_ok' _ _ _ _ _ _ _ _ _ h
        exact ⟨[], b, ds, rfl, rfl, h2, h1⟩
      · rw [if_neg h6, if_neg (fun h => h6 h.1)] at h
        obtain ⟨ds1, b1, ds2, e1, e2, e3, e4⟩ := runF_split ds _ _ _ _ _ _ _ (nextS_2 c hs h6) hs' h
        refine ⟨(c, b) :: ds1, b1, ds2, by rw [e1]; rfl, ?_, ?_, e4⟩
        · unfold bareF
          rw [if_neg (by rintro (h | h); exact hn h; exact h6 h)]
          exact e2
        · rw [e3, List.flatMap_cons, List.length_append]
          congr 1
          simp only
          omega
theorem localB_asc {c : Nat} (h : localB c = true) : 32 ≤ c ∧ c ≤ 126 := by
  unfold localB alnumB at h
  simp only [Bool.or_eq_true, decide_eq_true_eq, Bool.and_eq_true] at h
  omega
theorem bare_asc : ∀ (ds : List (Nat × List UInt8)) (s : Nat), s ≤ 2 → bareF ds s = true → ∀ d ∈ ds, localB d.1 = true ∨ d.1 = 46
  | [], _, _, _ => by simp
  | (c, b) :: ds, s, hs, h => by
    unfold bareF at h
    split at h
    · cases h
    · rename_i hn
      have h6 : (nextS s c 0).1 ≠ 6 := fun h => hn (.inr h)
      have ht : (nextS s c 0).2 = true := by simpa using fun h => hn (.inl h)
      intro d hd
      rw [List.mem_cons] at hd
      rcases hd with rfl | hd
      · have : s = 0 ∨ s = 1 ∨ s = 2 := by omega
        rcases this with rfl | rfl | rfl
        · exact .inl (by simpa [nextS] using ht)
        · unfold nextS at ht h6
          by_cases h1 : c = 46
          · exact .inr h1
          · by_cases h2 : c = 64
            · simp [h2] at h6
            · exact .inl (by simpa [h1, h2] using ht)
        · exact .inl (by simpa [nextS] using ht)
      · exact bare_asc ds _ (nextS_2 c hs h6) h d hd
def domC (c : Nat) : Bool := alnumB c || decide (c = 45 ∨ c = 46)
theorem nextS_dom {s c n : Nat} (hs : 4 ≤ s ∧ s ≤ 6) (h : (nextS s c n).2 = true) : domC c = true ∧ 4 ≤ (nextS s c n).1 ∧ (nextS s c n).1 ≤ 6 := by
  have : s = 4 ∨ s = 5 ∨ s = 6 := by omega
  unfold domC
  rcases this with rfl | rfl | rfl
  · unfold nextS at h ⊢
    by_cases h1 : c = 46
    · simp [h1]
    · by_cases h2 : c = 45
      · simp [h2]
      · simp [h1, h2] at h ⊢; exact h.1
  · unfold nextS at h ⊢
    by_cases h1 : c = 46
    · simp [h1]
    · by_cases h2 : c = 45
      · simp [h2]
      · simp [h1, h2] at h ⊢; exact h.1
  · unfold nextS at h ⊢
    simp at h ⊢
    exact .inl h
theorem run1_dom : ∀ (ds : List (Nat × List UInt8)) (s n s' n' : Nat), 4 ≤ s ∧ s ≤ 6 → run1 ds s n = some (s', n') → ∀ d ∈ ds, domC d.1 = true
  | [], _, _, _, _, _, _ => by simp
  | (c, b) :: ds, s, n, s', n', hs, h => by
    unfold run1 at h
    split at h
    · cases h
    · rename_i hn
      obtain ⟨h1, h2⟩ := nextS_dom hs (by simpa using hn)
      intro d hd
      rw [List.mem_cons] at hd
      rcases hd with rfl | hd
      · exact h1
      · exact run1_dom ds _ _ _ _ h2 h d hd
theorem domC_asc {c : Nat} (h : domC c = true) : c < 128 ∧ c ≠ 62 ∧ c ≠ 64 := by
  unfold domC alnumB at h
  simp only [Bool.or_eq_true, decide_eq_true_eq] at h
  omega
theorem low_dom (b : UInt8) : (lowB b).toNat < 256 ∧ alnumB (lowB b).toNat = alnumB b.toNat ∧ ((lowB b).toNat = 45 ↔ b.toNat = 45) ∧ ((lowB b).toNat = 46 ↔ b.toNat = 46) ∧ lowB (lowB b) = lowB b ∧ (b.toNat < 128 → (lowB b).toNat < 128) := by
  have h : ∀ n : Fin 256, (fun b : UInt8 => (lowB b).toNat < 256 ∧ alnumB (lowB b).toNat = alnumB b.toNat ∧ ((lowB b).toNat = 45 ↔ b.toNat = 45) ∧ ((lowB b).toNat = 46 ↔ b.toNat = 46) ∧ lowB (lowB b) = lowB b ∧ (b.toNat < 128 → (lowB b).toNat < 128)) (UInt8.ofNat n.val) := by decide +kernel
  have := h ⟨b.toNat, b.toNat_lt⟩
  simpa using this
theorem lowL_idem (l : List UInt8) : lowL (lowL l) = lowL l := by
  unfold lowL
  rw [List.map_map]
  exact List.map_congr_left fun b _ => (low_dom b).2.2.2.2.1
theorem nextS_low {s n : Nat} (b : UInt8) (hs : 4 ≤ s ∧ s ≤ 6) : nextS s (lowB b).toNat n = nextS s b.toNat n := by
  obtain ⟨_, h1, h2, h3, _⟩ := low_dom b
  have : s = 4 ∨ s = 5 ∨ s = 6 := by omega
  unfold nextS
  rcases this with rfl | rfl | rfl <;> simp [h1, h2, h3]
theorem run1_low : ∀ (l : List UInt8) (s n s' n' : Nat), 4 ≤ s ∧ s ≤ 6 → run1 (asc l) s n = some (s', n') → run1 (asc (lowL l)) s n = some (s', n')
  | [], _, _, _, _, _, h => h
  | b :: l, s, n, s', n', hs, h => by
    simp only [asc, lowL, List.map_cons] at h ⊢
    unfold run1 at h ⊢
    rw [nextS_low b hs]
    split at h
    · cases h
    · rename_i hn
      rw [if_neg hn]
      exact run1_low l _ _ _ _ (nextS_dom hs (by simpa using hn)).2 h
/-! ## what print takes -/
def domOk (dm : List UInt8) : Prop := ∃ n, run1 (letL dm) 6 0 = some (4, n)
structure Gd (lo dm : List UInt8) : Prop where
  ne : lo ≠ []
  prn : prn lo
  dom : domOk dm
  low : dm = lowL dm
  l64 : lo.length ≤ 64
  l255 : dm.length ≤ 255
def formT (lo dm : List UInt8) : List UInt8 := (if bareT lo = true then lo else (quoteT lo).1) ++ 64 :: dm
theorem parse_a (dm : List UInt8) : runF (letL (97 :: 64 :: dm)) 0 0 0 none 0 = runF (letL dm) 6 0 2 (some 1) 2 := by
  rw [letL_asc 97 _ (by decide), letL_asc 64 _ (by decide)]
  conv => lhs; unfold runF; unfold runF
  simp [nextS, localB, alnumB]
theorem dom_iff (dm : List UInt8) : ((parseT (97 :: 64 :: dm)).2.2.2 = 0 ∨ (parseT (97 :: 64 :: dm)).2.2.2 = 6) ↔ domOk dm := by
  have e : parseT (97 :: 64 :: dm) = restT (97 :: 64 :: dm) [] 0 0 0 := by unfold parseT; rw [if_neg (by simp)]
  rw [e]
  unfold restT
  rw [List.drop_zero, parse_a]
  constructor
  · intro h
    cases hr : runF (letL dm) 6 0 2 (some 1) 2 with
    | inl pl => rw [hr] at h; simp at h
    | inr x =>
      obtain ⟨s, pl, a⟩ := x
      rw [hr] at h
      simp only at h
      split at h
      · simp at h
      · rename_i h4
        obtain ⟨⟨n', h1⟩, _⟩ := runF_ok' _ _ _ _ _ _ _ _ _ hr
        have : s = 4 := by omega
        subst this
        exact ⟨n', h1⟩
  · rintro ⟨n, h⟩
    rw [runF_ok _ _ _ _ _ _ _ _ h]
    have hall : ∀ (p : Prop) [Decidable p] (x y : List UInt8), (if p then (([] : List UInt8), ([] : List UInt8), 0, 6) else (x, y, 0, 0)).2.2.2 = 0 ∨ (if p then (([] : List UInt8), ([] : List UInt8), 0, 6) else (x, y, 0, 0)).2.2.2 = 6 := by
      intro p _ x y
      split <;> simp
    simp only
    rw [if_neg (by simp)]
    exact hall _ _ _
theorem print_ok {lo dm t : List UInt8} (h : printT lo dm = (t, 0)) : Gd lo dm ∧ t = formT lo dm := by
  unfold printT at h
  split at h
  · simp at h
  · rename_i h1
    split at h
    · simp at h
    · rename_i h2
      split at h
      · simp at h
      · rename_i h3
        have h1' : (letL lo).any badLet = false := by simpa using h1
        have hd : dm = lowL dm := Decidable.byContradiction fun e => h2 (.inr (.inl e))
        have hp : domOk dm := (dom_iff dm).1 (by
          by_cases e : (parseT (97 :: 64 :: dm)).2.2.2 = 0
          · exact .inl e
          · exact .inr (Decidable.byContradiction fun e' => h2 (.inr (.inr ⟨e, e'⟩))))
        refine ⟨⟨fun e => h2 (.inl e), prn_of h1', hp, hd, by omega, by omega⟩, ?_⟩
        unfold formT
        split at h
        · rename_i hb; rw [if_pos hb]; simpa using h.symm
        · rename_i hb; rw [if_neg hb]; simpa using h.symm
theorem print_good {lo dm : List UInt8} (h : Gd lo dm) : printT lo dm = (formT lo dm, 0) := by
  unfold printT formT
  have hp := (dom_iff dm).2 h.dom
  have hn : ¬ (lo = [] ∨ dm ≠ lowL dm ∨ ((parseT (97 :: 64 :: dm)).2.2.2 ≠ 0 ∧ (parseT (97 :: 64 :: dm)).2.2.2 ≠ 6)) := by
    rintro (e | e | e)
    · exact h.ne e
    · exact e h.low
    · omega
  have hl := h.l64
  have hl2 := h.l255
  rw [if_neg (by rw [of_prn h.prn]; decide), if_neg hn, if_neg (by omega)]
  split <;> rfl
/-! ## parse of what is printed -/
theorem rest_tail {dm : List UInt8} (h : domOk dm) (pl k pos : Nat) : runF (letL dm) 6 0 pl (some k) pos = .inr (4, pl + (letL dm).length, some k) := by
  obtain ⟨n, h⟩ := h
  exact runF_ok _ _ _ _ _ _ _ _ h
theorem bare_head {lo : List UInt8} (h : prn lo) (hb : bareT lo = true) : ∃ b r, lo = b :: r ∧ localB b.toNat = true := by
  unfold bareT at hb
  rw [letL_all lo h.asc] at hb
  cases lo with
  | nil => simp [asc, bareF] at hb
  | cons b r =>
    refine ⟨b, r, rfl, ?_⟩
    simp only [asc, List.map_cons] at hb
    unfold bareF at hb
    split at hb
    · cases hb
    · rename_i hn
      have : (nextS 0 b.toNat 0).2 = true := by simpa using fun h => hn (.inl h)
      simpa [nextS] using this
theorem parse_bare {lo dm : List UInt8} (h : Gd lo dm) (hb : bareT lo = true) : parseT (lo ++ 64 :: dm) = (lo, dm, 0, 0) := by
  obtain ⟨b, r, rfl, hl⟩ := bare_head h.prn hb
  have h34 : b ≠ 34 := by
    rintro rfl
    revert hl
    decide
  unfold parseT
  rw [if_neg (by simpa using h34)]
  unfold restT
  unfold bareT at hb
  rw [letL_all _ h.prn.asc] at hb
  rw [List.drop_zero, letL_prn _ _ h.prn.asc, letL_asc 64 _ (by decide), runF_bare _ _ _ _ _ _ (by omega) hb, asc_bytes, asc_length, Nat.zero_add]
  conv => lhs; unfold runF
  rw [if_neg (by simp [nextS]), if_pos (by simp [nextS]), if_pos (by simp [nextS]), show (nextS 1 (64 : UInt8).toNat (b :: r).length).1 = 6 by simp [nextS], rest_tail h.dom]
  have e1 : ((b :: r) ++ 64 :: dm).take (b :: r).length = b :: r := List.take_left
  have e2 : ((b :: r) ++ 64 :: dm).drop ((b :: r).length + 1) = dm := by
    rw [← List.drop_drop, List.drop_left]; rfl
  simp only [Option.getD_some]
  rw [if_neg (by simp), if_pos trivial, e1, e2, ← h.low, if_neg (by have := h.l64; have := h.l255; omega)]
theorem outL_asc (lo : List UInt8) (h : prn lo) : outL (asc lo) = lo.flatMap fun b => if b = 34 ∨ b = 92 then [92, b] else [b] := by
  unfold outL asc
  rw [List.flatMap_map]
  refine congrArg List.flatten (List.map_congr_left fun b hb => ?_)
  have := h b hb
  simp only [escL]
  rw [runE_asc _ (by omega)]
  have e : UInt8.ofNat b.toNat = b := by simp
  rw [e]
  by_cases h1 : b = 34
  · rw [if_pos (.inl (by rw [h1]; rfl)), if_pos (.inl h1)]
  · by_cases h2 : b = 92
    · rw [if_pos (.inr (by rw [h2]; rfl)), if_pos (.inr h2)]
    · rw [if_neg (by rintro (h | h); exact h1 (UInt8.toNat_inj.1 h); exact h2 (UInt8.toNat_inj.1 h)), if_neg (by simp [h1, h2])]
def escB (lo : List UInt8) : List UInt8 := lo.flatMap fun b => if b = 34 ∨ b = 92 then [92, b] else [b]
theorem escB_cons (b : UInt8) (lo : List UInt8) : escB (b :: lo) = (if b = 34 ∨ b = 92 then [92, b] else [b]) ++ escB lo := rfl
theorem long_step (b : UInt8) (hb : 32 ≤ b.toNat ∧ b.toNat ≤ 126) (r : List UInt8) (place : Nat) (out : List UInt8) (pos : Nat) (hp : place ≠ 0) :
    longF (letL ((if b = 34 ∨ b = 92 then [92, b] else [b]) ++ r)) false place out pos = longF (letL r) false (place + (if b = 34 ∨ b = 92 then 2 else 1)) (out ++ [b]) (pos + (if b = 34 ∨ b = 92 then 2 else 1)) := by
  have e : UInt8.ofNat b.toNat = b := by simp
  by_cases h : b = 34 ∨ b = 92
  · simp only [if_pos h]
    show longF (letL (92 :: b :: r)) false place out pos = _
    have hb' : b.toNat = 34 ∨ b.toNat = 92 := by rcases h with rfl | rfl; exact .inl rfl; exact .inr rfl
    rw [letL_asc 92 _ (by decide), letL_asc b _ (by omega)]
    conv => lhs; unfold longF; unfold longF
    rw [if_neg (by simp), if_neg hp, if_pos ⟨rfl, rfl⟩, if_neg (by simp; omega), if_neg (by omega), if_neg (by simp), if_neg (by simp), e]
    rfl
  · simp only [if_neg h]
    have h1 : b.toNat ≠ 34 := fun e => h (.inl (UInt8.toNat_inj.1 e))
    have h2 : b.toNat ≠ 92 := fun e => h (.inr (UInt8.toNat_inj.1 e))
    show longF (letL (b :: r)) false place out pos = _
    rw [letL_asc b _ (by omega)]
    conv => lhs; unfold longF
    rw [if_neg (by simp; omega), if_neg hp, if_neg (by simp [h2]), if_neg (by simp [h1]), e]
    rfl
theorem long_tail (r : List UInt8) : ∀ (lo : List UInt8) (place : Nat) (out : List UInt8) (pos : Nat), prn lo → place ≠ 0 → longF (letL (escB lo ++ 34 :: r)) false place out pos = (out ++ lo, pos + (escB lo).length + 1, 0, 0)
  | [], place, out, pos, _, hp => by
    show longF (letL (34 :: r)) false place out pos = _
    rw [letL_asc 34 _ (by decide)]
    unfold longF
    rw [if_neg (by simp), if_neg hp, if_neg (by simp), if_pos ⟨rfl, rfl⟩]
    simp [escB]
  | b :: lo, place, out, pos, h, hp => by
    rw [escB_cons, List.append_assoc, long_step b (h b (by simp)) _ _ _ _ hp, long_tail r lo _ _ _ (fun x hx => h x (List.mem_cons_of_mem _ hx)) (by omega)]
    simp only [List.append_assoc, List.singleton_append, List.length_append]
    refine Prod.ext rfl (Prod.ext ?_ rfl)
    split <;> simp <;> omega
theorem long_pre : ∀ (lo : List UInt8) (m place : Nat) (out : List UInt8) (pos : Nat), prn lo → place ≠ 0 → (longF (letL ((escB lo).take m)) false place out pos).2.2.2 = 3
  | [], m, place, out, pos, _, _ => by
    simp [escB, letL_nil, longF]
  | b :: lo, m, place, out, pos, h, hp => by
    have hb := h b (by simp)
    rw [escB_cons, List.take_append]
    by_cases hm : (if b = 34 ∨ b = 92 then [92, b] else [b]).length ≤ m
    · rw [List.take_of_length_le hm, long_step b hb _ _ _ _ hp]
      exact long_pre lo _ _ _ _ (fun x hx => h x (List.mem_cons_of_mem _ hx)) (by omega)
    · have hz : m - (if b = 34 ∨ b = 92 then [92, b] else [b]).length = 0 := by omega
      rw [hz, List.take_zero, List.append_nil]
      by_cases h2 : b = 34 ∨ b = 92
      · rw [if_pos h2] at hm ⊢
        have : m = 0 ∨ m = 1 := by simp at hm; omega
        rcases this with rfl | rfl
        · simp [letL_nil, longF]
        · show (longF (letL [92]) false place out pos).2.2.2 = 3
          rw [letL_asc 92 _ (by decide), letL_nil]
          unfold longF
          rw [if_neg (by simp), if_neg hp, if_pos ⟨rfl, rfl⟩]
          rfl
      · rw [if_neg h2] at hm ⊢
        have : m = 0 := by simp at hm; omega
        subst this
        simp [letL_nil, longF]
theorem quote_form {lo : List UInt8} (h : prn lo) (hl : lo.length ≤ 64) : (quoteT lo).1 = 34 :: escB lo ++ [34] := by
  unfold quoteT
  rw [if_neg (by omega)]
  have hn : (letL lo).findIdx? (fun d => !plnL d) = none := by
    rw [List.findIdx?_eq_none_iff, letL_all lo h.asc]
    intro d hd
    obtain ⟨b, hb, rfl⟩ := List.mem_map.1 hd
    have := h b hb
    simp [plnL, plainB]
    omega
  rw [hn, letL_all lo h.asc]
  simp only
  rw [outL_asc lo h]
  rfl
theorem long_first (r : List UInt8) : longT (34 :: r) = longF (letL r) false 1 [] 1 := by
  unfold longT
  rw [letL_asc 34 _ (by decide)]
  conv => lhs; unfold longF
  rw [if_neg (by simp), if_pos rfl]
  rfl
theorem long_quote {lo : List UInt8} (h : prn lo) (r : List UInt8) : longT (34 :: escB lo ++ 34 :: r) = (lo, (escB lo).length + 2, 0, 0) := by
  rw [List.cons_append, long_first, long_tail r lo 1 [] 1 h (by omega)]
  refine Prod.ext rfl (Prod.ext ?_ rfl)
  simp only
  omega
theorem parse_quoted {lo dm : List UInt8} (h : Gd lo dm) : parseT ((quoteT lo).1 ++ 64 :: dm) = (lo, dm, 0, 0) := by
  rw [quote_form h.prn h.l64]
  have e0 : 34 :: escB lo ++ [34] ++ 64 :: dm = 34 :: escB lo ++ 34 :: (64 :: dm) := by simp
  rw [e0]
  unfold parseT
  rw [if_pos (show (34 :: escB lo ++ 34 :: 64 :: dm)[0]? = some 34 from rfl), long_quote h.prn]
  simp only
  rw [if_neg (by simp)]
  unfold restT
  have e1 : (34 :: escB lo ++ 34 :: 64 :: dm).drop ((escB lo).length + 2) = 64 :: dm := by
    rw [show 34 :: escB lo ++ 34 :: 64 :: dm = (34 :: escB lo ++ [34]) ++ 64 :: dm by simp, show (escB lo).length + 2 = (34 :: escB lo ++ [34]).length by simp, List.drop_left]
  have e2 : (34 :: escB lo ++ 34 :: 64 :: dm).drop ((escB lo).length + 2 + 1) = dm := by
    rw [← List.drop_drop, e1]; rfl
  rw [e1, letL_asc 64 _ (by decide)]
  conv => lhs; unfold runF
  rw [if_neg (by simp [nextS]), if_pos (by simp [nextS]), if_pos (by simp [nextS]), show (nextS 3 (64 : UInt8).toNat 0).1 = 6 by simp [nextS], rest_tail h.dom]
  simp only [Option.getD_some]
  rw [if_neg (by simp), if_neg (show ¬ (escB lo).length + 2 = 0 by omega), e2, ← h.low, if_neg (by have := h.l64; have := h.l255; omega)]
theorem parse_form {lo dm : List UInt8} (h : Gd lo dm) : parseT (formT lo dm) = (lo, dm, 0, 0) := by
  unfold formT
  split
  · rename_i hb; exact parse_bare h hb
  · exact parse_quoted h
/-! ## what is taken is good -/
theorem longF_prn : ∀ (ds : List (Nat × List UInt8)) (sg : Bool) (pl : Nat) (out : List UInt8) (pos : Nat), prn out → (longF ds sg pl out pos).2.2.2 = 0 → prn (longF ds sg pl out pos).1
  | [], sg, pl, out, pos, _, h => by simp [longF] at h
  | (c, b) :: ds, sg, pl, out, pos, ho, h => by
    unfold longF at h ⊢
    split at h
    · simp at h
    · rename_i n1
      rw [if_neg n1]
      split at h
      · rename_i n2; rw [if_pos n2]; exact longF_prn ds _ _ _ _ ho h
      · rename_i n2
        rw [if_neg n2]
        split at h
        · rename_i n3; rw [if_pos n3]; exact longF_prn ds _ _ _ _ ho h
        · rename_i n3
          rw [if_neg n3]
          split at h
          · rename_i n4; rw [if_pos n4]; exact ho
          · rename_i n4
            rw [if_neg n4]
            refine longF_prn ds _ _ _ _ ?_ h
            intro x hx
            rw [List.mem_append, List.mem_singleton] at hx
            rcases hx with hx | rfl
            · exact ho x hx
            · have : ¬ (c < 32 ∨ 126 < c) := fun e => n1 (.inl e)
              simp
              omega
theorem dom_low {dd : List UInt8} (h : domOk dd) : domOk (lowL dd) := by
  obtain ⟨n, h⟩ := h
  obtain ⟨h1, h2⟩ := all_asc _ (letL_ok _ dd (Nat.le_refl _)) (fun d hd => (domC_asc (run1_dom _ _ _ _ _ ⟨by omega, by omega⟩ h d hd)).1)
  rw [let_bytes _ dd (Nat.le_refl _)] at h1 h2
  rw [h1] at h
  refine ⟨n, ?_⟩
  rw [letL_all (lowL dd) (by
    intro b hb
    obtain ⟨x, hx, rfl⟩ := List.mem_map.1 hb
    exact (low_dom x).2.2.2.2.2 (h2 x hx))]
  exact run1_low dd _ _ _ _ ⟨by omega, by omega⟩ h
theorem drop_let : ∀ (ds1 : List (Nat × List UInt8)) (l : List UInt8) (ds2 : List (Nat × List UInt8)), letL l = ds1 ++ ds2 → letL (l.drop (ds1.flatMap fun d => d.2).length) = ds2
  | [], l, ds2, h => by simpa using h
  | d :: ds1, l, ds2, h => by
    have hl : l ≠ [] := by rintro rfl; simp [letL_nil] at h
    rw [letL_step l hl, List.cons_append, List.cons.injEq] at h
    have hd : d.2.length = (Lib.decodeL l).2 := by
      rw [← h.1]
      simp only [List.length_take]
      have := Lib.decodeL_le l hl
      omega
    have := drop_let ds1 _ ds2 h.2
    rw [List.flatMap_cons, List.length_append, hd, ← List.drop_drop]
    exact this
theorem parse_good {s lo dm : List UInt8} {p : Nat} (h : parseT s = (lo, dm, p, 0)) (hne : lo ≠ []) : Gd lo dm := by
  unfold parseT at h
  split at h
  · split at h
    · rename_i h1
      simp only [Prod.mk.injEq] at h
      exact absurd h.2.2.2 h1
    · rename_i h0 h1
      have hp := longF_prn (letL s) false 0 [] 0 (by intro b hb; cases hb) (by simpa [longT] using h1)
      have hpos := longT_le s (by simpa using h1)
      generalize hlt : longT s = r at *
      obtain ⟨said, nn, pe, er⟩ := r
      have hp' : prn said := by
        have := hp
        rw [show longF (letL s) false 0 [] 0 = longT s from rfl, hlt] at this
        exact this
      simp only at h h1 hpos
      unfold restT at h
      have hok := letL_ok _ (s.drop nn) (Nat.le_refl _)
      cases hd : letL (s.drop nn) with
      | nil => rw [hd] at h; simp [runF] at h
      | cons d ds =>
        obtain ⟨c, b⟩ := d
        rw [hd] at h hok
        unfold runF at h
        by_cases hc : c = 64
        · subst hc
          have hb : b = [64] := by
            have := letOk_asc (hok (64, b) (by simp)) (by simp)
            simpa using this
          subst hb
          rw [if_neg (by simp [nextS]), if_pos (by simp [nextS]), if_pos (by simp [nextS]), show (nextS 3 64 0).1 = 6 by simp [nextS]] at h
          cases hr : runF ds 6 0 ((letL (s.take nn)).length + 1) (some nn) (nn + [(64 : UInt8)].length) with
          | inl q => rw [hr] at h; simp at h
          | inr x =>
            obtain ⟨z, pl, a⟩ := x
            obtain ⟨⟨n', h5⟩, h6⟩ := runF_ok' _ _ _ _ _ _ _ _ _ hr
            rw [hr] at h
            simp only at h
            split at h
            · simp at h
            · rename_i h4
              have : z = 4 := by omega
              subst this h6
              have hds : letL (s.drop (nn + 1)) = ds := by
                have := drop_let [(64, [64])] (s.drop nn) ds (by rw [hd]; rfl)
                rw [List.drop_drop] at this
                exact this
              simp only [Option.getD_some] at h
              rw [if_neg (show ¬ nn = 0 by omega)] at h
              split at h
              · simp at h
              · rename_i hlim
                simp only [Prod.mk.injEq] at h
                obtain ⟨rfl, rfl, _, _⟩ := h
                have hdo : domOk (s.drop (nn + 1)) := ⟨n', by rw [hds]; exact h5⟩
                exact ⟨hne, hp', dom_low hdo, (lowL_idem _).symm, by omega, by omega⟩
        · rw [if_pos (by simp [nextS, hc])] at h
          simp at h
  · unfold restT at h
    rw [List.drop_zero] at h
    cases hr : runF (letL s) 0 0 0 none 0 with
    | inl q => rw [hr] at h; simp at h
    | inr x =>
      obtain ⟨z, pl, a⟩ := x
      rw [hr] at h
      simp only at h
      split at h
      · simp at h
      · rename_i h4
        have : z = 4 := by omega
        subst this
        obtain ⟨ds1, b, ds2, e1, e2, e3, n', e4⟩ := runF_split _ _ _ _ _ _ _ _ (by omega) (by omega) hr
        rw [Nat.zero_add] at e3
        have hok := letL_ok _ s (Nat.le_refl _)
        rw [e1] at hok
        have hb : b = [64] := by
          have := letOk_asc (hok (64, b) (by simp)) (by simp)
          simpa using this
        subst hb
        have hla := bare_asc ds1 0 (by omega) e2
        obtain ⟨h1, h2⟩ := all_asc ds1 (fun d hd => hok d (List.mem_append_left _ hd)) (fun d hd => by
          rcases hla d hd with h | h
          · have := localB_asc h; omega
          · omega)
        have hs : s = ds1.flatMap (fun d => d.2) ++ (64 :: ds2.flatMap fun d => d.2) := by
          have := let_bytes _ s (Nat.le_refl _)
          rw [e1, List.flatMap_append, List.flatMap_cons] at this
          exact this.symm
        have hd2 : letL (s.drop ((ds1.flatMap fun d => d.2).length + 1)) = ds2 := by
          have := drop_let (ds1 ++ [(64, [64])]) s ds2 (by rw [e1]; simp)
          rw [List.flatMap_append, List.length_append] at this
          exact this
        subst e3
        simp only [Option.getD_some] at h
        rw [if_pos trivial] at h
        split at h
        · simp at h
        · rename_i hlim
          simp only [Prod.mk.injEq] at h
          obtain ⟨rfl, rfl, _, _⟩ := h
          have hdo : domOk (s.drop ((ds1.flatMap fun d => d.2).length + 1)) := ⟨n', by rw [hd2]; exact e4⟩
          refine ⟨hne, ?_, dom_low hdo, (lowL_idem _).symm, by omega, by omega⟩
          have et : s.take (ds1.flatMap fun d => d.2).length = ds1.flatMap fun d => d.2 := by
            conv => lhs; rw [hs]
            exact List.take_left
          rw [et]
          intro x hx
          have : (x.toNat, [x]) ∈ ds1 := by rw [h1]; exact List.mem_map.2 ⟨x, hx, rfl⟩
          rcases hla _ this with h | h
          · exact localB_asc h
          · simp only at h; omega
/-! ## a path of what is printed -/
theorem form_head {lo dm : List UInt8} (h : Gd lo dm) : ∃ b r, formT lo dm = b :: r ∧ b ≠ 62 := by
  unfold formT
  split
  · rename_i hb
    obtain ⟨b, r, rfl, hl⟩ := bare_head h.prn hb
    refine ⟨b, r ++ 64 :: dm, rfl, ?_⟩
    rintro rfl
    revert hl
    decide
  · rw [quote_form h.prn h.l64]
    exact ⟨34, escB lo ++ [34] ++ 64 :: dm, by simp, by decide⟩
theorem dom_no62 {dm : List UInt8} (h : domOk dm) : (62 : UInt8) ∉ dm := by
  intro hm
  obtain ⟨n, h⟩ := h
  have hd := run1_dom _ _ _ _ _ ⟨by omega, by omega⟩ h
  obtain ⟨h1, h2⟩ := all_asc _ (letL_ok _ dm (Nat.le_refl _)) (fun d hd' => (domC_asc (hd d hd')).1)
  rw [let_bytes _ dm (Nat.le_refl _)] at h1
  have : ((62 : UInt8).toNat, [(62 : UInt8)]) ∈ letL dm := by rw [h1]; exact List.mem_map.2 ⟨62, hm, rfl⟩
  exact (domC_asc (hd _ this)).2.1 rfl
theorem form_pre {lo dm : List UInt8} (h : Gd lo dm) {m : Nat} (hm : (formT lo dm)[m]? = some 62) : (parseT ((formT lo dm).take m)).2.2.2 ≠ 0 := by
  have hd := dom_no62 h.dom
  unfold formT at hm ⊢
  split at hm
  · rename_i hb
    exfalso
    have hmem : (62 : UInt8) ∈ lo ++ 64 :: dm := List.mem_of_getElem? hm
    rw [List.mem_append, List.mem_cons] at hmem
    rcases hmem with hmem | hmem | hmem
    · unfold bareT at hb
      rw [letL_all lo h.prn.asc] at hb
      have := bare_asc _ 0 (by omega) hb ((62 : UInt8).toNat, [62]) (List.mem_map.2 ⟨62, hmem, rfl⟩)
      revert this
      decide
    · revert hmem; decide
    · exact hd hmem
  · rename_i hb
    rw [if_neg hb]
    rw [quote_form h.prn h.l64] at hm ⊢
    have hlt : m < (34 :: escB lo ++ [34]).length := by
      rcases Nat.lt_or_ge m (34 :: escB lo ++ [34]).length with h | h
      · exact h
      · exfalso
        rw [List.getElem?_append_right h] at hm
        have := List.mem_of_getElem? hm
        rw [List.mem_cons] at this
        rcases this with h | h
        · revert h; decide
        · exact hd h
    rw [List.take_append_of_le_length (by omega)]
    cases m with
    | zero => simp [parseT, restT, letL_nil, runF]
    | succ m =>
      simp only [List.length_append, List.length_cons, List.length_nil] at hlt
      rw [List.cons_append, List.take_succ_cons, List.take_append_of_le_length (by omega)]
      unfold parseT
      rw [if_pos (show (34 :: (escB lo).take m)[0]? = some 34 from rfl), long_first]
      have := long_pre lo m 1 [] 1 h.prn (by omega)
      rw [if_pos (by rw [this]; decide), this]
      decide
theorem path_form {lo dm : List UInt8} (h : Gd lo dm) : pathT (60 :: formT lo dm ++ [62, 32, 120]) = (lo, dm, [32, 120], 0) := by
  obtain ⟨b, r, hf, hb⟩ := form_head h
  have hpre : Lib.hasPrefix (60 :: formT lo dm ++ [62, 32, 120]) [60, 62] = false := by
    rw [hf]
    simp [Lib.hasPrefix, List.isPrefixOf]
    exact fun e => hb e.symm
  have hlen : (60 :: formT lo dm ++ [62, 32, 120]).length = (formT lo dm).length + 4 := by simp
  have htk : ∀ j, j ≤ (formT lo dm).length → ((60 :: formT lo dm ++ [62, 32, 120]).take (j + 1)).drop 1 = (formT lo dm).take j := by
    intro j hj
    rw [List.cons_append, List.take_succ_cons, List.take_append_of_le_length hj]
    rfl
  have hfind : (List.range (60 :: formT lo dm ++ [62, 32, 120]).length).find? (okAt (60 :: formT lo dm ++ [62, 32, 120])) = some ((formT lo dm).length + 1) := by
    refine okAt_find (by omega) ?_ ?_
    · intro j hj
      unfold okAt
      rw [decide_eq_false]
      rintro ⟨_, h2, h3⟩
      cases j with
      | zero => simp at h2
      | succ j =>
        rw [htk j (by omega)] at h3
        refine form_pre h ?_ h3
        rw [List.cons_append, List.getElem?_cons_succ, List.getElem?_append_left (by omega)] at h2
        exact h2
    · unfold okAt
      rw [decide_eq_true]
      refine ⟨rfl, ?_, ?_⟩
      · rw [List.cons_append, List.getElem?_cons_succ, List.getElem?_append_right (Nat.le_refl _)]
        simp
      · rw [htk _ (Nat.le_refl _), List.take_length, parse_form h]
  unfold pathT
  rw [if_neg (by rw [hpre]; decide), hfind]
  simp only
  rw [htk _ (Nat.le_refl _), List.take_length, parse_form h]
  have : (60 :: formT lo dm ++ [62, 32, 120]).drop ((formT lo dm).length + 1 + 1) = [32, 120] := by
    rw [show 60 :: formT lo dm ++ [62, 32, 120] = (60 :: formT lo dm ++ [62]) ++ [32, 120] by simp, show (formT lo dm).length + 1 + 1 = (60 :: formT lo dm ++ [62]).length by simp, List.drop_left]
  rw [this]
end Go.Proofs.YtigkmlhkfpdajaaDoor
