/- Plain lemmas on the sum: a change of up to four bytes, one behind the other, turns it. No program stands here. Conditions: the hypotheses of each theorem. -/
import Derived.Test.YtapjgncalldngaaRef
namespace Go.Proofs.Ytapjgncalldngaa
/-- one step of the register with a bit 0 -/
def sA (x : Nat) : Nat := if x % 2 = 0 then x / 2 else (x / 2) ^^^ 3988292384
theorem xor_mod2 (x y : Nat) : (x ^^^ y) % 2 = (x % 2 + y % 2) % 2 := by
  have h := Nat.xor_mod_two_eq_one (a := x) (b := y)
  have h1 := Nat.mod_two_eq_zero_or_one x
  have h2 := Nat.mod_two_eq_zero_or_one y
  have h3 := Nat.mod_two_eq_zero_or_one (x ^^^ y)
  rcases h1 with h1 | h1 <;> rcases h2 with h2 | h2 <;> rcases h3 with h3 | h3 <;> simp [h1, h2, h3] at h ⊢
theorem crcB_sA (r b : Nat) (hb : b < 2) : crcB r b = sA (r ^^^ b) := by
  unfold crcB sA
  have h1 : (r ^^^ b) / 2 = r / 2 := by rw [Nat.xor_div_two, Nat.div_eq_of_lt hb, Nat.xor_zero]
  have h2 := xor_mod2 r b
  rw [h1]
  by_cases h : r % 2 = b
  · rw [if_pos h, if_pos (by omega)]
  · rw [if_neg h, if_neg (by omega)]
theorem xor4 (a b c : Nat) : (a ^^^ c) ^^^ (b ^^^ c) = a ^^^ b := by
  rw [Nat.xor_assoc, ← Nat.xor_assoc c b c, Nat.xor_comm c b, Nat.xor_assoc b c c, Nat.xor_self, Nat.xor_zero]
theorem sA_xor (x y : Nat) : sA (x ^^^ y) = sA x ^^^ sA y := by
  unfold sA
  have h := xor_mod2 x y
  rw [Nat.xor_div_two]
  rcases Nat.mod_two_eq_zero_or_one x with h1 | h1 <;> rcases Nat.mod_two_eq_zero_or_one y with h2 | h2
  · rw [if_pos (by omega), if_pos h1, if_pos h2]
  · rw [if_neg (by omega), if_pos h1, if_neg (by omega), Nat.xor_assoc]
  · rw [if_neg (by omega), if_neg (by omega), if_pos h2, Nat.xor_assoc, Nat.xor_assoc, Nat.xor_comm (y / 2)]
  · rw [if_pos (by omega), if_neg (by omega), if_neg (by omega), xor4]
theorem sA_lt (x : Nat) (h : x < 4294967296) : sA x < 4294967296 := by
  unfold sA
  split
  · omega
  · exact Nat.xor_lt_two_pow (n := 32) (by omega) (by omega)
theorem sA_zero (x : Nat) (h : x < 4294967296) (h0 : sA x = 0) : x = 0 := by
  unfold sA at h0
  split at h0
  · omega
  · have h1 : x / 2 = 3988292384 := by
      have : (x / 2) ^^^ 3988292384 ^^^ 3988292384 = 0 ^^^ 3988292384 := by rw [h0]
      rwa [Nat.xor_assoc, Nat.xor_self, Nat.xor_zero, Nat.zero_xor] at this
    omega
/-- the register's difference behind bits' differences -/
def dL (x : Nat) (ds : List Nat) : Nat := ds.foldl (fun x d => sA (x ^^^ d)) x
def bitsX (a b : List Nat) : List Nat := List.zipWith (· ^^^ ·) a b
theorem crcL_diff (a : List Nat) : ∀ (b : List Nat) (r s : Nat), a.length = b.length → (∀ x ∈ a, x < 2) → (∀ x ∈ b, x < 2) → crcL r a ^^^ crcL s b = dL (r ^^^ s) (bitsX a b) := by
  induction a with
  | nil => intro b r s h _ _; cases b with | nil => rfl | cons _ _ => simp at h
  | cons x a ih =>
    intro b r s h h1 h2
    cases b with
    | nil => simp at h
    | cons y b =>
      simp only [crcL, List.foldl_cons, bitsX, List.zipWith_cons_cons, dL] at *
      rw [ih b _ _ (by simpa using h) (fun z hz => h1 z (by simp [hz])) (fun z hz => h2 z (by simp [hz]))]
      rw [crcB_sA r x (h1 x (by simp)), crcB_sA s y (h2 y (by simp)), ← sA_xor]
      congr 2
      rw [Nat.xor_assoc, ← Nat.xor_assoc x s y, Nat.xor_comm x s, Nat.xor_assoc s x y, ← Nat.xor_assoc]
def numB : List Nat → Nat
  | [] => 0
  | d :: ds => d + 2 * numB ds
def iter (n x : Nat) : Nat := match n with | 0 => x | n + 1 => iter n (sA x)
theorem iter_xor (n : Nat) : ∀ x y, iter n (x ^^^ y) = iter n x ^^^ iter n y := by
  induction n with
  | zero => intro x y; rfl
  | succ n ih => intro x y; simp only [iter]; rw [sA_xor, ih]
theorem iter_zero (n : Nat) : ∀ x, x < 4294967296 → iter n x = 0 → x = 0 := by
  induction n with
  | zero => intro x _ h; exact h
  | succ n ih => intro x h h0; exact sA_zero x h (ih _ (sA_lt x h) h0)
theorem iter_of_zero (n : Nat) : iter n 0 = 0 := by
  induction n with
  | zero => rfl
  | succ n ih => exact ih
theorem sA_double (e : Nat) : sA (2 * e) = e := by unfold sA; rw [if_pos (by omega)]; omega
theorem add_xor (d e : Nat) (h : d < 2) : d + 2 * e = d ^^^ (2 * e) := by
  have h1 : (d ^^^ (2 * e)) / 2 = e := by rw [Nat.xor_div_two, Nat.div_eq_of_lt h, Nat.zero_xor]; omega
  have h2 := xor_mod2 d (2 * e)
  omega
theorem dL_num (ds : List Nat) : ∀ x, (∀ d ∈ ds, d < 2) → dL x ds = iter ds.length (x ^^^ numB ds) := by
  induction ds with
  | nil => intro x _; simp [dL, iter, numB]
  | cons d ds ih =>
    intro x h
    have hd := h d (by simp)
    simp only [dL, List.foldl_cons] at *
    rw [ih _ (fun z hz => h z (by simp [hz]))]
    simp only [List.length_cons, iter, numB]
    have h2 : sA (x ^^^ d ^^^ 2 * numB ds) = sA (x ^^^ d) ^^^ numB ds := by rw [sA_xor, sA_double]
    rw [add_xor d _ hd, ← Nat.xor_assoc, h2]
theorem numB_lt (ds : List Nat) (h : ∀ d ∈ ds, d < 2) : numB ds < 2 ^ ds.length := by
  induction ds with
  | nil => simp [numB]
  | cons d ds ih =>
    have := ih (fun z hz => h z (by simp [hz]))
    have hd := h d (by simp)
    simp only [numB, List.length_cons, Nat.pow_succ]
    omega
theorem numB_zero (ds : List Nat) : numB ds = 0 ↔ ∀ d ∈ ds, d = 0 := by
  induction ds with
  | nil => simp [numB]
  | cons d ds ih =>
    simp only [numB, List.mem_cons, forall_eq_or_imp]
    constructor
    · intro h; exact ⟨by omega, ih.1 (by omega)⟩
    · intro h; have := ih.2 h.2; omega
theorem dL_append (a b : List Nat) (x : Nat) : dL x (a ++ b) = dL (dL x a) b := by simp [dL, List.foldl_append]
/-- up to 32 bits, behind what is the same and ahead of what is the same -/
theorem dL_burst (n m : Nat) (ds : List Nat) (h : ∀ d ∈ ds, d < 2) (hl : ds.length ≤ 32) : dL 0 (List.replicate n 0 ++ ds ++ List.replicate m 0) = 0 ↔ ∀ d ∈ ds, d = 0 := by
  have hz : ∀ k, dL 0 (List.replicate k 0) = 0 := fun k => by
    rw [dL_num _ _ (by intro d hd; rw [List.eq_of_mem_replicate hd]; omega), (numB_zero _).2 (fun d hd => List.eq_of_mem_replicate hd)]
    simpa using iter_of_zero _
  have hn := numB_lt ds h
  have hn2 : numB ds < 4294967296 := Nat.lt_of_lt_of_le hn (Nat.pow_le_pow_right (n := 2) (by omega) hl)
  rw [dL_append, dL_append, hz, dL_num ds 0 h, Nat.zero_xor]
  rw [dL_num _ _ (by intro d hd; rw [List.eq_of_mem_replicate hd]; omega), (numB_zero (List.replicate m 0)).2 (fun d hd => List.eq_of_mem_replicate hd), Nat.xor_zero]
  have hil : ∀ k x, x < 4294967296 → iter k x < 4294967296 := by
    intro k
    induction k with
    | zero => intro x h; exact h
    | succ k ih => intro x h; exact ih _ (sA_lt x h)
  constructor
  · intro h0
    have h1 := iter_zero _ _ (hil _ _ hn2) h0
    exact (numB_zero ds).1 (iter_zero _ _ hn2 h1)
  · intro h0
    rw [(numB_zero ds).2 h0, iter_of_zero, iter_of_zero]
theorem bitsOf_lt (c : UInt8) : ∀ x ∈ bitsOf c, x < 2 := by
  intro x hx
  simp only [bitsOf, List.mem_map] at hx
  obtain ⟨i, _, rfl⟩ := hx
  omega
theorem bitsL_lt (l : List UInt8) : ∀ x ∈ bitsL l, x < 2 := by
  intro x hx
  simp only [bitsL, List.mem_flatMap] at hx
  obtain ⟨c, _, h⟩ := hx
  exact bitsOf_lt c x h
theorem bitsOf_xor (a b : UInt8) : bitsX (bitsOf a) (bitsOf b) = bitsOf (a ^^^ b) := by
  unfold bitsX bitsOf
  rw [List.zipWith_map_left, List.zipWith_map_right, List.zipWith_self]
  apply List.map_congr_left
  intro i _
  rw [UInt8.toNat_xor, Nat.xor_div_two_pow]
  have h := xor_mod2 (a.toNat / 2 ^ i) (b.toNat / 2 ^ i)
  rw [h]
  rcases Nat.mod_two_eq_zero_or_one (a.toNat / 2 ^ i) with h1 | h1 <;> rcases Nat.mod_two_eq_zero_or_one (b.toNat / 2 ^ i) with h2 | h2 <;> rw [h1, h2] <;> rfl
theorem bitsX_append (a b c d : List Nat) (h : a.length = c.length) : bitsX (a ++ b) (c ++ d) = bitsX a c ++ bitsX b d := by
  unfold bitsX; exact List.zipWith_append h
theorem bitsL_xor (a : List UInt8) : ∀ b : List UInt8, a.length = b.length → bitsX (bitsL a) (bitsL b) = bitsL (List.zipWith (· ^^^ ·) a b) := by
  induction a with
  | nil => intro b h; simp [bitsL, bitsX]
  | cons x a ih =>
    intro b h
    cases b with
    | nil => simp at h
    | cons y b =>
      simp only [bitsL, List.flatMap_cons, List.zipWith_cons_cons] at *
      rw [bitsX_append _ _ _ _ (by rw [bitsOf_length, bitsOf_length]), bitsOf_xor, ih b (by simpa using h)]
theorem xor_eq_zero (a b : Nat) : a ^^^ b = 0 ↔ a = b := by
  constructor
  · intro h
    have : a ^^^ b ^^^ b = 0 ^^^ b := by rw [h]
    rwa [Nat.xor_assoc, Nat.xor_self, Nat.xor_zero, Nat.zero_xor] at this
  · intro h; rw [h, Nat.xor_self]
theorem bitsOf_zero (c : UInt8) : (∀ d ∈ bitsOf c, d = 0) ↔ c = 0 := by
  constructor
  · intro h
    have h1 : ∀ n : Fin 256, (bitsOf (UInt8.ofNat n.val)).all (· == 0) = true → n = 0 := by decide +kernel
    have h2 := h1 ⟨c.toNat, c.toNat_lt⟩ (by simpa [List.all_eq_true] using h)
    apply UInt8.toNat_inj.1
    exact congrArg Fin.val h2
  · intro h; subst h; decide
theorem bitsL_zero (l : List UInt8) : (∀ d ∈ bitsL l, d = 0) ↔ ∀ c ∈ l, c = 0 := by
  simp only [bitsL, List.mem_flatMap]
  constructor
  · intro h c hc
    exact (bitsOf_zero c).1 fun d hd => h d ⟨c, hc, hd⟩
  · intro h d hd
    obtain ⟨c, hc, hd⟩ := hd
    exact (bitsOf_zero c).2 (h c hc) d hd
theorem bitsL_repl (n : Nat) : bitsL (List.replicate n 0) = List.replicate (8 * n) 0 := by
  apply List.eq_replicate_iff.2
  refine ⟨by rw [bitsL_length]; simp, (bitsL_zero _).2 fun c hc => List.eq_of_mem_replicate hc⟩
/-- THE BURST: of two rows of bytes that differ in up to four bytes, one behind the other, the sums are the same just if nothing differs -/
theorem crcS_burst (r n m : Nat) (p q e : List UInt8) (hl : p.length = q.length) (hz : List.zipWith (· ^^^ ·) p q = List.replicate n 0 ++ e ++ List.replicate m 0) (he : e.length ≤ 4) :
    crcS r p = crcS r q ↔ ∀ c ∈ e, c = 0 := by
  rw [crcS_bits, crcS_bits, ← xor_eq_zero, crcL_diff _ _ _ _ (by rw [bitsL_length, bitsL_length, hl]) (bitsL_lt p) (bitsL_lt q), Nat.xor_self, bitsL_xor p q hl, hz]
  have h1 : bitsL (List.replicate n 0 ++ e ++ List.replicate m 0) = List.replicate (8 * n) 0 ++ bitsL e ++ List.replicate (8 * m) 0 := by
    rw [← bitsL_repl, ← bitsL_repl]
    simp [bitsL]
  rw [h1, dL_burst _ _ _ (bitsL_lt e) (by rw [bitsL_length]; omega), bitsL_zero]
/-- a row of bytes of which some, one behind the other, are changed -/
def turnL (l : List UInt8) (f : Nat) (e : List UInt8) : Nat → List UInt8
  | 0 => l
  | i + 1 => (turnL l f e i).set (f + i) ((turnL l f e i).getD (f + i) 0 ^^^ e.getD i 0)
theorem turnL_length (l : List UInt8) (f : Nat) (e : List UInt8) (i : Nat) : (turnL l f e i).length = l.length := by
  induction i with
  | zero => rfl
  | succ i ih => simp [turnL, ih]
theorem turnL_get (l : List UInt8) (f : Nat) (e : List UInt8) (i j : Nat) (hf : f + i ≤ l.length) : (turnL l f e i)[j]? = if f ≤ j ∧ j < f + i then some (l.getD j 0 ^^^ e.getD (j - f) 0) else l[j]? := by
  induction i with
  | zero => rw [if_neg (by omega)]; rfl
  | succ i ih =>
    simp only [turnL]
    rw [List.getElem?_set, turnL_length]
    by_cases hj : f + i = j
    · subst hj
      rw [if_pos rfl, if_pos (by omega), if_pos (by omega)]
      have h0 := ih (by omega)
      rw [if_neg (by omega)] at h0
      simp only [List.getD_eq_getElem?_getD, h0, Nat.add_sub_cancel_left]
    · rw [if_neg hj, ih (by omega)]
      by_cases h1 : f ≤ j ∧ j < f + i
      · rw [if_pos h1, if_pos (by omega)]
      · rw [if_neg h1, if_neg (by omega)]
theorem xor_back (a b : UInt8) : a ^^^ (a ^^^ b) = b := by rw [← UInt8.xor_assoc, UInt8.xor_self, UInt8.zero_xor]
theorem turnL_xor (l : List UInt8) (f : Nat) (e : List UInt8) (i : Nat) (hf : f + i ≤ l.length) (hi : i ≤ e.length) :
    List.zipWith (· ^^^ ·) l (turnL l f e i) = List.replicate f 0 ++ e.take i ++ List.replicate (l.length - f - i) 0 := by
  apply List.ext_getElem?
  intro j
  rw [List.getElem?_zipWith, turnL_get l f e i j hf, List.append_assoc, List.getElem?_append, List.length_replicate]
  by_cases h1 : j < f
  · rw [if_neg (by omega), if_pos h1, List.getElem?_replicate, if_pos h1]
    have : l[j]? = some (l[j]'(by omega)) := List.getElem?_eq_getElem _
    rw [this]; simp
  · rw [if_neg h1, List.getElem?_append, List.length_take, Nat.min_eq_left hi]
    by_cases h2 : j - f < i
    · rw [if_pos (by omega), if_pos h2, List.getElem?_take_of_lt h2]
      have h3 : l[j]? = some (l[j]'(by omega)) := List.getElem?_eq_getElem _
      have h4 : e[j - f]? = some (e[j - f]'(by omega)) := List.getElem?_eq_getElem _
      simp only [List.getD_eq_getElem?_getD, h3, h4, Option.getD_some]
      rw [xor_back]
    · rw [if_neg (by omega), if_neg h2, List.getElem?_replicate]
      by_cases h3 : j < l.length
      · have h4 : l[j]? = some (l[j]'h3) := List.getElem?_eq_getElem _
        rw [h4, if_pos (by omega)]; simp
      · rw [List.getElem?_eq_none (by omega), if_neg (by omega)]
theorem turnL_append (a l : List UInt8) (f : Nat) (e : List UInt8) (i : Nat) : turnL (a ++ l) (a.length + f) e i = a ++ turnL l f e i := by
  induction i with
  | zero => rfl
  | succ i ih =>
    simp only [turnL]
    rw [ih, Nat.add_assoc, List.set_append_right _ _ (by omega), Nat.add_sub_cancel_left]
    congr 3
    simp only [List.getD_eq_getElem?_getD]
    rw [List.getElem?_append_right (by omega), Nat.add_sub_cancel_left]
theorem oneL_frame (n c : Nat) (p : List UInt8) (hp : p.length = n) (h0 : 0 < n) (h1 : n ≤ 2000) (hc : c < 4294967296) :
    oneL (be 2 n ++ be 4 c ++ p) 0 = if crcF [be 2 n, p] ≠ c then (([], 0, 5) : List UInt8 × Int × Int) else (p, 6 + (n : Int), 0) := by
  have l2 := be_length 2 n
  have l4 := be_length 4 c
  have hl : (be 2 n ++ be 4 c ++ p).length = 6 + n := by simp [l2, l4, hp]; omega
  have t2 : (be 2 n ++ be 4 c ++ p).take 2 = be 2 n := by rw [List.append_assoc, List.take_append_of_le_length (by omega), List.take_of_length_le (by omega)]
  have d2 : (be 2 n ++ be 4 c ++ p).drop 2 = be 4 c ++ p := by rw [List.append_assoc, List.drop_append_of_le_length (by omega), List.drop_of_length_le (by omega), List.nil_append]
  have t4 : ((be 2 n ++ be 4 c ++ p).drop 2).take 4 = be 4 c := by rw [d2, List.take_append_of_le_length (by omega), List.take_of_length_le (by omega)]
  have d6 : (be 2 n ++ be 4 c ++ p).drop 6 = p := by
    rw [List.drop_append, List.drop_of_length_le (by simp [l2, l4]), List.nil_append]
    simp [l2, l4]
  have hn : numL (be 2 n) = n := numL_be 2 n (by omega)
  have hc4 : numL (be 4 c) = c := numL_be 4 c (by omega)
  unfold oneL
  simp only [Int.toNat_zero, List.drop_zero]
  rw [if_neg (by omega), if_neg (by omega), t2, hn, if_neg (by omega), if_neg (by omega), d6, List.take_of_length_le (Nat.le_of_eq hp), t4, hc4]
  split
  · rfl
  · simp
/-- what One says of a frame of which up to four bytes are changed -/
theorem one_turned (p : List UInt8) (h0 : 0 < p.length) (h1 : p.length ≤ 2000) (f i : Nat) (e : List UInt8) (he : e.length = 4) (hi : i ≤ 4) (hf : f + i ≤ p.length) :
    (oneL (turnL (packL p) (6 + f) e i) 0).2.2 = if (e.take i).all (· == 0) = true then 0 else 5 := by
  have l2 := be_length 2 p.length
  have l4 := be_length 4 (crcF [be 2 p.length, p])
  have hh : (be 2 p.length ++ be 4 (crcF [be 2 p.length, p])).length = 6 := by simp [l2, l4]
  unfold packL
  rw [← hh, turnL_append, oneL_frame _ _ _ (turnL_length _ _ _ _) h0 h1 (crcF_lt _)]
  have hb := crcS_burst (crcS 4294967295 (be 2 p.length)) f (p.length - f - i) p (turnL p f e i) (e.take i) (turnL_length _ _ _ _).symm (turnL_xor p f e i hf (by omega)) (by simp; omega)
  have q1 := crcS_lt (be 2 p.length) 4294967295 (by omega)
  have q2 := crcS_lt p _ q1
  have q3 := crcS_lt (turnL p f e i) _ q1
  have hc : crcF [be 2 p.length, turnL p f e i] = crcF [be 2 p.length, p] ↔ ∀ c ∈ e.take i, c = 0 := by
    rw [← hb]
    simp only [crcF, crcP, List.foldl_cons, List.foldl_nil]
    omega
  by_cases h : ∀ c ∈ e.take i, c = 0
  · rw [if_neg (not_not_intro (hc.2 h)), if_pos (by simpa [List.all_eq_true] using h)]
  · rw [if_pos (fun hh => h (hc.1 hh)), if_neg (by simpa [List.all_eq_true] using h)]
end Go.Proofs.Ytapjgncalldngaa
