/- Lists of messages of the call's own; what BagTakes counts. Conditions: the hypotheses of each theorem. -/
import Derived.Test.YtbanjhfmddhndaaBag13
namespace Go.Proofs.Ytbanjhfmddhndaa
open Go.RowKit
theorem owns_obj {w : World} {base e size n p t : Nat} {v : Value} {xs : List Value} {cs : Array Value} {fr : Nat × Nat} (h : w.ownsRow base e size v n xs) (hp : w.heap[p]? = some (.cells cs t fr)) (hne : e ≠ t) : v.ownBlock = none ∨ v.ownBlock ≠ some p := by
  rcases owns_type h with h0 | ⟨g, cur, h1, h2⟩
  · exact .inl h0
  · refine .inr ?_
    rw [h1]
    intro e0
    injection e0 with e0
    subst e0
    rw [h2] at hp
    injection hp with hp
    injection hp with _ h3
    exact hne h3
theorem OwnR.push {α : Type} {R : Reading α} {s e : Nat} {M : List Nat} {wr w' : World} {base : Nat} {v' : Value} {xs : List α} {x : α} {css : List (List Value)} {cs : List Value} (q1 : css.length = xs.length) (q2 : ∀ cs ∈ css, cs.length = s)
    (q4 : ∀ (k : Nat) (cs : List Value) (x : α), css[k]? = some cs → xs[k]? = some x → R.says M wr cs x) (hcs : cs.length = s) (hs : R.says M wr cs x) (h' : w'.ownsRow base e s v' (xs.length + 1) (css.flatten ++ cs)) : OwnR R s e M wr w' base v' (xs ++ [x]) := by
  refine ⟨css ++ [cs], by simp [q1], ?_, by simpa using h', ?_⟩
  · intro c hc
    rcases List.mem_append.1 hc with h | h
    · exact q2 c h
    · simp at h; subst h; exact hcs
  · intro k c z hk hx
    rw [List.getElem?_append] at hk hx
    by_cases hlt : k < css.length
    · rw [if_pos hlt] at hk
      rw [if_pos (by omega)] at hx
      exact q4 k c z hk hx
    · rw [if_neg hlt] at hk
      rw [if_neg (by omega)] at hx
      have hk0 : k - css.length = 0 := by
        rcases Nat.eq_zero_or_pos (k - css.length) with h | h
        · exact h
        · rw [List.getElem?_eq_none (by simp; omega)] at hk; cases hk
      rw [hk0] at hk
      rw [show k - xs.length = 0 by omega] at hx
      simp at hk hx
      subst hk hx
      exact hs
theorem OwnR.kept {α : Type} {R : Reading α} {s e : Nat} {M : List Nat} {wr w w' : World} {base : Nat} {v : Value} {xs : List α} {row : Option Nat} (h : OwnR R s e M wr w base v xs) (hg : w.grownBy w' row) (hne : v.ownBlock = none ∨ v.ownBlock ≠ row) : OwnR R s e M wr w' base v xs := by
  obtain ⟨css, h1, h2, h3, h4⟩ := h
  exact ⟨css, h1, h2, h3.kept hg hne, h4⟩
theorem OwnR.row {α : Type} {R : Reading α} {s e : Nat} {M : List Nat} {wr w : World} {base : Nat} {v : Value} {xs : List α} (h : OwnR R s e M wr w base v xs) : ∃ cs, w.ownsRow base e s v xs.length cs := by
  obtain ⟨css, h1, h2, h3, h4⟩ := h
  exact ⟨_, h3⟩
/-- messages of the call's own, their bytes of its own, too -/
def OwnU (w : World) (base : Nat) (v : Value) (us : List U) : Prop :=
  ∃ css : List (List Value), css.length = us.length ∧ (∀ cs ∈ css, cs.length = 3) ∧ w.ownsRow base 30 3 v us.length css.flatten ∧
    ∀ (k : Nat) (cs : List Value) (u : U), css[k]? = some cs → us[k]? = some u → ∃ A c, cs = [.int .i64 u.from_, .int .i64 u.to_, .slice A u.by_.length c] ∧ Own w base (.slice A u.by_.length c) u.by_
theorem OwnU.nil (w : World) (base : Nat) : OwnU w base (.slice none 0 0) [] := ⟨[], rfl, by simp, World.ownsRow_nil _ _ _ _, by simp⟩
theorem OwnU.form {w : World} {base : Nat} {v : Value} {us : List U} (h : OwnU w base v us) : ∃ A cap, v = .slice A us.length cap := by
  obtain ⟨css, _, _, h3, _⟩ := h
  exact own_form h3
theorem OwnU.kept {w w' : World} {base : Nat} {v : Value} {us : List U} {row : Option Nat} (h : OwnU w base v us) (hg : w.grownBy w' row) (h1 : v.ownBlock = none ∨ v.ownBlock ≠ row) (h2 : ∀ u l, Own w base u l → u.ownBlock = none ∨ u.ownBlock ≠ row) : OwnU w' base v us := by
  obtain ⟨css, q1, q2, q3, q4⟩ := h
  refine ⟨css, q1, q2, q3.kept hg h1, fun k cs u hk hu => ?_⟩
  obtain ⟨A, c, e, ho⟩ := q4 k cs u hk hu
  exact ⟨A, c, e, ho.kept hg (h2 _ _ ho)⟩
theorem OwnU.ext {w w' : World} {base : Nat} {v : Value} {us : List U} (h : OwnU w base v us) (hx : Ext w w') : OwnU w' base v us :=
  h.kept (hx.grows none) (by cases v.ownBlock <;> simp) (fun u _ _ => by cases u.ownBlock <;> simp)
/-- an object of another type has turned -/
theorem OwnU.obj {w w' : World} {base p t : Nat} {v : Value} {us : List U} {cs : Array Value} {fr : Nat × Nat} (h : OwnU w base v us) (hk : Kept [p] w w') (hp : w.heap[p]? = some (.cells cs t fr)) (h1 : (30 : Nat) ≠ t) (h2 : (5 : Nat) ≠ t) : OwnU w' base v us := by
  have h' := h
  obtain ⟨css, q1, q2, q3, q4⟩ := h
  exact h'.kept hk.grows (owns_obj q3 hp h1) (fun u l ho => owns_obj ho hp h2)
theorem OwnU.rsm {w : World} {base : Nat} {A : Option Addr} {n c : Nat} {us : List U} (h : OwnU w base (.slice A n c) us) : RsM RU 3 [] w A us := by
  obtain ⟨css, q1, q2, q3, q4⟩ := h
  refine ⟨css, q1, q2, SlM.own q3 rfl (by simp), fun k cs u hk hu => ?_⟩
  obtain ⟨A', c', e, ho⟩ := q4 k cs u hk hu
  exact ⟨A', c', e, BsM.own ho (by simp)⟩
theorem OwnU.row {w : World} {base : Nat} {v : Value} {us : List U} (h : OwnU w base v us) : ∃ cs, w.ownsRow base 30 3 v us.length cs := by
  obtain ⟨css, h1, h2, h3, h4⟩ := h
  exact ⟨_, h3⟩
theorem OwnU.one {w : World} {base : Nat} {v : Value} {us : List U} (h : OwnU w base v us) : ∃ css : List (List Value), css.length = us.length ∧ (∀ cs ∈ css, cs.length = 3) ∧ w.ownsRow base 30 3 v us.length css.flatten := by
  obtain ⟨css, h1, h2, h3, h4⟩ := h
  exact ⟨_, h1, h2, h3⟩
theorem OwnU.push {w w1 w' : World} {base c : Nat} {A : Option Addr} {v : Value} {us : List U} {u : U} {css : List (List Value)} (q1 : css.length = us.length) (q2 : ∀ cs ∈ css, cs.length = 3) (q3 : w.ownsRow base 30 3 v us.length css.flatten)
    (q4 : ∀ (k : Nat) (cs : List Value) (u : U), css[k]? = some cs → us[k]? = some u → ∃ A c, cs = [.int .i64 u.from_, .int .i64 u.to_, .slice A u.by_.length c] ∧ Own w base (.slice A u.by_.length c) u.by_) (hu : Own w base (.slice A u.by_.length c) u.by_) (hx : Ext w w1) {v' : Value}
    (h' : w'.ownsRow base 30 3 v' (us.length + 1) (css.flatten ++ [.int .i64 u.from_, .int .i64 u.to_, .slice A u.by_.length c])) (hg : w1.grownBy w' v.ownBlock) : OwnU w' base v' (us ++ [u]) := by
  have hne : (5 : Nat) ≠ 30 := by decide
  refine ⟨css ++ [[.int .i64 u.from_, .int .i64 u.to_, .slice A u.by_.length c]], by simp [q1], ?_, by simpa using h', ?_⟩
  · intro c hc
    rcases List.mem_append.1 hc with h | h
    · exact q2 c h
    · simp at h; subst h; rfl
  · intro k cs z hk hz
    rw [List.getElem?_append] at hk hz
    by_cases hlt : k < css.length
    · rw [if_pos hlt] at hk
      rw [if_pos (by omega)] at hz
      obtain ⟨A', c', e, ho⟩ := q4 k cs z hk hz
      exact ⟨A', c', e, (ho.ext hx).kept hg (owns_apart ho q3 hne)⟩
    · rw [if_neg hlt] at hk
      rw [if_neg (by omega)] at hz
      have hk0 : k - css.length = 0 := by
        rcases Nat.eq_zero_or_pos (k - css.length) with h | h
        · exact h
        · rw [List.getElem?_eq_none (by simp; omega)] at hk; cases hk
      rw [hk0] at hk
      rw [show k - us.length = 0 by omega] at hz
      simp at hk hz
      subst hk hz
      exact ⟨A, c, rfl, (hu.ext hx).kept hg (owns_apart hu q3 hne)⟩
theorem IsBag.grow {M M' : List Nat} {w w1 w' : World} {p : Nat} {b : Bg} {row : Option Nat} (h : IsBag M w p b) (hx : Ext w w1) (hg : w1.grownBy w' row) (hp : row ≠ some p) (hv : ∀ k, row = some k → k ∈ M) (hM : ∀ k ∈ M', k ∈ M ∨ w.heap.size ≤ k) : IsBag M' w' p b := by
  have hkk : Kept row.toList w w' := (Kept.of_ext hx).grown hg (fun k hk => .inl (by simp [hk]))
  have h1 := h.old (N := M ++ M') (by
    intro k hk
    rcases List.mem_append.1 hk with h | h
    · exact .inl h
    · exact hM k h)
  exact (h1.kept hkk (by simpa using hp) (by intro k hk; exact List.mem_append_left _ (hv k (by simpa using hk)))).old (by intro k hk; exact .inl (List.mem_append_right _ hk))
theorem ne_obj {o : Option Nat} {p : Nat} (h : o = none ∨ o ≠ some p) : o ≠ some p := by
  rcases h with h | h
  · rw [h]; simp
  · exact h
/-! ## what is counted -/
structure Tk (k : Nat) (b : Bg) (cl tl : List U) : Prop where
  cnt : ∃ c t, Cnt 9 k c t b
  hcl : cl.length ≤ k
  htl : tl.length ≤ k
  inv : ∀ x, cntU b.l x + cntU tl x ≤ cntU cl x
theorem cntU_append (a b : List U) (x : U) : cntU (a ++ b) x = cntU a x + cntU b x := by simp [cntU]
theorem cntU_erase (l : List U) (i : Nat) (hi : i < l.length) (x : U) : cntU (l.eraseIdx i) x + cntU [l[i]] x = cntU l x := by
  rw [List.eraseIdx_eq_take_drop_succ]
  conv => rhs; rw [← List.take_append_drop i l, List.drop_eq_getElem_cons hi]
  simp only [cntU, List.countP_append, List.countP_cons, List.countP_nil]
  omega
theorem sameU_refl (u : U) : sameU u u = true := by simp [sameU]
theorem cntU_mem {l : List U} {u : U} (h : u ∈ l) : 1 ≤ cntU l u := by
  unfold cntU
  exact List.countP_pos_iff.2 ⟨u, h, sameU_refl u⟩
theorem Tk.add_ok {k : Nat} {b : Bg} {cl tl : List U} (h : Tk k b cl tl) (hk : k < 150) (u : U) (he : addE b u = 0) : Tk (k + 1) (addB b u) (cl ++ [u]) tl := by
  obtain ⟨c, t, hc⟩ := h.cnt
  refine ⟨⟨_, _, hc.add hk (by omega) u⟩, by have := h.hcl; simp; omega, by have := h.htl; omega, fun x => ?_⟩
  have hi := h.inv x
  have e : (addB b u).l = b.l ++ [u] := by
    unfold addE at he
    unfold addB
    split at he
    · rename_i h1
      split at he
      · cases he
      · rename_i h2; rw [if_pos h1, if_neg h2]
    · cases he
  rw [e, cntU_append, cntU_append]
  omega
theorem Tk.add_no {k : Nat} {b : Bg} {cl tl : List U} (h : Tk k b cl tl) (hk : k < 150) (u : U) (he : addE b u ≠ 0) : Tk (k + 1) (addB b u) cl tl := by
  obtain ⟨c, t, hc⟩ := h.cnt
  refine ⟨⟨_, _, hc.add hk (by omega) u⟩, by have := h.hcl; omega, by have := h.htl; omega, fun x => ?_⟩
  have hi := h.inv x
  have e : (addB b u).l = b.l := by
    unfold addE at he
    unfold addB
    split at he
    · rename_i h1
      split at he
      · rename_i h2; rw [if_pos h1, if_pos h2]
      · exact absurd rfl he
    · rename_i h1; rw [if_neg h1]
  rw [e]
  exact hi
theorem Tk.lose {k : Nat} {b : Bg} {cl tl : List U} (h : Tk k b cl tl) (hk : k < 150) (i : Int) : Tk (k + 1) (loseB b i) cl tl := by
  obtain ⟨c, t, hc⟩ := h.cnt
  refine ⟨⟨_, _, hc.lose hk i⟩, by have := h.hcl; omega, by have := h.htl; omega, fun x => ?_⟩
  have hi := h.inv x
  unfold loseB
  split
  · rename_i h1
    have := cntU_erase b.l i.toNat (by omega) x
    simp only []
    omega
  · exact hi
theorem Tk.on {k : Nat} {b : Bg} {cl tl : List U} (h : Tk k b cl tl) : Tk (k + 1) b cl tl := by
  obtain ⟨c, t, hc⟩ := h.cnt
  exact ⟨⟨_, _, hc.on⟩, by have := h.hcl; omega, by have := h.htl; omega, h.inv⟩
theorem takeU_mem {b : Bg} {i : Int} (he : takeE b i = 0) : takeU b i ∈ b.l := by
  unfold takeE at he
  unfold takeU
  split at he
  · rename_i h1
    rw [if_pos h1, List.getD_eq_getElem?_getD, List.getElem?_eq_getElem (by omega)]
    exact List.getElem_mem _
  · cases he
theorem Tk.take {k : Nat} {b : Bg} {cl tl : List U} (h : Tk k b cl tl) (i : Int) (he : takeE b i = 0) : Tk (k + 1) (takeB b i true) cl tl ∧ cntU tl (takeU b i) ≤ cntU cl (takeU b i) ∧ 1 ≤ cntU cl (takeU b i) := by
  obtain ⟨c, t, hc⟩ := h.cnt
  have hi := h.inv (takeU b i)
  have hm := cntU_mem (takeU_mem he)
  refine ⟨⟨⟨_, _, hc.take i true⟩, by have := h.hcl; omega, by have := h.htl; omega, fun x => ?_⟩, by omega, by omega⟩
  have hi := h.inv x
  unfold takeB
  split <;> simpa using hi
theorem Tk.take_no {k : Nat} {b : Bg} {cl tl : List U} (h : Tk k b cl tl) (i : Int) (keep : Bool) (he : takeE b i ≠ 0) : Tk (k + 1) (takeB b i keep) cl tl := by
  have e : takeB b i keep = b := by
    unfold takeE at he
    unfold takeB
    split at he
    · exact absurd rfl he
    · rename_i h1; rw [if_neg h1]
  rw [e]
  exact h.on
theorem Tk.drop {k : Nat} {b : Bg} {cl tl : List U} (h : Tk k b cl tl) (i : Int) (he : takeE b i = 0) : Tk (k + 1) (takeB b i false) cl (tl ++ [takeU b i]) ∧ cntU (tl ++ [takeU b i]) (takeU b i) ≤ cntU cl (takeU b i) ∧ 1 ≤ cntU cl (takeU b i) := by
  obtain ⟨c, t, hc⟩ := h.cnt
  have key : ∀ x, cntU (takeB b i false).l x + cntU (tl ++ [takeU b i]) x ≤ cntU cl x := by
    intro x
    have hi := h.inv x
    unfold takeE at he
    unfold takeB takeU
    split at he
    · rename_i h1
      have hlt : i.toNat < b.l.length := by omega
      have := cntU_erase b.l i.toNat hlt x
      rw [if_pos h1, if_pos h1, cntU_append, List.getD_eq_getElem?_getD, List.getElem?_eq_getElem hlt]
      simp only [Bool.false_eq_true, if_false, Option.getD_some]
      omega
    · cases he
  have hi := h.inv (takeU b i)
  have hm := cntU_mem (takeU_mem he)
  have hk := key (takeU b i)
  exact ⟨⟨⟨_, _, hc.take i false⟩, by have := h.hcl; omega, by have := h.htl; simp; omega, key⟩, by omega, by omega⟩
end Go.Proofs.Ytbanjhfmddhndaa
