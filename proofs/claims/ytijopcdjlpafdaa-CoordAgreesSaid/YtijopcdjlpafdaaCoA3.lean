/- A script's call as a struct of the call's own. Conditions: the hypotheses of each theorem. -/
import Derived.Test.YtijopcdjlpafdaaCoA2
namespace Go.Proofs.Ytijopcdjlpafdaa
open Go.RowKit
theorem OwnSI.form {w : World} {base : Nat} {v : Value} {ls : List (List Int)} (h : OwnSI w base v ls) : ∃ A cap, v = .slice A ls.length cap := by
  obtain ⟨vs, h1, _⟩ := h
  exact own_form h1
def clC (d : Cl) (A1 : Option Addr) (c1 : Nat) (A2 : Option Addr) (c2 : Nat) : List Value :=
  [.int .i64 d.do_, .slice A1 d.shards.length c1, .int .i64 d.shard, .bool d.keep, .int .u8 (d.which : Int), .int .i64 d.tx.node, .int .i64 d.tx.boot, .int .i64 d.tx.n, .slice A2 d.bytes.length c2]
theorem clC_one (d : Cl) (A1 : Option Addr) (c1 : Nat) (A2 : Option Addr) (c2 : Nat) : ∀ u ∈ clC d A1 c1 A2 c2, u.oneCell' = true := by
  intro u hu
  simp only [clC, List.mem_cons, List.not_mem_nil, or_false] at hu
  rcases hu with rfl | rfl | rfl | rfl | rfl | rfl | rfl | rfl | rfl <;> rfl
theorem call_info : (Try.prog.info? 37).map (fun i => (i.zero, i.size)) = some (some (.agg #[.int .i64 0, .slice none 0 0, .int .i64 0, .bool false, .int .u8 0, .int .i64 0, .int .i64 0, .int .i64 0, .slice none 0 0]), 9) := by kernel_rfl
theorem call_size (d : Cl) (A1 : Option Addr) (c1 : Nat) (A2 : Option Addr) (c2 : Nat) : (Try.prog.info? 37).map (·.size) = some (clC d A1 c1 A2 c2).toArray.size := (zero_of_info call_info).2
theorem RsM.cl9 {w : World} {A : Option Addr} {l : List Cl} (h : RsM RCl 9 [] w A l) {k : Nat} (hk : k < l.length) :
    ∃ ad A1 c1 A2 c2, A = some ad ∧ Sl w A1 (ib l[k].shards) ∧ l[k].shards.length ≤ 140737488355328 ∧ l[k].which < 256 ∧
      ∀ W, Ext w W → ∀ j v, (clC l[k] A1 c1 A2 c2)[j]? = some v → W.cell? ((ad.add (k * 9)).add j) = some v := by
  obtain ⟨ad, cs, e, _, _, hcell, A1, c1, A2, c2, rfl, h1, h2, h3, h4, h5, h6⟩ := h.at_ (by omega) hk
  exact ⟨ad, A1, c1, A2, c2, e, h1.sl, h3, h6, fun W hx j v hj => hx.cell (by rw [add_addB]; exact hcell j v hj)⟩
/-- a call stands at g -/
def ClAt (W : World) (g : Nat) (d : Cl) (A1 : Option Addr) (c1 : Nat) (A2 : Option Addr) (c2 : Nat) : Prop := W.heap[g]? = some (.cells (clC d A1 c1 A2 c2).toArray 37 (0, 0))
section
variable {w w' : World} {g : Nat} {d : Cl} {A1 : Option Addr} {c1 : Nat} {A2 : Option Addr} {c2 : Nat}
theorem ClAt.cell (h : ClAt w g d A1 c1 A2 c2) {j : Nat} {v : Value} (hj : (clC d A1 c1 A2 c2)[j]? = some v) : w.cell? ⟨g, j, none⟩ = some v := by
  unfold ClAt at h
  simp only [World.cell?, h]
  simpa using hj
theorem ClAt.oth (h : ClAt w g d A1 c1 A2 c2) (hx : Oth w w') : ClAt w' g d A1 c1 A2 c2 := hx.2 _ _ _ _ h (by decide)
theorem ClAt.ext (h : ClAt w g d A1 c1 A2 c2) (hx : Ext w w') : ClAt w' g d A1 c1 A2 c2 := h.oth (.ext hx)
theorem ClAt.grow {b e size n : Nat} {v : Value} {xs : List Value} (h : ClAt w g d A1 c1 A2 c2) (ho : w.ownsRow b e size v n xs) (he : e ≠ 37) (hg : w.grownBy w' v.ownBlock) : ClAt w' g d A1 c1 A2 c2 := by
  unfold ClAt at *
  refine (hg.block g (obj_lt h) ?_).trans h
  rcases owns_obj ho h he with h0 | h0
  · rw [h0]; simp
  · exact fun e => h0 e.symm
theorem ClAt.all (h : ClAt w g d A1 c1 A2 c2) : w.cell? ⟨g, 0, none⟩ = some (.int .i64 d.do_) ∧ w.cell? ⟨g, 1, none⟩ = some (.slice A1 d.shards.length c1) ∧ w.cell? ⟨g, 2, none⟩ = some (.int .i64 d.shard) ∧ w.cell? ⟨g, 3, none⟩ = some (.bool d.keep) ∧ w.cell? ⟨g, 4, none⟩ = some (.int .u8 (d.which : Int)) :=
  ⟨h.cell rfl, h.cell rfl, h.cell rfl, h.cell rfl, h.cell rfl⟩
theorem ClAt.tx (h : ClAt w g d A1 c1 A2 c2) : ∀ W, Ext w W → ∀ j v, (txiC d.tx)[j]? = some v → W.cell? ((⟨g, 5, none⟩ : Addr).add j) = some v := by
  intro W hx j v hj
  have hj3 : j < 3 := (List.getElem?_eq_some_iff.1 hj).1
  have e : (⟨g, 5, none⟩ : Addr).add j = ⟨g, 5 + j, none⟩ := by
    unfold Addr.add
    by_cases h0 : j = 0 <;> simp [h0]
  rw [e]
  refine hx.cell (h.cell ?_)
  match j, hj3 with
  | 0, _ => exact hj
  | 1, _ => exact hj
  | 2, _ => exact hj
end
/-- a store into who said yes leaves bytes and the call -/
theorem AMem.beside {w wr : World} {p gy n c : Nat} {tv sv fv : Value} {x : Cs} {txs : List TxI} {shs : List (List Int)} {yss : List (List Bool)} {fts : List Int} (h : AMem w wr p tv sv (.slice (some ⟨gy, 0, none⟩) n c) fv x txs shs yss fts) (j : Nat) (u : Value) {v : Value} {r : By} (ho : Own wr w.heap.size v r) {g : Nat} {d : Cl} {A1 : Option Addr} {c1 : Nat} {A2 : Option Addr} {c2 : Nat} (hc : ClAt wr g d A1 c1 A2 c2) :
    Own (wr.setCell ⟨gy, j, none⟩ u) w.heap.size v r ∧ ClAt (wr.setCell ⟨gy, j, none⟩ u) g d A1 c1 A2 c2 := by
  have hn : yss.length = n := by
    obtain ⟨A, c', e⟩ := own_form h.yo
    injection e with _ e _
    exact e.symm
  have hy := h.yo
  unfold OwnY at hy
  have hy' := hy
  rw [hn] at hy
  obtain ⟨_, q2⟩ := World.ownsRow.stored hy j u
  exact ⟨Own.kept ho q2 (owns_apart ho hy (by decide)), hc.grow (v := .slice (some ⟨gy, 0, none⟩) n c) hy (by decide) q2⟩
theorem AInv.voteNo {x : Cs} {es : List En} {id : TxI} {s : Int} {yes : Bool} (h : AInv x es) (hat : es.length = 0 ∨ ∃ k, ∃ h : k < es.length, id = es[k].tx) (hn : (voteO x id s yes).e ≠ 0 ∨ yes = false) : AInv (voteO x id s yes).s es := by
  rcases hat with h0 | ⟨k, hk, rfl⟩
  · obtain rfl := List.eq_nil_of_length_eq_zero h0
    exact h.vote0 id s yes
  · have h1 := h.vote hk s yes
    have h2 : votedE es[k] (voteO x es[k].tx s yes) s yes = es[k] := by
      unfold votedE
      rw [if_neg]
      rintro ⟨a, b⟩
      rcases hn with h3 | h3
      · exact h3 a
      · rw [h3] at b; cases b
    rw [h2, List.set_getElem_self] at h1
    exact h1
theorem map_set_same {α : Type} (f : En → α) {es : List En} {k : Nat} (hk : k < es.length) {e : En} (h : f e = f es[k]) : (es.set k e).map f = es.map f := by
  rw [List.map_set, h]
  apply List.ext_getElem (by simp)
  intro j h1 h2
  rw [List.getElem_set]
  split
  · rename_i hj
    subst hj
    simp
  · rfl
end Go.Proofs.Ytijopcdjlpafdaa
