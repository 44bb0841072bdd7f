/- The walk of slices.Delete at messages (one is cut out of a row of the call's own). Conditions: the place lies within the row. -/
import Derived.Test.YtbanjhfmddhndaaChecked
import Derived.Test.YtbanjhfmddhndaaUnd
import Derived.Deep.RegionLaw
namespace Go.Proofs.Ytbanjhfmddhndaa
open Go.RowKit
set_option maxHeartbeats 1000000 in
theorem del_row (g n cap i : Nat) (cur : Array Value) (w : World) (hg : w.heap[g]? = some (.cells cur 30 (0, 0))) (hn : n ≤ cap) (hc : cur.size = cap * 3) (hi : i < n) (h1 : ∀ u ∈ cur.toList.take (n * 3), u.oneCell' = true) :
    Calls Try.prog 26 #[.slice (some ⟨g, 0, none⟩) n cap, .int .i64 i, .int .i64 ((i : Int) + 1)] w fun e w' => e = .returned (.slice (some ⟨g, 0, none⟩) (n - 1) cap) ∧ w.grownBy w' (some g) ∧
      ∃ rest, w'.heap[g]? = some (.cells (cur.toList.take (i * 3) ++ (cur.toList.drop ((i + 1) * 3)).take ((n - (i + 1)) * 3) ++ rest).toArray 30 (0, 0)) ∧ i * 3 + (n - (i + 1)) * 3 + rest.length = cap * 3 := by
  obtain ⟨ad, had⟩ : ∃ ad : Addr, ad = if cap = i + 1 then ⟨g, 0, none⟩ else (⟨g, 0, none⟩ : Addr).add ((i + 1) * 3) := ⟨_, rfl⟩
  have hap := run_del_append undT hg hn hc hi h1 27 (cap - (i + 1)) (n - (i + 1)) rfl
  rw [← had] at hap
  have hel : Try.prog.elem 27 = 30 := by kernel_rfl
  have hut : Try.prog.underlying 27 = some (.slice (Try.prog.elem 27)) := by rw [hel]; exact Try.underlying27
  have e1 : ∀ W, (Instr.slice 27 (.slice (some ⟨g, 0, none⟩) n cap) none (some (.int .i64 (i : Int))) none).run Try.prog W = .ok (.slice (some ⟨g, 0, none⟩) i cap) W := fun W => by
    rw [run_slice_h W 27 _ _ _ hut .i64 _ (by omega) (by omega), hel, size3]
    simp [Result.andThen, sliced, Addr.add]
  have e2 : ∀ W, (Instr.slice 27 (.slice (some ⟨g, 0, none⟩) n cap) (some (.int .i64 ((i : Int) + 1))) none none).run Try.prog W = .ok (.slice (some ad) (n - (i + 1)) (cap - (i + 1))) W := fun W => by
    rw [run_slice_l W 27 _ _ _ hut .i64 _ (by omega) (by omega), hel, size3]
    have q : ((i : Int) + 1).toNat = i + 1 := by omega
    simp only [Result.andThen, sliced, q]
    rw [had]
    by_cases hq : cap = i + 1 <;> simp [hq]
  have hm1 : i + (n - (i + 1)) = n - 1 := by omega
  rw [hm1] at hap
  have hne : ((i : Int) == (i : Int) + 1) = false := beq_eq_false_iff_ne.2 (by omega)
  have e3 : ∀ W, (Instr.slice 27 (.slice (some ⟨g, 0, none⟩) (n - 1) cap) (some (.int .i64 ((n - 1 : Nat) : Int))) (some (.int .i64 (n : Int))) none).run Try.prog W = .ok (.slice (some ⟨g, (n - 1) * 3, none⟩) 1 (cap - (n - 1))) W := fun W => by
    rw [run_slice_lh W 27 _ _ _ hut .i64 .i64 _ _ (by omega) (by omega) (by omega), hel, size3]
    have q : n - (n - 1) = 1 := by omega
    have q2 : ¬ cap = n - 1 := by omega
    simp [Result.andThen, sliced, q, q2, Addr.add]
    intro h
    rw [h]
  have HAD := Lib.hid had
  have HM1 := Lib.hid hm1
  clear had hm1 hut hel
  go_enter Try.func26, Try.ntmps26
  go_wp2_with fail
  go_region_law (refine step_app_run (t := 27) (s := .tmp 22) (x := .tmp 25) rfl rfl (hap _ (Ext.refl _).drew) ?_)
  generalize hcl : (cur.toList.take (i * 3) ++ ((cur.toList.drop ((i + 1) * 3)).take ((n - (i + 1)) * 3) ++ cur.toList.drop (i * 3 + (n - (i + 1)) * 3))) = cl
  have hW : (w.drew.setRow g cl.toArray).heap[g]? = some (.cells cl.toArray 30 (0, 0)) := setRow_heap w.drew g cur cl.toArray 30 (0, 0) hg
  have hG : w.grownBy (w.drew.setRow g cl.toArray) (some g) := grown_drew (setRow_grown (w := w.drew) (g := g) cl.toArray)
  have hcs : cl.toArray.size = cap * 3 := by
    rw [← hcl]
    simp
    omega
  generalize w.drew.setRow g cl.toArray = W1 at hW hG
  have hcl := Lib.hid hcl
  have hn3 : n - 1 + 1 ≤ cap := by omega
  have hc3 := run_clear_one undT zeroU rfl (by intro u hu; simp [Value.cells] at hu; rcases hu with rfl | rfl | rfl <;> rfl) hW hn3 hcs 0 (cap - (n - 1)) _ rfl
  generalize hcl2 : ((cl.toArray.toList.take ((n - 1) * 3)) ++ (Value.agg #[.int .i64 0, .int .i64 0, .slice none 0 0]).cells.toList ++ cl.toArray.toList.drop ((n - 1) * 3 + 3)) = cl2 at hc3
  have hW2 : (W1.setRow g cl2.toArray).heap[g]? = some (.cells cl2.toArray 30 (0, 0)) := setRow_heap W1 g cl.toArray cl2.toArray 30 (0, 0) hW
  have hG2 : w.grownBy (W1.setRow g cl2.toArray) (some g) := grown_step hG (setRow_grown cl2.toArray) (.inl rfl)
  have hcl2 := Lib.hid hcl2
  generalize W1.setRow g cl2.toArray = W2 at hc3 hW2 hG2
  go_wp2
  go_ret
  refine ⟨rfl, hG2, (Value.agg #[.int .i64 0, .int .i64 0, .slice none 0 0]).cells.toList ++ cl.drop ((n - 1) * 3 + 3), ?_, ?_⟩
  · have hA : cl.toArray.toList.take ((n - 1) * 3) = cur.toList.take (i * 3) ++ (cur.toList.drop ((i + 1) * 3)).take ((n - (i + 1)) * 3) := by
      rw [← hcl.out]
      rw [← List.append_assoc, List.take_left' (by simp; omega)]
    rw [hW2, ← hcl2.out, hA]
    simp
  · have := hcl.out
    rw [← this]
    simp [Value.cells]
    omega
theorem del_own (us : List U) (i base : Nat) (M : List Nat) (v : Value) (wr w : World) (h : OwnR RU 3 30 M wr w base v us) (hi : i < us.length) :
    Calls Try.prog 26 #[v, .int .i64 i, .int .i64 ((i : Int) + 1)] w fun e w' => ∃ v', e = .returned v' ∧ OwnR RU 3 30 M wr w' base v' (us.eraseIdx i) ∧ ∀ w0, Ext w0 w → w0.heap.size ≤ base → Ext w0 w' := by
  obtain ⟨css, h1, h2, h3, h4⟩ := h
  rcases h3.2 with ⟨_, hn⟩ | ⟨g, cap, cur, rfl, hb, hg, hc, hm, hs, ht⟩
  · omega
  refine (del_row g us.length cap i cur w hg hc hs hi (by rw [ht]; exact RU.one h1 h4)).mono ?_
  rintro e w' ⟨rfl, hG, rest, hw', hr⟩
  have hl : (us.eraseIdx i).length = us.length - 1 := by rw [List.length_eraseIdx]; simp [hi]
  have h2' : ∀ cs ∈ css.eraseIdx i, cs.length = 3 := fun cs hcs => h2 cs (List.mem_of_mem_eraseIdx hcs)
  have hl' : (css.eraseIdx i).length = us.length - 1 := by rw [List.length_eraseIdx]; simp [hi, h1]
  refine ⟨_, rfl, ⟨css.eraseIdx i, by rw [hl, hl'], h2', ⟨by rw [flatten_length h2', hl, hl'], .inr ⟨g, cap, _, by rw [hl], hb, hw', by omega, hm, ?_, ?_⟩⟩, ?_⟩, ?_⟩
  · have := hs
    simp [List.length_take]
    omega
  · have e1 : (cur.toList.drop ((i + 1) * 3)).take ((us.length - (i + 1)) * 3) = (css.drop (i + 1)).flatten := by
      rw [← flatten_drop h2, ← ht, List.drop_take]
      congr 1
      omega
    have e2 : cur.toList.take (i * 3) = (css.take i).flatten := by
      rw [← flatten_take h2, ← ht, List.take_take]
      congr 1
      omega
    simp only []
    rw [hl, e1, e2, List.eraseIdx_eq_take_drop_succ, List.flatten_append, List.take_left']
    rw [List.length_append, flatten_length fun cs hcs => h2 cs (List.mem_of_mem_take hcs), flatten_length fun cs hcs => h2 cs (List.mem_of_mem_drop hcs)]
    simp
    omega
  · intro k cs x hk hx
    rw [List.getElem?_eraseIdx] at hk hx
    split at hk
    · exact h4 k cs x hk (by simpa [*] using hx)
    · exact h4 (k + 1) cs x hk (by simpa [*] using hx)
  · intro w0 hx hb0
    exact hx.grown hG (by intro k hk; injection hk with hk; omega)
end Go.Proofs.Ytbanjhfmddhndaa
