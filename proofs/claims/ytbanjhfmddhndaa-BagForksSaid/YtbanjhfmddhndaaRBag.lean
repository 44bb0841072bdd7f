/- The reference's bag in memory; the walks of its New, Len, at, out. Conditions: those of IsRB. -/
import Derived.Test.YtbanjhfmddhndaaBag9
import Derived.Test.YtbanjhfmddhndaaPhase
namespace Go.Proofs.Ytbanjhfmddhndaa
open Go.RowKit
attribute [local go_sem] pt uv
structure Rg where
  most : Int
  all : List U
  there : List Bool
  gone : Int
def tv (l : List Bool) : List Value := l.map .bool
@[simp] theorem tv_length (l : List Bool) : (tv l).length = l.length := by simp [tv]
theorem tv_get {l : List Bool} {k : Nat} (hk : k < l.length) : (tv l)[k]? = some (.bool l[k]) := by simp [tv, hk]
def IsRB (M : List Nat) (w : World) (q : Nat) (r : Rg) : Prop :=
  ∃ A c T ct, w.heap[q]? = some (.cells #[.int .i64 r.most, .slice A r.all.length c, .slice T r.there.length ct, .int .i64 r.gone] 63 (0, 0)) ∧ RsM RU 3 M w A r.all ∧ SlM M w T (tv r.there) ∧ r.all.length = r.there.length
section
variable {M N : List Nat} {w w' : World} {q : Nat} {r : Rg}
theorem IsRB.kept (h : IsRB M w q r) (k : Kept N w w') (hq : q ∉ N) (hs : ∀ k ∈ N, k ∈ M) : IsRB M w' q r := by
  obtain ⟨A, c, T, ct, h1, h2, h3, h4⟩ := h
  exact ⟨A, c, T, ct, k.heap h1 hq, h2.kept (k.mono hs), h3.kept (k.mono hs), h4⟩
theorem IsRB.ext (h : IsRB M w q r) (k : Ext w w') : IsRB M w' q r := h.kept (N := []) (.of_ext k) (by simp) (by simp)
theorem IsRB.old (h : IsRB M w q r) (hs : ∀ k ∈ N, k ∈ M ∨ w.heap.size ≤ k) : IsRB N w q r := by
  obtain ⟨A, c, T, ct, h1, h2, h3, h4⟩ := h
  exact ⟨A, c, T, ct, h1, h2.old hs, h3.old hs, h4⟩
theorem IsRB.lt (h : IsRB M w q r) : q < w.heap.size := by
  obtain ⟨A, c, T, ct, h1, _⟩ := h
  exact obj_lt h1
end
theorem RNew_ok (n : Int) (w : World) (h1 : 1 ≤ n) (h2 : n ≤ 48) : Calls Try.prog 27 #[.int .i64 n] w fun e w' => e = .returned (.tuple #[pt w.heap.size, .int .i64 0]) ∧ Ext w w' ∧ ∀ M, IsRB M w' w.heap.size ⟨n, [], [], 0⟩ := by
  go_enter Try.func27, Try.ntmps27
  go_wp2
  all_goals
    refine bodyPost_ret (v := .tuple #[pt w.heap.size, .int .i64 0]) (by simp [results, Try.results27, go_sem, pt]) rfl ?_
    exact ⟨rfl, (Ext.refl _).alloc _, fun M => ⟨none, 0, none, 0, heap_alloc_new _ _, RsM.nil _ _ _ _ _, SlM.nil _ _ _, rfl⟩⟩
theorem RNew_no (n : Int) (w : World) (h : n < 1 ∨ 48 < n) : Calls Try.prog 27 #[.int .i64 n] w fun e w' => e = .returned (.tuple #[.pointer none, .int .i64 2]) ∧ w' = w := by
  rcases h with h | h
  · go_enter Try.func27, Try.ntmps27
    go_wp2
    refine bodyPost_ret (v := .tuple #[.pointer none, .int .i64 2]) (by simp [results, Try.results27, go_sem]) rfl ?_
    exact ⟨rfl, rfl⟩
  · have h1 : ¬ n < 1 := by omega
    go_enter Try.func27, Try.ntmps27
    go_wp2
    refine bodyPost_ret (v := .tuple #[.pointer none, .int .i64 2]) (by simp [results, Try.results27, go_sem]) rfl ?_
    exact ⟨rfl, rfl⟩
def cntB (l : List Bool) : Nat := l.count true
theorem cntB_take {l : List Bool} {k : Nat} (hk : k < l.length) : cntB (l.take (k + 1)) = cntB (l.take k) + if l[k] then 1 else 0 := by
  unfold cntB
  rw [List.take_succ_eq_append_getElem hk, List.count_append]
  cases l[k] <;> simp
theorem cntB_le (l : List Bool) : cntB l ≤ l.length := List.count_le_length
set_option maxHeartbeats 400000 in
theorem RLen_any (q : Nat) (r : Rg) (M : List Nat) (w : World) (h : IsRB M w q r) (hn : r.there.length ≤ 1000000) : Calls Try.prog 20 #[pt q] w fun e w' => e = .returned (.int .i64 (cntB r.there)) ∧ w = w' := by
  obtain ⟨A, c, T, ct, h1, _, h3, _⟩ := h
  obtain ⟨c0, c1, c2, c3, f0⟩ := row4_at h1
  clear h1
  unfold pt
  go_enter Try.func20, Try.ntmps20
  go_wp2
  go_loop [3, 4] (fun n i => ∃ k : Nat, k ≤ r.there.length ∧ i = .int .i64 k ∧ n = .int .i64 (cntB (r.there.take k) : Nat)) (fun _ i => r.there.length - (intOf i).toNat)
  case atStart => exact ⟨0, by omega, rfl, rfl⟩
  case round =>
    obtain ⟨k, hk, rfl, rfl⟩ := hrel
    have hc := cntB_le (r.there.take k)
    rw [List.length_take] at hc
    have hc2 : cntB (r.there.take k) ≤ 1000000 := by omega
    clear hc
    by_cases hlt : k < r.there.length
    · obtain ⟨ad, rfl, hcell⟩ := Sl.now h3.sl (tv_get hlt)
      have ht := cntB_take hlt
      have hlt2 : (k : Int) < r.there.length := by omega
      generalize cntB (r.there.take k) = n0 at *
      generalize r.there[k] = t at *
      have HT := Lib.hid ht
      clear ht
      cases t with
      | true =>
        go_wp2
        go_round
        case rel => exact ⟨k + 1, by omega, by go_num, by rw [HT.out]; go_num⟩
        case measure => simp [intOf]; omega
      | false =>
        go_wp2
        go_round
        case rel => exact ⟨k + 1, by omega, by go_num, by rw [HT.out]; rfl⟩
        case measure => simp [intOf]; omega
    · have hk' : k = r.there.length := by omega
      subst hk'
      have hlt2 : ¬ (r.there.length : Int) < r.there.length := by omega
      go_wp2
      go_ret
      exact ⟨rfl, rfl⟩
/-- the number of the i-th that is there -/
def nth : List Bool → Nat → Option Nat
  | [], _ => none
  | true :: _, 0 => some 0
  | true :: r, i + 1 => (nth r i).map (· + 1)
  | false :: r, i => (nth r i).map (· + 1)
def atI (l : List Bool) (i : Int) : Int := if i < 0 then -1 else match nth l i.toNat with | some k => (k : Int) | none => -1
end Go.Proofs.Ytbanjhfmddhndaa
