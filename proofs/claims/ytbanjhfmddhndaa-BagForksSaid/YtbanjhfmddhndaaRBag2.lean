/- The walks of the reference's at, out, Add. Conditions: those of IsRB; the bag's own block is older than the call. -/
import Derived.Test.YtbanjhfmddhndaaRBag
namespace Go.Proofs.Ytbanjhfmddhndaa
open Go.RowKit
attribute [local go_sem] pt uv
theorem boolsT : ElemOf Try.prog 61 4 1 1 := ElemOf.mk' (z := .bool false) Try.underlying61 (by kernel_rfl) rfl (by omega)
theorem tv_one (l : List Bool) : ∀ u ∈ tv l, u.oneCell' = true := by
  intro u hu
  simp only [tv, List.mem_map] at hu
  obtain ⟨c, _, rfl⟩ := hu
  rfl
theorem nth_lt {l : List Bool} : ∀ {i k : Nat}, nth l i = some k → k < l.length ∧ l[k]? = some true := by
  induction l with
  | nil => intro i k h; simp [nth] at h
  | cons t l ih =>
    intro i k h
    cases t with
    | true =>
      cases i with
      | zero => simp [nth] at h; subst h; simp
      | succ i =>
        simp only [nth, Option.map_eq_some_iff] at h
        obtain ⟨j, hj, rfl⟩ := h
        obtain ⟨h1, h2⟩ := ih hj
        exact ⟨by simpa using h1, by simpa using h2⟩
    | false =>
      simp only [nth, Option.map_eq_some_iff] at h
      obtain ⟨j, hj, rfl⟩ := h
      obtain ⟨h1, h2⟩ := ih hj
      exact ⟨by simpa using h1, by simpa using h2⟩
def AtSays (l : List Bool) (i : Nat) (e : Ending) : Prop := e = .returned (.int .i64 (match nth l i with | some k => (k : Int) | none => -1))
theorem AtSays.some {l : List Bool} {i k : Nat} (h : nth l i = some k) : AtSays l i (.returned (.int .i64 (k : Int))) := by unfold AtSays; rw [h]
theorem AtSays.none {l : List Bool} {i : Nat} (h : nth l i = none) : AtSays l i (.returned (.int .i64 (-1))) := by unfold AtSays; rw [h]
theorem Rat_neg (q : Nat) (i : Int) (w : World) (hi : i < 0) : Calls Try.prog 32 #[pt q, .int .i64 i] w fun e w' => e = .returned (.int .i64 (-1)) ∧ w = w' := by
  unfold pt
  go_enter Try.func32, Try.ntmps32
  go_wp2
  go_ret
  exact ⟨rfl, rfl⟩
set_option maxHeartbeats 400000 in
theorem Rat_nat (q : Nat) (i : Nat) (r : Rg) (M : List Nat) (w : World) (h : IsRB M w q r) (hn : r.there.length ≤ 1000000) (hi : i ≤ 9223372036854775807) : Calls Try.prog 32 #[pt q, .int .i64 i] w fun e w' => AtSays r.there i e ∧ w = w' := by
  obtain ⟨A, c, T, ct, h1, _, h3, _⟩ := h
  obtain ⟨c0, c1, c2, c3, f0⟩ := row4_at h1
  clear h1
  unfold pt
  go_enter Try.func32, Try.ntmps32
  go_wp2
  go_loop [1, 5] (fun j i' => ∃ k m : Nat, k ≤ r.there.length ∧ i' = .int .i64 k ∧ j = .int .i64 m ∧ m ≤ 9223372036854775807 ∧ nth r.there i = (nth (r.there.drop k) m).map (· + k)) (fun _ i' => r.there.length - (intOf i').toNat)
  case atStart => exact ⟨0, i, by omega, rfl, rfl, hi, by simp⟩
  case round =>
    obtain ⟨k, m, hk, rfl, rfl, hm, he⟩ := hrel
    by_cases hlt : k < r.there.length
    · obtain ⟨ad, rfl, hcell⟩ := Sl.now h3.sl (tv_get hlt)
      have hlt2 : (k : Int) < r.there.length := by omega
      rw [List.drop_eq_getElem_cons hlt] at he
      generalize r.there[k] = t at *
      cases t with
      | true =>
        by_cases hm0 : m = 0
        · have e0 : ((m : Int) == 0) = true := by rw [hm0]; rfl
          have hq := AtSays.some (l := r.there) (i := i) (k := k) (by rw [he, hm0]; simp [nth])
          clear hm0 he
          have HQ := Lib.hid hq
          clear hq
          go_wp2
          go_ret
          exact ⟨HQ.out, rfl⟩
        · have e0 : ((m : Int) == 0) = false := by simp; omega
          obtain ⟨m', rfl⟩ : ∃ m' : Nat, m = m' + 1 := ⟨m - 1, by omega⟩
          have hq : nth r.there i = (nth (r.there.drop (k + 1)) m').map (· + (k + 1)) := by
            rw [he]
            simp only [nth, Option.map_map]
            congr 1
            funext x
            simp
            omega
          have HQ := Lib.hid hq
          have hm1 : (1 : Int) ≤ ((m' + 1 : Nat) : Int) := by omega
          clear hm0 he hq
          go_wp2
          go_round
          case rel => exact ⟨k + 1, m', by omega, by go_num, by go_num, by omega, HQ.out⟩
          case measure => simp [intOf]; omega
      | false =>
        have hq : nth r.there i = (nth (r.there.drop (k + 1)) m).map (· + (k + 1)) := by
          rw [he]
          simp only [nth, Option.map_map]
          congr 1
          funext x
          simp
          omega
        have HQ := Lib.hid hq
        clear he hq
        go_wp2
        go_round
        case rel => exact ⟨k + 1, m, by omega, by go_num, rfl, hm, HQ.out⟩
        case measure => simp [intOf]; omega
    · have hk' : k = r.there.length := by omega
      subst hk'
      have hlt2 : ¬ (r.there.length : Int) < r.there.length := by omega
      have hq := AtSays.none (l := r.there) (i := i) (by rw [he]; simp [nth])
      have HQ := Lib.hid hq
      clear hq he
      go_wp2
      go_ret
      exact ⟨HQ.out, rfl⟩
set_option maxHeartbeats 400000 in
theorem Rout_ok (q k : Nat) (r : Rg) (M : List Nat) (w : World) (h : IsRB M w q r) (hM : ∀ k ∈ M, k < w.heap.size) (hq : q ∈ M) (hn : r.there.length ≤ 1000000) (hk : k < r.there.length) :
    Calls Try.prog 33 #[pt q, .int .i64 k] w fun e w' => e = .returned (.tuple #[]) ∧ Kept [q] w w' ∧ IsRB M w' q ⟨r.most, r.all, r.there.set k false, r.gone⟩ := by
  obtain ⟨A, c, T, ct, h1, h2, h3, h4⟩ := h
  have hqlt := obj_lt h1
  obtain ⟨c0, c1, c2, c3, f0⟩ := row4_at h1
  have H1 := Lib.hid h1
  have H4 := Lib.hid h4
  have HM := Lib.hid hM
  clear h1 h4 hM
  have hx0 := (Ext.refl w).alloc (.cells #[] 4)
  have hm0 := World.ownsRow_made (base := w.heap.size) (e := 4) (size := 1) w #[] 0 (Nat.le_refl _) (by simp [maxLen]) rfl
  unfold pt
  go_enter Try.func33, Try.ntmps33
  go_wp2_with (at_builtin; refine unstop ?_)
  refine go_on (wpList_app boolsT (xs := []) hm0 (h3.sl.ext hx0) rfl rfl rfl rfl (by simp) (tv_one _) (by simp; omega) (by simp; omega) (by simp) ?_)
  intro v' w1 hown1 hg1 hor1
  simp only [Nat.zero_add, List.nil_append] at hown1
  have hx1 := Ext.own hx0 hm0 (Nat.le_refl _) hg1
  have hk2 : (k : Int) < r.there.length := by omega
  obtain ⟨g, cap, hg⟩ : ∃ g cap, v' = .slice (some ⟨g, 0, none⟩) r.there.length cap := by
    rcases hown1.2 with ⟨_, hn⟩ | ⟨g, cap, cur, hv, _⟩
    · omega
    · exact ⟨g, cap, hv⟩
  subst hg
  have hgl := hown1.lt g rfl
  have hcell := hown1.cellAt k (by omega)
  rw [tv_get hk] at hcell
  have hfro := hown1.frozenAt k
  have hst := (hown1.stored k (.bool false)).1
  have hset : (tv r.there).set k (.bool false) = tv (r.there.set k false) := by simp [tv, List.map_set]
  rw [hset] at hst
  have hx2 : Ext w (w1.setCell ⟨g, k, none⟩ (.bool false)) := hx1.setCell hgl.1 _
  have hrow := hx2.obj H1.out
  obtain ⟨d0, d1, d2, d3, g0⟩ := row4_at hrow
  have HS := Lib.hid hst
  clear hst hset hown1 hor1 hg1
  go_wp2
  go_end0
  have hkq := (Kept.refl [q] (w1.setCell ⟨g, k, none⟩ (.bool false))).setCell (p := ⟨q, 2, none⟩) (.inl (by simp)) (.slice (some ⟨g, 0, none⟩) r.there.length cap)
  have hkM : Kept M w ((w1.setCell ⟨g, k, none⟩ (.bool false)).setCell ⟨q, 2, none⟩ (.slice (some ⟨g, 0, none⟩) r.there.length cap)) := (Kept.of_ext hx2).trans (hkq.mono (by simp; exact hq))
  have hrow2 := heap_setCell_same _ q 2 _ _ (.slice (some ⟨g, 0, none⟩) r.there.length cap) hrow
  refine ⟨rfl, (Kept.of_ext hx2).trans hkq, A, c, some ⟨g, 0, none⟩, cap, by simpa using hrow2, h2.kept hkM, ?_, by simpa using H4.out⟩
  have := (SlM.own (M := M) HS.out rfl HM.out).kept (hkq.mono (by simp; exact hq))
  exact this
end Go.Proofs.Ytbanjhfmddhndaa
