/- The walks of deed.read and its deferred closure. Conditions: the hypotheses of each theorem. -/
import Derived.Test.YthlppbbejdeeoaaDd1
import Derived.Test.YthlppbbejdeeoaaDd3
import Derived.Tactics2
import Derived.Defers
import Derived.Recover
import Derived.Laws.Pointers
namespace Go.Proofs.Ythlppbbejdeeoaa
open Go.RowKit
theorem fault_is (W : World) (v : Value) : (Instr.typeAssert (.iface 115 v) 20 115 true).run Try.prog W = .ok (.tuple #[v, .bool true]) W := by kernel_rfl
theorem fault_no (W : World) : (Instr.typeAssert .nilIface 20 115 true).run Try.prog W = .ok (.tuple #[.agg #[.int .i64 0], .bool false]) W := by kernel_rfl
theorem rep17 : Array.replicate 17 undef = #[undef, undef, undef, undef, undef, undef, undef, undef, undef, undef, undef, undef, undef, undef, undef, undef, undef] := rfl
theorem catch_panicking (g : Nat) (k : Nat) (x : Value) (w : World) (hg : w.heap[g]? = some (.cells #[x] 29 (0, 0))) :
    CallsD Try.prog 57 #[pt g] (.panicking [{ v := fv k, recovered := false }]) w fun e u' w' =>
      e = .returned (.tuple #[]) ∧ u' = .panicking [{ v := fv k, recovered := true }] ∧ w'.heap[g]? = some (.cells #[.int .i64 (k : Nat)] 29 (0, 0)) ∧ Kept [g] w w' := by
  obtain ⟨C0, F0⟩ := row1_cell hg
  unfold fv pt
  refine callsD_of_wpS Try.func57 rfl fun c₀ cs hu => ?_
  apply wpS_seq
  apply wpS_region
  simp [wpOpsS, go_sem, recoverD, hu, Try.ntmps57, Exit.thenS, rep17]
  refine wpS_of_wp ?_
  have hta := fault_is
  go_wp2
  simp [go_sem, bodyPostS, results, Try.results57]
  refine ⟨?_, ?_⟩
  · rw [heap_setCell_same _ g 0 _ _ _ (((Ext.refl w).alloc _).obj hg)]
    rfl
  · exact ((Kept.refl _ _).alloc _).setCell (.inl (by simp)) _
theorem catch_idle (g : Nat) (x : Value) (w : World) (hg : w.heap[g]? = some (.cells #[x] 29 (0, 0))) :
    CallsD Try.prog 57 #[pt g] .returning w fun e u' w' =>
      e = .returned (.tuple #[]) ∧ u' = .returning ∧ w'.heap[g]? = some (.cells #[x] 29 (0, 0)) ∧ Ext w w' := by
  obtain ⟨C0, F0⟩ := row1_cell hg
  unfold pt
  refine callsD_of_wpS Try.func57 rfl fun c₀ cs hu => ?_
  apply wpS_seq
  apply wpS_region
  simp [wpOpsS, go_sem, recoverD, hu, Try.ntmps57, Exit.thenS, rep17]
  refine wpS_of_wp ?_
  have hta := fault_no
  go_wp2
  simp [go_sem, bodyPostS, results, Try.results57]
  refine ⟨.returning, ?_, rfl, ((Ext.refl w).alloc _).obj hg⟩
  cases c₀
  simp_all
def DoSays {α : Type} (q : Nat ⊕ (α × By)) (V : α → World → Prop) (Vb : World → Prop) (w0 w1 : World) (R O : Nat) (e : Ending) (w2 : World) : Prop :=
  match q with
  | .inl k => Pan k e ∧ Kept [R, O] w1 w2 ∧ Ext w0 w2 ∧ Vb w2
  | .inr (a, r) => e = .returned (.tuple #[]) ∧ V a w2 ∧ RAt w0 w2 R r ∧ Kept [R, O] w1 w2
def ReadSays {α : Type} (q : Nat ⊕ α) (V : α → World → Prop) (Vb : World → Prop) (w0 w : World) (O : Nat) (e : Ending) (w' : World) : Prop :=
  match q with
  | .inl k => e = .returned (.int .i64 (k : Nat)) ∧ Kept [O] w w' ∧ Ext w0 w' ∧ Vb w'
  | .inr a => e = .returned (.int .i64 0) ∧ V a w' ∧ Kept [O] w w' ∧ Ext w0 w'
set_option maxHeartbeats 2000000 in
theorem read_any {α : Type} (p : Prs α) (K O : Nat) (V : α → World → Prop) (Vb : World → Prop) (w0 w : World) (A : Option Addr) (c : Nat) (l : By) (hx : Ext w0 w) (hb : Bs w0 A l) (hlc : l.length ≤ c) (hO : O < w.heap.size) (hO0 : w0.heap.size ≤ O)
    (hcf : ∀ args w, (callFunc K args).run Try.prog w = .ok (.enter K args) w)
    (hdo : ∀ w1 R, Ext w w1 → w.heap.size ≤ R → RAt w0 w1 R l → Calls Try.prog K #[pt R, pt O] w1 (DoSays (p l) V Vb w0 w1 R O))
    (hV : ∀ a w1 w2 g x, V a w1 → w1.heap[g]? = some (.cells #[x] 29 (0, 0)) → Kept [g] w1 w2 → V a w2)
    (hVb : ∀ w1 w2 g x, Vb w1 → w1.heap[g]? = some (.cells #[x] 29 (0, 0)) → Kept [g] w1 w2 → Vb w2) (hVV : ∀ a w1, V a w1 → Vb w1) :
    Calls Try.prog 44 #[.slice A l.length c, .func (Fn.func K) #[] #[pt O]] w (ReadSays (readP p l) V Vb w0 w O) := by
  have hmf : ∀ (fn : Fn) (first cap : Array Value) (w : World), (Instr.makeFunc fn first cap).run Try.prog w = .ok (.func fn first cap) w := fun _ _ _ _ => rfl
  obtain ⟨wr, hwr⟩ : ∃ wr, wr = (w.alloc (.cells #[.int .i64 0] 29)).alloc (.cells #[.slice A l.length c] 118) := ⟨_, rfl⟩
  have hxr : Ext w wr := by rw [hwr]; exact ((Ext.refl w).alloc _).alloc _
  have hsz : wr.heap.size = w.heap.size + 2 := by rw [hwr]; simp
  have hg : wr.heap[w.heap.size]? = some (.cells #[.int .i64 0] 29 (0, 0)) := by
    rw [hwr]; exact ((Ext.refl _).alloc _).obj (heap_alloc_new w _)
  have hR : RAt w0 wr (w.heap.size + 1) l := ⟨by have := hx.size; omega, hx.trans hxr, A, c, by
    have := heap_alloc_new (w.alloc (.cells #[.int .i64 0] 29)) (.cells #[.slice A l.length c] 118)
    rw [hwr]; simpa using this, hlc, hb⟩
  have HD := hdo wr (w.heap.size + 1) hxr (by omega) hR
  have HWR := Lib.hid hwr
  clear hdo hwr
  unfold pt at *
  cases hp : p l with
  | inl k =>
    rw [hp] at HD
    have HP : Hid (readP p l = .inl k) := Lib.hid (by unfold readP; rw [hp])
    clear hp
    unfold DoSays at HD
    go_enter_defers Try.func44, Try.ntmps44
    go_wp2_with fail
    rw [← HWR.out]
    refine HD.mono ?_
    rintro e w2 ⟨he, hk, hx2, hvb⟩
    unfold Pan fv at he
    subst he
    have hg2 := hk.heap hg (by simp; omega)
    refine leaves_cons (f := 57) (args := #[.pointer (some ⟨w.heap.size, 0, none⟩)]) (by simp) (by simp [go_sem]) ?_
    refine (catch_panicking w.heap.size _ _ _ hg2).mono ?_
    rintro e u' w3 ⟨rfl, rfl, hg3, hk3⟩
    have C3 := (row1_cell hg3).1 _ (Ext.refl _)
    have hkk : Kept [O] w w3 := (Kept.of_ext hxr).trans (hk.mono (by simp)) |>.trans (hk3.mono (by simp)) |>.less (M := [O, w.heap.size + 1, w.heap.size]) (by intro k hk hlt; simp at hk; rcases hk with rfl | rfl | rfl <;> simp <;> omega)
    have hx3 : Ext w0 w3 := hx2.kept hk3 (by intro k hk; simp at hk; have := hx.size; omega)
    simp [Leaves, settle, results, Try.results44, go_sem]
    rw [C3]
    refine ⟨_, rfl, ?_⟩
    unfold ReadSays
    rw [HP.out]
    exact ⟨rfl, hkk, hx3, hVb _ _ _ _ hvb hg2 hk3⟩
  | inr q =>
    obtain ⟨a, r⟩ := q
    rw [hp] at HD
    unfold DoSays at HD
    by_cases hr0 : r = []
    · subst hr0
      have HP : Hid (readP p l = .inr a) := Lib.hid (by unfold readP; rw [hp]; rfl)
      have HM := must_any true
      clear hp
      go_enter_defers Try.func44, Try.ntmps44
      go_wp2_with fail
      rw [← HWR.out]
      refine HD.mono ?_
      rintro e w2 ⟨rfl, hv, hr, hk⟩
      have hg2 := hk.heap hg (by simp; omega)
      obtain ⟨_, hx2, A2, c2, hrow, _, _⟩ := hr
      obtain ⟨C0, F0⟩ := row1_cell hrow
      obtain ⟨C1, F1⟩ := row1_cell hg2
      go_wp2_with fail
      refine (HM w2).mono ?_
      rintro e w3 ⟨he, rfl⟩
      unfold MustSays at he
      subst he
      go_wp2
      have hk2 : Kept [w.heap.size] w2 (w2.setCell ⟨w.heap.size, 0, none⟩ (.int .i64 0)) := (Kept.refl _ _).setCell (.inl (by simp)) _
      have hg2' := heap_setCell_same w2 w.heap.size 0 _ _ (.int .i64 0) hg2
      refine leaves_cons (f := 57) (args := #[.pointer (some ⟨w.heap.size, 0, none⟩)]) (by simp) (by simp [go_sem]) ?_
      refine (catch_idle w.heap.size _ _ hg2').mono ?_
      rintro e u' w3 ⟨rfl, rfl, hg3, hk3⟩
      have C3 := (row1_cell hg3).1 _ (Ext.refl _)
      have hk4 := hk2.ext hk3
      have hkk : Kept [O] w w3 := (Kept.of_ext hxr).trans (hk.mono (by simp)) |>.trans (hk4.mono (by simp)) |>.less (M := [O, w.heap.size + 1, w.heap.size]) (by intro k hk hlt; simp at hk; rcases hk with rfl | rfl | rfl <;> simp <;> omega)
      have hx3 : Ext w0 w3 := hx2.kept hk4 (by intro k hk; simp at hk; have := hx.size; omega)
      have hv3 := hV a _ _ _ _ hv hg2 hk4
      simp [Leaves, settle, results, Try.results44, go_sem]
      rw [C3]
      refine ⟨_, rfl, ?_⟩
      unfold ReadSays
      rw [HP.out]
      exact ⟨rfl, hv3, hkk, hx3⟩
    · have HP : Hid (readP p l = .inl 4) := Lib.hid (by unfold readP; rw [hp]; simp [hr0])
      have HM := must_any false
      clear hp
      go_enter_defers Try.func44, Try.ntmps44
      go_wp2_with fail
      rw [← HWR.out]
      refine HD.mono ?_
      rintro e w2 ⟨rfl, hv, hr, hk⟩
      have hg2 := hk.heap hg (by simp; omega)
      obtain ⟨_, hx2, A2, c2, hrow, _, _⟩ := hr
      obtain ⟨C0, F0⟩ := row1_cell hrow
      have hrl : ((r.length : Int) == 0) = false := by simpa using hr0
      go_wp2_with fail
      refine (HM w2).mono ?_
      rintro e w3 ⟨he, rfl⟩
      unfold MustSays Pan fv at he
      subst he
      refine leaves_cons (f := 57) (args := #[.pointer (some ⟨w.heap.size, 0, none⟩)]) (by simp) (by simp [go_sem]) ?_
      refine (catch_panicking w.heap.size _ _ _ hg2).mono ?_
      rintro e u' w3 ⟨rfl, rfl, hg3, hk3⟩
      have C3 := (row1_cell hg3).1 _ (Ext.refl _)
      have hkk : Kept [O] w w3 := (Kept.of_ext hxr).trans (hk.mono (by simp)) |>.trans (hk3.mono (by simp)) |>.less (M := [O, w.heap.size + 1, w.heap.size]) (by intro k hk hlt; simp at hk; rcases hk with rfl | rfl | rfl <;> simp <;> omega)
      have hx3 : Ext w0 w3 := hx2.kept hk3 (by intro k hk; simp at hk; have := hx.size; omega)
      simp [Leaves, settle, results, Try.results44, go_sem]
      rw [C3]
      refine ⟨_, rfl, ?_⟩
      unfold ReadSays
      rw [HP.out]
      exact ⟨rfl, hkk, hx3, hVb _ _ _ _ (hVV a _ hv) hg2 hk3⟩
end Go.Proofs.Ythlppbbejdeeoaa
