/- The walk of deed's reader.deed. Condition: the bound named. Printed by gen/dd4.py. -/
import Derived.Test.YthlppbbejdeeoaaDd1
import Derived.Test.YthlppbbejdeeoaaDd3
import Derived.Test.YthlppbbejdeeoaaStop
namespace Go.Proofs.Ythlppbbejdeeoaa
open Go.RowKit
def zDeed : Array Value := #[.int .i64 0, .string ⟨#[]⟩, .string ⟨#[]⟩, .string ⟨#[]⟩, .int .i64 0, .int .i64 0, .int .u8 0, .int .i64 0, .int .i64 0, .slice none 0 0]
theorem deed_info : (Try.prog.info? 48).map (fun i => (i.zero, i.size)) = some (some (.agg zDeed), 10) := by kernel_rfl
def ddC (d : Dd) (v : Value) : Array Value := #[.int .i64 d.dw, .string (st d.user), .string (st d.box), .string (st d.dest), .int .i64 d.uid, .int .i64 d.how, .int .u8 (d.flags.toNat : Int), .int .i64 d.shard, .int .i64 d.epoch, v]
/-- a deed of the call's own -/
def DdO (w : World) (base : Nat) (d : Dd) (v : Value) : Prop := ∃ pv, v = .agg (ddC d pv) ∧ Own w base pv d.bytes
set_option maxRecDepth 20000 in
set_option maxHeartbeats 4000000 in
theorem rdeed_any (w0 w : World) (R : Nat) (l : By) (h : RAt w0 w R l) (hl : l.length ≤ 140737488355328) :
    Calls Try.prog 48 #[pt R] w (Reads deedP l w0 w R fun d w' v => DdO w' w.heap.size d v) := by
  have hw0 := h.e.size
  obtain ⟨g0, hg0⟩ : ∃ g, g = w.heap.size := ⟨_, rfl⟩
  have HG0 := Lib.hid hg0
  have hr0 : RAt w0 (w.alloc (.cells zDeed 48)) R l := h.ext ((Ext.refl w).alloc _)
  have hk0 : Kept [R] w (w.alloc (.cells zDeed 48)) := .of_ext ((Ext.refl w).alloc _)
  have hrow0 : (w.alloc (.cells zDeed 48)).heap[g0]? = some (.cells zDeed 48 (0, 0)) := by rw [hg0]; exact heap_alloc_new w _
  have hne : g0 ≠ R := by have := h.lt; omega
  have hN := fun (w1 : World) (l1 : By) (n : Nat) (hn : n ≤ 4) (h1 : RAt w0 w1 R l1) => rnum_any w0 w1 R n l1 h1 hn
  have hS := fun (w1 : World) (l1 : By) (h1 : RAt w0 w1 R l1) => rshort_any w0 w1 R l1 h1
  have hL := fun (w1 : World) (l1 : By) (h1 : RAt w0 w1 R l1) (hl1 : l1.length ≤ 140737488355328) => rlong_any w0 w1 R l1 h1 hl1
  generalize hw1 : w.alloc (.cells zDeed 48) = wa at hr0 hk0 hrow0
  have HWA := Lib.hid hw1
  clear h hw1 hg0
  unfold pt at *
  go_enter Try.func48, Try.ntmps48
  go_wp2_with (first | (with_reducible refine stop_alloc 48 ?_) | (with_reducible refine stop_store 48 ?_) | (with_reducible refine stop_load 48 ?_))
  refine go_on (wpList_alloc_ rfl rfl deed_info ?_)
  rw [HWA.out]
  go_wp2_with fail
  refine (hN _ _ 1 (by omega) hr0).mono ?_
  rintro e w1 hq
  unfold Reads at hq
  cases hp : numP 1 l with
  | inl k =>
    rw [hp] at hq
    obtain ⟨he, hk, hx⟩ := hq
    unfold Pan fv at he
    subst he
    have HP : Hid (deedP l = .inl k) := Lib.hid (by simp only [deedP, andP, hp])
    have hk9 := hk0.trans hk
    clear hk hp
    go_wp2
    unfold Reads
    rw [HP.out]
    exact ⟨rfl, rfl, hk9, hx⟩
  | inr q =>
    obtain ⟨o, l1⟩ := q
    rw [hp] at hq
    obtain ⟨⟨v, rfl, rfl⟩, hr1, hk10⟩ := hq
    have hk1 := hk0.trans hk10
    have hrow0 := hk10.heap hrow0 (by simpa using hne)
    have H1 := Lib.hid hp
    clear hp hk10 hr0 hk0
    go_wp2_with fail
    refine (hS _ _ hr1).mono ?_
    rintro e w2 hq
    unfold Reads at hq
    cases hp : shortP l1 with
    | inl k =>
      rw [hp] at hq
      obtain ⟨he, hk, hx⟩ := hq
      unfold Pan fv at he
      subst he
      have HP : Hid (deedP l = .inl k) := Lib.hid (by simp only [deedP, andP, H1.out, hp])
      have hk9 := hk1.trans hk
      clear hk hp
      go_wp2
      unfold Reads
      rw [HP.out]
      exact ⟨rfl, rfl, hk9, hx⟩
    | inr q =>
      obtain ⟨u, l2⟩ := q
      rw [hp] at hq
      obtain ⟨⟨v, rfl, rfl⟩, hr2, hk20⟩ := hq
      have hk2 := hk1.trans hk20
      have hrow0 := hk20.heap hrow0 (by simpa using hne)
      have H2 := Lib.hid hp
      clear hp hk20 hr1 hk1
      go_wp2_with fail
      refine (hS _ _ hr2).mono ?_
      rintro e w3 hq
      unfold Reads at hq
      cases hp : shortP l2 with
      | inl k =>
        rw [hp] at hq
        obtain ⟨he, hk, hx⟩ := hq
        unfold Pan fv at he
        subst he
        have HP : Hid (deedP l = .inl k) := Lib.hid (by simp only [deedP, andP, H1.out, H2.out, hp])
        have hk9 := hk2.trans hk
        clear hk hp
        go_wp2
        unfold Reads
        rw [HP.out]
        exact ⟨rfl, rfl, hk9, hx⟩
      | inr q =>
        obtain ⟨b, l3⟩ := q
        rw [hp] at hq
        obtain ⟨⟨v, rfl, rfl⟩, hr3, hk30⟩ := hq
        have hk3 := hk2.trans hk30
        have hrow0 := hk30.heap hrow0 (by simpa using hne)
        have H3 := Lib.hid hp
        clear hp hk30 hr2 hk2
        go_wp2_with fail
        refine (hS _ _ hr3).mono ?_
        rintro e w4 hq
        unfold Reads at hq
        cases hp : shortP l3 with
        | inl k =>
          rw [hp] at hq
          obtain ⟨he, hk, hx⟩ := hq
          unfold Pan fv at he
          subst he
          have HP : Hid (deedP l = .inl k) := Lib.hid (by simp only [deedP, andP, H1.out, H2.out, H3.out, hp])
          have hk9 := hk3.trans hk
          clear hk hp
          go_wp2
          unfold Reads
          rw [HP.out]
          exact ⟨rfl, rfl, hk9, hx⟩
        | inr q =>
          obtain ⟨t, l4⟩ := q
          rw [hp] at hq
          obtain ⟨⟨v, rfl, rfl⟩, hr4, hk40⟩ := hq
          have hk4 := hk3.trans hk40
          have hrow0 := hk40.heap hrow0 (by simpa using hne)
          have H4 := Lib.hid hp
          clear hp hk40 hr3 hk3
          go_wp2_with fail
          refine (hN _ _ 4 (by omega) hr4).mono ?_
          rintro e w5 hq
          unfold Reads at hq
          cases hp : numP 4 l4 with
          | inl k =>
            rw [hp] at hq
            obtain ⟨he, hk, hx⟩ := hq
            unfold Pan fv at he
            subst he
            have HP : Hid (deedP l = .inl k) := Lib.hid (by simp only [deedP, andP, H1.out, H2.out, H3.out, H4.out, hp])
            have hk9 := hk4.trans hk
            clear hk hp
            go_wp2
            unfold Reads
            rw [HP.out]
            exact ⟨rfl, rfl, hk9, hx⟩
          | inr q =>
            obtain ⟨i, l5⟩ := q
            rw [hp] at hq
            obtain ⟨⟨v, rfl, rfl⟩, hr5, hk50⟩ := hq
            have hk5 := hk4.trans hk50
            have hrow0 := hk50.heap hrow0 (by simpa using hne)
            have H5 := Lib.hid hp
            clear hp hk50 hr4 hk4
            go_wp2_with fail
            refine (hN _ _ 1 (by omega) hr5).mono ?_
            rintro e w6 hq
            unfold Reads at hq
            cases hp : numP 1 l5 with
            | inl k =>
              rw [hp] at hq
              obtain ⟨he, hk, hx⟩ := hq
              unfold Pan fv at he
              subst he
              have HP : Hid (deedP l = .inl k) := Lib.hid (by simp only [deedP, andP, H1.out, H2.out, H3.out, H4.out, H5.out, hp])
              have hk9 := hk5.trans hk
              clear hk hp
              go_wp2
              unfold Reads
              rw [HP.out]
              exact ⟨rfl, rfl, hk9, hx⟩
            | inr q =>
              obtain ⟨hw, l6⟩ := q
              rw [hp] at hq
              obtain ⟨⟨v, rfl, rfl⟩, hr6, hk60⟩ := hq
              have hk6 := hk5.trans hk60
              have hrow0 := hk60.heap hrow0 (by simpa using hne)
              have H6 := Lib.hid hp
              clear hp hk60 hr5 hk5
              go_wp2_with fail
              refine (hN _ _ 1 (by omega) hr6).mono ?_
              rintro e w7 hq
              unfold Reads at hq
              cases hp : numP 1 l6 with
              | inl k =>
                rw [hp] at hq
                obtain ⟨he, hk, hx⟩ := hq
                unfold Pan fv at he
                subst he
                have HP : Hid (deedP l = .inl k) := Lib.hid (by simp only [deedP, andP, H1.out, H2.out, H3.out, H4.out, H5.out, H6.out, hp])
                have hk9 := hk6.trans hk
                clear hk hp
                go_wp2
                unfold Reads
                rw [HP.out]
                exact ⟨rfl, rfl, hk9, hx⟩
              | inr q =>
                obtain ⟨f, l7⟩ := q
                rw [hp] at hq
                obtain ⟨⟨v, rfl, rfl⟩, hr7, hk70⟩ := hq
                have hk7 := hk6.trans hk70
                have hrow0 := hk70.heap hrow0 (by simpa using hne)
                have H7 := Lib.hid hp
                clear hp hk70 hr6 hk6
                go_wp2_with fail
                refine (hN _ _ 1 (by omega) hr7).mono ?_
                rintro e w8 hq
                unfold Reads at hq
                cases hp : numP 1 l7 with
                | inl k =>
                  rw [hp] at hq
                  obtain ⟨he, hk, hx⟩ := hq
                  unfold Pan fv at he
                  subst he
                  have HP : Hid (deedP l = .inl k) := Lib.hid (by simp only [deedP, andP, H1.out, H2.out, H3.out, H4.out, H5.out, H6.out, H7.out, hp])
                  have hk9 := hk7.trans hk
                  clear hk hp
                  go_wp2
                  unfold Reads
                  rw [HP.out]
                  exact ⟨rfl, rfl, hk9, hx⟩
                | inr q =>
                  obtain ⟨s, l8⟩ := q
                  rw [hp] at hq
                  obtain ⟨⟨v, rfl, rfl⟩, hr8, hk80⟩ := hq
                  have hk8 := hk7.trans hk80
                  have hrow0 := hk80.heap hrow0 (by simpa using hne)
                  have H8 := Lib.hid hp
                  clear hp hk80 hr7 hk7
                  go_wp2_with fail
                  refine (hN _ _ 4 (by omega) hr8).mono ?_
                  rintro e w9 hq
                  unfold Reads at hq
                  cases hp : numP 4 l8 with
                  | inl k =>
                    rw [hp] at hq
                    obtain ⟨he, hk, hx⟩ := hq
                    unfold Pan fv at he
                    subst he
                    have HP : Hid (deedP l = .inl k) := Lib.hid (by simp only [deedP, andP, H1.out, H2.out, H3.out, H4.out, H5.out, H6.out, H7.out, H8.out, hp])
                    have hk9 := hk8.trans hk
                    clear hk hp
                    go_wp2
                    unfold Reads
                    rw [HP.out]
                    exact ⟨rfl, rfl, hk9, hx⟩
                  | inr q =>
                    obtain ⟨e, l9⟩ := q
                    rw [hp] at hq
                    obtain ⟨⟨v, rfl, rfl⟩, hr9, hk90⟩ := hq
                    have hk9 := hk8.trans hk90
                    have hrow0 := hk90.heap hrow0 (by simpa using hne)
                    have H9 := Lib.hid hp
                    clear hp hk90 hr8 hk8
                    go_wp2_with (first | (with_reducible refine stop_alloc 48 ?_) | (with_reducible refine stop_store 48 ?_) | (with_reducible refine stop_load 48 ?_))
                    refine go_on (wpList_alloc_ rfl rfl deed_info ?_)
                    go_wp2_with (first | (with_reducible refine stop_alloc 48 ?_) | (with_reducible refine stop_store 48 ?_) | (with_reducible refine stop_load 48 ?_))
                    refine go_on (wpList_store_last rfl rfl rfl rfl (by kernel_rfl) rfl (by simp [Value.oneCell']) ?_)
                    intro wb hrow1 hxb hsb
                    have hrb := hr9.ext hxb
                    have hkb := hk9.ext hxb
                    have hrow0b := hrow0
                    go_wp2_with fail
                    refine (hL _ _ hrb (by have a1 := le_num H1.out; have a2 := le_short H2.out; have a3 := le_short H3.out; have a4 := le_short H4.out; have a5 := le_num H5.out; have a6 := le_num H6.out; have a7 := le_num H7.out; have a8 := le_num H8.out; have a9 := le_num H9.out; omega)).mono ?_
                    rintro e w10 hq
                    unfold Reads at hq
                    cases hp : longP l9 with
                    | inl k =>
                      rw [hp] at hq
                      obtain ⟨he, hk, hx⟩ := hq
                      unfold Pan fv at he
                      subst he
                      have HP : Hid (deedP l = .inl k) := Lib.hid (by simp only [deedP, andP, H1.out, H2.out, H3.out, H4.out, H5.out, H6.out, H7.out, H8.out, H9.out, hp])
                      have hk9 := hkb.trans hk
                      clear hk hp
                      go_wp2
                      unfold Reads
                      rw [HP.out]
                      exact ⟨rfl, rfl, hk9, hx⟩
                    | inr q =>
                      obtain ⟨p, l10⟩ := q
                      rw [hp] at hq
                      obtain ⟨⟨v, rfl, ho⟩, hr10, hk100⟩ := hq
                      have hk10 := hkb.trans hk100
                      have H10 := Lib.hid hp
                      clear hp
                      obtain ⟨A, c, rfl⟩ := ho.form
                      have hR := hr9.lt
                      have hrow1 := hk100.heap hrow1 (by simp; omega)
                      have hrow0 := hk100.heap (hxb.obj hrow0) (by simpa using hne)
                      have hg01 : g0 ≠ w9.heap.size := by have := obj_lt hrow0b; omega
                      obtain ⟨C9, F9⟩ := (show w10.cell? ⟨w9.heap.size, 9, none⟩ = some (.slice none 0 0) ∧ w10.frozen? ⟨w9.heap.size, 9, none⟩ = false from ⟨by rw [cell_of_row w10 _ 9 _ _ _ hrow1]; rfl, frozen_of_row w10 _ 9 _ _ hrow1⟩)
                      have hset := heap_setCell_same w10 w9.heap.size 9 _ _ (.slice A p.length c) hrow1
                      have hset0 : (w10.setCell ⟨w9.heap.size, 9, none⟩ (.slice A p.length c)).heap[g0]? = some (.cells zDeed 48 (0, 0)) := by rw [heap_setCell_other _ _ _ _ hg01]; exact hrow0
                      have hkS : Kept [w9.heap.size] w10 (w10.setCell ⟨w9.heap.size, 9, none⟩ (.slice A p.length c)) := (Kept.refl _ _).setCell (.inl (by simp)) _
                      go_wp2_with (first | (with_reducible refine stop_alloc 48 ?_) | (with_reducible refine stop_store 48 ?_) | (with_reducible refine stop_load 48 ?_))
                      generalize w10.setCell ⟨w9.heap.size, 9, none⟩ (.slice A p.length c) = ws at *
                      refine go_on (wpList_load_row rfl 48 _ rfl w9.heap.size rfl 48 _ (0, 0) _ hset Try.underlying48 rfl (by kernel_rfl) ?_)
                      go_wp2_with (first | (with_reducible refine stop_alloc 48 ?_) | (with_reducible refine stop_store 48 ?_) | (with_reducible refine stop_load 48 ?_))
                      rw [HG0.out] at hset0
                      refine go_on (wpList_store_whole (c := zDeed) rfl rfl rfl rfl hset0 (by kernel_rfl) rfl (by simp [Value.oneCell']) ?_)
                      intro wz hrow hkz hsz
                      go_wp2
                      ((try simp only [Exit.inBlock, Exit.then]); refine bodyPost_ret (results_cell_row rfl _ _ w.heap.size _ _ _ _ rfl hrow Try.underlying48 rfl (by kernel_rfl)) rfl ?_)
                      have hg0R : R ∉ [w.heap.size] := by rw [← HG0.out]; simpa using hne.symm
                      have hg1R : R ∉ [w9.heap.size] := by simp; omega
                      have hws : w.heap.size ≤ w9.heap.size := hk9.size
                      have ho2 := (ho.off hrow1 (by decide) hkS).off hset0 (by decide) hkz
                      unfold Reads
                      rw [show deedP l = .inr (⟨(o : Nat), u, b, t, (i : Nat), (hw : Nat), UInt8.ofNat f, (s : Nat), (e : Nat), p⟩, l10) by simp only [deedP, andP, pureP, H1.out, H2.out, H3.out, H4.out, H5.out, H6.out, H7.out, H8.out, H9.out, H10.out]]
                      refine ⟨⟨_, rfl, _, by rw [ddC, ← u8_of], ho2.low (by omega)⟩, (hr10.kept hkS hg1R ?_).kept hkz hg0R ?_, Kept.less (M := [R, w9.heap.size, w.heap.size]) ((hk10.mono (by simp)).trans ((hkS.mono (by simp)).trans (hkz.mono (by simp)))) ?_⟩
                      · intro k hk; simp at hk; omega
                      · intro k hk; simp at hk; omega
                      · intro k hk hlt; simp at hk; rcases hk with rfl | rfl | rfl
                        · simp
                        · omega
                        · omega
end Go.Proofs.Ythlppbbejdeeoaa
