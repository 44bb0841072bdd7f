/- The walk of deed.TakeUser's closure. Conditions: the hypotheses of each theorem. The walk of text.Quote. Condition: the length named in the theorem. A whole struct out of a slice, as the walk's list meets it. It holds for every program and world; the conditions are the hypotheses of the theorem. -/
import Derived.Test.YthlppbbejdeeoaaGreatDoorC3
import Derived.Test.YthlppbbejdeeoaaGreatDoorC2
import Derived.Test.YthlppbbejdeeoaaGreatDoorC1
import Derived.Deep.MidRow
namespace Go.Proofs.YthlppbbejdeeoaaGreatDoor
open Go.RowKit
theorem Kept.new {M N : List Nat} {w w' : World} (h : Kept M w w') (hs : ∀ k ∈ M, k ∈ N ∨ w.heap.size ≤ k) : Kept N w w' := h.less fun k hk hlt => (hs k hk).resolve_right (by omega)
def ltC (l : Lt) (v : Value) : Array Value := #[.int .i64 l.uid, .int .u8 (l.flags.toNat : Int), v]
def bxC (b : Bx) (v : Value) : Array Value := #[.string (st b.name), .int .i64 b.valid, .int .i64 b.next, v]
def usC (u : Us) (v : Value) : Array Value := #[.string (st u.name), .int .i64 u.valid, v]
def SLt (base : Nat) (w : World) (cs : List Value) (l : Lt) : Prop := ∃ pv, cs = (ltC l pv).toList ∧ Own w base pv l.bytes
def OwnLs (w : World) (base : Nat) (v : Value) (ls : List Lt) : Prop := OwnG (SLt base) 3 138 w base v ls
def SBx (base : Nat) (w : World) (cs : List Value) (b : Bx) : Prop := ∃ lv, cs = (bxC b lv).toList ∧ OwnLs w base lv b.letters
def OwnXs (w : World) (base : Nat) (v : Value) (bs : List Bx) : Prop := OwnG (SBx base) 4 136 w base v bs
theorem letT : ElemOf Tryz.prog 134 138 3 40 := ElemOf.mk' (z := .agg #[.int .i64 0, .int .u8 0, .slice none 0 0]) Tryz.underlying134 (by kernel_rfl) rfl (by omega)
theorem boxT : ElemOf Tryz.prog 114 136 4 56 := ElemOf.mk' (z := .agg #[.string ⟨#[]⟩, .int .i64 0, .int .i64 0, .slice none 0 0]) Tryz.underlying114 (by kernel_rfl) rfl (by omega)
theorem letter_info : (Tryz.prog.info? 138).map (fun i => (i.zero, i.size)) = some (some (.agg #[.int .i64 0, .int .u8 0, .slice none 0 0]), 3) := by kernel_rfl
theorem box_info : (Tryz.prog.info? 136).map (fun i => (i.zero, i.size)) = some (some (.agg #[.string ⟨#[]⟩, .int .i64 0, .int .i64 0, .slice none 0 0]), 4) := by kernel_rfl
section
variable {base : Nat} {w w' : World} {cs : List Value} {v : Value} {ts : List Nat}
theorem SLt.stp {l : Lt} (h : SLt base w cs l) (hs : Stp ts w w') (he : 5 ∈ ts) : SLt base w' cs l := by
 obtain ⟨pv, h1, h2⟩ := h
 exact ⟨pv, h1, h2.stp hs he⟩
theorem SLt.low {l : Lt} {b2 : Nat} (h : SLt base w cs l) (hb : b2 ≤ base) : SLt b2 w cs l := by
 obtain ⟨pv, h1, h2⟩ := h
 exact ⟨pv, h1, h2.low hb⟩
theorem OwnLs.stp {ls : List Lt} (h : OwnLs w base v ls) (hs : Stp ts w w') (h1 : 5 ∈ ts) (h2 : 138 ∈ ts) : OwnLs w' base v ls := OwnG.stp h hs h2 fun _ _ hx => hx.stp hs h1
theorem OwnLs.low {ls : List Lt} {b2 : Nat} (h : OwnLs w base v ls) (hb : b2 ≤ base) : OwnLs w b2 v ls := by
 obtain ⟨css, h1, h2, h3, h4⟩ := h
 exact ⟨css, h1, h2, owns_low h3 hb, fun k cs x a b => (h4 k cs x a b).low hb⟩
theorem SBx.stp {b : Bx} (h : SBx base w cs b) (hs : Stp ts w w') (h1 : 5 ∈ ts) (h2 : 138 ∈ ts) : SBx base w' cs b := by
 obtain ⟨lv, h3, h4⟩ := h
 exact ⟨lv, h3, h4.stp hs h1 h2⟩
theorem SBx.low {b : Bx} {b2 : Nat} (h : SBx base w cs b) (hb : b2 ≤ base) : SBx b2 w cs b := by
 obtain ⟨lv, h3, h4⟩ := h
 exact ⟨lv, h3, h4.low hb⟩
theorem OwnXs.stp {bs : List Bx} (h : OwnXs w base v bs) (hs : Stp ts w w') (h1 : 5 ∈ ts) (h2 : 138 ∈ ts) (h3 : 136 ∈ ts) : OwnXs w' base v bs := OwnG.stp h hs h3 fun _ _ hx => hx.stp hs h1 h2
theorem OwnXs.low {bs : List Bx} {b2 : Nat} (h : OwnXs w base v bs) (hb : b2 ≤ base) : OwnXs w b2 v bs := by
 obtain ⟨css, h1, h2, h3, h4⟩ := h
 exact ⟨css, h1, h2, owns_low h3 hb, fun k cs x a b => (h4 k cs x a b).low hb⟩
end
def VUs (U base : Nat) (u : Us) (w : World) : Prop := ∃ v, w.heap[U]? = some (.cells (usC u v) 116 (0, 0)) ∧ OwnXs w base v u.boxes
theorem ltC_one (d : Lt) (A : Option Addr) (n c : Nat) : ∀ u ∈ (ltC d (.slice A n c)).toList, u.oneCell' = true := by
 intro u hu
 simp only [ltC, List.mem_cons, List.not_mem_nil, or_false] at hu
 rcases hu with rfl | rfl | rfl <;> rfl
theorem bxC_one (d : Bx) (A : Option Addr) (n c : Nat) : ∀ u ∈ (bxC d (.slice A n c)).toList, u.oneCell' = true := by
 intro u hu
 simp only [bxC, List.mem_cons, List.not_mem_nil, or_false] at hu
 rcases hu with rfl | rfl | rfl | rfl <;> rfl
set_option maxRecDepth 20000 in
set_option maxHeartbeats 8000000 in
theorem TakeUser1_any (w0 w : World) (R U : Nat) (l : By) (h : RAt w0 w R l) (hl : l.length ≤ 140737488351232) (hU : w.heap[U]? = some (.cells #[.string ⟨#[]⟩, .int .i64 0, .slice none 0 0] 116 (0, 0))) (hU0 : w0.heap.size ≤ U) (hUR : U ≠ R) :
 Calls Tryz.prog 96 #[pt R, pt U] w (DoSays (userP l) (VUs U w0.heap.size) (fun _ => True) w0 w R U) := by
 have HX := h.e
 have hN := fun (w1 : World) (l1 : By) (n : Nat) (hn : n ≤ 4) (h1 : RAt w0 w1 R l1) => rnum_any w0 w1 R n l1 h1 hn
 have hS := fun (w1 : World) (l1 : By) (h1 : RAt w0 w1 R l1) => rshort_any w0 w1 R l1 h1
 have hL := fun (w1 : World) (l1 : By) (h1 : RAt w0 w1 R l1) (hl1 : l1.length ≤ 140737488355328) => rlong_any w0 w1 R l1 h1 hl1
 unfold pt at *
 go_enter Tryz.func96, Tryz.ntmps96
 go_wp2_with fail
 refine (hS _ _ h).mono ?_
 rintro e w1 hq
 unfold Reads at hq
 cases hp : shortP l with
 | inl k =>
  rw [hp] at hq
  obtain ⟨he, hk, hx⟩ := hq
  unfold Pan fv at he
  subst he
  have HP : Hid (userP l = .inl k) := Lib.hid (by simp only [userP, andP, hp])
  have hk9 := Kept.mono (N := [R, U]) hk (by simp)
  clear hk hp
  go_wp2
  unfold DoSays
  rw [HP.out]
  exact ⟨rfl, rfl, hk9, hx, trivial⟩
 | inr q =>
  obtain ⟨n, l1⟩ := q
  rw [hp] at hq
  obtain ⟨⟨v, rfl, rfl⟩, hr1, hk1⟩ := hq
  have H1 := Lib.hid hp
  clear hp
  go_wp2_with fail
  refine (hN _ _ 4 (by omega) hr1).mono ?_
  rintro e w2 hq
  unfold Reads at hq
  cases hp : numP 4 l1 with
  | inl k =>
   rw [hp] at hq
   obtain ⟨he, hk, hx⟩ := hq
   unfold Pan fv at he
   subst he
   have HP : Hid (userP l = .inl k) := Lib.hid (by simp only [userP, andP, H1.out, hp])
   have hk9 := Kept.mono (N := [R, U]) (hk1.trans hk) (by simp)
   clear hk hp
   go_wp2
   unfold DoSays
   rw [HP.out]
   exact ⟨rfl, rfl, hk9, hx, trivial⟩
  | inr q =>
   obtain ⟨va, l2⟩ := q
   rw [hp] at hq
   obtain ⟨⟨v, rfl, rfl⟩, hr2, hk20⟩ := hq
   have hk2 := hk1.trans hk20
   have H2 := Lib.hid hp
   clear hp hk20 hr1 hk1
   have hU2 := hk2.heap hU (by simpa using hUR)
   obtain ⟨C0, C1, _, F⟩ := rows3 hU2
   have F2 := F w2
   obtain ⟨w3, hw3⟩ : ∃ w3, w3 = (w2.setCell ⟨U, 0, none⟩ (.string (st n))).setCell ⟨U, 1, none⟩ (.int .i64 (va : Nat)) := ⟨_, rfl⟩
   have hk3 : Kept [U] w2 w3 := hw3 ▸ ((Kept.refl _ _).setCell (.inl (by simp)) _).setCell (.inl (by simp)) _
   have hU3 : w3.heap[U]? = some (.cells #[.string (st n), .int .i64 (va : Nat), .slice none 0 0] 116 (0, 0)) := by
    rw [hw3, heap_setCell_same _ U 1 _ _ _ (heap_setCell_same w2 U 0 _ _ (.string (st n)) hU2)]
    rfl
   have hr3 := hr2.kept hk3 (by simpa using hUR.symm) (by intro k hk; simp at hk; omega)
   have HW3 := Lib.hid hw3
   clear hw3
   go_wp2_with fail
   rw [← HW3.out]
   have hk3w : Kept [R, U] w w3 := (hk2.mono (by simp)).trans (hk3.mono (by simp))
   clear hk2 hk3 hr2 hU2 C0 C1 F F2 hU
   refine (hN _ _ 1 (by omega) hr3).mono ?_
   rintro e w4 hq
   unfold Reads at hq
   cases hp : numP 1 l2 with
   | inl k =>
    rw [hp] at hq
    obtain ⟨he, hk, hx⟩ := hq
    unfold Pan fv at he
    subst he
    have HP : Hid (userP l = .inl k) := Lib.hid (by simp only [userP, andP, H1.out, H2.out, hp])
    have hk9 := hk3w.trans (hk.mono (by simp))
    clear hk hp
    go_wp2
    unfold DoSays
    rw [HP.out]
    exact ⟨rfl, rfl, hk9, hx, trivial⟩
   | inr q =>
    obtain ⟨m, l3⟩ := q
    rw [hp] at hq
    obtain ⟨⟨v, rfl, rfl⟩, hr4, hk40⟩ := hq
    have hk4 := hk3w.trans (hk40.mono (by simp))
    have hU4 := hk40.heap hU3 (by simpa using hUR)
    have hm : m < 256 := (got1 hp).2.2
    have hl3 : l3.length ≤ l.length := by have a1 := le_short H1.out; have a2 := le_num H2.out; have a3 := le_num hp; omega
    have HUP : Hid (userP l = andP (repA boxP m []) (fun bs => pureP ⟨n, (va : Nat), bs⟩) l3) := Lib.hid (by unfold userP; rw [andP_put H1.out, andP_put H2.out, andP_put hp])
    clear hp hk40 hr3 hk3w H1 H2 hU3 HW3
    go_wp2
    go_loopw [13] (fun iv wr => ∃ (i : Nat) (acc : List Bx) (l' : By) (bv : Value), iv = .int .i64 i ∧ i ≤ m ∧ acc.length = i ∧ RAt w0 wr R l' ∧ Kept [R, U] w wr ∧ wr.heap[U]? = some (.cells #[.string (st n), .int .i64 (va : Nat), bv] 116 (0, 0)) ∧ OwnXs wr w.heap.size bv acc ∧ repA boxP (m - i) acc l' = repA boxP m [] l3 ∧ l'.length ≤ l.length) (fun iv _ => m - (intOf iv).toNat)
    case atStart => exact ⟨0, [], l3, _, rfl, by omega, rfl, hr4, hk4, hU4, OwnG.nil _ _ _ _ _, rfl, hl3⟩
    case round =>
     clear hr4 hk4 hU4 hl3
     obtain ⟨i, acc, l', bv, rfl, him, hacc, hr, hkr, hUr, hxs, hrun, hll⟩ := hrel
     have hal : acc.length ≤ 255 := by omega
     have HACC := Lib.hid hacc
     clear hacc
     by_cases hlt : i < m
     ·obtain ⟨s1, s2⟩ := repA_step hrun hlt
      have HB : Hid (∀ k, boxP l' = .inl k → userP l = .inl k) := Lib.hid (fun k hk => by rw [HUP.out]; unfold andP; rw [s1 k hk])
      clear hrun s1
      have HXS := Lib.hid hxs
      have hRwr := hr.lt
      clear hxs
      go_wp2_with fail
      refine (hS _ _ hr).mono ?_
      rintro e w5 hq
      unfold Reads at hq
      cases hp : shortP l' with
      | inl k =>
       rw [hp] at hq
       obtain ⟨he, hk, hx⟩ := hq
       unfold Pan fv at he
       subst he
       have HP : Hid (userP l = .inl k) := Lib.hid (HB.out k (by simp only [boxP, andP, hp]))
       have hk9 := hkr.trans (hk.mono (by simp))
       clear hk hp
       go_wp2
       unfold DoSays
       rw [HP.out]
       exact ⟨rfl, rfl, hk9, hx, trivial⟩
      | inr q =>
       obtain ⟨bn, l5⟩ := q
       rw [hp] at hq
       obtain ⟨⟨v, rfl, rfl⟩, hr5, hk5⟩ := hq
       have H5 := Lib.hid hp
       clear hp
       go_wp2_with fail
       refine (hN _ _ 4 (by omega) hr5).mono ?_
       rintro e w6 hq
       unfold Reads at hq
       cases hp : numP 4 l5 with
       | inl k =>
        rw [hp] at hq
        obtain ⟨he, hk, hx⟩ := hq
        unfold Pan fv at he
        subst he
        have HP : Hid (userP l = .inl k) := Lib.hid (HB.out k (by simp only [boxP, andP, H5.out, hp]))
        have hk9 := hkr.trans ((hk5.trans hk).mono (by simp))
        clear hk hp
        go_wp2
        unfold DoSays
        rw [HP.out]
        exact ⟨rfl, rfl, hk9, hx, trivial⟩
       | inr q =>
        obtain ⟨bval, l6⟩ := q
        rw [hp] at hq
        obtain ⟨⟨v, rfl, rfl⟩, hr6, hk60⟩ := hq
        have hk6 := hk5.trans hk60
        have H6 := Lib.hid hp
        clear hp hk5 hk60 hr5
        go_wp2_with fail
        refine (hN _ _ 4 (by omega) hr6).mono ?_
        rintro e w7 hq
        unfold Reads at hq
        cases hp : numP 4 l6 with
        | inl k =>
         rw [hp] at hq
         obtain ⟨he, hk, hx⟩ := hq
         unfold Pan fv at he
         subst he
         have HP : Hid (userP l = .inl k) := Lib.hid (HB.out k (by simp only [boxP, andP, H5.out, H6.out, hp]))
         have hk9 := hkr.trans ((hk6.trans hk).mono (by simp))
         clear hk hp
         go_wp2
         unfold DoSays
         rw [HP.out]
         exact ⟨rfl, rfl, hk9, hx, trivial⟩
        | inr q =>
         obtain ⟨bnx, l7⟩ := q
         rw [hp] at hq
         obtain ⟨⟨v, rfl, rfl⟩, hr7, hk70⟩ := hq
         have hk7 := hk6.trans hk70
         have H7 := Lib.hid hp
         clear hp hk6 hk70 hr6
         go_wp2_with (with_reducible first | refine sA 138 ?_ | refine sS 138 ?_ | refine sL 138 ?_ | refine sA 136 ?_ | refine sS 136 ?_ | refine sL 136 ?_)
         refine go_on (wpList_alloc_ rfl rfl box_info ?_)
         go_wp2_with (with_reducible first | refine sA 138 ?_ | refine sS 138 ?_ | refine sL 138 ?_ | refine sA 136 ?_ | refine sS 136 ?_ | refine sL 136 ?_)
         refine go_on (wpList_store_last rfl rfl rfl rfl (by kernel_rfl) rfl (by simp [Value.oneCell']) ?_)
         intro wb hrowX hxb hsb
         obtain ⟨X, hXe⟩ : ∃ X, X = w7.heap.size := ⟨_, rfl⟩
         rw [← hXe] at hrowX
         have HXE := Lib.hid hXe
         have hXwr : wr.heap.size ≤ X := by have := hk7.size; omega
         have hrb := hr7.ext hxb
         have hkb := hk7.ext hxb
         have hXb : wb.heap.size = X + 1 := by omega
         clear hXe hsb hr7 hk7 hxb
         go_wp2_with fail
         rw [← HXE.out]
         refine (hN _ _ 1 (by omega) hrb).mono ?_
         rintro e w8 hq
         unfold Reads at hq
         cases hp : numP 1 l7 with
         | inl k =>
          rw [hp] at hq
          obtain ⟨he, hk, hx⟩ := hq
          unfold Pan fv at he
          subst he
          have HP : Hid (userP l = .inl k) := Lib.hid (HB.out k (by simp only [boxP, andP, H5.out, H6.out, H7.out, hp]))
          have hk9 := hkr.trans ((hkb.trans hk).mono (by simp))
          clear hk hp
          go_wp2
          unfold DoSays
          rw [HP.out]
          exact ⟨rfl, rfl, hk9, hx, trivial⟩
         | inr q =>
          obtain ⟨kk, l8⟩ := q
          rw [hp] at hq
          obtain ⟨⟨v, rfl, rfl⟩, hr8, hk80⟩ := hq
          have hRX : X ≠ R := by omega
          have hk8 := hkb.trans hk80
          have hrow8 := hk80.heap hrowX (by simpa using hRX)
          have hX8 := hk80.size
          have hkk : kk < 256 := (got1 hp).2.2
          have hl8 : l8.length ≤ l.length := by have a1 := le_short H5.out; have a2 := le_num H6.out; have a3 := le_num H7.out; have a4 := le_num hp; omega
          have HBP : Hid (boxP l' = andP (repA letP kk []) (fun ls => pureP ⟨bn, (bval : Nat), (bnx : Nat), ls⟩) l8) := Lib.hid (by unfold boxP; rw [andP_put H5.out, andP_put H6.out, andP_put H7.out, andP_put hp])
          clear hp hk80 hrb hkb hrowX H5 H6 H7
          go_wp2
          obtain ⟨wo, rfl⟩ : ∃ x, x = wr := ⟨wr, rfl⟩
          go_loopw [24] (fun jv wi => ∃ (j : Nat) (accL : List Lt) (l'' : By) (lv : Value), jv = .int .i64 j ∧ j ≤ kk ∧ accL.length = j ∧ RAt w0 wi R l'' ∧ Kept [R] wo wi ∧ X < wi.heap.size ∧ wi.heap[X]? = some (.cells #[.string (st bn), .int .i64 (bval : Nat), .int .i64 (bnx : Nat), lv] 136 (0, 0)) ∧ OwnLs wi wb.heap.size lv accL ∧ repA letP (kk - j) accL l'' = repA letP kk [] l8 ∧ l''.length ≤ l.length) (fun jv _ => kk - (intOf jv).toNat)
          case atStart => exact ⟨0, [], l8, _, rfl, by omega, rfl, hr8, hk8, by omega, hrow8, OwnG.nil _ _ _ _ _, rfl, hl8⟩
          case round =>
           clear hr8 hk8 hrow8 hl8 hX8
           obtain ⟨j, accL, l'', lv, rfl, hjk, haccL, hri, hki, hXi, hrowi, hls, hrunL, hlL⟩ := hrel
           have halL : accL.length ≤ 255 := by omega
           have HACCL := Lib.hid haccL
           clear haccL
           by_cases hltj : j < kk
           ·obtain ⟨t1, t2⟩ := repA_step hrunL hltj
            have HLB : Hid (∀ k, letP l'' = .inl k → userP l = .inl k) := Lib.hid (fun k hk => HB.out k (by rw [HBP.out]; unfold andP; rw [t1 k hk]))
            clear hrunL t1
            have HLS := Lib.hid hls
            clear hls
            go_wp2_with fail
            refine (hN _ _ 4 (by omega) hri).mono ?_
            rintro e wa hq
            unfold Reads at hq
            cases hp : numP 4 l'' with
            | inl k =>
             rw [hp] at hq
             obtain ⟨he, hk, hx⟩ := hq
             unfold Pan fv at he
             subst he
             have HP : Hid (userP l = .inl k) := Lib.hid (HLB.out k (by simp only [letP, andP, hp]))
             have hk9 := hkr.trans ((hki.trans hk).mono (by simp))
             clear hk hp
             go_wp2
             unfold DoSays
             rw [HP.out]
             exact ⟨rfl, rfl, hk9, hx, trivial⟩
            | inr q =>
             obtain ⟨lu, la⟩ := q
             rw [hp] at hq
             obtain ⟨⟨v, rfl, rfl⟩, hra, hka⟩ := hq
             have HA := Lib.hid hp
             clear hp
             go_wp2_with fail
             refine (hN _ _ 1 (by omega) hra).mono ?_
             rintro e wc hq
             unfold Reads at hq
             cases hp : numP 1 la with
             | inl k =>
              rw [hp] at hq
              obtain ⟨he, hk, hx⟩ := hq
              unfold Pan fv at he
              subst he
              have HP : Hid (userP l = .inl k) := Lib.hid (HLB.out k (by simp only [letP, andP, HA.out, hp]))
              have hk9 := hkr.trans ((hki.trans (hka.trans hk)).mono (by simp))
              clear hk hp
              go_wp2
              unfold DoSays
              rw [HP.out]
              exact ⟨rfl, rfl, hk9, hx, trivial⟩
             | inr q =>
              obtain ⟨lf, lc⟩ := q
              rw [hp] at hq
              obtain ⟨⟨v, rfl, rfl⟩, hrc, hkc0⟩ := hq
              have hkc := hka.trans hkc0
              have HC := Lib.hid hp
              clear hp hka hkc0 hra
              go_wp2_with (with_reducible first | refine sA 138 ?_ | refine sS 138 ?_ | refine sL 138 ?_ | refine sA 136 ?_ | refine sS 136 ?_ | refine sL 136 ?_)
              refine go_on (wpList_alloc_ rfl rfl letter_info ?_)
              go_wp2_with (with_reducible first | refine sA 138 ?_ | refine sS 138 ?_ | refine sL 138 ?_ | refine sA 136 ?_ | refine sS 136 ?_ | refine sL 136 ?_)
              refine go_on (wpList_store_last rfl rfl rfl rfl (by kernel_rfl) rfl (by simp [Value.oneCell']) ?_)
              intro wd hrowL hxd hsd
              obtain ⟨Y, hYe⟩ : ∃ Y, Y = wc.heap.size := ⟨_, rfl⟩
              rw [← hYe] at hrowL
              have HYE := Lib.hid hYe
              have hYi : wr.heap.size ≤ Y := by have := hkc.size; omega
              have hrd := hrc.ext hxd
              have hkd : Kept [R] wr wd := hkc.ext hxd
              have hYd : wd.heap.size = Y + 1 := by omega
              have hll2 : lc.length ≤ 140737488355328 := by have a1 := le_num HA.out; have a2 := le_num HC.out; omega
              clear hYe hsd hrc hkc hxd
              go_wp2_with fail
              rw [← HYE.out]
              refine (hL _ _ hrd hll2).mono ?_
              rintro e we hq
              unfold Reads at hq
              cases hp : longP lc with
              | inl k =>
               rw [hp] at hq
               obtain ⟨he, hk, hx⟩ := hq
               unfold Pan fv at he
               subst he
               have HP : Hid (userP l = .inl k) := Lib.hid (HLB.out k (by simp only [letP, andP, HA.out, HC.out, hp]))
               have hk9 := hkr.trans ((hki.trans (hkd.trans hk)).mono (by simp))
               clear hk hp
               go_wp2
               unfold DoSays
               rw [HP.out]
               exact ⟨rfl, rfl, hk9, hx, trivial⟩
              | inr q =>
               obtain ⟨lb, le⟩ := q
               rw [hp] at hq
               obtain ⟨⟨v, rfl, hov⟩, hre, hke0⟩ := hq
               have hRY : Y ≠ R := by have := hri.lt; omega
               have hke := hkd.trans hke0
               have hrowLe := hke0.heap hrowL (by simpa using hRY)
               have HLP : Hid (letP l'' = .inr (⟨(lu : Nat), UInt8.ofNat lf, lb⟩, le)) := Lib.hid (by simp only [letP, andP, pureP, HA.out, HC.out, hp])
               obtain ⟨Ab, cb, rfl⟩ := hov.form
               have hlle : le.length ≤ l.length := by have a1 := le_num HA.out; have a2 := le_num HC.out; have a3 := le_long hp; omega
               have hYe : Y < we.heap.size := obj_lt hrowLe
               clear hp hke0 hrd hrowL hll2 HA HC
               have CL := fun w' (hx' : Ext we w') => (row3_at (hx'.obj hrowLe)).2.2.1
               have FL := fun w' k (hx' : Ext we w') => (row3_at (hx'.obj hrowLe)).2.2.2 k
               obtain ⟨fl, hfl⟩ : ∃ fl : UInt8, fl = UInt8.ofNat lf := ⟨_, rfl⟩
               rw [← hfl] at HLP
               have hfl2 : ((lf : Int) % 256) = (fl.toNat : Int) := by rw [hfl, ← u8_of]
               have hXY : X ≠ Y := by omega
               have hrowXe := hke.heap hrowi (by simpa using hRX)
               obtain ⟨ws, hws⟩ : ∃ ws, ws = we.setCell ⟨Y, 2, none⟩ (.slice Ab lb.length cb) := ⟨_, rfl⟩
               have hset : ws.heap[Y]? = some (.cells (ltC ⟨(lu : Nat), fl, lb⟩ (.slice Ab lb.length cb)) 138 (0, 0)) := by
                rw [hws, heap_setCell_same we Y 2 _ _ _ hrowLe, ltC, ← hfl2]
                rfl
               have hkY : Kept [Y] we ws := hws ▸ (Kept.refl _ _).setCell (.inl (by simp)) _
               have hovS := hov.off hrowLe (by decide) hkY
               have hreS := hre.kept hkY (by simpa using hRY.symm) (by intro k hk; simp at hk; have := hri.e.size; omega)
               have hrowXs := hkY.heap hrowXe (by simpa using hXY)
               have hkS : Kept [R] wr ws := Kept.new (M := [R, Y]) ((hke.mono (by simp)).trans (hkY.mono (by simp))) (by intro k hk; simp at hk; rcases hk with rfl | rfl <;> simp; omega)
               have CX := fun w' (hx' : Ext ws w') => (row4_at (hx'.obj hrowXs)).2.2.2.1
               have HWS := Lib.hid hws
               clear hws hfl hfl2
               go_wp2_with (with_reducible first | refine sL 134 ?_ | refine sL 114 ?_)
               refine go_on ?_
               rw [← HWS.out]
               go_wp2_with (with_reducible refine sL 138 ?_)
               refine go_on (wpList_load_row rfl 138 _ rfl Y rfl 138 _ (0, 0) _ hset Tryz.underlying138 rfl (by kernel_rfl) ?_)
               obtain ⟨hw0R, _, _, _, hrowR, _, _⟩ := hri
               have hst : Stp [5, 138] wr (ws.alloc (.cells (ltC ⟨(lu : Nat), fl, lb⟩ (.slice Ab lb.length cb)) 138)) := (Stp.kept hkS (by intro k hk hlt; simp at hk; subst hk; exact ⟨_, _, _, hrowR, by decide⟩)).trans (.of_ext ((Ext.refl _).alloc _))
               obtain ⟨css, q1, q2, q3, q4⟩ := HLS.out.stp hst (by simp) (by simp)
               have hxt : Ext ws (ws.alloc (.cells (ltC ⟨(lu : Nat), fl, lb⟩ (.slice Ab lb.length cb)) 138)) := (Ext.refl _).alloc _
               have hrowt := heap_alloc_new ws (.cells (ltC ⟨(lu : Nat), fl, lb⟩ (.slice Ab lb.length cb)) 138)
               have hrowXt := hxt.obj hrowXs
               have hret := hreS.ext hxt
               have hovt := hovS.ext hxt
               generalize hwt : ws.alloc (.cells (ltC ⟨(lu : Nat), fl, lb⟩ (.slice Ab lb.length cb)) 138) = wt at *
               have HWT := Lib.hid hwt
               clear hwt
               unfold ltC at HWT
               unfold ltC
               go_wp2_with (at_builtin; refine unstop ?_)
               rw [HWT.out]
               have hszw : wr.heap.size ≤ wt.heap.size := hst.1
               refine go_on (wpList_app letT q3 (Sl.row hrowt) rfl rfl rfl rfl rfl (ltC_one _ Ab lb.length cb) (by omega) (by omega) (by omega) ?_)
               intro v' wf hof hgf _
               obtain ⟨Af, cf, rfl⟩ := own_form hof
               obtain ⟨N, hkN, hN⟩ := Kept.row q3 hgf
               have hXN : X ∉ N := fun hm => by obtain ⟨_, cs, hc⟩ := hN X hm; exact obj_ne hc hrowXt (by decide) rfl
               obtain ⟨_, _, _, _, hrowRt, _, _⟩ := hret
               have hRN : R ∉ N := fun hm => by obtain ⟨_, cs, hc⟩ := hN R hm; exact obj_ne hc hrowRt (by decide) rfl
               have hrowXf := hkN.heap hrowXt hXN
               have hstf : Stp [5] wt wf := .kept hkN (by intro k hk _; obtain ⟨_, cs, hc⟩ := hN k hk; exact ⟨_, _, _, hc, by decide⟩)
               obtain ⟨_, _, _, CXf, FXf⟩ := rows4 hrowXf
               have FXf := fun w' hx => FXf w' 3 hx
               obtain ⟨wg, hwg⟩ : ∃ wg, wg = wf.setCell ⟨X, 3, none⟩ (.slice Af (accL.length + 1) cf) := ⟨_, rfl⟩
               have hsetX : wg.heap[X]? = some (.cells #[.string (st bn), .int .i64 (bval : Nat), .int .i64 (bnx : Nat), .slice Af (accL.length + 1) cf] 136 (0, 0)) := by
                rw [hwg, heap_setCell_same wf X 3 _ _ _ hrowXf]
                rfl
               have hkG : Kept [X] wf wg := hwg ▸ (Kept.refl _ _).setCell (.inl (by simp)) _
               have hstG : Stp [5, 138] wf wg := .kept hkG (by intro k hk _; simp at hk; subst hk; exact ⟨_, _, _, hrowXf, by decide⟩)
               have hst8 := hstf.trans (hstG.less (us := [5]) (by simp))
               have hlsG : OwnLs wg wb.heap.size (.slice Af (accL.length + 1) cf) (accL ++ [⟨(lu : Nat), fl, lb⟩]) := OwnG.push q1 q2 (owns_stp hof hstG (by simp)) (fun k cs x a b => (q4 k cs x a b).stp hst8 (by simp)) rfl
                ⟨_, rfl, (hovt.low (by omega)).stp hst8 (by simp)⟩
               have hrG : RAt w0 wg R le := (((hreS.ext hxt).kept hkN hRN (fun k hk => by have := (hN k hk).1; have := HX.size; have := hkr.size; omega))).kept hkG (by simpa using hRX.symm) (by intro k hk; simp at hk; have := HX.size; have := hkr.size; omega)
               have hkiG : Kept [R] wo wg := Kept.new (M := [R, X] ++ N) (((hki.trans (hkS.ext hxt)).mono (by simp)).trans ((hkN.mono (by intro k hk; simp [hk])).trans (hkG.mono (by simp)))) (by
                intro k hk
                simp only [List.mem_append, List.mem_cons, List.not_mem_nil, or_false] at hk ⊢
                rcases hk with (rfl | rfl) | hk
                ·exact .inl rfl
                ·exact .inr hXwr
                ·exact .inr (by have := (hN k hk).1; omega))
               have hXg : X < wg.heap.size := obj_lt hsetX
               have hrunG := t2 _ _ HLP.out
               have HWG := Lib.hid hwg
               clear hwg HLS q1 q2 q3 q4 hst hstf hstG hst8 hgf hof hkN hN hkG hovt hovS hov hreS hkS hke
               go_wp2
               go_roundw
               rw [← HWG.out]
               case rel => exact ⟨j + 1, _, le, _, by go_num, by omega, by simp [HACCL.out], hrG, hkiG, hXg, hsetX, hlsG, hrunG, hlle⟩
               case measure => simp [intOf]; omega
           ·have hj : kk - j = 0 := by omega
            rw [hj] at hrunL
            have HBX : Hid (boxP l' = .inr (⟨bn, (bval : Nat), (bnx : Nat), accL⟩, l'')) := Lib.hid (by rw [HBP.out]; unfold andP; rw [← hrunL]; rfl)
            obtain ⟨Al, cl, rfl⟩ := hls.form
            have hUi := hki.heap hUr (by simpa using hUR)
            have C2 := fun w' (hx' : Ext wr w') => (row3_at (hx'.obj hUi)).2.2.1
            obtain ⟨_, _, _, _, hrowR, _, _⟩ := hr
            have hrowi' : wr.heap[X]? = some (.cells (bxC ⟨bn, (bval : Nat), (bnx : Nat), accL⟩ (.slice Al accL.length cl)) 136 (0, 0)) := hrowi
            have hst : Stp [5, 138, 136] wo (wr.alloc (.cells (bxC ⟨bn, (bval : Nat), (bnx : Nat), accL⟩ (.slice Al accL.length cl)) 136)) := (Stp.kept hki (by intro k hk hlt; simp at hk; subst hk; exact ⟨_, _, _, hrowR, by decide⟩)).trans (.of_ext ((Ext.refl _).alloc _))
            obtain ⟨css, q1, q2, q3, q4⟩ := HXS.out.stp hst (by simp) (by simp) (by simp)
            have hxt : Ext wr (wr.alloc (.cells (bxC ⟨bn, (bval : Nat), (bnx : Nat), accL⟩ (.slice Al accL.length cl)) 136)) := (Ext.refl _).alloc _
            have hrowt := heap_alloc_new wr (.cells (bxC ⟨bn, (bval : Nat), (bnx : Nat), accL⟩ (.slice Al accL.length cl)) 136)
            have hUt := hxt.obj hUi
            have hret := hri.ext hxt
            have hlst := hls.stp (.of_ext hxt) (ts := [5, 138]) (by simp) (by simp)
            generalize hwt : wr.alloc (.cells (bxC ⟨bn, (bval : Nat), (bnx : Nat), accL⟩ (.slice Al accL.length cl)) 136) = wt at *
            have HWT := Lib.hid hwt
            unfold bxC at HWT
            clear hwt hrunL hls
            go_wp2_with (with_reducible refine sL 136 ?_)
            refine go_on (wpList_load_row rfl 136 _ rfl X rfl 136 _ (0, 0) _ hrowi Tryz.underlying136 rfl (by kernel_rfl) ?_)
            go_wp2_with (at_builtin; refine unstop ?_)
            rw [HWT.out]
            have hszw : wo.heap.size ≤ wt.heap.size := hst.1
            have hszo := hkr.size
            refine go_on (wpList_app boxT q3 (Sl.row hrowt) rfl rfl rfl rfl rfl (bxC_one _ Al accL.length cl) (by omega) (by omega) (by omega) ?_)
            intro v' wf hof hgf _
            obtain ⟨Af, cf, rfl⟩ := own_form hof
            obtain ⟨N, hkN, hN⟩ := Kept.row q3 hgf
            have hUN : U ∉ N := fun hm => by obtain ⟨_, cs, hc⟩ := hN U hm; exact obj_ne hc hUt (by decide) rfl
            obtain ⟨_, _, _, _, hrowRt, _, _⟩ := hret
            have hRN : R ∉ N := fun hm => by obtain ⟨_, cs, hc⟩ := hN R hm; exact obj_ne hc hrowRt (by decide) rfl
            have hUf := hkN.heap hUt hUN
            have hstf : Stp [5, 138] wt wf := .kept hkN (by intro k hk _; obtain ⟨_, cs, hc⟩ := hN k hk; exact ⟨_, _, _, hc, by decide⟩)
            obtain ⟨_, _, CUf, FUf⟩ := rows3 hUf
            have FUf := fun w' hx => FUf w' 2 hx
            obtain ⟨wg, hwg⟩ : ∃ wg, wg = wf.setCell ⟨U, 2, none⟩ (.slice Af (acc.length + 1) cf) := ⟨_, rfl⟩
            have hsetU : wg.heap[U]? = some (.cells #[.string (st n), .int .i64 (va : Nat), .slice Af (acc.length + 1) cf] 116 (0, 0)) := by
             rw [hwg, heap_setCell_same wf U 2 _ _ _ hUf]
             rfl
            have hkG : Kept [U] wf wg := hwg ▸ (Kept.refl _ _).setCell (.inl (by simp)) _
            have hstG : Stp [5, 138, 136] wf wg := .kept hkG (by intro k hk _; simp at hk; subst hk; exact ⟨_, _, _, hUf, by decide⟩)
            have hst8 := hstf.trans (hstG.less (us := [5, 138]) (by simp))
            have hxsG : OwnXs wg w.heap.size (.slice Af (acc.length + 1) cf) (acc ++ [⟨bn, (bval : Nat), (bnx : Nat), accL⟩]) := OwnG.push q1 q2 (owns_stp hof hstG (by simp)) (fun k cs x a b => (q4 k cs x a b).stp hst8 (by simp) (by simp)) rfl
             ⟨_, rfl, (hlst.low (by omega)).stp hst8 (by simp) (by simp)⟩
            have hrG : RAt w0 wg R l'' := (((hri.ext hxt).kept hkN hRN (fun k hk => by have := (hN k hk).1; have := HX.size; omega))).kept hkG (by simpa using hUR.symm) (by intro k hk; simp at hk; omega)
            have hkG2 : Kept [R, U] w wg := Kept.new (M := [R, U] ++ N) ((hkr.mono (by simp)).trans (((hki.ext hxt).mono (by simp)).trans ((hkN.mono (by intro k hk; simp [hk])).trans (hkG.mono (by simp))))) (by
             intro k hk
             simp only [List.mem_append, List.mem_cons, List.not_mem_nil, or_false] at hk ⊢
             rcases hk with (rfl | rfl) | hk
             ·exact .inl (.inl rfl)
             ·exact .inl (.inr rfl)
             ·exact .inr (by have := (hN k hk).1; omega))
            have hrunG := s2 _ _ HBX.out
            have HWG := Lib.hid hwg
            clear hwg HXS q1 q2 q3 q4 hst hstf hstG hst8 hgf hof hkN hN hkG hlst hrowt hrowi' hrowi C2 s2
            go_wp2
            go_roundw
            rw [← HWG.out]
            case rel => exact ⟨i + 1, _, l'', _, by go_num, by omega, by simp [HACC.out], hrG, hkG2, hsetU, hxsG, hrunG, hlL⟩
            case measure => simp [intOf]; omega
     ·have hi : m - i = 0 := by omega
      rw [hi] at hrun
      have HF := Lib.hid hrun
      have hxl := hxs.low HX.size
      clear hrun
      go_wp2
      go_end0
      unfold DoSays
      rw [HUP.out]
      unfold andP
      rw [← HF.out]
      exact ⟨rfl, ⟨bv, hUr, hxl⟩, hr, hkr⟩
end Go.Proofs.YthlppbbejdeeoaaGreatDoor
namespace Go.Proofs.YthlppbbejdeeoaaGreatDoor
open Go.RowKit
set_option maxHeartbeats 800000 in
theorem Quote_any (s : ByteArray) (w : World) (hs : s.size ≤ 140737488355328) : Calls Tryz.prog 94 #[.string s] w (QSays (tl s) w) := by
 by_cases hlong : 1024 < s.size
 ·have HQ : Hid (∀ W, Ext w W → QSays (tl s) w (.returned (.tuple #[.string ⟨#[]⟩, .int .i64 0, .int .i64 6])) W) := Lib.hid fun W hx => QSays.long (by simpa using hlong) hx
  have h1 : (1024 : Int) < (s.size : Int) := by omega
  clear hlong
  go_enter Tryz.func94, Tryz.ntmps94
  go_wp2
  go_ret3
  exact HQ.out _ (Ext.refl _)
 ·have h1 : ¬ (1024 : Int) < (s.size : Int) := by omega
  have HS : Hid (s.size ≤ 1024) := Lib.hid (by omega)
  clear hlong
  obtain ⟨b, hb⟩ : ∃ b, b = w.heap.size := ⟨_, rfl⟩
  have hsb0 := Sb.new w
  have hx0 : Ext w (w.alloc (.cells #[.pointer none, .slice none 0 0] 148 (0, 0))) := (Ext.refl w).alloc _
  go_enter Tryz.func94, Tryz.ntmps94
  go_wp2_with fail
  refine (hsb0.byte 34 (by simp)).mono ?_
  rintro e w1 ⟨rfl, hst1⟩
  rw [List.nil_append] at hst1
  rw [← hb] at hst1 ⊢
  have hx1 : Ext w w1 := hst1.ext hx0 (by omega)
  have hb1 : b < w1.heap.size := hst1.1.1
  obtain ⟨g, hg⟩ : ∃ g, g = w1.heap.size := ⟨_, rfl⟩
  have hit0 : It (w1.iter s 0) w1.heap.size s 0 := World.iter_heap w1 s 0
  have hxi : Ext w (w1.iter s 0) := hx1.alloc _
  have hsbi := hst1.1.mkiter s 0
  have hgb : g ≠ b := by omega
  have hgw : w.heap.size ≤ g := by omega
  have HB := Lib.hid hb
  clear hst1 hx1 hb1 hsb0 hx0 hb
  go_wp2
  rw [← hg]
  rw [← hg] at hit0
  clear hg
  go_loopw [6] (fun p wr => ∃ pos ds, p = .int .i64 (ds.length : Nat) ∧ At (tl s) pos ds ∧ (∀ d ∈ ds, plnL d = true) ∧ It wr g s pos ∧ Sb wr b (34 :: outL ds) ∧ Ext w wr) (fun _ wr => s.size - wr.iterPos g)
  case atStart => exact ⟨0, [], rfl, At.zero _, by simp, hit0, hsbi, hxi⟩
  case round =>
   obtain ⟨pos, ds, rfl, hat, hds, hit, hsb, hx⟩ := hrel
   clear hit0 hsbi hxi
   have HAT := Lib.hid hat
   have HDS := Lib.hid hds
   have HPOS := Lib.hid (iterPos_of hit)
   have hle : pos ≤ s.size := by have := hat.le; simpa using this
   have hnum := hat.num
   have hol := outL_len ds
   have HOL : Hid ((34 :: outL ds).length + 10 ≤ 140737488355328) := Lib.hid (by have := HS.out; simp; omega)
   clear hat hds hol hle
   by_cases hlt : pos < s.size
   ·have hnx := hit.next hlt
    have hit2 := hit.at_ (pos + (Utf8.decode s pos).2)
    have hx2 := hx.iterAt (pos := pos + (Utf8.decode s pos).2) (s := s) hgw
    have hsb2 := hsb.iter hit (pos + (Utf8.decode s pos).2)
    obtain ⟨bb, hbl, hspl, hat2⟩ := HAT.out.here hlt
    have hW := width_any s pos (wr.iterAt g s (pos + (Utf8.decode s pos).2)) hs hlt
    have hbd := dec_bound s pos
    have hp1 := dec_pos s pos hlt
    generalize (Utf8.decode s pos).1 = c at *
    generalize (Utf8.decode s pos).2 = W at *
    have HBL := Lib.hid hbl
    have HSPL := Lib.hid hspl
    have HAT2 := Lib.hid hat2
    clear hbl hspl hat2
    go_wp2_with fail
    refine hW.mono ?_
    rintro e w3 ⟨rfl, hx3⟩
    have hx3' := hx2.trans hx3
    have hit3 := hit2.ext hx3
    have hsb3 := hsb2.ext hx3
    have HPOS2 := Lib.hid (iterPos_of hit3)
    clear hx3 hit2 hsb2 hx2 hW
    go_wp2_with fail
    refine (plain_any (c : Int) (W : Int) w3).mono ?_
    rintro e w4 ⟨rfl, rfl⟩
    by_cases hpl : plainB (c : Int) (W : Int) = true
    ·have HP : Hid (plnL (c, bb) = true) := Lib.hid (by unfold plnL; rw [HBL.out]; exact hpl)
     rw [hpl]
     clear hpl
     by_cases h34 : c = 34
     ·have e1 : ((c : Int) == 34) = true := by rw [h34]; rfl
      have HE : Hid (escL c = 92 :: runE c) := Lib.hid (by unfold escL; rw [if_pos (by omega)])
      clear h34
      go_wp2_with fail
      refine (hsb3.byte 92 (by have := HOL.out; omega)).mono ?_
      rintro e w5 ⟨rfl, hst5⟩
      have hx5 := hst5.ext hx3' (by have := HB.out; omega)
      have hit5 := hst5.it hit3 hgb
      have hsb5 := hst5.1
      clear hst5 hx3' hit3 hsb3
      go_wp2_with fail
      refine (hsb5.rune (c : Int) (by omega) (by omega) (by have := HOL.out; simp at this ⊢; omega)).mono ?_
      rintro e w6 ⟨nn, rfl, hst6⟩
      have hx6 := hst6.ext hx5 (by have := HB.out; omega)
      have hit6 := hst6.it hit5 hgb
      have HPOS6 := Lib.hid (iterPos_of hit6)
      have hsb6 := hst6.1
      clear hst6
      go_wp2
      go_roundw
      case rel => exact ⟨pos + W, ds ++ [(c, bb)], by simp, HAT2.out, by intro d hd; simp at hd; rcases hd with hd | rfl; exact HDS.out d hd; exact HP.out, hit6, by rw [outL_snoc, HE.out]; simpa [runE] using hsb6, hx6⟩
      case measure => rw [HPOS6.out, HPOS.out]; omega
     ·by_cases h92 : c = 92
      ·have e1 : ((c : Int) == 34) = false := beq_eq_false_iff_ne.2 (by omega)
       have e2 : ((c : Int) == 92) = true := by rw [h92]; rfl
       have HE : Hid (escL c = 92 :: runE c) := Lib.hid (by unfold escL; rw [if_pos (by omega)])
       clear h34 h92
       go_wp2_with fail
       refine (hsb3.byte 92 (by have := HOL.out; omega)).mono ?_
       rintro e w5 ⟨rfl, hst5⟩
       have hx5 := hst5.ext hx3' (by have := HB.out; omega)
       have hit5 := hst5.it hit3 hgb
       have hsb5 := hst5.1
       clear hst5 hx3' hit3 hsb3
       go_wp2_with fail
       refine (hsb5.rune (c : Int) (by omega) (by omega) (by have := HOL.out; simp at this ⊢; omega)).mono ?_
       rintro e w6 ⟨nn, rfl, hst6⟩
       have hx6 := hst6.ext hx5 (by have := HB.out; omega)
       have hit6 := hst6.it hit5 hgb
       have HPOS6 := Lib.hid (iterPos_of hit6)
       have hsb6 := hst6.1
       clear hst6
       go_wp2
       go_roundw
       case rel => exact ⟨pos + W, ds ++ [(c, bb)], by simp, HAT2.out, by intro d hd; simp at hd; rcases hd with hd | rfl; exact HDS.out d hd; exact HP.out, hit6, by rw [outL_snoc, HE.out]; simpa [runE] using hsb6, hx6⟩
       case measure => rw [HPOS6.out, HPOS.out]; omega
      ·have e1 : ((c : Int) == 34) = false := beq_eq_false_iff_ne.2 (by omega)
       have e2 : ((c : Int) == 92) = false := beq_eq_false_iff_ne.2 (by omega)
       have HE : Hid (escL c = runE c) := Lib.hid (by unfold escL; rw [if_neg (by omega)])
       clear h34 h92
       go_wp2_with fail
       refine (hsb3.rune (c : Int) (by omega) (by omega) (by have := HOL.out; omega)).mono ?_
       rintro e w5 ⟨nn, rfl, hst5⟩
       have hx5 := hst5.ext hx3' (by have := HB.out; omega)
       have hit5 := hst5.it hit3 hgb
       have HPOS5 := Lib.hid (iterPos_of hit5)
       have hsb5 := hst5.1
       clear hst5
       go_wp2
       go_roundw
       case rel => exact ⟨pos + W, ds ++ [(c, bb)], by simp, HAT2.out, by intro d hd; simp at hd; rcases hd with hd | rfl; exact HDS.out d hd; exact HP.out, hit5, by rw [outL_snoc, HE.out]; exact hsb5, hx5⟩
       case measure => rw [HPOS5.out, HPOS.out]; omega
    ·have hpf : plainB (c : Int) (W : Int) = false := by simpa using hpl
     have HP : Hid (plnL (c, bb) = false) := Lib.hid (by unfold plnL; rw [HBL.out]; exact hpf)
     rw [hpf]
     clear hpl hpf
     go_wp2
     go_ret3
     exact QSays.bad (by have := HS.out; simpa using this) HSPL.out HDS.out HP.out hx3'
   ·have hst := hit.stop hlt
    go_wp2_with fail
    refine (hsb.byte 34 (by have := HOL.out; omega)).mono ?_
    rintro e w3 ⟨rfl, hst3⟩
    have hx3 := hst3.ext hx (by have := HB.out; omega)
    have hsb3 := hst3.1
    clear hst3
    go_wp2_with fail
    refine hsb3.string.mono ?_
    rintro e w4 ⟨rfl, hst4⟩
    have hx4 := hst4.ext hx3 (by have := HB.out; omega)
    clear hst4
    go_wp2
    go_ret3
    have hd := HAT.out.done hlt
    have := QSays.ok (l := tl s) (w := w) (w' := w4) (by have := HS.out; simpa using this) (by rw [hd]; exact HDS.out) hx4
    rw [hd] at this
    exact this
end Go.Proofs.YthlppbbejdeeoaaGreatDoor
namespace Go.Proofs.YthlppbbejdeeoaaGreatDoor
open Go.RowKit
theorem run_loadVar_elem {P : Program} (w : World) (p : Addr) (ty : TypeId) (cs : List Value) (d : TypeDesc) (hc : ∀ j v, cs[j]? = some v → w.cell? (p.add j) = some v)
 (hu : P.underlying ty = some d) (hd : d.isRow = true) (hi : (P.info? ty).map (·.size) = some cs.length) :
 (loadVar ty p).run P w = .ok (.agg cs.toArray) w := by
 have hl : (loadCells p cs.length).run P w = .ok cs.toArray w := run_loadCells_list (P := P) w p cs hc
 cases hq : P.info? ty with
 | none => simp [hq] at hi
 | some i =>
  have hs : i.size = cs.length := by simpa [hq] using hi
  have hagg : (isAgg ty).run P w = .ok true w := by
   unfold isAgg
   rw [Sem.run_bind, run_underlying hu w]
   cases d <;> simp_all
  simp [loadVar, Sem.run_bind, hagg, sizeOf, typeInfo, hq, hs, hl]
theorem wpList_load_elem {P : Program} {ops : Array Oper} {rest : List Oper} {op : Oper} {a : Act} {w : World} {Q : Exit → Act → World → Prop} (hgd : op.guard = none) (ty : TypeId) (x : Operand) (ho : op.op = .load ty x)
 (p : Addr) (hx : a.eval x = .pointer (some p)) (cs : List Value) (d : TypeDesc) (hc : ∀ j v, cs[j]? = some v → w.cell? (p.add j) = some v)
 (hu : P.underlying ty = some d) (hd : d.isRow = true) (hi : (P.info? ty).map (·.size) = some cs.length)
 (h : wpList P ops Q rest (a.put op.dst (.agg cs.toArray)) w) : wpList P ops Q (op :: rest) a w :=
 wpList_plain hgd fun K hK => by
  unfold Oper.wp execOp
  simp only [ho, hx, Instr.loadAt, Instr.sureAddr, Sem.run_bind, Sem.run_pure, Result.andThen_ok, run_loadVar_elem w p ty cs d hc hu hd hi]
  exact hK _ _ h
theorem add_addB (a : Addr) (i j : Nat) : (a.add i).add j = a.add (i + j) := by
 unfold Addr.add
 by_cases hi : i = 0 <;> by_cases hj : j = 0 <;> simp [hi, hj, Nat.add_assoc]
end Go.Proofs.YthlppbbejdeeoaaGreatDoor
