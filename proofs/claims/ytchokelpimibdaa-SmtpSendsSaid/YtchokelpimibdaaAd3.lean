/- The walk of addr.Parse. Condition: the bound named. -/
import Derived.Test.YtchokelpimibdaaAd2
namespace Go.Proofs.Ytchokelpimibdaa
open Go.RowKit
def zAddr : Array Value := #[.string ⟨#[]⟩, .string ⟨#[]⟩]
theorem addr_info : (Try.prog.info? 35).map (fun i => (i.zero, i.size)) = some (some (.agg zAddr), 2) := by kernel_rfl
/-- the call's two variables: the result, and a -/
structure PW (w wr : World) (g0 g1 : Nat) (x y : List UInt8) : Prop where
  r0 : wr.heap[g0]? = some (.cells zAddr 35 (0, 0))
  r1 : wr.heap[g1]? = some (.cells #[.string (st x), .string (st y)] 35 (0, 0))
  hx : Ext w wr
  n0 : w.heap.size ≤ g0
  n1 : w.heap.size ≤ g1
  ne : g0 ≠ g1
section
variable {w wr wr' : World} {g0 g1 : Nat} {x y : List UInt8}
theorem PW.ext (h : PW w wr g0 g1 x y) (k : Ext wr wr') : PW w wr' g0 g1 x y := ⟨k.obj h.r0, k.obj h.r1, h.hx.trans k, h.n0, h.n1, h.ne⟩
theorem PW.iter (h : PW w wr g0 g1 x y) {gi pos : Nat} {s : ByteArray} (hit : It wr gi s pos) (hgi : w.heap.size ≤ gi) (pos' : Nat) : PW w (wr.iterAt gi s pos') g0 g1 x y := by
  have n0 : gi ≠ g0 := by intro e; subst e; have := h.r0; unfold It at hit; rw [hit] at this; cases this
  have n1 : gi ≠ g1 := by intro e; subst e; have := h.r1; unfold It at hit; rw [hit] at this; cases this
  exact ⟨by rw [Lib.iterAt_other _ _ _ _ _ n0.symm]; exact h.r0, by rw [Lib.iterAt_other _ _ _ _ _ n1.symm]; exact h.r1, h.hx.iterAt hgi, h.n0, h.n1, h.ne⟩
theorem PW.set0 (h : PW w wr g0 g1 x y) (u : List UInt8) : PW w (wr.setCell ⟨g1, 0, none⟩ (.string (st u))) g0 g1 u y :=
  ⟨by rw [heap_setCell_other _ _ _ _ h.ne]; exact h.r0, by rw [heap_setCell_same _ _ _ _ _ _ h.r1]; rfl, h.hx.setCell h.n1 _, h.n0, h.n1, h.ne⟩
theorem PW.set1 (h : PW w wr g0 g1 x y) (u : List UInt8) : PW w (wr.setCell ⟨g1, 1, none⟩ (.string (st u))) g0 g1 x u :=
  ⟨by rw [heap_setCell_other _ _ _ _ h.ne]; exact h.r0, by rw [heap_setCell_same _ _ _ _ _ _ h.r1]; rfl, h.hx.setCell h.n1 _, h.n0, h.n1, h.ne⟩
theorem PW.at_ (h : PW w wr g0 g1 x y) : wr.cell? ⟨g1, 0, none⟩ = some (.string (st x)) ∧ wr.cell? ⟨g1, 1, none⟩ = some (.string (st y)) ∧ (∀ j, wr.frozen? ⟨g1, j, none⟩ = false) := row2_at h.r1
end
def PSays (l : List UInt8) (w : World) (e : Ending) (w' : World) : Prop :=
  e = .returned (.tuple #[.agg #[.string (st (parseT l).1), .string (st (parseT l).2.1)], .int .i64 ((parseT l).2.2.1 : Nat), .int .i64 ((parseT l).2.2.2 : Nat)]) ∧ Ext w w'
def atV : Option Nat → Int
  | none => -1
  | some k => k
theorem prefix_q (l : List UInt8) : Lib.hasPrefix l [34] = decide (l[0]? = some 34) := by
  cases l with
  | nil => rfl
  | cons a l =>
    rw [Bool.eq_iff_iff]
    simp [Lib.hasPrefix, List.isPrefixOf]
    exact eq_comm
/-- how far the loop is -/
structure PAt (l : List UInt8) (from_ s0 pl0 pos z n pl : Nat) (ao : Option Nat) : Prop where
  run : runF (letL (l.drop from_)) s0 0 pl0 none from_ = runF (letL (l.drop (from_ + pos))) z n pl ao (from_ + pos)
  le : from_ + pos ≤ l.length
  hz : z ≤ 6
  hn : n ≤ pos
  hpl : pl ≤ pl0 + pos
  hao : ∀ k, ao = some k → k + 1 ≤ from_ + pos
  hno : ao = none → z ≤ 3
theorem PAt.zero {l : List UInt8} {from_ s0 pl0 : Nat} (h : from_ ≤ l.length) (h0 : s0 ≤ 3) : PAt l from_ s0 pl0 0 s0 0 pl0 none :=
  ⟨rfl, by omega, by omega, by omega, by omega, fun k hk => (by cases hk), fun _ => h0⟩
theorem PAt.step {l : List UInt8} {from_ s0 pl0 pos z n pl : Nat} {ao : Option Nat} {c W : Nat} {b : List UInt8} (h : PAt l from_ s0 pl0 pos z n pl ao) (hb : b.length = W) (h1 : 1 ≤ W) (hle : from_ + pos + W ≤ l.length)
    (hl : letL (l.drop (from_ + pos)) = (c, b) :: letL (l.drop (from_ + pos + W))) :
    ((nextS z c n).2 = false → runF (letL (l.drop from_)) s0 0 pl0 none from_ = .inl pl) ∧
    ((nextS z c n).2 = true → PAt l from_ s0 pl0 (pos + W) (nextS z c n).1 (if (nextS z c n).1 = 6 then 0 else n + 1) (pl + 1) (if (nextS z c n).1 = 6 ∧ ao = none then some (from_ + pos) else ao)) := by
  have hr := h.run
  rw [hl] at hr
  conv at hr => rhs; unfold runF
  constructor
  · intro hf
    rw [hr, if_pos hf]
  · intro ht
    rw [if_neg (by rw [ht]; decide), hb] at hr
    refine ⟨by rw [hr, Nat.add_assoc], by omega, nextS_le h.hz, ?_, by have := h.hpl; omega, ?_, ?_⟩
    · have := h.hn; split <;> omega
    · intro k hk
      split at hk
      · cases hk; omega
      · have := h.hao k hk; omega
    · intro hn
      split at hn
      · cases hn
      · rename_i hne
        exact nextS_le3 (h.hno hn) (fun h6 => hne ⟨h6, hn⟩)
theorem PAt.end_ {l : List UInt8} {from_ s0 pl0 pos z n pl : Nat} {ao : Option Nat} (h : PAt l from_ s0 pl0 pos z n pl ao) (hp : letL (l.drop (from_ + pos)) = []) :
    runF (letL (l.drop from_)) s0 0 pl0 none from_ = .inr (z, pl, ao) := by
  rw [h.run, hp]
  rfl
theorem longF_le : ∀ (ds : List (Nat × List UInt8)) (sg : Bool) (pl : Nat) (out : List UInt8) (pos : Nat), (longF ds sg pl out pos).2.2.2 = 0 → (∀ d ∈ ds, 1 ≤ d.2.length) → 0 < (longF ds sg pl out pos).2.1 ∧ (longF ds sg pl out pos).2.1 ≤ pos + (ds.flatMap fun d => d.2).length
  | [], sg, pl, out, pos, h, _ => by simp [longF] at h
  | (c, b) :: ds, sg, pl, out, pos, h, h1 => by
    have hb := h1 (c, b) (by simp)
    have hr := fun d hd => h1 d (List.mem_cons_of_mem _ hd)
    simp only at hb
    unfold longF at h ⊢
    simp only [List.flatMap_cons, List.length_append]
    split at h
    · simp at h
    · rename_i n1
      rw [if_neg n1]
      split at h
      · rename_i n2
        rw [if_pos n2]
        have := longF_le ds _ _ _ _ h hr
        omega
      · rename_i n2
        rw [if_neg n2]
        split at h
        · rename_i n3
          rw [if_pos n3]
          have := longF_le ds _ _ _ _ h hr
          omega
        · rename_i n3
          rw [if_neg n3]
          split at h
          · rename_i n4
            rw [if_pos n4]
            simp only
            omega
          · rename_i n4
            rw [if_neg n4]
            have := longF_le ds _ _ _ _ h hr
            omega
theorem let_pos : ∀ (k : Nat) (l : List UInt8), l.length ≤ k → ∀ d ∈ letL l, 1 ≤ d.2.length
  | 0, l, h => by
    obtain rfl := List.eq_nil_of_length_eq_zero (Nat.le_zero.1 h)
    simp [letL_nil]
  | k + 1, l, h => by
    by_cases hl : l = []
    · subst hl; simp [letL_nil]
    · have hp := decL_pos l hl
      have hle := Lib.decodeL_le l hl
      have hpos := List.length_pos_iff.2 hl
      rw [letL_step l hl]
      intro d hd
      rw [List.mem_cons] at hd
      rcases hd with rfl | hd
      · simp only [List.length_take]; omega
      · exact let_pos k _ (by rw [List.length_drop]; omega) d hd
theorem longT_le (l : List UInt8) (h : (longT l).2.2.2 = 0) : 0 < (longT l).2.1 ∧ (longT l).2.1 ≤ l.length := by
  have := longF_le (letL l) false 0 [] 0 h (let_pos _ l (Nat.le_refl _))
  rw [let_bytes _ l (Nat.le_refl _)] at this
  unfold longT
  omega
theorem lets_len' (l : List UInt8) : (letL l).length ≤ l.length := by
  have h1 := let_bytes _ l (Nat.le_refl _)
  have h2 := let_pos _ l (Nat.le_refl _)
  have : ∀ ds : List (Nat × List UInt8), (∀ d ∈ ds, 1 ≤ d.2.length) → ds.length ≤ (ds.flatMap fun d => d.2).length := by
    intro ds
    induction ds with
    | nil => intro _; simp
    | cons d ds ih =>
      intro h
      have := ih (fun d hd => h d (List.mem_cons_of_mem _ hd))
      have := h d (by simp)
      simp only [List.flatMap_cons, List.length_append, List.length_cons]
      omega
  have := this _ h2
  rw [h1] at this
  exact this
set_option maxRecDepth 20000 in
set_option maxHeartbeats 1600000 in
theorem Parse_any (s : ByteArray) (w : World) (hs : s.size ≤ 140737488355320) : Calls Try.prog 17 #[.string s] w (PSays (tl s) w) := by
  have HH := fun w => Try.strings_HasPrefix s ⟨#[34]⟩ w
  have HL := fun w => long_any s w hs
  have HPT0 : Hid (parseT (tl s) = if (tl s)[0]? = some 34 then (if (longT (tl s)).2.2.2 ≠ 0 then ([], [], (longT (tl s)).2.2.1, (longT (tl s)).2.2.2) else restT (tl s) (longT (tl s)).1 3 (longT (tl s)).2.1 (letL ((tl s).take (longT (tl s)).2.1)).length) else restT (tl s) [] 0 0 0) := Lib.hid rfl
  rw [show s.data.toList = tl s from rfl, prefix_q] at HH
  obtain ⟨g0, hg0⟩ : ∃ g, g = w.heap.size := ⟨_, rfl⟩
  obtain ⟨g1, hg1⟩ : ∃ g, g = w.heap.size + 1 := ⟨_, rfl⟩
  go_enter Try.func17, Try.ntmps17
  go_wp2_with (first | (with_reducible refine stop_alloc 35 ?_) | (with_reducible refine stop_store 35 ?_) | (with_reducible refine stop_load 35 ?_))
  refine go_on (wpList_alloc_ rfl rfl addr_info ?_)
  go_wp2_with (first | (with_reducible refine stop_alloc 35 ?_) | (with_reducible refine stop_store 35 ?_) | (with_reducible refine stop_load 35 ?_))
  refine go_on (wpList_alloc_ rfl rfl addr_info ?_)
  go_wp2_with (first | (with_reducible refine stop_alloc 35 ?_) | (with_reducible refine stop_store 35 ?_) | (with_reducible refine stop_load 35 ?_))
  refine go_on (wpList_store_whole rfl rfl rfl rfl (heap_alloc2_new w _ _) (by kernel_rfl) rfl (by simp [Value.oneCell']) ?_)
  intro w3 hr1 hk3 hz3
  have hpw : PW w w3 g0 g1 [] [] := by
    subst hg0 hg1
    refine ⟨hk3.heap (((Ext.refl _).alloc _).obj (heap_alloc_new w _)) (by simp), hr1, (((Ext.refl w).alloc _).alloc _).kept hk3 (one_ge (by omega)), Nat.le_refl _, by omega, by omega⟩
  rw [← hg1, ← hg0]
  clear hr1 hk3 hz3 hg0 hg1
  by_cases hq : (tl s)[0]? = some 34
  · rw [decide_eq_true hq] at HH
    rw [if_pos hq] at HPT0
    clear hq
    go_wp2_with fail
    refine (HH _).mono ?_
    rintro e w4 ⟨rfl, rfl⟩
    go_wp2_with fail
    refine (HL _).mono ?_
    rintro e w5 ⟨rfl, hx5⟩
    have hpw2 := hpw.ext hx5
    have HLT := Lib.hid (longT_le (tl s))
    generalize hlt : longT (tl s) = r at *
    have HLO := Lib.hid hlt
    clear hpw hx5 HL HH hlt
    obtain ⟨said, nn, pe, er⟩ := r
    dsimp only at HPT0 HLT ⊢
    by_cases her : er = 0
    · subst her
      have HPT : Hid (parseT (tl s) = restT (tl s) said 3 nn (letL ((tl s).take nn)).length) := Lib.hid (by rw [HPT0.out, if_neg (by simp)])
      have hfl : nn ≤ s.size := by have := (HLT.out rfl).2; simpa using this
      have hn1 := (HLT.out rfl).1
      have h03 : 3 ≤ 3 := by omega
      have hfi : (nn : Int) ≤ (s.size : Int) := by omega
      have HLET := fun w => letters_any (s.extract 0 nn) w (by simp; omega)
      have HLL := Lib.hid (lets_len' ((tl s).take nn))
      rw [show tl (s.extract 0 nn) = (tl s).take nn by rw [ex_st, tl_st]; simp] at HLET
      generalize (letL ((tl s).take nn)).length = pl0 at *
      have HTL2 : Hid (tl (s.extract nn s.size) = (tl s).drop nn) := Lib.hid (by rw [ex_st, tl_st, show s.size = (tl s).length by simp, List.take_length])
      have HSZ2 : Hid ((s.extract nn s.size).size = s.size - nn) := Lib.hid (by simp)
      have hplb : pl0 ≤ s.size := by have := HLL.out; rw [List.length_take, tl_length] at this; omega
      obtain ⟨c0, c1, c2⟩ := hpw2.at_
      clear HPT0 HLT HLL
      go_wp2_with fail
      refine (HLET _).mono ?_
      rintro e w6 ⟨rfl, hx6⟩
      clear HLET
      have hpw3 := hpw2.ext hx6
      obtain ⟨d0, d1, d2⟩ := hpw3.at_
      have hpw := hpw3.set0 said
      clear hpw3 hpw2 c0 c1 c2 hx6
      have hit0 : It ((w6.setCell ⟨g1, 0, none⟩ (.string (st said))).iter (s.extract nn s.size) 0) w6.heap.size (s.extract nn s.size) 0 := by
        have := World.iter_heap (w6.setCell ⟨g1, 0, none⟩ (.string (st said))) (s.extract nn s.size) 0
        rwa [show (w6.setCell ⟨g1, 0, none⟩ (.string (st said))).heap.size = w6.heap.size by simp] at this
      have HGI : Hid (w.heap.size ≤ w6.heap.size) := Lib.hid (by have := hpw.hx.size; simpa using this)
      have hpw0 : PW w ((w6.setCell ⟨g1, 0, none⟩ (.string (st said))).iter (s.extract nn s.size) 0) g0 g1 said [] := hpw.ext ((Ext.refl _).alloc _)
      go_wp2
      generalize s.extract nn s.size = s2 at *
      generalize w6.heap.size = gi at *
      clear hpw
      go_loopw [6, 8, 13, 14] (fun a b c d wr => ∃ pos z pl n ao, a = .int .i64 (z : Nat) ∧ b = .int .i64 (pl : Nat) ∧ c = .int .i64 (atV ao) ∧ d = .int .i64 (n : Nat) ∧ PAt (tl s) nn 3 pl0 pos z n pl ao ∧ It wr gi s2 pos ∧ PW w wr g0 g1 said []) (fun _ _ _ _ wr => s2.size - wr.iterPos gi)
      case atStart => exact ⟨0, 3, pl0, 0, none, rfl, rfl, rfl, rfl, PAt.zero (by rw [tl_length]; exact hfl) h03, hit0, hpw0⟩
      case round =>
        obtain ⟨pos, z, pl, n, ao, rfl, rfl, rfl, rfl, hat, hit, hpw⟩ := hrel
        clear hit0 hpw0
        have HAT := Lib.hid hat
        have HPOS := Lib.hid (iterPos_of hit)
        have hz6 := hat.hz
        have hn := hat.hn
        have hpl := hat.hpl
        have hle : nn + pos ≤ s.size := by have := hat.le; simpa using this
        clear hat
        by_cases hlt : pos < s2.size
        · have hnx := hit.next hlt
          have hit2 := hit.at_ (pos + (Utf8.decode s2 pos).2)
          have hpw2 := hpw.iter hit HGI.out (pos + (Utf8.decode s2 pos).2)
          have hp1 := dec_pos s2 pos hlt
          have hbd := dec_bound s2 pos
          have HPOS2 := Lib.hid (iterPos_of hit2)
          obtain ⟨b, hb1, hb2, hb3⟩ := let_here hlt rfl rfl
          rw [HTL2.out, List.drop_drop, List.drop_drop] at hb3
          generalize (Utf8.decode s2 pos).1 = c at *
          generalize (Utf8.decode s2 pos).2 = W at *
          have hN := next_any z c n hz6 hbd
          have hstep := HAT.out.step hb1 hp1 (by have := HSZ2.out; simp; omega) (by rw [hb3, Nat.add_assoc])
          have HST := Lib.hid hstep
          have hnz := nextS_le (c := c) (n := n) hz6
          clear hb1 hb3 hstep hit hpw HAT
          generalize (nextS z c n).1 = z2 at *
          generalize (nextS z c n).2 = ok at *
          go_wp2_with fail
          refine (hN _).mono ?_
          rintro e w5 ⟨rfl, rfl⟩
          clear hN
          cases ok
          · have HE : Hid (parseT (tl s) = ([], [], pl, 4)) := Lib.hid (by rw [HPT.out]; unfold restT; rw [HST.out.1 rfl])
            clear HST
            go_wp2_with (first | (with_reducible refine stop_alloc 35 ?_) | (with_reducible refine stop_store 35 ?_) | (with_reducible refine stop_load 35 ?_))
            refine go_on (wpList_store_whole rfl rfl rfl rfl hpw2.r0 (by kernel_rfl) rfl (by simp [Value.oneCell']) ?_)
            intro w6 hrow hk6 hz6
            have hx6 := hpw2.hx.kept hk6 (one_ge hpw2.n0)
            go_wp2
            ((try simp only [Exit.inBlock, Exit.then]); refine bodyPost_ret (results_cell2 rfl _ _ g0 _ _ _ _ rfl hrow Try.underlying35 rfl (by kernel_rfl)) rfl ?_)
            unfold PSays
            rw [HE.out]
            exact ⟨rfl, hx6⟩
          · have HN := Lib.hid (HST.out.2 rfl)
            clear HST
            by_cases h6 : z2 = 6
            · have q6 : ((z2 : Int) == 6) = true := by rw [h6]; rfl
              have H6 := Lib.hid h6
              clear h6
              cases ao with
              | none =>
                have e1 : atV none < 0 := by decide
                go_wp2
                go_roundw
                case rel => exact ⟨pos + W, z2, pl + 1, 0, some (nn + pos), rfl, by simp, by simp [atV], rfl, by have := HN.out; rw [if_pos H6.out, if_pos (by simp [H6.out])] at this; exact this, hit2, hpw2⟩
                case measure => rw [HPOS2.out, HPOS.out]; omega
              | some k =>
                have e1 : ¬ atV (some k) < 0 := by show ¬ (k : Int) < 0; omega
                go_wp2
                go_roundw
                case rel => exact ⟨pos + W, z2, pl + 1, 0, some k, rfl, by simp, by simp [atV], rfl, by have := HN.out; rw [if_pos H6.out, if_neg (by simp)] at this; exact this, hit2, hpw2⟩
                case measure => rw [HPOS2.out, HPOS.out]; omega
            · have q6 : ((z2 : Int) == 6) = false := beq_eq_false_iff_ne.2 (by omega)
              have H6 := Lib.hid h6
              clear h6
              go_wp2
              go_roundw
              case rel => exact ⟨pos + W, z2, pl + 1, n + 1, ao, rfl, by simp, rfl, by simp, by have := HN.out; rw [if_neg H6.out, if_neg (fun h => H6.out h.1)] at this; exact this, hit2, hpw2⟩
              case measure => rw [HPOS2.out, HPOS.out]; omega
        · have hst := hit.stop hlt
          have HEND := Lib.hid (HAT.out.end_ (by rw [← List.drop_drop, ← HTL2.out, let_done hlt]))
          by_cases h4 : z = 4
          · subst h4
            obtain ⟨k, rfl⟩ : ∃ k, ao = some k := by
              cases ao with
              | none => have := HAT.out.hno rfl; omega
              | some k => exact ⟨k, rfl⟩
            have hk := HAT.out.hao k rfl
            have hks : k + 1 ≤ s.size := by omega
            have HE : Hid (parseT (tl s) = (if 64 < (if nn = 0 then (tl s).take k else said).length ∨ 255 < (lowL ((tl s).drop (k + 1))).length then ([], [], 0, 6) else (if nn = 0 then (tl s).take k else said, lowL ((tl s).drop (k + 1)), 0, 0))) := Lib.hid (by rw [HPT.out]; unfold restT; rw [HEND.out]; simp)
            have HDR : Hid (tl (s.extract (k + 1) s.size) = (tl s).drop (k + 1)) := Lib.hid (by rw [ex_st, tl_st, show s.size = (tl s).length by simp, List.take_length])
            have HTK : Hid (s.extract 0 k = st ((tl s).take k)) := Lib.hid (by rw [ex_st]; simp)
            have HLOW := fun w => Lower_any (s.extract (k + 1) s.size) w (by simp; omega)
            rw [HDR.out] at HLOW
            clear HAT HEND
            have hav : atV (some k) = (k : Int) := rfl
            generalize (tl s).take k = lk at *
            generalize lowL ((tl s).drop (k + 1)) = dm at *
            rw [hav]
            clear hav
            have hki : (k : Int) + 1 ≤ (s.size : Int) := by omega
            have qn0 : ((nn : Int) == 0) = false := beq_eq_false_iff_ne.2 (by omega)
            have hne : ¬ nn = 0 := by omega
            have HNE := Lib.hid hne
            clear hne
            go_wp2_with fail
            refine (HLOW _).mono ?_
            rintro e w5 ⟨rfl, hx5⟩
            have hpw5 := hpw.ext hx5
            clear hpw hx5 HLOW
            obtain ⟨d0, d1, d2⟩ := hpw5.at_
            by_cases h64 : (64 : Int) < (said.length : Int)
            · have HF : Hid (parseT (tl s) = ([], [], 0, 6)) := Lib.hid (by rw [HE.out, if_pos (.inl (by rw [if_neg HNE.out]; omega))])
              clear HE
              go_wp2_with (first | (with_reducible refine stop_alloc 35 ?_) | (with_reducible refine stop_store 35 ?_) | (with_reducible refine stop_load 35 ?_))
              refine go_on (wpList_store_whole rfl rfl rfl rfl (hpw5.set1 dm).r0 (by kernel_rfl) rfl (by simp [Value.oneCell']) ?_)
              intro w6 hrow hk6 hz6
              have hx6 := (hpw5.set1 dm).hx.kept hk6 (one_ge hpw5.n0)
              go_wp2
              ((try simp only [Exit.inBlock, Exit.then]); refine bodyPost_ret (results_cell2 rfl _ _ g0 _ _ _ _ rfl hrow Try.underlying35 rfl (by kernel_rfl)) rfl ?_)
              unfold PSays
              rw [HF.out]
              exact ⟨rfl, hx6⟩
            · by_cases h255 : (255 : Int) < (dm.length : Int)
              · have HF : Hid (parseT (tl s) = ([], [], 0, 6)) := Lib.hid (by rw [HE.out, if_pos (.inr (by omega))])
                clear HE
                go_wp2_with (first | (with_reducible refine stop_alloc 35 ?_) | (with_reducible refine stop_store 35 ?_) | (with_reducible refine stop_load 35 ?_))
                refine go_on (wpList_store_whole rfl rfl rfl rfl (hpw5.set1 dm).r0 (by kernel_rfl) rfl (by simp [Value.oneCell']) ?_)
                intro w6 hrow hk6 hz6
                have hx6 := (hpw5.set1 dm).hx.kept hk6 (one_ge hpw5.n0)
                go_wp2
                ((try simp only [Exit.inBlock, Exit.then]); refine bodyPost_ret (results_cell2 rfl _ _ g0 _ _ _ _ rfl hrow Try.underlying35 rfl (by kernel_rfl)) rfl ?_)
                unfold PSays
                rw [HF.out]
                exact ⟨rfl, hx6⟩
              · have HF : Hid (parseT (tl s) = (said, dm, 0, 0)) := Lib.hid (by rw [HE.out, if_neg (by rw [if_neg HNE.out]; omega)]; rw [if_neg HNE.out])
                clear HE
                go_wp2_with (first | (with_reducible refine stop_alloc 35 ?_) | (with_reducible refine stop_store 35 ?_) | (with_reducible refine stop_load 35 ?_))
                refine go_on (wpList_load_row rfl 35 _ rfl g1 rfl 35 _ (0, 0) _ (hpw5.set1 dm).r1 Try.underlying35 rfl (by kernel_rfl) ?_)
                go_wp2_with (first | (with_reducible refine stop_alloc 35 ?_) | (with_reducible refine stop_store 35 ?_) | (with_reducible refine stop_load 35 ?_))
                refine go_on (wpList_store_whole rfl rfl rfl rfl (hpw5.set1 dm).r0 (by kernel_rfl) rfl (by simp [Value.oneCell']) ?_)
                intro w6 hrow hk6 hz6
                have hx6 := (hpw5.set1 dm).hx.kept hk6 (one_ge hpw5.n0)
                go_wp2
                ((try simp only [Exit.inBlock, Exit.then]); refine bodyPost_ret (results_cell2 rfl _ _ g0 _ _ _ _ rfl hrow Try.underlying35 rfl (by kernel_rfl)) rfl ?_)
                unfold PSays
                rw [HF.out]
                exact ⟨rfl, hx6⟩
          · have q4 : ((z : Int) != 4) = true := by simp; omega
            have HE : Hid (parseT (tl s) = ([], [], pl, 3)) := Lib.hid (by rw [HPT.out]; unfold restT; rw [HEND.out]; simp only; rw [if_pos h4])
            clear HEND h4
            go_wp2_with (first | (with_reducible refine stop_alloc 35 ?_) | (with_reducible refine stop_store 35 ?_) | (with_reducible refine stop_load 35 ?_))
            refine go_on (wpList_store_whole rfl rfl rfl rfl hpw.r0 (by kernel_rfl) rfl (by simp [Value.oneCell']) ?_)
            intro w6 hrow hk6 hz6
            have hx6 := hpw.hx.kept hk6 (one_ge hpw.n0)
            go_wp2
            ((try simp only [Exit.inBlock, Exit.then]); refine bodyPost_ret (results_cell2 rfl _ _ g0 _ _ _ _ rfl hrow Try.underlying35 rfl (by kernel_rfl)) rfl ?_)
            unfold PSays
            rw [HE.out]
            exact ⟨rfl, hx6⟩
    · have q0 : ((er : Int) != 0) = true := by simp; omega
      have HE : Hid (parseT (tl s) = ([], [], pe, er)) := Lib.hid (by rw [HPT0.out, if_pos her])
      clear her HPT0 HLT
      go_wp2_with (first | (with_reducible refine stop_alloc 35 ?_) | (with_reducible refine stop_store 35 ?_) | (with_reducible refine stop_load 35 ?_))
      refine go_on (wpList_store_whole rfl rfl rfl rfl hpw2.r0 (by kernel_rfl) rfl (by simp [Value.oneCell']) ?_)
      intro w6 hrow hk6 hz6
      have hx6 := hpw2.hx.kept hk6 (one_ge hpw2.n0)
      go_wp2
      ((try simp only [Exit.inBlock, Exit.then]); refine bodyPost_ret (results_cell2 rfl _ _ g0 _ _ _ _ rfl hrow Try.underlying35 rfl (by kernel_rfl)) rfl ?_)
      unfold PSays
      rw [HE.out]
      exact ⟨rfl, hx6⟩
  · rw [decide_eq_false hq] at HH
    rw [if_neg hq] at HPT0
    have HPT : Hid (parseT (tl s) = restT (tl s) [] 0 0 0) := Lib.hid (HPT0.out)
    clear hq HL HPT0
    go_wp2_with fail
    refine (HH _).mono ?_
    rintro e w4 ⟨rfl, rfl⟩
    clear HH
    have hfl : 0 ≤ s.size := by omega
    have h03 : 0 ≤ 3 := by omega
    have HTL2 : Hid (tl s = (tl s).drop 0) := Lib.hid rfl
    have HSZ2 : Hid (s.size = s.size - 0) := Lib.hid rfl
    have hit0 : It (w4.iter s 0) w4.heap.size s 0 := World.iter_heap w4 s 0
    have HGI : Hid (w.heap.size ≤ w4.heap.size) := Lib.hid hpw.hx.size
    have hpw0 : PW w (w4.iter s 0) g0 g1 [] [] := hpw.ext ((Ext.refl w4).alloc _)
    go_wp2
    skip
    generalize w4.heap.size = gi at *
    clear hpw
    go_loopw [6, 8, 13, 14] (fun a b c d wr => ∃ pos z pl n ao, a = .int .i64 (z : Nat) ∧ b = .int .i64 (pl : Nat) ∧ c = .int .i64 (atV ao) ∧ d = .int .i64 (n : Nat) ∧ PAt (tl s) 0 0 0 pos z n pl ao ∧ It wr gi s pos ∧ PW w wr g0 g1 [] []) (fun _ _ _ _ wr => s.size - wr.iterPos gi)
    case atStart => exact ⟨0, 0, 0, 0, none, rfl, rfl, rfl, rfl, PAt.zero (by rw [tl_length]; exact hfl) h03, hit0, hpw0⟩
    case round =>
      obtain ⟨pos, z, pl, n, ao, rfl, rfl, rfl, rfl, hat, hit, hpw⟩ := hrel
      clear hit0 hpw0
      have HAT := Lib.hid hat
      have HPOS := Lib.hid (iterPos_of hit)
      have hz6 := hat.hz
      have hn := hat.hn
      have hpl := hat.hpl
      have hle : 0 + pos ≤ s.size := by have := hat.le; simpa using this
      clear hat
      by_cases hlt : pos < s.size
      · have hnx := hit.next hlt
        have hit2 := hit.at_ (pos + (Utf8.decode s pos).2)
        have hpw2 := hpw.iter hit HGI.out (pos + (Utf8.decode s pos).2)
        have hp1 := dec_pos s pos hlt
        have hbd := dec_bound s pos
        have HPOS2 := Lib.hid (iterPos_of hit2)
        obtain ⟨b, hb1, hb2, hb3⟩ := let_here hlt rfl rfl
        rw [HTL2.out, List.drop_drop, List.drop_drop] at hb3
        generalize (Utf8.decode s pos).1 = c at *
        generalize (Utf8.decode s pos).2 = W at *
        have hN := next_any z c n hz6 hbd
        have hstep := HAT.out.step hb1 hp1 (by have := HSZ2.out; simp; omega) (by rw [hb3, Nat.add_assoc])
        have HST := Lib.hid hstep
        have hnz := nextS_le (c := c) (n := n) hz6
        clear hb1 hb3 hstep hit hpw HAT
        generalize (nextS z c n).1 = z2 at *
        generalize (nextS z c n).2 = ok at *
        go_wp2_with fail
        refine (hN _).mono ?_
        rintro e w5 ⟨rfl, rfl⟩
        clear hN
        cases ok
        · have HE : Hid (parseT (tl s) = ([], [], pl, 4)) := Lib.hid (by rw [HPT.out]; unfold restT; rw [HST.out.1 rfl])
          clear HST
          go_wp2_with (first | (with_reducible refine stop_alloc 35 ?_) | (with_reducible refine stop_store 35 ?_) | (with_reducible refine stop_load 35 ?_))
          refine go_on (wpList_store_whole rfl rfl rfl rfl hpw2.r0 (by kernel_rfl) rfl (by simp [Value.oneCell']) ?_)
          intro w6 hrow hk6 hz6
          have hx6 := hpw2.hx.kept hk6 (one_ge hpw2.n0)
          go_wp2
          ((try simp only [Exit.inBlock, Exit.then]); refine bodyPost_ret (results_cell2 rfl _ _ g0 _ _ _ _ rfl hrow Try.underlying35 rfl (by kernel_rfl)) rfl ?_)
          unfold PSays
          rw [HE.out]
          exact ⟨rfl, hx6⟩
        · have HN := Lib.hid (HST.out.2 rfl)
          clear HST
          by_cases h6 : z2 = 6
          · have q6 : ((z2 : Int) == 6) = true := by rw [h6]; rfl
            have H6 := Lib.hid h6
            clear h6
            cases ao with
            | none =>
              have e1 : atV none < 0 := by decide
              go_wp2
              go_roundw
              case rel => exact ⟨pos + W, z2, pl + 1, 0, some (0 + pos), rfl, by simp, by simp [atV], rfl, by have := HN.out; rw [if_pos H6.out, if_pos (by simp [H6.out])] at this; exact this, hit2, hpw2⟩
              case measure => rw [HPOS2.out, HPOS.out]; omega
            | some k =>
              have e1 : ¬ atV (some k) < 0 := by show ¬ (k : Int) < 0; omega
              go_wp2
              go_roundw
              case rel => exact ⟨pos + W, z2, pl + 1, 0, some k, rfl, by simp, by simp [atV], rfl, by have := HN.out; rw [if_pos H6.out, if_neg (by simp)] at this; exact this, hit2, hpw2⟩
              case measure => rw [HPOS2.out, HPOS.out]; omega
          · have q6 : ((z2 : Int) == 6) = false := beq_eq_false_iff_ne.2 (by omega)
            have H6 := Lib.hid h6
            clear h6
            go_wp2
            go_roundw
            case rel => exact ⟨pos + W, z2, pl + 1, n + 1, ao, rfl, by simp, rfl, by simp, by have := HN.out; rw [if_neg H6.out, if_neg (fun h => H6.out h.1)] at this; exact this, hit2, hpw2⟩
            case measure => rw [HPOS2.out, HPOS.out]; omega
      · have hst := hit.stop hlt
        have HEND := Lib.hid (HAT.out.end_ (by rw [← List.drop_drop, ← HTL2.out, let_done hlt]))
        by_cases h4 : z = 4
        · subst h4
          obtain ⟨k, rfl⟩ : ∃ k, ao = some k := by
            cases ao with
            | none => have := HAT.out.hno rfl; omega
            | some k => exact ⟨k, rfl⟩
          have hk := HAT.out.hao k rfl
          have hks : k + 1 ≤ s.size := by omega
          have HE : Hid (parseT (tl s) = (if 64 < (if 0 = 0 then (tl s).take k else []).length ∨ 255 < (lowL ((tl s).drop (k + 1))).length then ([], [], 0, 6) else (if 0 = 0 then (tl s).take k else [], lowL ((tl s).drop (k + 1)), 0, 0))) := Lib.hid (by rw [HPT.out]; unfold restT; rw [HEND.out]; simp)
          have HDR : Hid (tl (s.extract (k + 1) s.size) = (tl s).drop (k + 1)) := Lib.hid (by rw [ex_st, tl_st, show s.size = (tl s).length by simp, List.take_length])
          have HTK : Hid (s.extract 0 k = st ((tl s).take k)) := Lib.hid (by rw [ex_st]; simp)
          have HLOW := fun w => Lower_any (s.extract (k + 1) s.size) w (by simp; omega)
          rw [HDR.out] at HLOW
          clear HAT HEND
          have hav : atV (some k) = (k : Int) := rfl
          generalize (tl s).take k = lk at *
          generalize lowL ((tl s).drop (k + 1)) = dm at *
          rw [hav]
          clear hav
          obtain ⟨c0, c1, c2⟩ := hpw.at_
          have hki : (k : Int) ≤ (s.size : Int) := by omega
          have hki1 : (k : Int) + 1 ≤ (s.size : Int) := by omega
          go_wp2_with fail
          rw [HTK.out]
          have hpw1 := hpw.set0 lk
          refine (HLOW _).mono ?_
          rintro e w5 ⟨rfl, hx5⟩
          have hpw5 := hpw1.ext hx5
          clear hpw1 hpw hx5 HLOW c0 c1 c2
          obtain ⟨d0, d1, d2⟩ := hpw5.at_
          by_cases h64 : (64 : Int) < (lk.length : Int)
          · have HF : Hid (parseT (tl s) = ([], [], 0, 6)) := Lib.hid (by rw [HE.out, if_pos (.inl (by rw [if_pos trivial]; omega))])
            clear HE
            go_wp2_with (first | (with_reducible refine stop_alloc 35 ?_) | (with_reducible refine stop_store 35 ?_) | (with_reducible refine stop_load 35 ?_))
            refine go_on (wpList_store_whole rfl rfl rfl rfl (hpw5.set1 dm).r0 (by kernel_rfl) rfl (by simp [Value.oneCell']) ?_)
            intro w6 hrow hk6 hz6
            have hx6 := (hpw5.set1 dm).hx.kept hk6 (one_ge hpw5.n0)
            go_wp2
            ((try simp only [Exit.inBlock, Exit.then]); refine bodyPost_ret (results_cell2 rfl _ _ g0 _ _ _ _ rfl hrow Try.underlying35 rfl (by kernel_rfl)) rfl ?_)
            unfold PSays
            rw [HF.out]
            exact ⟨rfl, hx6⟩
          · by_cases h255 : (255 : Int) < (dm.length : Int)
            · have HF : Hid (parseT (tl s) = ([], [], 0, 6)) := Lib.hid (by rw [HE.out, if_pos (.inr (by omega))])
              clear HE
              go_wp2_with (first | (with_reducible refine stop_alloc 35 ?_) | (with_reducible refine stop_store 35 ?_) | (with_reducible refine stop_load 35 ?_))
              refine go_on (wpList_store_whole rfl rfl rfl rfl (hpw5.set1 dm).r0 (by kernel_rfl) rfl (by simp [Value.oneCell']) ?_)
              intro w6 hrow hk6 hz6
              have hx6 := (hpw5.set1 dm).hx.kept hk6 (one_ge hpw5.n0)
              go_wp2
              ((try simp only [Exit.inBlock, Exit.then]); refine bodyPost_ret (results_cell2 rfl _ _ g0 _ _ _ _ rfl hrow Try.underlying35 rfl (by kernel_rfl)) rfl ?_)
              unfold PSays
              rw [HF.out]
              exact ⟨rfl, hx6⟩
            · have HF : Hid (parseT (tl s) = (lk, dm, 0, 0)) := Lib.hid (by rw [HE.out, if_neg (by rw [if_pos trivial]; omega)]; rw [if_pos trivial])
              clear HE
              go_wp2_with (first | (with_reducible refine stop_alloc 35 ?_) | (with_reducible refine stop_store 35 ?_) | (with_reducible refine stop_load 35 ?_))
              refine go_on (wpList_load_row rfl 35 _ rfl g1 rfl 35 _ (0, 0) _ (hpw5.set1 dm).r1 Try.underlying35 rfl (by kernel_rfl) ?_)
              go_wp2_with (first | (with_reducible refine stop_alloc 35 ?_) | (with_reducible refine stop_store 35 ?_) | (with_reducible refine stop_load 35 ?_))
              refine go_on (wpList_store_whole rfl rfl rfl rfl (hpw5.set1 dm).r0 (by kernel_rfl) rfl (by simp [Value.oneCell']) ?_)
              intro w6 hrow hk6 hz6
              have hx6 := (hpw5.set1 dm).hx.kept hk6 (one_ge hpw5.n0)
              go_wp2
              ((try simp only [Exit.inBlock, Exit.then]); refine bodyPost_ret (results_cell2 rfl _ _ g0 _ _ _ _ rfl hrow Try.underlying35 rfl (by kernel_rfl)) rfl ?_)
              unfold PSays
              rw [HF.out]
              exact ⟨rfl, hx6⟩
        · have q4 : ((z : Int) != 4) = true := by simp; omega
          have HE : Hid (parseT (tl s) = ([], [], pl, 3)) := Lib.hid (by rw [HPT.out]; unfold restT; rw [HEND.out]; simp only; rw [if_pos h4])
          clear HEND h4
          go_wp2_with (first | (with_reducible refine stop_alloc 35 ?_) | (with_reducible refine stop_store 35 ?_) | (with_reducible refine stop_load 35 ?_))
          refine go_on (wpList_store_whole rfl rfl rfl rfl hpw.r0 (by kernel_rfl) rfl (by simp [Value.oneCell']) ?_)
          intro w6 hrow hk6 hz6
          have hx6 := hpw.hx.kept hk6 (one_ge hpw.n0)
          go_wp2
          ((try simp only [Exit.inBlock, Exit.then]); refine bodyPost_ret (results_cell2 rfl _ _ g0 _ _ _ _ rfl hrow Try.underlying35 rfl (by kernel_rfl)) rfl ?_)
          unfold PSays
          rw [HE.out]
          exact ⟨rfl, hx6⟩
end Go.Proofs.Ytchokelpimibdaa
