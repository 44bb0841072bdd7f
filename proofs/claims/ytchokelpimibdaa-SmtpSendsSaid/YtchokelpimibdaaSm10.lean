/- The walks of the reference's SameAll of no deeds, and of its Same of two answers that read the same: it answers true. Conditions: the hypotheses of each theorem. -/
import Derived.Test.YtchokelpimibdaaSm9
namespace Go.Proofs.Ytchokelpimibdaa
open Go.RowKit
theorem dsameall_nil (w : World) : Calls Try.prog 21 #[.slice none 0 0, .slice none 0 0] w fun e w' => e = .returned (.bool true) ∧ Ext w w' := by
  go_enter Try.func21, Try.ntmps21
  go_wp2
  go_loopw [5] (fun i wr => i = .int .i64 0 ∧ wr = w) (fun _ _ => 0)
  case atStart => exact ⟨rfl, rfl⟩
  case round =>
    obtain ⟨rfl, rfl⟩ := hrel
    go_wp2
    go_ret
    exact ⟨rfl, Ext.refl _⟩
theorem wpList_load_midG {P : Program} {ops : Array Oper} {rest : List Oper} {op : Oper} {a : Act} {w : World} {Q : Exit → Act → World → Prop} (hw : Region.wanted op (yielded ops a.tmps) = true) (ty : TypeId) (x : Operand) (ho : op.op = .load ty x)
    (b o : Nat) (hx : a.eval x = .pointer (some ⟨b, o, none⟩)) (cs : List Value) (d : TypeDesc) (hc : w.rangeAt b o cs)
    (hu : P.underlying ty = some d) (hd : d.isRow = true) (hi : (P.info? ty).map (·.size) = some cs.length)
    (h : wpList P ops Q rest (a.put op.dst (.agg cs.toArray)) w) : wpList P ops Q (op :: rest) a w :=
  wpList_want hw (wp_load_mid ty x ho b o hx cs d hc hu hd hi h)
theorem yieldsIf_load_elem {P : Program} {ops : Array Oper} {S : World → Prop} {op : Oper} {a : Act} (hw : Region.wanted op (yielded ops a.tmps) = true) (ty : TypeId) (x : Operand) (ho : op.op = .load ty x)
    (p : Addr) (hx : a.eval x = .pointer (some p)) (cs : List Value) (d : TypeDesc) (hS : ∀ w, S w → ∀ j v, cs[j]? = some v → w.cell? (p.add j) = some v)
    (hu : P.underlying ty = some d) (hd : d.isRow = true) (hi : (P.info? ty).map (·.size) = some cs.length) : YieldsIf P ops S op (.agg cs.toArray) a :=
  .inl ⟨hw, fun w hw' => by
    unfold execOp
    simp only [ho, hx, Instr.loadAt, Instr.sureAddr, Sem.run_bind, Sem.run_pure, Result.andThen_ok, run_loadVar_elem w p ty cs d (hS w hw') hu hd hi]⟩
theorem RSt.at_ {M : List Nat} {w : World} {A : Option Addr} {xs : List By} (h : RsM RSt 1 M w A xs) {k : Nat} (hk : k < xs.length) : ∃ ad, A = some ad ∧ ∀ w', Ext w w' → w'.cell? (ad.add k) = some (.string (st xs[k])) := by
  obtain ⟨ad, cs, e, _, _, hc, hs⟩ := h.at_ (by omega) hk
  obtain rfl : cs = [.string (st xs[k])] := hs
  refine ⟨ad, e, fun w' hx => hx.cell ?_⟩
  have := hc 0 _ rfl
  simpa using this
theorem RAd.at_ {M : List Nat} {w : World} {A : Option Addr} {xs : List Ad} (h : RsM RAd 2 M w A xs) {k : Nat} (hk : k < xs.length) : ∃ ad, A = some ad ∧ ∀ w', Ext w w' → ∀ j v, ([.string (st xs[k].1), .string (st xs[k].2)] : List Value)[j]? = some v → w'.cell? ((ad.add (k * 2)).add j) = some v := by
  obtain ⟨ad, cs, e, _, _, hc, hs⟩ := h.at_ (by omega) hk
  obtain rfl : cs = [.string (st xs[k].1), .string (st xs[k].2)] := hs
  exact ⟨ad, e, fun w' hx j v hj => by rw [add_addB]; exact hx.cell (hc j v hj)⟩
theorem row9_at {w : World} {p t : Nat} {a b c d e f g h i : Value} (hr : w.heap[p]? = some (.cells #[a, b, c, d, e, f, g, h, i] t (0, 0))) : (∀ w', Ext w w' → w'.cell? ⟨p, 0, none⟩ = some a) ∧ (∀ w', Ext w w' → w'.cell? ⟨p, 1, none⟩ = some b) ∧ (∀ w', Ext w w' → w'.cell? ⟨p, 4, none⟩ = some e) ∧
    (∀ w', Ext w w' → w'.cell? ⟨p, 5, none⟩ = some f) ∧ (∀ w', Ext w w' → w'.cell? ⟨p, 6, none⟩ = some g) ∧ (∀ w', Ext w w' → w'.cell? ⟨p, 7, none⟩ = some h) ∧ (∀ w', Ext w w' → w'.cell? ⟨p, 8, none⟩ = some i) ∧ (∀ w', Ext w w' → w'.rangeAt p 2 [c, d]) := by
  refine ⟨fun w' hx => ?_, fun w' hx => ?_, fun w' hx => ?_, fun w' hx => ?_, fun w' hx => ?_, fun w' hx => ?_, fun w' hx => ?_, fun w' hx => ?_⟩
  case refine_8 =>
    have := World.rangeAt_of_block (hx.obj hr) 2 2
    simpa using this
  all_goals simp [World.cell?, hx.obj hr]
set_option maxRecDepth 20000 in
set_option maxHeartbeats 4000000 in
theorem osame_eq (o : Ou) (A1 : Option Addr) (c1 : Nat) (A2 : Option Addr) (c2 : Nat) (A3 : Option Addr) (c3 : Nat) (B1 : Option Addr) (d1 : Nat) (B2 : Option Addr) (d2 : Nat) (B3 : Option Addr) (d3 : Nat) (w : World)
    (ha1 : RsM RSt 1 [] w A1 o.lines) (ha2 : RsM RAd 2 [] w A2 o.to_) (ha3 : Bs w A3 o.bytes) (hb1 : RsM RSt 1 [] w B1 o.lines) (hb2 : RsM RAd 2 [] w B2 o.to_) (hb3 : Bs w B3 o.bytes) (hl : o.lines.length ≤ 1000000) (ht : o.to_.length ≤ 1000000) :
    Calls Try.prog 9 #[.agg (outC o A1 c1 A2 c2 A3 c3).toArray, .agg (outC o B1 d1 B2 d2 B3 d3).toArray] w fun e w' => e = .returned (.bool true) ∧ Ext w w' := by
  obtain ⟨lines, send, fl, fd, to_, bytes, close⟩ := o
  simp only at ha1 ha2 ha3 hb1 hb2 hb3 hl ht
  obtain ⟨w1, hw1⟩ : ∃ w1, w1 = w.alloc (.cells #[.slice A1 lines.length c1, .bool send, .string (st fl), .string (st fd), .slice A2 to_.length c2, .slice A3 bytes.length c3, .string ⟨#[]⟩, .slice none 0 0, .bool close] 39) := ⟨_, rfl⟩
  have hx1 : Ext w w1 := hw1 ▸ (Ext.refl w).alloc _
  have hr1 : w1.heap[w.heap.size]? = some (.cells #[.slice A1 lines.length c1, .bool send, .string (st fl), .string (st fd), .slice A2 to_.length c2, .slice A3 bytes.length c3, .string ⟨#[]⟩, .slice none 0 0, .bool close] 39 (0, 0)) := hw1 ▸ heap_alloc_new w _
  have hz : w1.heap.size = w.heap.size + 1 := by rw [hw1]; simp
  obtain ⟨w2, hw2⟩ : ∃ w2, w2 = w1.alloc (.cells #[.slice B1 lines.length d1, .bool send, .string (st fl), .string (st fd), .slice B2 to_.length d2, .slice B3 bytes.length d3, .string ⟨#[]⟩, .slice none 0 0, .bool close] 39) := ⟨_, rfl⟩
  have hx2 : Ext w1 w2 := hw2 ▸ (Ext.refl w1).alloc _
  have hr2 : w2.heap[w1.heap.size]? = some (.cells #[.slice B1 lines.length d1, .bool send, .string (st fl), .string (st fd), .slice B2 to_.length d2, .slice B3 bytes.length d3, .string ⟨#[]⟩, .slice none 0 0, .bool close] 39 (0, 0)) := hw2 ▸ heap_alloc_new w1 _
  rw [hz] at hr2
  have hr1 := hx2.obj hr1
  have hx := hx1.trans hx2
  have hca := run_str (P := Try.prog) Try.underlying22 Try.underlying5 Try.underlying9 (ha3.ext hx) bytes.length c3 rfl
  have hcb := run_str (P := Try.prog) Try.underlying22 Try.underlying5 Try.underlying9 (hb3.ext hx) bytes.length d3 rfl
  have HA1 := Lib.hid (ha1.kept (.of_ext hx))
  have HA2 := Lib.hid (ha2.kept (.of_ext hx))
  have HB1 := Lib.hid (hb1.kept (.of_ext hx))
  have HB2 := Lib.hid (hb2.kept (.of_ext hx))
  have HX := Lib.hid hx
  have HR1 := Lib.hid hr1
  have HR2 := Lib.hid hr2
  have HW1 := Lib.hid hw1
  have HW2 := Lib.hid hw2
  clear ha1 ha2 ha3 hb1 hb2 hb3 hr1 hr2 hx1 hx2 hx hw1 hw2 hz
  unfold outC
  go_enter Try.func9, Try.ntmps9
  go_upto_region 1 with fail
  rw [← HW1.out, ← HW2.out]
  generalize hg2 : w.heap.size + 1 = g2 at *
  generalize hg1 : w.heap.size = g1 at *
  clear hg1 hg2 HW1 HW2
  obtain ⟨a0, a1, a4, a5, a6, a7, a8, ar⟩ := row9_at HR1.out
  obtain ⟨b0, b1, b4, b5, b6, b7, b8, br⟩ := row9_at HR2.out
  have hx22 : Ext w2 w2 := Ext.refl _
  have AR := Lib.hid (ar w2 hx22)
  have BR := Lib.hid (br w2 hx22)
  have a0' := a0 w2 hx22
  have b0' := b0 w2 hx22
  have a1' := a1 w2 hx22
  have b1' := b1 w2 hx22
  have a4' := a4 w2 hx22
  have b4' := b4 w2 hx22
  have a5' := a5 w2 hx22
  have b5' := b5 w2 hx22
  have a6' := a6 w2 hx22
  have b6' := b6 w2 hx22
  have a7' := a7 w2 hx22
  have b7' := b7 w2 hx22
  have a8' := a8 w2 hx22
  have b8' := b8 w2 hx22
  have hca' := hca w2 hx22
  have hcb' := hcb w2 hx22
  clear a1 b1 a5 b5 a6 b6 a7 b7 a8 b8 ar br hca hcb
  go_wp2_with (with_reducible refine stop_load 35 ?_)
  refine go_on (wpList_load_midG (by rfl) 35 _ rfl g1 2 rfl [.string (st fl), .string (st fd)] _ AR.out Try.underlying35 rfl (ad_size (.string (st [])) (.string (st []))) ?_)
  go_wp2_with (with_reducible refine stop_load 35 ?_)
  refine go_on (wpList_load_midG (by rfl) 35 _ rfl g2 2 rfl [.string (st fl), .string (st fd)] _ BR.out Try.underlying35 rfl (ad_size (.string (st [])) (.string (st []))) ?_)
  go_wp2_with fail
  refine (dsameall_nil w2).mono ?_
  rintro e w3 ⟨rfl, hx3⟩
  have HX3 := Lib.hid (HX.out.trans hx3)
  have HQA1 := Lib.hid (HA1.out.kept (.of_ext hx3))
  have HQB1 := Lib.hid (HB1.out.kept (.of_ext hx3))
  have HQA2 := Lib.hid (HA2.out.kept (.of_ext hx3))
  have HQB2 := Lib.hid (HB2.out.kept (.of_ext hx3))
  have HA0 := Lib.hid (fun V (hv : Ext w3 V) => a0 V (hx3.trans hv))
  have HB0 := Lib.hid (fun V (hv : Ext w3 V) => b0 V (hx3.trans hv))
  have HA4 := Lib.hid (fun V (hv : Ext w3 V) => a4 V (hx3.trans hv))
  have HB4 := Lib.hid (fun V (hv : Ext w3 V) => b4 V (hx3.trans hv))
  clear hx3 HX HA1 HA2 HB1 HB2 a0 b0 a4 b4 a0' b0' a1' b1' a4' b4' a5' b5' a6' b6' a7' b7' a8' b8' hca' hcb' hx22 AR BR HR1 HR2
  go_wp2
  go_loopw [5] (fun i wr => ∃ k : Nat, i = .int .i64 k ∧ k ≤ lines.length ∧ Ext w3 wr) (fun i _ => lines.length - (intOf i).toNat)
  case atStart => exact ⟨0, rfl, by omega, Ext.refl _⟩
  case round =>
    obtain ⟨k, rfl, hk, hx⟩ := hrel
    have a0 := HA0.out wr hx
    have b0 := HB0.out wr hx
    by_cases hlt : k < lines.length
    · have hlt2 : (k : Int) < (lines.length : Int) := by omega
      obtain ⟨ad, rfl, hc1⟩ := RSt.at_ HQA1.out hlt
      obtain ⟨ad2, rfl, hc2⟩ := RSt.at_ HQB1.out hlt
      have hc1 := hc1 wr hx
      have hc2 := hc2 wr hx
      generalize lines[k] = y at *
      go_wp2_with fail
      go_quiet (fail)
      go_wp2
      go_roundw
      case rel => exact ⟨k + 1, by go_num, by omega, hx.drewN _⟩
      case measure => simp [intOf]; omega
    · have hlt2 : ¬ (k : Int) < (lines.length : Int) := by omega
      clear hlt
      go_wp2
      go_loopw [6] (fun i wr => ∃ k : Nat, i = .int .i64 k ∧ k ≤ to_.length ∧ Ext w3 wr) (fun i _ => to_.length - (intOf i).toNat)
      case atStart => exact ⟨0, rfl, by omega, hx⟩
      case round =>
        clear a0 b0 hlt2 hx
        obtain ⟨k, rfl, hk, hx⟩ := hrel
        have a4 := HA4.out wr hx
        have b4 := HB4.out wr hx
        by_cases hlt : k < to_.length
        · have hlt2 : (k : Int) < (to_.length : Int) := by omega
          obtain ⟨ad, rfl, hc1⟩ := RAd.at_ HQA2.out hlt
          obtain ⟨ad2, rfl, hc2⟩ := RAd.at_ HQB2.out hlt
          have A4 := fun V (hv : Ext wr V) => HA4.out V (hx.trans hv)
          have B4 := fun V (hv : Ext wr V) => HB4.out V (hx.trans hv)
          have hc1 := fun V (hv : Ext wr V) => hc1 V (hx.trans hv)
          have hc2 := fun V (hv : Ext wr V) => hc2 V (hx.trans hv)
          generalize to_[k] = y at *
          have hxd : Ext wr wr.drew := (Ext.refl _).drew
          clear a4 b4
          go_wp2_with fail
          refine wp_region_phase (S := fun V => Ext wr V) 10 (by kernel_rfl) (by kernel_rfl) ?_ (fun hHeld => ?_)
          · exact hxd
          simp only [List.drop_succ_cons, List.drop_zero]
          refine name_head ?_
          intro wr0 hw0
          rw [hw0] at hHeld
          refine wpHead_take (i := 0) (v := ?_) (by rfl) (by kernel_rfl) (by kernel_rfl) (by exact fun _ _ _ h => h) (Or.inl ⟨by rfl, ?_⟩) (by assumption) ?_
          rotate_left
          · intro w hSw
            first | (go_simp; done) | (go_simp; with_reducible rfl)
          simp only [List.getElem_toArray, List.getElem_cons_zero, Act.put, List.setIfInBounds_toArray, List.set_cons_zero, List.set_cons_succ]
          refine wpHead_take (i := 1) (v := ?_) (by rfl) (by kernel_rfl) (by kernel_rfl) (by exact fun _ _ _ h => h) (Or.inl ⟨by rfl, ?_⟩) (by assumption) ?_
          rotate_left
          · intro w hSw
            first | (go_simp; done) | (go_simp; with_reducible rfl)
          simp only [List.getElem_toArray, List.getElem_cons_succ, List.getElem_cons_zero, Act.put, List.setIfInBounds_toArray, List.set_cons_zero, List.set_cons_succ]
          refine wpHead_take (i := 2) (v := ?_) (by rfl) (by kernel_rfl) (by kernel_rfl) (by exact fun _ _ _ h => h) (Or.inl ⟨by rfl, ?_⟩) (by assumption) ?_
          rotate_left
          · intro w hSw
            first | (go_simp; done) | (go_simp; with_reducible rfl)
          simp only [List.getElem_toArray, List.getElem_cons_succ, List.getElem_cons_zero, Act.put, List.setIfInBounds_toArray, List.set_cons_zero, List.set_cons_succ]
          refine wpHead_take (i := 3) (v := ?_) (by rfl) (by kernel_rfl) (by kernel_rfl) (by exact fun _ _ _ h => h) (Or.inl ⟨by rfl, ?_⟩) (by assumption) ?_
          rotate_left
          · intro w hSw
            first | (go_simp; done) | (go_simp; with_reducible rfl)
          simp only [List.getElem_toArray, List.getElem_cons_succ, List.getElem_cons_zero, Act.put, List.setIfInBounds_toArray, List.set_cons_zero, List.set_cons_succ]
          refine wpHead_take (i := 4) (v := (.agg #[.string (st y.1), .string (st y.2)])) (by rfl) (by kernel_rfl) (by kernel_rfl) (by exact fun _ _ _ h => h) (by exact yieldsIf_load_elem (by rfl) 35 _ rfl (ad.add (k * 2)) rfl [.string (st y.1), .string (st y.2)] _ (fun w' hv => hc1 w' hv) Try.underlying35 rfl (ad_size (.string (st [])) (.string (st [])))) (by assumption) ?_
          simp only [List.getElem_toArray, List.getElem_cons_succ, List.getElem_cons_zero, Act.put, List.setIfInBounds_toArray, List.set_cons_zero, List.set_cons_succ]
          refine wpHead_take (i := 5) (v := ?_) (by rfl) (by kernel_rfl) (by kernel_rfl) (by exact fun _ _ _ h => h) (Or.inl ⟨by rfl, ?_⟩) (by assumption) ?_
          rotate_left
          · intro w hSw
            first | (go_simp; done) | (go_simp; with_reducible rfl)
          simp only [List.getElem_toArray, List.getElem_cons_succ, List.getElem_cons_zero, Act.put, List.setIfInBounds_toArray, List.set_cons_zero, List.set_cons_succ]
          refine wpHead_take (i := 6) (v := ?_) (by rfl) (by kernel_rfl) (by kernel_rfl) (by exact fun _ _ _ h => h) (Or.inl ⟨by rfl, ?_⟩) (by assumption) ?_
          rotate_left
          · intro w hSw
            first | (go_simp; done) | (go_simp; with_reducible rfl)
          simp only [List.getElem_toArray, List.getElem_cons_succ, List.getElem_cons_zero, Act.put, List.setIfInBounds_toArray, List.set_cons_zero, List.set_cons_succ]
          refine wpHead_take (i := 7) (v := ?_) (by rfl) (by kernel_rfl) (by kernel_rfl) (by exact fun _ _ _ h => h) (Or.inl ⟨by rfl, ?_⟩) (by assumption) ?_
          rotate_left
          · intro w hSw
            first | (go_simp; done) | (go_simp; with_reducible rfl)
          simp only [List.getElem_toArray, List.getElem_cons_succ, List.getElem_cons_zero, Act.put, List.setIfInBounds_toArray, List.set_cons_zero, List.set_cons_succ]
          refine wpHead_take (i := 8) (v := ?_) (by rfl) (by kernel_rfl) (by kernel_rfl) (by exact fun _ _ _ h => h) (Or.inl ⟨by rfl, ?_⟩) (by assumption) ?_
          rotate_left
          · intro w hSw
            first | (go_simp; done) | (go_simp; with_reducible rfl)
          simp only [List.getElem_toArray, List.getElem_cons_succ, List.getElem_cons_zero, Act.put, List.setIfInBounds_toArray, List.set_cons_zero, List.set_cons_succ]
          refine wpHead_take (i := 9) (v := (.agg #[.string (st y.1), .string (st y.2)])) (by rfl) (by kernel_rfl) (by kernel_rfl) (by exact fun _ _ _ h => h) (by exact yieldsIf_load_elem (by rfl) 35 _ rfl (ad2.add (k * 2)) rfl [.string (st y.1), .string (st y.2)] _ (fun w' hv => hc2 w' hv) Try.underlying35 rfl (ad_size (.string (st [])) (.string (st [])))) (by assumption) ?_
          simp only [List.getElem_toArray, List.getElem_cons_succ, List.getElem_cons_zero, Act.put, List.setIfInBounds_toArray, List.set_cons_zero, List.set_cons_succ]
          refine wpHead_done (by kernel_rfl) ?_
          have HX9 := Lib.hid (hx.trans hHeld)
          clear hc1 hc2 A4 B4
          go_wp2
          go_roundw
          case rel => exact ⟨k + 1, by go_num, by omega, HX9.out⟩
          case measure => simp [intOf]; omega
        · have hlt2 : ¬ (k : Int) < (to_.length : Int) := by omega
          go_wp2
          go_ret
          exact ⟨rfl, HX3.out.trans hx⟩
end Go.Proofs.Ytchokelpimibdaa
