/- What deed.num, short and long leave as it is; how a deed reads; how long what is right can be. Conditions: the hypotheses of each theorem. -/
import Derived.Test.YthlppbbejdeeoaaDd11
namespace Go.Proofs.Ythlppbbejdeeoaa
open Go.RowKit
theorem Stp.drew {ts : List Nat} {w w' : World} (h : Stp ts w w') : Stp ts w w'.drew := ⟨h.1, h.2⟩
theorem Stp.refl (ts : List Nat) (w : World) : Stp ts w w := .of_ext (Ext.refl w)
theorem Stp.alloc {ts : List Nat} {w w' : World} (h : Stp ts w w') (o : Obj) : Stp ts w (w'.alloc o) := h.trans (.of_ext ((Ext.refl _).alloc o))
theorem Stp.own {ts : List Nat} {w w' w'' : World} {base : Nat} {b : Value} {l : By} (h : Stp ts w w') (ho : Own w' base b l) (hg : w'.grownBy w'' b.ownBlock) (hts : 5 ∉ ts) : Stp ts w w'' := by
  obtain ⟨N, hk, hN⟩ := Kept.row ho hg
  exact h.trans (.kept hk fun k hk _ => by obtain ⟨_, cs, h⟩ := hN k hk; exact ⟨cs, _, _, h, hts⟩)
/-- what is laid so far, and that nothing but bytes was turned -/
structure Lay (w0 w : World) (l : By) (w' : World) (b : Value) : Prop where
  o : Own w' w0.heap.size b l
  x : Ext w0 w'
  s : ∀ ts, 5 ∉ ts → Stp ts w w'
theorem Lay.trans {w0 w w1 w2 : World} {l m : By} {b c : Value} (h : Lay w0 w l w1 b) (k : Lay w0 w1 m w2 c) : Lay w0 w m w2 c := ⟨k.o, k.x, fun ts ht => (h.s ts ht).trans (k.s ts ht)⟩
theorem Lay.drew {w0 w w1 : World} {l : By} {b : Value} (h : Lay w0 w l w1 b) : Lay w0 w l w1.drew b := ⟨h.o, h.x.drew, fun ts ht => (h.s ts ht).drew⟩
set_option maxHeartbeats 1000000 in
theorem numS_any (w0 w : World) (b : Value) (l : By) (v n : Nat) (hx : Ext w0 w) (ho : Own w w0.heap.size b l) (hl : l.length + 4 ≤ 140737488355328) (hn : n ≤ 4) :
    Calls Try.prog 38 #[b, .int .i64 v, .int .i64 n] w fun e w' => ∃ b', e = .returned b' ∧ Lay w0 w (l ++ beN n v) w' b' := by
  obtain ⟨ls, hls⟩ : ∃ ls, ls = l ++ beN n v := ⟨_, rfl⟩
  rw [← hls]
  have HLS := Lib.hid hls
  clear hls
  go_enter Try.func38, Try.ntmps38
  go_wp2
  go_loopw [0, 7] (fun b' k wr => ∃ (m : Nat) (l' : By), k = .int .i64 ((m : Int) - 1) ∧ m ≤ n ∧ Lay w0 w l' wr b' ∧ l' ++ beN m v = ls) (fun _ k _ => ((intOf k) + 1).toNat)
  case atStart => exact ⟨n, l, rfl, Nat.le_refl _, ⟨ho, hx, fun ts _ => .refl ts w⟩, HLS.out.symm⟩
  case round =>
    clear ho hx
    obtain ⟨m, l', rfl, hmn, hlay, hls⟩ := hrel
    have HLEN := Lib.hid (congrArg List.length hls)
    have HLN := Lib.hid (congrArg List.length HLS.out)
    match m with
    | 0 =>
      rw [beN, List.append_nil] at hls
      subst hls
      go_wp2
      go_ret
      exact ⟨_, rfl, hlay⟩
    | m + 1 =>
      rw [beN] at hls
      have HL := Lib.hid hls
      clear hls
      have e1 : ((m + 1 : Nat) : Int) - 1 = (m : Int) := by omega
      have hsh := shr_byte v m
      have e2 : ((8 : Int) * (m : Int)).toNat = 8 * m := by omega
      have hwb := wrap_byte (v / 256 ^ m)
      have ho := hlay.o
      have hx := hlay.x
      obtain ⟨A, cap, rfl⟩ := ho.form
      rw [e1]
      go_wp2_with (at_builtin; refine unstop ?_)
      refine go_on (wpList_appB bytesTr (ho.alloc _) (Bs.new _ [UInt8.ofNat (v / 256 ^ m)] _ rfl _ _) rfl rfl rfl rfl rfl (by have := HLEN.out; have := HLN.out; simp only [List.length_append, beN_length, List.length_cons, List.length_nil] at *; omega) (by have := hx.size; simp; omega) ?_)
      intro b' w1 ho1 hg1 _
      have hlay1 : Lay w0 w (l' ++ [UInt8.ofNat (v / 256 ^ m)]) w1 b' := ⟨ho1, (hx.alloc _).own (ho.alloc _) (Nat.le_refl _) hg1, fun ts ht => ((hlay.s ts ht).alloc _).own (ho.alloc _) hg1 ht⟩
      clear hsh e1 e2 hwb hg1 hlay hx ho
      go_wp2
      go_roundw
      case rel => exact ⟨m, _, rfl, by omega, hlay1, by rw [← HL.out, List.append_assoc]; rfl⟩
      case measure => simp [intOf]
set_option maxHeartbeats 1000000 in
theorem longS_any (w0 w : World) (b : Value) (l p : By) (A : Option Addr) (c : Nat) (hx : Ext w0 w) (ho : Own w w0.heap.size b l) (hp : Bs w0 A p) (hl : l.length + p.length + 8 ≤ 140737488355328) :
    Calls Try.prog 41 #[b, .slice A p.length c] w fun e w' => ∃ b', e = .returned b' ∧ Lay w0 w (l ++ longB p) w' b' := by
  have HN := numS_any w0 w b l p.length 2 hx ho (by omega) (by omega)
  go_enter Try.func41, Try.ntmps41
  go_wp2_with fail
  refine HN.mono ?_
  rintro e w1 ⟨b1, rfl, hlay⟩
  go_wp2_with (at_builtin; refine unstop ?_)
  refine go_on (wpList_appB bytesTr hlay.o (hp.ext hlay.x) rfl rfl rfl rfl rfl (by simp; omega) hlay.x.size ?_)
  intro b2 w2 ho2 hg2 _
  have hlay2 : Lay w0 w (l ++ longB p) w2 b2 := ⟨by simpa [longB] using ho2, hlay.x.own hlay.o (Nat.le_refl _) hg2, fun ts ht => (hlay.s ts ht).own hlay.o hg2 ht⟩
  clear hg2 ho2 ho HN hp hlay
  go_wp2
  go_ret
  exact ⟨_, rfl, hlay2⟩
set_option maxHeartbeats 1000000 in
theorem shortS_any (w0 w : World) (b : Value) (l p : By) (hx : Ext w0 w) (ho : Own w w0.heap.size b l) (hl : l.length + p.length + 8 ≤ 140737488355328) :
    Calls Try.prog 40 #[b, .string (st p)] w fun e w' => ∃ b', e = .returned b' ∧ Lay w0 w (l ++ shortB p) w' b' := by
  have HN := numS_any w0 w b l p.length 1 hx ho (by omega) (by omega)
  obtain ⟨s, hs⟩ : ∃ s, s = st p := ⟨_, rfl⟩
  have hz : s.size = p.length := by rw [hs, st_size]
  rw [← hs]
  have HS := Lib.hid hs
  clear hs
  go_enter Try.func40, Try.ntmps40
  go_wp2_with fail
  refine HN.mono ?_
  rintro e w1 ⟨b1, rfl, hlay⟩
  go_wp2_with (at_builtin; refine unstop ?_)
  refine go_on (wpList_appS hlay.o rfl rfl rfl (congrArg Value.string HS.out) (by simp; omega) hlay.x.size ?_)
  intro b2 w2 ho2 hg2
  have hlay2 : Lay w0 w (l ++ shortB p) w2 b2 := ⟨by simpa [shortB] using ho2, hlay.x.own hlay.o (Nat.le_refl _) hg2, fun ts ht => (hlay.s ts ht).own hlay.o hg2 ht⟩
  clear hg2 ho2 ho HN hlay
  go_wp2
  go_ret
  exact ⟨_, rfl, hlay2⟩
/-! ## how a deed reads -/
def RDd : Reading Dd where
  says M w cs d := ∃ A cap, cs = (ddC d (.slice A d.bytes.length cap)).toList ∧ BsM M w A d.bytes ∧ d.bytes.length ≤ cap ∧ d.bytes.length ≤ 140737488351232 ∧ d.user.length ≤ 140737488351232 ∧ d.box.length ≤ 140737488351232 ∧ d.dest.length ≤ 140737488351232
  kept := by
    rintro M w w' cs x ⟨A, cap, h1, h2, h3⟩ hx
    exact ⟨A, cap, h1, h2.kept hx, h3⟩
  old := by
    rintro M N w cs x ⟨A, cap, h1, h2, h3⟩ hx
    exact ⟨A, cap, h1, SlM.old h2 hx, h3⟩
/-! ## how long what is right can be -/
theorem sizeF_add (ls : List Lt) : ∀ n, sizeF n ls = n + sizeF 0 ls := by
  induction ls with
  | nil => intro n; rfl
  | cons l ls ih =>
    intro n
    have h1 : sizeF n (l :: ls) = sizeF (n + l.bytes.length) ls := rfl
    have h2 : sizeF 0 (l :: ls) = sizeF (0 + l.bytes.length) ls := rfl
    rw [h1, h2, ih, ih (0 + _)]
    omega
theorem putL_len (ls : List Lt) : (ls.flatMap putL).length = 7 * ls.length + sizeF 0 ls := by
  induction ls with
  | nil => rfl
  | cons l ls ih =>
    have h2 : sizeF 0 (l :: ls) = sizeF (0 + l.bytes.length) ls := rfl
    rw [List.flatMap_cons, List.length_append, ih, h2, sizeF_add ls (0 + _)]
    simp only [putL, longB, List.length_append, beN_length, List.length_cons, List.length_nil]
    omega
theorem rightB_len {l : By} (h : rightB l = true) : 1 ≤ l.length ∧ l.length ≤ 24 := by
  unfold rightB at h
  simp only [Bool.and_eq_true, decide_eq_true_eq] at h
  obtain ⟨⟨⟨h1, h2⟩, _⟩, _⟩ := h
  exact ⟨List.length_pos_iff.2 h1, h2⟩
theorem rightU_len {l : By} (h : rightU l = true) : 1 ≤ l.length ∧ l.length ≤ 24 := by
  unfold rightU at h
  simp only [Bool.and_eq_true, decide_eq_true_eq] at h
  obtain ⟨⟨_, h1⟩, h2⟩ := h
  exact ⟨List.length_pos_iff.2 h1, h2⟩
theorem oneC_ok {valid : Int} {prev : Option By} {b : Bx} (h : oneC valid prev b = 0) : rightB b.name = true ∧ behindB prev b.name = false ∧ boxC b = 0 ∧ b.valid ≤ valid := by
  unfold oneC at h
  split at h
  · cases h
  · rename_i h1
    split at h
    · rename_i h2; exact absurd h h2
    · rename_i h2
      split at h
      · cases h
      · rename_i h3
        simp only [not_or, Bool.not_eq_false, Bool.not_eq_true] at h1
        exact ⟨h1.1, h1.2, by omega, by omega⟩
theorem boxesC_len (valid : Int) : ∀ (bs : List Bx) (prev : Option By) (t : Tot), boxesC valid bs prev t = 0 →
    (bs.flatMap putX).length + (if t.found then 0 else 19) + 7 * t.letters + t.size ≤ 34 * bs.length + 1480 := by
  intro bs
  induction bs with
  | nil =>
    intro prev t h
    unfold boxesC at h
    split at h
    · cases h
    · rename_i h1
      split at h
      · cases h
      · rename_i h2
        have : t.found = true := by simpa using h1
        rw [this]
        simp
        omega
  | cons b bs ih =>
    intro prev t h
    unfold boxesC at h
    split at h
    · rename_i h1; exact absurd h h1
    · rename_i h1
      have hone := oneC_ok (by omega : oneC valid prev b = 0)
      have := ih _ _ h
      have hl := rightB_len hone.1
      have hin : b.name = inboxL → b.name.length = 5 := by intro h; rw [h]; rfl
      simp only [List.flatMap_cons, List.length_append, putX, shortB, beN_length, List.length_nil, putL_len, List.length_cons, Tot.add] at this ⊢
      unfold sizeB at this
      by_cases hn : b.name = inboxL
      · have := hin hn
        cases hf : t.found <;> simp [hf, hn] at * <;> omega
      · cases hf : t.found <;> simp [hf, hn] at * <;> omega
theorem boxesC_ok (valid : Int) : ∀ (bs : List Bx) (prev : Option By) (t : Tot), boxesC valid bs prev t = 0 → ∀ b ∈ bs, rightB b.name = true ∧ boxC b = 0 := by
  intro bs
  induction bs with
  | nil => intro prev t _ b hb; cases hb
  | cons b bs ih =>
    intro prev t h c hc
    unfold boxesC at h
    split at h
    · rename_i h1; exact absurd h h1
    · rename_i h1
      have hone := oneC_ok (by omega : oneC valid prev b = 0)
      rcases List.mem_cons.1 hc with rfl | hc
      · exact ⟨hone.1, hone.2.2.1⟩
      · exact ih _ _ h c hc
theorem checkU_ok {u : Us} (h : checkU u = 0) : rightU u.name = true ∧ 1 ≤ u.valid ∧ u.valid ≤ 4294967295 ∧ 1 ≤ u.boxes.length ∧ u.boxes.length ≤ 6 ∧ boxesC u.valid u.boxes none ⟨0, 0, false⟩ = 0 := by
  unfold checkU at h
  split at h
  · cases h
  · rename_i h1
    split at h
    · cases h
    · rename_i h2
      split at h
      · cases h
      · rename_i h3
        exact ⟨by simpa using h1, by omega, by omega, by omega, by omega, h⟩
theorem numB_ok {n : Int} (h : numB n = true) : okN n ∧ 1 ≤ n := by
  unfold numB at h
  simp only [Bool.and_eq_true, decide_eq_true_eq] at h
  exact ⟨⟨by omega, by omega⟩, h.1⟩
theorem boxC_okX {b : Bx} (hn : rightB b.name = true) (h : boxC b = 0) : okX b := by
  obtain ⟨h1, h2, h3, h4⟩ := boxC_ok h
  refine ⟨by have := rightB_len hn; omega, (numB_ok h1).1, (numB_ok h2).1, by omega, fun l hl => ?_⟩
  have := h4 l hl
  have := (numB_ok h2).1
  exact ⟨⟨by omega, by have := this.2; omega⟩, by omega⟩
theorem checkU_okU {u : Us} (h : checkU u = 0) : okU u := by
  obtain ⟨h1, h2, h3, h4, h5, h6⟩ := checkU_ok h
  exact ⟨by have := rightU_len h1; omega, ⟨by omega, by omega⟩, by omega, fun b hb => by obtain ⟨q1, q2⟩ := boxesC_ok _ _ _ _ h6 b hb; exact boxC_okX q1 q2⟩
theorem putUs_len {u : Us} (h : checkU u = 0) : (putUs u).length ≤ 1700 := by
  obtain ⟨h1, h2, h3, h4, h5, h6⟩ := checkU_ok h
  have := boxesC_len _ _ _ _ h6
  have := rightU_len h1
  simp only [putUs, shortB, List.length_append, beN_length, List.length_nil] at *
  simp at *
  omega
theorem takeUs_pos {l : By} {k : Nat} (h : takeUs l = .inl k) : k ≠ 0 := by
  unfold takeUs at h
  cases hp : readP userP l with
  | inl e => rw [hp] at h; cases h; exact Nz.user.read hp
  | inr u =>
    rw [hp] at h
    simp only at h
    split at h
    · rename_i hc; cases h; exact hc
    · cases h
theorem takeUs_ok {l : By} {u : Us} (h : takeUs l = .inr u) : l = putUs u ∧ checkU u = 0 := by
  unfold takeUs at h
  cases hp : readP userP l with
  | inl e => rw [hp] at h; cases h
  | inr u' =>
    rw [hp] at h
    simp only at h
    split at h
    · cases h
    · rename_i hc
      cases h
      exact ⟨(read_got Rt.user hp).1, by simpa using hc⟩
theorem takeUs_put {u : Us} (h : checkU u = 0) : takeUs (putUs u) = .inr u := by
  unfold takeUs
  rw [read_put Rt.user (checkU_okU h)]
  simp [h]
theorem withinB_ok {b : Bool} {n lo hi : Int} (h : withinB b n lo hi = true) : (b = false ∧ n = 0) ∨ (b = true ∧ lo ≤ n ∧ n ≤ hi) := by
  unfold withinB at h
  cases b <;> simp_all
/-- a deed that is right -/
theorem checkD_ok {d : Dd} (h : checkD d = 0) : 1 ≤ d.dw ∧ d.dw ≤ 9 ∧ d.user.length ≤ 24 ∧ d.box.length ≤ 24 ∧ d.dest.length ≤ 24 ∧ okD d ∧ d.flags.toNat < 32 ∧ d.bytes.length ≤ 1700 := by
  unfold checkD at h
  split at h
  · cases h
  rename_i h1
  split at h
  · cases h
  rename_i h2
  split at h
  · cases h
  rename_i h3
  have hb : d.bytes.length ≤ 1700 := by
    split at h
    · cases h
    rename_i h4
    split at h
    · cases h
    rename_i h5
    split at h
    · rename_i h6; omega
    rename_i h6
    unfold lastC at h
    cases hu : takeUs d.bytes with
    | inl e => rw [hu] at h; exact absurd h (takeUs_pos hu)
    | inr u =>
      obtain ⟨q1, q2⟩ := takeUs_ok hu
      rw [q1]
      exact putUs_len q2
  simp only [form4, Bool.or_eq_true, Bool.and_eq_true, Bool.not_eq_true', not_or, Bool.not_eq_false, decide_eq_false_iff_not, decide_eq_true_eq, not_and, Decidable.not_not] at h2
  obtain ⟨⟨⟨⟨f1, f2⟩, f3⟩, f4⟩, f5⟩ := h2
  simp only [form2, Bool.or_eq_true, Bool.not_eq_true', not_or, Bool.not_eq_false] at h3
  obtain ⟨⟨⟨⟨g1, g2⟩, g3⟩, g4⟩, g5⟩ := h3
  have lu := rightU_len f1
  have lb : d.box.length ≤ 24 := by
    cases hbx : boxed d.dw with
    | true => exact (rightB_len (f2 hbx)).2
    | false => rw [f3 hbx]; simp
  have lt : d.dest.length ≤ 24 := by
    by_cases h7 : d.dw = 7
    · exact (rightB_len (f4 h7)).2
    · rw [f5 h7]; simp
  have g1 := withinB_ok g1
  have g2 := withinB_ok g2
  have g3 := withinB_ok g3
  have g4 := withinB_ok g4
  have g5 := withinB_ok g5
  refine ⟨by omega, by omega, lu.2, lb, lt, ⟨⟨by omega, by omega⟩, by omega, by omega, by omega, ⟨by omega, by omega⟩, ⟨by omega, by omega⟩, ⟨by omega, by omega⟩, ⟨by omega, by omega⟩, by omega⟩, by omega, hb⟩
theorem putD_len {d : Dd} (h : checkD d = 0) : (putD d).length ≤ 2000 := by
  obtain ⟨_, _, h3, h4, h5, _, _, h8⟩ := checkD_ok h
  simp only [putD, shortB, longB, List.length_append, beN_length, List.length_nil]
  omega
end Go.Proofs.Ythlppbbejdeeoaa
