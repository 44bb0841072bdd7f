/- The walks of the reference's Num, Short, Cut and the reader's Num. Conditions: the hypotheses of each theorem. The reference's reader: Cut and Num. Conditions: the hypotheses of each theorem. What is read, as functions of what there is to be read: numbers, texts, letters, boxes, users, deeds. Plain laws; conditions: the hypotheses of each theorem. The walk of the reference's TakeUser. Conditions: the hypotheses of each theorem; the library's two tables. -/
import Derived.Test.YtameamfaaenboaaDoorC5
import Derived.Test.YtameamfaaenboaaDoorC9
namespace Go.Proofs.YtameamfaaenboaaDoor
open Go.RowKit
set_option maxRecDepth 20000 in
set_option maxHeartbeats 1000000 in
theorem RNumB_any (w0 w : World) (b : Value) (l : By) (v n : Nat) (hx : Ext w0 w) (ho : Own w w0.heap.size b l) (hl : l.length + 4 ≤ 140737488355328) (hn : n ≤ 4) (hv : v < 9223372036854775808) :
    Calls Tryd.prog 48 #[b, .int .i64 v, .int .i64 n] w fun e w' => ∃ b', e = .returned b' ∧ Lay w0 w (l ++ beN n v) w' b' := by
  have HX := Lib.hid hx
  go_enter Tryd.func48, Tryd.ntmps48
  go_wp2
  go_loopw [1, 7, 8] (fun vv xv iv wr => ∃ i : Nat, iv = .int .i64 i ∧ i ≤ n ∧ vv = .int .i64 ((v / 256 ^ i : Nat)) ∧ Own wr w.heap.size xv (beN i v) ∧ Ext w wr) (fun _ _ iv _ => n - (intOf iv).toNat)
  case atStart => exact ⟨0, rfl, by omega, by simp, Own.empty w w.heap.size (Nat.le_refl _), (Ext.refl w).alloc _⟩
  case round =>
    obtain ⟨i, rfl, hi, rfl, hox, hxr⟩ := hrel
    by_cases hlt : i < n
    · have hlt2 : (i : Int) < (n : Int) := by omega
      obtain ⟨Ax, cx, rfl⟩ := hox.form
      rw [beN_length] at *
      have HD : Hid (v / 256 ^ i / 256 = v / 256 ^ (i + 1)) := Lib.hid (by rw [Nat.div_div_eq_div_mul, Nat.pow_succ])
      have HBE : Hid (beN (i + 1) v = UInt8.ofNat (v / 256 ^ i) :: beN i v) := Lib.hid rfl
      have hqv : v / 256 ^ i ≤ v := Nat.div_le_self _ _
      generalize v / 256 ^ i = q at *
      go_wp2_with (at_builtin; refine unstop ?_)
      have hnew : Own (wr.alloc (.cells #[.int .u8 ((q : Int) % 256)] 5)) w.heap.size (.slice (some ⟨wr.heap.size, 0, none⟩) 1 1) [UInt8.ofNat q] := Own.new wr w.heap.size _ [UInt8.ofNat q] 1 (by rw [u8_of]; rfl) rfl hxr.size (by simp [maxLen])
      refine go_on (wpList_appB bytesTr hnew (hox.bs.ext ((Ext.refl wr).alloc _)) rfl rfl rfl rfl (by rw [beN_length]) (by simp; omega) (by have := hxr.size; simp; omega) ?_)
      intro v' w1 ho1 hg1 _
      have hx1 : Ext w w1 := (hxr.alloc _).own hnew (Nat.le_refl _) hg1
      have HO : Hid (Own w1 w.heap.size v' (beN (i + 1) v)) := Lib.hid (by rw [HBE.out]; exact ho1)
      clear hnew hox hxr ho1 hg1
      go_wp2
      go_roundw
      case rel => exact ⟨i + 1, by go_num, by omega, by rw [← HD.out]; exact congrArg _ (by omega), HO.out, hx1⟩
      case measure => simp [intOf]; omega
    · obtain rfl : i = n := by omega
      obtain ⟨Ax, cx, rfl⟩ := hox.form
      rw [beN_length] at *
      have hob : Own wr w0.heap.size b l := ho.ext hxr
      go_wp2_with (at_builtin; refine unstop ?_)
      refine go_on (wpList_appB bytesTr hob hox.bs rfl rfl rfl rfl (by rw [beN_length]) (by simp; omega) (by have := hxr.size; have := HX.out.size; omega) ?_)
      intro v' w1 ho1 hg1 _
      have hlay : Lay w0 w (l ++ beN i v) w1 v' := ⟨ho1, (HX.out.trans hxr).own hob (Nat.le_refl _) hg1, fun ts ht => (Stp.of_ext hxr).own hob hg1 ht⟩
      clear hob ho hox hxr ho1 hg1
      go_wp2
      go_ret
      exact ⟨_, rfl, hlay⟩
set_option maxRecDepth 20000 in
set_option maxHeartbeats 1000000 in
theorem RShortB_any (w0 w : World) (b : Value) (l p : By) (hx : Ext w0 w) (ho : Own w w0.heap.size b l) (hl : l.length + p.length + 8 ≤ 140737488355328) :
    Calls Tryd.prog 49 #[b, .string (st p)] w fun e w' => ∃ b', e = .returned b' ∧ Lay w0 w (l ++ shortB p) w' b' := by
  have HN := RNumB_any w0 w b l p.length 1 hx ho (by omega) (by omega) (by omega)
  obtain ⟨s, hs⟩ : ∃ s, s = st p := ⟨_, rfl⟩
  have hz : s.size = p.length := by rw [hs, st_size]
  rw [← hs]
  have HS := Lib.hid hs
  clear hs
  go_enter Tryd.func49, Tryd.ntmps49
  go_wp2_with fail
  refine HN.mono ?_
  rintro e w1 ⟨b1, rfl, hlay⟩
  go_wp2_with (at_builtin; refine unstop ?_)
  refine go_on (wpList_appS hlay.o rfl rfl rfl (congrArg Value.string HS.out) (by simp; omega) hlay.x.size ?_)
  intro b2 w2 ho2 hg2
  have hlay2 : Lay w0 w (l ++ shortB p) w2 b2 := ⟨by simpa [shortB] using ho2, hlay.x.own hlay.o (Nat.le_refl _) hg2, fun ts ht => (hlay.s ts ht).own hlay.o hg2 ht⟩
  clear hg2 ho2 ho HN hlay
  go_wp2
  go_ret
  exact ⟨_, rfl, hlay2⟩
end Go.Proofs.YtameamfaaenboaaDoor
namespace Go.Proofs.YtameamfaaenboaaDoor
open Go.RowKit
/-- the reader at p: what it has still, or that its bytes ended -/
def RdAt (w0 w : World) (p : Nat) (q : Option By) : Prop := w0.heap.size ≤ p ∧ Ext w0 w ∧ match q with
  | some l => ∃ A cap, w.heap[p]? = some (.cells #[.slice A l.length cap, .bool false] 71 (0, 0)) ∧ l.length ≤ cap ∧ Bs w0 A l
  | none => ∃ A n cap, w.heap[p]? = some (.cells #[.slice A n cap, .bool true] 71 (0, 0))
def cutV (n : Nat) : Option By → By
  | none => []
  | some l => if l.length < n then [] else l.take n
def cutQ (n : Nat) : Option By → Option By
  | none => none
  | some l => if l.length < n then none else some (l.drop n)
theorem RdAt.ext {w0 w w' : World} {p : Nat} {q : Option By} (h : RdAt w0 w p q) (hx : Ext w w') : RdAt w0 w' p q := by
  refine ⟨h.1, h.2.1.trans hx, ?_⟩
  cases q with
  | none => obtain ⟨A, n, c, h1⟩ := h.2.2; exact ⟨A, n, c, hx.obj h1⟩
  | some l => obtain ⟨A, c, h1, h2⟩ := h.2.2; exact ⟨A, c, hx.obj h1, h2⟩
theorem RdAt.kept {M : List Nat} {w0 w w' : World} {p : Nat} {q : Option By} (h : RdAt w0 w p q) (hk : Kept M w w') (hp : p ∉ M) (hM : ∀ k ∈ M, w0.heap.size ≤ k) : RdAt w0 w' p q := by
  refine ⟨h.1, h.2.1.kept hk hM, ?_⟩
  cases q with
  | none => obtain ⟨A, n, c, h1⟩ := h.2.2; exact ⟨A, n, c, hk.heap h1 hp⟩
  | some l => obtain ⟨A, c, h1, h2⟩ := h.2.2; exact ⟨A, c, hk.heap h1 hp, h2⟩
theorem RdAt.row {w0 w : World} {p : Nat} {q : Option By} (h : RdAt w0 w p q) : ∃ v, w.heap[p]? = some (.cells #[v, .bool q.isNone] 71 (0, 0)) := by
  cases q with
  | none => obtain ⟨A, n, c, h1⟩ := h.2.2; exact ⟨_, h1⟩
  | some l => obtain ⟨A, c, h1, h2⟩ := h.2.2; exact ⟨_, h1⟩
theorem RdAt.lt {w0 w : World} {p : Nat} {q : Option By} (h : RdAt w0 w p q) : p < w.heap.size := by
  obtain ⟨v, h⟩ := h.row
  exact obj_lt h
theorem cutV_le (n : Nat) (q : Option By) : (cutV n q).length ≤ n := by
  cases q with
  | none => simp [cutV]
  | some l =>
    unfold cutV
    simp only
    split
    · simp
    · rw [List.length_take]; omega
set_option maxHeartbeats 1000000 in
theorem RCut_any (w0 w : World) (p n : Nat) (q : Option By) (h : RdAt w0 w p q) (hn : n ≤ 100000) :
    Calls Tryd.prog 46 #[pt p, .int .i64 n] w fun e w' => ∃ v, e = .returned v ∧ Own w' w.heap.size v (cutV n q) ∧ RdAt w0 w' p (cutQ n q) ∧ Kept [p] w w' := by
  have hp := h.lt
  have hx0 := h.2.1
  unfold pt
  cases q with
  | none =>
    obtain ⟨A, m, c, hrow⟩ := h.2.2
    obtain ⟨C0, C1, F⟩ := row2_at hrow
    have hset : (w.setCell ⟨p, 1, none⟩ (.bool true)).heap[p]? = some (.cells #[.slice A m c, .bool true] 71 (0, 0)) := by
      have := heap_setCell_same w p 1 _ _ (.bool true) hrow
      simpa using this
    have hk : Kept [p] w (w.setCell ⟨p, 1, none⟩ (.bool true)) := (Kept.refl _ _).setCell (.inl (by simp)) _
    have HSET := Lib.hid hset
    have HK := Lib.hid hk
    have H1 := Lib.hid h.1
    have HX := Lib.hid hx0
    clear h hrow hset hk hp hx0
    go_enter Tryd.func46, Tryd.ntmps46
    go_wp2
    go_ret
    exact ⟨_, rfl, Own.nil _ _, ⟨H1.out, HX.out.kept HK.out (by intro k hk; simp at hk; subst hk; exact H1.out), A, m, c, HSET.out⟩, HK.out⟩
  | some l =>
    obtain ⟨A, c, hrow, hlc, hb⟩ := h.2.2
    obtain ⟨C0, C1, F⟩ := row2_at hrow
    by_cases hln : l.length < n
    · have hln1 : (l.length : Int) < (n : Int) := by omega
      have hset : (w.setCell ⟨p, 1, none⟩ (.bool true)).heap[p]? = some (.cells #[.slice A l.length c, .bool true] 71 (0, 0)) := by
        have := heap_setCell_same w p 1 _ _ (.bool true) hrow
        simpa using this
      have hk : Kept [p] w (w.setCell ⟨p, 1, none⟩ (.bool true)) := (Kept.refl _ _).setCell (.inl (by simp)) _
      have e1 : cutV n (some l) = [] := by simp [cutV, hln]
      have e2 : cutQ n (some l) = none := by simp [cutQ, hln]
      have E1 := Lib.hid e1
      have E2 := Lib.hid e2
      have HSET := Lib.hid hset
      have HK := Lib.hid hk
      have H1 := Lib.hid h.1
      have HX := Lib.hid hx0
      clear h hrow hset hk hp hx0 hln hb hlc e1 e2
      go_enter Tryd.func46, Tryd.ntmps46
      go_wp2
      go_ret
      rw [E1.out, E2.out]
      exact ⟨_, rfl, Own.nil _ _, ⟨H1.out, HX.out.kept HK.out (by intro k hk; simp at hk; subst hk; exact H1.out), A, _, c, HSET.out⟩, HK.out⟩
    · have hln1 : ¬ (l.length : Int) < (n : Int) := by omega
      obtain ⟨A1, hs1, hb1⟩ := cutB_h (P := Tryd.prog) Tryd.underlying26 Tryd.sizeOf5 A l.length c l n (hi := n) rfl rfl hlc (by omega)
      obtain ⟨A2, hs2, hb2⟩ := cutB_l (P := Tryd.prog) Tryd.underlying26 Tryd.sizeOf5 A l.length c l n (li := n) rfl rfl hlc (by omega)
      have e1 : cutV n (some l) = l.take n := by simp [cutV, hln]
      have e2 : cutQ n (some l) = some (l.drop n) := by simp [cutQ, hln]
      have e3 : (l.take n).length = n := by rw [List.length_take]; omega
      have E1 := Lib.hid e1
      have E2 := Lib.hid e2
      have E3 := Lib.hid e3
      have hbt := hb1 _ (hb.ext hx0)
      have HBD := Lib.hid (hb2 _ hb)
      have HROW := Lib.hid hrow
      have H1 := Lib.hid h.1
      have HX := Lib.hid hx0
      have HLC := Lib.hid hlc
      have HLN := Lib.hid hln
      have hx := Ext.refl w
      clear h hln hb hb1 hb2 e1 e2 e3 hrow
      go_enter Tryd.func46, Tryd.ntmps46
      go_wp2_with (at_builtin; refine unstop ?_)
      refine go_on (wpList_appB bytesTr (Own.empty w w.heap.size (Nat.le_refl _)) (hbt.ext ((Ext.refl w).alloc _)) rfl rfl rfl rfl (by simp [E3.out]) (by simp [E3.out]; omega) (by simp) ?_)
      intro v' w1 ho1 hg1 _
      have hx1 : Ext w w1 := ((Ext.refl w).alloc _).own (Own.empty w w.heap.size (Nat.le_refl _)) (Nat.le_refl _) hg1
      have hrow1 := hx1.obj HROW.out
      obtain ⟨C0, C1, F⟩ := row2_at hrow1
      have hset : (w1.setCell ⟨p, 0, none⟩ (.slice A2 (l.length - n) (c - n))).heap[p]? = some (.cells #[.slice A2 (l.length - n) (c - n), .bool false] 71 (0, 0)) := by
        have := heap_setCell_same w1 p 0 _ _ (.slice A2 (l.length - n) (c - n)) hrow1
        simpa using this
      have hk : Kept [p] w1 (w1.setCell ⟨p, 0, none⟩ (.slice A2 (l.length - n) (c - n))) := (Kept.refl _ _).setCell (.inl (by simp)) _
      have hdl : (l.drop n).length = l.length - n := by rw [List.length_drop]
      have HK := Lib.hid ((Kept.of_ext hx1).trans hk)
      have HR : Hid (RdAt w0 (w1.setCell ⟨p, 0, none⟩ (.slice A2 (l.length - n) (c - n))) p (some (l.drop n))) := Lib.hid ⟨H1.out, (HX.out.trans hx1).kept hk (by intro k hk; simp at hk; subst hk; exact H1.out), A2, c - n, by rw [hdl]; exact hset, by rw [hdl]; have := HLC.out; omega, HBD.out⟩
      have HO : Hid (Own (w1.setCell ⟨p, 0, none⟩ (.slice A2 (l.length - n) (c - n))) w.heap.size v' (l.take n)) := Lib.hid (Own.off ho1 hrow1 (by decide) hk)
      clear hset hk hrow1 ho1 hg1 hx1 hbt hdl hs1
      go_wp2
      go_ret
      rw [E1.out, E2.out]
      exact ⟨_, rfl, HO.out, HR.out, HK.out⟩
set_option maxHeartbeats 1000000 in
theorem RRNum_any (w0 w : World) (p n : Nat) (q : Option By) (h : RdAt w0 w p q) (hn : n ≤ 4) :
    Calls Tryd.prog 45 #[pt p, .int .i64 n] w fun e w' => e = .returned (.int .i64 (valB (cutV n q) : Nat)) ∧ RdAt w0 w' p (cutQ n q) ∧ Kept [p] w w' := by
  have HC := RCut_any w0 w p n q h (by omega)
  have hle := cutV_le n q
  unfold pt at *
  go_enter Tryd.func45, Tryd.ntmps45
  go_wp2_with fail
  refine HC.mono ?_
  rintro e w1 ⟨v, rfl, hown, hr, hk⟩
  generalize hcv : cutV n q = l at *
  have HCV := Lib.hid hcv
  clear hcv
  obtain ⟨A, c, rfl⟩ := hown.form
  have HR := Lib.hid hr
  have HK := Lib.hid hk
  have hb := hown.bs
  clear HC h hr hk hown
  go_wp2
  go_loopw [6, 7] (fun vv iv wr => ∃ i : Nat, iv = .int .i64 i ∧ i ≤ l.length ∧ vv = .int .i64 (valB (l.take i) : Nat) ∧ wr = w1) (fun _ iv _ => l.length - (intOf iv).toNat)
  case atStart => exact ⟨0, rfl, by omega, rfl, rfl⟩
  case round =>
    obtain ⟨i, rfl, hi, rfl, rfl⟩ := hrel
    by_cases hlt : i < l.length
    · obtain ⟨ad, rfl, hc⟩ := hb.at_ hlt
      have hc0 := hc _ (Ext.refl _)
      have hlt2 : (i : Int) < (l.length : Int) := by omega
      have hv := valB_lt (l.take i)
      have hpow : 256 ^ (l.take i).length ≤ 256 ^ 3 := Nat.pow_le_pow_right (by omega) (by rw [List.length_take]; omega)
      have hvb : valB (l.take i) < 16777216 := Nat.lt_of_lt_of_le hv (by simpa using hpow)
      have HT := Lib.hid (valB_take l i hlt)
      have hcl := l[i].toNat_lt
      generalize valB (l.take i) = vv at *
      generalize l[i].toNat = cc at *
      clear hv hpow hc hb
      go_wp2
      go_roundw
      case rel => exact ⟨i + 1, by go_num, by omega, by rw [HT.out]; exact congrArg _ (by omega), trivial⟩
      case measure => simp [intOf]; omega
    · have hlt2 : ¬ (i : Int) < (l.length : Int) := by omega
      have ht : l.take i = l := List.take_of_length_le (by omega)
      rw [ht]
      generalize hvv : valB l = vv at *
      have HVV := Lib.hid hvv
      clear hb ht hvv hlt
      go_wp2
      go_ret
      exact ⟨by rw [HCV.out, HVV.out]; rfl, HR.out, HK.out⟩
end Go.Proofs.YtameamfaaenboaaDoor
namespace Go.Proofs.YtameamfaaenboaaDoor
open Go.RowKit
structure Sim {α : Type} (p : Prs α) (Q : Option By → Option By) (V : Option By → α) : Prop where
  no : Q none = none
  go : ∀ l, p l = match Q (some l) with | none => .inl 3 | some r => .inr (V (some l), r)
theorem Sim.num (n : Nat) : Sim (numP n) (cutQ n) (fun q => valB (cutV n q)) := ⟨rfl, fun l => by
  unfold numP cutQ cutV
  by_cases h : l.length < n <;> simp [h]⟩
theorem Sim.take (n : Nat) : Sim (takeP n) (cutQ n) (cutV n) := ⟨rfl, fun l => by
  unfold takeP cutQ cutV
  by_cases h : l.length < n <;> simp [h]⟩
theorem Sim.pure {α : Type} (a : α) : Sim (pureP a) (fun q => q) (fun _ => a) := ⟨rfl, fun _ => rfl⟩
theorem Sim.and {α β : Type} {p : Prs α} {f : α → Prs β} {Q : Option By → Option By} {V : Option By → α} {Q2 : α → Option By → Option By} {V2 : α → Option By → β} (h : Sim p Q V) (hf : ∀ a, Sim (f a) (Q2 a) (V2 a)) :
    Sim (andP p f) (fun q => Q2 (V q) (Q q)) (fun q => V2 (V q) (Q q)) := by
  refine ⟨by simp only [h.no]; exact (hf _).no, fun l => ?_⟩
  unfold andP
  rw [h.go l]
  cases hq : Q (some l) with
  | none => simp only [(hf _).no]
  | some r => exact (hf _).go r
def repQ (Q : Option By → Option By) : Nat → Option By → Option By
  | 0, q => q
  | _ + 1, none => none
  | n + 1, some l => repQ Q n (Q (some l))
def repV {α : Type} (Q : Option By → Option By) (V : Option By → α) : Nat → Option By → List α
  | 0, _ => []
  | _ + 1, none => []
  | n + 1, some l => V (some l) :: repV Q V n (Q (some l))
theorem repQ_none (Q : Option By → Option By) (n : Nat) : repQ Q n none = none := by cases n <;> rfl
theorem repV_none {α : Type} (Q : Option By → Option By) (V : Option By → α) (n : Nat) : repV Q V n none = [] := by cases n <;> rfl
theorem repV_le {α : Type} (Q : Option By → Option By) (V : Option By → α) : ∀ (n : Nat) (q : Option By), (repV Q V n q).length ≤ n
  | 0, _ => by simp [repV]
  | _ + 1, none => by simp [repV]
  | n + 1, some l => by simp only [repV, List.length_cons]; have := repV_le Q V n (Q (some l)); omega
theorem Sim.rep {α : Type} {p : Prs α} {Q : Option By → Option By} {V : Option By → α} (h : Sim p Q V) (n : Nat) : Sim (repA p n []) (repQ Q n) (repV Q V n) := by
  refine ⟨repQ_none Q n, ?_⟩
  induction n with
  | zero => intro l; rfl
  | succ n ih =>
    intro l
    unfold repA andP
    rw [h.go l]
    simp only [repQ, repV]
    cases hq : Q (some l) with
    | none => simp only [repQ_none]
    | some r =>
      simp only
      rw [repA_acc, ih r]
      cases repQ Q n (some r) <;> simp
/-! ## letters, boxes, users -/
def shQ (q : Option By) : Option By := cutQ (valB (cutV 1 q)) (cutQ 1 q)
def shV (q : Option By) : By := cutV (valB (cutV 1 q)) (cutQ 1 q)
def loQ (q : Option By) : Option By := cutQ (valB (cutV 2 q)) (cutQ 2 q)
def loV (q : Option By) : By := cutV (valB (cutV 2 q)) (cutQ 2 q)
theorem Sim.short : Sim shortP shQ shV := (Sim.num 1).and fun a => Sim.take a
theorem Sim.long : Sim longP loQ loV := (Sim.num 2).and fun a => Sim.take a
def letQ (q : Option By) : Option By := loQ (cutQ 1 (cutQ 4 q))
def letV (q : Option By) : Lt := ⟨(valB (cutV 4 q) : Nat), UInt8.ofNat (valB (cutV 1 (cutQ 4 q))), loV (cutQ 1 (cutQ 4 q))⟩
theorem Sim.letter : Sim letP letQ letV := (Sim.num 4).and fun _ => (Sim.num 1).and fun _ => Sim.long.and fun _ => Sim.pure _
def boxQ4 (q : Option By) : Option By := cutQ 4 (cutQ 4 (shQ q))
def boxQ (q : Option By) : Option By := repQ letQ (valB (cutV 1 (boxQ4 q))) (cutQ 1 (boxQ4 q))
def boxV (q : Option By) : Bx := ⟨shV q, (valB (cutV 4 (shQ q)) : Nat), (valB (cutV 4 (cutQ 4 (shQ q))) : Nat), repV letQ letV (valB (cutV 1 (boxQ4 q))) (cutQ 1 (boxQ4 q))⟩
theorem Sim.box : Sim boxP boxQ boxV := Sim.short.and fun _ => (Sim.num 4).and fun _ => (Sim.num 4).and fun _ => (Sim.num 1).and fun m => (Sim.letter.rep m).and fun _ => Sim.pure _
def usrQ1 (q : Option By) : Option By := cutQ 4 (shQ q)
def usrQ (q : Option By) : Option By := repQ boxQ (valB (cutV 1 (usrQ1 q))) (cutQ 1 (usrQ1 q))
def usrV (q : Option By) : Us := ⟨shV q, (valB (cutV 4 (shQ q)) : Nat), repV boxQ boxV (valB (cutV 1 (usrQ1 q))) (cutQ 1 (usrQ1 q))⟩
theorem Sim.user : Sim userP usrQ usrV := Sim.short.and fun _ => (Sim.num 4).and fun _ => (Sim.num 1).and fun m => (Sim.box.rep m).and fun _ => Sim.pure _
theorem takeUs_sim (l : By) : takeUs l = match usrQ (some l) with
    | none => .inl 3
    | some r => if r = [] then (if checkU (usrV (some l)) ≠ 0 then .inl (checkU (usrV (some l))) else .inr (usrV (some l))) else .inl 4 := by
  unfold takeUs readP
  rw [Sim.user.go l]
  cases usrQ (some l) with
  | none => rfl
  | some r =>
    simp only
    by_cases h : r = [] <;> simp [h]
/-! ## deeds -/
def dedQ0 (q : Option By) : Option By := shQ (shQ (shQ (cutQ 1 q)))
def dedQ (q : Option By) : Option By := loQ (cutQ 4 (cutQ 1 (cutQ 1 (cutQ 1 (cutQ 4 (dedQ0 q))))))
def dedV (q : Option By) : Dd := ⟨(valB (cutV 1 q) : Nat), shV (cutQ 1 q), shV (shQ (cutQ 1 q)), shV (shQ (shQ (cutQ 1 q))), (valB (cutV 4 (dedQ0 q)) : Nat), (valB (cutV 1 (cutQ 4 (dedQ0 q))) : Nat),
  UInt8.ofNat (valB (cutV 1 (cutQ 1 (cutQ 4 (dedQ0 q))))), (valB (cutV 1 (cutQ 1 (cutQ 1 (cutQ 4 (dedQ0 q))))) : Nat), (valB (cutV 4 (cutQ 1 (cutQ 1 (cutQ 1 (cutQ 4 (dedQ0 q)))))) : Nat), loV (cutQ 4 (cutQ 1 (cutQ 1 (cutQ 1 (cutQ 4 (dedQ0 q))))))⟩
theorem Sim.deed : Sim deedP dedQ dedV := (Sim.num 1).and fun _ => Sim.short.and fun _ => Sim.short.and fun _ => Sim.short.and fun _ => (Sim.num 4).and fun _ => (Sim.num 1).and fun _ => (Sim.num 1).and fun _ => (Sim.num 1).and fun _ => (Sim.num 4).and fun _ => Sim.long.and fun _ => Sim.pure _
theorem valB_cut (n : Nat) (q : Option By) : valB (cutV n q) < 256 ^ n := Nat.lt_of_lt_of_le (valB_lt _) (Nat.pow_le_pow_right (by omega) (cutV_le n q))
theorem takeAllT_sim (l : By) : takeAllT l = if 1800 < l.length then .inl 6 else
    match cutQ 1 (some l) with
    | none => .inl 3
    | some r => if ¬ (1 ≤ valB (cutV 1 (some l)) ∧ valB (cutV 1 (some l)) ≤ 12) then .inl 4 else
      match repQ dedQ (valB (cutV 1 (some l))) (some r) with
      | none => .inl 3
      | some r2 => if r2 = [] then (if firstC (repV dedQ dedV (valB (cutV 1 (some l))) (some r)) ≠ 0 then .inl (firstC (repV dedQ dedV (valB (cutV 1 (some l))) (some r))) else .inr (repV dedQ dedV (valB (cutV 1 (some l))) (some r))) else .inl 4 := by
  unfold takeAllT
  by_cases h : 1800 < l.length
  · rw [if_pos h, if_pos h]
  · rw [if_neg h, if_neg h]
    unfold readP allP
    conv => lhs; unfold andP
    rw [(Sim.num 1).go l]
    cases hq : cutQ 1 (some l) with
    | none => rfl
    | some r =>
      simp only
      generalize valB (cutV 1 (some l)) = n
      unfold mustP
      by_cases hn : 1 ≤ n ∧ n ≤ 12
      · simp only [hn.1, hn.2, decide_true, Bool.and_self, if_true]
        rw [(Sim.deed.rep n).go r]
        cases repQ dedQ n (some r) with
        | none => simp
        | some r2 => by_cases h2 : r2 = [] <;> simp [h2]
      · have e : (decide (1 ≤ n) && decide (n ≤ 12)) = false := by
          by_cases a : 1 ≤ n <;> by_cases b : n ≤ 12 <;> simp [a, b]; exact absurd ⟨a, b⟩ hn
        rw [e]
        simp [hn]
end Go.Proofs.YtameamfaaenboaaDoor
namespace Go.Proofs.YtameamfaaenboaaDoor
open Go.RowKit
theorem shV_len (q : Option By) : (shV q).length < 256 := by
  have := cutV_le (valB (cutV 1 q)) (cutQ 1 q)
  have := valB_cut 1 q
  unfold shV
  omega
theorem repV_names : ∀ (n : Nat) (q : Option By), ∀ b ∈ repV boxQ boxV n q, b.name.length < 256
  | 0, _, b, hb => by simp [repV] at hb
  | _ + 1, none, b, hb => by simp [repV] at hb
  | n + 1, some l, b, hb => by
    simp only [repV, List.mem_cons] at hb
    rcases hb with rfl | hb
    · exact shV_len (some l)
    · exact repV_names n _ b hb
set_option maxRecDepth 20000 in
set_option maxHeartbeats 8000000 in
theorem RTakeUser_any (A : Option Addr) (cap : Nat) (l : By) (w : World) (hb : Bs w A l) (hlc : l.length ≤ cap) (hT : Tabs w) : Calls Tryd.prog 25 #[.slice A l.length cap] w (TUSays l w) := by
  obtain ⟨wp, hwp⟩ : ∃ wp, wp = (w.alloc (.cells zUser 42)).alloc (.cells #[.slice A l.length cap, .bool false] 71) := ⟨_, rfl⟩
  have hxp : Ext w wp := by rw [hwp]; exact ((Ext.refl w).alloc _).alloc _
  have hszp : wp.heap.size = w.heap.size + 2 := by rw [hwp]; simp
  have hG : wp.heap[w.heap.size]? = some (.cells zUser 42 (0, 0)) := by rw [hwp]; exact ((Ext.refl _).alloc _).obj (heap_alloc_new w _)
  have hR : RdAt w wp (w.heap.size + 1) (some l) := ⟨by omega, hxp, A, cap, by
    have := heap_alloc_new (w.alloc (.cells zUser 42)) (.cells #[.slice A l.length cap, .bool false] 71)
    rw [hwp]; simpa using this, hlc, hb⟩
  obtain ⟨p, hp⟩ : ∃ p, p = w.heap.size + 1 := ⟨_, rfl⟩
  obtain ⟨G, hGG⟩ : ∃ G, G = w.heap.size := ⟨_, rfl⟩
  have HP := Lib.hid hp
  have HG := Lib.hid hGG
  rw [← hp] at hR
  rw [← hGG] at hG
  have hpG : p ≠ G := by omega
  have hN := fun (w1 : World) (q : Option By) (n : Nat) (hn : n ≤ 4) (h1 : RdAt w w1 p q) => RRNum_any w w1 p n q h1 hn
  have hC := fun (w1 : World) (q : Option By) (n : Nat) (hn : n ≤ 100000) (h1 : RdAt w w1 p q) => RCut_any w w1 p n q h1 hn
  have HTS := Lib.hid (takeUs_sim l)
  have HWP := Lib.hid hwp
  unfold pt at hN hC
  obtain ⟨q2, hq2⟩ : ∃ q, q = shQ (some l) := ⟨_, rfl⟩
  obtain ⟨un, hun⟩ : ∃ x, x = shV (some l) := ⟨_, rfl⟩
  obtain ⟨uv, huv⟩ : ∃ x, x = valB (cutV 4 q2) := ⟨_, rfl⟩
  obtain ⟨q3, hq3⟩ : ∃ q, q = cutQ 4 q2 := ⟨_, rfl⟩
  obtain ⟨n, hn⟩ : ∃ n, n = valB (cutV 1 q3) := ⟨_, rfl⟩
  obtain ⟨q4, hq4⟩ : ∃ q, q = cutQ 1 q3 := ⟨_, rfl⟩
  have HU1 : Hid (usrQ (some l) = repQ boxQ n q4) := Lib.hid (by rw [hq4, hn, hq3, hq2]; rfl)
  have HU2 : Hid (usrV (some l) = ⟨un, (uv : Nat), repV boxQ boxV n q4⟩) := Lib.hid (by rw [hq4, hn, hq3, huv, hun, hq2]; rfl)
  have hn256 : n < 256 := by rw [hn]; exact valB_cut 1 q3
  have hunl : un.length < 256 := by rw [hun]; have := cutV_le (valB (cutV 1 (some l))) (cutQ 1 (some l)); have := valB_cut 1 (some l); unfold shV; omega
  have HQ2 := Lib.hid hq2
  have HUN := Lib.hid hun
  have HUVV := Lib.hid huv
  have HQ3 := Lib.hid hq3
  have HNN := Lib.hid hn
  have HQ4 := Lib.hid hq4
  clear hwp hb hlc hp hGG hq2 hun huv hq3 hn hq4
  go_enter Tryd.func25, Tryd.ntmps25
  go_wp2_with (first | (with_reducible refine stop_alloc 42 ?_) | (with_reducible refine stop_store 42 ?_) | (with_reducible refine stop_load 42 ?_) | (with_reducible refine stop_alloc 51 ?_) | (with_reducible refine stop_store 51 ?_) | (with_reducible refine stop_load 51 ?_) | (with_reducible refine stop_alloc 75 ?_) | (with_reducible refine stop_store 75 ?_) | (with_reducible refine stop_load 75 ?_))
  refine go_on (wpList_alloc_ rfl rfl user_info ?_)
  go_wp2_with (first | (with_reducible refine stop_alloc 42 ?_) | (with_reducible refine stop_store 42 ?_) | (with_reducible refine stop_load 42 ?_) | (with_reducible refine stop_alloc 51 ?_) | (with_reducible refine stop_store 51 ?_) | (with_reducible refine stop_load 51 ?_) | (with_reducible refine stop_alloc 75 ?_) | (with_reducible refine stop_store 75 ?_) | (with_reducible refine stop_load 75 ?_))
  rw [← HWP.out, ← HP.out]
  have hv1 := valB_cut 1 (some l)
  refine (hN _ _ 1 (by omega) hR).mono ?_
  rintro e w1 ⟨rfl, hr1, hk1⟩
  go_wp2_with (first | (with_reducible refine stop_alloc 42 ?_) | (with_reducible refine stop_store 42 ?_) | (with_reducible refine stop_load 42 ?_) | (with_reducible refine stop_alloc 51 ?_) | (with_reducible refine stop_store 51 ?_) | (with_reducible refine stop_load 51 ?_) | (with_reducible refine stop_alloc 75 ?_) | (with_reducible refine stop_store 75 ?_) | (with_reducible refine stop_load 75 ?_))
  refine (hC _ _ _ (by omega) hr1).mono ?_
  rintro e w2 ⟨v2, rfl, ho2, hr2, hk2⟩
  have hr2 : RdAt w w2 p q2 := by rw [HQ2.out]; exact hr2
  have ho2 : Own w2 w1.heap.size v2 un := by rw [HUN.out]; exact ho2
  obtain ⟨A2, c2, rfl⟩ := ho2.form
  have s1 := run_str (P := Tryd.prog) Tryd.underlying26 Tryd.underlying5 Tryd.underlying9 ho2.bs un.length c2 rfl w2 (Ext.refl w2)
  have hk12 := hk1.trans hk2
  have hG2 := hk12.heap hG (by simpa using hpG.symm)
  go_wp2_with (first | (with_reducible refine stop_alloc 42 ?_) | (with_reducible refine stop_store 42 ?_) | (with_reducible refine stop_load 42 ?_) | (with_reducible refine stop_alloc 51 ?_) | (with_reducible refine stop_store 51 ?_) | (with_reducible refine stop_load 51 ?_) | (with_reducible refine stop_alloc 75 ?_) | (with_reducible refine stop_store 75 ?_) | (with_reducible refine stop_load 75 ?_))
  refine go_on (wpList_alloc_ rfl rfl user_info ?_)
  go_wp2_with (first | (with_reducible refine stop_alloc 42 ?_) | (with_reducible refine stop_store 42 ?_) | (with_reducible refine stop_load 42 ?_) | (with_reducible refine stop_alloc 51 ?_) | (with_reducible refine stop_store 51 ?_) | (with_reducible refine stop_load 51 ?_) | (with_reducible refine stop_alloc 75 ?_) | (with_reducible refine stop_store 75 ?_) | (with_reducible refine stop_load 75 ?_))
  refine go_on (wpList_store_last (c' := #[.string (st un), .int .i64 0, .slice none 0 0]) rfl rfl rfl rfl (by kernel_rfl) rfl (by simp [Value.oneCell']) ?_)
  intro wu hrowU hxu hszu
  obtain ⟨U, hU⟩ : ∃ U, U = w2.heap.size := ⟨_, rfl⟩
  rw [← hU] at hrowU
  have HUE := Lib.hid hU
  have hpU : p ≠ U := by have := hr2.lt; omega
  have hwU : w.heap.size ≤ U := by have := hr2.2.1.size; omega
  have hGU : G ≠ U := by have := obj_lt hG2; omega
  have hGu := hxu.obj hG2
  have hru := hr2.ext hxu
  clear s1 ho2 hr2 hG2 hxu hszu hU hr1 hk1 hk2 hk12 hG hR hv1
  go_wp2_with (first | (with_reducible refine stop_alloc 42 ?_) | (with_reducible refine stop_store 42 ?_) | (with_reducible refine stop_load 42 ?_) | (with_reducible refine stop_alloc 51 ?_) | (with_reducible refine stop_store 51 ?_) | (with_reducible refine stop_load 51 ?_) | (with_reducible refine stop_alloc 75 ?_) | (with_reducible refine stop_store 75 ?_) | (with_reducible refine stop_load 75 ?_))
  rw [← HUE.out]
  refine (hN _ _ 4 (by omega) hru).mono ?_
  rintro e w3 ⟨rfl, hr3, hk3⟩
  have hr3 : RdAt w w3 p q3 := by rw [HQ3.out]; exact hr3
  rw [← HUVV.out]
  have hU3 := hk3.heap hrowU (by simpa using hpU.symm)
  have hG3 := hk3.heap hGu (by simpa using hpG.symm)
  obtain ⟨C0, C1, C2, F⟩ := row3_at hU3
  obtain ⟨w4, hw4⟩ : ∃ w4, w4 = w3.setCell ⟨U, 1, none⟩ (.int .i64 (uv : Nat)) := ⟨_, rfl⟩
  have hk4 : Kept [U] w3 w4 := hw4 ▸ (Kept.refl _ _).setCell (.inl (by simp)) _
  have hU4 : w4.heap[U]? = some (.cells #[.string (st un), .int .i64 (uv : Nat), .slice none 0 0] 42 (0, 0)) := by
    rw [hw4, heap_setCell_same w3 U 1 _ _ _ hU3]; rfl
  have hG4 := hk4.heap hG3 (by simpa using hGU)
  have hr4 := hr3.kept hk4 (by simpa using hpU) (by intro k hk; simp at hk; omega)
  have HW4 := Lib.hid hw4
  clear hrowU hGu hru hr3 hk3 hG3 hU3 hk4 hw4
  go_wp2_with (first | (with_reducible refine stop_alloc 42 ?_) | (with_reducible refine stop_store 42 ?_) | (with_reducible refine stop_load 42 ?_) | (with_reducible refine stop_alloc 51 ?_) | (with_reducible refine stop_store 51 ?_) | (with_reducible refine stop_load 51 ?_) | (with_reducible refine stop_alloc 75 ?_) | (with_reducible refine stop_store 75 ?_) | (with_reducible refine stop_load 75 ?_))
  rw [← HW4.out]
  clear C0 C1 C2 F HW4
  refine (hN _ _ 1 (by omega) hr4).mono ?_
  rintro e w5 ⟨rfl, hr5, hk5⟩
  have hr5 : RdAt w w5 p q4 := by rw [HQ4.out]; exact hr5
  rw [← HNN.out]
  have hU5 := hk5.heap hU4 (by simpa using hpU.symm)
  have hG5 := hk5.heap hG4 (by simpa using hpG.symm)
  clear hr4 hk5 hU4 hG4
  go_wp2
  go_loopw [7] (fun iv wr => ∃ (i : Nat) (bs : List Bx) (q : Option By) (bv : Value), iv = .int .i64 i ∧ i ≤ n ∧ bs.length ≤ i ∧ RdAt w wr p q ∧ wr.heap[U]? = some (.cells #[.string (st un), .int .i64 (uv : Nat), bv] 42 (0, 0)) ∧ wr.heap[G]? = some (.cells zUser 42 (0, 0)) ∧ OwnXs wr w.heap.size bv bs ∧
    bs ++ repV boxQ boxV (n - i) q = repV boxQ boxV n q4 ∧ repQ boxQ (n - i) q = repQ boxQ n q4) (fun iv _ => n - (intOf iv).toNat)
  case atStart => exact ⟨0, [], q4, _, rfl, by omega, by simp, hr5, hU5, hG5, OwnG.nil _ _ _ _ _, rfl, rfl⟩
  case round =>
    clear hr5 hU5 hG5
    obtain ⟨i, bs, q, bv, rfl, hi, hbl, hr, hU, hG, hxs, hrv, hrq⟩ := hrel
    by_cases hlt : i < n
    · have hlt2 : (i : Int) < (n : Int) := by omega
      cases q with
      | none =>
        obtain ⟨Ar, nr, cr, hrowR⟩ := hr.2.2
        obtain ⟨R0, R1, RF⟩ := row2_at hrowR
        clear hrowR
        have HT : Hid (takeUs l = .inl 3) := Lib.hid (by rw [HTS.out, HU1.out, ← hrq, repQ_none])
        go_wp2_with (first | (with_reducible refine stop_alloc 42 ?_) | (with_reducible refine stop_store 42 ?_) | (with_reducible refine stop_load 42 ?_) | (with_reducible refine stop_alloc 51 ?_) | (with_reducible refine stop_store 51 ?_) | (with_reducible refine stop_load 51 ?_) | (with_reducible refine stop_alloc 75 ?_) | (with_reducible refine stop_store 75 ?_) | (with_reducible refine stop_load 75 ?_))
        refine go_on (wpList_store_whole (c := zUser) (c' := zUser) rfl rfl (congrArg (fun g => Value.pointer (some ⟨g, 0, none⟩)) HG.out.symm) rfl hG (by kernel_rfl) rfl (by simp [zUser, Value.oneCell']) ?_)
        intro wv hrow hkv _
        rw [HG.out] at hrow
        have hxv : Ext w wv := hr.2.1.kept hkv (by intro k hk; simp at hk; subst hk; exact Nat.le_of_eq HG.out.symm)
        clear hr hG hxs hrv hrq
        go_wp2
        ((try simp only [Exit.inBlock, Exit.then]); refine bodyPost_ret (results_cell1 rfl _ _ w.heap.size _ _ _ _ rfl hrow Tryd.underlying42 rfl (by kernel_rfl)) rfl ?_)
        refine ⟨hxv, ?_⟩
        rw [HT.out]
        rfl
      | some l1 =>
        obtain ⟨b2, hb2⟩ : ∃ q, q = shQ (some l1) := ⟨_, rfl⟩
        obtain ⟨bn, hbn⟩ : ∃ x, x = shV (some l1) := ⟨_, rfl⟩
        obtain ⟨bval, hbval⟩ : ∃ x, x = valB (cutV 4 b2) := ⟨_, rfl⟩
        obtain ⟨b3, hb3⟩ : ∃ q, q = cutQ 4 b2 := ⟨_, rfl⟩
        obtain ⟨bnx, hbnx⟩ : ∃ x, x = valB (cutV 4 b3) := ⟨_, rfl⟩
        obtain ⟨b4, hb4⟩ : ∃ q, q = cutQ 4 b3 := ⟨_, rfl⟩
        obtain ⟨m, hm⟩ : ∃ n, n = valB (cutV 1 b4) := ⟨_, rfl⟩
        obtain ⟨b5, hb5⟩ : ∃ q, q = cutQ 1 b4 := ⟨_, rfl⟩
        have HBQ : Hid (boxQ (some l1) = repQ letQ m b5) := Lib.hid (by rw [hb5, hm, hb4, hb3, hb2]; rfl)
        have HBV : Hid (boxV (some l1) = ⟨bn, (bval : Nat), (bnx : Nat), repV letQ letV m b5⟩) := Lib.hid (by rw [hb5, hm, hbnx, hb4, hbval, hb3, hbn, hb2]; rfl)
        have hm256 : m < 256 := by rw [hm]; exact valB_cut 1 b4
        have HRV : Hid (bs ++ [boxV (some l1)] ++ repV boxQ boxV (n - (i + 1)) (boxQ (some l1)) = repV boxQ boxV n q4) := Lib.hid (by
          rw [← hrv, show n - i = (n - (i + 1)) + 1 by omega, repV, List.append_assoc]; rfl)
        have HRQ : Hid (repQ boxQ (n - (i + 1)) (boxQ (some l1)) = repQ boxQ n q4) := Lib.hid (by
          rw [← hrq, show n - i = (n - (i + 1)) + 1 by omega, repQ])
        have HB2 := Lib.hid hb2
        have HBN := Lib.hid hbn
        have HBVAL := Lib.hid hbval
        have HB3 := Lib.hid hb3
        have HBNX := Lib.hid hbnx
        have HB4 := Lib.hid hb4
        have HM := Lib.hid hm
        have HB5 := Lib.hid hb5
        obtain ⟨Ar, cr, hrowR, hlr, hbr⟩ := hr.2.2
        obtain ⟨R0, R1, RF⟩ := row2_at hrowR
        have HXS := Lib.hid hxs
        have HRW := Lib.hid hrowR
        have hxr := hr.2.1
        have hw1 := valB_cut 1 (some l1)
        have hplt := hr.lt
        clear hrv hrq hb2 hbn hbval hb3 hbnx hb4 hm hb5 hrowR hlr hbr hxs
        go_wp2_with (first | (with_reducible refine stop_alloc 42 ?_) | (with_reducible refine stop_store 42 ?_) | (with_reducible refine stop_load 42 ?_) | (with_reducible refine stop_alloc 51 ?_) | (with_reducible refine stop_store 51 ?_) | (with_reducible refine stop_load 51 ?_) | (with_reducible refine stop_alloc 75 ?_) | (with_reducible refine stop_store 75 ?_) | (with_reducible refine stop_load 75 ?_))
        refine (hN _ _ 1 (by omega) hr).mono ?_
        rintro e w1 ⟨rfl, hr1, hk1⟩
        clear R0 R1 RF
        go_wp2_with (first | (with_reducible refine stop_alloc 42 ?_) | (with_reducible refine stop_store 42 ?_) | (with_reducible refine stop_load 42 ?_) | (with_reducible refine stop_alloc 51 ?_) | (with_reducible refine stop_store 51 ?_) | (with_reducible refine stop_load 51 ?_) | (with_reducible refine stop_alloc 75 ?_) | (with_reducible refine stop_store 75 ?_) | (with_reducible refine stop_load 75 ?_))
        refine (hC _ _ _ (by omega) hr1).mono ?_
        rintro e w2 ⟨v2, rfl, ho2, hr2, hk2⟩
        have hr2 : RdAt w w2 p b2 := by rw [HB2.out]; exact hr2
        have ho2 : Own w2 w1.heap.size v2 bn := by rw [HBN.out]; exact ho2
        obtain ⟨A2, c2, rfl⟩ := ho2.form
        have s1 := run_str (P := Tryd.prog) Tryd.underlying26 Tryd.underlying5 Tryd.underlying9 ho2.bs bn.length c2 rfl w2 (Ext.refl w2)
        have hk12 := hk1.trans hk2
        go_wp2_with (first | (with_reducible refine stop_alloc 42 ?_) | (with_reducible refine stop_store 42 ?_) | (with_reducible refine stop_load 42 ?_) | (with_reducible refine stop_alloc 51 ?_) | (with_reducible refine stop_store 51 ?_) | (with_reducible refine stop_load 51 ?_) | (with_reducible refine stop_alloc 75 ?_) | (with_reducible refine stop_store 75 ?_) | (with_reducible refine stop_load 75 ?_))
        refine go_on (wpList_alloc_ rfl rfl box_info ?_)
        go_wp2_with (first | (with_reducible refine stop_alloc 42 ?_) | (with_reducible refine stop_store 42 ?_) | (with_reducible refine stop_load 42 ?_) | (with_reducible refine stop_alloc 51 ?_) | (with_reducible refine stop_store 51 ?_) | (with_reducible refine stop_load 51 ?_) | (with_reducible refine stop_alloc 75 ?_) | (with_reducible refine stop_store 75 ?_) | (with_reducible refine stop_load 75 ?_))
        refine go_on (wpList_store_last (c' := #[.string (st bn), .int .i64 0, .int .i64 0, .slice none 0 0]) rfl rfl rfl rfl (by kernel_rfl) rfl (by simp [Value.oneCell']) ?_)
        intro wx hrowX hxx hszx
        obtain ⟨X, hXe⟩ : ∃ X, X = w2.heap.size := ⟨_, rfl⟩
        rw [← hXe] at hrowX
        have HXE := Lib.hid hXe
        have hpX : p ≠ X := by have := hr2.lt; omega
        have hwrX : wr.heap.size ≤ X := by have := hk12.size; omega
        have hrx := hr2.ext hxx
        have hkx := hk12.ext hxx
        clear s1 ho2 hr2 hxx hszx hXe hr1 hk1 hk2 hk12 hw1
        go_wp2_with (first | (with_reducible refine stop_alloc 42 ?_) | (with_reducible refine stop_store 42 ?_) | (with_reducible refine stop_load 42 ?_) | (with_reducible refine stop_alloc 51 ?_) | (with_reducible refine stop_store 51 ?_) | (with_reducible refine stop_load 51 ?_) | (with_reducible refine stop_alloc 75 ?_) | (with_reducible refine stop_store 75 ?_) | (with_reducible refine stop_load 75 ?_))
        rw [← HXE.out]
        refine (hN _ _ 4 (by omega) hrx).mono ?_
        rintro e w3 ⟨rfl, hr3, hk3⟩
        have hr3 : RdAt w w3 p b3 := by rw [HB3.out]; exact hr3
        rw [← HBVAL.out]
        have hX3 := hk3.heap hrowX (by simpa using hpX.symm)
        have hkx3 := hkx.trans hk3
        obtain ⟨C0, C1, C2, C3, F⟩ := row4_at hX3
        obtain ⟨w4, hw4⟩ : ∃ w4, w4 = w3.setCell ⟨X, 1, none⟩ (.int .i64 (bval : Nat)) := ⟨_, rfl⟩
        have hk4 : Kept [X] w3 w4 := hw4 ▸ (Kept.refl _ _).setCell (.inl (by simp)) _
        have hX4 : w4.heap[X]? = some (.cells #[.string (st bn), .int .i64 (bval : Nat), .int .i64 0, .slice none 0 0] 51 (0, 0)) := by
          rw [hw4, heap_setCell_same w3 X 1 _ _ _ hX3]; rfl
        have hr4 := hr3.kept hk4 (by simpa using hpX) (by intro k hk; simp at hk; have := hxr.size; omega)
        have hkx4 : Kept [p] wr w4 := Kept.new (M := [p, X]) ((hkx3.mono (by simp)).trans (hk4.mono (by simp))) (by intro k hk; simp at hk; rcases hk with rfl | rfl <;> simp; omega)
        have HW4 := Lib.hid hw4
        clear hrowX hrx hkx hr3 hk3 hX3 hk4 hw4 hkx3
        go_wp2_with (first | (with_reducible refine stop_alloc 42 ?_) | (with_reducible refine stop_store 42 ?_) | (with_reducible refine stop_load 42 ?_) | (with_reducible refine stop_alloc 51 ?_) | (with_reducible refine stop_store 51 ?_) | (with_reducible refine stop_load 51 ?_) | (with_reducible refine stop_alloc 75 ?_) | (with_reducible refine stop_store 75 ?_) | (with_reducible refine stop_load 75 ?_))
        rw [← HW4.out]
        clear C0 C1 C2 C3 F HW4
        refine (hN _ _ 4 (by omega) hr4).mono ?_
        rintro e w5 ⟨rfl, hr5, hk5⟩
        have hr5 : RdAt w w5 p b4 := by rw [HB4.out]; exact hr5
        rw [← HBNX.out]
        have hX5 := hk5.heap hX4 (by simpa using hpX.symm)
        have hkx5 := hkx4.trans hk5
        obtain ⟨C0, C1, C2, C3, F⟩ := row4_at hX5
        obtain ⟨w6, hw6⟩ : ∃ w6, w6 = w5.setCell ⟨X, 2, none⟩ (.int .i64 (bnx : Nat)) := ⟨_, rfl⟩
        have hk6 : Kept [X] w5 w6 := hw6 ▸ (Kept.refl _ _).setCell (.inl (by simp)) _
        have hX6 : w6.heap[X]? = some (.cells #[.string (st bn), .int .i64 (bval : Nat), .int .i64 (bnx : Nat), .slice none 0 0] 51 (0, 0)) := by
          rw [hw6, heap_setCell_same w5 X 2 _ _ _ hX5]; rfl
        have hr6 := hr5.kept hk6 (by simpa using hpX) (by intro k hk; simp at hk; have := hxr.size; omega)
        have hkx6 : Kept [p] wr w6 := Kept.new (M := [p, X]) ((hkx5.mono (by simp)).trans (hk6.mono (by simp))) (by intro k hk; simp at hk; rcases hk with rfl | rfl <;> simp; omega)
        have HW6 := Lib.hid hw6
        clear hX4 hkx4 hr4 hr5 hk5 hX5 hk6 hw6 hkx5
        go_wp2_with (first | (with_reducible refine stop_alloc 42 ?_) | (with_reducible refine stop_store 42 ?_) | (with_reducible refine stop_load 42 ?_) | (with_reducible refine stop_alloc 51 ?_) | (with_reducible refine stop_store 51 ?_) | (with_reducible refine stop_load 51 ?_) | (with_reducible refine stop_alloc 75 ?_) | (with_reducible refine stop_store 75 ?_) | (with_reducible refine stop_load 75 ?_))
        rw [← HW6.out]
        clear C0 C1 C2 C3 F HW6
        refine (hN _ _ 1 (by omega) hr6).mono ?_
        rintro e w7 ⟨rfl, hr7, hk7⟩
        have hr7 : RdAt w w7 p b5 := by rw [HB5.out]; exact hr7
        rw [← HM.out]
        have hX7 := hk7.heap hX6 (by simpa using hpX.symm)
        have hkx7 := hkx6.trans hk7
        clear hX6 hkx6 hr6 hk7
        go_wp2
        obtain ⟨wo, rfl⟩ : ∃ x, x = wr := ⟨wr, rfl⟩
        go_loopw [10] (fun jv wi => ∃ (j : Nat) (ls : List Lt) (q' : Option By) (lv : Value), jv = .int .i64 j ∧ j ≤ m ∧ ls.length ≤ j ∧ RdAt w wi p q' ∧ Kept [p] wo wi ∧ wi.heap[X]? = some (.cells #[.string (st bn), .int .i64 (bval : Nat), .int .i64 (bnx : Nat), lv] 51 (0, 0)) ∧ OwnLs wi wo.heap.size lv ls ∧
          ls ++ repV letQ letV (m - j) q' = repV letQ letV m b5 ∧ repQ letQ (m - j) q' = repQ letQ m b5) (fun jv _ => m - (intOf jv).toNat)
        case atStart => exact ⟨0, [], b5, _, rfl, by omega, by simp, hr7, hkx7, hX7, OwnG.nil _ _ _ _ _, rfl, rfl⟩
        case round =>
          clear hr7 hX7 hkx7 hr
          obtain ⟨j, ls, q', lv, rfl, hj, hll, hri, hki, hXi, hls, hlv, hlq⟩ := hrel
          by_cases hltj : j < m
          · have hltj2 : (j : Int) < (m : Int) := by omega
            cases q' with
            | none =>
              obtain ⟨Ar, nr, cr, hrowR⟩ := hri.2.2
              obtain ⟨R0, R1, RF⟩ := row2_at hrowR
              clear hrowR
              have hl1 : ls = repV letQ letV m b5 := by rw [← hlv, repV_none]; simp
              have hl2 : none = repQ letQ m b5 := by rw [← hlq, repQ_none]
              have HBXV : Hid (boxV (some l1) = ⟨bn, (bval : Nat), (bnx : Nat), ls⟩) := Lib.hid (by rw [HBV.out, hl1])
              have HBXQ : Hid (boxQ (some l1) = none) := Lib.hid (by rw [HBQ.out, hl2])
              clear hl1 hl2 hlv hlq
              obtain ⟨Al, cl, rfl⟩ := hls.form
              have hUi := hki.heap hU (by simpa using hpU.symm)
              have hGi := hki.heap hG (by simpa using hpG.symm)
              have C2 := fun w' (hx' : Ext wr w') => (row3_at (hx'.obj hUi)).2.2.1
              obtain ⟨vR, hrowR'⟩ := hri.row
              have hrowi' : wr.heap[X]? = some (.cells (bxC ⟨bn, (bval : Nat), (bnx : Nat), ls⟩ (.slice Al ls.length cl)) 51 (0, 0)) := hXi
              have hst : Stp [5, 75, 51] wo (wr.alloc (.cells (bxC ⟨bn, (bval : Nat), (bnx : Nat), ls⟩ (.slice Al ls.length cl)) 51)) := (Stp.kept hki (by intro k hk hlt; simp at hk; subst hk; exact ⟨_, _, _, HRW.out, by decide⟩)).trans (.of_ext ((Ext.refl _).alloc _))
              obtain ⟨css, q1, q2, q3, q4'⟩ := HXS.out.stp hst (by simp) (by simp) (by simp)
              have hxt : Ext wr (wr.alloc (.cells (bxC ⟨bn, (bval : Nat), (bnx : Nat), ls⟩ (.slice Al ls.length cl)) 51)) := (Ext.refl _).alloc _
              have hrowt := heap_alloc_new wr (.cells (bxC ⟨bn, (bval : Nat), (bnx : Nat), ls⟩ (.slice Al ls.length cl)) 51)
              have hUt := hxt.obj hUi
              have hGt := hxt.obj hGi
              have hret := hri.ext hxt
              have hlst := hls.stp (.of_ext hxt) (ts := [5, 75]) (by simp) (by simp)
              generalize hwt : wr.alloc (.cells (bxC ⟨bn, (bval : Nat), (bnx : Nat), ls⟩ (.slice Al ls.length cl)) 51) = wt at *
              have HWT := Lib.hid hwt
              unfold bxC at HWT
              clear hwt hls
              go_wp2_with (first | (with_reducible refine stop_alloc 42 ?_) | (with_reducible refine stop_store 42 ?_) | (with_reducible refine stop_load 42 ?_) | (with_reducible refine stop_alloc 51 ?_) | (with_reducible refine stop_store 51 ?_) | (with_reducible refine stop_load 51 ?_) | (with_reducible refine stop_alloc 75 ?_) | (with_reducible refine stop_store 75 ?_) | (with_reducible refine stop_load 75 ?_))
              refine go_on (wpList_load_row rfl 51 _ rfl X rfl 51 _ (0, 0) _ hXi Tryd.underlying51 rfl (by kernel_rfl) ?_)
              go_wp2_with (at_builtin; refine unstop ?_)
              rw [HWT.out]
              have hszw : wo.heap.size ≤ wt.heap.size := hst.1
              have hszo := hxr.size
              have hbl' : bs.length ≤ 255 := by omega
              refine go_on (wpList_app boxT q3 (Sl.row hrowt) rfl rfl rfl rfl rfl (bxC_one _ Al ls.length cl) (by omega) (by omega) (by omega) ?_)
              intro v' wf hof hgf _
              obtain ⟨Af, cf, rfl⟩ := own_form hof
              obtain ⟨N, hkN, hN'⟩ := Kept.row q3 hgf
              have hUN : U ∉ N := fun hm => by obtain ⟨_, cs, hc⟩ := hN' U hm; exact obj_ne hc hUt (by decide) rfl
              have hGN : G ∉ N := fun hm => by obtain ⟨_, cs, hc⟩ := hN' G hm; exact obj_ne hc hGt (by decide) rfl
              obtain ⟨vRt, hrowRt⟩ := hret.row
              have hRN : p ∉ N := fun hm => by obtain ⟨_, cs, hc⟩ := hN' p hm; exact obj_ne hc hrowRt (by decide) rfl
              have hUf := hkN.heap hUt hUN
              have hGf := hkN.heap hGt hGN
              have hstf : Stp [5, 75] wt wf := .kept hkN (by intro k hk _; obtain ⟨_, cs, hc⟩ := hN' k hk; exact ⟨_, _, _, hc, by decide⟩)
              obtain ⟨_, _, CUf, FUf⟩ := rows3 hUf
              have FUf := fun w' hx => FUf w' 2 hx
              obtain ⟨wg, hwg⟩ : ∃ wg, wg = wf.setCell ⟨U, 2, none⟩ (.slice Af (bs.length + 1) cf) := ⟨_, rfl⟩
              have hsetU : wg.heap[U]? = some (.cells #[.string (st un), .int .i64 (uv : Nat), .slice Af (bs.length + 1) cf] 42 (0, 0)) := by
                rw [hwg, heap_setCell_same wf U 2 _ _ _ hUf]
                rfl
              have hkG : Kept [U] wf wg := hwg ▸ (Kept.refl _ _).setCell (.inl (by simp)) _
              have hGg := hkG.heap hGf (by simpa using hGU)
              have hstG : Stp [5, 75, 51] wf wg := .kept hkG (by intro k hk _; simp at hk; subst hk; exact ⟨_, _, _, hUf, by decide⟩)
              have hst8 := hstf.trans (hstG.less (us := [5, 75]) (by simp))
              have hxsG : OwnXs wg w.heap.size (.slice Af (bs.length + 1) cf) (bs ++ [⟨bn, (bval : Nat), (bnx : Nat), ls⟩]) := OwnG.push q1 q2 (owns_stp hof hstG (by simp)) (fun k cs x a b => (q4' k cs x a b).stp hst8 (by simp) (by simp)) rfl
                ⟨_, rfl, (hlst.low (by omega)).stp hst8 (by simp) (by simp)⟩
              have hrG : RdAt w wg p none := (hret.kept hkN hRN (fun k hk => (hN' k hk).1)).kept hkG (by simpa using hpU) (by intro k hk; simp at hk; omega)
              have HWG := Lib.hid hwg
              clear hwg HXS q1 q2 q3 q4' hst hstf hstG hst8 hgf hof hkN hN' hkG hlst hrowt hrowi' hXi C2
              go_wp2
              go_roundw
              rw [← HWG.out]
              case rel => exact ⟨i + 1, _, none, _, by go_num, by omega, by simp; omega, hrG, hsetU, hGg, hxsG, by rw [← HBXV.out, ← HBXQ.out]; exact HRV.out, by rw [← HBXQ.out]; exact HRQ.out⟩
              case measure => simp [intOf]; omega
            | some l2 =>
              obtain ⟨lu, hlu⟩ : ∃ x, x = valB (cutV 4 (some l2)) := ⟨_, rfl⟩
              obtain ⟨e1, he1⟩ : ∃ q, q = cutQ 4 (some l2) := ⟨_, rfl⟩
              obtain ⟨lf, hlf⟩ : ∃ x, x = valB (cutV 1 e1) := ⟨_, rfl⟩
              obtain ⟨e2, he2⟩ : ∃ q, q = cutQ 1 e1 := ⟨_, rfl⟩
              obtain ⟨lb, hlb⟩ : ∃ x, x = loV e2 := ⟨_, rfl⟩
              obtain ⟨e3, he3⟩ : ∃ q, q = loQ e2 := ⟨_, rfl⟩
              have HLQ : Hid (letQ (some l2) = e3) := Lib.hid (by rw [he3, he2, he1]; rfl)
              have HLV : Hid (letV (some l2) = ⟨(lu : Nat), UInt8.ofNat lf, lb⟩) := Lib.hid (by rw [hlb, hlf, he2, hlu, he1]; rfl)
              have HRV2 : Hid (ls ++ [letV (some l2)] ++ repV letQ letV (m - (j + 1)) (letQ (some l2)) = repV letQ letV m b5) := Lib.hid (by
                rw [← hlv, show m - j = (m - (j + 1)) + 1 by omega, repV, List.append_assoc]; rfl)
              have HRQ2 : Hid (repQ letQ (m - (j + 1)) (letQ (some l2)) = repQ letQ m b5) := Lib.hid (by
                rw [← hlq, show m - j = (m - (j + 1)) + 1 by omega, repQ])
              have hlbl : lb.length ≤ 65535 := by
                rw [hlb]
                have := cutV_le (valB (cutV 2 e2)) (cutQ 2 e2)
                have := valB_cut 2 e2
                unfold loV
                omega
              have hln := valB_cut 2 e2
              have HLU := Lib.hid hlu
              have HE1 := Lib.hid he1
              have HLF := Lib.hid hlf
              have HE2 := Lib.hid he2
              have HLB := Lib.hid hlb
              have HE3 := Lib.hid he3
              obtain ⟨Ar, cr, hrowR, _, _⟩ := hri.2.2
              obtain ⟨R0, R1, RF⟩ := row2_at hrowR
              have HLS := Lib.hid hls
              have hxi := hri.2.1
              have halL : ls.length ≤ 255 := by omega
              have hXw := hxi.size
              clear hlv hlq hlu he1 hlf he2 hlb he3 hls
              go_wp2_with (first | (with_reducible refine stop_alloc 42 ?_) | (with_reducible refine stop_store 42 ?_) | (with_reducible refine stop_load 42 ?_) | (with_reducible refine stop_alloc 51 ?_) | (with_reducible refine stop_store 51 ?_) | (with_reducible refine stop_load 51 ?_) | (with_reducible refine stop_alloc 75 ?_) | (with_reducible refine stop_store 75 ?_) | (with_reducible refine stop_load 75 ?_))
              refine (hN _ _ 4 (by omega) hri).mono ?_
              rintro e y1 ⟨rfl, ht1, hm1⟩
              clear R0 R1 RF
              have ht1 : RdAt w y1 p e1 := by rw [HE1.out]; exact ht1
              rw [← HLU.out]
              go_wp2_with (first | (with_reducible refine stop_alloc 42 ?_) | (with_reducible refine stop_store 42 ?_) | (with_reducible refine stop_load 42 ?_) | (with_reducible refine stop_alloc 51 ?_) | (with_reducible refine stop_store 51 ?_) | (with_reducible refine stop_load 51 ?_) | (with_reducible refine stop_alloc 75 ?_) | (with_reducible refine stop_store 75 ?_) | (with_reducible refine stop_load 75 ?_))
              refine go_on (wpList_alloc_ rfl rfl letter_info ?_)
              go_wp2_with (first | (with_reducible refine stop_alloc 42 ?_) | (with_reducible refine stop_store 42 ?_) | (with_reducible refine stop_load 42 ?_) | (with_reducible refine stop_alloc 51 ?_) | (with_reducible refine stop_store 51 ?_) | (with_reducible refine stop_load 51 ?_) | (with_reducible refine stop_alloc 75 ?_) | (with_reducible refine stop_store 75 ?_) | (with_reducible refine stop_load 75 ?_))
              refine go_on (wpList_store_last (c' := #[.int .i64 (lu : Nat), .int .u8 0, .slice none 0 0]) rfl rfl rfl rfl (by kernel_rfl) rfl (by simp [Value.oneCell']) ?_)
              intro y2 hrowY hxy hszy
              obtain ⟨Y, hYe⟩ : ∃ Y, Y = y1.heap.size := ⟨_, rfl⟩
              rw [← hYe] at hrowY
              have HYE := Lib.hid hYe
              have hpY : p ≠ Y := by have := ht1.lt; omega
              have hwY : wr.heap.size ≤ Y := by have := hm1.size; omega
              have hXlt := obj_lt hXi
              have hXY : X ≠ Y := by omega
              have ht2 := ht1.ext hxy
              have hm2 := hm1.ext hxy
              clear hxy hszy hYe ht1 hm1
              go_wp2_with (first | (with_reducible refine stop_alloc 42 ?_) | (with_reducible refine stop_store 42 ?_) | (with_reducible refine stop_load 42 ?_) | (with_reducible refine stop_alloc 51 ?_) | (with_reducible refine stop_store 51 ?_) | (with_reducible refine stop_load 51 ?_) | (with_reducible refine stop_alloc 75 ?_) | (with_reducible refine stop_store 75 ?_) | (with_reducible refine stop_load 75 ?_))
              rw [← HYE.out]
              refine (hN _ _ 1 (by omega) ht2).mono ?_
              rintro e y3 ⟨rfl, ht3, hm3⟩
              have ht3 : RdAt w y3 p e2 := by rw [HE2.out]; exact ht3
              rw [← HLF.out]
              have hY3 := hm3.heap hrowY (by simpa using hpY.symm)
              obtain ⟨C0, C1, C2, F⟩ := row3_at hY3
              obtain ⟨fl, hfl⟩ : ∃ fl : UInt8, fl = UInt8.ofNat lf := ⟨_, rfl⟩
              rw [← hfl] at HLV
              have hfl2 : ((lf : Int) % 256) = (fl.toNat : Int) := by rw [hfl, ← u8_of]
              obtain ⟨y4, hy4⟩ : ∃ y4, y4 = y3.setCell ⟨Y, 1, none⟩ (.int .u8 ((lf : Int) % 256)) := ⟨_, rfl⟩
              have hk4 : Kept [Y] y3 y4 := hy4 ▸ (Kept.refl _ _).setCell (.inl (by simp)) _
              have hY4 : y4.heap[Y]? = some (.cells #[.int .i64 (lu : Nat), .int .u8 (fl.toNat : Int), .slice none 0 0] 75 (0, 0)) := by
                rw [hy4, heap_setCell_same y3 Y 1 _ _ _ hY3, hfl2]; rfl
              have ht4 := ht3.kept hk4 (by simpa using hpY) (by intro k hk; simp at hk; omega)
              have hm4 : Kept [p] wr y4 := Kept.new (M := [p, Y]) (((hm2.trans hm3).mono (by simp)).trans (hk4.mono (by simp))) (by intro k hk; simp at hk; rcases hk with rfl | rfl <;> simp; omega)
              have HY4 := Lib.hid hy4
              clear hrowY ht2 hm2 ht3 hm3 hY3 hk4 hy4 hfl hfl2
              go_wp2_with (first | (with_reducible refine stop_alloc 42 ?_) | (with_reducible refine stop_store 42 ?_) | (with_reducible refine stop_load 42 ?_) | (with_reducible refine stop_alloc 51 ?_) | (with_reducible refine stop_store 51 ?_) | (with_reducible refine stop_load 51 ?_) | (with_reducible refine stop_alloc 75 ?_) | (with_reducible refine stop_store 75 ?_) | (with_reducible refine stop_load 75 ?_))
              rw [← HY4.out]
              clear C0 C1 C2 F HY4
              refine (hN _ _ 2 (by omega) ht4).mono ?_
              rintro e y5 ⟨rfl, ht5, hm5⟩
              have hY5 := hm5.heap hY4 (by simpa using hpY.symm)
              go_wp2_with (first | (with_reducible refine stop_alloc 42 ?_) | (with_reducible refine stop_store 42 ?_) | (with_reducible refine stop_load 42 ?_) | (with_reducible refine stop_alloc 51 ?_) | (with_reducible refine stop_store 51 ?_) | (with_reducible refine stop_load 51 ?_) | (with_reducible refine stop_alloc 75 ?_) | (with_reducible refine stop_store 75 ?_) | (with_reducible refine stop_load 75 ?_))
              refine (hC _ _ _ (by omega) ht5).mono ?_
              rintro e y6 ⟨v6, rfl, ho6, ht6, hm6⟩
              have ht6 : RdAt w y6 p e3 := by rw [HE3.out]; exact ht6
              have ho6 : Own y6 y5.heap.size v6 lb := by rw [HLB.out]; exact ho6
              obtain ⟨Ab, cb, rfl⟩ := ho6.form
              have hY6 := hm6.heap hY5 (by simpa using hpY.symm)
              obtain ⟨C0, C1, C2, F⟩ := row3_at hY6
              obtain ⟨y7, hy7⟩ : ∃ y7, y7 = y6.setCell ⟨Y, 2, none⟩ (.slice Ab lb.length cb) := ⟨_, rfl⟩
              have hkY : Kept [Y] y6 y7 := hy7 ▸ (Kept.refl _ _).setCell (.inl (by simp)) _
              have hset : y7.heap[Y]? = some (.cells (ltC ⟨(lu : Nat), fl, lb⟩ (.slice Ab lb.length cb)) 75 (0, 0)) := by
                rw [hy7, heap_setCell_same y6 Y 2 _ _ _ hY6]; rfl
              have hovS := ho6.off hY6 (by decide) hkY
              have hreS := ht6.kept hkY (by simpa using hpY) (by intro k hk; simp at hk; omega)
              have hm6' : Kept [p] wr y6 := (hm4.trans hm5).trans hm6
              have hrowXs := hkY.heap (hm6'.heap hXi (by simpa using hpX.symm)) (by simpa using hXY)
              have hkS : Kept [p] wr y7 := Kept.new (M := [p, Y]) ((hm6'.mono (by simp)).trans (hkY.mono (by simp))) (by intro k hk; simp at hk; rcases hk with rfl | rfl <;> simp; omega)
              have CX := fun w' (hx' : Ext y7 w') => (row4_at (hx'.obj hrowXs)).2.2.2.1
              have hb56 : wr.heap.size ≤ y5.heap.size := by have := (hm4.trans hm5).size; omega
              have HWS := Lib.hid hy7
              clear hy7 ht4 hm4 hY4 ht5 hm5 hY5 ho6 ht6 hm6 hY6 hkY hm6'
              go_wp2_with (first | (with_reducible refine stop_load 49 ?_) | (with_reducible refine stop_load 40 ?_))
              refine go_on ?_
              rw [← HWS.out]
              clear C0 C1 C2 F
              go_wp2_with (first | (with_reducible refine stop_alloc 42 ?_) | (with_reducible refine stop_store 42 ?_) | (with_reducible refine stop_load 42 ?_) | (with_reducible refine stop_alloc 51 ?_) | (with_reducible refine stop_store 51 ?_) | (with_reducible refine stop_load 51 ?_) | (with_reducible refine stop_alloc 75 ?_) | (with_reducible refine stop_store 75 ?_) | (with_reducible refine stop_load 75 ?_))
              refine go_on (wpList_load_row rfl 75 _ rfl Y rfl 75 _ (0, 0) _ hset Tryd.underlying75 rfl (by kernel_rfl) ?_)
              obtain ⟨vR, hrowR⟩ := hri.row
              have hst : Stp [5, 75] wr (y7.alloc (.cells (ltC ⟨(lu : Nat), fl, lb⟩ (.slice Ab lb.length cb)) 75)) := (Stp.kept hkS (by intro k hk hlt; simp at hk; subst hk; exact ⟨_, _, _, hrowR, by decide⟩)).trans (.of_ext ((Ext.refl _).alloc _))
              obtain ⟨css, q1, q2, q3, q4⟩ := HLS.out.stp hst (by simp) (by simp)
              have hxt : Ext y7 (y7.alloc (.cells (ltC ⟨(lu : Nat), fl, lb⟩ (.slice Ab lb.length cb)) 75)) := (Ext.refl _).alloc _
              have hrowt := heap_alloc_new y7 (.cells (ltC ⟨(lu : Nat), fl, lb⟩ (.slice Ab lb.length cb)) 75)
              have hrowXt := hxt.obj hrowXs
              have hret := hreS.ext hxt
              have hovt := hovS.ext hxt
              generalize hwt : y7.alloc (.cells (ltC ⟨(lu : Nat), fl, lb⟩ (.slice Ab lb.length cb)) 75) = wt at *
              have HWT := Lib.hid hwt
              clear hwt
              unfold ltC at HWT
              unfold ltC
              go_wp2_with (at_builtin; refine unstop ?_)
              rw [HWT.out]
              have hszw : wr.heap.size ≤ wt.heap.size := hst.1
              have hszo := hki.size
              refine go_on (wpList_app letT q3 (Sl.row hrowt) rfl rfl rfl rfl rfl (ltC_one _ Ab lb.length cb) (by omega) (by omega) (by omega) ?_)
              intro v' wf hof hgf _
              obtain ⟨Af, cf, rfl⟩ := own_form hof
              obtain ⟨N, hkN, hN'⟩ := Kept.row q3 hgf
              have hXN : X ∉ N := fun hm => by obtain ⟨_, cs, hc⟩ := hN' X hm; exact obj_ne hc hrowXt (by decide) rfl
              obtain ⟨vRt, hrowRt⟩ := hret.row
              have hRN : p ∉ N := fun hm => by obtain ⟨_, cs, hc⟩ := hN' p hm; exact obj_ne hc hrowRt (by decide) rfl
              have hrowXf := hkN.heap hrowXt hXN
              have hstf : Stp [5] wt wf := .kept hkN (by intro k hk _; obtain ⟨_, cs, hc⟩ := hN' k hk; exact ⟨_, _, _, hc, by decide⟩)
              obtain ⟨_, _, _, CXf, FXf⟩ := rows4 hrowXf
              have FXf := fun w' hx => FXf w' 3 hx
              obtain ⟨wg, hwg⟩ : ∃ wg, wg = wf.setCell ⟨X, 3, none⟩ (.slice Af (ls.length + 1) cf) := ⟨_, rfl⟩
              have hsetX : wg.heap[X]? = some (.cells #[.string (st bn), .int .i64 (bval : Nat), .int .i64 (bnx : Nat), .slice Af (ls.length + 1) cf] 51 (0, 0)) := by
                rw [hwg, heap_setCell_same wf X 3 _ _ _ hrowXf]
                rfl
              have hkG : Kept [X] wf wg := hwg ▸ (Kept.refl _ _).setCell (.inl (by simp)) _
              have hstG : Stp [5, 75] wf wg := .kept hkG (by intro k hk _; simp at hk; subst hk; exact ⟨_, _, _, hrowXf, by decide⟩)
              have hst8 := hstf.trans (hstG.less (us := [5]) (by simp))
              have hlsG : OwnLs wg wo.heap.size (.slice Af (ls.length + 1) cf) (ls ++ [⟨(lu : Nat), fl, lb⟩]) := OwnG.push q1 q2 (owns_stp hof hstG (by simp)) (fun k cs x a b => (q4 k cs x a b).stp hst8 (by simp)) rfl
                ⟨_, rfl, (hovt.low (by omega)).stp hst8 (by simp)⟩
              have hrG : RdAt w wg p e3 := (hret.kept hkN hRN (fun k hk => by have := (hN' k hk).1; have := hxr.size; omega)).kept hkG (by simpa using hpX) (by intro k hk; simp at hk; have := hxr.size; omega)
              have hkiG : Kept [p] wo wg := Kept.new (M := [p, X] ++ N) (((hki.trans (hkS.ext hxt)).mono (by simp)).trans ((hkN.mono (by intro k hk; simp [hk])).trans (hkG.mono (by simp)))) (by
                intro k hk
                simp only [List.mem_append, List.mem_cons, List.not_mem_nil, or_false] at hk ⊢
                rcases hk with (rfl | rfl) | hk
                · exact .inl rfl
                · exact .inr hwrX
                · exact .inr (by have := (hN' k hk).1; omega))
              have HWG := Lib.hid hwg
              clear hwg HLS q1 q2 q3 q4 hst hstf hstG hst8 hgf hof hkN hN' hkG hovt hovS hreS hkS
              go_wp2
              go_roundw
              rw [← HWG.out]
              case rel => exact ⟨j + 1, _, e3, _, by go_num, by omega, by simp; omega, hrG, hkiG, hsetX, hlsG, by rw [← HLV.out, ← HLQ.out]; exact HRV2.out, by rw [← HLQ.out]; exact HRQ2.out⟩
              case measure => simp [intOf]; omega
          · have hltj2 : ¬ (j : Int) < (m : Int) := by omega
            obtain rfl : j = m := by omega
            rw [Nat.sub_self] at hlv hlq
            have hl1 : ls = repV letQ letV j b5 := by rw [← hlv]; simp [repV]
            have hl2 : q' = repQ letQ j b5 := by rw [← hlq]; rfl
            have HBXV : Hid (boxV (some l1) = ⟨bn, (bval : Nat), (bnx : Nat), ls⟩) := Lib.hid (by rw [HBV.out, hl1])
            have HBXQ : Hid (boxQ (some l1) = q') := Lib.hid (by rw [HBQ.out, hl2])
            clear hl1 hl2 hlv hlq
            obtain ⟨Al, cl, rfl⟩ := hls.form
            have hUi := hki.heap hU (by simpa using hpU.symm)
            have hGi := hki.heap hG (by simpa using hpG.symm)
            have C2 := fun w' (hx' : Ext wr w') => (row3_at (hx'.obj hUi)).2.2.1
            obtain ⟨vR, hrowR'⟩ := hri.row
            have hrowi' : wr.heap[X]? = some (.cells (bxC ⟨bn, (bval : Nat), (bnx : Nat), ls⟩ (.slice Al ls.length cl)) 51 (0, 0)) := hXi
            have hst : Stp [5, 75, 51] wo (wr.alloc (.cells (bxC ⟨bn, (bval : Nat), (bnx : Nat), ls⟩ (.slice Al ls.length cl)) 51)) := (Stp.kept hki (by intro k hk hlt; simp at hk; subst hk; exact ⟨_, _, _, HRW.out, by decide⟩)).trans (.of_ext ((Ext.refl _).alloc _))
            obtain ⟨css, q1, q2, q3, q4'⟩ := HXS.out.stp hst (by simp) (by simp) (by simp)
            have hxt : Ext wr (wr.alloc (.cells (bxC ⟨bn, (bval : Nat), (bnx : Nat), ls⟩ (.slice Al ls.length cl)) 51)) := (Ext.refl _).alloc _
            have hrowt := heap_alloc_new wr (.cells (bxC ⟨bn, (bval : Nat), (bnx : Nat), ls⟩ (.slice Al ls.length cl)) 51)
            have hUt := hxt.obj hUi
            have hGt := hxt.obj hGi
            have hret := hri.ext hxt
            have hlst := hls.stp (.of_ext hxt) (ts := [5, 75]) (by simp) (by simp)
            generalize hwt : wr.alloc (.cells (bxC ⟨bn, (bval : Nat), (bnx : Nat), ls⟩ (.slice Al ls.length cl)) 51) = wt at *
            have HWT := Lib.hid hwt
            unfold bxC at HWT
            clear hwt hls
            go_wp2_with (first | (with_reducible refine stop_alloc 42 ?_) | (with_reducible refine stop_store 42 ?_) | (with_reducible refine stop_load 42 ?_) | (with_reducible refine stop_alloc 51 ?_) | (with_reducible refine stop_store 51 ?_) | (with_reducible refine stop_load 51 ?_) | (with_reducible refine stop_alloc 75 ?_) | (with_reducible refine stop_store 75 ?_) | (with_reducible refine stop_load 75 ?_))
            refine go_on (wpList_load_row rfl 51 _ rfl X rfl 51 _ (0, 0) _ hXi Tryd.underlying51 rfl (by kernel_rfl) ?_)
            go_wp2_with (at_builtin; refine unstop ?_)
            rw [HWT.out]
            have hszw : wo.heap.size ≤ wt.heap.size := hst.1
            have hszo := hxr.size
            have hbl' : bs.length ≤ 255 := by omega
            refine go_on (wpList_app boxT q3 (Sl.row hrowt) rfl rfl rfl rfl rfl (bxC_one _ Al ls.length cl) (by omega) (by omega) (by omega) ?_)
            intro v' wf hof hgf _
            obtain ⟨Af, cf, rfl⟩ := own_form hof
            obtain ⟨N, hkN, hN'⟩ := Kept.row q3 hgf
            have hUN : U ∉ N := fun hm => by obtain ⟨_, cs, hc⟩ := hN' U hm; exact obj_ne hc hUt (by decide) rfl
            have hGN : G ∉ N := fun hm => by obtain ⟨_, cs, hc⟩ := hN' G hm; exact obj_ne hc hGt (by decide) rfl
            obtain ⟨vRt, hrowRt⟩ := hret.row
            have hRN : p ∉ N := fun hm => by obtain ⟨_, cs, hc⟩ := hN' p hm; exact obj_ne hc hrowRt (by decide) rfl
            have hUf := hkN.heap hUt hUN
            have hGf := hkN.heap hGt hGN
            have hstf : Stp [5, 75] wt wf := .kept hkN (by intro k hk _; obtain ⟨_, cs, hc⟩ := hN' k hk; exact ⟨_, _, _, hc, by decide⟩)
            obtain ⟨_, _, CUf, FUf⟩ := rows3 hUf
            have FUf := fun w' hx => FUf w' 2 hx
            obtain ⟨wg, hwg⟩ : ∃ wg, wg = wf.setCell ⟨U, 2, none⟩ (.slice Af (bs.length + 1) cf) := ⟨_, rfl⟩
            have hsetU : wg.heap[U]? = some (.cells #[.string (st un), .int .i64 (uv : Nat), .slice Af (bs.length + 1) cf] 42 (0, 0)) := by
              rw [hwg, heap_setCell_same wf U 2 _ _ _ hUf]
              rfl
            have hkG : Kept [U] wf wg := hwg ▸ (Kept.refl _ _).setCell (.inl (by simp)) _
            have hGg := hkG.heap hGf (by simpa using hGU)
            have hstG : Stp [5, 75, 51] wf wg := .kept hkG (by intro k hk _; simp at hk; subst hk; exact ⟨_, _, _, hUf, by decide⟩)
            have hst8 := hstf.trans (hstG.less (us := [5, 75]) (by simp))
            have hxsG : OwnXs wg w.heap.size (.slice Af (bs.length + 1) cf) (bs ++ [⟨bn, (bval : Nat), (bnx : Nat), ls⟩]) := OwnG.push q1 q2 (owns_stp hof hstG (by simp)) (fun k cs x a b => (q4' k cs x a b).stp hst8 (by simp) (by simp)) rfl
              ⟨_, rfl, (hlst.low (by omega)).stp hst8 (by simp) (by simp)⟩
            have hrG : RdAt w wg p q' := (hret.kept hkN hRN (fun k hk => (hN' k hk).1)).kept hkG (by simpa using hpU) (by intro k hk; simp at hk; omega)
            have HWG := Lib.hid hwg
            clear hwg HXS q1 q2 q3 q4' hst hstf hstG hst8 hgf hof hkN hN' hkG hlst hrowt hrowi' hXi C2
            go_wp2
            go_roundw
            rw [← HWG.out]
            case rel => exact ⟨i + 1, _, q', _, by go_num, by omega, by simp; omega, hrG, hsetU, hGg, hxsG, by rw [← HBXV.out, ← HBXQ.out]; exact HRV.out, by rw [← HBXQ.out]; exact HRQ.out⟩
            case measure => simp [intOf]; omega
    · have hlt2 : ¬ (i : Int) < (n : Int) := by omega
      obtain rfl : i = n := by omega
      rw [Nat.sub_self] at hrv hrq
      cases q with
      | none =>
        obtain ⟨Ar, nr, cr, hrowR⟩ := hr.2.2
        obtain ⟨R0, R1, RF⟩ := row2_at hrowR
        clear hrowR
        have HT : Hid (takeUs l = .inl 3) := Lib.hid (by rw [HTS.out, HU1.out, ← hrq, repQ_none])
        go_wp2_with (first | (with_reducible refine stop_alloc 42 ?_) | (with_reducible refine stop_store 42 ?_) | (with_reducible refine stop_load 42 ?_) | (with_reducible refine stop_alloc 51 ?_) | (with_reducible refine stop_store 51 ?_) | (with_reducible refine stop_load 51 ?_) | (with_reducible refine stop_alloc 75 ?_) | (with_reducible refine stop_store 75 ?_) | (with_reducible refine stop_load 75 ?_))
        refine go_on (wpList_store_whole (c := zUser) (c' := zUser) rfl rfl (congrArg (fun g => Value.pointer (some ⟨g, 0, none⟩)) HG.out.symm) rfl hG (by kernel_rfl) rfl (by simp [zUser, Value.oneCell']) ?_)
        intro wv hrow hkv _
        rw [HG.out] at hrow
        have hxv : Ext w wv := hr.2.1.kept hkv (by intro k hk; simp at hk; subst hk; exact Nat.le_of_eq HG.out.symm)
        clear hr hG hxs hrv hrq
        go_wp2
        ((try simp only [Exit.inBlock, Exit.then]); refine bodyPost_ret (results_cell1 rfl _ _ w.heap.size _ _ _ _ rfl hrow Tryd.underlying42 rfl (by kernel_rfl)) rfl ?_)
        refine ⟨hxv, ?_⟩
        rw [HT.out]
        rfl
      | some r =>
        have hbs : bs = repV boxQ boxV i q4 := by rw [← hrv]; simp [repV]
        have HNM : Hid (∀ b ∈ bs, b.name.length < 256) := Lib.hid (by rw [hbs]; exact repV_names _ _)
        have HUS : Hid (usrV (some l) = ⟨un, (uv : Nat), bs⟩) := Lib.hid (by rw [HU2.out, hbs])
        have HT : Hid (takeUs l = if r = [] then (if checkU ⟨un, (uv : Nat), bs⟩ ≠ 0 then .inl (checkU ⟨un, (uv : Nat), bs⟩) else .inr ⟨un, (uv : Nat), bs⟩) else .inl 4) := Lib.hid (by rw [HTS.out, HU1.out, ← hrq, HUS.out]; rfl)
        obtain ⟨Ar, cr, hrowR, hlr, hbr⟩ := hr.2.2
        obtain ⟨R0, R1, RF⟩ := row2_at hrowR
        obtain ⟨Ab, cb, rfl⟩ := hxs.form
        clear hrowR hlr hbr hrv hrq hbs
        by_cases hr0 : r = []
        · have HT2 := Lib.hid (HT.out.trans (if_pos hr0))
          have hr0' : ¬ (0 : Int) < (r.length : Int) := by rw [hr0]; simp
          have hbn : ∀ b ∈ bs, b.name.length ≤ 8796093022000 := fun b hb => by have := HNM.out b hb; omega
          have hx := hr.2.1
          have HCU := RCheckUser_any ⟨un, (uv : Nat), bs⟩ Ab cb wr hxs.rsm (show un.length ≤ 8796093022000 by omega) hbn (hT.ext hx)
          have HXS := Lib.hid hxs
          clear hr HT hr0 hbn hxs
          go_wp2_with (first | (with_reducible refine stop_alloc 42 ?_) | (with_reducible refine stop_store 42 ?_) | (with_reducible refine stop_load 42 ?_) | (with_reducible refine stop_alloc 51 ?_) | (with_reducible refine stop_store 51 ?_) | (with_reducible refine stop_load 51 ?_) | (with_reducible refine stop_alloc 75 ?_) | (with_reducible refine stop_store 75 ?_) | (with_reducible refine stop_load 75 ?_))
          refine go_on (wpList_load_row rfl 42 _ rfl U rfl 42 _ (0, 0) _ hU Tryd.underlying42 rfl (by kernel_rfl) ?_)
          go_wp2_with fail
          refine HCU.mono ?_
          rintro e w2 ⟨rfl, hx2⟩
          have hU2 := hx2.obj hU
          have hG2 := hx2.obj hG
          have hx02 := hx.trans hx2
          clear HCU
          by_cases hc : checkU ⟨un, (uv : Nat), bs⟩ = 0
          · have HT3 := Lib.hid (HT2.out.trans (if_neg (by simpa using hc)))
            rw [hc]
            clear HT2 hc
            go_wp2_with (first | (with_reducible refine stop_alloc 42 ?_) | (with_reducible refine stop_store 42 ?_) | (with_reducible refine stop_load 42 ?_) | (with_reducible refine stop_alloc 51 ?_) | (with_reducible refine stop_store 51 ?_) | (with_reducible refine stop_load 51 ?_) | (with_reducible refine stop_alloc 75 ?_) | (with_reducible refine stop_store 75 ?_) | (with_reducible refine stop_load 75 ?_))
            refine go_on (wpList_load_row rfl 42 _ rfl U rfl 42 _ (0, 0) _ hU2 Tryd.underlying42 rfl (by kernel_rfl) ?_)
            go_wp2_with (first | (with_reducible refine stop_alloc 42 ?_) | (with_reducible refine stop_store 42 ?_) | (with_reducible refine stop_load 42 ?_) | (with_reducible refine stop_alloc 51 ?_) | (with_reducible refine stop_store 51 ?_) | (with_reducible refine stop_load 51 ?_) | (with_reducible refine stop_alloc 75 ?_) | (with_reducible refine stop_store 75 ?_) | (with_reducible refine stop_load 75 ?_))
            refine go_on (wpList_store_whole (c := zUser) (c' := #[.string (st un), .int .i64 (uv : Nat), .slice Ab bs.length cb]) rfl rfl (congrArg (fun g => Value.pointer (some ⟨g, 0, none⟩)) HG.out.symm) rfl hG2 (by kernel_rfl) rfl (by simp [Value.oneCell']) ?_)
            intro wv hrow hkv _
            rw [HG.out] at hrow
            have hxv : Ext w wv := hx02.kept hkv (by intro k hk; simp at hk; subst hk; exact Nat.le_of_eq HG.out.symm)
            go_wp2
            ((try simp only [Exit.inBlock, Exit.then]); refine bodyPost_ret (results_cell1 rfl _ _ w.heap.size _ _ _ _ rfl hrow Tryd.underlying42 rfl (by kernel_rfl)) rfl ?_)
            refine ⟨hxv, ?_⟩
            rw [HT3.out]
            refine ⟨_, rfl, ?_⟩
            exact (HXS.out.stp (.of_ext hx2) (ts := [5, 75, 51]) (by simp) (by simp) (by simp)).stp (.kept hkv (by intro k hk _; simp at hk; subst hk; exact ⟨_, _, _, hG2, by decide⟩) : Stp [5, 75, 51] w2 wv) (by simp) (by simp) (by simp)
          · have HT3 := Lib.hid (HT2.out.trans (if_pos hc))
            have k1 : (((checkU ⟨un, (uv : Nat), bs⟩ : Nat) : Int) == 0) = false := by simpa using hc
            have k2 : ¬ checkU ⟨un, (uv : Nat), bs⟩ = 0 := hc
            clear HT2 hc
            generalize checkU ⟨un, (uv : Nat), bs⟩ = z at *
            go_wp2_with (first | (with_reducible refine stop_alloc 42 ?_) | (with_reducible refine stop_store 42 ?_) | (with_reducible refine stop_load 42 ?_) | (with_reducible refine stop_alloc 51 ?_) | (with_reducible refine stop_store 51 ?_) | (with_reducible refine stop_load 51 ?_) | (with_reducible refine stop_alloc 75 ?_) | (with_reducible refine stop_store 75 ?_) | (with_reducible refine stop_load 75 ?_))
            refine go_on (wpList_store_whole (c := zUser) (c' := zUser) rfl rfl (congrArg (fun g => Value.pointer (some ⟨g, 0, none⟩)) HG.out.symm) rfl hG2 (by kernel_rfl) rfl (by simp [zUser, Value.oneCell']) ?_)
            intro wv hrow hkv _
            rw [HG.out] at hrow
            have hxv : Ext w wv := Ext.kept hx02 hkv (by intro k hk; simp at hk; subst hk; exact Nat.le_of_eq HG.out.symm)
            go_wp2
            ((try simp only [Exit.inBlock, Exit.then]); refine bodyPost_ret (results_cell1 rfl _ _ w.heap.size _ _ _ _ rfl hrow Tryd.underlying42 rfl (by kernel_rfl)) rfl ?_)
            refine ⟨hxv, ?_⟩
            rw [HT3.out]
            rfl
        · have HT2 : Hid (takeUs l = .inl 4) := Lib.hid (HT.out.trans (if_neg hr0))
          have hr0' : (0 : Int) < (r.length : Int) := by have := List.length_pos_iff.2 hr0; omega
          clear HT hr0
          go_wp2_with (first | (with_reducible refine stop_alloc 42 ?_) | (with_reducible refine stop_store 42 ?_) | (with_reducible refine stop_load 42 ?_) | (with_reducible refine stop_alloc 51 ?_) | (with_reducible refine stop_store 51 ?_) | (with_reducible refine stop_load 51 ?_) | (with_reducible refine stop_alloc 75 ?_) | (with_reducible refine stop_store 75 ?_) | (with_reducible refine stop_load 75 ?_))
          refine go_on (wpList_store_whole (c := zUser) (c' := zUser) rfl rfl (congrArg (fun g => Value.pointer (some ⟨g, 0, none⟩)) HG.out.symm) rfl hG (by kernel_rfl) rfl (by simp [zUser, Value.oneCell']) ?_)
          intro wv hrow hkv _
          rw [HG.out] at hrow
          have hxv : Ext w wv := hr.2.1.kept hkv (by intro k hk; simp at hk; subst hk; exact Nat.le_of_eq HG.out.symm)
          clear hr hG hxs
          go_wp2
          ((try simp only [Exit.inBlock, Exit.then]); refine bodyPost_ret (results_cell1 rfl _ _ w.heap.size _ _ _ _ rfl hrow Tryd.underlying42 rfl (by kernel_rfl)) rfl ?_)
          refine ⟨hxv, ?_⟩
          rw [HT2.out]
          rfl
end Go.Proofs.YtameamfaaenboaaDoor
