/- The walks of deed's reader: take, num, short, long, must. Conditions: the bounds named. -/
import Derived.Test.YthlppbbejdeeoaaDd2
import Derived.Test.YthlppbbejdeeoaaMut
import Derived.Test.YthlppbbejdeeoaaClone
import Derived.Laws.BitsAllLaws
namespace Go.Proofs.Ythlppbbejdeeoaa
open Go.RowKit
def pt (p : Nat) : Value := .pointer (some ⟨p, 0, none⟩)
theorem row1_cell {w : World} {p t : Nat} {v : Value} (h : w.heap[p]? = some (.cells #[v] t (0, 0))) : (∀ w', Ext w w' → w'.cell? ⟨p, 0, none⟩ = some v) ∧ (∀ w' j, Ext w w' → w'.frozen? ⟨p, j, none⟩ = false) :=
  ⟨fun _ hx => by rw [cell_of_row _ p 0 _ _ _ (hx.obj h)]; rfl, fun _ j hx => frozen_of_row _ p j _ _ (hx.obj h)⟩
/-- a slice by its end and its capacity: s[:h:h] -/
theorem cutB_hm {P : Program} {t e : Nat} (ht : P.underlying t = some (.slice e)) (hz : ∀ w, (Go.sizeOf e).run P w = .ok 1 w) (A : Option Addr) (n cap : Nat) (b : List UInt8) (h : Nat) {hi mi : Int} (eh : hi = h) (em : mi = h) (en : b.length = n) (hn : n ≤ cap) (hh : h ≤ n) :
    ∃ A', (∀ W, (Instr.slice t (.slice A n cap) none (some (.int .i64 hi)) (some (.int .i64 mi))).run P W = .ok (.slice A' h h) W) ∧ (∀ w, Bs w A b → Bs w A' (b.take h)) := by
  subst eh em
  refine ⟨if h = 0 then A else A.map (·.add 0), fun W => ?_, fun w hb => ?_⟩
  · have ht' : P.underlying t = some (.slice (P.elem t)) := by simp [Program.elem, ht]
    have he : P.elem t = e := by simp [Program.elem, ht]
    rw [run_slice_hm W t _ _ _ ht' .i64 .i64 _ _ (by omega) (by omega) (by omega), he, hz]
    simp [Result.andThen, sliced]
  · subst en
    unfold Bs
    rw [bv_take]
    by_cases hc : h = 0
    · rw [if_pos hc]; exact Sl.take hb h
    · rw [if_neg hc]
      have := (Sl.add hb 0).take h
      simpa using this
/-- a reader, and what it still has to read -/
def RAt (w0 w : World) (R : Nat) (l : By) : Prop := w0.heap.size ≤ R ∧ Ext w0 w ∧ ∃ A cap, w.heap[R]? = some (.cells #[.slice A l.length cap] 118 (0, 0)) ∧ l.length ≤ cap ∧ Bs w0 A l
def fv (k : Nat) : Value := .iface 115 (.agg #[.int .i64 (k : Int)])
def Pan (k : Nat) (e : Ending) : Prop := e = .panicked [{ v := fv k, recovered := false }]
/-- what a reader tells -/
def Reads {α : Type} (p : Prs α) (l : By) (w0 w : World) (R : Nat) (V : α → World → Value → Prop) (e : Ending) (w' : World) : Prop :=
  match p l with
  | .inl k => Pan k e ∧ Kept [R] w w' ∧ Ext w0 w'
  | .inr (a, r) => (∃ v, e = .returned v ∧ V a w' v) ∧ RAt w0 w' R r ∧ Kept [R] w w'
theorem RAt.set {w0 w : World} {R : Nat} {l l' : By} {A : Option Addr} {n c : Nat} (h : RAt w0 w R l) (hb : Bs w0 A l') (hn : n = l'.length) (hc : l'.length ≤ c) :
    RAt w0 (w.setCell ⟨R, 0, none⟩ (.slice A n c)) R l' ∧ Kept [R] w (w.setCell ⟨R, 0, none⟩ (.slice A n c)) := by
  subst hn
  obtain ⟨h1, h2, A0, c0, h3, h4, h5⟩ := h
  have hk : Kept [R] w (w.setCell ⟨R, 0, none⟩ (.slice A l'.length c)) := (Kept.refl _ _).setCell (.inl (by simp)) _
  exact ⟨⟨h1, h2.setCell h1 _, A, c, by simpa using heap_setCell_same w R 0 _ _ (.slice A l'.length c) h3, hc, hb⟩, hk⟩
theorem RAt.ext {w0 w w' : World} {R : Nat} {l : By} (h : RAt w0 w R l) (hx : Ext w w') : RAt w0 w' R l := by
  obtain ⟨h1, h2, A0, c0, h3, h4, h5⟩ := h
  exact ⟨h1, h2.trans hx, A0, c0, hx.obj h3, h4, h5⟩
theorem RAt.kept {M : List Nat} {w0 w w' : World} {R : Nat} {l : By} (h : RAt w0 w R l) (hk : Kept M w w') (hR : R ∉ M) (hM : ∀ k ∈ M, w0.heap.size ≤ k) : RAt w0 w' R l := by
  obtain ⟨h1, h2, A0, c0, h3, h4, h5⟩ := h
  exact ⟨h1, h2.kept hk hM, A0, c0, hk.heap h3 hR, h4, h5⟩
theorem RAt.lt {w0 w : World} {R : Nat} {l : By} (h : RAt w0 w R l) : R < w.heap.size := obj_lt h.2.2.choose_spec.choose_spec.1
theorem RAt.e {w0 w : World} {R : Nat} {l : By} (h : RAt w0 w R l) : Ext w0 w := h.2.1
theorem RAt.one {w0 w : World} {R : Nat} {l : By} (h : RAt w0 w R l) : ∀ k ∈ [R], w0.heap.size ≤ k := one_ge h.1
def SlV (w0 : World) (a : By) (v : Value) : Prop := ∃ A c, v = .slice A a.length c ∧ Bs w0 A a
theorem rtake_any (w0 w : World) (R n : Nat) (l : By) (h : RAt w0 w R l) :
    Calls Try.prog 58 #[pt R, .int .i64 n] w (Reads (takeP n) l w0 w R fun a _ v => SlV w0 a v) := by
  have h' := Lib.hid h
  have hz := h.2.2
  obtain ⟨A, cap, hrow, hlc, hb⟩ := hz
  obtain ⟨C0, F0⟩ := row1_cell hrow
  have C0 := C0 _ (Ext.refl w)
  have F0 := F0 _ 0 (Ext.refl w)
  have HX := Lib.hid h.e
  clear h hrow
  unfold pt
  by_cases hn : l.length < n
  · have HP : Hid (takeP n l = .inl 3) := Lib.hid (by unfold takeP; rw [if_pos hn])
    have hn1 : (l.length : Int) < (n : Int) := by omega
    clear hn
    go_enter Try.func58, Try.ntmps58
    go_wp2
    unfold Reads
    rw [HP.out]
    exact ⟨rfl, rfl, Kept.refl _ _, HX.out⟩
  · have HP : Hid (takeP n l = .inr (l.take n, l.drop n)) := Lib.hid (by unfold takeP; rw [if_neg hn])
    have hn1 : ¬ (l.length : Int) < (n : Int) := by omega
    obtain ⟨A1, hs1, hb1⟩ := cutB_hm (P := Try.prog) Try.underlying32 Try.sizeOf5 A l.length cap l n (hi := n) (mi := n) rfl rfl rfl hlc (by omega)
    obtain ⟨A2, hs2, hb2⟩ := cutB_l (P := Try.prog) Try.underlying32 Try.sizeOf5 A l.length cap l n (li := n) rfl rfl hlc (by omega)
    have HN := Lib.hid hn
    have HB := Lib.hid hb
    clear hn hb
    go_enter Try.func58, Try.ntmps58
    go_wp2
    go_ret
    unfold Reads
    rw [HP.out]
    have hN := HN.out
    have e1 : (l.take n).length = n := by rw [List.length_take]; omega
    obtain ⟨k1, k2⟩ := h'.out.set (A := A2) (n := l.length - n) (c := cap - n) (hb2 _ HB.out) (by simp) (by simp; omega)
    exact ⟨⟨_, rfl, ⟨A1, n, by rw [e1]; rfl, hb1 _ HB.out⟩⟩, k1, k2⟩
def MustSays (ok : Bool) (e : Ending) : Prop := match ok with
  | true => e = .returned (.tuple #[])
  | false => Pan 4 e
theorem must_any (ok : Bool) (w : World) : Calls Try.prog 47 #[.bool ok] w fun e w' => MustSays ok e ∧ w = w' := by
  cases ok
  · go_enter Try.func47, Try.ntmps47
    go_wp2
    exact ⟨rfl, rfl, rfl⟩
  · go_enter Try.func47, Try.ntmps47
    go_wp2
    go_end0
    exact ⟨rfl, rfl⟩
theorem wrap64_nat (n : Nat) (h : n < 9223372036854775808) : IntKind.i64.wrap (n : Int) = (n : Int) := by
  have e : (n : Int) % 2 ^ 64 = n := Int.emod_eq_of_lt (by omega) (by omega)
  simp only [IntKind.wrap, IntKind.bits, IntKind.signed, e]
  rw [if_neg]
  simp
  omega
theorem or_byte (v : Nat) (c : UInt8) (hv : v < 16777216) : bits .or .i64 ((v : Int) * 256) (c.toNat : Int) = ((v * 256 + c.toNat : Nat) : Int) := by
  have h2 := c.toNat_lt
  have h : ((v : Int) * 256) = ((v * 256 : Nat) : Int) := rfl
  rw [h]
  show IntKind.i64.wrap ((BitVec.ofInt 64 ((v * 256 : Nat) : Int) ||| BitVec.ofInt 64 ((c.toNat : Nat) : Int)).toNat : Int) = _
  rw [BitVec.toNat_or, ofInt_u64 _ (by omega), ofInt_u64 _ (by omega), nat_join 8 _ _ (by omega) (by omega)]
  exact wrap64_nat _ (by omega)
theorem valB_take (l : By) (k : Nat) (hk : k < l.length) : valB (l.take (k + 1)) = valB (l.take k) * 256 + l[k].toNat := by
  unfold valB valF
  rw [List.take_succ_eq_append_getElem hk, List.foldl_append]; rfl
set_option maxHeartbeats 1000000 in
theorem rnum_any (w0 w : World) (R n : Nat) (l : By) (h : RAt w0 w R l) (hn : n ≤ 4) :
    Calls Try.prog 46 #[pt R, .int .i64 n] w (Reads (numP n) l w0 w R fun a _ v => v = .int .i64 (a : Nat)) := by
  have HT := rtake_any w0 w R n l h
  have HX := Lib.hid h.e
  by_cases hln : l.length < n
  · have HP : Hid (numP n l = .inl 3) := Lib.hid (by unfold numP; rw [if_pos hln])
    have HP2 : takeP n l = .inl 3 := by unfold takeP; rw [if_pos hln]
    unfold Reads at HT
    rw [HP2] at HT
    clear hln HP2 h
    unfold pt at *
    go_enter Try.func46, Try.ntmps46
    go_wp2_with fail
    refine HT.mono ?_
    rintro e w1 ⟨he, hk, hx⟩
    unfold Pan fv at he
    subst he
    go_wp2
    unfold Reads
    rw [HP.out]
    exact ⟨rfl, rfl, hk, hx⟩
  · have HP : Hid (numP n l = .inr (valB (l.take n), l.drop n)) := Lib.hid (by unfold numP; rw [if_neg hln])
    have HP2 : takeP n l = .inr (l.take n, l.drop n) := by unfold takeP; rw [if_neg hln]
    have HA : (l.take n).length = n := by rw [List.length_take]; omega
    unfold Reads at HT
    rw [HP2] at HT
    generalize l.take n = a at *
    clear hln HP2 h
    unfold pt at *
    go_enter Try.func46, Try.ntmps46
    go_wp2_with fail
    refine HT.mono ?_
    rintro e w1 ⟨⟨v, rfl, A, c, rfl, hb⟩, hr, hk⟩
    have hb1 := hb.ext hr.e
    have HR := Lib.hid hr
    clear hb hr HT
    subst HA
    go_wp2
    go_loop [5, 12] (fun v i => ∃ k : Nat, k ≤ a.length ∧ i = .int .i64 k ∧ v = .int .i64 (valB (a.take k) : Nat)) (fun _ i => a.length - (intOf i).toNat)
    case atStart => exact ⟨0, by omega, rfl, rfl⟩
    case round =>
      obtain ⟨k, hk, rfl, rfl⟩ := hrel
      by_cases hlt : k < a.length
      · obtain ⟨ad, rfl, hc⟩ := Sl.now hb1 (bv_get hlt)
        have hlt2 := valB_lt (a.take k)
        rw [List.length_take, Nat.min_eq_left hk] at hlt2
        have hv : valB (a.take k) < 16777216 := Nat.lt_of_lt_of_le hlt2 (Nat.pow_le_pow_right (n := 256) (by omega) (show k ≤ 3 by omega))
        have hs := Lib.hid (or_byte (valB (a.take k)) a[k] hv)
        have h2 := a[k].toNat_lt
        clear hlt2
        go_wp2
        go_round
        case rel => exact ⟨k + 1, by omega, by go_num, by rw [valB_take _ _ hlt, ← hs.out]⟩
        case measure => simp [intOf]; omega
      · go_wp2
        go_ret
        unfold Reads
        rw [HP.out]
        exact ⟨⟨_, rfl, by rw [List.take_of_length_le (by omega)]; rfl⟩, HR.out, by assumption⟩
set_option maxHeartbeats 1000000 in
theorem rshort_any (w0 w : World) (R : Nat) (l : By) (h : RAt w0 w R l) :
    Calls Try.prog 59 #[pt R] w (Reads shortP l w0 w R fun a _ v => v = .string (st a)) := by
  have HN := rnum_any w0 w R 1 l h (by omega)
  cases hp : numP 1 l with
  | inl k =>
    have HP : Hid (shortP l = .inl k) := Lib.hid (by unfold shortP andP; rw [hp])
    unfold Reads at HN; simp only [hp] at HN
    clear hp h
    unfold pt at *
    go_enter Try.func59, Try.ntmps59
    go_wp2_with fail
    refine HN.mono ?_
    rintro e w1 ⟨he, hk, hx⟩
    unfold Pan fv at he
    subst he
    go_wp2
    unfold Reads
    rw [HP.out]
    exact ⟨rfl, rfl, hk, hx⟩
  | inr q =>
    obtain ⟨n, r1⟩ := q
    unfold Reads at HN; simp only [hp] at HN
    have HT := fun w1 (h1 : RAt w0 w1 R r1) => rtake_any w0 w1 R n r1 h1
    cases hp2 : takeP n r1 with
    | inl k =>
      have HP : Hid (shortP l = .inl k) := Lib.hid (by unfold shortP andP; rw [hp]; exact hp2)
      clear hp h
      unfold Reads at HT; simp only [hp2] at HT
      clear hp2
      unfold pt at *
      go_enter Try.func59, Try.ntmps59
      go_wp2_with fail
      refine HN.mono ?_
      rintro e w1 ⟨⟨v, rfl, rfl⟩, hr, hk⟩
      have HT := HT w1 hr
      clear hr
      go_wp2_with fail
      refine HT.mono ?_
      rintro e w2 ⟨he, hk2, hx2⟩
      unfold Pan fv at he
      subst he
      have hk3 := hk.trans hk2
      clear hk hk2 HT HN
      go_wp2
      unfold Reads
      rw [HP.out]
      exact ⟨rfl, rfl, hk3, hx2⟩
    | inr q =>
      obtain ⟨a, r2⟩ := q
      have HP : Hid (shortP l = .inr (a, r2)) := Lib.hid (by unfold shortP andP; rw [hp]; exact hp2)
      unfold Reads at HT; simp only [hp2] at HT
      clear hp2 hp h
      unfold pt at *
      go_enter Try.func59, Try.ntmps59
      go_wp2_with fail
      refine HN.mono ?_
      rintro e w1 ⟨⟨v, rfl, rfl⟩, hr, hk⟩
      have HT := HT w1 hr
      clear hr
      go_wp2_with fail
      refine HT.mono ?_
      rintro e w2 ⟨⟨v, rfl, A, c, rfl, hb⟩, hr, hk2⟩
      have hcv := run_str (P := Try.prog) Try.underlying32 Try.underlying5 Try.underlying9 hb a.length c rfl w2 hr.e
      have hk3 := hk.trans hk2
      have HR := Lib.hid hr
      clear hk hk2 HT HN hb hr
      go_wp2
      go_ret
      unfold Reads
      rw [HP.out]
      exact ⟨⟨_, rfl, rfl⟩, HR.out, hk3⟩
set_option maxHeartbeats 1000000 in
theorem rlong_any (w0 w : World) (R : Nat) (l : By) (h : RAt w0 w R l) (hl : l.length ≤ 140737488355328) :
    Calls Try.prog 60 #[pt R] w (Reads longP l w0 w R fun a w' v => Own w' w.heap.size v a) := by
  have HN := rnum_any w0 w R 2 l h (by omega)
  cases hp : numP 2 l with
  | inl k =>
    have HP : Hid (longP l = .inl k) := Lib.hid (by unfold longP andP; rw [hp])
    unfold Reads at HN; simp only [hp] at HN
    clear hp h
    unfold pt at *
    go_enter Try.func60, Try.ntmps60
    go_wp2_with fail
    refine HN.mono ?_
    rintro e w1 ⟨he, hk, hx⟩
    unfold Pan fv at he
    subst he
    go_wp2
    unfold Reads
    rw [HP.out]
    exact ⟨rfl, rfl, hk, hx⟩
  | inr q =>
    obtain ⟨n, r1⟩ := q
    unfold Reads at HN; simp only [hp] at HN
    have HT := fun w1 (h1 : RAt w0 w1 R r1) => rtake_any w0 w1 R n r1 h1
    cases hp2 : takeP n r1 with
    | inl k =>
      have HP : Hid (longP l = .inl k) := Lib.hid (by unfold longP andP; rw [hp]; exact hp2)
      clear hp h
      unfold Reads at HT; simp only [hp2] at HT
      clear hp2
      unfold pt at *
      go_enter Try.func60, Try.ntmps60
      go_wp2_with fail
      refine HN.mono ?_
      rintro e w1 ⟨⟨v, rfl, rfl⟩, hr, hk⟩
      have HT := HT w1 hr
      clear hr
      go_wp2_with fail
      refine HT.mono ?_
      rintro e w2 ⟨he, hk2, hx2⟩
      unfold Pan fv at he
      subst he
      have hk3 := hk.trans hk2
      clear hk hk2 HT HN
      go_wp2
      unfold Reads
      rw [HP.out]
      exact ⟨rfl, rfl, hk3, hx2⟩
    | inr q =>
      obtain ⟨a, r2⟩ := q
      have HP : Hid (longP l = .inr (a, r2)) := Lib.hid (by unfold longP andP; rw [hp]; exact hp2)
      unfold Reads at HT; simp only [hp2] at HT
      have ha : a.length ≤ 140737488355328 := by
        have h1 := ((Rt.num 2).got _ _ _ hp).1
        have h2 := (takeP_got hp2).1
        have h1 := congrArg List.length h1
        have h2 := congrArg List.length h2
        simp only [List.length_append] at h1 h2
        omega
      have HA := Lib.hid ha
      clear hp2 hp h ha
      unfold pt at *
      go_enter Try.func60, Try.ntmps60
      go_wp2_with fail
      refine HN.mono ?_
      rintro e w1 ⟨⟨v, rfl, rfl⟩, hr, hk⟩
      have HT := HT w1 hr
      clear hr
      go_wp2_with fail
      refine HT.mono ?_
      rintro e w2 ⟨⟨v, rfl, A, c, rfl, hb⟩, hr, hk2⟩
      have HC := clone_any A c a.length a w2 (hb.ext hr.e) HA.out rfl
      have hk3 := hk.trans hk2
      have HR := Lib.hid hr
      clear hk hk2 HT HN hb hr
      go_wp2_with fail
      refine HC.mono ?_
      rintro e w3 ⟨v, rfl, ho, hx⟩
      go_wp2
      go_ret
      unfold Reads
      rw [HP.out]
      exact ⟨⟨_, rfl, ho.low hk3.size⟩, HR.out.ext hx, hk3.ext hx⟩
theorem le_num {n a : Nat} {l r : By} (h : numP n l = .inr (a, r)) : r.length ≤ l.length := by
  have := congrArg List.length ((Rt.num n).got _ _ _ h).1
  simp only [List.length_append] at this
  omega
theorem le_short {a l r : By} (h : shortP l = .inr (a, r)) : r.length ≤ l.length := by
  have := congrArg List.length (Rt.short.got _ _ _ h).1
  simp only [List.length_append] at this
  omega
theorem le_long {a l r : By} (h : longP l = .inr (a, r)) : r.length ≤ l.length := by
  have := congrArg List.length (Rt.long.got _ _ _ h).1
  simp only [List.length_append] at this
  omega
theorem Kept.grown1 {g : Nat} {w w' : World} (h : Kept [g] w w') : w.grownBy w' (some g) :=
  ⟨h.os, h.tape, h.output, h.size, fun i hi hne => h.block i hi (by simp; exact fun e => hne (by rw [e]))⟩
theorem Own.off {w w' : World} {base g : Nat} {v : Value} {l : By} {cs : Array Value} {t : TypeId} {fr : Nat × Nat} (h : Own w base v l) (hp : w.heap[g]? = some (.cells cs t fr)) (hne : 5 ≠ t) (hk : Kept [g] w w') : Own w' base v l :=
  h.kept hk.grown1 (owns_obj h hp hne)
theorem u8_of (f : Nat) : ((f : Int) % 256) = ((UInt8.ofNat f).toNat : Int) := by simp
end Go.Proofs.Ythlppbbejdeeoaa
