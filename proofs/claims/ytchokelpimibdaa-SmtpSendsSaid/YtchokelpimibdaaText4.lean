/- The walks of text.NumberText and text.Number. Conditions: the lengths named in each theorem. -/
import Derived.Test.YtchokelpimibdaaText1
import Derived.Deep.QuietTactic
import Derived.BigQuiet
namespace Go.Proofs.Ytchokelpimibdaa
open Go.RowKit
def digB (n : Nat) : UInt8 := UInt8.ofNat (48 + n % 10)
theorem digB_val (n : Nat) : ((digB n).toNat : Int) = 48 + (n : Int) % 10 := by
  unfold digB
  rw [UInt8.toNat_ofNat']
  omega
/-- the digits of a number but 0, from the back: as many as there are -/
def dec0 : Nat → Nat → List UInt8
  | 0, _ => []
  | f + 1, n => if n = 0 then [] else dec0 f (n / 10) ++ [digB n]
def decL (n : Nat) : List UInt8 := dec0 20 (n / 10) ++ [digB n]
theorem dec0_fuel : ∀ (f g n : Nat), n < 10 ^ f → n < 10 ^ g → dec0 f n = dec0 g n := by
  intro f
  induction f with
  | zero =>
    intro g n h _
    have : n = 0 := by simpa using h
    subst this
    cases g <;> simp [dec0]
  | succ f ih =>
    intro g n h1 h2
    cases g with
    | zero =>
      have : n = 0 := by simpa using h2
      subst this
      simp [dec0]
    | succ g =>
      simp only [dec0]
      split
      · rfl
      · rw [ih g (n / 10) (by rw [Nat.pow_succ] at h1; omega) (by rw [Nat.pow_succ] at h2; omega)]
theorem dec0_step (n : Nat) (h : n ≠ 0) (hn : n < 10 ^ 20) : dec0 20 n = dec0 20 (n / 10) ++ [digB n] := by
  have e : dec0 20 n = dec0 21 n := dec0_fuel 20 21 n hn (by omega)
  rw [e]
  simp [dec0, h]
theorem dec0_len : ∀ (f n : Nat), (dec0 f n).length ≤ f := by
  intro f
  induction f with
  | zero => intro n; simp [dec0]
  | succ f ih =>
    intro n
    simp only [dec0]
    split
    · simp
    · have := ih (n / 10); simp; omega
theorem decL_len (n : Nat) : (decL n).length ≤ 21 := by unfold decL; have := dec0_len 20 (n / 10); simp; omega
def numE (n : Int) : Int := if 0 ≤ n ∧ n ≤ 4294967295 then 0 else 6
def numT (n : Int) : List UInt8 := if 0 ≤ n ∧ n ≤ 4294967295 then decL n.toNat else []
/-- what NumberText tells -/
def NTSays (n : Int) (w : World) (e : Ending) (w' : World) : Prop := e = .returned (.tuple #[.string (st (numT n)), .int .i64 (numE n)]) ∧ Ext w w'
theorem NTSays.no {n : Int} {w w' : World} (h : ¬ (0 ≤ n ∧ n ≤ 4294967295)) (hx : Ext w w') : NTSays n w (.returned (.tuple #[.string ⟨#[]⟩, .int .i64 6])) w' := by
  unfold NTSays numT numE
  rw [if_neg h, if_neg h]
  exact ⟨rfl, hx⟩
theorem NTSays.yes {n : Nat} {w w' : World} {l : List UInt8} (h : n ≤ 4294967295) (hl : l = decL n) (hx : Ext w w') : NTSays n w (.returned (.tuple #[.string (st l), .int .i64 0])) w' := by
  unfold NTSays numT numE
  rw [if_pos ⟨by omega, by omega⟩, if_pos ⟨by omega, by omega⟩, hl]
  exact ⟨rfl, hx⟩
theorem bytesT0 : ElemOf Try.prog 22 5 1 1 := ElemOf.mk' (z := .int .u8 0) Try.underlying22 (by kernel_rfl) rfl (by omega)
def digit (c : UInt8) : Bool := decide (48 ≤ c.toNat ∧ c.toNat ≤ 57)
def badAt (l : List UInt8) (k : Nat) : Bool := !((l[k]?.map digit).getD false) || (decide (0 < k) && l[0]? == some 48)
def stepV (n : Nat) (c : UInt8) : Nat := min (n * 10 + (c.toNat - 48)) 4294967296
def satV (l : List UInt8) : Nat := l.foldl stepV 0
def firstBad (l : List UInt8) : Option Nat := (List.range l.length).find? (badAt l)
def numberL (l : List UInt8) : Int × Int × Int :=
  if l = [] then (0, 0, 3) else match firstBad l with
    | some k => (0, k, 4)
    | none => if 4294967295 < satV l then (0, 0, 6) else (satV l, 0, 0)
def NSays (l : List UInt8) (w : World) (e : Ending) (w' : World) : Prop := e = .returned (.tuple #[.int .i64 (numberL l).1, .int .i64 (numberL l).2.1, .int .i64 (numberL l).2.2]) ∧ Ext w w'
theorem NSays.empty {w w' : World} (hx : Ext w w') : NSays [] w (.returned (.tuple #[.int .i64 0, .int .i64 0, .int .i64 3])) w' := ⟨rfl, hx⟩
theorem firstBad_at {l : List UInt8} {k : Nat} (hk : k < l.length) (hn : ∀ j, j < k → badAt l j = false) (hb : badAt l k = true) : firstBad l = some k := by
  unfold firstBad
  rw [List.find?_range_eq_some]
  exact ⟨hb, by simpa using hk, fun j hj => by simp [hn j hj]⟩
theorem firstBad_none {l : List UInt8} (hn : ∀ j, j < l.length → badAt l j = false) : firstBad l = none := by
  unfold firstBad
  rw [List.find?_eq_none]
  intro j hj
  simp [hn j (by simpa using hj)]
theorem NSays.bad {l : List UInt8} {k : Nat} {w w' : World} (hk : k < l.length) (hn : ∀ j, j < k → badAt l j = false) (hb : badAt l k = true) (hx : Ext w w') : NSays l w (.returned (.tuple #[.int .i64 0, .int .i64 k, .int .i64 4])) w' := by
  unfold NSays numberL
  rw [if_neg (by intro e; rw [e] at hk; simp at hk), firstBad_at hk hn hb]
  exact ⟨rfl, hx⟩
theorem NSays.big {l : List UInt8} {w w' : World} (h0 : l ≠ []) (hn : ∀ j, j < l.length → badAt l j = false) (hv : 4294967295 < satV l) (hx : Ext w w') : NSays l w (.returned (.tuple #[.int .i64 0, .int .i64 0, .int .i64 6])) w' := by
  unfold NSays numberL
  rw [if_neg h0, firstBad_none hn]
  simp only [if_pos hv]
  exact ⟨trivial, hx⟩
theorem NSays.good {l : List UInt8} {w w' : World} {v : Nat} (h0 : l ≠ []) (hn : ∀ j, j < l.length → badAt l j = false) (hv : v = satV l) (hv2 : v ≤ 4294967295) (hx : Ext w w') : NSays l w (.returned (.tuple #[.int .i64 v, .int .i64 0, .int .i64 0])) w' := by
  unfold NSays numberL
  rw [if_neg h0, firstBad_none hn]
  simp only [if_neg (show ¬ 4294967295 < satV l by omega)]
  rw [hv]
  exact ⟨rfl, hx⟩
theorem satV_take {l : List UInt8} {k : Nat} {c : UInt8} (h : l[k]? = some c) : satV (l.take (k + 1)) = stepV (satV (l.take k)) c := by
  unfold satV
  rw [List.take_add_one, h]
  simp
theorem satV_le (l : List UInt8) : satV l ≤ 4294967296 := by
  unfold satV
  rcases List.eq_nil_or_concat l with h | ⟨r, c, h⟩
  · rw [h]; simp
  · rw [h, List.concat_eq_append, List.foldl_append]
    simp only [List.foldl_cons, List.foldl_nil, stepV]
    omega
end Go.Proofs.Ytchokelpimibdaa
