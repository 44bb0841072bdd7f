/- The walk of text.Quote. Condition: the length named in the theorem. -/
import Derived.Test.YtchokelpimibdaaText6
import Derived.Lib.QuoteLoop
namespace Go.Proofs.Ytchokelpimibdaa
open Go.RowKit
theorem Ext.grown0 {w w' : World} (h : Ext w w') : w.grownBy w' none := ⟨h.os, h.tape, h.output, h.size, fun k hk _ => h.block k hk⟩
def bcs (l : List UInt8) : List Value := Lib.byteCells l
theorem bcs_app (a b : List UInt8) : bcs (a ++ b) = bcs a ++ bcs b := by simp [bcs, Lib.byteCells]
theorem bcs_len (a : List UInt8) : (bcs a).length = a.length := Lib.byteCells_length a
theorem bcs_rune (r : Int) : bcs (Lib.encodeRune r) = Lib.runeCells r := Lib.byteCells_encodeRune r
theorem bcs_one (c : UInt8) : bcs [c] = [.int .u8 (c.toNat : Int)] := rfl
def runE (r : Nat) : List UInt8 := Lib.encodeRune (r : Int)
theorem runE_len (r : Nat) : (runE r).length ≤ 4 := by
  have := (Lib.runeCells_le (r : Int)).2
  rw [Lib.runeCells_length] at this
  exact this
def escL (r : Nat) : List UInt8 := if r = 34 ∨ r = 92 then 92 :: runE r else runE r
theorem escL_len (r : Nat) : (escL r).length ≤ 5 := by
  have := runE_len r
  unfold escL
  split
  · simp; omega
  · omega
def outL (ds : List (Nat × List UInt8)) : List UInt8 := ds.flatMap fun d => escL d.1
theorem outL_snoc (ds : List (Nat × List UInt8)) (d : Nat × List UInt8) : outL (ds ++ [d]) = outL ds ++ escL d.1 := by simp [outL]
theorem outL_len : ∀ ds, (outL ds).length ≤ 5 * ds.length := by
  intro ds
  induction ds with
  | nil => simp [outL]
  | cons d ds ih =>
    have := escL_len d.1
    unfold outL at *
    simp only [List.flatMap_cons, List.length_append, List.length_cons]
    omega
def plnL (d : Nat × List UInt8) : Bool := plainB (d.1 : Int) (d.2.length : Nat)
def quoteT (l : List UInt8) : List UInt8 × Nat × Nat :=
  if 1024 < l.length then ([], 0, 6) else match (letL l).findIdx? (fun d => !plnL d) with
    | some k => ([], k, 4)
    | none => (34 :: outL (letL l) ++ [34], 0, 0)
def QSays (l : List UInt8) (w : World) (e : Ending) (w' : World) : Prop := e = .returned (.tuple #[.string (st (quoteT l).1), .int .i64 ((quoteT l).2.1 : Nat), .int .i64 ((quoteT l).2.2 : Nat)]) ∧ Ext w w'
theorem QSays.long {l : List UInt8} {w w' : World} (h : 1024 < l.length) (hx : Ext w w') : QSays l w (.returned (.tuple #[.string ⟨#[]⟩, .int .i64 0, .int .i64 6])) w' := by
  unfold QSays quoteT
  rw [if_pos h]
  exact ⟨rfl, hx⟩
theorem QSays.bad {l : List UInt8} {w w' : World} {ds rest : List (Nat × List UInt8)} {d : Nat × List UInt8} (h : l.length ≤ 1024) (he : letL l = ds ++ d :: rest) (hd : ∀ d ∈ ds, plnL d = true) (hb : plnL d = false) (hx : Ext w w') : QSays l w (.returned (.tuple #[.string ⟨#[]⟩, .int .i64 (ds.length : Nat), .int .i64 4])) w' := by
  have e : (letL l).findIdx? (fun d => !plnL d) = some ds.length := by
    rw [he, List.findIdx?_append]
    have e0 : ds.findIdx? (fun d => !plnL d) = none := by
      rw [List.findIdx?_eq_none_iff]
      intro x hx
      rw [hd x hx]; rfl
    rw [e0]
    simp [List.findIdx?_cons, hb]
  unfold QSays quoteT
  rw [if_neg (by omega), e]
  exact ⟨rfl, hx⟩
theorem QSays.ok {l : List UInt8} {w w' : World} (h : l.length ≤ 1024) (hd : ∀ d ∈ letL l, plnL d = true) (hx : Ext w w') : QSays l w (.returned (.tuple #[.string (st (34 :: outL (letL l) ++ [34])), .int .i64 0, .int .i64 0])) w' := by
  have e0 : (letL l).findIdx? (fun d => !plnL d) = none := by
    rw [List.findIdx?_eq_none_iff]
    intro x hx
    rw [hd x hx]; rfl
  unfold QSays quoteT
  rw [if_neg (by omega), e0]
  exact ⟨rfl, hx⟩
/-- where a range over a string stands: what it has seen, and what is yet to come -/
structure At (l : List UInt8) (pos : Nat) (ds : List (Nat × List UInt8)) : Prop where
  le : pos ≤ l.length
  num : ds.length ≤ pos
  split : letL l = ds ++ letL (l.drop pos)
theorem At.zero (l : List UInt8) : At l 0 [] := ⟨by omega, by simp, by simp⟩
theorem At.here {s : ByteArray} {pos : Nat} {ds : List (Nat × List UInt8)} (h : At (tl s) pos ds) (hp : pos < s.size) :
    ∃ b, b.length = (Utf8.decode s pos).2 ∧ letL (tl s) = ds ++ ((Utf8.decode s pos).1, b) :: letL ((tl s).drop (pos + (Utf8.decode s pos).2)) ∧ At (tl s) (pos + (Utf8.decode s pos).2) (ds ++ [((Utf8.decode s pos).1, b)]) := by
  have h1 := dec_pos s pos hp
  have h2 := dec_le s pos hp
  have hne : (tl s).drop pos ≠ [] := by
    intro e
    have := congrArg List.length e
    simp at this
    omega
  have hs := letL_step _ hne
  rw [← dec_at s pos, List.drop_drop] at hs
  refine ⟨((tl s).drop pos).take (Utf8.decode s pos).2, by simp; omega, by rw [h.split, hs], ⟨by simp; omega, by have := h.num; simp; omega, ?_⟩⟩
  rw [h.split, hs]
  simp
theorem At.done {s : ByteArray} {pos : Nat} {ds : List (Nat × List UInt8)} (h : At (tl s) pos ds) (hp : ¬ pos < s.size) : letL (tl s) = ds := by
  have e : (tl s).drop pos = [] := List.drop_eq_nil_of_le (by simp; omega)
  rw [h.split, e, letL_nil, List.append_nil]
theorem dec_bound (s : ByteArray) (k : Nat) : (Utf8.decode s k).1 ≤ 1114111 := by
  have h := Lib.decodeN_valid (s.size - k) (s.get! k).toNat (s.get! (k + 1)).toNat (s.get! (k + 2)).toNat (s.get! (k + 3)).toNat (UInt8.toNat_lt _)
  rw [← Lib.decode_at] at h
  omega
end Go.Proofs.Ytchokelpimibdaa
