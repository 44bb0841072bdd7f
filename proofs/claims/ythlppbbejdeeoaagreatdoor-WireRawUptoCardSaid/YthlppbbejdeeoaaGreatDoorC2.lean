/- The walks of strings.Builder's copyCheck, WriteByte, WriteRune, and of String by the shelf's contract, at a builder that the call has made. Conditions: the builder lies there, and its bytes are few enough. The walk of text.Quote. Condition: the length named in the theorem. Deeds and users as lists; their bytes; what is wrong with them; and that what is put is taken. No program. Conditions: the hypotheses of each theorem. -/
import Derived.Test.YthlppbbejdeeoaaGreatDoorC1
import Derived.Test.YthlppbbejdeeoaaGreatDoorShelf
import Derived.Lib.Builder
import Derived.Lib.FrozenHead
import Derived.Lib.RuneBytes
import Derived.Shelf.Strings.Builder1
import Derived.Lib.QuoteLoop
import Derived.Test.YthlppbbejdeeoaaGreatDoorC0
namespace Go.Proofs.YthlppbbejdeeoaaGreatDoor
open Go.RowKit
theorem sb_info : (Tryz.prog.info? 148).map (·.size) = some 2 := by kernel_rfl
theorem sb_lies : liesAt Tryz.prog Tryz.prog.depth 148 (2 / Tryz.prog.cellsOf 148) 0 148 1 = true := by kernel_rfl
theorem u8_info : (Tryz.prog.info? 5).map (fun i => (i.zero, i.size, i.bytes)) = some (some (.int .u8 0), 1, 1) := by kernel_rfl
set_option maxRecDepth 20000 in
theorem sbcheck_used (b : Nat) (w : World) (h0 : w.cell? ⟨b, 0, none⟩ = some (.pointer (some ⟨b, 0, none⟩))) :
 Calls Tryz.prog 113 #[.pointer (some ⟨b, 0, none⟩)] w fun e w' => e = .returned (.tuple #[]) ∧ w' = w := by
 obtain ⟨j, hj, _⟩ := Option.map_eq_some_iff.1 sb_info
 go_enter Tryz.func113, Tryz.ntmps113
 go_wp2
 rw [Lib.run_neq_ptr_same w _ Tryz.underlying146 hj]
 go_wp2
 go_end0
 exact ⟨rfl, rfl⟩
set_option maxRecDepth 20000 in
theorem sbcheck_fresh (b : Nat) (w : World) (h0 : w.cell? ⟨b, 0, none⟩ = some (.pointer none)) (hsh : w.shape? b = some (148, 2)) (hfz : w.frozen? ⟨b, 0, none⟩ = false) :
 Calls Tryz.prog 113 #[.pointer (some ⟨b, 0, none⟩)] w fun e w' => e = .returned (.tuple #[]) ∧ w' = w.setCell ⟨b, 0, none⟩ (.pointer (some ⟨b, 0, none⟩)) := by
 obtain ⟨j, hj, hjs⟩ := Option.map_eq_some_iff.1 sb_info
 go_enter Tryz.func113, Tryz.ntmps113
 go_wp2
 rw [Lib.run_to_unsafe w ⟨b, 0, none⟩ Tryz.underlying146 Tryz.underlying166 hj (by rw [hjs]; decide) hsh (Nat.zero_lt_succ 1)]
 simp only [Result.andThen]
 rw [Oper.upon_value]
 go_wp2
 rw [run_callFunc_extern Tryz.func119 (by kernel_rfl) (by kernel_rfl) (by kernel_rfl) (e := Extern.AbiNoEscape.same) (by kernel_rfl)]
 rw [Lib.run_noEscape]
 simp only [Result.andThen]
 rw [Oper.upon_value]
 go_wp2
 rw [Lib.run_from_unsafe w ⟨b, 0, none⟩ Tryz.underlying166 Tryz.underlying146 hj hsh sb_lies]
 simp only [Result.andThen]
 rw [Oper.upon_value]
 go_wp2
 go_end0
 exact ⟨rfl, rfl⟩
theorem sbcheck_any (B b : Nat) (bs : List Value) (w : World) (h : Lib.IsBuilderF 148 5 B b bs w) :
 Calls Tryz.prog 113 #[.pointer (some ⟨b, 0, none⟩)] w fun e w' => e = .returned (.tuple #[]) ∧ (Lib.BuilderAtF 148 5 B b (.pointer (some ⟨b, 0, none⟩)) bs w' ∧ Below B w w' ∧ Lib.OthersKept 5 (some b) w w') := by
 rcases h with h | h
 ·refine (sbcheck_fresh b w h.cell0 h.shape h.frozen0).mono ?_
  rintro e w' ⟨rfl, rfl⟩
  exact ⟨rfl, h.used _, (Below.refl B w).setCell (p := ⟨b, 0, none⟩) h.1 _, (Lib.OthersKept.refl _ _ w).setCell ⟨b, 0, none⟩ rfl _⟩
 ·refine (sbcheck_used b w h.cell0).mono ?_
  rintro e w' ⟨rfl, rfl⟩
  exact ⟨rfl, h, Below.refl B _, Lib.OthersKept.refl _ _ _⟩
set_option maxHeartbeats 800000 in
theorem sbbyte_any (B b : Nat) (bs : List Value) (c : Int) (w : World) (h : Lib.IsBuilderF 148 5 B b bs w) (hlen : bs.length + 1 ≤ 140737488355328) (hBw : B ≤ w.heap.size) :
 Calls Tryz.prog 103 #[.pointer (some ⟨b, 0, none⟩), .int .u8 c] w fun e w' => e = .returned .nilIface ∧ (Lib.IsBuilderF 148 5 B b (bs ++ [.int .u8 c]) w' ∧ Below B w w' ∧ Lib.OthersKept 5 (some b) w w') := by
 obtain ⟨i0, hi, hz0, hz1, hz2⟩ := info_parts u8_info
 have e240 : ∀ args w, (callFunc 113 args).run Tryz.prog w = .ok (.enter 113 args) w := enters_of Tryz.func113 (by kernel_rfl) rfl
 go_enter Tryz.func103, Tryz.ntmps103
 go_wp2_with (go_at_fn 113; refine (sbcheck_any B b bs _ h).mono ?_)
 rintro e w1 ⟨rfl, h1, hb1, hk1⟩
 obtain ⟨hB, v, hbk, hown, hne⟩ := h1
 have c0 : w1.cell? ⟨b, 0, none⟩ = some (.pointer (some ⟨b, 0, none⟩)) := by rw [Lib.cell_of_heap hbk]; rfl
 have c1 : w1.cell? ⟨b, 1, none⟩ = some v := by rw [Lib.cell_of_heap hbk]; rfl
 go_wp2_with (at_builtin; refine wpList_append_ownF _ rfl _ _ 22 rfl B 5 i0 (.int .u8 0) 1 1 Tryz.underlying22 hi hz0 hz1 hz2 rfl (by decide) _ _ _ rfl (hown.alloc _) ⟨w1.heap.size, 0, none⟩ 1 1 [.int .u8 c] rfl rfl ?c1 ?c2 ?c3 ?c4 ?c5 ?_)
 case c1 =>
  intro j u hj
  match j, hj with
  | 0, hj => simp at hj; subst hj; simp [Addr.add]
 case c2 => intro u hu; simp at hu; subst hu; rfl
 case c3 => unfold maxLen; omega
 case c4 => omega
 case c5 => have := hb1.size; simp; omega
 intro v' w2 hown' hgrow _
 have hlt : b < w1.heap.size := obj_lt hbk
 have hb2 : w2.heap[b]? = some (.cells #[.pointer (some ⟨b, 0, none⟩), v] 148 (0, 0)) := by
  rw [hgrow.block b (by simp; omega) (fun e => hne e.symm), Lib.alloc_old w1 _ b hlt]
  exact hbk
 have d0 : w2.cell? ⟨b, 0, none⟩ = some (.pointer (some ⟨b, 0, none⟩)) := by rw [Lib.cell_of_heap hb2]; rfl
 have d1 : w2.cell? ⟨b, 1, none⟩ = some v := by rw [Lib.cell_of_heap hb2]; rfl
 have f1 : w2.frozen? ⟨b, 1, none⟩ = false := Lib.frozen_of_heap hb2 1
 obtain ⟨g, cap, rfl⟩ : ∃ g cap, v' = .slice (some ⟨g, 0, none⟩) (bs.length + 1) cap := by
  rcases hown'.2 with ⟨_, h0⟩ | ⟨g, cap, cur, fz, hv, _⟩
  ·omega
  ·exact ⟨g, cap, hv⟩
 go_wp2
 go_ret
 refine ⟨rfl, .inr ?_, ?_, ((hk1.alloc _).grown hgrow (Lib.ownsRowF_kind (hown.alloc _))).setCell ⟨b, 1, none⟩ rfl _⟩
 ·exact Lib.BuilderAtF.put (T := 148) (e := 5) hB hb2 (bs' := bs ++ [.int .u8 c]) (by simpa using hown') (by decide)
 ·exact ((hb1.alloc (by have := hb1.size; omega) _).grown hgrow (by have := hb1.size; simp; omega) (fun k hk => (hown.lt k hk).1)).setCell (p := ⟨b, 1, none⟩) hB _
set_option maxHeartbeats 800000 in
theorem sbrune_any (B b : Nat) (bs : List Value) (r : Int) (hr0 : -2147483648 ≤ r) (hr1 : r ≤ 2147483647) (w : World) (h : Lib.IsBuilderF 148 5 B b bs w) (hlen : bs.length + 4 ≤ 140737488355328) (hBw : B ≤ w.heap.size) :
 Calls Tryz.prog 106 #[.pointer (some ⟨b, 0, none⟩), .int .i32 r] w fun e w' => e = .returned (.tuple #[.int .i64 (Lib.runeCells r).length, .nilIface]) ∧ (Lib.IsBuilderF 148 5 B b (bs ++ Lib.runeCells r) w' ∧ Below B w w' ∧ Lib.OthersKept 5 (some b) w w') := by
 have e240 : ∀ args w, (callFunc 113 args).run Tryz.prog w = .ok (.enter 113 args) w := enters_of Tryz.func113 (by kernel_rfl) rfl
 have e242 : ∀ args w, (callFunc 114 args).run Tryz.prog w = .ok (.enter 114 args) w := enters_of Tryz.func114 (by kernel_rfl) rfl
 have hk4 := Lib.runeCells_le r
 go_enter Tryz.func106, Tryz.ntmps106
 go_wp2_with (go_at_fn 113; refine (sbcheck_any B b bs _ h).mono ?_)
 rintro e w1 ⟨rfl, h1, hb1, hk1⟩
 obtain ⟨hB, v, hbk, hown, hne⟩ := h1
 obtain ⟨ao, cap, rfl⟩ : ∃ ao cap, v = .slice ao bs.length cap := by
  rcases hown.2 with ⟨hv, h0⟩ | ⟨g, cap, cur, fz, hv, _⟩
  ·exact ⟨none, 0, by rw [hv, h0]⟩
  ·exact ⟨_, _, hv⟩
 have c0 : w1.cell? ⟨b, 0, none⟩ = some (.pointer (some ⟨b, 0, none⟩)) := by rw [Lib.cell_of_heap hbk]; rfl
 have c1 : w1.cell? ⟨b, 1, none⟩ = some (.slice ao bs.length cap) := by rw [Lib.cell_of_heap hbk]; rfl
 go_wp2_with (go_at_fn 114; refine (Tryz.utf8_AppendRune_row B _ bs.length bs r hr0 hr1 _ hown hlen (by have := hb1.size; omega)).mono ?_)
 rintro e w2 ⟨v', rfl, hown', o, hgrow⟩
 have hlt : b < w1.heap.size := obj_lt hbk
 have hb2 : w2.heap[b]? = some (.cells #[.pointer (some ⟨b, 0, none⟩), .slice ao bs.length cap] 148 (0, 0)) := by
  rw [hgrow.block b (by simp; omega) (fun e => hne e.symm), Lib.alloc_old w1 _ b hlt]
  exact hbk
 have d0 : w2.cell? ⟨b, 0, none⟩ = some (.pointer (some ⟨b, 0, none⟩)) := by rw [Lib.cell_of_heap hb2]; rfl
 have d1 : w2.cell? ⟨b, 1, none⟩ = some (.slice ao bs.length cap) := by rw [Lib.cell_of_heap hb2]; rfl
 have f1 : w2.frozen? ⟨b, 1, none⟩ = false := Lib.frozen_of_heap hb2 1
 obtain ⟨g, cap', rfl⟩ : ∃ g cap', v' = .slice (some ⟨g, 0, none⟩) (bs.length + (Lib.runeCells r).length) cap' := by
  rcases hown'.2 with ⟨_, h0⟩ | ⟨g, cap', cur, fz, hv, _⟩
  ·omega
  ·exact ⟨g, cap', hv⟩
 go_wp2
 go_ret2
 refine ⟨?_, .inr ?_, ?_, ((hk1.alloc _).grown hgrow (Lib.ownsRowF_kind (hown.alloc _))).setCell ⟨b, 1, none⟩ rfl _⟩
 ·have e : ((bs.length : Int) + ((Lib.runeCells r).length : Int) - (bs.length : Int)) = ((Lib.runeCells r).length : Int) := by omega
  simp [e]
 ·exact Lib.BuilderAtF.put (T := 148) (e := 5) hB hb2 (bs' := bs ++ Lib.runeCells r) (by simpa using hown') (by decide)
 ·exact ((hb1.alloc (by have := hb1.size; omega) _).grown hgrow (by have := hb1.size; simp; omega) (fun k hk => (hown.lt k hk).1)).setCell (p := ⟨b, 1, none⟩) hB _
end Go.Proofs.YthlppbbejdeeoaaGreatDoor
namespace Go.Proofs.YthlppbbejdeeoaaGreatDoor
open Go.RowKit
theorem Ext.grown0 {w w' : World} (h : Ext w w') : w.grownBy w' none := ⟨h.os, h.tape, h.output, h.size, fun k hk _ => h.block k hk⟩
theorem sb_ext {B b : Nat} {bs : List Value} {w w' : World} (h : Lib.IsBuilderF 148 5 B b bs w) (hx : Ext w w') : Lib.IsBuilderF 148 5 B b bs w' := by
 rcases h with ⟨hB, v, hb, hown, hne⟩ | ⟨hB, v, hb, hown, hne⟩
 ·exact .inl ⟨hB, v, hx.obj hb, hown.kept hx.grown0 (by rcases h : v.ownBlock with _ | k <;> simp), hne⟩
 ·exact .inr ⟨hB, v, hx.obj hb, hown.kept hx.grown0 (by rcases h : v.ownBlock with _ | k <;> simp), hne⟩
def bcs (l : List UInt8) : List Value := Lib.byteCells l
theorem bcs_app (a b : List UInt8) : bcs (a ++ b) = bcs a ++ bcs b := by simp [bcs, Lib.byteCells]
theorem bcs_len (a : List UInt8) : (bcs a).length = a.length := Lib.byteCells_length a
theorem bcs_rune (r : Int) : bcs (Lib.encodeRune r) = Lib.runeCells r := Lib.byteCells_encodeRune r
theorem bcs_one (c : UInt8) : bcs [c] = [.int .u8 (c.toNat : Int)] := rfl
/-- a builder of one's own, with these bytes -/
def Sb (w : World) (b : Nat) (l : List UInt8) : Prop := b < w.heap.size ∧ Lib.IsBuilderF 148 5 b b (bcs l) w
theorem Sb.ext {w w' : World} {b : Nat} {l : List UInt8} (h : Sb w b l) (hx : Ext w w') : Sb w' b l := ⟨Nat.lt_of_lt_of_le h.1 hx.size, sb_ext h.2 hx⟩
theorem Sb.new (w : World) : Sb (w.alloc (.cells #[.pointer none, .slice none 0 0] 148 (0, 0))) w.heap.size [] := ⟨by simp, .of (Lib.fresh_isBuilder 148 5 w)⟩
theorem Sb.iter {w : World} {b g pos : Nat} {l : List UInt8} {s : ByteArray} (h : Sb w b l) (hit : It w g s pos) (pos' : Nat) : Sb (w.iterAt g s pos') b l := ⟨by rw [Lib.iterAt_size]; exact h.1, h.2.iterAt hit pos'⟩
theorem Sb.mkiter {w : World} {b : Nat} {l : List UInt8} (h : Sb w b l) (s : ByteArray) (pos : Nat) : Sb (w.iter s pos) b l := h.ext ((Ext.refl w).alloc _)
/-- behind a write: the builder, and all that lay there -/
def SbStep (w : World) (b : Nat) (l : List UInt8) (w' : World) : Prop := Sb w' b l ∧ Below b w w' ∧ Lib.OthersKept 5 (some b) w w'
theorem SbStep.ext {w0 w w' : World} {b : Nat} {l : List UInt8} (h : SbStep w b l w') (hx : Ext w0 w) (hb : w0.heap.size ≤ b) : Ext w0 w' := Below.trans hx (h.2.1.mono hb)
theorem SbStep.it {w w' : World} {b g pos : Nat} {l : List UInt8} {s : ByteArray} (h : SbStep w b l w') (hit : It w g s pos) (hg : g ≠ b) : It w' g s pos := h.2.2.iter hit hg
theorem Sb.byte {w : World} {b : Nat} {l : List UInt8} (h : Sb w b l) (c : UInt8) (hl : l.length + 1 ≤ 140737488355328) :
 Calls Tryz.prog 103 #[.pointer (some ⟨b, 0, none⟩), .int .u8 (c.toNat : Int)] w fun e w' => e = .returned .nilIface ∧ SbStep w b (l ++ [c]) w' := by
 refine (sbbyte_any b b (bcs l) (c.toNat : Int) w h.2 (by rw [bcs_len]; exact hl) (Nat.le_of_lt h.1)).mono ?_
 rintro e w' ⟨rfl, h1, h2, h3⟩
 exact ⟨rfl, ⟨Nat.lt_of_lt_of_le h.1 h2.size, by rw [bcs_app, bcs_one]; exact h1⟩, h2, h3⟩
theorem Sb.rune {w : World} {b : Nat} {l : List UInt8} (h : Sb w b l) (r : Int) (hr0 : 0 ≤ r) (hr1 : r ≤ 2147483647) (hl : l.length + 4 ≤ 140737488355328) :
 Calls Tryz.prog 106 #[.pointer (some ⟨b, 0, none⟩), .int .i32 r] w fun e w' => ∃ n : Int, e = .returned (.tuple #[.int .i64 n, .nilIface]) ∧ SbStep w b (l ++ Lib.encodeRune r) w' := by
 refine (sbrune_any b b (bcs l) r (by omega) hr1 w h.2 (by rw [bcs_len]; exact hl) (Nat.le_of_lt h.1)).mono ?_
 rintro e w' ⟨rfl, h1, h2, h3⟩
 exact ⟨_, rfl, ⟨Nat.lt_of_lt_of_le h.1 h2.size, by rw [bcs_app, bcs_rune]; exact h1⟩, h2, h3⟩
theorem Sb.string {w : World} {b : Nat} {l : List UInt8} (h : Sb w b l) :
 Calls Tryz.prog 107 #[.pointer (some ⟨b, 0, none⟩)] w fun e w' => e = .returned (.string (st l)) ∧ SbStep w b l w' := by
 refine (Tryz.Builder_String_any_k b b l w h.2 (Nat.le_of_lt h.1)).mono ?_
 rintro e w' ⟨rfl, h1, h2, h3⟩
 exact ⟨rfl, ⟨Nat.lt_of_lt_of_le h.1 h2.size, h1⟩, h2, h3⟩
/-! ## what Quote tells -/
def runE (r : Nat) : List UInt8 := Lib.encodeRune (r : Int)
theorem runE_len (r : Nat) : (runE r).length ≤ 4 := by
 have := (Lib.runeCells_le (r : Int)).2
 rw [Lib.runeCells_length] at this
 exact this
def escL (r : Nat) : List UInt8 := if r = 34 ∨ r = 92 then 92 :: runE r else runE r
theorem escL_len (r : Nat) : (escL r).length ≤ 5 := by
 have := runE_len r
 unfold escL
 split
 ·simp; omega
 ·omega
def outL (ds : List (Nat × List UInt8)) : List UInt8 := ds.flatMap fun d => escL d.1
theorem outL_snoc (ds : List (Nat × List UInt8)) (d : Nat × List UInt8) : outL (ds ++ [d]) = outL ds ++ escL d.1 := by simp [outL]
theorem outL_len : ∀ ds, (outL ds).length ≤ 5 * ds.length := by
 intro ds
 induction ds with
 | nil => simp [outL]
 | cons d ds ih =>
  have := escL_len d.1
  unfold outL at *
  simp only [List.flatMap_cons, List.length_append, List.length_cons]
  omega
def plnL (d : Nat × List UInt8) : Bool := plainB (d.1 : Int) (d.2.length : Nat)
def quoteT (l : List UInt8) : List UInt8 × Nat × Nat :=
 if 1024 < l.length then ([], 0, 6) else match (letL l).findIdx? (fun d => !plnL d) with
  | some k => ([], k, 4)
  | none => (34 :: outL (letL l) ++ [34], 0, 0)
def QSays (l : List UInt8) (w : World) (e : Ending) (w' : World) : Prop := e = .returned (.tuple #[.string (st (quoteT l).1), .int .i64 ((quoteT l).2.1 : Nat), .int .i64 ((quoteT l).2.2 : Nat)]) ∧ Ext w w'
theorem QSays.long {l : List UInt8} {w w' : World} (h : 1024 < l.length) (hx : Ext w w') : QSays l w (.returned (.tuple #[.string ⟨#[]⟩, .int .i64 0, .int .i64 6])) w' := by
 unfold QSays quoteT
 rw [if_pos h]
 exact ⟨rfl, hx⟩
theorem QSays.bad {l : List UInt8} {w w' : World} {ds rest : List (Nat × List UInt8)} {d : Nat × List UInt8} (h : l.length ≤ 1024) (he : letL l = ds ++ d :: rest) (hd : ∀ d ∈ ds, plnL d = true) (hb : plnL d = false) (hx : Ext w w') : QSays l w (.returned (.tuple #[.string ⟨#[]⟩, .int .i64 (ds.length : Nat), .int .i64 4])) w' := by
 have e : (letL l).findIdx? (fun d => !plnL d) = some ds.length := by
  rw [he, List.findIdx?_append]
  have e0 : ds.findIdx? (fun d => !plnL d) = none := by
   rw [List.findIdx?_eq_none_iff]
   intro x hx
   rw [hd x hx]; rfl
  rw [e0]
  simp [List.findIdx?_cons, hb]
 unfold QSays quoteT
 rw [if_neg (by omega), e]
 exact ⟨rfl, hx⟩
theorem QSays.ok {l : List UInt8} {w w' : World} (h : l.length ≤ 1024) (hd : ∀ d ∈ letL l, plnL d = true) (hx : Ext w w') : QSays l w (.returned (.tuple #[.string (st (34 :: outL (letL l) ++ [34])), .int .i64 0, .int .i64 0])) w' := by
 have e0 : (letL l).findIdx? (fun d => !plnL d) = none := by
  rw [List.findIdx?_eq_none_iff]
  intro x hx
  rw [hd x hx]; rfl
 unfold QSays quoteT
 rw [if_neg (by omega), e0]
 exact ⟨rfl, hx⟩
/-- where a range over a string stands: what it has seen, and what is yet to come -/
structure At (l : List UInt8) (pos : Nat) (ds : List (Nat × List UInt8)) : Prop where
 le : pos ≤ l.length
 num : ds.length ≤ pos
 split : letL l = ds ++ letL (l.drop pos)
theorem At.zero (l : List UInt8) : At l 0 [] := ⟨by omega, by simp, by simp⟩
theorem At.here {s : ByteArray} {pos : Nat} {ds : List (Nat × List UInt8)} (h : At (tl s) pos ds) (hp : pos < s.size) :
 ∃ b, b.length = (Utf8.decode s pos).2 ∧ letL (tl s) = ds ++ ((Utf8.decode s pos).1, b) :: letL ((tl s).drop (pos + (Utf8.decode s pos).2)) ∧ At (tl s) (pos + (Utf8.decode s pos).2) (ds ++ [((Utf8.decode s pos).1, b)]) := by
 have h1 := dec_pos s pos hp
 have h2 := dec_le s pos hp
 have hne : (tl s).drop pos ≠ [] := by
  intro e
  have := congrArg List.length e
  simp at this
  omega
 have hs := letL_step _ hne
 rw [← dec_at s pos, List.drop_drop] at hs
 refine ⟨((tl s).drop pos).take (Utf8.decode s pos).2, by simp; omega, by rw [h.split, hs], ⟨by simp; omega, by have := h.num; simp; omega, ?_⟩⟩
 rw [h.split, hs]
 simp
theorem At.done {s : ByteArray} {pos : Nat} {ds : List (Nat × List UInt8)} (h : At (tl s) pos ds) (hp : ¬ pos < s.size) : letL (tl s) = ds := by
 have e : (tl s).drop pos = [] := List.drop_eq_nil_of_le (by simp; omega)
 rw [h.split, e, letL_nil, List.append_nil]
theorem dec_bound (s : ByteArray) (k : Nat) : (Utf8.decode s k).1 ≤ 1114111 := by
 have h := Lib.decodeN_valid (s.size - k) (s.get! k).toNat (s.get! (k + 1)).toNat (s.get! (k + 2)).toNat (s.get! (k + 3)).toNat (UInt8.toNat_lt _)
 rw [← Lib.decode_at] at h
 omega
end Go.Proofs.YthlppbbejdeeoaaGreatDoor
namespace Go.Proofs.YthlppbbejdeeoaaGreatDoor
open Go.RowKit
def userC (c : Nat) : Bool := decide (97 ≤ c ∧ c ≤ 122) || decide (48 ≤ c ∧ c ≤ 57) || decide (c = 46) || decide (c = 45) || decide (c = 95)
def rightU (l : By) : Bool := (letL l).all (fun d => userC d.1) && decide (l ≠ []) && decide (l.length ≤ 24)
def inboxL : By := [73, 78, 66, 79, 88]
def foldB (l : By) : By := if lowL l = lowL inboxL then inboxL else l
def rightB (l : By) : Bool := decide (l ≠ []) && decide (l.length ≤ 24) && decide ((quoteT l).2.2 = 0) && decide (foldB l = l)
structure Lt where
 uid : Int
 flags : UInt8
 bytes : By
structure Bx where
 name : By
 valid : Int
 next : Int
 letters : List Lt
structure Us where
 name : By
 valid : Int
 boxes : List Bx
structure Dd where
 dw : Int
 user : By
 box : By
 dest : By
 uid : Int
 how : Int
 flags : UInt8
 shard : Int
 epoch : Int
 bytes : By
/-! ## boxes -/
def lettersC (next : Int) : List Lt → Int → Nat
 | [], _ => 0
 | l :: ls, last => if l.uid ≤ last ∨ next ≤ l.uid then 4 else if 32 ≤ l.flags.toNat then 2 else if 600 < l.bytes.length then 6 else lettersC next ls l.uid
def numB (n : Int) : Bool := decide (1 ≤ n) && decide (n ≤ 4294967295)
def boxC (b : Bx) : Nat := if numB b.valid = false ∨ numB b.next = false then 2 else if 32 < b.letters.length then 8 else lettersC b.next b.letters 0
def sizeF (n : Nat) (ls : List Lt) : Nat := ls.foldl (fun n l => n + l.bytes.length) n
def sizeB (b : Bx) : Nat := sizeF 0 b.letters
/-! ## users -/
def leB (a b : By) : Bool := Op.bytesLess a b || a == b
/-- a name that does not stand behind the one ahead -/
def behindB (prev : Option By) (b : By) : Bool := match prev with
 | none => false
 | some p => leB b p
/-- one box of a user, behind another one, or none -/
def oneC (valid : Int) (prev : Option By) (b : Bx) : Nat :=
 if rightB b.name = false ∨ behindB prev b.name = true then 4 else if boxC b ≠ 0 then boxC b else if valid < b.valid then 2 else 0
structure Tot where
 letters : Nat
 size : Nat
 found : Bool
def Tot.add (t : Tot) (b : Bx) : Tot := ⟨t.letters + b.letters.length, t.size + sizeB b, t.found || decide (b.name = inboxL)⟩
def boxesC (valid : Int) : List Bx → Option By → Tot → Nat
 | [], _, t => if t.found = false then 4 else if 40 < t.letters ∨ 1200 < t.size then 8 else 0
 | b :: bs, prev, t => if oneC valid prev b ≠ 0 then oneC valid prev b else boxesC valid bs (some b.name) (t.add b)
def checkU (u : Us) : Nat :=
 if rightU u.name = false then 4 else if u.valid < 1 ∨ 4294967295 < u.valid then 2 else if u.boxes.length = 0 ∨ 6 < u.boxes.length then 8 else boxesC u.valid u.boxes none ⟨0, 0, false⟩
def putL (l : Lt) : By := beN 4 l.uid.toNat ++ (beN 1 l.flags.toNat ++ (longB l.bytes ++ []))
def putX (b : Bx) : By := shortB b.name ++ (beN 4 b.valid.toNat ++ (beN 4 b.next.toNat ++ (beN 1 b.letters.length ++ (b.letters.flatMap putL ++ []))))
def putUs (u : Us) : By := shortB u.name ++ (beN 4 u.valid.toNat ++ (beN 1 u.boxes.length ++ (u.boxes.flatMap putX ++ [])))
def letP : Prs Lt := andP (numP 4) fun u => andP (numP 1) fun f => andP longP fun b => pureP ⟨(u : Nat), UInt8.ofNat f, b⟩
def boxP : Prs Bx := andP shortP fun n => andP (numP 4) fun v => andP (numP 4) fun x => andP (numP 1) fun m => andP (repA letP m []) fun ls => pureP ⟨n, (v : Nat), (x : Nat), ls⟩
def userP : Prs Us := andP shortP fun n => andP (numP 4) fun v => andP (numP 1) fun m => andP (repA boxP m []) fun bs => pureP ⟨n, (v : Nat), bs⟩
def readP {α : Type} (p : Prs α) (l : By) : Nat ⊕ α := match p l with
 | .inl e => .inl e
 | .inr (a, r) => if r = [] then .inr a else .inl 4
def takeUs (l : By) : Nat ⊕ Us := match readP userP l with
 | .inl e => .inl e
 | .inr u => if checkU u ≠ 0 then .inl (checkU u) else .inr u
/-! ## deeds -/
def boxed (o : Int) : Bool := decide (o = 2 ∨ o = 3 ∨ o = 4 ∨ o = 5 ∨ o = 6 ∨ o = 7)
def form4 (d : Dd) : Bool := !rightU d.user || (boxed d.dw && !rightB d.box) || (!boxed d.dw && decide (d.box ≠ [])) || (decide (d.dw = 7) && !rightB d.dest) || (!decide (d.dw = 7) && decide (d.dest ≠ []))
def form2 (d : Dd) : Bool := !withinB (decide (d.dw = 5 ∨ d.dw = 6)) d.uid 1 4294967295 || !withinB (decide (d.dw = 5)) d.how 0 2 || !withinB (decide (d.dw = 4 ∨ d.dw = 5)) d.flags.toNat 0 31 || !withinB (decide (d.dw = 9)) d.shard 0 3 || !withinB (decide (d.dw = 8 ∨ d.dw = 9)) d.epoch 1 4294967295
def lastC (d : Dd) : Nat := match takeUs d.bytes with
 | .inl e => e
 | .inr u => if u.name ≠ d.user then 4 else 0
def checkD (d : Dd) : Nat :=
 if d.dw < 1 ∨ 9 < d.dw then 14 else if form4 d = true then 4 else if form2 d = true then 2
 else if d.dw = 4 ∧ 600 < d.bytes.length then 6 else if ¬ (d.dw = 4 ∨ d.dw = 8) ∧ 0 < d.bytes.length then 2 else if d.dw ≠ 8 then 0 else lastC d
def putD (d : Dd) : By := beN 1 d.dw.toNat ++ (shortB d.user ++ (shortB d.box ++ (shortB d.dest ++ (beN 4 d.uid.toNat ++ (beN 1 d.how.toNat ++ (beN 1 d.flags.toNat ++ (beN 1 d.shard.toNat ++ (beN 4 d.epoch.toNat ++ (longB d.bytes ++ [])))))))))
def deedP : Prs Dd := andP (numP 1) fun o => andP shortP fun u => andP shortP fun b => andP shortP fun t => andP (numP 4) fun i => andP (numP 1) fun h => andP (numP 1) fun f => andP (numP 1) fun s => andP (numP 4) fun e => andP longP fun p =>
 pureP ⟨(o : Nat), u, b, t, (i : Nat), (h : Nat), UInt8.ofNat f, (s : Nat), (e : Nat), p⟩
def firstC (ds : List Dd) : Nat := match ds.find? (fun d => decide (checkD d ≠ 0)) with
 | some d => checkD d
 | none => 0
def putAllB (ds : List Dd) : By := beN 1 ds.length ++ (ds.flatMap putD ++ [])
def putAllT (ds : List Dd) : By × Nat :=
 if ds.length = 0 then ([], 2) else if 12 < ds.length then ([], 6) else if firstC ds ≠ 0 then ([], firstC ds) else if 1800 < (putAllB ds).length then ([], 6) else (putAllB ds, 0)
def mustP (ok : Bool) : Prs Unit := fun l => if ok then .inr ((), l) else .inl 4
def allP : Prs (List Dd) := andP (numP 1) fun n => andP (mustP (decide (1 ≤ n) && decide (n ≤ 12))) fun _ => repA deedP n []
def takeAllT (l : By) : Nat ⊕ List Dd := if 1800 < l.length then .inl 6 else match readP allP l with
 | .inl e => .inl e
 | .inr ds => if firstC ds ≠ 0 then .inl (firstC ds) else .inr ds
/-! ## what is put is taken -/
theorem ofNat_of {f : UInt8} : UInt8.ofNat f.toNat = f := by simp
theorem nat_of {i : Int} (h : 0 ≤ i) : ((i.toNat : Nat) : Int) = i := by omega
def okN (i : Int) : Prop := 0 ≤ i ∧ i < 4294967296
def ok1 (i : Int) : Prop := 0 ≤ i ∧ i < 256
theorem okN.put {i : Int} (h : okN i) (r : By) : numP 4 (beN 4 i.toNat ++ r) = .inr (i.toNat, r) := (Rt.num 4).put _ _ (by unfold okN at h; omega)
theorem ok1.put {i : Int} (h : ok1 i) (r : By) : numP 1 (beN 1 i.toNat ++ r) = .inr (i.toNat, r) := (Rt.num 1).put _ _ (by unfold ok1 at h; omega)
theorem u8put (f : UInt8) (r : By) : numP 1 (beN 1 f.toNat ++ r) = .inr (f.toNat, r) := (Rt.num 1).put _ _ (by have := f.toNat_lt; omega)
theorem got4 {l r : By} {u : Nat} (h : numP 4 l = .inr (u, r)) : l = beN 4 u ++ r ∧ okN (u : Nat) := by
 obtain ⟨h1, h2⟩ := (Rt.num 4).got _ _ _ h
 exact ⟨h1, by unfold okN; omega⟩
theorem got1 {l r : By} {u : Nat} (h : numP 1 l = .inr (u, r)) : l = beN 1 u ++ r ∧ ok1 (u : Nat) ∧ u < 256 := by
 obtain ⟨h1, h2⟩ := (Rt.num 1).got _ _ _ h
 exact ⟨h1, by unfold ok1; omega, by omega⟩
theorem ofNat_to {u : Nat} (h : u < 256) : (UInt8.ofNat u).toNat = u := by simp; omega
def okL (l : Lt) : Prop := okN l.uid ∧ l.bytes.length < 65536
theorem Rt.letter : Rt letP putL okL := by
 constructor
 ·rintro ⟨u, f, b⟩ r ⟨h1, h2⟩
  simp only [letP, putL, List.append_assoc, List.nil_append]
  rw [andP_put (h1.put _), andP_put (u8put f _), andP_put (Rt.long.put _ _ h2), ofNat_of, nat_of h1.1]
  rfl
 ·intro l x r h
  obtain ⟨u, l1, h1, h⟩ := andP_inr h
  obtain ⟨f, l2, h2, h⟩ := andP_inr h
  obtain ⟨b, l3, h3, h⟩ := andP_inr h
  obtain ⟨rfl, rfl⟩ := pureP_inr h
  obtain ⟨rfl, k1⟩ := got4 h1
  obtain ⟨rfl, k2, k2'⟩ := got1 h2
  obtain ⟨rfl, k3⟩ := Rt.long.got _ _ _ h3
  exact ⟨by simp [putL, ofNat_to k2'], k1, k3⟩
def okX (b : Bx) : Prop := b.name.length < 256 ∧ okN b.valid ∧ okN b.next ∧ b.letters.length < 256 ∧ ∀ l ∈ b.letters, okL l
theorem Rt.box : Rt boxP putX okX := by
 constructor
 ·rintro ⟨n, v, x, ls⟩ r ⟨h1, h2, h3, h4, h5⟩
  simp only [boxP, putX, List.append_assoc, List.nil_append]
  rw [andP_put (Rt.short.put _ _ h1), andP_put (h2.put _), andP_put (h3.put _), andP_put ((Rt.num 1).put _ _ (by simpa using h4)), andP_put ((Rt.letter.rep _).put _ _ ⟨h5, rfl⟩), nat_of h2.1, nat_of h3.1]
  rfl
 ·intro l b r h
  obtain ⟨n, l1, h1, h⟩ := andP_inr h
  obtain ⟨v, l2, h2, h⟩ := andP_inr h
  obtain ⟨x, l3, h3, h⟩ := andP_inr h
  obtain ⟨m, l4, h4, h⟩ := andP_inr h
  obtain ⟨ls, l5, h5, h⟩ := andP_inr h
  obtain ⟨rfl, rfl⟩ := pureP_inr h
  obtain ⟨rfl, k1⟩ := Rt.short.got _ _ _ h1
  obtain ⟨rfl, k2⟩ := got4 h2
  obtain ⟨rfl, k3⟩ := got4 h3
  obtain ⟨rfl, k4, k4'⟩ := got1 h4
  obtain ⟨rfl, k5, rfl⟩ := (Rt.letter.rep _).got _ _ _ h5
  exact ⟨by simp [putX], k1, k2, k3, k4', k5⟩
def okU (u : Us) : Prop := u.name.length < 256 ∧ okN u.valid ∧ u.boxes.length < 256 ∧ ∀ b ∈ u.boxes, okX b
theorem Rt.user : Rt userP putUs okU := by
 constructor
 ·rintro ⟨n, v, bs⟩ r ⟨h1, h2, h4, h5⟩
  simp only [userP, putUs, List.append_assoc, List.nil_append]
  rw [andP_put (Rt.short.put _ _ h1), andP_put (h2.put _), andP_put ((Rt.num 1).put _ _ (by simpa using h4)), andP_put ((Rt.box.rep _).put _ _ ⟨h5, rfl⟩), nat_of h2.1]
  rfl
 ·intro l b r h
  obtain ⟨n, l1, h1, h⟩ := andP_inr h
  obtain ⟨v, l2, h2, h⟩ := andP_inr h
  obtain ⟨m, l4, h4, h⟩ := andP_inr h
  obtain ⟨bs, l5, h5, h⟩ := andP_inr h
  obtain ⟨rfl, rfl⟩ := pureP_inr h
  obtain ⟨rfl, k1⟩ := Rt.short.got _ _ _ h1
  obtain ⟨rfl, k2⟩ := got4 h2
  obtain ⟨rfl, k4, k4'⟩ := got1 h4
  obtain ⟨rfl, k5, rfl⟩ := (Rt.box.rep _).got _ _ _ h5
  exact ⟨by simp [putUs], k1, k2, k4', k5⟩
def okD (d : Dd) : Prop := ok1 d.dw ∧ d.user.length < 256 ∧ d.box.length < 256 ∧ d.dest.length < 256 ∧ okN d.uid ∧ ok1 d.how ∧ ok1 d.shard ∧ okN d.epoch ∧ d.bytes.length < 65536
theorem Rt.deed : Rt deedP putD okD := by
 constructor
 ·rintro ⟨o, u, b, t, i, hw, f, s, e, p⟩ r ⟨h1, h2, h3, h4, h5, h6, h8, h9, h10⟩
  simp only [deedP, putD, List.append_assoc, List.nil_append]
  rw [andP_put (h1.put _), andP_put (Rt.short.put _ _ h2), andP_put (Rt.short.put _ _ h3), andP_put (Rt.short.put _ _ h4), andP_put (h5.put _), andP_put (h6.put _), andP_put (u8put f _), andP_put (h8.put _), andP_put (h9.put _), andP_put (Rt.long.put _ _ h10), nat_of h1.1, nat_of h5.1, nat_of h6.1, nat_of h8.1, nat_of h9.1, ofNat_of]
  rfl
 ·intro l d r h
  obtain ⟨o, l1, h1, h⟩ := andP_inr h
  obtain ⟨u, l2, h2, h⟩ := andP_inr h
  obtain ⟨b, l3, h3, h⟩ := andP_inr h
  obtain ⟨t, l4, h4, h⟩ := andP_inr h
  obtain ⟨i, l5, h5, h⟩ := andP_inr h
  obtain ⟨hw, l6, h6, h⟩ := andP_inr h
  obtain ⟨f, l7, h7, h⟩ := andP_inr h
  obtain ⟨s, l8, h8, h⟩ := andP_inr h
  obtain ⟨e, l9, h9, h⟩ := andP_inr h
  obtain ⟨p, l10, h10, h⟩ := andP_inr h
  obtain ⟨rfl, rfl⟩ := pureP_inr h
  obtain ⟨rfl, k1, _⟩ := got1 h1
  obtain ⟨rfl, k2⟩ := Rt.short.got _ _ _ h2
  obtain ⟨rfl, k3⟩ := Rt.short.got _ _ _ h3
  obtain ⟨rfl, k4⟩ := Rt.short.got _ _ _ h4
  obtain ⟨rfl, k5⟩ := got4 h5
  obtain ⟨rfl, k6, _⟩ := got1 h6
  obtain ⟨rfl, k7, k7'⟩ := got1 h7
  obtain ⟨rfl, k8, _⟩ := got1 h8
  obtain ⟨rfl, k9⟩ := got4 h9
  obtain ⟨rfl, k10⟩ := Rt.long.got _ _ _ h10
  exact ⟨by simp [putD, ofNat_to k7'], k1, k2, k3, k4, k5, k6, k8, k9, k10⟩
end Go.Proofs.YthlppbbejdeeoaaGreatDoor
