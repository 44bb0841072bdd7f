/- From what can be read to messages, where what is read is of bulk at most 1048576. Conditions: the hypotheses of each theorem. For a card whose row lists unicode/utf8's two tables: a world that holds them, and what the list gives. Conditions: the hypotheses of each theorem. -/
import Derived.Test.YthlppbbejdeeoaaGreatDoorC15
import Derived.Test.YthlppbbejdeeoaaGreatDoorWrAM
import Derived.Test.YthlppbbejdeeoaaGreatDoorC13
import Derived.Test.YthlppbbejdeeoaaGreatDoorCards
import Derived.Test.YthlppbbejdeeoaaGreatDoorTie
import Derived.Deep.DeepHandedRow
import Derived.Lib.LaidU8
namespace Go.Proofs.YthlppbbejdeeoaaGreatDoor
open Go.ChangeShapes Go.WideShapes Go.ChangeAt Go.RowKit Go.Deep
theorem RsM.intsB {M : List Nat} {w : World} {A : Option Addr} {l : List Int} (h : RsM RInt 1 M w A l) : SlM M w A (doV l) := by
 intro k v hk
 have hk' : k < l.length := by
  have := (List.getElem?_eq_some_iff.1 hk).1
  simpa [doV] using this
 obtain ⟨ad, cs, e, hn, _, hc, hs⟩ := h.at_ (by omega) hk'
 refine ⟨ad, e, hn, ?_⟩
 rw [doV_get hk'] at hk
 cases hk
 have := hc 0 (.int .i64 l[k]) (by rw [show cs = _ from hs.1]; rfl)
 simpa using this
theorem OpensB.ints : OpensB 26 1 (RSlB RInt 1) := (OpensB.int Tryz.underlying3).slice Tryz.underlying26 (by kernel_rfl)
theorem OpensB.deeds : OpensB 27 1 (RSlB RDdB 10) := OpensB.deed.slice Tryz.underlying27 (by kernel_rfl)
def RTxB : Reading Tx3 where
 says _ _ cs t := cs = [.int .i64 t.node, .int .i64 t.boot, .int .i64 t.n]
 kept := fun h _ => h
 old := fun h _ => h
def RSeatB : Reading (By × Int × Int) where
 says _ _ cs t := cs = [.string (st t.1), .int .i64 t.2.1, .int .i64 t.2.2]
 kept := fun h _ => h
 old := fun h _ => h
def RPartB : Reading (Tx3 × List Int × List Dd × List Int) where
 says M w cs t := ∃ Ap Ad Ae cp cd ce, cs = [.int .i64 t.1.node, .int .i64 t.1.boot, .int .i64 t.1.n, .slice Ap t.2.1.length cp, .slice Ad t.2.2.1.length cd, .slice Ae t.2.2.2.length ce] ∧
  SlM M w Ap (doV t.2.1) ∧ RsM RDdB 10 M w Ad t.2.2.1 ∧ SlM M w Ae (doV t.2.2.2) ∧ t.2.1.length ≤ 1048576 ∧ t.2.2.1.length ≤ 1048576 ∧ t.2.2.2.length ≤ 1048576
 kept := by
  rintro M w w' cs x ⟨Ap, Ad, Ae, cp, cd, ce, h1, h2, h3, h4, h5⟩ hx
  exact ⟨Ap, Ad, Ae, cp, cd, ce, h1, h2.kept hx, h3.kept hx, h4.kept hx, h5⟩
 old := by
  rintro M N w cs x ⟨Ap, Ad, Ae, cp, cd, ce, h1, h2, h3, h4, h5⟩ hx
  exact ⟨Ap, Ad, Ae, cp, cd, ce, h1, h2.old hx, h3.old hx, h4.old hx, h5⟩
def RVoteB : Reading (Int × List Int × (By × Int × Int) × By) where
 says M w cs t := ∃ An Av cn cv, cs = [.int .i64 t.1, .slice An t.2.1.length cn, .string (st t.2.2.1.1), .int .i64 t.2.2.1.2.1, .int .i64 t.2.2.1.2.2, .slice Av t.2.2.2.length cv] ∧
  SlM M w An (doV t.2.1) ∧ BsM M w Av t.2.2.2 ∧ t.2.1.length ≤ 1048576 ∧ t.2.2.2.length ≤ 1048576
 kept := by
  rintro M w w' cs x ⟨An, Av, cn, cv, h1, h2, h3, h5⟩ hx
  exact ⟨An, Av, cn, cv, h1, h2.kept hx, h3.kept hx, h5⟩
 old := by
  rintro M N w cs x ⟨An, Av, cn, cv, h1, h2, h3, h5⟩ hx
  exact ⟨An, Av, cn, cv, h1, h2.old hx, SlM.old h3 hx, h5⟩
def RMlB : Reading Ml where
 says M w cs m := ∃ Ap Ad Ae An Av cp cd ce cn cv, cs = (mlC m (.slice Ap m.peers.length cp) (.slice Ad m.deeds.length cd) (.slice Ae m.epochs.length ce) (.slice An m.nums.length cn) (.slice Av m.vbytes.length cv)).toList ∧
  SlM M w Ap (doV m.peers) ∧ RsM RDdB 10 M w Ad m.deeds ∧ SlM M w Ae (doV m.epochs) ∧ SlM M w An (doV m.nums) ∧ BsM M w Av m.vbytes ∧
  m.peers.length ≤ 1048576 ∧ m.deeds.length ≤ 1048576 ∧ m.epochs.length ≤ 1048576 ∧ m.nums.length ≤ 1048576 ∧ m.vbytes.length ≤ 1048576
 kept := by
  rintro M w w' cs x ⟨Ap, Ad, Ae, An, Av, cp, cd, ce, cn, cv, h1, h2, h3, h4, h5, h6, h7⟩ hx
  exact ⟨Ap, Ad, Ae, An, Av, cp, cd, ce, cn, cv, h1, h2.kept hx, h3.kept hx, h4.kept hx, h5.kept hx, h6.kept hx, h7⟩
 old := by
  rintro M N w cs x ⟨Ap, Ad, Ae, An, Av, cp, cd, ce, cn, cv, h1, h2, h3, h4, h5, h6, h7⟩ hx
  exact ⟨Ap, Ad, Ae, An, Av, cp, cd, ce, cn, cv, h1, h2.old hx, h3.old hx, h4.old hx, h5.old hx, SlM.old h6 hx, h7⟩
set_option maxRecDepth 20000 in
theorem OpensB.tx : OpensB 25 3 RTxB := fun H enc W base spare held fuel cs x hx hw => by
 have hl := struct_len Tryz.underlying25 hx
 have hC : Tryz.prog.cellsOf 25 = 3 := by kernel_rfl
 rw [hC] at hl
 obtain ⟨a0, h0⟩ := struct_fieldB Tryz.underlying25 hx hw 0 rfl (OpensB.int Tryz.underlying3) (by kernel_rfl)
 obtain ⟨a1, h1⟩ := struct_fieldB Tryz.underlying25 hx hw 1 rfl (OpensB.int Tryz.underlying3) (by kernel_rfl)
 obtain ⟨a2, h2⟩ := struct_fieldB Tryz.underlying25 hx hw 2 rfl (OpensB.int Tryz.underlying3) (by kernel_rfl)
 match cs, hl with
 | [c0, c1, c2], _ =>
  have e0 : c0 = .int .i64 a0 := by simpa [RInt] using h0.1
  have e1 : c1 = .int .i64 a1 := by simpa [RInt] using h1.1
  have e2 : c2 = .int .i64 a2 := by simpa [RInt] using h2.1
  subst e0 e1 e2
  exact ⟨rfl, ⟨a0, a1, a2⟩, rfl⟩
set_option maxRecDepth 20000 in
theorem OpensB.seat : OpensB 32 3 RSeatB := fun H enc W base spare held fuel cs x hx hw => by
 have hl := struct_len Tryz.underlying32 hx
 have hC : Tryz.prog.cellsOf 32 = 3 := by kernel_rfl
 rw [hC] at hl
 obtain ⟨a0, h0⟩ := struct_fieldB Tryz.underlying32 hx hw 0 rfl (OpensB.str Tryz.underlying9) (by kernel_rfl)
 obtain ⟨a1, h1⟩ := struct_fieldB Tryz.underlying32 hx hw 1 rfl (OpensB.int Tryz.underlying3) (by kernel_rfl)
 obtain ⟨a2, h2⟩ := struct_fieldB Tryz.underlying32 hx hw 2 rfl (OpensB.int Tryz.underlying3) (by kernel_rfl)
 match cs, hl with
 | [c0, c1, c2], _ =>
  have e0 : c0 = .string (st a0) := by simpa [RStrB, st] using h0.1
  have e1 : c1 = .int .i64 a1 := by simpa [RInt] using h1.1
  have e2 : c2 = .int .i64 a2 := by simpa [RInt] using h2.1
  subst e0 e1 e2
  exact ⟨rfl, ⟨a0, a1, a2⟩, rfl⟩
set_option maxRecDepth 20000 in
theorem OpensB.part : OpensB 29 6 RPartB := fun H enc W base spare held fuel cs x hx hw => by
 have hl := struct_len Tryz.underlying29 hx
 have hC : Tryz.prog.cellsOf 29 = 6 := by kernel_rfl
 rw [hC] at hl
 obtain ⟨a0, h0⟩ := struct_fieldB Tryz.underlying29 hx hw 0 rfl OpensB.tx (by kernel_rfl)
 obtain ⟨a1, A1, c1, h1, g11, g12, g13, g14⟩ := struct_fieldB Tryz.underlying29 hx hw 1 rfl OpensB.ints (by kernel_rfl)
 obtain ⟨a2, A2, c2, h2, g21, g22, g23, g24⟩ := struct_fieldB Tryz.underlying29 hx hw 2 rfl OpensB.deeds (by kernel_rfl)
 obtain ⟨a3, A3, c3, h3, g31, g32, g33, g34⟩ := struct_fieldB Tryz.underlying29 hx hw 3 rfl OpensB.ints (by kernel_rfl)
 match cs, hl with
 | [d0, d1, d2, d3, d4, d5], _ =>
  have e0 : d0 = .int .i64 a0.node ∧ d1 = .int .i64 a0.boot ∧ d2 = .int .i64 a0.n := by simpa [RTxB] using h0
  have e3 : d3 = .slice A1 a1.length c1 := by simpa using h1
  have e4 : d4 = .slice A2 a2.length c2 := by simpa using h2
  have e5 : d5 = .slice A3 a3.length c3 := by simpa using h3
  obtain ⟨e0, e1, e2⟩ := e0
  subst e0 e1 e2 e3 e4 e5
  exact ⟨rfl, ⟨a0, a1, a2, a3⟩, A1, A2, A3, c1, c2, c3, rfl, g11.intsB, g21, g31.intsB, (show a1.length ≤ 1048576 by omega), (show a2.length ≤ 1048576 by omega), (show a3.length ≤ 1048576 by omega)⟩
set_option maxRecDepth 20000 in
theorem OpensB.vote : OpensB 34 6 RVoteB := fun H enc W base spare held fuel cs x hx hw => by
 have hl := struct_len Tryz.underlying34 hx
 have hC : Tryz.prog.cellsOf 34 = 6 := by kernel_rfl
 rw [hC] at hl
 obtain ⟨a0, h0⟩ := struct_fieldB Tryz.underlying34 hx hw 0 rfl (OpensB.int Tryz.underlying30) (by kernel_rfl)
 obtain ⟨a1, A1, c1, h1, g11, g12, g13, g14⟩ := struct_fieldB Tryz.underlying34 hx hw 1 rfl OpensB.ints (by kernel_rfl)
 obtain ⟨a2, h2⟩ := struct_fieldB Tryz.underlying34 hx hw 2 rfl OpensB.seat (by kernel_rfl)
 obtain ⟨a3, A3, c3, h3, g31, g32, g33, g34⟩ := struct_fieldB Tryz.underlying34 hx hw 3 rfl OpensB.bytes (by kernel_rfl)
 match cs, hl with
 | [d0, d1, d2, d3, d4, d5], _ =>
  have e0 : d0 = .int .i64 a0 := by simpa [RInt] using h0.1
  have e1 : d1 = .slice A1 a1.length c1 := by simpa using h1
  have e2 : d2 = .string (st a2.1) ∧ d3 = .int .i64 a2.2.1 ∧ d4 = .int .i64 a2.2.2 := by simpa [RSeatB] using h2
  have e5 : d5 = .slice A3 a3.length c3 := by simpa using h3
  obtain ⟨e2, e3, e4⟩ := e2
  subst e0 e1 e2 e3 e4 e5
  exact ⟨rfl, ⟨a0, a1, a2, a3⟩, A1, A3, c1, c3, rfl, g11.intsB, g31.bytes, (show a1.length ≤ 1048576 by omega), (show a3.length ≤ 1048576 by omega)⟩
set_option maxRecDepth 20000 in
set_option maxHeartbeats 1000000 in
theorem OpensB.mail : OpensB 37 22 RMlB := fun H enc W base spare held fuel cs x hx hw => by
 have hl := struct_len Tryz.underlying37 hx
 have hC : Tryz.prog.cellsOf 37 = 22 := by kernel_rfl
 rw [hC] at hl
 obtain ⟨a0, h0⟩ := struct_fieldB Tryz.underlying37 hx hw 0 rfl (OpensB.int Tryz.underlying23) (by kernel_rfl)
 obtain ⟨a1, h1⟩ := struct_fieldB Tryz.underlying37 hx hw 1 rfl (OpensB.int Tryz.underlying3) (by kernel_rfl)
 obtain ⟨a2, h2⟩ := struct_fieldB Tryz.underlying37 hx hw 2 rfl (OpensB.int Tryz.underlying3) (by kernel_rfl)
 obtain ⟨a3, h3⟩ := struct_fieldB Tryz.underlying37 hx hw 3 rfl OpensB.tx (by kernel_rfl)
 obtain ⟨a4, Ap, Ad, Ae, cp, cd, ce, h4, p1, p2, p3, p4, p5, p6⟩ := struct_fieldB Tryz.underlying37 hx hw 4 rfl OpensB.part (by kernel_rfl)
 obtain ⟨a5, An, Av, cn, cv, h5, v1, v2, v3, v4⟩ := struct_fieldB Tryz.underlying37 hx hw 5 rfl OpensB.vote (by kernel_rfl)
 obtain ⟨a6, h6⟩ := struct_fieldB Tryz.underlying37 hx hw 6 rfl (OpensB.int Tryz.underlying35) (by kernel_rfl)
 obtain ⟨a7, h7⟩ := struct_fieldB Tryz.underlying37 hx hw 7 rfl (OpensB.str Tryz.underlying9) (by kernel_rfl)
 obtain ⟨a8, h8⟩ := struct_fieldB Tryz.underlying37 hx hw 8 rfl (OpensB.int Tryz.underlying3) (by kernel_rfl)
 obtain ⟨a9, h9⟩ := struct_fieldB Tryz.underlying37 hx hw 9 rfl (OpensB.int Tryz.underlying3) (by kernel_rfl)
 obtain ⟨pt, pp, pd, pe⟩ := a4
 obtain ⟨ve, vn, ⟨vu, vs, vp⟩, vb⟩ := a5
 match cs, hl with
 | [d0, d1, d2, d3, d4, d5, d6, d7, d8, d9, d10, d11, d12, d13, d14, d15, d16, d17, d18, d19, d20, d21], _ =>
  have e0 : d0 = .int .i64 a0 := by simpa [RInt] using h0.1
  have e1 : d1 = .int .i64 a1 := by simpa [RInt] using h1.1
  have e2 : d2 = .int .i64 a2 := by simpa [RInt] using h2.1
  have e3 : d3 = .int .i64 a3.node ∧ d4 = .int .i64 a3.boot ∧ d5 = .int .i64 a3.n := by simpa [RTxB] using h3
  have e6 : d6 = .int .i64 pt.node ∧ d7 = .int .i64 pt.boot ∧ d8 = .int .i64 pt.n ∧ d9 = .slice Ap pp.length cp ∧ d10 = .slice Ad pd.length cd ∧ d11 = .slice Ae pe.length ce := by simpa using h4
  have e12 : d12 = .int .i64 ve ∧ d13 = .slice An vn.length cn ∧ d14 = .string (st vu) ∧ d15 = .int .i64 vs ∧ d16 = .int .i64 vp ∧ d17 = .slice Av vb.length cv := by simpa using h5
  have e18 : d18 = .int .i64 a6 := by simpa [RInt] using h6.1
  have e19 : d19 = .string (st a7) := by simpa [RStrB, st] using h7.1
  have e20 : d20 = .int .i64 a8 := by simpa [RInt] using h8.1
  have e21 : d21 = .int .i64 a9 := by simpa [RInt] using h9.1
  obtain ⟨e3, e4, e5⟩ := e3
  obtain ⟨e6, e7, e8, e9, e10, e11⟩ := e6
  obtain ⟨e12, e13, e14, e15, e16, e17⟩ := e12
  subst e0 e1 e2 e3 e4 e5 e6 e7 e8 e9 e10 e11 e12 e13 e14 e15 e16 e17 e18 e19 e20 e21
  exact ⟨rfl, ⟨a0, a1, a2, a3, pt, pp, pd, pe, ve, vn, vu, vs, vp, vb, a6, a7, a8, a9⟩, Ap, Ad, Ae, An, Av, cp, cd, ce, cn, cv, rfl, p1, p2, p3, v1, v2, p4, p5, p6, v3, v4⟩
section
variable {H : Type} {enc : TypeId × Value → H} {W : World} {base b : Nat} {held : Bool} {v : Value} {d : DataW H} {p : List MemPlace}
set_option maxRecDepth 20000 in
theorem open_mailB {spare : Nat → Bool} (hv : Value.okWide Tryz.prog W .any b 37 v) (h : DataW.Trod enc Tryz.prog W base spare held 37 v d p) (hw : Rows.uptoBulk d ≤ 1048576) :
 ∃ (m : Ml) (Ap Ad Ae An Av : Option Addr) (cp cd ce cn cv : Nat), v = .agg (mlC m (.slice Ap m.peers.length cp) (.slice Ad m.deeds.length cd) (.slice Ae m.epochs.length ce) (.slice An m.nums.length cn) (.slice Av m.vbytes.length cv)) ∧
  Sl W Ap (doV m.peers) ∧ RsM RDdB 10 [] W Ad m.deeds ∧ Sl W Ae (doV m.epochs) ∧ Sl W An (doV m.nums) ∧ Bs W Av m.vbytes ∧
  m.peers.length ≤ 1048576 ∧ m.deeds.length ≤ 1048576 ∧ m.epochs.length ≤ 1048576 ∧ m.nums.length ≤ 1048576 ∧ m.vbytes.length ≤ 1048576 := by
 obtain ⟨cs, rfl, hsz⟩ := okWide_struct Tryz.underlying37 hv
 obtain ⟨m, Ap, Ad, Ae, An, Av, cp, cd, ce, cn, cv, h1, h2, h3, h4, h5, h6, h7⟩ := OpensB.mail.arg h hw
 refine ⟨m, Ap, Ad, Ae, An, Av, cp, cd, ce, cn, cv, ?_, h2.sl, h3, h4.sl, h5.sl, h6.bs, h7⟩
 simp only [Value.cells] at h1
 congr 1
 exact Array.toList_inj.1 h1
set_option maxRecDepth 20000 in
theorem open_bytesC {spare : Nat → Bool} (hv : Value.okWide Tryz.prog W .any b 22 v) (h : DataW.Trod enc Tryz.prog W base spare held 22 v d p) (hw : Rows.uptoBulk d ≤ 1048576) :
 ∃ (A : Option Addr) (cap : Nat) (l : By), v = .slice A l.length cap ∧ Bs W A l ∧ l.length ≤ cap ∧ cap ≤ 9223372036854775807 ∧ l.length ≤ 1048576 := by
 obtain ⟨A, cap, l, e, h1, h2, h3⟩ := open_bytesB hv h hw
 refine ⟨A, cap, l, e, h1, h2, ?_, h3⟩
 subst e
 obtain ⟨fuel, hf⟩ := h
 rcases open_ints Tryz.underlying22 Tryz.underlying5 (by kernel_rfl) hf with ⟨hcs, _⟩ | ⟨x, l', c, zs, hcs, _, hl, hm, _⟩
 ·simp [Value.cells] at hcs
  omega
 ·simp [Value.cells] at hcs
  obtain ⟨_, _, rfl⟩ := hcs
  exact hm
end
end Go.Proofs.YthlppbbejdeeoaaGreatDoor
namespace Go.Proofs.YthlppbbejdeeoaaGreatDoor
open Go.ChangeShapes Go.WideShapes Go.ChangeAt Go.RowKit
open Go.ChangeMaps (open_string shut_string)
set_option maxRecDepth 20000 in
theorem first_eq : Rows.laid_unicode_utf8_first = Lib.firstData := by kernel_rfl
set_option maxRecDepth 20000 in
theorem accept_eq : (Rows.laid_unicode_utf8_acceptRanges : DataW Unit) = Lib.acceptData := by kernel_rfl
set_option maxRecDepth 20000 in
/-- the two tables, as each row of this seat lists them -/
theorem tabs_laid {W : World} (l : List (String × DataW Unit)) (hl : l = Rows.wireTakesUptoRow.laid) (h : laidMetH Tryz.prog l W) : Tabs W := by
 subst hl
 have hL : laidMet Tryz.prog Rows.wireTakesUptoRow.laid W := h
 exact utf8Tabs_of_reads (ρ := Tryz.lays197_ren) { Tryz.lays197 with } ⟨by kernel_rfl, by kernel_rfl, by kernel_rfl, by kernel_rfl, by kernel_rfl, by kernel_rfl, by kernel_rfl⟩ (Lib.laidMet.reads hL (by rw [← first_eq]; exact .tail _ (.head _))) (Lib.laidMet.reads hL (by rw [← accept_eq]; exact .head _))
/-- the settled world, the two tables holding what their initialisers lay -/
noncomputable def laidWorld (os : Os) : World :=
 let w0 := World.holding Tryz.prog os ⟨#[], #[], []⟩
 let put (h : Array Obj) (g : Nat) (cs : Array Value) : Array Obj := h.modify g fun
  | .cells _ t frozen => .cells cs t frozen
  | o => o
 let h1 := put w0.heap 0 (Lib.firstTab.map fun z => Value.int .u8 z).toArray
 let h2 := put h1 1 ((List.range 16).flatMap fun i => [Value.int .u8 (Lib.accLo i), Value.int .u8 (Lib.accHi i)]).toArray
 { w0 with heap := h2 }
set_option maxRecDepth 20000 in
theorem tabs_met (os : Os) (args : Array Value) : laidMet Tryz.prog Rows.wireTakesUptoRow.laid ((laidWorld os).forCall (fun _ _ => 0) ⟨#[], args, []⟩).memory :=
 laidMet_of_run' 8 (by kernel_rfl) (by kernel_rfl)
end Go.Proofs.YthlppbbejdeeoaaGreatDoor
