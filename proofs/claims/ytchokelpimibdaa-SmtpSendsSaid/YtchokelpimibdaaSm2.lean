/- A session in memory; addresses and answers as rows of cells; the walks of smtp.say, behind, rest. Conditions: the hypotheses of each theorem. -/
import Derived.Test.YtchokelpimibdaaSm1
import Derived.Test.YtchokelpimibdaaSmU
import Derived.Test.YtchokelpimibdaaLn8
import Derived.Test.YtchokelpimibdaaStop
import Derived.Test.YtchokelpimibdaaElem
import Derived.Test.YtchokelpimibdaaStep
import Derived.Deep.RegionHeld3
namespace Go.Proofs.Ytchokelpimibdaa
open Go.RowKit
def RAd : Reading Ad where
  says _ _ cs x := cs = [.string (st x.1), .string (st x.2)]
  kept := fun h _ => h
  old := fun h _ => h
def RSt : Reading By where
  says _ _ cs x := cs = [.string (st x)]
  kept := fun h _ => h
  old := fun h _ => h
def sesC (q : Nat) (s : Se) (v : Value) : Array Value := #[.string (st hereB), .pointer (some ⟨q, 0, none⟩), .int .i64 (s.st : Int), .bool s.hello, .string (st s.fl), .string (st s.fd), v]
/-- the session at p, its buffer at q; its rows lie in no block of M -/
structure IsS (M : List Nat) (w : World) (p q : Nat) (s : Se) : Prop where
  row : ∃ A c, w.heap[p]? = some (.cells (sesC q s (.slice A s.to_.length c)) 57 (0, 0)) ∧ RsM RAd 2 M w A s.to_ ∧ s.to_.length ≤ c ∧ c ≤ 9223372036854775807
  ln : IsLn M w q s.buf
  pM : p ∈ M
  qM : q ∈ M
  ne : p ≠ q
  lt : ∀ k ∈ M, k < w.heap.size
  ok : s.Ok
  ml : ML w
  mp : 0 ≠ p
  mq : 0 ≠ q
section
variable {M N : List Nat} {w w' : World} {p q : Nat} {s : Se}
theorem IsS.kept (h : IsS M w p q s) (hk : Kept N w w') (hp : p ∉ N) (hq : q ∉ N) (hs : ∀ k ∈ N, k ∈ M) (hm : 0 ∉ N) : IsS M w' p q s := by
  obtain ⟨A, c, h1, h2, h3, h4⟩ := h.row
  exact ⟨⟨A, c, hk.heap h1 hp, h2.kept (hk.mono hs), h3, h4⟩, h.ln.kept hk hq hs, h.pM, h.qM, h.ne, fun k hk' => Nat.lt_of_lt_of_le (h.lt k hk') hk.size, h.ok, h.ml.kept hk hm, h.mp, h.mq⟩
theorem IsS.ext (h : IsS M w p q s) (hx : Ext w w') : IsS M w' p q s := h.kept (N := []) (.of_ext hx) (by simp) (by simp) (by simp) (by simp)
theorem IsS.old (h : IsS M w p q s) (hs : ∀ k ∈ N, k ∈ M ∨ w.heap.size ≤ k) (hp : p ∈ N) (hq : q ∈ N) (hl : ∀ k ∈ N, k < w.heap.size) : IsS N w p q s := by
  obtain ⟨A, c, h1, h2, h3⟩ := h.row
  exact ⟨⟨A, c, h1, h2.old hs, h3⟩, h.ln.old hs, hp, hq, h.ne, hl, h.ok, h.ml, h.mp, h.mq⟩
theorem IsS.grow (h : IsS M w p q s) (hx : Ext w w') (hs : ∀ k ∈ N, k ∈ M ∨ w.heap.size ≤ k) (hp : p ∈ N) (hq : q ∈ N) (hl : ∀ k ∈ N, k < w'.heap.size) : IsS N w' p q s := by
  obtain ⟨A, c, h1, h2, h3⟩ := h.row
  exact ⟨⟨A, c, hx.obj h1, (h2.old hs).kept (.of_ext hx), h3⟩, (h.ln.old hs).ext hx, hp, hq, h.ne, hl, h.ok, h.ml.ext hx, h.mp, h.mq⟩
theorem IsS.plt (h : IsS M w p q s) : p < w.heap.size := h.lt p h.pM
theorem IsS.qlt (h : IsS M w p q s) : q < w.heap.size := h.lt q h.qM
end
theorem row7_at {w : World} {p t : Nat} {a b c d e f g : Value} (h : w.heap[p]? = some (.cells #[a, b, c, d, e, f, g] t (0, 0))) : (∀ w', Ext w w' → w'.cell? ⟨p, 0, none⟩ = some a) ∧ (∀ w', Ext w w' → w'.cell? ⟨p, 1, none⟩ = some b) ∧ (∀ w', Ext w w' → w'.cell? ⟨p, 2, none⟩ = some c) ∧
    (∀ w', Ext w w' → w'.cell? ⟨p, 3, none⟩ = some d) ∧ (∀ w', Ext w w' → w'.cell? ⟨p, 6, none⟩ = some g) ∧ (∀ w' j, Ext w w' → w'.frozen? ⟨p, j, none⟩ = false) := by
  refine ⟨fun w' hx => ?_, fun w' hx => ?_, fun w' hx => ?_, fun w' hx => ?_, fun w' hx => ?_, fun w' j hx => frozen_of_row _ p j _ _ (hx.obj h)⟩ <;> simp [World.cell?, hx.obj h]
/-- one cell turns, and neither the bytes nor the recipients -/
theorem IsS.set {M : List Nat} {w : World} {p q : Nat} {s : Se} (h : IsS M w p q s) (j : Nat) (u : Value) (s' : Se) (hb : s'.buf = s.buf) (ht : s'.to_ = s.to_) (ho : s'.Ok) (hc : ∀ v, (sesC q s v).setIfInBounds j u = sesC q s' v) :
    IsS M (w.setCell ⟨p, j, none⟩ u) p q s' ∧ Kept [p] w (w.setCell ⟨p, j, none⟩ u) := by
  obtain ⟨A, c, h1, h2, h3⟩ := h.row
  have hk : Kept [p] w (w.setCell ⟨p, j, none⟩ u) := (Kept.refl _ _).setCell (.inl (by simp)) _
  have hpM : ∀ k ∈ [p], k ∈ M := by intro k hk; simp at hk; subst hk; exact h.pM
  refine ⟨⟨⟨A, c, ?_, ?_⟩, ?_, h.pM, h.qM, h.ne, fun k hk' => Nat.lt_of_lt_of_le (h.lt k hk') hk.size, ho, h.ml.kept hk (by simpa using h.mp), h.mp, h.mq⟩, hk⟩
  · rw [ht, ← hc]
    exact heap_setCell_same w p j _ _ u h1
  · rw [ht]
    exact ⟨h2.kept (hk.mono hpM), h3⟩
  · rw [hb]
    exact h.ln.kept hk (by simpa using h.ne.symm) hpM
/-- the recipients turn: a row that lies in no block of M -/
theorem IsS.setTo {M : List Nat} {w : World} {p q : Nat} {s : Se} (h : IsS M w p q s) (A : Option Addr) (c : Nat) (l : List Ad) (hr : RsM RAd 2 M w A l) (hc : l.length ≤ c) (hm : c ≤ 9223372036854775807) (ho : (Se.mk s.buf s.st s.hello s.fl s.fd l).Ok) :
    IsS M (w.setCell ⟨p, 6, none⟩ (.slice A l.length c)) p q ⟨s.buf, s.st, s.hello, s.fl, s.fd, l⟩ ∧ Kept [p] w (w.setCell ⟨p, 6, none⟩ (.slice A l.length c)) := by
  obtain ⟨A0, c0, h1, h2, h3⟩ := h.row
  have hk : Kept [p] w (w.setCell ⟨p, 6, none⟩ (.slice A l.length c)) := (Kept.refl _ _).setCell (.inl (by simp)) _
  have hpM : ∀ k ∈ [p], k ∈ M := by intro k hk; simp at hk; subst hk; exact h.pM
  refine ⟨⟨⟨A, c, ?_, hr.kept (hk.mono hpM), hc, hm⟩, h.ln.kept hk (by simpa using h.ne.symm) hpM, h.pM, h.qM, h.ne, fun k hk' => Nat.lt_of_lt_of_le (h.lt k hk') hk.size, ho, h.ml.kept hk (by simpa using h.mp), h.mp, h.mq⟩, hk⟩
  exact heap_setCell_same w p 6 _ _ _ h1
theorem Kept.pq {p q : Nat} {w w' : World} (h : Kept [p] w w') : Kept [p, q] w w' := h.mono (by intro k hk; simp at hk; subst hk; simp)
theorem Kept.qp {p q : Nat} {w w' : World} (h : Kept [q] w w') : Kept [p, q] w w' := h.mono (by intro k hk; simp at hk; subst hk; simp)
/-! ## answers -/
def outC (o : Ou) (A1 : Option Addr) (c1 : Nat) (A2 : Option Addr) (c2 : Nat) (A3 : Option Addr) (c3 : Nat) : List Value :=
  [.slice A1 o.lines.length c1, .bool o.send, .string (st o.fl), .string (st o.fd), .slice A2 o.to_.length c2, .slice A3 o.bytes.length c3, .string ⟨#[]⟩, .slice none 0 0, .bool o.close]
def ROu : Reading Ou where
  says M w cs o := ∃ A1 c1 A2 c2 A3 c3, cs = outC o A1 c1 A2 c2 A3 c3 ∧ RsM RSt 1 M w A1 o.lines ∧ RsM RAd 2 M w A2 o.to_ ∧ BsM M w A3 o.bytes
  kept := by
    rintro M w w' cs x ⟨A1, c1, A2, c2, A3, c3, h0, h1, h2, h3⟩ hx
    exact ⟨A1, c1, A2, c2, A3, c3, h0, h1.kept hx, h2.kept hx, h3.kept hx⟩
  old := by
    rintro M N w cs x ⟨A1, c1, A2, c2, A3, c3, h0, h1, h2, h3⟩ hx
    exact ⟨A1, c1, A2, c2, A3, c3, h0, h1.old hx, h2.old hx, SlM.old h3 hx⟩
/-- an answer whose rows are new: they lie in no block that there was -/
def NewO (b : Nat) (w : World) (cs : List Value) (o : Ou) : Prop := ∀ N : List Nat, (∀ k ∈ N, k < b) → ROu.says N w cs o
theorem NewO.kept {b : Nat} {N : List Nat} {w w' : World} {cs : List Value} {o : Ou} (h : NewO b w cs o) (hk : Kept N w w') (hN : ∀ k ∈ N, k < b) : NewO b w' cs o := fun M hM =>
  ROu.old (ROu.kept (h (M ++ N) fun k hk => by
    rcases List.mem_append.1 hk with h1 | h1
    · exact hM k h1
    · exact hN k h1) (hk.mono fun k hk => List.mem_append_right _ hk)) fun k hk => .inl (List.mem_append_left _ hk)
theorem NewO.ext {b : Nat} {w w' : World} {cs : List Value} {o : Ou} (h : NewO b w cs o) (hx : Ext w w') : NewO b w' cs o := h.kept (N := []) (.of_ext hx) (by simp)
theorem NewO.low {b c : Nat} {w : World} {cs : List Value} {o : Ou} (h : NewO b w cs o) (hc : c ≤ b) : NewO c w cs o := fun N hN => h N fun k hk => Nat.lt_of_lt_of_le (hN k hk) hc
theorem NewO.no (b : Nat) (w : World) : NewO b w (outC Ou.no none 0 none 0 none 0) Ou.no := fun _ _ => ⟨none, 0, none, 0, none, 0, rfl, RsM.nil _ _ _ _ _, RsM.nil _ _ _ _ _, SlM.nil _ _ _⟩
theorem strs_one (w : World) (l : By) (t : Nat) (b : Nat) (hb : b ≤ w.heap.size) (N : List Nat) (hN : ∀ k ∈ N, k < b) : RsM RSt 1 N (w.alloc (.cells #[.string (st l)] t)) (some ⟨w.heap.size, 0, none⟩) [l] := by
  refine ⟨[[.string (st l)]], rfl, by simp, SlM.new w _ _ rfl t (0, 0) N fun k hk => Nat.lt_of_lt_of_le (hN k hk) hb, fun k cs x hk hx => ?_⟩
  cases k with
  | zero => simp at hk hx; subst hk hx; rfl
  | succ k => simp at hk
theorem NewO.line {b : Nat} {w : World} {l : By} {A : Option Addr} {c : Nat} (cl : Bool) (h : ∀ N : List Nat, (∀ k ∈ N, k < b) → RsM RSt 1 N w A [l]) : NewO b w (outC ⟨[l], false, [], [], [], [], cl⟩ A c none 0 none 0) ⟨[l], false, [], [], [], [], cl⟩ :=
  fun N hN => ⟨A, c, none, 0, none, 0, rfl, h N hN, RsM.nil _ _ _ _ _, SlM.nil _ _ _⟩
def zOut : Array Value := (outC Ou.no none 0 none 0 none 0).toArray
theorem aout_info : (Try.prog.info? 39).map (fun i => (i.zero, i.size)) = some (some (.agg zOut), 9) := by kernel_rfl
theorem aout_size {cs : Array Value} (h : cs.size = 9) : (Try.prog.info? 39).map (·.size) = some cs.size := by
  rw [h]
  exact (zero_of_info aout_info).2
theorem outC_one {o : Ou} {A1 : Option Addr} {c1 : Nat} {A2 : Option Addr} {c2 : Nat} {A3 : Option Addr} {c3 : Nat} : (outC o A1 c1 A2 c2 A3 c3).toArray.all (·.oneCell') = true := by simp [outC, Value.oneCell']
theorem results_cell0 {P : Program} {fn : Func} {p : Tmp} {ty : TypeId} (h : fn.results = #[.cell p ty]) (tmps : Array Value) (w : World) (g : Nat) (t : TypeId) (cs : Array Value) (fr : Nat × Nat) (d : TypeDesc)
    (hp : tmps.getD p undef = .pointer (some ⟨g, 0, none⟩)) (hg : w.heap[g]? = some (.cells cs t fr))
    (hu : P.underlying ty = some d) (hd : (match d with | .struct _ | .array _ _ => true | _ => false) = true) (hi : (P.info? ty).map (·.size) = some cs.size) :
    (results fn tmps).run P w = .ok (.agg cs) w := by
  have hp' : tmps[p]?.getD undef = .pointer (some ⟨g, 0, none⟩) := by simpa using hp
  simp [results, h, hp', asAddr, run_loadVar_row w g t ty cs fr d hg hu hd hi]
theorem results_cell1 {P : Program} {fn : Func} {p u : Tmp} {ty : TypeId} (h : fn.results = #[.cell p ty, .tmp u]) (tmps : Array Value) (w : World) (g : Nat) (t : TypeId) (cs : Array Value) (fr : Nat × Nat) (d : TypeDesc)
    (hp : tmps.getD p undef = .pointer (some ⟨g, 0, none⟩)) (hg : w.heap[g]? = some (.cells cs t fr))
    (hu : P.underlying ty = some d) (hd : (match d with | .struct _ | .array _ _ => true | _ => false) = true) (hi : (P.info? ty).map (·.size) = some cs.size) :
    (results fn tmps).run P w = .ok (.tuple #[.agg cs, tmps.getD u undef]) w := by
  have hp' : tmps[p]?.getD undef = .pointer (some ⟨g, 0, none⟩) := by simpa using hp
  simp [results, h, hp', asAddr, run_loadVar_row w g t ty cs fr d hg hu hd hi]
theorem say_any (l : By) (w : World) : Calls Try.prog 22 #[.string (st l)] w fun e w' => ∃ cs, e = .returned (.agg cs.toArray) ∧ NewO w.heap.size w' cs (sayO l) ∧ Ext w w' := by
  go_enter Try.func22, Try.ntmps22
  go_wp2_with (with_reducible refine stop_alloc 39 ?_)
  refine go_on (wpList_alloc_ rfl rfl aout_info ?_)
  generalize hwa : w.alloc (.cells zOut 39) = wa
  have hxa : Ext w wa := hwa ▸ (Ext.refl w).alloc _
  have hra : wa.heap[w.heap.size]? = some (.cells zOut 39 (0, 0)) := hwa ▸ heap_alloc_new w _
  have HXA := Lib.hid hxa
  have HRA := Lib.hid hra
  clear hwa hxa hra
  go_wp2_with (with_reducible refine stop_store 39 ?_)
  have hs := strs_one wa l 9 (w.heap.size + 1) (obj_lt HRA.out)
  have hxb : Ext wa (wa.alloc (.cells #[.string (st l)] 9)) := (Ext.refl wa).alloc _
  refine go_on (wpList_store_whole (g := w.heap.size) rfl rfl rfl rfl (hxb.obj HRA.out) (aout_size rfl) rfl (by simp [Value.oneCell']) ?_)
  intro W hrow hk _
  have hs2 := fun N (hN : ∀ k ∈ N, k < w.heap.size) => RsM.old ((hs (N ++ [w.heap.size]) (fun k hk => by
    rcases List.mem_append.1 hk with h1 | h1
    · have := hN k h1; omega
    · simp at h1; omega)).kept (hk.mono (N := N ++ [w.heap.size]) (by simp))) (N := N) (by intro k hk; exact .inl (List.mem_append_left _ hk))
  go_wp2
  ((try simp only [Exit.inBlock, Exit.then]); refine bodyPost_ret (results_cell0 rfl _ _ w.heap.size _ _ _ _ rfl hrow Try.underlying39 rfl (by kernel_rfl)) rfl ?_)
  exact ⟨_, rfl, NewO.line false hs2, (HXA.out.trans hxb).kept hk (one_ge (Nat.le_refl _))⟩
theorem behind_any (s word : ByteArray) (w : World) (hw : word.size ≤ 140737488355328) :
    Calls Try.prog 51 #[.string s, .string word] w fun e w' => e = .returned (.tuple #[.string (st (behindT (tl s) (tl word)).1), .bool (behindT (tl s) (tl word)).2]) ∧ Ext w w' := by
  by_cases h1 : s.size < word.size
  · have hB : behindT (tl s) (tl word) = ([], false) := by unfold behindT; rw [if_pos (.inl (by simpa using h1))]
    have h2 : (s.size : Int) < (word.size : Int) := by omega
    rw [hB]
    clear hB h1
    go_enter Try.func51, Try.ntmps51
    go_wp2
    go_ret2
    exact ⟨rfl, Ext.refl _⟩
  · have h2 : ¬ (s.size : Int) < (word.size : Int) := by omega
    have h3 : (word.size : Int) ≤ (s.size : Int) := by omega
    have HS := Same_any (s.extract 0 word.size) word w (by simp; omega) hw
    have hX : tl (s.extract 0 word.size) = (tl s).take word.size := by rw [ex_st, tl_st]; rfl
    have hY : Hid (s.extract word.size s.size = st ((tl s).drop word.size)) := Lib.hid (by rw [ex_st, show s.size = (tl s).length by simp, List.take_length])
    rw [hX] at HS
    by_cases he : lowL ((tl s).take word.size) = lowL (tl word)
    · have hB : Hid (behindT (tl s) (tl word) = ((tl s).drop word.size, true)) := Lib.hid (by unfold behindT; rw [if_neg (by rw [tl_length, tl_length]; exact fun h => h.elim h1 fun h => h he)]; rw [tl_length])
      rw [decide_eq_true he] at HS
      clear he h1 hX
      go_enter Try.func51, Try.ntmps51
      go_wp2_with fail
      refine HS.mono ?_
      rintro e w1 ⟨rfl, hx1⟩
      go_wp2
      go_ret2
      rw [hB.out, ← hY.out]
      exact ⟨rfl, hx1⟩
    · have hB : Hid (behindT (tl s) (tl word) = ([], false)) := Lib.hid (by unfold behindT; rw [if_pos (.inr (by rw [tl_length]; exact he))])
      rw [decide_eq_false he] at HS
      clear he h1 hX
      go_enter Try.func51, Try.ntmps51
      go_wp2_with fail
      refine HS.mono ?_
      rintro e w1 ⟨rfl, hx1⟩
      go_wp2
      go_ret2
      rw [hB.out]
      exact ⟨rfl, hx1⟩
theorem ad_zero : (Try.prog.info? 35).map (fun i => (i.zero, i.size)) = some (some (.agg zAddr), 2) := by kernel_rfl
theorem ad_size (x y : Value) : (Try.prog.info? 35).map (·.size) = some (#[x, y] : Array Value).size := (zero_of_info ad_zero).2
/-- the sender turns -/
theorem wpList_store_from {P : Program} {ops : Array Oper} {rest : List Oper} {o : Oper} {a : Act} {w : World} {Q : Exit → Act → World → Prop} {M : List Nat} {p q : Nat} {s : Se} {x y : Operand} {fl fd : By} (h : IsS M w p q s) (hgd : o.guard = none) (ho : o.op = .store 35 x y)
    (hx : a.eval x = .pointer (some ⟨p, 4, none⟩)) (hy : a.eval y = .agg #[.string (st fl), .string (st fd)]) (hi : (P.info? 35).map (·.size) = some 2)
    (hh : ∀ W, IsS M W p q ⟨s.buf, s.st, s.hello, fl, fd, s.to_⟩ → Kept [p] w W → W.heap.size = w.heap.size → wpList P ops Q rest (a.put o.dst undef) W) : wpList P ops Q (o :: rest) a w := by
  obtain ⟨A, c, h1, -, -⟩ := h.row
  have hth : w.there p 4 2 := fun j hj => by
    have : j = 0 ∨ j = 1 := by omega
    rcases this with rfl | rfl
    · exact ⟨by simp [World.cell?, h1, sesC], frozen_of_row _ p _ _ _ h1⟩
    · exact ⟨by simp [World.cell?, h1, sesC], frozen_of_row _ p _ _ _ h1⟩
  obtain ⟨g1, g2⟩ := h.set 4 (.string (st fl)) ⟨s.buf, s.st, s.hello, fl, s.fd, s.to_⟩ rfl rfl ⟨h.ok.buf, h.ok.to_, h.ok.ads, h.ok.st⟩ (fun v => rfl)
  obtain ⟨g3, g4⟩ := g1.set 5 (.string (st fd)) ⟨s.buf, s.st, s.hello, fl, fd, s.to_⟩ rfl rfl ⟨h.ok.buf, h.ok.to_, h.ok.ads, h.ok.st⟩ (fun v => rfl)
  refine wpList_store_mid hgd 35 x y ho p 4 #[.string (st fl), .string (st fd)] hx hy hth hi (by simp [Value.oneCell']) (hh _ ?_ ?_ ?_)
  · exact g3
  · exact g2.trans g4
  · simp [World.setCells]
/-- what the walk asks of a session's cells -/
theorem IsS.cells {M : List Nat} {w : World} {p q : Nat} {s : Se} (h : IsS M w p q s) : (∀ w', Ext w w' → w'.cell? ⟨p, 1, none⟩ = some (.pointer (some ⟨q, 0, none⟩))) ∧ (∀ w', Ext w w' → w'.cell? ⟨p, 2, none⟩ = some (.int .i64 (s.st : Int))) ∧ (∀ w', Ext w w' → w'.cell? ⟨p, 3, none⟩ = some (.bool s.hello)) ∧ (∀ w' j, Ext w w' → w'.frozen? ⟨p, j, none⟩ = false) := by
  obtain ⟨A, c, h1, -, -⟩ := h.row
  obtain ⟨_, c1, c2, c3, _, cf⟩ := row7_at h1
  exact ⟨c1, c2, c3, cf⟩
set_option maxHeartbeats 1000000 in
theorem srest_any {M : List Nat} {w : World} {p q : Nat} {s : Se} (h : IsS M w p q s) : Calls Try.prog 24 #[pt p] w fun e w' => e = .returned (.tuple #[]) ∧ IsS M w' p q (restS s) ∧ Kept [p] w w' := by
  have HS := Lib.hid h
  unfold pt
  clear h
  go_enter Try.func24, Try.ntmps24
  go_wp2_with (with_reducible refine stop_store 35 ?_)
  refine go_on (wpList_store_from (fl := []) (fd := []) HS.out rfl rfl rfl rfl (ad_size (.string (st [])) (.string (st []))) ?_)
  intro w1 h1 hk1 _
  obtain ⟨h2, hk2⟩ := h1.setTo none 0 [] (RsM.nil _ _ _ _ _) (by simp) (by simp) ⟨h1.ok.buf, by simp, fun a ha => (by cases ha), h1.ok.st⟩
  obtain ⟨h3, hk3⟩ := h2.set 2 (.int .i64 1) ⟨s.buf, 1, s.hello, [], [], []⟩ rfl rfl ⟨h2.ok.buf, h2.ok.to_, h2.ok.ads, by simp⟩ (fun v => rfl)
  obtain ⟨h4, hk4⟩ := h3.set 2 (.int .i64 2) ⟨s.buf, 2, s.hello, [], [], []⟩ rfl rfl ⟨h2.ok.buf, h2.ok.to_, h2.ok.ads, by simp⟩ (fun v => rfl)
  have c3 := h1.cells.2.2.1 w1 (Ext.refl _)
  have c2 := h1.cells.2.1 w1 (Ext.refl _)
  obtain ⟨A6, n6, r6, -, -⟩ := h1.row
  have c6 := (row7_at r6).2.2.2.2.1 w1 (Ext.refl _)
  have cf := fun j => h1.cells.2.2.2 w1 j (Ext.refl _)
  have H3 := Lib.hid h3
  have H4 := Lib.hid h4
  have K3 := Lib.hid (hk1.trans (hk2.trans hk3))
  have K4 := Lib.hid (hk1.trans (hk2.trans (hk3.trans hk4)))
  clear h1 h2 h3 h4 hk1 hk2 hk3 hk4 r6
  cases hh : s.hello with
  | true =>
    rw [hh] at c3 H4
    have E : Hid (restS s = ⟨s.buf, 2, true, [], [], []⟩) := Lib.hid (by unfold restS; rw [hh]; rfl)
    clear hh
    go_wp2
    go_end0
    rw [E.out]
    exact ⟨rfl, H4.out, K4.out⟩
  | false =>
    rw [hh] at c3 H3
    have E : Hid (restS s = ⟨s.buf, 1, false, [], [], []⟩) := Lib.hid (by unfold restS; rw [hh]; rfl)
    clear hh
    go_wp2
    go_end0
    rw [E.out]
    exact ⟨rfl, H3.out, K3.out⟩
end Go.Proofs.Ytchokelpimibdaa
