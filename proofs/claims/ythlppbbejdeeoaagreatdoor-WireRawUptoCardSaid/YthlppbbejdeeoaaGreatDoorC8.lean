/- What is cut off bytes that are read one behind the other (none: they ended). Plain definitions; no program. What is read, as functions of what there is to be read: numbers, texts, letters, boxes, users, deeds. Plain laws; conditions: the hypotheses of each theorem. What is put is taken, and the other way round; the reference's Same and SameAll at deeds that are the same. Conditions: the hypotheses of each theorem. What wire.Take tells, as a parser, and that it undoes what is put. Plain laws; no program. Conditions: the hypotheses of each theorem. -/
import Derived.Test.YthlppbbejdeeoaaGreatDoorC0
import Derived.Test.YthlppbbejdeeoaaGreatDoorC6
import Derived.Test.YthlppbbejdeeoaaGreatDoorC3
import Derived.Test.YthlppbbejdeeoaaGreatDoorC7
namespace Go.Proofs.YthlppbbejdeeoaaGreatDoor
open Go.RowKit
def cutV (n : Nat) : Option By → By
 | none => []
 | some l => if l.length < n then [] else l.take n
def cutQ (n : Nat) : Option By → Option By
 | none => none
 | some l => if l.length < n then none else some (l.drop n)
theorem cutV_le (n : Nat) (q : Option By) : (cutV n q).length ≤ n := by
 cases q with
 | none => simp [cutV]
 | some l =>
  unfold cutV
  simp only
  split
  ·simp
  ·rw [List.length_take]; omega
end Go.Proofs.YthlppbbejdeeoaaGreatDoor
namespace Go.Proofs.YthlppbbejdeeoaaGreatDoor
open Go.RowKit
structure Sim {α : Type} (p : Prs α) (Q : Option By → Option By) (V : Option By → α) : Prop where
 no : Q none = none
 go : ∀ l, p l = match Q (some l) with | none => .inl 3 | some r => .inr (V (some l), r)
theorem Sim.num (n : Nat) : Sim (numP n) (cutQ n) (fun q => valB (cutV n q)) := ⟨rfl, fun l => by
 unfold numP cutQ cutV
 by_cases h : l.length < n <;> simp [h]⟩
theorem Sim.take (n : Nat) : Sim (takeP n) (cutQ n) (cutV n) := ⟨rfl, fun l => by
 unfold takeP cutQ cutV
 by_cases h : l.length < n <;> simp [h]⟩
theorem Sim.pure {α : Type} (a : α) : Sim (pureP a) (fun q => q) (fun _ => a) := ⟨rfl, fun _ => rfl⟩
theorem Sim.and {α β : Type} {p : Prs α} {f : α → Prs β} {Q : Option By → Option By} {V : Option By → α} {Q2 : α → Option By → Option By} {V2 : α → Option By → β} (h : Sim p Q V) (hf : ∀ a, Sim (f a) (Q2 a) (V2 a)) :
 Sim (andP p f) (fun q => Q2 (V q) (Q q)) (fun q => V2 (V q) (Q q)) := by
 refine ⟨by simp only [h.no]; exact (hf _).no, fun l => ?_⟩
 unfold andP
 rw [h.go l]
 cases hq : Q (some l) with
 | none => simp only [(hf _).no]
 | some r => exact (hf _).go r
def repQ (Q : Option By → Option By) : Nat → Option By → Option By
 | 0, q => q
 | _ + 1, none => none
 | n + 1, some l => repQ Q n (Q (some l))
def repV {α : Type} (Q : Option By → Option By) (V : Option By → α) : Nat → Option By → List α
 | 0, _ => []
 | _ + 1, none => []
 | n + 1, some l => V (some l) :: repV Q V n (Q (some l))
theorem repQ_none (Q : Option By → Option By) (n : Nat) : repQ Q n none = none := by cases n <;> rfl
theorem repV_none {α : Type} (Q : Option By → Option By) (V : Option By → α) (n : Nat) : repV Q V n none = [] := by cases n <;> rfl
theorem repV_le {α : Type} (Q : Option By → Option By) (V : Option By → α) : ∀ (n : Nat) (q : Option By), (repV Q V n q).length ≤ n
 | 0, _ => by simp [repV]
 | _ + 1, none => by simp [repV]
 | n + 1, some l => by simp only [repV, List.length_cons]; have := repV_le Q V n (Q (some l)); omega
theorem Sim.rep {α : Type} {p : Prs α} {Q : Option By → Option By} {V : Option By → α} (h : Sim p Q V) (n : Nat) : Sim (repA p n []) (repQ Q n) (repV Q V n) := by
 refine ⟨repQ_none Q n, ?_⟩
 induction n with
 | zero => intro l; rfl
 | succ n ih =>
  intro l
  unfold repA andP
  rw [h.go l]
  simp only [repQ, repV]
  cases hq : Q (some l) with
  | none => simp only [repQ_none]
  | some r =>
   simp only
   rw [repA_acc, ih r]
   cases repQ Q n (some r) <;> simp
/-! ## letters, boxes, users -/
def shQ (q : Option By) : Option By := cutQ (valB (cutV 1 q)) (cutQ 1 q)
def shV (q : Option By) : By := cutV (valB (cutV 1 q)) (cutQ 1 q)
def loQ (q : Option By) : Option By := cutQ (valB (cutV 2 q)) (cutQ 2 q)
def loV (q : Option By) : By := cutV (valB (cutV 2 q)) (cutQ 2 q)
theorem Sim.short : Sim shortP shQ shV := (Sim.num 1).and fun a => Sim.take a
theorem Sim.long : Sim longP loQ loV := (Sim.num 2).and fun a => Sim.take a
def letQ (q : Option By) : Option By := loQ (cutQ 1 (cutQ 4 q))
def letV (q : Option By) : Lt := ⟨(valB (cutV 4 q) : Nat), UInt8.ofNat (valB (cutV 1 (cutQ 4 q))), loV (cutQ 1 (cutQ 4 q))⟩
theorem Sim.letter : Sim letP letQ letV := (Sim.num 4).and fun _ => (Sim.num 1).and fun _ => Sim.long.and fun _ => Sim.pure _
def boxQ4 (q : Option By) : Option By := cutQ 4 (cutQ 4 (shQ q))
def boxQ (q : Option By) : Option By := repQ letQ (valB (cutV 1 (boxQ4 q))) (cutQ 1 (boxQ4 q))
def boxV (q : Option By) : Bx := ⟨shV q, (valB (cutV 4 (shQ q)) : Nat), (valB (cutV 4 (cutQ 4 (shQ q))) : Nat), repV letQ letV (valB (cutV 1 (boxQ4 q))) (cutQ 1 (boxQ4 q))⟩
theorem Sim.box : Sim boxP boxQ boxV := Sim.short.and fun _ => (Sim.num 4).and fun _ => (Sim.num 4).and fun _ => (Sim.num 1).and fun m => (Sim.letter.rep m).and fun _ => Sim.pure _
def usrQ1 (q : Option By) : Option By := cutQ 4 (shQ q)
def usrQ (q : Option By) : Option By := repQ boxQ (valB (cutV 1 (usrQ1 q))) (cutQ 1 (usrQ1 q))
def usrV (q : Option By) : Us := ⟨shV q, (valB (cutV 4 (shQ q)) : Nat), repV boxQ boxV (valB (cutV 1 (usrQ1 q))) (cutQ 1 (usrQ1 q))⟩
theorem Sim.user : Sim userP usrQ usrV := Sim.short.and fun _ => (Sim.num 4).and fun _ => (Sim.num 1).and fun m => (Sim.box.rep m).and fun _ => Sim.pure _
theorem takeUs_sim (l : By) : takeUs l = match usrQ (some l) with
 | none => .inl 3
 | some r => if r = [] then (if checkU (usrV (some l)) ≠ 0 then .inl (checkU (usrV (some l))) else .inr (usrV (some l))) else .inl 4 := by
 unfold takeUs readP
 rw [Sim.user.go l]
 cases usrQ (some l) with
 | none => rfl
 | some r =>
  simp only
  by_cases h : r = [] <;> simp [h]
/-! ## deeds -/
def dedQ0 (q : Option By) : Option By := shQ (shQ (shQ (cutQ 1 q)))
def dedQ (q : Option By) : Option By := loQ (cutQ 4 (cutQ 1 (cutQ 1 (cutQ 1 (cutQ 4 (dedQ0 q))))))
def dedV (q : Option By) : Dd := ⟨(valB (cutV 1 q) : Nat), shV (cutQ 1 q), shV (shQ (cutQ 1 q)), shV (shQ (shQ (cutQ 1 q))), (valB (cutV 4 (dedQ0 q)) : Nat), (valB (cutV 1 (cutQ 4 (dedQ0 q))) : Nat),
 UInt8.ofNat (valB (cutV 1 (cutQ 1 (cutQ 4 (dedQ0 q))))), (valB (cutV 1 (cutQ 1 (cutQ 1 (cutQ 4 (dedQ0 q))))) : Nat), (valB (cutV 4 (cutQ 1 (cutQ 1 (cutQ 1 (cutQ 4 (dedQ0 q)))))) : Nat), loV (cutQ 4 (cutQ 1 (cutQ 1 (cutQ 1 (cutQ 4 (dedQ0 q))))))⟩
theorem Sim.deed : Sim deedP dedQ dedV := (Sim.num 1).and fun _ => Sim.short.and fun _ => Sim.short.and fun _ => Sim.short.and fun _ => (Sim.num 4).and fun _ => (Sim.num 1).and fun _ => (Sim.num 1).and fun _ => (Sim.num 1).and fun _ => (Sim.num 4).and fun _ => Sim.long.and fun _ => Sim.pure _
theorem valB_cut (n : Nat) (q : Option By) : valB (cutV n q) < 256 ^ n := Nat.lt_of_lt_of_le (valB_lt _) (Nat.pow_le_pow_right (by omega) (cutV_le n q))
theorem takeAllT_sim (l : By) : takeAllT l = if 1800 < l.length then .inl 6 else
 match cutQ 1 (some l) with
 | none => .inl 3
 | some r => if ¬ (1 ≤ valB (cutV 1 (some l)) ∧ valB (cutV 1 (some l)) ≤ 12) then .inl 4 else
  match repQ dedQ (valB (cutV 1 (some l))) (some r) with
  | none => .inl 3
  | some r2 => if r2 = [] then (if firstC (repV dedQ dedV (valB (cutV 1 (some l))) (some r)) ≠ 0 then .inl (firstC (repV dedQ dedV (valB (cutV 1 (some l))) (some r))) else .inr (repV dedQ dedV (valB (cutV 1 (some l))) (some r))) else .inl 4 := by
 unfold takeAllT
 by_cases h : 1800 < l.length
 ·rw [if_pos h, if_pos h]
 ·rw [if_neg h, if_neg h]
  unfold readP allP
  conv => lhs; unfold andP
  rw [(Sim.num 1).go l]
  cases hq : cutQ 1 (some l) with
  | none => rfl
  | some r =>
   simp only
   generalize valB (cutV 1 (some l)) = n
   unfold mustP
   by_cases hn : 1 ≤ n ∧ n ≤ 12
   ·simp only [hn.1, hn.2, decide_true, Bool.and_self, if_true]
    rw [(Sim.deed.rep n).go r]
    cases repQ dedQ n (some r) with
    | none => simp
    | some r2 => by_cases h2 : r2 = [] <;> simp [h2]
   ·have e : (decide (1 ≤ n) && decide (n ≤ 12)) = false := by
     by_cases a : 1 ≤ n <;> by_cases b : n ≤ 12 <;> simp [a, b]; exact absurd ⟨a, b⟩ hn
    rw [e]
    simp [hn]
end Go.Proofs.YthlppbbejdeeoaaGreatDoor
namespace Go.Proofs.YthlppbbejdeeoaaGreatDoor
open Go.RowKit
theorem yieldsIf_load_elem {P : Program} {ops : Array Oper} {S : World → Prop} {op : Oper} {a : Act} (hw : Region.wanted op (yielded ops a.tmps) = true) (ty : TypeId) (x : Operand) (ho : op.op = .load ty x)
 (p : Addr) (hx : a.eval x = .pointer (some p)) (cs : List Value) (d : TypeDesc) (hS : ∀ w, S w → ∀ j v, cs[j]? = some v → w.cell? (p.add j) = some v)
 (hu : P.underlying ty = some d) (hd : d.isRow = true) (hi : (P.info? ty).map (·.size) = some cs.length) : YieldsIf P ops S op (.agg cs.toArray) a :=
 .inl ⟨hw, fun w hw' => by
  unfold execOp
  simp only [ho, hx, Instr.loadAt, Instr.sureAddr, Sem.run_bind, Sem.run_pure, Result.andThen_ok, run_loadVar_elem w p ty cs d (hS w hw') hu hd hi]⟩
/-! ## the plain laws -/
theorem putAllT_ok {ds : List Dd} (h : (putAllT ds).2 = 0) : (putAllT ds).1 = putAllB ds ∧ ds.length ≠ 0 ∧ ds.length ≤ 12 ∧ firstC ds = 0 ∧ (putAllB ds).length ≤ 1800 := by
 unfold putAllT at *
 split at h
 ·cases h
 ·rename_i h1
  split at h
  ·cases h
  ·rename_i h2
   split at h
   ·rename_i h3; exact absurd h h3
   ·rename_i h3
    split at h
    ·cases h
    ·rename_i h4
     rw [if_neg h1, if_neg h2, if_neg h3, if_neg h4]
     exact ⟨rfl, h1, by omega, by simpa using h3, by omega⟩
theorem read_all {ds : List Dd} (h1 : 1 ≤ ds.length) (h2 : ds.length ≤ 12) (hok : ∀ d ∈ ds, okD d) : readP allP (putAllB ds) = .inr ds := by
 have e1 : numP 1 (putAllB ds) = .inr (ds.length, ds.flatMap putD ++ []) := (Rt.num 1).put ds.length (ds.flatMap putD ++ []) (by omega)
 have e2 := (Rt.rep Rt.deed ds.length).put ds [] ⟨hok, rfl⟩
 unfold readP allP
 rw [andP_put e1]
 unfold mustP andP
 simp only [h1, h2, decide_true, Bool.and_self, if_true]
 rw [e2]
 rfl
theorem takeAll_put {ds : List Dd} (h : (putAllT ds).2 = 0) : takeAllT (putAllT ds).1 = .inr ds := by
 obtain ⟨e, h1, h2, h3, h4⟩ := putAllT_ok h
 rw [e]
 unfold takeAllT
 rw [if_neg (by omega), read_all (by omega) h2 (fun d hd => (checkD_ok (firstC_of h3 d hd)).2.2.2.2.2.1)]
 simp [h3]
theorem takeAllT_ok {l : By} {ds : List Dd} (h : takeAllT l = .inr ds) : l = putAllB ds ∧ (∀ d ∈ ds, okD d) ∧ 1 ≤ ds.length ∧ ds.length ≤ 12 ∧ firstC ds = 0 ∧ l.length ≤ 1800 := by
 unfold takeAllT at h
 split at h
 ·cases h
 ·rename_i h1
  cases hp : readP allP l with
  | inl e => rw [hp] at h; cases h
  | inr ds' =>
   rw [hp] at h
   simp only at h
   split at h
   ·cases h
   ·rename_i h2
    cases h
    obtain ⟨q1, q2, q3, q4⟩ := okD_all hp
    exact ⟨q1, q2, q3, q4, by simpa using h2, by omega⟩
theorem putAll_take {l : By} {ds : List Dd} (h : takeAllT l = .inr ds) : putAllT ds = (l, 0) := by
 obtain ⟨q1, q2, q3, q4, q5, q6⟩ := takeAllT_ok h
 unfold putAllT
 rw [if_neg (by omega), if_neg (by omega), if_neg (by simp [q5]), ← q1, if_neg (by omega)]
/-! ## the same deeds -/
set_option maxRecDepth 20000 in
set_option maxHeartbeats 4000000 in
theorem DSame_any (d : Dd) (A A' : Option Addr) (c c' : Nat) (w : World) (h : Bs w A d.bytes) (h' : Bs w A' d.bytes) :
 Calls Tryz.prog 49 #[.agg (ddC d (.slice A d.bytes.length c)), .agg (ddC d (.slice A' d.bytes.length c'))] w fun e w' => e = .returned (.bool true) ∧ Ext w w' := by
 obtain ⟨dw, du, db, dt, di, dh, df, dsh, de, dby⟩ := d
 simp only at h h'
 unfold ddC
 have hx1 := ((Ext.refl w).alloc (.cells #[.int .i64 dw, .string (st du), .string (st db), .string (st dt), .int .i64 di, .int .i64 dh, .int .u8 (df.toNat : Int), .int .i64 dsh, .int .i64 de, .slice A dby.length c] 90)).alloc (.cells #[.int .i64 dw, .string (st du), .string (st db), .string (st dt), .int .i64 di, .int .i64 dh, .int .u8 (df.toNat : Int), .int .i64 dsh, .int .i64 de, .slice A' dby.length c'] 90)
 have s1 := run_str (P := Tryz.prog) Tryz.underlying22 Tryz.underlying5 Tryz.underlying9 h dby.length c rfl _ hx1
 have s2 := run_str (P := Tryz.prog) Tryz.underlying22 Tryz.underlying5 Tryz.underlying9 h' dby.length c' rfl _ hx1
 go_enter Tryz.func49, Tryz.ntmps49
 go_wp2
 go_ret
 exact ⟨rfl, hx1⟩
set_option maxRecDepth 20000 in
set_option maxHeartbeats 4000000 in
theorem DSameAll_any (ds : List Dd) (A A' : Option Addr) (c c' : Nat) (w : World) (h : RsM RDd 10 [] w A ds) (h' : RsM RDd 10 [] w A' ds) (hl : ds.length ≤ 140737488351232) :
 Calls Tryz.prog 29 #[.slice A ds.length c, .slice A' ds.length c'] w fun e w' => e = .returned (.bool true) ∧ Ext w w' := by
 go_enter Tryz.func29, Tryz.ntmps29
 go_wp2
 go_loopw [5] (fun iv wr => ∃ k : Nat, iv = .int .i64 k ∧ k ≤ ds.length ∧ Ext w wr) (fun iv _ => ds.length - (intOf iv).toNat)
 case atStart => exact ⟨0, rfl, by omega, Ext.refl w⟩
 case round =>
  obtain ⟨k, rfl, hk, hx⟩ := hrel
  by_cases hlt : k < ds.length
  ·obtain ⟨ad, cs, hA, had, hcs, hcell, A2, cap2, hcs2, hby, _⟩ := h.at_ (by omega) hlt
   obtain ⟨ad', cs', hA', had', hcs', hcell', A3, cap3, hcs3, hby', _⟩ := h'.at_ (by omega) hlt
   subst hA hcs2 hA' hcs3
   have hlt2 : (k : Int) < ds.length := by omega
   have hC : ∀ w', Ext w w' → ∀ j v, (ddC ds[k] (.slice A2 ds[k].bytes.length cap2)).toList[j]? = some v → w'.cell? ((ad.add (k * 10)).add j) = some v := fun w' hx' j v hj => hx'.cell (show w.cell? ((ad.add (k * 10)).add j) = some v by rw [add_addB]; exact hcell j v hj)
   have hC' : ∀ w', Ext w w' → ∀ j v, (ddC ds[k] (.slice A3 ds[k].bytes.length cap3)).toList[j]? = some v → w'.cell? ((ad'.add (k * 10)).add j) = some v := fun w' hx' j v hj => hx'.cell (show w.cell? ((ad'.add (k * 10)).add j) = some v by rw [add_addB]; exact hcell' j v hj)
   have HSM := fun w' (hx' : Ext w w') => DSame_any ds[k] A2 A3 cap2 cap3 w' (hby.bs.ext hx') (hby'.bs.ext hx')
   clear hcs hcell hby had hcs' hcell' hby' had'
   generalize ds[k] = dd at *
   obtain ⟨dw, du, db, dt, di, dh, df, dsh, de, dby⟩ := dd
   unfold ddC at hC hC' HSM
   simp only at hC hC' HSM
   have hxn := hx.drew
   go_wp2_with fail
   refine wp_region_phase (S := fun w' => Ext w w') 9 (by kernel_rfl) (by kernel_rfl) ?_ (fun hHeld => ?_)
   ·exact hxn
   simp only [List.drop_succ_cons, List.drop_zero]
   refine name_head ?_
   intro wr0 hw0
   rw [hw0] at hHeld
   refine wt 0 _ ?_
   simp only [red, Act.put]
   refine wt 1 _ ?_
   simp only [red, Act.put]
   refine wt 2 _ ?_
   simp only [red, Act.put]
   refine wy 3 (v := .agg #[.int .i64 dw, .string (st du), .string (st db), .string (st dt), .int .i64 di, .int .i64 dh, .int .u8 (df.toNat : Int), .int .i64 dsh, .int .i64 de, .slice A2 dby.length cap2]) (by rfl) (by exact yieldsIf_load_elem (by rfl) 90 _ rfl (ad.add (k * 10)) rfl [.int .i64 dw, .string (st du), .string (st db), .string (st dt), .int .i64 di, .int .i64 dh, .int .u8 (df.toNat : Int), .int .i64 dsh, .int .i64 de, .slice A2 dby.length cap2] _ hC Tryz.underlying90 rfl (by kernel_rfl)) ?_
   simp only [red, Act.put]
   refine wt 4 _ ?_
   simp only [red, Act.put]
   refine wt 5 _ ?_
   simp only [red, Act.put]
   refine wt 6 _ ?_
   simp only [red, Act.put]
   refine wy 7 (v := .agg #[.int .i64 dw, .string (st du), .string (st db), .string (st dt), .int .i64 di, .int .i64 dh, .int .u8 (df.toNat : Int), .int .i64 dsh, .int .i64 de, .slice A3 dby.length cap3]) (by rfl) (by exact yieldsIf_load_elem (by rfl) 90 _ rfl (ad'.add (k * 10)) rfl [.int .i64 dw, .string (st du), .string (st db), .string (st dt), .int .i64 di, .int .i64 dh, .int .u8 (df.toNat : Int), .int .i64 dsh, .int .i64 de, .slice A3 dby.length cap3] _ hC' Tryz.underlying90 rfl (by kernel_rfl)) ?_
   simp only [red, Act.put]
   refine rd [8] ?_
   refine ac (fun K hK => ?_) ?_
   ·refine step_callG (by rfl) (by kernel_rfl) (HSM _ hHeld) ?_
    rintro e wr8 ⟨rfl, hx8⟩
    refine ⟨_, rfl, ?_⟩
    refine hK.out _ _ ?_ (fun hHeld => ?_)
    ·exact hHeld.trans hx8
    clear hK K
    try simp only [red, Act.put]
    refine wpHead_done (by kernel_rfl) ?_
    go_wp2
    go_roundw
    case rel => exact ⟨k + 1, by go_num, by omega, hHeld⟩
    case measure => simp [intOf]; omega
   exact AllHead.nil
  ·have hlt2 : ¬ (k : Int) < ds.length := by omega
   clear h h'
   go_wp2
   go_ret
   exact ⟨rfl, hx⟩
end Go.Proofs.YthlppbbejdeeoaaGreatDoor
namespace Go.Proofs.YthlppbbejdeeoaaGreatDoor
open Go.RowKit
def intP (n : Nat) : Prs Int := andP (numP n) fun v => pureP (v : Int)
theorem pow256 (n : Nat) : ((256 ^ n : Nat) : Int) = (256 : Int) ^ n := Int.natCast_pow 256 n
theorem Rt.int (n : Nat) : Rt (intP n) (fun v => beN n v.toNat) (fun v => 0 ≤ v ∧ v < 256 ^ n) := by
 constructor
 ·rintro v r ⟨h1, h2⟩
  obtain ⟨v, rfl⟩ : ∃ k : Nat, v = (k : Int) := ⟨v.toNat, by omega⟩
  have h3 : v < 256 ^ n := by rw [← pow256] at h2; exact Int.ofNat_lt.1 h2
  unfold intP
  rw [Int.toNat_natCast, andP_put ((Rt.num n).put _ _ h3)]
  rfl
 ·intro l v r h
  obtain ⟨u, l1, h1, h⟩ := andP_inr h
  obtain ⟨rfl, rfl⟩ := pureP_inr h
  obtain ⟨h2, h3⟩ := (Rt.num n).got _ _ _ h1
  exact ⟨by rw [Int.toNat_natCast]; exact h2, by omega, by rw [← pow256]; exact Int.ofNat_lt.2 h3⟩
theorem Sim.int (n : Nat) : Sim (intP n) (cutQ n) (fun q => ((valB (cutV n q) : Nat) : Int)) := (Sim.num n).and fun _ => Sim.pure _
def listP (n : Nat) : Prs (List Int) := andP (numP 1) fun k => repA (intP n) k []
def okLs (n : Nat) (l : List Int) : Prop := l.length < 256 ∧ ∀ v ∈ l, 0 ≤ v ∧ v < 256 ^ n
theorem Rt.list (n : Nat) : Rt (listP n) (listB n) (okLs n) := by
 constructor
 ·rintro l r ⟨h1, h2⟩
  unfold listP listB
  rw [List.append_assoc, andP_put ((Rt.num 1).put _ _ (by simpa using h1)), (Rt.rep (Rt.int n) l.length).put l r ⟨h2, rfl⟩]
 ·intro l vs r h
  obtain ⟨u, l1, h1, h⟩ := andP_inr h
  obtain ⟨h2, h3⟩ := (Rt.num 1).got _ _ _ h1
  obtain ⟨h4, h5, h6⟩ := (Rt.rep (Rt.int n) u).got _ _ _ h
  subst h6
  exact ⟨by rw [h2, h4]; simp [listB], by simpa using h3, h5⟩
def liQ (n : Nat) (q : Option By) : Option By := repQ (cutQ n) (valB (cutV 1 q)) (cutQ 1 q)
def liV (n : Nat) (q : Option By) : List Int := repV (cutQ n) (fun q => ((valB (cutV n q) : Nat) : Int)) (valB (cutV 1 q)) (cutQ 1 q)
theorem Sim.list (n : Nat) : Sim (listP n) (liQ n) (liV n) := (Sim.num 1).and fun k => (Sim.int n).rep k
def tx00 : Tx3 := ⟨0, 0, 0⟩
def txP : Bool → Prs Tx3
 | false => pureP tx00
 | true => andP (intP 1) fun a => andP (intP 4) fun b => andP (intP 4) fun c => pureP ⟨a, b, c⟩
def nP : Bool → Prs Int
 | false => pureP 0
 | true => intP 4
def dsP : Prs (List Dd) := fun l => match takeAllT l with
 | .inl e => .inl e
 | .inr ds => .inr (ds, [])
def tailP (k s d : Int) (t : Tx3) (n : Int) : Prs Ml :=
 if k = 1 then andP (listP 1) fun ps => andP (listP 4) fun es => andP dsP fun ds => pureP ⟨k, s, d, t, t, ps, ds, es, 0, [], [], 0, 0, [], 0, [], 0, n⟩
 else if kVote k then andP (intP 1) fun er => andP (listP 4) fun ns => andP shortP fun u => andP (intP 1) fun sh => andP (intP 4) fun ep => andP longP fun vb => pureP ⟨k, s, d, t, tx00, [], [], [], er, ns, u, sh, ep, vb, 0, [], 0, n⟩
 else if k = 3 then andP (intP 1) fun f => pureP ⟨k, s, d, t, tx00, [], [], [], 0, [], [], 0, 0, [], f, [], 0, n⟩
 else if k = 6 then andP shortP fun u => andP (intP 4) fun ep => pureP ⟨k, s, d, t, tx00, [], [], [], 0, [], [], 0, 0, [], 0, u, ep, n⟩
 else pureP ⟨k, s, d, t, tx00, [], [], [], 0, [], [], 0, 0, [], 0, [], 0, n⟩
def bodyP (k : Int) : Prs Ml := andP (intP 1) fun s => andP (intP 1) fun d => andP (txP (kTx k)) fun t => andP (nP (kN k)) fun n => tailP k s d t n
def takeMT (l : By) : Nat ⊕ Ml :=
 if ¬ inI (valB (cutV 1 (some l)) : Nat) 1 7 then .inl 14 else
 match bodyP (valB (cutV 1 (some l)) : Nat) (l.drop 1) with
 | .inl e => .inl e
 | .inr (m, r) => if r ≠ [] then .inl 4 else if checkM m ≠ 0 then .inl (checkM m) else .inr m
theorem inI_ok {a lo hi : Int} (h : inI a lo hi = true) : lo ≤ a ∧ a ≤ hi := by unfold inI at h; simpa using h
theorem kind_ok {k : Int} (h : inI k 1 7 = true) : k = 1 ∨ k = 2 ∨ k = 3 ∨ k = 4 ∨ k = 5 ∨ k = 6 ∨ k = 7 := by have := inI_ok h; omega
theorem allI_ok {l : List Int} {hi : Int} (h : allI l hi = true) : ∀ v ∈ l, 0 ≤ v ∧ v ≤ hi := fun v hv => inI_ok (List.all_eq_true.1 h v hv)
theorem allI_lt {l : List Int} {hi c : Int} (h : allI l hi = true) (hc : hi < c) : ∀ v ∈ l, 0 ≤ v ∧ v < c := fun v hv => by have := allI_ok h v hv; omega
theorem tx0_ok {t : Tx3} (h : tx0 t = true) : t = tx00 := by unfold tx0 at h; exact of_decide_eq_true h
theorem txB_ok {t : Tx3} (h : txB t = true) : (0 ≤ t.node ∧ t.node ≤ 255) ∧ (1 ≤ t.boot ∧ t.boot ≤ 2147483647) ∧ (1 ≤ t.n ∧ t.n ≤ 2147483647) := by
 unfold txB at h
 simp only [Bool.and_eq_true] at h
 exact ⟨inI_ok h.1.1, inI_ok h.1.2, inI_ok h.2⟩
/-- what a right message has -/
structure Right (m : Ml) : Prop where
 kind : m.kind = 1 ∨ m.kind = 2 ∨ m.kind = 3 ∨ m.kind = 4 ∨ m.kind = 5 ∨ m.kind = 6 ∨ m.kind = 7
 src : 0 ≤ m.src ∧ m.src ≤ 7
 dst : 0 ≤ m.dst ∧ m.dst ≤ 7
 tx : if kTx m.kind then txB m.tx = true else m.tx = tx00
 part : if m.kind = 1 then m.ptx = m.tx ∧ (1 ≤ m.peers.length ∧ m.peers.length ≤ 4) ∧ allI m.peers 3 = true ∧ m.epochs.length = m.deeds.length ∧ allI m.epochs big = true else m.ptx = tx00 ∧ m.peers = [] ∧ m.deeds = [] ∧ m.epochs = []
 vote : if kVote m.kind then (0 ≤ m.verr ∧ m.verr ≤ 14) ∧ m.nums.length ≤ 12 ∧ allI m.nums big = true ∧ (0 ≤ m.shard ∧ m.shard ≤ 3) ∧ (0 ≤ m.sepoch ∧ m.sepoch ≤ 4294967295) ∧ m.suser.length ≤ 24 ∧ m.vbytes.length ≤ 1800
  else m.verr = 0 ∧ m.nums = [] ∧ m.suser = [] ∧ m.shard = 0 ∧ m.sepoch = 0 ∧ m.vbytes = []
 fate : if m.kind = 3 then 1 ≤ m.fate ∧ m.fate ≤ 2 else m.fate = 0
 n : if kN m.kind then 0 ≤ m.n ∧ m.n ≤ 4294967295 else m.n = 0
 user : if m.kind = 6 then m.user.length ≤ 24 ∧ 0 ≤ m.epoch ∧ m.epoch ≤ 4294967295 else m.user = [] ∧ m.epoch = 0
theorem Right.of {m : Ml} (hk : inI m.kind 1 7 = true) (h : argsB m = true) : Right m := by
 unfold argsB at h
 simp only [Bool.and_eq_true] at h
 obtain ⟨⟨⟨⟨⟨⟨⟨h1, h2⟩, h3⟩, h4⟩, h5⟩, h6⟩, h7⟩, h8⟩ := h
 refine ⟨kind_ok hk, inI_ok h1, inI_ok h2, ?_, ?_, ?_, ?_, ?_, ?_⟩
 ·unfold txsB at h3
  split at h3
  ·rename_i q; rw [if_pos q]; exact h3
  ·rename_i q; rw [if_neg q]; exact tx0_ok h3
 ·unfold partB at h4
  split at h4
  ·rename_i q
   rw [if_pos q]
   simp only [Bool.and_eq_true, decide_eq_true_eq] at h4
   obtain ⟨⟨⟨⟨a, b⟩, c⟩, d⟩, e⟩ := h4
   exact ⟨a, b, c, d, e⟩
  ·rename_i q
   rw [if_neg q]
   simp only [Bool.and_eq_true, decide_eq_true_eq] at h4
   obtain ⟨⟨⟨a, b⟩, c⟩, d⟩ := h4
   exact ⟨tx0_ok a, b, List.eq_nil_of_length_eq_zero c, d⟩
 ·unfold voteB at h5
  split at h5
  ·rename_i q
   rw [if_pos q]
   simp only [Bool.and_eq_true, decide_eq_true_eq] at h5
   obtain ⟨⟨⟨⟨⟨⟨a, b⟩, c⟩, d⟩, e⟩, f⟩, g⟩ := h5
   exact ⟨inI_ok a, b, c, inI_ok d, inI_ok e, f, g⟩
  ·rename_i q
   rw [if_neg q]
   simp only [Bool.and_eq_true, decide_eq_true_eq] at h5
   obtain ⟨⟨⟨a, b⟩, ⟨c, d⟩, e⟩, f⟩ := h5
   exact ⟨a, b, c, d, e, f⟩
 ·unfold fateB at h6
  split at h6
  ·rename_i q; rw [if_pos q]; exact inI_ok h6
  ·rename_i q; rw [if_neg q]; simpa using h6
 ·unfold nB at h7
  split at h7
  ·rename_i q; rw [if_pos q]; exact inI_ok h7
  ·rename_i q; rw [if_neg q]; simpa using h7
 ·unfold userB at h8
  split at h8
  ·rename_i q
   rw [if_pos q]
   simp only [Bool.and_eq_true, decide_eq_true_eq] at h8
   exact ⟨h8.1, inI_ok h8.2⟩
  ·rename_i q
   rw [if_neg q]
   simpa using h8
theorem checkM_ok {m : Ml} (h : checkM m = 0) : inI m.kind 1 7 = true ∧ argsB m = true ∧ (m.kind = 1 → (putAllT m.deeds).2 = 0) ∧ (layM m).length ≤ 2000 := by
 unfold checkM at h
 split at h
 ·cases h
 ·rename_i h1
  split at h
  ·cases h
  ·rename_i h2
   split at h
   ·rename_i h3; exact absurd h h3.2
   ·rename_i h3
    split at h
    ·cases h
    ·rename_i h4
     exact ⟨by simpa using h1, by simpa using h2, fun hk => by simpa [hk] using h3, by omega⟩
theorem checkM_right {m : Ml} (h : checkM m = 0) : Right m := Right.of (checkM_ok h).1 (checkM_ok h).2.1
theorem i1 {v : Int} (h : 0 ≤ v) (h2 : v < 256) (r : By) : intP 1 (beN 1 v.toNat ++ r) = .inr (v, r) := (Rt.int 1).put _ _ ⟨h, by simpa using h2⟩
theorem i4 {v : Int} (h : 0 ≤ v) (h2 : v < 4294967296) (r : By) : intP 4 (beN 4 v.toNat ++ r) = .inr (v, r) := (Rt.int 4).put _ _ ⟨h, by simpa using h2⟩
theorem okLs4 {l : List Int} (h : l.length < 256) (ha : allI l big = true) : okLs 4 l := ⟨h, fun v hv => by have := allI_lt ha (show big < 256 ^ (4 : Nat) by decide) v hv; exact this⟩
theorem okLs1 {l : List Int} (h : l.length < 256) (ha : allI l 3 = true) : okLs 1 l := ⟨h, fun v hv => by have := allI_lt ha (show (3 : Int) < 256 ^ (1 : Nat) by decide) v hv; exact this⟩
theorem txP_put {t : Tx3} (h : txB t = true) (r : By) : txP true (putTx t ++ r) = .inr (t, r) := by
 obtain ⟨h1, h2, h3⟩ := txB_ok h
 obtain ⟨a, b, c⟩ := t
 simp only at h1 h2 h3
 simp only [txP, putTx, List.append_assoc]
 rw [andP_put (i1 h1.1 (by omega) _), andP_put (i4 (by omega) (by omega) _), andP_put (i4 (by omega) (by omega) _)]
 rfl
theorem head_put {m : Ml} (h : Right m) (r : By) : bodyP m.kind ((layHead m ++ r).drop 1) = tailP m.kind m.src m.dst m.tx m.n r := by
 obtain ⟨hk, hs, hd, ht, _, _, _, hn, _⟩ := h
 have e : (layHead m ++ r).drop 1 = beN 1 m.src.toNat ++ (beN 1 m.dst.toNat ++ ((if kTx m.kind then putTx m.tx else []) ++ ((if kN m.kind then beN 4 m.n.toNat else []) ++ r))) := by
  unfold layHead
  simp only [List.append_assoc]
  rw [List.drop_left' (by simp)]
 rw [e]
 unfold bodyP
 rw [andP_put (i1 hs.1 (by omega) _), andP_put (i1 hd.1 (by omega) _)]
 have e1 : txP (kTx m.kind) ((if kTx m.kind then putTx m.tx else []) ++ ((if kN m.kind then beN 4 m.n.toNat else []) ++ r)) = .inr (m.tx, (if kN m.kind then beN 4 m.n.toNat else []) ++ r) := by
  cases hb : kTx m.kind with
  | true => rw [hb] at ht; exact txP_put (by simpa using ht) _
  | false =>
   rw [hb] at ht
   have : m.tx = tx00 := by simpa using ht
   rw [this]
   rfl
 rw [andP_put e1]
 have e2 : nP (kN m.kind) ((if kN m.kind then beN 4 m.n.toNat else []) ++ r) = .inr (m.n, r) := by
  cases hb : kN m.kind with
  | true =>
   rw [hb] at hn
   have : 0 ≤ m.n ∧ m.n ≤ 4294967295 := by simpa using hn
   exact i4 this.1 (by omega) _
  | false =>
   rw [hb] at hn
   have : m.n = 0 := by simpa using hn
   rw [this]
   rfl
 rw [andP_put e2]
def layTail (m : Ml) : By := if m.kind = 1 then listB 1 m.peers ++ listB 4 m.epochs ++ (putAllT m.deeds).1
 else if kVote m.kind then layVote m
 else if m.kind = 3 then beN 1 m.fate.toNat
 else if m.kind = 6 then shortB m.user ++ beN 4 m.epoch.toNat
 else []
theorem layM_eq (m : Ml) : layM m = layHead m ++ layTail m := rfl
theorem tail_put {m : Ml} (h : Right m) (hp : m.kind = 1 → (putAllT m.deeds).2 = 0) : tailP m.kind m.src m.dst m.tx m.n (layTail m) = .inr (m, []) := by
 obtain ⟨hk, hs, hd, ht, hpa, hv, hf, hn, hu⟩ := h
 obtain ⟨k, s, d, t, pt, ps, ds, es, er, ns, su, sh, ep, vb, fa, us, ue, n⟩ := m
 simp only at *
 unfold tailP layTail
 simp only
 by_cases h1 : k = 1
 ·subst h1
  simp only [if_true] at hpa ⊢
  have e0 : kVote 1 = false := rfl
  rw [e0] at hv
  simp only [if_false, Bool.false_eq_true] at hv
  rw [if_neg (by decide)] at hf hu
  obtain ⟨rfl, hpl, hpb, hel, heb⟩ := hpa
  obtain ⟨rfl, rfl, rfl, rfl, rfl, rfl⟩ := hv
  subst hf
  obtain ⟨rfl, rfl⟩ := hu
  have hd12 := (putAllT_ok (hp rfl)).2.2.1
  have hta := takeAll_put (hp rfl)
  rw [List.append_assoc, andP_put ((Rt.list 1).put _ _ (okLs1 (by omega) hpb)), andP_put ((Rt.list 4).put _ _ (okLs4 (by omega) heb))]
  unfold andP dsP
  rw [hta]
  rfl
 ·rw [if_neg h1] at hpa
  rw [if_neg h1, if_neg h1]
  obtain ⟨rfl, rfl, rfl, rfl⟩ := hpa
  cases hb : kVote k with
  | true =>
   rw [hb] at hv
   simp only [if_true] at hv ⊢
   obtain ⟨h2, h3, h4, h5, h6, h7, h8⟩ := hv
   have hk3 : k ≠ 3 := by rintro rfl; simp [kVote] at hb
   have hk6 : k ≠ 6 := by rintro rfl; simp [kVote] at hb
   rw [if_neg hk3] at hf
   rw [if_neg hk6] at hu
   subst hf
   obtain ⟨rfl, rfl⟩ := hu
   have := (Rt.long).put vb [] (by omega)
   rw [List.append_nil] at this
   unfold layVote
   simp only [List.append_assoc]
   rw [andP_put (i1 h2.1 (by omega) _), andP_put ((Rt.list 4).put _ _ (okLs4 (by omega) h4)), andP_put (Rt.short.put _ _ (by omega)), andP_put (i1 h5.1 (by omega) _), andP_put (i4 h6.1 (by omega) _), andP_put this]
   rfl
  | false =>
   rw [hb] at hv
   simp only [if_false, Bool.false_eq_true] at hv ⊢
   obtain ⟨rfl, rfl, rfl, rfl, rfl, rfl⟩ := hv
   by_cases h3 : k = 3
   ·subst h3
    rw [if_neg (by decide)] at hu
    obtain ⟨rfl, rfl⟩ := hu
    simp only [if_true] at hf ⊢
    have := i1 (v := fa) (by omega) (by omega) []
    rw [List.append_nil] at this
    rw [andP_put this]
    rfl
   ·rw [if_neg h3] at hf
    rw [if_neg h3, if_neg h3]
    subst hf
    by_cases h6 : k = 6
    ·subst h6
     simp only [if_true] at hu ⊢
     have := i4 (v := ue) (by omega) (by omega) []
     rw [List.append_nil] at this
     rw [andP_put (Rt.short.put _ _ (by omega)), andP_put this]
     rfl
    ·rw [if_neg h6] at hu
     rw [if_neg h6, if_neg h6]
     obtain ⟨rfl, rfl⟩ := hu
     rfl
theorem kind_byte {m : Ml} (h : Right m) (r : By) : ((valB (cutV 1 (some (layHead m ++ r))) : Nat) : Int) = m.kind := by
 have hk := h.kind
 have e : layHead m ++ r = beN 1 m.kind.toNat ++ ((layHead m ++ r).drop 1) := by
  unfold layHead
  simp only [List.append_assoc]
  rw [List.drop_left' (by simp)]
 rw [e]
 unfold cutV
 simp only
 rw [if_neg (by simp), List.take_left' (by simp), beN_valF 1 _ (by omega)]
 omega
/-- WHAT IS PUT IS TAKEN -/
theorem take_put {m : Ml} (h : checkM m = 0) : takeMT (layM m) = .inr m := by
 have hr := checkM_right h
 obtain ⟨h1, h2, h3, h4⟩ := checkM_ok h
 unfold takeMT
 rw [layM_eq, kind_byte hr, if_neg (by simp [h1]), head_put hr, tail_put hr h3]
 simp [h]
theorem dsP_got {l r : By} {ds : List Dd} (h : dsP l = .inr (ds, r)) : takeAllT l = .inr ds ∧ r = [] := by
 unfold dsP at h
 cases ht : takeAllT l with
 | inl e => rw [ht] at h; cases h
 | inr ds' =>
  rw [ht] at h
  simp only [Sum.inr.injEq, Prod.mk.injEq] at h
  exact ⟨by rw [h.1], h.2.symm⟩
theorem tail_got {k s d n : Int} {t : Tx3} {l r : By} {m : Ml} (h : tailP k s d t n l = .inr (m, r)) : l = layTail m ++ r ∧ m.kind = k ∧ m.src = s ∧ m.dst = d ∧ m.tx = t ∧ m.n = n := by
 unfold tailP at h
 split at h
 ·rename_i h1
  subst h1
  obtain ⟨ps, l1, a1, h⟩ := andP_inr h
  obtain ⟨es, l2, a2, h⟩ := andP_inr h
  obtain ⟨ds, l3, a3, h⟩ := andP_inr h
  obtain ⟨rfl, rfl⟩ := pureP_inr h
  obtain ⟨rfl, -⟩ := (Rt.list 1).got _ _ _ a1
  obtain ⟨rfl, -⟩ := (Rt.list 4).got _ _ _ a2
  obtain ⟨b1, rfl⟩ := dsP_got a3
  refine ⟨?_, rfl, rfl, rfl, rfl, rfl⟩
  unfold layTail
  simp only [if_true]
  rw [putAll_take b1]
  simp
 ·rename_i h1
  split at h
  ·rename_i h2
   obtain ⟨er, l1, a1, h⟩ := andP_inr h
   obtain ⟨ns, l2, a2, h⟩ := andP_inr h
   obtain ⟨u, l3, a3, h⟩ := andP_inr h
   obtain ⟨sh, l4, a4, h⟩ := andP_inr h
   obtain ⟨ep, l5, a5, h⟩ := andP_inr h
   obtain ⟨vb, l6, a6, h⟩ := andP_inr h
   obtain ⟨rfl, rfl⟩ := pureP_inr h
   obtain ⟨rfl, -⟩ := (Rt.int 1).got _ _ _ a1
   obtain ⟨rfl, -⟩ := (Rt.list 4).got _ _ _ a2
   obtain ⟨rfl, -⟩ := Rt.short.got _ _ _ a3
   obtain ⟨rfl, -⟩ := (Rt.int 1).got _ _ _ a4
   obtain ⟨rfl, -⟩ := (Rt.int 4).got _ _ _ a5
   obtain ⟨rfl, -⟩ := Rt.long.got _ _ _ a6
   refine ⟨?_, rfl, rfl, rfl, rfl, rfl⟩
   unfold layTail
   simp only
   rw [if_neg h1, if_pos h2]
   simp [layVote]
  ·rename_i h2
   split at h
   ·rename_i h3
    obtain ⟨f, l1, a1, h⟩ := andP_inr h
    obtain ⟨rfl, rfl⟩ := pureP_inr h
    obtain ⟨rfl, -⟩ := (Rt.int 1).got _ _ _ a1
    refine ⟨?_, rfl, rfl, rfl, rfl, rfl⟩
    unfold layTail
    simp only
    rw [if_neg h1, if_neg h2, if_pos h3]
   ·rename_i h3
    split at h
    ·rename_i h6
     obtain ⟨u, l1, a1, h⟩ := andP_inr h
     obtain ⟨ep, l2, a2, h⟩ := andP_inr h
     obtain ⟨rfl, rfl⟩ := pureP_inr h
     obtain ⟨rfl, -⟩ := Rt.short.got _ _ _ a1
     obtain ⟨rfl, -⟩ := (Rt.int 4).got _ _ _ a2
     refine ⟨?_, rfl, rfl, rfl, rfl, rfl⟩
     unfold layTail
     simp only
     rw [if_neg h1, if_neg h2, if_neg h3, if_pos h6]
     simp
    ·rename_i h6
     obtain ⟨rfl, rfl⟩ := pureP_inr h
     refine ⟨?_, rfl, rfl, rfl, rfl, rfl⟩
     unfold layTail
     simp only
     rw [if_neg h1, if_neg h2, if_neg h3, if_neg h6]
     rfl
theorem body_got {k : Int} {l r : By} {m : Ml} (h : bodyP k l = .inr (m, r)) : beN 1 k.toNat ++ l = layM m ++ r ∧ m.kind = k := by
 obtain ⟨s, l1, a1, h⟩ := andP_inr h
 obtain ⟨d, l2, a2, h⟩ := andP_inr h
 obtain ⟨t, l3, a3, h⟩ := andP_inr h
 obtain ⟨n, l4, a4, h⟩ := andP_inr h
 obtain ⟨b1, b2, b3, b4, b5, b6⟩ := tail_got h
 obtain ⟨rfl, -⟩ := (Rt.int 1).got _ _ _ a1
 obtain ⟨rfl, -⟩ := (Rt.int 1).got _ _ _ a2
 refine ⟨?_, b2⟩
 have e3 : l2 = (if kTx k then putTx t else []) ++ l3 := by
  cases hb : kTx k with
  | true =>
   rw [hb] at a3
   unfold txP at a3
   obtain ⟨a, q1, c1, a3⟩ := andP_inr a3
   obtain ⟨b, q2, c2, a3⟩ := andP_inr a3
   obtain ⟨c, q3, c3, a3⟩ := andP_inr a3
   obtain ⟨rfl, rfl⟩ := pureP_inr a3
   obtain ⟨rfl, -⟩ := (Rt.int 1).got _ _ _ c1
   obtain ⟨rfl, -⟩ := (Rt.int 4).got _ _ _ c2
   obtain ⟨rfl, -⟩ := (Rt.int 4).got _ _ _ c3
   simp [putTx]
  | false =>
   rw [hb] at a3
   obtain ⟨rfl, rfl⟩ := pureP_inr a3
   simp
 have e4 : l3 = (if kN k then beN 4 n.toNat else []) ++ l4 := by
  cases hb : kN k with
  | true =>
   rw [hb] at a4
   obtain ⟨rfl, -⟩ := (Rt.int 4).got _ _ _ a4
   simp
  | false =>
   rw [hb] at a4
   obtain ⟨rfl, rfl⟩ := pureP_inr a4
   simp
 rw [layM_eq]
 unfold layHead
 rw [e3, e4, b1, b2, b3, b4, b5, b6]
 simp only [List.append_assoc]
/-- WHAT IS TAKEN IS PUT as the same bytes -/
theorem put_take {l : By} {m : Ml} (h : takeMT l = .inr m) : layM m = l ∧ checkM m = 0 := by
 unfold takeMT at h
 split at h
 ·cases h
 ·rename_i h1
  match l, h, h1 with
  | [], _, h1 => exact absurd (by decide) h1
  | c :: r, h, h1 =>
   have e1 : cutV 1 (some (c :: r)) = [c] := by simp [cutV]
   have e2 : valB [c] = c.toNat := by simp [valB, valF]
   rw [e1, e2] at h
   cases hb : bodyP (c.toNat : Nat) ((c :: r).drop 1) with
   | inl e => rw [hb] at h; cases h
   | inr q =>
    obtain ⟨m', r'⟩ := q
    rw [hb] at h
    simp only at h
    split at h
    ·cases h
    ·rename_i h2
     split at h
     ·cases h
     ·rename_i h3
      cases h
      obtain ⟨q1, -⟩ := body_got hb
      have h2 : r' = [] := by simpa using h2
      subst h2
      refine ⟨?_, by simpa using h3⟩
      rw [List.append_nil] at q1
      rw [← q1]
      simp [beN]
end Go.Proofs.YthlppbbejdeeoaaGreatDoor
