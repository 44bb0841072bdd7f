/- Plain laws: no reader of deeds and users stops with 0. Conditions: the hypotheses of each theorem. The walk of deed.TakeUser. Conditions: the bounds named. The walks of slices.Index and slices.Contains at api.Do, and of deed.Check's closure. Conditions: the hypotheses of each theorem. What deed.num, short and long leave as it is; how a deed reads; how long what is right can be. Conditions: the hypotheses of each theorem. The walk of deed.PutAll. Conditions: that of Check (CheckLaw), and the bounds named. The walk of deed.TakeAll. Conditions: that of Check (CheckLaw), and the bounds named. -/
import Derived.Test.YthlppbbejdeeoaaGreatDoorC2
import Derived.Test.YthlppbbejdeeoaaGreatDoorC5
import Derived.Test.YthlppbbejdeeoaaGreatDoorC3
namespace Go.Proofs.YthlppbbejdeeoaaGreatDoor
open Go.RowKit
/-! ## no reader stops with 0 -/
def Nz {α : Type} (p : Prs α) : Prop := ∀ l k, p l = .inl k → k ≠ 0
theorem Nz.and {α β : Type} {p : Prs α} {f : α → Prs β} (h : Nz p) (hf : ∀ a, Nz (f a)) : Nz (andP p f) := fun l k hk => by
 unfold andP at hk
 cases hp : p l with
 | inl e => rw [hp] at hk; cases hk; exact h l _ hp
 | inr q => rw [hp] at hk; exact hf q.1 q.2 k hk
theorem Nz.pure {α : Type} (a : α) : Nz (pureP a) := fun l k hk => by cases hk
theorem Nz.num (n : Nat) : Nz (numP n) := fun l k hk => by
 unfold numP at hk
 split at hk
 ·cases hk; decide
 ·cases hk
theorem Nz.take (n : Nat) : Nz (takeP n) := fun l k hk => by
 unfold takeP at hk
 split at hk
 ·cases hk; decide
 ·cases hk
theorem Nz.short : Nz shortP := (Nz.num 1).and Nz.take
theorem Nz.long : Nz longP := (Nz.num 2).and Nz.take
theorem Nz.rep {α : Type} {p : Prs α} (h : Nz p) : ∀ n acc, Nz (repA p n acc)
 | 0, _ => Nz.pure _
 | n + 1, _ => h.and fun _ => Nz.rep h n _
theorem Nz.letter : Nz letP := (Nz.num 4).and fun _ => (Nz.num 1).and fun _ => Nz.long.and fun _ => Nz.pure _
theorem Nz.box : Nz boxP := Nz.short.and fun _ => (Nz.num 4).and fun _ => (Nz.num 4).and fun _ => (Nz.num 1).and fun _ => (Nz.rep Nz.letter _ _).and fun _ => Nz.pure _
theorem Nz.user : Nz userP := Nz.short.and fun _ => (Nz.num 4).and fun _ => (Nz.num 1).and fun _ => (Nz.rep Nz.box _ _).and fun _ => Nz.pure _
theorem Nz.deed : Nz deedP := (Nz.num 1).and fun _ => Nz.short.and fun _ => Nz.short.and fun _ => Nz.short.and fun _ => (Nz.num 4).and fun _ => (Nz.num 1).and fun _ => (Nz.num 1).and fun _ => (Nz.num 1).and fun _ => (Nz.num 4).and fun _ => Nz.long.and fun _ => Nz.pure _
theorem Nz.must (ok : Bool) : Nz (mustP ok) := fun l k hk => by
 unfold mustP at hk
 split at hk
 ·cases hk
 ·cases hk; decide
theorem Nz.all : Nz allP := (Nz.num 1).and fun _ => (Nz.must _).and fun _ => Nz.rep Nz.deed _ _
theorem Nz.read {α : Type} {p : Prs α} (h : Nz p) {l : By} {k : Nat} (hk : readP p l = .inl k) : k ≠ 0 := by
 unfold readP at hk
 cases hp : p l with
 | inl e => rw [hp] at hk; cases hk; exact h l _ hp
 | inr q =>
  rw [hp] at hk
  simp only at hk
  split at hk
  ·cases hk
  ·cases hk; decide
theorem read_got {α : Type} {p : Prs α} {bs : α → By} {ok : α → Prop} (h : Rt p bs ok) {l : By} {a : α} (ha : readP p l = .inr a) : l = bs a ∧ ok a := by
 unfold readP at ha
 cases hp : p l with
 | inl e => rw [hp] at ha; cases ha
 | inr q =>
  rw [hp] at ha
  simp only at ha
  split at ha
  ·rename_i h0
   cases ha
   obtain ⟨h1, h2⟩ := h.got l q.1 q.2 hp
   rw [h0, List.append_nil] at h1
   exact ⟨h1, h2⟩
  ·cases ha
end Go.Proofs.YthlppbbejdeeoaaGreatDoor
namespace Go.Proofs.YthlppbbejdeeoaaGreatDoor
open Go.RowKit
theorem OwnLs.rsm {w : World} {base n c : Nat} {A : Option Addr} {ls : List Lt} (h : OwnLs w base (.slice A n c) ls) : RsM RLt 3 [] w A ls := by
 obtain ⟨css, h1, h2, h3, h4⟩ := h
 refine ⟨css, h1, h2, SlM.own h3 rfl (by simp), fun k cs x a b => ?_⟩
 obtain ⟨pv, h5, h6⟩ := h4 k cs x a b
 obtain ⟨A', c', rfl⟩ := h6.form
 exact ⟨A', c', h5, BsM.own h6 (by simp)⟩
theorem OwnXs.rsm {w : World} {base n c : Nat} {A : Option Addr} {bs : List Bx} (h : OwnXs w base (.slice A n c) bs) : RsM RBx 4 [] w A bs := by
 obtain ⟨css, h1, h2, h3, h4⟩ := h
 refine ⟨css, h1, h2, SlM.own h3 rfl (by simp), fun k cs x a b => ?_⟩
 obtain ⟨lv, h5, h6⟩ := h4 k cs x a b
 obtain ⟨A', c', rfl⟩ := h6.form
 exact ⟨A', c', h5, h6.rsm⟩
theorem results_cell1 {P : Program} {fn : Func} {p u : Tmp} {ty : TypeId} (h : fn.results = #[.cell p ty, .tmp u]) (tmps : Array Value) (w : World) (g : Nat) (t : TypeId) (cs : Array Value) (fr : Nat × Nat) (d : TypeDesc)
 (hp : tmps.getD p undef = .pointer (some ⟨g, 0, none⟩)) (hg : w.heap[g]? = some (.cells cs t fr))
 (hu : P.underlying ty = some d) (hd : (match d with | .struct _ | .array _ _ => true | _ => false) = true) (hi : (P.info? ty).map (·.size) = some cs.size) :
 (results fn tmps).run P w = .ok (.tuple #[.agg cs, tmps.getD u undef]) w := by
 have hp' : tmps[p]?.getD undef = .pointer (some ⟨g, 0, none⟩) := by simpa using hp
 simp [results, h, hp', asAddr, run_loadVar_row w g t ty cs fr d hg hu hd hi]
def zUser : Array Value := #[.string ⟨#[]⟩, .int .i64 0, .slice none 0 0]
theorem user_info : (Tryz.prog.info? 116).map (fun i => (i.zero, i.size)) = some (some (.agg zUser), 3) := by kernel_rfl
theorem call_TakeUser1 (args : Array Value) (w : World) : (callFunc 96 args).run Tryz.prog w = .ok (.enter 96 args) w := by
 go_simp
theorem call_TakeAll1 (args : Array Value) (w : World) : (callFunc 70 args).run Tryz.prog w = .ok (.enter 70 args) w := by
 go_simp
theorem VUs.stp {U base g : Nat} {u : Us} {w1 w2 : World} {x : Value} (h : VUs U base u w1) (hg : w1.heap[g]? = some (.cells #[x] 30 (0, 0))) (hk : Kept [g] w1 w2) : VUs U base u w2 := by
 obtain ⟨v, h1, h2⟩ := h
 exact ⟨v, hk.heap h1 (by simp; exact obj_ne h1 hg (by decide)), h2.stp (.kept hk (by intro k hk _; simp at hk; subst hk; exact ⟨_, _, _, hg, by decide⟩) : Stp [5, 138, 136] w1 w2) (by simp) (by simp) (by simp)⟩
def TUSays (l : By) (w : World) (e : Ending) (w' : World) : Prop := Ext w w' ∧ match takeUs l with
 | .inl k => e = .returned (.tuple #[.agg zUser, .int .i64 (k : Nat)])
 | .inr u => ∃ v, e = .returned (.tuple #[.agg (usC u v), .int .i64 0]) ∧ OwnXs w' w.heap.size v u.boxes
set_option maxRecDepth 20000 in
set_option maxHeartbeats 4000000 in
theorem TakeUser_any (A : Option Addr) (cap : Nat) (l : By) (w : World) (hb : Bs w A l) (hlc : l.length ≤ cap) (hl : l.length ≤ 140737488351232) : Calls Tryz.prog 84 #[.slice A l.length cap] w (TUSays l w) := by
 have hmf : ∀ (fn : Fn) (first cap : Array Value) (w : World), (Instr.makeFunc fn first cap).run Tryz.prog w = .ok (.func fn first cap) w := fun _ _ _ _ => rfl
 go_enter Tryz.func84, Tryz.ntmps84
 go_wp2_with (with_reducible first | refine sA 116 ?_ | refine sS 116 ?_ | refine sL 116 ?_)
 refine go_on (wpList_alloc_ rfl rfl user_info ?_)
 go_wp2_with (with_reducible first | refine sA 116 ?_ | refine sS 116 ?_ | refine sL 116 ?_)
 obtain ⟨wz, hwz⟩ : ∃ wz, wz = w.alloc (.cells zUser 116) := ⟨_, rfl⟩
 have hxz : Ext w wz := by rw [hwz]; exact (Ext.refl w).alloc _
 have hg0z : wz.heap[w.heap.size]? = some (.cells zUser 116 (0, 0)) := by rw [hwz]; exact heap_alloc_new w _
 have hszz : wz.heap.size = w.heap.size + 1 := by rw [hwz]; simp
 have HSZZ := Lib.hid hszz
 rw [← hwz]
 clear hwz hszz
 refine go_on (wpList_alloc_ rfl rfl user_info ?_)
 go_wp2_with (with_reducible first | refine sA 116 ?_ | refine sS 116 ?_ | refine sL 116 ?_)
 refine go_on (wpList_store_last rfl rfl rfl rfl (by kernel_rfl) rfl (by simp [Value.oneCell']) ?_)
 intro wa hUa hxa hsa
 have hg0a := hxa.obj hg0z
 have hx0a := hxz.trans hxa
 obtain ⟨U, hU⟩ : ∃ U, U = wz.heap.size := ⟨_, rfl⟩
 have HUE := Lib.hid hU
 have hszz := HSZZ.out
 have hne : w.heap.size ≠ U := by omega
 have hU1 : w.heap.size ≤ U := by omega
 have hU2 : U < wa.heap.size := by omega
 rw [← hU] at hUa
 have HRD := read_any userP 96 U (VUs U w.heap.size) (fun _ => True) w wa A cap l hx0a hb hlc hU2 hU1 call_TakeUser1
  (fun w1 R hx1 hR hr => TakeUser1_any w w1 R U l hr hl (hx1.obj hUa) hU1 (by omega))
  (fun u w1 w2 g x h1 h2 h3 => h1.stp h2 h3) (fun _ _ _ _ _ _ _ => trivial) (fun _ _ _ => trivial)
 clear hxz hg0z hszz hxa hsa hU hb
 unfold pt at HRD
 go_wp2_with fail
 rw [← HUE.out]
 refine HRD.mono ?_
 intro e w1 hq
 unfold ReadSays at hq
 cases hp : readP userP l with
 | inl k =>
  rw [hp] at hq
  obtain ⟨rfl, hk, hx, _⟩ := hq
  have HT : Hid (takeUs l = .inl k) := Lib.hid (by unfold takeUs; rw [hp])
  have hg01 := hk.heap hg0a (by simpa using hne)
  have hk0 : k ≠ 0 := Nz.user.read hp
  have k1 : ((k : Int) == 0) = false := by simpa using hk0
  clear hp
  go_wp2_with (with_reducible first | refine sA 116 ?_ | refine sS 116 ?_ | refine sL 116 ?_)
  refine go_on (wpList_store_whole (c := zUser) rfl rfl rfl rfl hg01 (by kernel_rfl) rfl (by simp [Value.oneCell']) ?_)
  intro wv hrow hkv _
  go_wp2
  ((try simp only [Exit.inBlock, Exit.then]); refine bodyPost_ret (results_cell1 rfl _ _ w.heap.size _ _ _ _ rfl hrow Tryz.underlying116 rfl (by kernel_rfl)) rfl ?_)
  refine ⟨hx.kept hkv (by simp), ?_⟩
  rw [HT.out]
  rfl
 | inr u =>
  rw [hp] at hq
  obtain ⟨rfl, ⟨v, hUv, hxs⟩, hk, hx⟩ := hq
  obtain ⟨Av, cv, rfl⟩ := hxs.form
  have hg01 := hk.heap hg0a (by simpa using hne)
  have hokU : okU u := (read_got Rt.user hp).2
  have HCU := CheckUser_any u Av cv w1 hxs.rsm (by have := hokU.1; omega) (fun b hb => by have := (hokU.2.2.2 b hb).1; omega)
  have HT : Hid (takeUs l = if checkU u ≠ 0 then .inl (checkU u) else .inr u) := Lib.hid (by unfold takeUs; rw [hp])
  have HXS := Lib.hid hxs
  clear hp hokU hxs
  go_wp2_with (with_reducible refine sL 116 ?_)
  refine go_on (wpList_load_row rfl 116 _ rfl U rfl 116 _ (0, 0) _ hUv Tryz.underlying116 rfl (by kernel_rfl) ?_)
  go_wp2_with fail
  refine HCU.mono ?_
  rintro e w2 ⟨rfl, hx2⟩
  have hUv2 := hx2.obj hUv
  have hg02 := hx2.obj hg01
  have hx02 := hx.trans hx2
  by_cases hc : checkU u = 0
  ·have HT2 := Lib.hid (HT.out.trans (if_neg (by simpa using hc)))
   rw [hc]
   clear HT HCU hc
   unfold usC at hUv2
   go_wp2_with (with_reducible refine sL 116 ?_)
   refine go_on (wpList_load_row rfl 116 _ rfl U rfl 116 _ (0, 0) _ hUv2 Tryz.underlying116 rfl (by kernel_rfl) ?_)
   go_wp2_with (with_reducible first | refine sA 116 ?_ | refine sS 116 ?_ | refine sL 116 ?_)
   refine go_on (wpList_store_whole (c := zUser) rfl rfl rfl rfl hg02 (by kernel_rfl) rfl (by simp [Value.oneCell']) ?_)
   intro wv hrow hkv _
   go_wp2
   ((try simp only [Exit.inBlock, Exit.then]); refine bodyPost_ret (results_cell1 rfl _ _ w.heap.size _ _ _ _ rfl hrow Tryz.underlying116 rfl (by kernel_rfl)) rfl ?_)
   refine ⟨hx02.kept hkv (by simp), ?_⟩
   rw [HT2.out]
   refine ⟨_, rfl, ?_⟩
   exact (HXS.out.stp (.of_ext hx2) (ts := [5, 138, 136]) (by simp) (by simp) (by simp)).stp (.kept hkv (by intro k hk _; simp at hk; subst hk; exact ⟨_, _, _, hg02, by decide⟩) : Stp [5, 138, 136] w2 wv) (by simp) (by simp) (by simp)
  ·have HT2 := Lib.hid (HT.out.trans (if_pos hc))
   have k1 : (((checkU u : Nat) : Int) == 0) = false := by simpa using hc
   clear HT HCU hc
   generalize checkU u = z at *
   go_wp2_with (with_reducible first | refine sA 116 ?_ | refine sS 116 ?_ | refine sL 116 ?_)
   refine go_on (wpList_store_whole (c := zUser) rfl rfl rfl rfl hg02 (by kernel_rfl) rfl (by simp [Value.oneCell']) ?_)
   intro wv hrow hkv _
   go_wp2
   ((try simp only [Exit.inBlock, Exit.then]); refine bodyPost_ret (results_cell1 rfl _ _ w.heap.size _ _ _ _ rfl hrow Tryz.underlying116 rfl (by kernel_rfl)) rfl ?_)
   refine ⟨hx02.kept hkv (by simp), ?_⟩
   rw [HT2.out]
   rfl
end Go.Proofs.YthlppbbejdeeoaaGreatDoor
namespace Go.Proofs.YthlppbbejdeeoaaGreatDoor
open Go.RowKit
def doV (ls : List Int) : List Value := ls.map (.int .i64 ·)
theorem doV_get {ls : List Int} {k : Nat} (h : k < ls.length) : (doV ls)[k]? = some (.int .i64 ls[k]) := by simp [doV, h]
theorem Index_any (ls : List Int) (v : Int) (A : Option Addr) (cap : Nat) (w : World) (h : Sl w A (doV ls)) (hl : ls.length ≤ 1000) :
 Calls Tryz.prog 93 #[.slice A ls.length cap, .int .i64 v] w fun e w' => (∃ i : Int, e = .returned (.int .i64 i) ∧ decide (0 ≤ i) = decide (v ∈ ls)) ∧ w = w' := by
 go_enter Tryz.func93, Tryz.ntmps93
 go_wp2
 go_loop [8] (fun i => ∃ k : Nat, k ≤ ls.length ∧ i = .int .i64 k ∧ v ∉ ls.take k) (fun i => ls.length - (intOf i).toNat)
 case atStart => exact ⟨0, by omega, rfl, by simp⟩
 case round =>
  obtain ⟨k, hk, rfl, hno⟩ := hrel
  by_cases hlt : k < ls.length
  ·obtain ⟨ad, rfl, hc⟩ := Sl.now h (doV_get hlt)
   have hlt2 : (k : Int) < ls.length := by omega
   have HT := Lib.hid (List.take_succ_eq_append_getElem hlt)
   have HM : Hid (ls[k] ∈ ls) := Lib.hid (List.getElem_mem hlt)
   have HNO := Lib.hid hno
   clear hno
   generalize ls[k] = x at *
   by_cases hv : v = x
   ·subst hv
    go_wp2
    go_ret
    exact ⟨⟨_, rfl, by simp [HM.out]⟩, rfl⟩
   ·have hv2 : (v == x) = false := by simpa using hv
    have HV := Lib.hid hv
    clear hv
    go_wp2
    go_round
    case rel => exact ⟨k + 1, by omega, by go_num, by rw [HT.out]; simp [HNO.out, HV.out]⟩
    case measure => simp [intOf]; omega
  ·have HNO : Hid (v ∉ ls) := Lib.hid (by rw [List.take_of_length_le (by omega)] at hno; exact hno)
   clear hno
   go_wp2
   go_ret
   exact ⟨⟨_, rfl, by simp [HNO.out]⟩, rfl⟩
theorem Contains_any (ls : List Int) (v : Int) (A : Option Addr) (cap : Nat) (w : World) (h : Sl w A (doV ls)) (hl : ls.length ≤ 1000) :
 Calls Tryz.prog 80 #[.slice A ls.length cap, .int .i64 v] w fun e w' => e = .returned (.bool (decide (v ∈ ls))) ∧ w = w' := by
 have HI := Index_any ls v A cap w h hl
 generalize decide (v ∈ ls) = b at *
 go_enter Tryz.func80, Tryz.ntmps80
 go_wp2_with fail
 refine HI.mono ?_
 rintro e w1 ⟨⟨i, rfl, hi⟩, rfl⟩
 have HB := Lib.hid hi
 clear hi HI
 go_wp2
 go_ret
 exact ⟨by rw [← HB.out]; rfl, rfl⟩
theorem call_Check1 (args : Array Value) (w : World) : (callFunc 79 args).run Tryz.prog w = .ok (.enter 79 args) w := by
 go_simp
theorem Check1_any (ls : List Int) (g : Nat) (o : Int) (A : Option Addr) (cap n : Nat) (w : World) (h : Sl w A (doV ls)) (hl : ls.length ≤ 1000) (hg : w.cell? ⟨g, 0, none⟩ = some (.int .i64 o)) (hn : n = ls.length) :
 Calls Tryz.prog 79 #[.slice A n cap, .pointer (some ⟨g, 0, none⟩)] w fun e w' => e = .returned (.bool (decide (o ∈ ls))) ∧ w = w' := by
 subst hn
 have HC := Contains_any ls o A cap w h hl
 generalize decide (o ∈ ls) = b at *
 go_enter Tryz.func79, Tryz.ntmps79
 go_wp2_with fail
 refine HC.mono ?_
 rintro e w1 ⟨rfl, rfl⟩
 go_wp2
 go_ret
 exact ⟨rfl, rfl⟩
end Go.Proofs.YthlppbbejdeeoaaGreatDoor
namespace Go.Proofs.YthlppbbejdeeoaaGreatDoor
open Go.RowKit
theorem Stp.drew {ts : List Nat} {w w' : World} (h : Stp ts w w') : Stp ts w w'.drew := ⟨h.1, h.2⟩
theorem Stp.refl (ts : List Nat) (w : World) : Stp ts w w := .of_ext (Ext.refl w)
theorem Stp.alloc {ts : List Nat} {w w' : World} (h : Stp ts w w') (o : Obj) : Stp ts w (w'.alloc o) := h.trans (.of_ext ((Ext.refl _).alloc o))
theorem Stp.own {ts : List Nat} {w w' w'' : World} {base : Nat} {b : Value} {l : By} (h : Stp ts w w') (ho : Own w' base b l) (hg : w'.grownBy w'' b.ownBlock) (hts : 5 ∉ ts) : Stp ts w w'' := by
 obtain ⟨N, hk, hN⟩ := Kept.row ho hg
 exact h.trans (.kept hk fun k hk _ => by obtain ⟨_, cs, h⟩ := hN k hk; exact ⟨cs, _, _, h, hts⟩)
/-- what is laid so far, and that nothing but bytes was turned -/
structure Lay (w0 w : World) (l : By) (w' : World) (b : Value) : Prop where
 o : Own w' w0.heap.size b l
 x : Ext w0 w'
 s : ∀ ts, 5 ∉ ts → Stp ts w w'
theorem Lay.trans {w0 w w1 w2 : World} {l m : By} {b c : Value} (h : Lay w0 w l w1 b) (k : Lay w0 w1 m w2 c) : Lay w0 w m w2 c := ⟨k.o, k.x, fun ts ht => (h.s ts ht).trans (k.s ts ht)⟩
theorem Lay.drew {w0 w w1 : World} {l : By} {b : Value} (h : Lay w0 w l w1 b) : Lay w0 w l w1.drew b := ⟨h.o, h.x.drew, fun ts ht => (h.s ts ht).drew⟩
set_option maxHeartbeats 1000000 in
theorem numS_any (w0 w : World) (b : Value) (l : By) (v n : Nat) (hx : Ext w0 w) (ho : Own w w0.heap.size b l) (hl : l.length + 4 ≤ 140737488355328) (hn : n ≤ 4) :
 Calls Tryz.prog 51 #[b, .int .i64 v, .int .i64 n] w fun e w' => ∃ b', e = .returned b' ∧ Lay w0 w (l ++ beN n v) w' b' := by
 obtain ⟨ls, hls⟩ : ∃ ls, ls = l ++ beN n v := ⟨_, rfl⟩
 rw [← hls]
 have HLS := Lib.hid hls
 clear hls
 go_enter Tryz.func51, Tryz.ntmps51
 go_wp2
 go_loopw [0, 7] (fun b' k wr => ∃ (m : Nat) (l' : By), k = .int .i64 ((m : Int) - 1) ∧ m ≤ n ∧ Lay w0 w l' wr b' ∧ l' ++ beN m v = ls) (fun _ k _ => ((intOf k) + 1).toNat)
 case atStart => exact ⟨n, l, rfl, Nat.le_refl _, ⟨ho, hx, fun ts _ => .refl ts w⟩, HLS.out.symm⟩
 case round =>
  clear ho hx
  obtain ⟨m, l', rfl, hmn, hlay, hls⟩ := hrel
  have HLEN := Lib.hid (congrArg List.length hls)
  have HLN := Lib.hid (congrArg List.length HLS.out)
  match m with
  | 0 =>
   rw [beN, List.append_nil] at hls
   subst hls
   go_wp2
   go_ret
   exact ⟨_, rfl, hlay⟩
  | m + 1 =>
   rw [beN] at hls
   have HL := Lib.hid hls
   clear hls
   have e1 : ((m + 1 : Nat) : Int) - 1 = (m : Int) := by omega
   have hsh := shr_byte v m
   have e2 : ((8 : Int) * (m : Int)).toNat = 8 * m := by omega
   have hwb := wrap_byte (v / 256 ^ m)
   have ho := hlay.o
   have hx := hlay.x
   obtain ⟨A, cap, rfl⟩ := ho.form
   rw [e1]
   go_wp2_with (at_builtin; refine unstop ?_)
   refine go_on (wpList_appB bytesTr (ho.alloc _) (Bs.new _ [UInt8.ofNat (v / 256 ^ m)] _ rfl _ _) rfl rfl rfl rfl rfl (by have := HLEN.out; have := HLN.out; simp only [List.length_append, beN_length, List.length_cons, List.length_nil] at *; omega) (by have := hx.size; simp; omega) ?_)
   intro b' w1 ho1 hg1 _
   have hlay1 : Lay w0 w (l' ++ [UInt8.ofNat (v / 256 ^ m)]) w1 b' := ⟨ho1, (hx.alloc _).own (ho.alloc _) (Nat.le_refl _) hg1, fun ts ht => ((hlay.s ts ht).alloc _).own (ho.alloc _) hg1 ht⟩
   clear hsh e1 e2 hwb hg1 hlay hx ho
   go_wp2
   go_roundw
   case rel => exact ⟨m, _, rfl, by omega, hlay1, by rw [← HL.out, List.append_assoc]; rfl⟩
   case measure => simp [intOf]
set_option maxHeartbeats 1000000 in
theorem longS_any (w0 w : World) (b : Value) (l p : By) (A : Option Addr) (c : Nat) (hx : Ext w0 w) (ho : Own w w0.heap.size b l) (hp : Bs w0 A p) (hl : l.length + p.length + 8 ≤ 140737488355328) :
 Calls Tryz.prog 54 #[b, .slice A p.length c] w fun e w' => ∃ b', e = .returned b' ∧ Lay w0 w (l ++ longB p) w' b' := by
 have HN := numS_any w0 w b l p.length 2 hx ho (by omega) (by omega)
 go_enter Tryz.func54, Tryz.ntmps54
 go_wp2_with fail
 refine HN.mono ?_
 rintro e w1 ⟨b1, rfl, hlay⟩
 go_wp2_with (at_builtin; refine unstop ?_)
 refine go_on (wpList_appB bytesTr hlay.o (hp.ext hlay.x) rfl rfl rfl rfl rfl (by simp; omega) hlay.x.size ?_)
 intro b2 w2 ho2 hg2 _
 have hlay2 : Lay w0 w (l ++ longB p) w2 b2 := ⟨by simpa [longB] using ho2, hlay.x.own hlay.o (Nat.le_refl _) hg2, fun ts ht => (hlay.s ts ht).own hlay.o hg2 ht⟩
 clear hg2 ho2 ho HN hp hlay
 go_wp2
 go_ret
 exact ⟨_, rfl, hlay2⟩
set_option maxHeartbeats 1000000 in
theorem shortS_any (w0 w : World) (b : Value) (l p : By) (hx : Ext w0 w) (ho : Own w w0.heap.size b l) (hl : l.length + p.length + 8 ≤ 140737488355328) :
 Calls Tryz.prog 53 #[b, .string (st p)] w fun e w' => ∃ b', e = .returned b' ∧ Lay w0 w (l ++ shortB p) w' b' := by
 have HN := numS_any w0 w b l p.length 1 hx ho (by omega) (by omega)
 obtain ⟨s, hs⟩ : ∃ s, s = st p := ⟨_, rfl⟩
 have hz : s.size = p.length := by rw [hs, st_size]
 rw [← hs]
 have HS := Lib.hid hs
 clear hs
 go_enter Tryz.func53, Tryz.ntmps53
 go_wp2_with fail
 refine HN.mono ?_
 rintro e w1 ⟨b1, rfl, hlay⟩
 go_wp2_with (at_builtin; refine unstop ?_)
 refine go_on (wpList_appS hlay.o rfl rfl rfl (congrArg Value.string HS.out) (by simp; omega) hlay.x.size ?_)
 intro b2 w2 ho2 hg2
 have hlay2 : Lay w0 w (l ++ shortB p) w2 b2 := ⟨by simpa [shortB] using ho2, hlay.x.own hlay.o (Nat.le_refl _) hg2, fun ts ht => (hlay.s ts ht).own hlay.o hg2 ht⟩
 clear hg2 ho2 ho HN hlay
 go_wp2
 go_ret
 exact ⟨_, rfl, hlay2⟩
/-! ## how a deed reads -/
def RDd : Reading Dd where
 says M w cs d := ∃ A cap, cs = (ddC d (.slice A d.bytes.length cap)).toList ∧ BsM M w A d.bytes ∧ d.bytes.length ≤ cap ∧ d.bytes.length ≤ 140737488351232 ∧ d.user.length ≤ 140737488351232 ∧ d.box.length ≤ 140737488351232 ∧ d.dest.length ≤ 140737488351232
 kept := by
  rintro M w w' cs x ⟨A, cap, h1, h2, h3⟩ hx
  exact ⟨A, cap, h1, h2.kept hx, h3⟩
 old := by
  rintro M N w cs x ⟨A, cap, h1, h2, h3⟩ hx
  exact ⟨A, cap, h1, SlM.old h2 hx, h3⟩
/-! ## how long what is right can be -/
theorem sizeF_add (ls : List Lt) : ∀ n, sizeF n ls = n + sizeF 0 ls := by
 induction ls with
 | nil => intro n; rfl
 | cons l ls ih =>
  intro n
  have h1 : sizeF n (l :: ls) = sizeF (n + l.bytes.length) ls := rfl
  have h2 : sizeF 0 (l :: ls) = sizeF (0 + l.bytes.length) ls := rfl
  rw [h1, h2, ih, ih (0 + _)]
  omega
theorem putL_len (ls : List Lt) : (ls.flatMap putL).length = 7 * ls.length + sizeF 0 ls := by
 induction ls with
 | nil => rfl
 | cons l ls ih =>
  have h2 : sizeF 0 (l :: ls) = sizeF (0 + l.bytes.length) ls := rfl
  rw [List.flatMap_cons, List.length_append, ih, h2, sizeF_add ls (0 + _)]
  simp only [putL, longB, List.length_append, beN_length, List.length_cons, List.length_nil]
  omega
theorem rightB_len {l : By} (h : rightB l = true) : 1 ≤ l.length ∧ l.length ≤ 24 := by
 unfold rightB at h
 simp only [Bool.and_eq_true, decide_eq_true_eq] at h
 obtain ⟨⟨⟨h1, h2⟩, _⟩, _⟩ := h
 exact ⟨List.length_pos_iff.2 h1, h2⟩
theorem rightU_len {l : By} (h : rightU l = true) : 1 ≤ l.length ∧ l.length ≤ 24 := by
 unfold rightU at h
 simp only [Bool.and_eq_true, decide_eq_true_eq] at h
 obtain ⟨⟨_, h1⟩, h2⟩ := h
 exact ⟨List.length_pos_iff.2 h1, h2⟩
theorem oneC_ok {valid : Int} {prev : Option By} {b : Bx} (h : oneC valid prev b = 0) : rightB b.name = true ∧ behindB prev b.name = false ∧ boxC b = 0 ∧ b.valid ≤ valid := by
 unfold oneC at h
 split at h
 ·cases h
 ·rename_i h1
  split at h
  ·rename_i h2; exact absurd h h2
  ·rename_i h2
   split at h
   ·cases h
   ·rename_i h3
    simp only [not_or, Bool.not_eq_false, Bool.not_eq_true] at h1
    exact ⟨h1.1, h1.2, by omega, by omega⟩
theorem boxesC_len (valid : Int) : ∀ (bs : List Bx) (prev : Option By) (t : Tot), boxesC valid bs prev t = 0 →
 (bs.flatMap putX).length + (if t.found then 0 else 19) + 7 * t.letters + t.size ≤ 34 * bs.length + 1480 := by
 intro bs
 induction bs with
 | nil =>
  intro prev t h
  unfold boxesC at h
  split at h
  ·cases h
  ·rename_i h1
   split at h
   ·cases h
   ·rename_i h2
    have : t.found = true := by simpa using h1
    rw [this]
    simp
    omega
 | cons b bs ih =>
  intro prev t h
  unfold boxesC at h
  split at h
  ·rename_i h1; exact absurd h h1
  ·rename_i h1
   have hone := oneC_ok (by omega : oneC valid prev b = 0)
   have := ih _ _ h
   have hl := rightB_len hone.1
   have hin : b.name = inboxL → b.name.length = 5 := by intro h; rw [h]; rfl
   simp only [List.flatMap_cons, List.length_append, putX, shortB, beN_length, List.length_nil, putL_len, List.length_cons, Tot.add] at this ⊢
   unfold sizeB at this
   by_cases hn : b.name = inboxL
   ·have := hin hn
    cases hf : t.found <;> simp [hf, hn] at * <;> omega
   ·cases hf : t.found <;> simp [hf, hn] at * <;> omega
theorem checkU_ok {u : Us} (h : checkU u = 0) : rightU u.name = true ∧ 1 ≤ u.valid ∧ u.valid ≤ 4294967295 ∧ 1 ≤ u.boxes.length ∧ u.boxes.length ≤ 6 ∧ boxesC u.valid u.boxes none ⟨0, 0, false⟩ = 0 := by
 unfold checkU at h
 split at h
 ·cases h
 ·rename_i h1
  split at h
  ·cases h
  ·rename_i h2
   split at h
   ·cases h
   ·rename_i h3
    exact ⟨by simpa using h1, by omega, by omega, by omega, by omega, h⟩
theorem putUs_len {u : Us} (h : checkU u = 0) : (putUs u).length ≤ 1700 := by
 obtain ⟨h1, h2, h3, h4, h5, h6⟩ := checkU_ok h
 have := boxesC_len _ _ _ _ h6
 have := rightU_len h1
 simp only [putUs, shortB, List.length_append, beN_length, List.length_nil] at *
 simp at *
 omega
theorem takeUs_pos {l : By} {k : Nat} (h : takeUs l = .inl k) : k ≠ 0 := by
 unfold takeUs at h
 cases hp : readP userP l with
 | inl e => rw [hp] at h; cases h; exact Nz.user.read hp
 | inr u =>
  rw [hp] at h
  simp only at h
  split at h
  ·rename_i hc; cases h; exact hc
  ·cases h
theorem takeUs_ok {l : By} {u : Us} (h : takeUs l = .inr u) : l = putUs u ∧ checkU u = 0 := by
 unfold takeUs at h
 cases hp : readP userP l with
 | inl e => rw [hp] at h; cases h
 | inr u' =>
  rw [hp] at h
  simp only at h
  split at h
  ·cases h
  ·rename_i hc
   cases h
   exact ⟨(read_got Rt.user hp).1, by simpa using hc⟩
theorem withinB_ok {b : Bool} {n lo hi : Int} (h : withinB b n lo hi = true) : (b = false ∧ n = 0) ∨ (b = true ∧ lo ≤ n ∧ n ≤ hi) := by
 unfold withinB at h
 cases b <;> simp_all
/-- a deed that is right -/
theorem checkD_ok {d : Dd} (h : checkD d = 0) : 1 ≤ d.dw ∧ d.dw ≤ 9 ∧ d.user.length ≤ 24 ∧ d.box.length ≤ 24 ∧ d.dest.length ≤ 24 ∧ okD d ∧ d.flags.toNat < 32 ∧ d.bytes.length ≤ 1700 := by
 unfold checkD at h
 split at h
 ·cases h
 rename_i h1
 split at h
 ·cases h
 rename_i h2
 split at h
 ·cases h
 rename_i h3
 have hb : d.bytes.length ≤ 1700 := by
  split at h
  ·cases h
  rename_i h4
  split at h
  ·cases h
  rename_i h5
  split at h
  ·rename_i h6; omega
  rename_i h6
  unfold lastC at h
  cases hu : takeUs d.bytes with
  | inl e => rw [hu] at h; exact absurd h (takeUs_pos hu)
  | inr u =>
   obtain ⟨q1, q2⟩ := takeUs_ok hu
   rw [q1]
   exact putUs_len q2
 simp only [form4, Bool.or_eq_true, Bool.and_eq_true, Bool.not_eq_true', not_or, Bool.not_eq_false, decide_eq_false_iff_not, decide_eq_true_eq, not_and, Decidable.not_not] at h2
 obtain ⟨⟨⟨⟨f1, f2⟩, f3⟩, f4⟩, f5⟩ := h2
 simp only [form2, Bool.or_eq_true, Bool.not_eq_true', not_or, Bool.not_eq_false] at h3
 obtain ⟨⟨⟨⟨g1, g2⟩, g3⟩, g4⟩, g5⟩ := h3
 have lu := rightU_len f1
 have lb : d.box.length ≤ 24 := by
  cases hbx : boxed d.dw with
  | true => exact (rightB_len (f2 hbx)).2
  | false => rw [f3 hbx]; simp
 have lt : d.dest.length ≤ 24 := by
  by_cases h7 : d.dw = 7
  ·exact (rightB_len (f4 h7)).2
  ·rw [f5 h7]; simp
 have g1 := withinB_ok g1
 have g2 := withinB_ok g2
 have g3 := withinB_ok g3
 have g4 := withinB_ok g4
 have g5 := withinB_ok g5
 refine ⟨by omega, by omega, lu.2, lb, lt, ⟨⟨by omega, by omega⟩, by omega, by omega, by omega, ⟨by omega, by omega⟩, ⟨by omega, by omega⟩, ⟨by omega, by omega⟩, ⟨by omega, by omega⟩, by omega⟩, by omega, hb⟩
theorem putD_len {d : Dd} (h : checkD d = 0) : (putD d).length ≤ 2000 := by
 obtain ⟨_, _, h3, h4, h5, _, _, h8⟩ := checkD_ok h
 simp only [putD, shortB, longB, List.length_append, beN_length, List.length_nil]
 omega
end Go.Proofs.YthlppbbejdeeoaaGreatDoor
namespace Go.Proofs.YthlppbbejdeeoaaGreatDoor
open Go.RowKit
/-- what the walk of Check shows -/
def CheckLaw : Prop := ∀ (d : Dd) (A : Option Addr) (cap : Nat) (w : World), Bs w A d.bytes → d.bytes.length ≤ cap → d.bytes.length ≤ 140737488351232 → d.user.length ≤ 140737488355328 → d.box.length ≤ 140737488355328 → d.dest.length ≤ 140737488355328 →
 Calls Tryz.prog 52 #[.agg (ddC d (.slice A d.bytes.length cap))] w fun e w' => e = .returned (.int .i64 (checkD d : Nat)) ∧ Ext w w'
/-- bytes of the call's own, or why there are none -/
def PutSays (r : By × Nat) (w : World) (e : Ending) (w' : World) : Prop := Ext w w' ∧ ∃ v, e = .returned (.tuple #[v, .int .i64 (r.2 : Nat)]) ∧ Own w' w.heap.size v r.1
theorem PutSays.none {r : By × Nat} {w w' : World} {k : Nat} (hr : r = ([], k)) (hx : Ext w w') : PutSays r w (.returned (.tuple #[.slice none 0 0, .int .i64 (k : Nat)])) w' := by
 subst hr
 exact ⟨hx, _, rfl, Own.nil _ _⟩
theorem flat_len (ds : List Dd) (h : ∀ d ∈ ds, checkD d = 0) : (ds.flatMap putD).length ≤ 2000 * ds.length := by
 induction ds with
 | nil => simp
 | cons d ds ih =>
  have h1 := putD_len (h d (.head _))
  have h2 := ih fun x hx => h x (.tail _ hx)
  simp only [List.flatMap_cons, List.length_append, List.length_cons]
  omega
theorem firstC_ok {ds : List Dd} (h : ∀ d ∈ ds, checkD d = 0) : firstC ds = 0 := by
 unfold firstC
 have : ds.find? (fun d => decide (checkD d ≠ 0)) = none := List.find?_eq_none.2 fun d hd => by simp [h d hd]
 rw [this]
theorem firstC_of {ds : List Dd} (h : firstC ds = 0) : ∀ d ∈ ds, checkD d = 0 := by
 intro d hd
 unfold firstC at h
 cases hf : ds.find? (fun d => decide (checkD d ≠ 0)) with
 | none =>
  have := List.find?_eq_none.1 hf d hd
  simpa using this
 | some x =>
  rw [hf] at h
  have := List.find?_some hf
  simp at this
  exact absurd h this
theorem firstC_at {ds : List Dd} {k : Nat} (hk : k < ds.length) (h : ∀ d ∈ ds.take k, checkD d = 0) (h0 : checkD ds[k] ≠ 0) : firstC ds = checkD ds[k] := by
 unfold firstC
 have h1 : ds.find? (fun d => decide (checkD d ≠ 0)) = some ds[k] := by
  rw [List.find?_eq_some_iff_append]
  refine ⟨by simpa using h0, ds.take k, ds.drop (k + 1), ?_, fun a ha => by simp [h a ha]⟩
  rw [← List.drop_eq_getElem_cons hk, List.take_append_drop]
 rw [h1]
theorem row_s {ts : List Nat} {w : World} {p t : Nat} {cs : Array Value} {fr : Nat × Nat} (h : w.heap[p]? = some (.cells cs t fr)) (ht : t ∈ ts) (j : Nat) (v : Value) (hv : cs[j]? = some v) : ∀ w', Stp ts w w' → w'.cell? ⟨p, j, none⟩ = some v := fun w' hx => by
 rw [cell_of_row w' p j _ _ _ (hx.2 _ _ _ _ h ht), hv]
set_option maxRecDepth 20000 in
set_option maxHeartbeats 8000000 in
theorem PutAll_any (HCK : CheckLaw) (ds : List Dd) (A : Option Addr) (cap : Nat) (w : World) (h : RsM RDd 10 [] w A ds) (hlen : ds.length ≤ 140737488351232) :
 Calls Tryz.prog 35 #[.slice A ds.length cap] w (PutSays (putAllT ds) w) := by
 have HN0 := numS_any w w (.slice none 0 0) [] ds.length 1 (Ext.refl w) (Own.nil _ _) (by simp) (by omega)
 rw [List.nil_append] at HN0
 have HP : Hid (putAllT ds = if ds.length = 0 then ([], 2) else if 12 < ds.length then ([], 6) else if firstC ds ≠ 0 then ([], firstC ds) else if 1800 < (putAllB ds).length then ([], 6) else (putAllB ds, 0)) := Lib.hid rfl
 have hmf : ∀ d ∈ ds, True := fun _ _ => trivial
 clear hmf
 go_enter Tryz.func35, Tryz.ntmps35
 by_cases h0 : ds.length = 0
 ·have k0 : ((ds.length : Int) == 0) = true := by simp [h0]
  have HB := Lib.hid (HP.out.trans (if_pos h0))
  clear h0 HP HN0
  go_wp2
  go_ret2
  exact PutSays.none HB.out (Ext.refl w)
 ·have k0 : ((ds.length : Int) == 0) = false := by simpa using h0
  have HP2 := Lib.hid (HP.out.trans (if_neg h0))
  clear h0 HP
  by_cases h12 : (12 : Int) < (ds.length : Int)
  ·have HB := Lib.hid (HP2.out.trans (if_pos (by omega)))
   clear HP2 HN0
   go_wp2
   go_ret2
   exact PutSays.none HB.out (Ext.refl w)
  ·have HP3 := Lib.hid (HP2.out.trans (if_neg (by omega)))
   clear HP2
   go_wp2_with fail
   refine HN0.mono ?_
   rintro e w1 ⟨b1, rfl, hlay⟩
   clear HN0
   go_wp2
   go_loopw [4, 21] (fun xb iv wr => ∃ k : Nat, iv = .int .i64 k ∧ k ≤ ds.length ∧ (∀ d ∈ ds.take k, checkD d = 0) ∧ Lay w w (beN 1 ds.length ++ (ds.take k).flatMap putD) wr xb) (fun _ iv _ => ds.length - (intOf iv).toNat)
   case atStart => exact ⟨0, rfl, by omega, by simp, by simpa using hlay⟩
   case round =>
    clear hlay
    obtain ⟨k, rfl, hk, hok, hlay⟩ := hrel
    have hx := hlay.x
    have hflat := flat_len _ hok
    simp only [List.length_take] at hflat
    by_cases hlt : k < ds.length
    ·obtain ⟨ad, cs, hA, had, hcs, hcell, A2, cap2, hcs2, hby, hc2, hb1, hb2, hb3, hb4⟩ := h.at_ (by omega) hlt
     subst hA hcs2
     have hlt2 : (k : Int) < ds.length := by omega
     have hcl := fun j v hj => hx.cell (show w.cell? ((ad.add (k * 10)).add j) = some v by rw [add_addB]; exact hcell j v hj)
     have hFC := Lib.hid (fun h0 => firstC_at hlt hok h0)
     have hTK : Hid (ds.take (k + 1) = ds.take k ++ [ds[k]]) := Lib.hid (by rw [List.take_add_one, List.getElem?_eq_getElem hlt]; rfl)
     have hCK := fun w' (hx' : Ext w w') => HCK ds[k] A2 cap2 w' (hby.bs.ext hx') hc2 hb1 (by omega) (by omega) (by omega)
     have hLB := fun w' (hx' : Ext w w') => hby.bs.ext hx'
     clear hcs hcell hby had
     generalize ds[k] = dd at *
     obtain ⟨dw, du, db, dt, di, dh, df, dsh, de, dby⟩ := dd
     unfold ddC at hCK hcl
     simp only at hcl hCK hLB hc2 hb1 hb2 hb3 hb4
     go_wp2_with (with_reducible first | refine sA 90 ?_ | refine sS 90 ?_ | refine sL 90 ?_)
     refine go_on (wpList_load_elem rfl 90 _ rfl (ad.add (k * 10)) rfl _ _ hcl Tryz.underlying90 rfl (by kernel_rfl) ?_)
     go_wp2_with (with_reducible first | refine sA 90 ?_ | refine sS 90 ?_ | refine sL 90 ?_)
     refine go_on (wpList_alloc_ rfl rfl deed_info ?_)
     go_wp2_with (with_reducible first | refine sA 90 ?_ | refine sS 90 ?_ | refine sL 90 ?_)
     refine go_on (wpList_store_last rfl rfl rfl rfl (by kernel_rfl) rfl (by simp [Value.oneCell']) ?_)
     intro wb hrowB hxb _
     go_wp2_with (with_reducible refine sL 90 ?_)
     refine go_on (wpList_load_row rfl 90 _ rfl wr.heap.size rfl 90 _ (0, 0) _ hrowB Tryz.underlying90 rfl (by kernel_rfl) ?_)
     have hlayb : Lay w w (beN 1 ds.length ++ (ds.take k).flatMap putD) wb _ := ⟨hlay.o.ext hxb, hx.trans hxb, fun ts ht => (hlay.s ts ht).trans (.of_ext hxb)⟩
     clear hcl hlay hx
     go_wp2_with fail
     refine (hCK wb hlayb.x).mono ?_
     rintro e w2 ⟨rfl, hx2⟩
     have hrow2 := hx2.obj hrowB
     have hlay2 : Lay w w (beN 1 ds.length ++ (ds.take k).flatMap putD) w2 _ := ⟨hlayb.o.ext hx2, hlayb.x.trans hx2, fun ts ht => (hlayb.s ts ht).trans (.of_ext hx2)⟩
     clear hrowB hlayb hxb hx2 hCK
     by_cases hc0 : checkD ⟨dw, du, db, dt, di, dh, df, dsh, de, dby⟩ = 0
     ·obtain ⟨hd1, hd2, hd3, hd4, hd5, ⟨o1, o2, o3, o4, o5, o6, o7, o8, o9⟩, hd7, hd8⟩ := checkD_ok hc0
      simp only at hd1 hd2 hd3 hd4 hd5 o1 o2 o3 o4 o5 o6 o7 o8 o9 hd7 hd8
      have HC0 := Lib.hid hc0
      rw [hc0]
      have hPD := Lib.hid (show putD ⟨dw, du, db, dt, di, dh, df, dsh, de, dby⟩ = _ from rfl)
      obtain ⟨dw, rfl⟩ : ∃ n : Nat, dw = (n : Int) := ⟨dw.toNat, by omega⟩
      obtain ⟨di, rfl⟩ : ∃ n : Nat, di = (n : Int) := ⟨di.toNat, by have := o5.1; omega⟩
      obtain ⟨dh, rfl⟩ : ∃ n : Nat, dh = (n : Int) := ⟨dh.toNat, by have := o6.1; omega⟩
      obtain ⟨dsh, rfl⟩ : ∃ n : Nat, dsh = (n : Int) := ⟨dsh.toNat, by have := o7.1; omega⟩
      obtain ⟨de, rfl⟩ : ∃ n : Nat, de = (n : Int) := ⟨de.toNat, by have := o8.1; omega⟩
      have hwf : IntKind.i64.wrap ((df.toNat : Nat) : Int) = ((df.toNat : Nat) : Int) := wrap64_nat _ (by omega)
      have hlen2 : (beN 1 ds.length ++ (ds.take k).flatMap putD).length ≤ 30000 := by simp only [List.length_append, beN_length]; omega
      clear hc0 o1 o2 o3 o4 o5 o6 o7 o8 o9 hflat
      generalize hbase : beN 1 ds.length ++ (ds.take k).flatMap putD = lb at *
      have HBASE := Lib.hid hbase
      clear hbase
      have HM : 90 ∈ [90] := by simp
      have C0 := row_s hrow2 HM 0 _ rfl
      have C1 := row_s hrow2 HM 1 _ rfl
      have C2 := row_s hrow2 HM 2 _ rfl
      have C3 := row_s hrow2 HM 3 _ rfl
      have C4 := row_s hrow2 HM 4 _ rfl
      have C5 := row_s hrow2 HM 5 _ rfl
      have C6 := row_s hrow2 HM 6 _ rfl
      have C7 := row_s hrow2 HM 7 _ rfl
      have C8 := row_s hrow2 HM 8 _ rfl
      have C9 := row_s hrow2 HM 9 _ rfl
      have hN := fun (W : World) (b : Value) (l : By) (v n : Nat) (hL : Lay w w l W b) (h1 : l.length ≤ 40000) (hn : n ≤ 4) => numS_any w W b l v n hL.x hL.o (by omega) hn
      have hS := fun (W : World) (b : Value) (l p : By) (hL : Lay w w l W b) (h1 : l.length ≤ 40000) (hp : p.length ≤ 24) => shortS_any w W b l p hL.x hL.o (by omega)
      have hLg := fun (W : World) (b : Value) (l : By) (hL : Lay w w l W b) (h1 : l.length ≤ 40000) => longS_any w W b l dby A2 cap2 hL.x hL.o (hLB w (Ext.refl w)) (by omega)
      have hND : 5 ∉ [90] := by simp
      have hs0 : Stp [90] w2 w2.drew := (Stp.refl _ _).drew
      have hlay3 := hlay2.drew
      clear hlay2 hLB HCK h
      go_wp2_with fail
      refine wp_region_phase (S := fun w' => Stp [90] w2 w') 13 (by kernel_rfl) (by kernel_rfl) ?_ (fun hHeld => ?_)
      ·exact hs0
      simp only [List.drop_succ_cons, List.drop_zero]
      refine name_head ?_
      intro wr0 hw0
      rw [hw0] at hHeld
      refine wt 0 _ ?_
      simp only [red, Act.put]
      refine wt 1 _ ?_
      simp only [red, Act.put]
      refine wt 2 _ ?_
      simp only [red, Act.put]
      refine wt 4 _ ?_
      simp only [red, Act.put]
      refine wt 5 _ ?_
      simp only [red, Act.put]
      refine wt 7 _ ?_
      simp only [red, Act.put]
      refine wt 8 _ ?_
      simp only [red, Act.put]
      refine wt 10 _ ?_
      simp only [red, Act.put]
      refine wt 11 _ ?_
      simp only [red, Act.put]
      refine rd [3] ?_
      refine ac (fun K hK => ?_) ?_
      ·refine step_callG (by rfl) (by kernel_rfl) (hN _ _ _ dw 1 (by rw [← hw0]; exact hlay3) (by omega) (by omega)) ?_
       rintro e wr3 ⟨c3, rfl, hl3⟩
       refine ⟨_, rfl, ?_⟩
       refine hK.out _ _ ?_ (fun hHeld => ?_)
       ·exact hHeld.trans (hl3.s _ hND)
       clear hK K
       try simp only [red, Act.put]
       refine rd [6] ?_
       refine ac (fun K hK => ?_) ?_
       ·have hl3' := hlay3.trans (hw0 ▸ hl3)
        refine step_callG (by rfl) (by kernel_rfl) (hS _ _ _ du hl3' (by simp; omega) (by omega)) ?_
        rintro e wr6 ⟨c6, rfl, hl6⟩
        refine ⟨_, rfl, ?_⟩
        refine hK.out _ _ ?_ (fun hHeld => ?_)
        ·exact hHeld.trans (hl6.s _ hND)
        clear hK K
        try simp only [red, Act.put]
        refine rd [9] ?_
        refine ac (fun K hK => ?_) ?_
        ·have hl6' := hl3'.trans hl6
         refine step_callG (by rfl) (by kernel_rfl) (hS _ _ _ db hl6' (by simp [shortB]; omega) (by omega)) ?_
         rintro e wr9 ⟨c9, rfl, hl9⟩
         refine ⟨_, rfl, ?_⟩
         refine hK.out _ _ ?_ (fun hHeld => ?_)
         ·exact hHeld.trans (hl9.s _ hND)
         clear hK K
         try simp only [red, Act.put]
         refine rd [12] ?_
         refine ac (fun K hK => ?_) ?_
         ·have hl9' := hl6'.trans hl9
          refine step_callG (by rfl) (by kernel_rfl) (hS _ _ _ dt hl9' (by simp [shortB]; omega) (by omega)) ?_
          rintro e wr12 ⟨c12, rfl, hl12⟩
          refine ⟨_, rfl, ?_⟩
          refine hK.out _ _ ?_ (fun hHeld => ?_)
          ·exact hHeld.trans (hl12.s _ hND)
          clear hK K
          try simp only [red, Act.put]
          refine wpHead_done (by kernel_rfl) ?_
          have hl12' := hl9'.trans hl12
          have hs12 := hHeld.drew
          have hlq := hl12'.drew
          have HQ : Hid (lb ++ beN 1 dw ++ shortB du ++ shortB db ++ shortB dt = lb ++ (beN 1 dw ++ (shortB du ++ (shortB db ++ shortB dt)))) := Lib.hid (by simp only [List.append_assoc])
          rw [HQ.out] at hlq
          have hlq2 : (lb ++ (beN 1 dw ++ (shortB du ++ (shortB db ++ shortB dt)))).length ≤ 30100 := by simp [shortB]; omega
          generalize hlb2 : lb ++ (beN 1 dw ++ (shortB du ++ (shortB db ++ shortB dt))) = lb2 at *
          have HLB2 := Lib.hid hlb2
          clear hlb2 hl3 hl3' hl6 hl6' hl9 hl9' hl12 hl12' hlay3 HQ hs0 hw0 hHeld C0 C1 C2 C3 hS
          go_wp2_with fail
          refine wp_region_phase (S := fun w' => Stp [90] w2 w') 17 (by kernel_rfl) (by kernel_rfl) ?_ (fun hHeld => ?_)
          ·exact hs12
          simp only [List.drop_succ_cons, List.drop_zero]
          refine name_head ?_
          intro wr0 hw0
          rw [hw0] at hHeld
          refine wt 0 _ ?_
          simp only [red, Act.put]
          refine wt 1 _ ?_
          simp only [red, Act.put]
          refine wt 2 _ ?_
          simp only [red, Act.put]
          refine wt 4 _ ?_
          simp only [red, Act.put]
          refine wt 5 _ ?_
          simp only [red, Act.put]
          refine wt 7 _ ?_
          simp only [red, Act.put]
          refine wt 8 _ ?_
          simp only [red, Act.put]
          refine wt 9 _ ?_
          simp only [red, Act.put]
          refine wt 11 _ ?_
          simp only [red, Act.put]
          refine wt 12 _ ?_
          simp only [red, Act.put]
          refine wt 14 _ ?_
          simp only [red, Act.put]
          refine wt 15 _ ?_
          simp only [red, Act.put]
          refine rd [3] ?_
          refine ac (fun K hK => ?_) ?_
          ·refine step_callG (by rfl) (by kernel_rfl) (hN _ _ _ di 4 (by rw [← hw0]; exact hlq) (by omega) (by omega)) ?_
           rintro e wr3 ⟨d3, rfl, hm3⟩
           refine ⟨_, rfl, ?_⟩
           refine hK.out _ _ ?_ (fun hHeld => ?_)
           ·exact hHeld.trans (hm3.s _ hND)
           clear hK K
           try simp only [red, Act.put]
           refine rd [6] ?_
           refine ac (fun K hK => ?_) ?_
           ·have hm3' := hlq.trans (hw0 ▸ hm3)
            refine step_callG (by rfl) (by kernel_rfl) (hN _ _ _ dh 1 hm3' (by simp; omega) (by omega)) ?_
            rintro e wr6 ⟨d6, rfl, hm6⟩
            refine ⟨_, rfl, ?_⟩
            refine hK.out _ _ ?_ (fun hHeld => ?_)
            ·exact hHeld.trans (hm6.s _ hND)
            clear hK K
            try simp only [red, Act.put]
            refine rd [10] ?_
            refine ac (fun K hK => ?_) ?_
            ·have hm6' := hm3'.trans hm6
             refine step_callG (by rfl) (by kernel_rfl) (hN _ _ _ df.toNat 1 hm6' (by simp; omega) (by omega)) ?_
             rintro e wr10 ⟨d10, rfl, hm10⟩
             refine ⟨_, rfl, ?_⟩
             refine hK.out _ _ ?_ (fun hHeld => ?_)
             ·exact hHeld.trans (hm10.s _ hND)
             clear hK K
             try simp only [red, Act.put]
             refine rd [13] ?_
             refine ac (fun K hK => ?_) ?_
             ·have hm10' := hm6'.trans hm10
              refine step_callG (by rfl) (by kernel_rfl) (hN _ _ _ dsh 1 hm10' (by simp; omega) (by omega)) ?_
              rintro e wr13 ⟨d13, rfl, hm13⟩
              refine ⟨_, rfl, ?_⟩
              refine hK.out _ _ ?_ (fun hHeld => ?_)
              ·exact hHeld.trans (hm13.s _ hND)
              clear hK K
              try simp only [red, Act.put]
              refine rd [16] ?_
              refine ac (fun K hK => ?_) ?_
              ·have hm13' := hm10'.trans hm13
               refine step_callG (by rfl) (by kernel_rfl) (hN _ _ _ de 4 hm13' (by simp; omega) (by omega)) ?_
               rintro e wr16 ⟨d16, rfl, hm16⟩
               refine ⟨_, rfl, ?_⟩
               refine hK.out _ _ ?_ (fun hHeld => ?_)
               ·exact hHeld.trans (hm16.s _ hND)
               clear hK K
               try simp only [red, Act.put]
               refine wpHead_done (by kernel_rfl) ?_
               have hm16' := hm13'.trans hm16
               clear hm3 hm3' hm6 hm6' hm10 hm10' hm13 hm13' hm16 hlq
               go_wp2_with fail
               refine (hLg _ _ _ hm16' (by simp; omega)).mono ?_
               rintro e w9 ⟨b9, rfl, hl9⟩
               have hlz := hm16'.trans hl9
               clear hl9 hm16'
               go_wp2
               go_roundw
               case rel =>
                refine ⟨k + 1, by go_num, by omega, ?_, ?_⟩
                ·rw [hTK.out]
                 intro d hd
                 rcases List.mem_append.1 hd with hd | hd
                 ·exact hok d hd
                 ·simp only [List.mem_singleton] at hd
                  subst hd
                  exact HC0.out
                ·have : beN 1 ds.length ++ (ds.take (k + 1)).flatMap putD = lb2 ++ beN 4 di ++ beN 1 dh ++ beN 1 df.toNat ++ beN 1 dsh ++ beN 4 de ++ longB dby := by
                  rw [hTK.out, List.flatMap_append, ← List.append_assoc, HBASE.out, ← HLB2.out]
                  simp [putD]
                 rw [this]
                 exact hlz
               case measure => simp [intOf]; omega
              exact AllHead.nil
             exact AllHead.nil
            exact AllHead.nil
           exact AllHead.nil
          exact AllHead.nil
         exact AllHead.nil
        exact AllHead.nil
       exact AllHead.nil
      exact AllHead.nil
     ·have hc2 : (((checkD ⟨dw, du, db, dt, di, dh, df, dsh, de, dby⟩ : Nat) : Int) == 0) = false := by simpa using hc0
      have HB : Hid (putAllT ds = ([], checkD ⟨dw, du, db, dt, di, dh, df, dsh, de, dby⟩)) := Lib.hid (by rw [HP3.out, hFC.out hc0]; simp [hc0])
      generalize checkD ⟨dw, du, db, dt, di, dh, df, dsh, de, dby⟩ = z at *
      clear hFC hTK hflat hok
      go_wp2
      go_ret2
      exact PutSays.none HB.out hlay2.x
    ·have hkn : k = ds.length := by omega
     subst hkn
     rw [List.take_length] at hlay hok
     have HFC := Lib.hid (firstC_ok hok)
     obtain ⟨lb, hlb⟩ : ∃ lb, lb = beN 1 ds.length ++ ds.flatMap putD := ⟨_, rfl⟩
     rw [← hlb] at hlay
     have HLB : Hid (lb = putAllB ds) := Lib.hid (by rw [hlb, putAllB, List.append_nil])
     obtain ⟨Ab, cb, rfl⟩ := hlay.o.form
     have hlay' := Lib.hid hlay
     clear hlb hlay hok hflat
     obtain ⟨n, hn⟩ : ∃ n, n = lb.length := ⟨_, rfl⟩
     rw [← hn]
     have HN := Lib.hid hn
     clear hn
     by_cases h18 : (1800 : Int) < (n : Int)
     ·have HB : Hid (putAllT ds = ([], 6)) := Lib.hid (by rw [HP3.out, HFC.out, ← HLB.out, ← HN.out]; simp; omega)
      go_wp2
      go_ret2
      exact PutSays.none HB.out hx
     ·have HB : Hid (putAllT ds = (lb, 0)) := Lib.hid (by rw [HP3.out, HFC.out, ← HLB.out, ← HN.out, if_neg (by simp), if_neg (by omega)])
      go_wp2
      go_ret2
      rw [HB.out]
      exact ⟨hx, _, rfl, by have := hlay'.out.o; rwa [← HN.out] at this⟩
end Go.Proofs.YthlppbbejdeeoaaGreatDoor
namespace Go.Proofs.YthlppbbejdeeoaaGreatDoor
open Go.RowKit
theorem OwnDs.rsm {w : World} {base n c : Nat} {A : Option Addr} {ds : List Dd} (h : OwnDs w base (.slice A n c) ds) (hok : ∀ d ∈ ds, okD d) : RsM RDd 10 [] w A ds := by
 obtain ⟨css, h1, h2, h3, h4⟩ := h
 refine ⟨css, h1, h2, SlM.own h3 rfl (by simp), fun k cs x a b => ?_⟩
 obtain ⟨pv, h5, h6⟩ := h4 k cs x a b
 obtain ⟨A', c', rfl⟩ := h6.form
 obtain ⟨_, q1, q2, q3, _, _, _, _, q4⟩ := hok x (List.mem_of_getElem? b)
 exact ⟨A', c', h5, BsM.own h6 (by simp), h6.cap.1, by omega, by omega, by omega, by omega⟩
/-- cells of a deed, whatever its bytes -/
def RAny : Reading Dd where
 says _ _ cs d := ∃ A n c, cs = (ddC d (.slice A n c)).toList
 kept := fun h _ => h
 old := fun h _ => h
theorem OwnDs.any {w : World} {base n c : Nat} {A : Option Addr} {ds : List Dd} (h : OwnDs w base (.slice A n c) ds) : RsM RAny 10 [] w A ds := by
 obtain ⟨css, h1, h2, h3, h4⟩ := h
 refine ⟨css, h1, h2, SlM.own h3 rfl (by simp), fun k cs x a b => ?_⟩
 obtain ⟨pv, h5, h6⟩ := h4 k cs x a b
 obtain ⟨A', c', rfl⟩ := h6.form
 exact ⟨A', _, c', h5⟩
theorem OwnDs.len {w : World} {base n c : Nat} {A : Option Addr} {ds : List Dd} (h : OwnDs w base (.slice A n c) ds) : ds.length ≤ 9223372036854775807 := by
 obtain ⟨css, _, _, h3, _⟩ := h
 rcases h3.2 with ⟨e, hn⟩ | ⟨g, cap, cur, e, _, _, hc, hm, _⟩
 ·omega
 ·exact Nat.le_trans hc hm
theorem VDs.stp {O base g : Nat} {ds : List Dd} {w1 w2 : World} {x : Value} (h : VDs O base ds w1) (hg : w1.heap[g]? = some (.cells #[x] 30 (0, 0))) (hk : Kept [g] w1 w2) : VDs O base ds w2 := by
 obtain ⟨v, h1, h2⟩ := h
 exact ⟨v, hk.heap h1 (by simp; exact obj_ne h1 hg (by decide)), OwnDs.stp h2 (.kept hk (by intro k hk _; simp at hk; subst hk; exact ⟨_, _, _, hg, by decide⟩))⟩
/-- what TakeAll tells -/
def TASays (l : By) (w : World) (e : Ending) (w' : World) : Prop := Ext w w' ∧ match takeAllT l with
 | .inl k => e = .returned (.tuple #[.slice none 0 0, .int .i64 (k : Nat)])
 | .inr ds => ∃ v, e = .returned (.tuple #[v, .int .i64 0]) ∧ OwnDs w' w.heap.size v ds
theorem TASays.no {l : By} {w w' : World} {k : Nat} (h : takeAllT l = .inl k) (hx : Ext w w') : TASays l w (.returned (.tuple #[.slice none 0 0, .int .i64 (k : Nat)])) w' := by
 refine ⟨hx, ?_⟩
 rw [h]
theorem firstC_take {ds : List Dd} {k : Nat} (hk : k < ds.length) : firstC (ds.take (k + 1)) = if firstC (ds.take k) = 0 then checkD ds[k] else firstC (ds.take k) := by
 have e : ds.take (k + 1) = ds.take k ++ [ds[k]] := by rw [List.take_add_one, List.getElem?_eq_getElem hk]; rfl
 have hz : firstC (ds.take k) = 0 ↔ (ds.take k).find? (fun d => decide (checkD d ≠ 0)) = none := by
  constructor
  ·intro h
   exact List.find?_eq_none.2 fun d hd => by simp [firstC_of h d hd]
  ·intro h
   unfold firstC
   rw [h]
 split
 ·rename_i h
  unfold firstC
  rw [e, List.find?_append, hz.1 h]
  simp only [Option.none_or, List.find?_cons, List.find?_nil]
  by_cases h0 : checkD ds[k] = 0
  ·simp [h0]
  ·simp [h0]
 ·rename_i h
  unfold firstC at *
  rw [e, List.find?_append]
  cases hf : (ds.take k).find? (fun d => decide (checkD d ≠ 0)) with
  | none => exact absurd (hz.2 hf) h
  | some x => rfl
theorem okD_all {l : By} {ds : List Dd} (h : readP allP l = .inr ds) : l = putAllB ds ∧ (∀ d ∈ ds, okD d) ∧ 1 ≤ ds.length ∧ ds.length ≤ 12 := by
 unfold readP at h
 cases hp : allP l with
 | inl e => rw [hp] at h; cases h
 | inr q =>
  obtain ⟨a, r⟩ := q
  rw [hp] at h
  simp only at h
  split at h
  ·rename_i hr
   cases h
   subst hr
   unfold allP at hp
   obtain ⟨n, l1, h1, h2⟩ := andP_inr hp
   obtain ⟨u, l2, h3, h4⟩ := andP_inr h2
   unfold mustP at h3
   split at h3
   ·rename_i hn
    cases h3
    simp only [Bool.and_eq_true, decide_eq_true_eq] at hn
    obtain ⟨e1, e2⟩ := (Rt.num 1).got _ _ _ h1
    obtain ⟨e3, e4, e5⟩ := (Rt.rep Rt.deed n).got _ _ _ h4
    subst e5
    exact ⟨by rw [e1, e3]; simp [putAllB], e4, hn.1, hn.2⟩
   ·cases h3
  ·cases h
set_option maxRecDepth 20000 in
set_option maxHeartbeats 8000000 in
theorem TakeAll_any (HCK : CheckLaw) (A : Option Addr) (cap : Nat) (l : By) (w : World) (hb : Bs w A l) (hlc : l.length ≤ cap) : Calls Tryz.prog 46 #[.slice A l.length cap] w (TASays l w) := by
 have hmf : ∀ (fn : Fn) (first cap : Array Value) (w : World), (Instr.makeFunc fn first cap).run Tryz.prog w = .ok (.func fn first cap) w := fun _ _ _ _ => rfl
 have HP : Hid (takeAllT l = if 1800 < l.length then .inl 6 else match readP allP l with | .inl e => .inl e | .inr ds => if firstC ds ≠ 0 then .inl (firstC ds) else .inr ds) := Lib.hid rfl
 by_cases h18 : (1800 : Int) < (l.length : Int)
 ·have HT := Lib.hid (HP.out.trans (if_pos (by omega)))
  clear HP
  go_enter Tryz.func46, Tryz.ntmps46
  go_wp2
  go_ret2
  exact TASays.no HT.out (Ext.refl w)
 have HT := Lib.hid (HP.out.trans (if_neg (by omega)))
 clear HP
 obtain ⟨wa, hwa⟩ : ∃ wa, wa = w.alloc (.cells #[.slice none 0 0] 27) := ⟨_, rfl⟩
 have hxa : Ext w wa := by rw [hwa]; exact (Ext.refl w).alloc _
 have hOa : wa.heap[w.heap.size]? = some (.cells #[.slice none 0 0] 27 (0, 0)) := by rw [hwa]; exact heap_alloc_new w _
 have hsz : wa.heap.size = w.heap.size + 1 := by rw [hwa]; simp
 have HWA := Lib.hid hwa
 have HRD := read_any allP 70 w.heap.size (VDs w.heap.size w.heap.size) (fun w' => ∃ ds, VDs w.heap.size w.heap.size ds w') w wa A cap l hxa hb hlc (by omega) (Nat.le_refl _) call_TakeAll1
  (fun w1 R hx1 hR hr => TakeAll1_any w w1 R w.heap.size l hr (by omega) (hx1.obj hOa) (Nat.le_refl _) (by omega))
  (fun a w1 w2 g x h1 h2 h3 => h1.stp h2 h3) (fun w1 w2 g x h1 h2 h3 => by obtain ⟨ds, h⟩ := h1; exact ⟨ds, h.stp h2 h3⟩) (fun a w1 h => ⟨a, h⟩)
 clear hwa hsz hOa hb
 unfold pt at HRD
 go_enter Tryz.func46, Tryz.ntmps46
 go_wp2_with fail
 rw [← HWA.out]
 refine HRD.mono ?_
 intro e w1 hq
 clear HRD
 unfold ReadSays at hq
 cases hp : readP allP l with
 | inl k =>
  rw [hp] at hq
  obtain ⟨rfl, hk, hx, ds, v, hOv, hds⟩ := hq
  have HT2 : Hid (takeAllT l = .inl k) := Lib.hid (by rw [HT.out, hp])
  have k1 : (((k : Nat) : Int) == 0) = false := by simpa using Nz.all.read hp
  obtain ⟨Av, cv, rfl⟩ := hds.form
  have hany := hds.any
  have hdl := hds.len
  obtain ⟨CO, _⟩ := row1_cell hOv
  clear HT hp hOv hds hk
  go_wp2
  go_loopw [5, 16] (fun ev iv wr => ∃ j : Nat, ev = .int .i64 (k : Nat) ∧ iv = .int .i64 j ∧ j ≤ ds.length ∧ Ext w1 wr) (fun _ iv _ => ds.length - (intOf iv).toNat)
  case atStart => exact ⟨0, rfl, rfl, by omega, Ext.refl _⟩
  case round =>
   obtain ⟨j, rfl, rfl, hj, hx1⟩ := hrel
   by_cases hlt : j < ds.length
   ·obtain ⟨ad, cs, hA, had, hcs, hcell, A2, n2, c2, hcs2⟩ := hany.at_ (by omega) hlt
    subst hA hcs2
    have hlt2 : (j : Int) < ds.length := by omega
    have hcl := fun i v hj => hx1.cell (show w1.cell? ((ad.add (j * 10)).add i) = some v by rw [add_addB]; exact hcell i v hj)
    clear hcell had hcs
    generalize ds[j] = dd at *
    unfold ddC at hcl
    go_wp2_with (with_reducible first | refine sA 90 ?_ | refine sS 90 ?_ | refine sL 90 ?_)
    refine go_on (wpList_load_elem rfl 90 _ rfl (ad.add (j * 10)) rfl _ _ hcl Tryz.underlying90 rfl (by kernel_rfl) ?_)
    go_wp2_with (with_reducible first | refine sA 90 ?_ | refine sS 90 ?_ | refine sL 90 ?_)
    refine go_on (wpList_alloc_ rfl rfl deed_info ?_)
    go_wp2_with (with_reducible first | refine sA 90 ?_ | refine sS 90 ?_ | refine sL 90 ?_)
    refine go_on (wpList_store_last rfl rfl rfl rfl (by kernel_rfl) rfl (by simp [Value.oneCell']) ?_)
    intro wb hrowB hxb _
    have hx1b := hx1.trans hxb
    clear hcl hx1 hrowB hxb
    go_wp2
    go_roundw
    case rel => exact ⟨j + 1, rfl, by go_num, by omega, hx1b⟩
    case measure => simp [intOf]; omega
   ·have hlt2 : ¬ (j : Int) < ds.length := by omega
    clear hany CO
    go_wp2
    go_ret2
    exact TASays.no HT2.out (hx.trans hx1)
 | inr ds =>
  rw [hp] at hq
  obtain ⟨rfl, ⟨v, hOv, hds⟩, hk, hx⟩ := hq
  obtain ⟨hput, hokD, hn1, hn12⟩ := okD_all hp
  have HT2 : Hid (takeAllT l = if firstC ds ≠ 0 then .inl (firstC ds) else .inr ds) := Lib.hid (by rw [HT.out, hp])
  obtain ⟨Av, cv, rfl⟩ := hds.form
  have hany := hds.rsm hokD
  have HDS := Lib.hid hds
  obtain ⟨CO, _⟩ := row1_cell hOv
  clear HT hp hds hk hput
  go_wp2
  go_loopw [5, 16] (fun ev iv wr => ∃ j : Nat, ev = .int .i64 (firstC (ds.take j) : Nat) ∧ iv = .int .i64 j ∧ j ≤ ds.length ∧ Ext w1 wr) (fun _ iv _ => ds.length - (intOf iv).toNat)
  case atStart => exact ⟨0, by simp [firstC], rfl, by omega, Ext.refl _⟩
  case round =>
   obtain ⟨j, rfl, rfl, hj, hx1⟩ := hrel
   by_cases hlt : j < ds.length
   ·obtain ⟨ad, cs, hA, had, hcs, hcell, A2, cap2, hcs2, hby, hc2, hb1, hb2, hb3, hb4⟩ := hany.at_ (by omega) hlt
    subst hA hcs2
    have hlt2 : (j : Int) < ds.length := by omega
    have hcl := fun i v hj => hx1.cell (show w1.cell? ((ad.add (j * 10)).add i) = some v by rw [add_addB]; exact hcell i v hj)
    have HFT := Lib.hid (firstC_take hlt)
    have hCK := fun w' (hx' : Ext w1 w') => HCK ds[j] A2 cap2 w' (hby.bs.ext hx') hc2 hb1 (by omega) (by omega) (by omega)
    clear hcell had hcs hby hc2 hb1 hb2 hb3 hb4
    generalize ds[j] = dd at *
    unfold ddC at hcl hCK
    go_wp2_with (with_reducible first | refine sA 90 ?_ | refine sS 90 ?_ | refine sL 90 ?_)
    refine go_on (wpList_load_elem rfl 90 _ rfl (ad.add (j * 10)) rfl _ _ hcl Tryz.underlying90 rfl (by kernel_rfl) ?_)
    go_wp2_with (with_reducible first | refine sA 90 ?_ | refine sS 90 ?_ | refine sL 90 ?_)
    refine go_on (wpList_alloc_ rfl rfl deed_info ?_)
    go_wp2_with (with_reducible first | refine sA 90 ?_ | refine sS 90 ?_ | refine sL 90 ?_)
    refine go_on (wpList_store_last rfl rfl rfl rfl (by kernel_rfl) rfl (by simp [Value.oneCell']) ?_)
    intro wb hrowB hxb _
    have hx1b := hx1.trans hxb
    clear hcl hx1 hxb
    by_cases hf : firstC (ds.take j) = 0
    ·have HFT2 := Lib.hid (HFT.out.trans (if_pos hf))
     rw [hf]
     clear hf HFT
     go_wp2_with (with_reducible refine sL 90 ?_)
     refine go_on (wpList_load_row rfl 90 _ rfl wr.heap.size rfl 90 _ (0, 0) _ hrowB Tryz.underlying90 rfl (by kernel_rfl) ?_)
     go_wp2_with fail
     refine (hCK wb hx1b).mono ?_
     rintro e w2 ⟨rfl, hx2⟩
     have hx12 := hx1b.trans hx2
     clear hCK hrowB hx1b hx2
     rw [← HFT2.out]
     go_wp2
     go_roundw
     case rel => exact ⟨j + 1, rfl, by go_num, by omega, hx12⟩
     case measure => simp [intOf]; omega
    ·have HFT2 := Lib.hid (HFT.out.trans (if_neg hf))
     have k1 : (((firstC (ds.take j) : Nat) : Int) == 0) = false := by simpa using hf
     clear hf HFT hCK hrowB
     go_wp2
     go_roundw
     case rel => exact ⟨j + 1, by rw [HFT2.out], by go_num, by omega, hx1b⟩
     case measure => simp [intOf]; omega
   ·have hlt2 : ¬ (j : Int) < ds.length := by omega
    obtain rfl : j = ds.length := by omega
    rw [List.take_length]
    clear hany hlt
    have CO' := fun w' (hx' : Ext wr w') => CO w' (hx1.trans hx')
    clear CO
    by_cases hf : firstC ds = 0
    ·have HT3 := Lib.hid (HT2.out.trans (if_neg (by simpa using hf)))
     rw [hf]
     clear hf HT2
     go_wp2
     go_ret2
     refine ⟨hx.trans hx1, ?_⟩
     rw [HT3.out]
     exact ⟨_, rfl, OwnDs.stp HDS.out (.of_ext hx1)⟩
    ·have HT3 := Lib.hid (HT2.out.trans (if_pos hf))
     have k1 : (((firstC ds : Nat) : Int) == 0) = false := by simpa using hf
     generalize firstC ds = z at *
     clear hf HT2
     go_wp2
     go_ret2
     exact TASays.no HT3.out (hx.trans hx1)
end Go.Proofs.YthlppbbejdeeoaaGreatDoor
