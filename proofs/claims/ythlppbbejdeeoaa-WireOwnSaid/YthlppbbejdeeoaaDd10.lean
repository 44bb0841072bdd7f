/- The walk of deed.TakeUser. Conditions: the bounds named. -/
import Derived.Test.YthlppbbejdeeoaaDd9
import Derived.Test.YthlppbbejdeeoaaDdN
namespace Go.Proofs.Ythlppbbejdeeoaa
open Go.RowKit
theorem OwnLs.rsm {w : World} {base n c : Nat} {A : Option Addr} {ls : List Lt} (h : OwnLs w base (.slice A n c) ls) : RsM RLt 3 [] w A ls := by
  obtain ⟨css, h1, h2, h3, h4⟩ := h
  refine ⟨css, h1, h2, SlM.own h3 rfl (by simp), fun k cs x a b => ?_⟩
  obtain ⟨pv, h5, h6⟩ := h4 k cs x a b
  obtain ⟨A', c', rfl⟩ := h6.form
  exact ⟨A', c', h5, BsM.own h6 (by simp)⟩
theorem OwnXs.rsm {w : World} {base n c : Nat} {A : Option Addr} {bs : List Bx} (h : OwnXs w base (.slice A n c) bs) : RsM RBx 4 [] w A bs := by
  obtain ⟨css, h1, h2, h3, h4⟩ := h
  refine ⟨css, h1, h2, SlM.own h3 rfl (by simp), fun k cs x a b => ?_⟩
  obtain ⟨lv, h5, h6⟩ := h4 k cs x a b
  obtain ⟨A', c', rfl⟩ := h6.form
  exact ⟨A', c', h5, h6.rsm⟩
theorem results_cell1 {P : Program} {fn : Func} {p u : Tmp} {ty : TypeId} (h : fn.results = #[.cell p ty, .tmp u]) (tmps : Array Value) (w : World) (g : Nat) (t : TypeId) (cs : Array Value) (fr : Nat × Nat) (d : TypeDesc)
    (hp : tmps.getD p undef = .pointer (some ⟨g, 0, none⟩)) (hg : w.heap[g]? = some (.cells cs t fr))
    (hu : P.underlying ty = some d) (hd : (match d with | .struct _ | .array _ _ => true | _ => false) = true) (hi : (P.info? ty).map (·.size) = some cs.size) :
    (results fn tmps).run P w = .ok (.tuple #[.agg cs, tmps.getD u undef]) w := by
  have hp' : tmps[p]?.getD undef = .pointer (some ⟨g, 0, none⟩) := by simpa using hp
  simp [results, h, hp', asAddr, run_loadVar_row w g t ty cs fr d hg hu hd hi]
def zUser : Array Value := #[.string ⟨#[]⟩, .int .i64 0, .slice none 0 0]
theorem user_info : (Try.prog.info? 111).map (fun i => (i.zero, i.size)) = some (some (.agg zUser), 3) := by kernel_rfl
theorem call_TakeUser1 (args : Array Value) (w : World) : (callFunc 65 args).run Try.prog w = .ok (.enter 65 args) w := by
  go_simp
theorem call_TakeAll1 (args : Array Value) (w : World) : (callFunc 45 args).run Try.prog w = .ok (.enter 45 args) w := by
  go_simp
theorem VUs.stp {U base g : Nat} {u : Us} {w1 w2 : World} {x : Value} (h : VUs U base u w1) (hg : w1.heap[g]? = some (.cells #[x] 29 (0, 0))) (hk : Kept [g] w1 w2) : VUs U base u w2 := by
  obtain ⟨v, h1, h2⟩ := h
  exact ⟨v, hk.heap h1 (by simp; exact obj_ne h1 hg (by decide)), h2.stp (.kept hk (by intro k hk _; simp at hk; subst hk; exact ⟨_, _, _, hg, by decide⟩) : Stp [5, 129, 127] w1 w2) (by simp) (by simp) (by simp)⟩
def TUSays (l : By) (w : World) (e : Ending) (w' : World) : Prop := Ext w w' ∧ match takeUs l with
  | .inl k => e = .returned (.tuple #[.agg zUser, .int .i64 (k : Nat)])
  | .inr u => ∃ v, e = .returned (.tuple #[.agg (usC u v), .int .i64 0]) ∧ OwnXs w' w.heap.size v u.boxes
set_option maxRecDepth 20000 in
set_option maxHeartbeats 4000000 in
theorem TakeUser_any (A : Option Addr) (cap : Nat) (l : By) (w : World) (hb : Bs w A l) (hlc : l.length ≤ cap) (hl : l.length ≤ 140737488351232) : Calls Try.prog 56 #[.slice A l.length cap] w (TUSays l w) := by
  have hmf : ∀ (fn : Fn) (first cap : Array Value) (w : World), (Instr.makeFunc fn first cap).run Try.prog w = .ok (.func fn first cap) w := fun _ _ _ _ => rfl
  go_enter Try.func56, Try.ntmps56
  go_wp2_with (first | (with_reducible refine stop_alloc 111 ?_) | (with_reducible refine stop_store 111 ?_) | (with_reducible refine stop_load 111 ?_))
  refine go_on (wpList_alloc_ rfl rfl user_info ?_)
  go_wp2_with (first | (with_reducible refine stop_alloc 111 ?_) | (with_reducible refine stop_store 111 ?_) | (with_reducible refine stop_load 111 ?_))
  obtain ⟨wz, hwz⟩ : ∃ wz, wz = w.alloc (.cells zUser 111) := ⟨_, rfl⟩
  have hxz : Ext w wz := by rw [hwz]; exact (Ext.refl w).alloc _
  have hg0z : wz.heap[w.heap.size]? = some (.cells zUser 111 (0, 0)) := by rw [hwz]; exact heap_alloc_new w _
  have hszz : wz.heap.size = w.heap.size + 1 := by rw [hwz]; simp
  have HSZZ := Lib.hid hszz
  rw [← hwz]
  clear hwz hszz
  refine go_on (wpList_alloc_ rfl rfl user_info ?_)
  go_wp2_with (first | (with_reducible refine stop_alloc 111 ?_) | (with_reducible refine stop_store 111 ?_) | (with_reducible refine stop_load 111 ?_))
  refine go_on (wpList_store_last rfl rfl rfl rfl (by kernel_rfl) rfl (by simp [Value.oneCell']) ?_)
  intro wa hUa hxa hsa
  have hg0a := hxa.obj hg0z
  have hx0a := hxz.trans hxa
  obtain ⟨U, hU⟩ : ∃ U, U = wz.heap.size := ⟨_, rfl⟩
  have HUE := Lib.hid hU
  have hszz := HSZZ.out
  have hne : w.heap.size ≠ U := by omega
  have hU1 : w.heap.size ≤ U := by omega
  have hU2 : U < wa.heap.size := by omega
  rw [← hU] at hUa
  have HRD := read_any userP 65 U (VUs U w.heap.size) (fun _ => True) w wa A cap l hx0a hb hlc hU2 hU1 call_TakeUser1
    (fun w1 R hx1 hR hr => TakeUser1_any w w1 R U l hr hl (hx1.obj hUa) hU1 (by omega))
    (fun u w1 w2 g x h1 h2 h3 => h1.stp h2 h3) (fun _ _ _ _ _ _ _ => trivial) (fun _ _ _ => trivial)
  clear hxz hg0z hszz hxa hsa hU hb
  unfold pt at HRD
  go_wp2_with fail
  rw [← HUE.out]
  refine HRD.mono ?_
  intro e w1 hq
  unfold ReadSays at hq
  cases hp : readP userP l with
  | inl k =>
    rw [hp] at hq
    obtain ⟨rfl, hk, hx, _⟩ := hq
    have HT : Hid (takeUs l = .inl k) := Lib.hid (by unfold takeUs; rw [hp])
    have hg01 := hk.heap hg0a (by simpa using hne)
    have hk0 : k ≠ 0 := Nz.user.read hp
    have k1 : ((k : Int) == 0) = false := by simpa using hk0
    clear hp
    go_wp2_with (first | (with_reducible refine stop_alloc 111 ?_) | (with_reducible refine stop_store 111 ?_) | (with_reducible refine stop_load 111 ?_))
    refine go_on (wpList_store_whole (c := zUser) rfl rfl rfl rfl hg01 (by kernel_rfl) rfl (by simp [Value.oneCell']) ?_)
    intro wv hrow hkv _
    go_wp2
    ((try simp only [Exit.inBlock, Exit.then]); refine bodyPost_ret (results_cell1 rfl _ _ w.heap.size _ _ _ _ rfl hrow Try.underlying111 rfl (by kernel_rfl)) rfl ?_)
    refine ⟨hx.kept hkv (by simp), ?_⟩
    rw [HT.out]
    rfl
  | inr u =>
    rw [hp] at hq
    obtain ⟨rfl, ⟨v, hUv, hxs⟩, hk, hx⟩ := hq
    obtain ⟨Av, cv, rfl⟩ := hxs.form
    have hg01 := hk.heap hg0a (by simpa using hne)
    have hokU : okU u := (read_got Rt.user hp).2
    have HCU := CheckUser_any u Av cv w1 hxs.rsm (by have := hokU.1; omega) (fun b hb => by have := (hokU.2.2.2 b hb).1; omega)
    have HT : Hid (takeUs l = if checkU u ≠ 0 then .inl (checkU u) else .inr u) := Lib.hid (by unfold takeUs; rw [hp])
    have HXS := Lib.hid hxs
    clear hp hokU hxs
    go_wp2_with (first | (with_reducible refine stop_alloc 111 ?_) | (with_reducible refine stop_store 111 ?_) | (with_reducible refine stop_load 111 ?_))
    refine go_on (wpList_load_row rfl 111 _ rfl U rfl 111 _ (0, 0) _ hUv Try.underlying111 rfl (by kernel_rfl) ?_)
    go_wp2_with fail
    refine HCU.mono ?_
    rintro e w2 ⟨rfl, hx2⟩
    have hUv2 := hx2.obj hUv
    have hg02 := hx2.obj hg01
    have hx02 := hx.trans hx2
    by_cases hc : checkU u = 0
    · have HT2 := Lib.hid (HT.out.trans (if_neg (by simpa using hc)))
      rw [hc]
      clear HT HCU hc
      unfold usC at hUv2
      go_wp2_with (first | (with_reducible refine stop_alloc 111 ?_) | (with_reducible refine stop_store 111 ?_) | (with_reducible refine stop_load 111 ?_))
      refine go_on (wpList_load_row rfl 111 _ rfl U rfl 111 _ (0, 0) _ hUv2 Try.underlying111 rfl (by kernel_rfl) ?_)
      go_wp2_with (first | (with_reducible refine stop_alloc 111 ?_) | (with_reducible refine stop_store 111 ?_) | (with_reducible refine stop_load 111 ?_))
      refine go_on (wpList_store_whole (c := zUser) rfl rfl rfl rfl hg02 (by kernel_rfl) rfl (by simp [Value.oneCell']) ?_)
      intro wv hrow hkv _
      go_wp2
      ((try simp only [Exit.inBlock, Exit.then]); refine bodyPost_ret (results_cell1 rfl _ _ w.heap.size _ _ _ _ rfl hrow Try.underlying111 rfl (by kernel_rfl)) rfl ?_)
      refine ⟨hx02.kept hkv (by simp), ?_⟩
      rw [HT2.out]
      refine ⟨_, rfl, ?_⟩
      exact (HXS.out.stp (.of_ext hx2) (ts := [5, 129, 127]) (by simp) (by simp) (by simp)).stp (.kept hkv (by intro k hk _; simp at hk; subst hk; exact ⟨_, _, _, hg02, by decide⟩) : Stp [5, 129, 127] w2 wv) (by simp) (by simp) (by simp)
    · have HT2 := Lib.hid (HT.out.trans (if_pos hc))
      have k1 : (((checkU u : Nat) : Int) == 0) = false := by simpa using hc
      clear HT HCU hc
      generalize checkU u = z at *
      go_wp2_with (first | (with_reducible refine stop_alloc 111 ?_) | (with_reducible refine stop_store 111 ?_) | (with_reducible refine stop_load 111 ?_))
      refine go_on (wpList_store_whole (c := zUser) rfl rfl rfl rfl hg02 (by kernel_rfl) rfl (by simp [Value.oneCell']) ?_)
      intro wv hrow hkv _
      go_wp2
      ((try simp only [Exit.inBlock, Exit.then]); refine bodyPost_ret (results_cell1 rfl _ _ w.heap.size _ _ _ _ rfl hrow Try.underlying111 rfl (by kernel_rfl)) rfl ?_)
      refine ⟨hx02.kept hkv (by simp), ?_⟩
      rw [HT2.out]
      rfl
end Go.Proofs.Ythlppbbejdeeoaa
