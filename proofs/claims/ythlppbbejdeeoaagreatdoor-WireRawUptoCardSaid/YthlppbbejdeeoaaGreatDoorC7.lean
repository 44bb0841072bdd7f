/- What wire.Check, Put and Take tell, as functions of a message's fields and of bytes. Plain definitions and laws; no program. The walks of wire's small checks: within, of. Conditions: the hypotheses of each theorem. The walk of wire.rightTx. Conditions: the hypotheses of each theorem. The walk of wire.every. Conditions: the hypotheses of each theorem. The walk of wire.rightVote. Conditions: the hypotheses of each theorem. The walk of wire.rightVote where a kind has no vote. Conditions: the hypotheses of each theorem. A message's cells; the walk of wire.rightPart. Conditions: the hypotheses of each theorem. The walk of wire.rightPart where a kind has no part. Conditions: the hypotheses of each theorem. What is laid so far (Lay) across allocations and appends, and that of the blocks of old only the bytes' own has turned (LayG). Conditions: the hypotheses of each theorem. The walks of wire.num and wire.text (the same code as deed's num and short). Conditions: the hypotheses of each theorem. The walk of wire.list. Conditions: the hypotheses of each theorem. -/
import Derived.Test.YthlppbbejdeeoaaGreatDoorC6
import Derived.Test.YthlppbbejdeeoaaGreatDoorC3
import Derived.Deep.MidRow
namespace Go.Proofs.YthlppbbejdeeoaaGreatDoor
open Go.RowKit
structure Tx3 where
 node : Int
 boot : Int
 n : Int
structure Ml where
 kind : Int
 src : Int
 dst : Int
 tx : Tx3
 ptx : Tx3
 peers : List Int
 deeds : List Dd
 epochs : List Int
 verr : Int
 nums : List Int
 suser : By
 shard : Int
 sepoch : Int
 vbytes : By
 fate : Int
 user : By
 epoch : Int
 n : Int
instance : DecidableEq Tx3 := fun a b => by
 cases a; cases b; simp only [Tx3.mk.injEq]; infer_instance
def inI (a lo hi : Int) : Bool := decide (lo ≤ a) && decide (a ≤ hi)
def kTx (k : Int) : Bool := inI k 1 5
def kVote (k : Int) : Bool := decide (k = 2) || decide (k = 7)
def kN (k : Int) : Bool := inI k 6 7
def txB (t : Tx3) : Bool := inI t.node 0 255 && inI t.boot 1 2147483647 && inI t.n 1 2147483647
def tx0 (t : Tx3) : Bool := decide (t = ⟨0, 0, 0⟩)
def allI (l : List Int) (hi : Int) : Bool := l.all fun n => inI n 0 hi
def big : Int := 4294967295
def partB (m : Ml) : Bool :=
 if m.kind = 1 then decide (m.ptx = m.tx) && (decide (1 ≤ m.peers.length) && decide (m.peers.length ≤ 4)) && allI m.peers 3 && decide (m.epochs.length = m.deeds.length) && allI m.epochs big
 else tx0 m.ptx && decide (m.peers = []) && decide (m.deeds.length = 0) && decide (m.epochs = [])
def voteB (m : Ml) : Bool :=
 if kVote m.kind then inI m.verr 0 14 && decide (m.nums.length ≤ 12) && allI m.nums big && inI m.shard 0 3 && inI m.sepoch 0 big && decide (m.suser.length ≤ 24) && decide (m.vbytes.length ≤ 1800)
 else decide (m.verr = 0) && decide (m.nums = []) && (decide (m.suser = []) && decide (m.shard = 0) && decide (m.sepoch = 0)) && decide (m.vbytes = [])
def txsB (m : Ml) : Bool := if kTx m.kind then txB m.tx else tx0 m.tx
def fateB (m : Ml) : Bool := if m.kind = 3 then inI m.fate 1 2 else decide (m.fate = 0)
def nB (m : Ml) : Bool := if kN m.kind then inI m.n 0 big else decide (m.n = 0)
def userB (m : Ml) : Bool := if m.kind = 6 then decide (m.user.length ≤ 24) && inI m.epoch 0 big else decide (m.user = []) && decide (m.epoch = 0)
def argsB (m : Ml) : Bool := inI m.src 0 7 && inI m.dst 0 7 && txsB m && partB m && voteB m && fateB m && nB m && userB m
def putTx (t : Tx3) : By := beN 1 t.node.toNat ++ beN 4 t.boot.toNat ++ beN 4 t.n.toNat
def listB (n : Nat) (l : List Int) : By := beN 1 l.length ++ l.flatMap fun v => beN n v.toNat
def layHead (m : Ml) : By := beN 1 m.kind.toNat ++ beN 1 m.src.toNat ++ beN 1 m.dst.toNat ++ (if kTx m.kind then putTx m.tx else []) ++ (if kN m.kind then beN 4 m.n.toNat else [])
def layVote (m : Ml) : By := beN 1 m.verr.toNat ++ listB 4 m.nums ++ shortB m.suser ++ beN 1 m.shard.toNat ++ beN 4 m.sepoch.toNat ++ longB m.vbytes
/-- a message's bytes within its frame -/
def layM (m : Ml) : By := layHead m ++
 (if m.kind = 1 then listB 1 m.peers ++ listB 4 m.epochs ++ (putAllT m.deeds).1
  else if kVote m.kind then layVote m
  else if m.kind = 3 then beN 1 m.fate.toNat
  else if m.kind = 6 then shortB m.user ++ beN 4 m.epoch.toNat
  else [])
def checkM (m : Ml) : Nat :=
 if ¬ inI m.kind 1 7 then 14 else if ¬ argsB m then 2 else
 if m.kind = 1 ∧ (putAllT m.deeds).2 ≠ 0 then (putAllT m.deeds).2 else
 if 2000 < (layM m).length then 6 else 0
end Go.Proofs.YthlppbbejdeeoaaGreatDoor
namespace Go.Proofs.YthlppbbejdeeoaaGreatDoor
open Go.RowKit
theorem wwithin_any (n a b : Int) (w : World) : Calls Tryz.prog 31 #[.int .i64 n, .int .i64 a, .int .i64 b] w fun e w' => e = .returned (.bool (inI n a b)) ∧ w' = w := by
 have HI : Hid (inI n a b = (decide (a ≤ n) && decide (n ≤ b))) := Lib.hid rfl
 go_enter Tryz.func31, Tryz.ntmps31
 by_cases h : a ≤ n
 ·by_cases h2 : n ≤ b
  ·have HB : Hid (inI n a b = true) := Lib.hid (by rw [HI.out]; simp [h, h2])
   go_wp2
   go_ret
   exact ⟨by rw [HB.out]; rfl, rfl⟩
  ·have HB : Hid (inI n a b = false) := Lib.hid (by rw [HI.out]; simp [h2])
   go_wp2
   go_ret
   exact ⟨by rw [HB.out]; rfl, rfl⟩
 ·have HB : Hid (inI n a b = false) := Lib.hid (by rw [HI.out]; simp [h])
  go_wp2
  go_ret
  exact ⟨by rw [HB.out]; rfl, rfl⟩
/-- the cells of what a kind has -/
def hasC (k : Int) : Array Value := #[.bool (kTx k), .bool (decide (k = 1)), .bool (kVote k), .bool (decide (k = 3)), .bool (kN k), .bool (decide (k = 6))]
def zHas : Array Value := #[.bool false, .bool false, .bool false, .bool false, .bool false, .bool false]
theorem has_info : (Tryz.prog.info? 57).map (fun i => (i.zero, i.size)) = some (some (.agg zHas), 6) := by kernel_rfl
set_option maxRecDepth 20000 in
theorem of_any (k : Int) (w : World) : Calls Tryz.prog 18 #[.int .i64 k] w fun e w' => e = .returned (.tuple #[.agg (hasC k), .bool (inI k 1 7)]) ∧ Ext w w' := by
 by_cases h1 : k = 1
 ·subst h1
  go_enter Tryz.func18, Tryz.ntmps18
  go_wp2_with (with_reducible first | refine sA 57 ?_ | refine sS 57 ?_)
  refine go_on (wpList_alloc_ rfl rfl has_info ?_)
  go_wp2_with (with_reducible first | refine sA 57 ?_ | refine sS 57 ?_)
  refine go_on (wpList_store_whole (c := zHas) (c' := #[.bool true, .bool true, .bool false, .bool false, .bool false, .bool false]) rfl rfl rfl rfl (heap_alloc_new w _) (by kernel_rfl) rfl (by first | (simp [Value.oneCell']; done) | (simp [zHas, Value.oneCell']; done)) ?_)
  intro wv hrow hkv hsz
  have hxv : Ext w wv := ((Ext.refl w).alloc _).kept hkv (by intro k hk; simp at hk; subst hk; exact Nat.le_refl _)
  clear hkv hsz
  go_wp2
  ((try simp only [Exit.inBlock, Exit.then]); refine bodyPost_ret (results_cell1 rfl _ _ w.heap.size _ _ _ _ rfl hrow Tryz.underlying57 rfl (by kernel_rfl)) rfl ?_)
  exact ⟨by rfl, hxv⟩
 by_cases h2 : k = 2
 ·subst h2
  go_enter Tryz.func18, Tryz.ntmps18
  go_wp2_with (with_reducible first | refine sA 57 ?_ | refine sS 57 ?_)
  refine go_on (wpList_alloc_ rfl rfl has_info ?_)
  go_wp2_with (with_reducible first | refine sA 57 ?_ | refine sS 57 ?_)
  refine go_on (wpList_store_whole (c := zHas) (c' := #[.bool true, .bool false, .bool true, .bool false, .bool false, .bool false]) rfl rfl rfl rfl (heap_alloc_new w _) (by kernel_rfl) rfl (by first | (simp [Value.oneCell']; done) | (simp [zHas, Value.oneCell']; done)) ?_)
  intro wv hrow hkv hsz
  have hxv : Ext w wv := ((Ext.refl w).alloc _).kept hkv (by intro k hk; simp at hk; subst hk; exact Nat.le_refl _)
  clear hkv hsz
  go_wp2
  ((try simp only [Exit.inBlock, Exit.then]); refine bodyPost_ret (results_cell1 rfl _ _ w.heap.size _ _ _ _ rfl hrow Tryz.underlying57 rfl (by kernel_rfl)) rfl ?_)
  exact ⟨by rfl, hxv⟩
 by_cases h3 : k = 3
 ·subst h3
  go_enter Tryz.func18, Tryz.ntmps18
  go_wp2_with (with_reducible first | refine sA 57 ?_ | refine sS 57 ?_)
  refine go_on (wpList_alloc_ rfl rfl has_info ?_)
  go_wp2_with (with_reducible first | refine sA 57 ?_ | refine sS 57 ?_)
  refine go_on (wpList_store_whole (c := zHas) (c' := #[.bool true, .bool false, .bool false, .bool true, .bool false, .bool false]) rfl rfl rfl rfl (heap_alloc_new w _) (by kernel_rfl) rfl (by first | (simp [Value.oneCell']; done) | (simp [zHas, Value.oneCell']; done)) ?_)
  intro wv hrow hkv hsz
  have hxv : Ext w wv := ((Ext.refl w).alloc _).kept hkv (by intro k hk; simp at hk; subst hk; exact Nat.le_refl _)
  clear hkv hsz
  go_wp2
  ((try simp only [Exit.inBlock, Exit.then]); refine bodyPost_ret (results_cell1 rfl _ _ w.heap.size _ _ _ _ rfl hrow Tryz.underlying57 rfl (by kernel_rfl)) rfl ?_)
  exact ⟨by rfl, hxv⟩
 by_cases h4 : k = 4
 ·subst h4
  go_enter Tryz.func18, Tryz.ntmps18
  go_wp2_with (with_reducible first | refine sA 57 ?_ | refine sS 57 ?_)
  refine go_on (wpList_alloc_ rfl rfl has_info ?_)
  go_wp2_with (with_reducible first | refine sA 57 ?_ | refine sS 57 ?_)
  refine go_on (wpList_store_whole (c := zHas) (c' := #[.bool true, .bool false, .bool false, .bool false, .bool false, .bool false]) rfl rfl rfl rfl (heap_alloc_new w _) (by kernel_rfl) rfl (by first | (simp [Value.oneCell']; done) | (simp [zHas, Value.oneCell']; done)) ?_)
  intro wv hrow hkv hsz
  have hxv : Ext w wv := ((Ext.refl w).alloc _).kept hkv (by intro k hk; simp at hk; subst hk; exact Nat.le_refl _)
  clear hkv hsz
  go_wp2
  ((try simp only [Exit.inBlock, Exit.then]); refine bodyPost_ret (results_cell1 rfl _ _ w.heap.size _ _ _ _ rfl hrow Tryz.underlying57 rfl (by kernel_rfl)) rfl ?_)
  exact ⟨by rfl, hxv⟩
 by_cases h5 : k = 5
 ·subst h5
  go_enter Tryz.func18, Tryz.ntmps18
  go_wp2_with (with_reducible first | refine sA 57 ?_ | refine sS 57 ?_)
  refine go_on (wpList_alloc_ rfl rfl has_info ?_)
  go_wp2_with (with_reducible first | refine sA 57 ?_ | refine sS 57 ?_)
  refine go_on (wpList_store_whole (c := zHas) (c' := #[.bool true, .bool false, .bool false, .bool false, .bool false, .bool false]) rfl rfl rfl rfl (heap_alloc_new w _) (by kernel_rfl) rfl (by first | (simp [Value.oneCell']; done) | (simp [zHas, Value.oneCell']; done)) ?_)
  intro wv hrow hkv hsz
  have hxv : Ext w wv := ((Ext.refl w).alloc _).kept hkv (by intro k hk; simp at hk; subst hk; exact Nat.le_refl _)
  clear hkv hsz
  go_wp2
  ((try simp only [Exit.inBlock, Exit.then]); refine bodyPost_ret (results_cell1 rfl _ _ w.heap.size _ _ _ _ rfl hrow Tryz.underlying57 rfl (by kernel_rfl)) rfl ?_)
  exact ⟨by rfl, hxv⟩
 by_cases h6 : k = 6
 ·subst h6
  go_enter Tryz.func18, Tryz.ntmps18
  go_wp2_with (with_reducible first | refine sA 57 ?_ | refine sS 57 ?_)
  refine go_on (wpList_alloc_ rfl rfl has_info ?_)
  go_wp2_with (with_reducible first | refine sA 57 ?_ | refine sS 57 ?_)
  refine go_on (wpList_store_whole (c := zHas) (c' := #[.bool false, .bool false, .bool false, .bool false, .bool true, .bool true]) rfl rfl rfl rfl (heap_alloc_new w _) (by kernel_rfl) rfl (by first | (simp [Value.oneCell']; done) | (simp [zHas, Value.oneCell']; done)) ?_)
  intro wv hrow hkv hsz
  have hxv : Ext w wv := ((Ext.refl w).alloc _).kept hkv (by intro k hk; simp at hk; subst hk; exact Nat.le_refl _)
  clear hkv hsz
  go_wp2
  ((try simp only [Exit.inBlock, Exit.then]); refine bodyPost_ret (results_cell1 rfl _ _ w.heap.size _ _ _ _ rfl hrow Tryz.underlying57 rfl (by kernel_rfl)) rfl ?_)
  exact ⟨by rfl, hxv⟩
 by_cases h7 : k = 7
 ·subst h7
  go_enter Tryz.func18, Tryz.ntmps18
  go_wp2_with (with_reducible first | refine sA 57 ?_ | refine sS 57 ?_)
  refine go_on (wpList_alloc_ rfl rfl has_info ?_)
  go_wp2_with (with_reducible first | refine sA 57 ?_ | refine sS 57 ?_)
  refine go_on (wpList_store_whole (c := zHas) (c' := #[.bool false, .bool false, .bool true, .bool false, .bool true, .bool false]) rfl rfl rfl rfl (heap_alloc_new w _) (by kernel_rfl) rfl (by first | (simp [Value.oneCell']; done) | (simp [zHas, Value.oneCell']; done)) ?_)
  intro wv hrow hkv hsz
  have hxv : Ext w wv := ((Ext.refl w).alloc _).kept hkv (by intro k hk; simp at hk; subst hk; exact Nat.le_refl _)
  clear hkv hsz
  go_wp2
  ((try simp only [Exit.inBlock, Exit.then]); refine bodyPost_ret (results_cell1 rfl _ _ w.heap.size _ _ _ _ rfl hrow Tryz.underlying57 rfl (by kernel_rfl)) rfl ?_)
  exact ⟨by rfl, hxv⟩
 have HI : Hid (inI k 1 7 = false) := Lib.hid (by unfold inI; by_cases a : 1 ≤ k <;> by_cases b : k ≤ 7 <;> simp [a, b]; omega)
 have HC : Hid (hasC k = zHas) := Lib.hid (by unfold hasC zHas kTx kVote kN inI; have e1 : (decide (1 ≤ k) && decide (k ≤ 5)) = false := (by by_cases a : 1 ≤ k <;> by_cases b : k ≤ 5 <;> simp [a, b]; omega); have e2 : (decide (6 ≤ k) && decide (k ≤ 7)) = false := (by by_cases a : 6 ≤ k <;> by_cases b : k ≤ 7 <;> simp [a, b]; omega); simp [e1, e2, h1, h2, h3, h6, h7])
 have j1 : (k == 1) = false := by simpa using h1
 have j2 : (k == 2) = false := by simpa using h2
 have j3 : (k == 3) = false := by simpa using h3
 have j4 : (k == 4) = false := by simpa using h4
 have j5 : (k == 5) = false := by simpa using h5
 have j6 : (k == 6) = false := by simpa using h6
 have j7 : (k == 7) = false := by simpa using h7
 go_enter Tryz.func18, Tryz.ntmps18
 go_wp2_with (with_reducible first | refine sA 57 ?_ | refine sS 57 ?_)
 refine go_on (wpList_alloc_ rfl rfl has_info ?_)
 go_wp2_with (with_reducible first | refine sA 57 ?_ | refine sS 57 ?_)
 refine go_on (wpList_store_whole (c := zHas) (c' := zHas) rfl rfl rfl rfl (heap_alloc_new w _) (by kernel_rfl) rfl (by first | (simp [Value.oneCell']; done) | (simp [zHas, Value.oneCell']; done)) ?_)
 intro wv hrow hkv hsz
 have hxv : Ext w wv := ((Ext.refl w).alloc _).kept hkv (by intro k hk; simp at hk; subst hk; exact Nat.le_refl _)
 clear hkv hsz
 go_wp2
 ((try simp only [Exit.inBlock, Exit.then]); refine bodyPost_ret (results_cell1 rfl _ _ w.heap.size _ _ _ _ rfl hrow Tryz.underlying57 rfl (by kernel_rfl)) rfl ?_)
 exact ⟨by rw [HI.out, HC.out]; rfl, hxv⟩
end Go.Proofs.YthlppbbejdeeoaaGreatDoor
namespace Go.Proofs.YthlppbbejdeeoaaGreatDoor
open Go.RowKit
def txC (t : Tx3) : Array Value := #[.int .i64 t.node, .int .i64 t.boot, .int .i64 t.n]
set_option maxRecDepth 20000 in
theorem wrightTx_any (c : Bool) (t : Tx3) (w : World) : Calls Tryz.prog 32 #[.bool c, .agg (txC t)] w fun e w' => e = .returned (.bool (if c then txB t else tx0 t)) ∧ Ext w w' := by
 obtain ⟨a, b, n⟩ := t
 unfold txC
 simp only
 obtain ⟨wa, hwa⟩ : ∃ wa, wa = w.alloc (.cells #[.int .i64 a, .int .i64 b, .int .i64 n] 25) := ⟨_, rfl⟩
 have hx : Ext w wa := by rw [hwa]; exact (Ext.refl w).alloc _
 have hrow : wa.heap[w.heap.size]? = some (.cells #[.int .i64 a, .int .i64 b, .int .i64 n] 25 (0, 0)) := by rw [hwa]; exact heap_alloc_new w _
 have HWA := Lib.hid hwa
 clear hwa
 obtain ⟨r, hr⟩ : ∃ r, r = if c then txB ⟨a, b, n⟩ else tx0 ⟨a, b, n⟩ := ⟨_, rfl⟩
 rw [← hr]
 have HR := Lib.hid hr
 clear hr
 cases c
 ·have HB : Hid (r = tx0 ⟨a, b, n⟩) := Lib.hid (by rw [HR.out]; simp)
  clear HR
  go_enter Tryz.func32, Tryz.ntmps32
  go_wp2_with (with_reducible refine sL 25 ?_)
  rw [← HWA.out]
  refine go_on (wpList_load_row rfl 25 _ rfl w.heap.size rfl 25 _ (0, 0) _ hrow Tryz.underlying25 rfl (by kernel_rfl) ?_)
  go_wp2
  all_goals
   go_ret
   exact ⟨by rw [HB.out]; simp [tx0, *], hx⟩
 ·have HB : Hid (r = (inI a 0 255 && inI b 1 2147483647 && inI n 1 2147483647)) := Lib.hid (by rw [HR.out]; simp [txB])
  clear HR
  obtain ⟨C0, C1, C2, F⟩ := row3_at hrow
  have H1 := wwithin_any a 0 255
  have H2 := wwithin_any b 1 2147483647
  have H3 := wwithin_any n 1 2147483647
  generalize inI a 0 255 = x at *
  generalize inI b 1 2147483647 = y at *
  generalize inI n 1 2147483647 = z at *
  go_enter Tryz.func32, Tryz.ntmps32
  go_wp2_with fail
  rw [← HWA.out]
  refine (H1 _).mono ?_
  rintro e w1 ⟨rfl, rfl⟩
  cases x
  ·go_wp2
   go_ret
   exact ⟨by rw [HB.out]; rfl, hx⟩
  ·go_wp2_with fail
   refine (H2 _).mono ?_
   rintro e w1 ⟨rfl, rfl⟩
   cases y
   ·go_wp2
    go_ret
    exact ⟨by rw [HB.out]; rfl, hx⟩
   ·go_wp2_with fail
    refine (H3 _).mono ?_
    rintro e w1 ⟨rfl, rfl⟩
    go_wp2
    go_ret
    exact ⟨by rw [HB.out]; simp, hx⟩
end Go.Proofs.YthlppbbejdeeoaaGreatDoor
namespace Go.Proofs.YthlppbbejdeeoaaGreatDoor
open Go.RowKit
theorem call_every1 (args : Array Value) (w : World) : (callFunc 78 args).run Tryz.prog w = .ok (.enter 78 args) w := by
 go_simp
theorem every1_any (v lo hi : Int) (p q : Nat) (w : World) (hp : w.cell? ⟨p, 0, none⟩ = some (.int .i64 lo)) (hq : w.cell? ⟨q, 0, none⟩ = some (.int .i64 hi)) :
 Calls Tryz.prog 78 #[.int .i64 v, .pointer (some ⟨p, 0, none⟩), .pointer (some ⟨q, 0, none⟩)] w fun e w' => e = .returned (.bool (!inI v lo hi)) ∧ w = w' := by
 have HI := wwithin_any v lo hi w
 generalize inI v lo hi = b at *
 go_enter Tryz.func78, Tryz.ntmps78
 go_wp2_with fail
 refine HI.mono ?_
 rintro e w1 ⟨rfl, rfl⟩
 go_wp2
 go_ret
 exact ⟨rfl, rfl⟩
def alls (ls : List Int) (lo hi : Int) : Bool := ls.all fun n => inI n lo hi
theorem indexF_any (ls : List Int) (lo hi : Int) (p q : Nat) (A : Option Addr) (cap : Nat) (w : World) (h : Sl w A (doV ls)) (hl : ls.length ≤ 9223372036854775800) (hp : w.cell? ⟨p, 0, none⟩ = some (.int .i64 lo)) (hq : w.cell? ⟨q, 0, none⟩ = some (.int .i64 hi)) :
 Calls Tryz.prog 92 #[.slice A ls.length cap, .func (.func 78) #[] #[.pointer (some ⟨p, 0, none⟩), .pointer (some ⟨q, 0, none⟩)]] w fun e w' => (∃ i : Int, e = .returned (.int .i64 i) ∧ decide (0 ≤ i) = !alls ls lo hi) ∧ w = w' := by
 have H1 := fun v => every1_any v lo hi p q w hp hq
 have hcf := call_every1
 go_enter Tryz.func92, Tryz.ntmps92
 go_wp2
 go_loop [8] (fun i => ∃ k : Nat, k ≤ ls.length ∧ i = .int .i64 k ∧ alls (ls.take k) lo hi = true) (fun i => ls.length - (intOf i).toNat)
 case atStart => exact ⟨0, by omega, rfl, by simp [alls]⟩
 case round =>
  obtain ⟨k, hk, rfl, hno⟩ := hrel
  by_cases hlt : k < ls.length
  ·obtain ⟨ad, rfl, hc⟩ := Sl.now h (doV_get hlt)
   have hlt2 : (k : Int) < ls.length := by omega
   have HT := Lib.hid (List.take_succ_eq_append_getElem hlt)
   have HM : Hid (ls[k] ∈ ls) := Lib.hid (List.getElem_mem hlt)
   have HNO := Lib.hid hno
   clear hno
   generalize ls[k] = x at *
   have HX := H1 x
   by_cases hv : inI x lo hi = true
   ·have HV := Lib.hid hv
    rw [hv] at HX
    clear hv
    go_wp2_with fail
    refine HX.mono ?_
    rintro e w1 ⟨rfl, rfl⟩
    go_wp2
    go_round
    case rel => exact ⟨k + 1, by omega, by go_num, by rw [HT.out]; have := HNO.out; unfold alls at this ⊢; rw [List.all_append, this]; simp [HV.out]⟩
    case measure => simp [intOf]; omega
   ·have HN : Hid (alls ls lo hi = false) := Lib.hid (by unfold alls; rw [List.all_eq_false]; exact ⟨x, HM.out, hv⟩)
    rw [show inI x lo hi = false by simpa using hv] at HX
    clear hv
    go_wp2_with fail
    refine HX.mono ?_
    rintro e w1 ⟨rfl, rfl⟩
    go_wp2
    go_ret
    exact ⟨⟨_, rfl, by simp [HN.out]⟩, rfl⟩
  ·have HNO : Hid (alls ls lo hi = true) := Lib.hid (by rw [List.take_of_length_le (by omega)] at hno; exact hno)
   clear hno
   go_wp2
   go_ret
   exact ⟨⟨_, rfl, by simp [HNO.out]⟩, rfl⟩
theorem containsF_any (ls : List Int) (lo hi : Int) (p q : Nat) (A : Option Addr) (cap : Nat) (w : World) (h : Sl w A (doV ls)) (hl : ls.length ≤ 9223372036854775800) (hp : w.cell? ⟨p, 0, none⟩ = some (.int .i64 lo)) (hq : w.cell? ⟨q, 0, none⟩ = some (.int .i64 hi)) :
 Calls Tryz.prog 77 #[.slice A ls.length cap, .func (.func 78) #[] #[.pointer (some ⟨p, 0, none⟩), .pointer (some ⟨q, 0, none⟩)]] w fun e w' => e = .returned (.bool (!alls ls lo hi)) ∧ w = w' := by
 have HI := indexF_any ls lo hi p q A cap w h hl hp hq
 generalize alls ls lo hi = b at *
 go_enter Tryz.func77, Tryz.ntmps77
 go_wp2_with fail
 refine HI.mono ?_
 rintro e w1 ⟨⟨i, rfl, hi⟩, rfl⟩
 have HB := Lib.hid hi
 clear hi HI
 go_wp2
 go_ret
 exact ⟨by rw [← HB.out]; rfl, rfl⟩
theorem every_any (ls : List Int) (lo hi : Int) (A : Option Addr) (cap : Nat) (w : World) (h : Sl w A (doV ls)) (hl : ls.length ≤ 9223372036854775800) :
 Calls Tryz.prog 50 #[.slice A ls.length cap, .int .i64 lo, .int .i64 hi] w fun e w' => e = .returned (.bool (alls ls lo hi)) ∧ Ext w w' := by
 have hmf : ∀ (fn : Fn) (first cap : Array Value) (w : World), (Instr.makeFunc fn first cap).run Tryz.prog w = .ok (.func fn first cap) w := fun _ _ _ _ => rfl
 obtain ⟨wa, hwa⟩ : ∃ wa, wa = (w.alloc (.cells #[.int .i64 lo] 3)).alloc (.cells #[.int .i64 hi] 3) := ⟨_, rfl⟩
 have hx : Ext w wa := by rw [hwa]; exact ((Ext.refl w).alloc _).alloc _
 have hz : (w.alloc (.cells #[.int .i64 lo] 3)).heap.size = w.heap.size + 1 := by simp
 have hp : wa.cell? ⟨w.heap.size, 0, none⟩ = some (.int .i64 lo) := (row_at (by rw [hwa]; exact ((Ext.refl _).alloc _).obj (heap_alloc_new w _))).1
 have hq : wa.cell? ⟨w.heap.size + 1, 0, none⟩ = some (.int .i64 hi) := (row_at (by rw [hwa, ← hz]; exact heap_alloc_new _ _)).1
 have HI := containsF_any ls lo hi w.heap.size (w.heap.size + 1) A cap wa (h.ext hx) hl hp hq
 have HWA := Lib.hid hwa
 clear hwa hp hq hz
 generalize alls ls lo hi = b at *
 go_enter Tryz.func50, Tryz.ntmps50
 go_wp2_with fail
 rw [← HWA.out]
 refine HI.mono ?_
 rintro e w1 ⟨rfl, rfl⟩
 go_wp2
 go_ret
 exact ⟨by cases b <;> rfl, hx⟩
end Go.Proofs.YthlppbbejdeeoaaGreatDoor
namespace Go.Proofs.YthlppbbejdeeoaaGreatDoor
open Go.RowKit
def voC (m : Ml) (N V : Value) : Array Value := #[.int .i64 m.verr, N, .string (st m.suser), .int .i64 m.shard, .int .i64 m.sepoch, V]
theorem seat_info : (Tryz.prog.info? 32).map (fun i => (i.zero, i.size)) = some (some (.agg #[.string ⟨#[]⟩, .int .i64 0, .int .i64 0]), 3) := by kernel_rfl
set_option maxRecDepth 20000 in
set_option maxHeartbeats 2000000 in
theorem wrightVote_any (m : Ml) (An Av : Option Addr) (cn cv : Nat) (w : World) (h : Sl w An (doV m.nums)) :
 Calls Tryz.prog 34 #[.bool true, .agg (voC m (.slice An m.nums.length cn) (.slice Av m.vbytes.length cv))] w fun e w' =>
  e = .returned (.bool (inI m.verr 0 14 && decide (m.nums.length ≤ 12) && allI m.nums big && inI m.shard 0 3 && inI m.sepoch 0 big && decide (m.suser.length ≤ 24) && decide (m.vbytes.length ≤ 1800))) ∧ Ext w w' := by
 obtain ⟨_, _, _, _, _, _, _, _, er, nums, su, sh, se, vb, _, _, _, _⟩ := m
 unfold voC
 simp only at *
 obtain ⟨wa, hwa⟩ : ∃ wa, wa = w.alloc (.cells #[.int .i64 er, .slice An nums.length cn, .string (st su), .int .i64 sh, .int .i64 se, .slice Av vb.length cv] 34) := ⟨_, rfl⟩
 have hxa : Ext w wa := by rw [hwa]; exact (Ext.refl w).alloc _
 have hrow : wa.heap[w.heap.size]? = some (.cells #[.int .i64 er, .slice An nums.length cn, .string (st su), .int .i64 sh, .int .i64 se, .slice Av vb.length cv] 34 (0, 0)) := by rw [hwa]; exact heap_alloc_new w _
 have HWA := Lib.hid hwa
 have hE := fun W (hx : Ext w W) (hl : nums.length ≤ 12) => every_any nums 0 big An cn W (h.ext hx) (by omega)
 have H1 := wwithin_any er 0 14
 have H2 := wwithin_any sh 0 3
 have H3 := wwithin_any se 0 big
 unfold big at hE H3
 have C := fun w' (hx' : Ext wa w') => (row6_at (hx'.obj hrow))
 have C0 := fun w' hx' => (C w' hx').1
 have C1 := fun w' hx' => (C w' hx').2.1
 have C5 := fun w' hx' => (C w' hx').2.2.2.2.2.1
 have HM : wa.rangeAt w.heap.size 2 [.string (st su), .int .i64 sh, .int .i64 se] := World.rangeAt_of_block hrow 2 3
 obtain ⟨r, hr⟩ : ∃ r, r = (inI er 0 14 && decide (nums.length ≤ 12) && allI nums big && inI sh 0 3 && inI se 0 big && decide (su.length ≤ 24) && decide (vb.length ≤ 1800)) := ⟨_, rfl⟩
 rw [← hr]
 have HB := Lib.hid hr
 rw [show allI nums big = alls nums 0 4294967295 from rfl, show inI se 0 big = inI se 0 4294967295 from rfl] at HB
 clear hwa hr h C
 generalize inI er 0 14 = b1 at *
 generalize inI sh 0 3 = b2 at *
 generalize inI se 0 4294967295 = b3 at *
 generalize alls nums 0 4294967295 = b4 at *
 go_enter Tryz.func34, Tryz.ntmps34
 go_wp2_with (with_reducible refine sL 32 ?_)
 rw [← HWA.out]
 refine go_on (wpList_load_mid rfl 32 _ rfl w.heap.size 2 rfl _ _ HM Tryz.underlying32 rfl (by kernel_rfl) ?_)
 go_wp2_with (with_reducible first | refine sL 32 ?_ | refine sA 32 ?_ | refine sS 32 ?_)
 refine go_on (wpList_alloc_ rfl rfl seat_info ?_)
 go_wp2_with (with_reducible first | refine sL 32 ?_ | refine sA 32 ?_ | refine sS 32 ?_)
 refine go_on (wpList_store_last (c' := #[.string (st su), .int .i64 sh, .int .i64 se]) rfl rfl rfl rfl (by kernel_rfl) rfl (by simp [Value.oneCell']) ?_)
 intro wb hrowS hxb _
 have hx := hxa.trans hxb
 obtain ⟨S0, S1, S2, SF⟩ := rows3 hrowS
 clear HM hrow
 have HE := hE wb hx
 clear hE
 go_wp2_with fail
 refine (H1 _).mono ?_
 rintro e w1 ⟨rfl, rfl⟩
 cases b1
 ·clear HWA
  go_wp2
  go_ret
  exact ⟨by rw [HB.out]; first | (simp; done) | (simp; omega), hx⟩
 by_cases hn : (nums.length : Int) ≤ 12
 ·have hn2 : decide (nums.length ≤ 12) = true := decide_eq_true (by omega)
  rw [hn2] at HB
  go_wp2_with fail
  refine (HE (by omega)).mono ?_
  rintro e w2 ⟨rfl, hx2⟩
  have hx02 := hx.trans hx2
  have hxb2 := hxb.trans hx2
  clear HE
  cases b4
  ·clear HWA
   go_wp2
   go_ret
   exact ⟨by rw [HB.out]; first | (simp; done) | (simp; omega), hx02⟩
  go_wp2_with fail
  refine (H2 _).mono ?_
  rintro e w3 ⟨rfl, rfl⟩
  cases b2
  ·clear HWA
   go_wp2
   go_ret
   exact ⟨by rw [HB.out]; first | (simp; done) | (simp; omega), hx02⟩
  go_wp2_with fail
  refine (H3 _).mono ?_
  rintro e w3 ⟨rfl, rfl⟩
  cases b3
  ·clear HWA
   go_wp2
   go_ret
   exact ⟨by rw [HB.out]; first | (simp; done) | (simp; omega), hx02⟩
  by_cases hs : (su.length : Int) ≤ 24
  ·have hs2 : decide (su.length ≤ 24) = true := decide_eq_true (by omega)
   rw [hs2] at HB
   by_cases hv : (vb.length : Int) ≤ 1800
   ·have hv2 : decide (vb.length ≤ 1800) = true := decide_eq_true (by omega)
    rw [hv2] at HB
    go_wp2
    go_ret
    exact ⟨by rw [HB.out]; first | (simp; done) | (simp; omega), hx02⟩
   ·have hv2 : decide (vb.length ≤ 1800) = false := decide_eq_false (by omega)
    rw [hv2] at HB
    go_wp2
    go_ret
    exact ⟨by rw [HB.out]; first | (simp; done) | (simp; omega), hx02⟩
  ·have hs2 : decide (su.length ≤ 24) = false := decide_eq_false (by omega)
   rw [hs2] at HB
   go_wp2
   go_ret
   exact ⟨by rw [HB.out]; first | (simp; done) | (simp; omega), hx02⟩
 ·have hn2 : decide (nums.length ≤ 12) = false := decide_eq_false (by omega)
  rw [hn2] at HB
  go_wp2
  go_ret
  exact ⟨by rw [HB.out]; first | (simp; done) | (simp; omega), hx⟩
end Go.Proofs.YthlppbbejdeeoaaGreatDoor
namespace Go.Proofs.YthlppbbejdeeoaaGreatDoor
open Go.RowKit
theorem wpList_load_midG {P : Program} {ops : Array Oper} {rest : List Oper} {o : Oper} {a : Act} {w : World} {Q : Exit → Act → World → Prop} (hw : Region.wanted o (yielded ops a.tmps) = true) (ty : TypeId) (x : Operand) (ho : o.op = .load ty x)
 (b k : Nat) (hx : a.eval x = .pointer (some ⟨b, k, none⟩)) (cs : List Value) (d : TypeDesc) (hc : w.rangeAt b k cs)
 (hu : P.underlying ty = some d) (hd : d.isRow = true) (hi : (P.info? ty).map (·.size) = some cs.length)
 (h : wpList P ops Q rest (a.put o.dst (.agg cs.toArray)) w) : wpList P ops Q (o :: rest) a w :=
 wpList_want hw (wp_load_mid ty x ho b k hx cs d hc hu hd hi h)
def vote0 (er : Int) (nums : List Int) (su : By) (sh se : Int) (vb : By) : Bool := decide (er = 0) && decide (nums = []) && (decide (su = []) && decide (sh = 0) && decide (se = 0)) && decide (vb = [])
theorem vote0_len (nums : List Int) (vb : By) : (((nums.length : Int) + (vb.length : Int)) == 0) = (decide (nums = []) && decide (vb = [])) := by
 cases nums with
 | nil => cases vb with
  | nil => rfl
  | cons b vb => simp; omega
 | cons a nums => simp; omega
set_option maxRecDepth 20000 in
set_option maxHeartbeats 2000000 in
theorem wrightVote0_any (m : Ml) (An Av : Option Addr) (cn cv : Nat) (w : World) (h1 : m.nums.length ≤ 4611686018427387904) (h2 : m.vbytes.length ≤ 4611686018427387000) :
 Calls Tryz.prog 34 #[.bool false, .agg (voC m (.slice An m.nums.length cn) (.slice Av m.vbytes.length cv))] w fun e w' =>
  e = .returned (.bool (vote0 m.verr m.nums m.suser m.shard m.sepoch m.vbytes)) ∧ Ext w w' := by
 obtain ⟨_, _, _, _, _, _, _, _, er, nums, su, sh, se, vb, _, _, _, _⟩ := m
 unfold voC
 simp only at *
 obtain ⟨wa, hwa⟩ : ∃ wa, wa = w.alloc (.cells #[.int .i64 er, .slice An nums.length cn, .string (st su), .int .i64 sh, .int .i64 se, .slice Av vb.length cv] 34) := ⟨_, rfl⟩
 have hx : Ext w wa := by rw [hwa]; exact (Ext.refl w).alloc _
 have hrow : wa.heap[w.heap.size]? = some (.cells #[.int .i64 er, .slice An nums.length cn, .string (st su), .int .i64 sh, .int .i64 se, .slice Av vb.length cv] 34 (0, 0)) := by rw [hwa]; exact heap_alloc_new w _
 have HWA := Lib.hid hwa
 obtain ⟨C0, C1, C2, C3, C4, C5, F⟩ := row6_at hrow
 have HM : wa.rangeAt w.heap.size 2 [.string (st su), .int .i64 sh, .int .i64 se] := World.rangeAt_of_block hrow 2 3
 obtain ⟨r, hr⟩ : ∃ r, r = vote0 er nums su sh se vb := ⟨_, rfl⟩
 rw [← hr]
 have HB := Lib.hid hr
 clear hwa hr hrow
 by_cases he : er = 0
 ·subst he
  go_enter Tryz.func34, Tryz.ntmps34
  go_wp2_with (with_reducible refine sL 32 ?_)
  rw [← HWA.out]
  refine go_on (wpList_load_midG (by rfl) 32 _ rfl w.heap.size 2 rfl _ _ HM Tryz.underlying32 rfl (by kernel_rfl) ?_)
  go_wp2
  all_goals
   go_ret
   refine ⟨?_, hx⟩
   rw [HB.out]
   first
   | (simp [vote0, *]; done)
   | exact congrArg (fun b => Ending.returned (.bool b)) ((vote0_len nums vb).trans (by simp [vote0, *]))
 ·have he2 : (er == 0) = false := by simpa using he
  have HB2 : Hid (r = false) := Lib.hid (by rw [HB.out]; simp [vote0, he])
  clear HB he
  go_enter Tryz.func34, Tryz.ntmps34
  go_wp2
  rw [← HWA.out]
  go_ret
  exact ⟨by rw [HB2.out]; rfl, hx⟩
end Go.Proofs.YthlppbbejdeeoaaGreatDoor
namespace Go.Proofs.YthlppbbejdeeoaaGreatDoor
open Go.RowKit
def mlC (m : Ml) (P D E N V : Value) : Array Value := #[.int .i64 m.kind, .int .i64 m.src, .int .i64 m.dst, .int .i64 m.tx.node, .int .i64 m.tx.boot, .int .i64 m.tx.n,
 .int .i64 m.ptx.node, .int .i64 m.ptx.boot, .int .i64 m.ptx.n, P, D, E, .int .i64 m.verr, N, .string (st m.suser), .int .i64 m.shard, .int .i64 m.sepoch, V, .int .i64 m.fate, .string (st m.user), .int .i64 m.epoch, .int .i64 m.n]
theorem part_info : (Tryz.prog.info? 29).map (fun i => (i.zero, i.size)) = some (some (.agg #[.int .i64 0, .int .i64 0, .int .i64 0, .slice none 0 0, .slice none 0 0, .slice none 0 0]), 6) := by kernel_rfl
def partT (m : Ml) : Bool := decide (m.ptx = m.tx) && (inI m.peers.length 1 4) && allI m.peers 3 && decide (m.epochs.length = m.deeds.length) && allI m.epochs big
theorem tx_dec (a b : Tx3) : decide (a = b) = (decide (a.node = b.node) && decide (a.boot = b.boot) && decide (a.n = b.n)) := by
 cases a
 cases b
 simp [Bool.and_assoc]
set_option maxRecDepth 20000 in
set_option maxHeartbeats 2000000 in
theorem wrightPart_any (m : Ml) (Ap Ad Ae : Option Addr) (cp cd ce : Nat) (N V : Value) (w : World) (hp : Sl w Ap (doV m.peers)) (he : Sl w Ae (doV m.epochs)) (hl : m.epochs.length ≤ 4611686018427387904) :
 Calls Tryz.prog 33 #[.bool true, .agg (mlC m (.slice Ap m.peers.length cp) (.slice Ad m.deeds.length cd) (.slice Ae m.epochs.length ce) N V)] w fun e w' => e = .returned (.bool (partT m)) ∧ Ext w w' := by
 obtain ⟨mc, hmc⟩ : ∃ mc, mc = mlC m (.slice Ap m.peers.length cp) (.slice Ad m.deeds.length cd) (.slice Ae m.epochs.length ce) N V := ⟨_, rfl⟩
 rw [← hmc]
 obtain ⟨wa, hwa⟩ : ∃ wa, wa = w.alloc (.cells mc 37) := ⟨_, rfl⟩
 have hxa : Ext w wa := by rw [hwa]; exact (Ext.refl w).alloc _
 have hrow : wa.heap[w.heap.size]? = some (.cells mc 37 (0, 0)) := by rw [hwa]; exact heap_alloc_new w _
 have HWA := Lib.hid hwa
 have hMP : wa.rangeAt w.heap.size 6 [.int .i64 m.ptx.node, .int .i64 m.ptx.boot, .int .i64 m.ptx.n, .slice Ap m.peers.length cp, .slice Ad m.deeds.length cd, .slice Ae m.epochs.length ce] := by
  have := World.rangeAt_of_block hrow 6 6
  rw [hmc] at this
  exact this
 have hMT : ∀ W, Ext wa W → W.rangeAt w.heap.size 3 [.int .i64 m.tx.node, .int .i64 m.tx.boot, .int .i64 m.tx.n] := fun W hx => by
  have := World.rangeAt_of_block (hx.obj hrow) 3 3
  rw [hmc] at this
  exact this
 obtain ⟨r, hr⟩ : ∃ r, r = partT m := ⟨_, rfl⟩
 rw [← hr]
 have HB := Lib.hid hr
 unfold partT allI big at HB
 have hE1 := fun W (hx : Ext w W) (hl : m.peers.length ≤ 4) => every_any m.peers 0 3 Ap cp W (hp.ext hx) (by omega)
 have hE2 := fun W (hx : Ext w W) => every_any m.epochs 0 4294967295 Ae ce W (he.ext hx) (by omega)
 have hW := fun W => wwithin_any m.peers.length 1 4 W
 have HTX := Lib.hid (tx_dec m.ptx m.tx)
 clear hr hp he
 clear hwa hrow hmc
 go_enter Tryz.func33, Tryz.ntmps33
 go_wp2_with (with_reducible refine sL 29 ?_)
 rw [← HWA.out]
 refine go_on (wpList_load_mid rfl 29 _ rfl w.heap.size 6 rfl _ _ hMP Tryz.underlying29 rfl (by kernel_rfl) ?_)
 go_wp2_with (with_reducible first | refine sL 25 ?_ | refine sL 29 ?_ | refine sA 29 ?_ | refine sS 29 ?_)
 refine go_on (wpList_alloc_ rfl rfl part_info ?_)
 go_wp2_with (with_reducible first | refine sL 25 ?_ | refine sL 29 ?_ | refine sA 29 ?_ | refine sS 29 ?_)
 refine go_on (wpList_store_last (c' := #[.int .i64 m.ptx.node, .int .i64 m.ptx.boot, .int .i64 m.ptx.n, .slice Ap m.peers.length cp, .slice Ad m.deeds.length cd, .slice Ae m.epochs.length ce]) rfl rfl rfl rfl (by kernel_rfl) rfl (by simp [Value.oneCell']) ?_)
 intro wb hrowP hxb _
 have hx := hxa.trans hxb
 have HT := hMT wb hxb
 have C := fun w' (hx' : Ext wb w') => (row6_at (hx'.obj hrowP))
 have C3 := fun w' hx' => (C w' hx').2.2.2.1
 have C4 := fun w' hx' => (C w' hx').2.2.2.2.1
 have C5 := fun w' hx' => (C w' hx').2.2.2.2.2.1
 have HPT : wb.rangeAt wa.heap.size 0 [.int .i64 m.ptx.node, .int .i64 m.ptx.boot, .int .i64 m.ptx.n] := World.rangeAt_of_block hrowP 0 3
 clear hMP hMT C hrowP
 go_wp2_with (with_reducible refine sL 25 ?_)
 refine go_on (wpList_load_mid rfl 25 _ rfl wa.heap.size 0 rfl _ _ HPT Tryz.underlying25 rfl (by kernel_rfl) ?_)
 go_wp2_with (with_reducible refine sL 25 ?_)
 refine go_on (wpList_load_mid rfl 25 _ rfl w.heap.size 3 rfl _ _ HT Tryz.underlying25 rfl (by kernel_rfl) ?_)
 rw [HTX.out] at HB
 clear HTX HT HPT
 generalize m.ptx.node = a1 at *
 generalize m.ptx.boot = a2 at *
 generalize m.ptx.n = a3 at *
 generalize m.tx.node = d1 at *
 generalize m.tx.boot = d2 at *
 generalize m.tx.n = d3 at *
 go_wp2_with fail
 ·refine (hW _).mono ?_
  rintro e w1 ⟨rfl, rfl⟩
  by_cases hin : inI m.peers.length 1 4 = true
  ·have h4 : m.peers.length ≤ 4 := by unfold inI at hin; simp at hin; omega
   rw [hin] at HB ⊢
   have HE1 := hE1 _ hx h4
   clear hE1 hin hW
   generalize hb1 : alls m.peers 0 3 = b1 at *
   rw [show (m.peers.all fun n => inI n 0 3) = b1 from hb1] at HB
   clear hb1
   go_wp2_with fail
   refine HE1.mono ?_
   rintro e w2 ⟨rfl, hx2⟩
   have hx02 := hx.trans hx2
   clear HE1
   cases b1
   ·clear hE2
    go_wp2
    go_ret
    exact ⟨by rw [HB.out]; first | (simp; done) | (simp; omega), hx02⟩
   by_cases hde : (m.epochs.length : Int) = m.deeds.length
   ·have hd2 : decide (m.epochs.length = m.deeds.length) = true := decide_eq_true (by omega)
    have hd3 : ((m.epochs.length : Int) == m.deeds.length) = true := by simpa using hde
    rw [hd2] at HB
    have HE2 := hE2 _ hx02
    clear hE2 hde hd2
    generalize hb2 : alls m.epochs 0 4294967295 = b2 at *
    rw [show (m.epochs.all fun n => inI n 0 4294967295) = b2 from hb2] at HB
    clear hb2
    go_wp2_with fail
    refine HE2.mono ?_
    rintro e w3 ⟨rfl, hx3⟩
    have hx03 := hx02.trans hx3
    clear HE2
    go_wp2
    go_ret
    exact ⟨by rw [HB.out]; first | (simp; done) | (simp; omega), hx03⟩
   ·have hd2 : decide (m.epochs.length = m.deeds.length) = false := decide_eq_false (by omega)
    have hd3 : ((m.epochs.length : Int) == m.deeds.length) = false := by simpa using hde
    rw [hd2] at HB
    clear hE2 hde hd2
    go_wp2
    go_ret
    exact ⟨by rw [HB.out]; first | (simp; done) | (simp; omega), hx02⟩
  ·have hin2 : inI m.peers.length 1 4 = false := by simpa using hin
   rw [hin2] at HB ⊢
   clear hE1 hE2 hin hin2 hW
   go_wp2
   go_ret
   exact ⟨by rw [HB.out]; first | (simp; done) | (simp; omega), hx⟩
 all_goals
  go_ret
  exact ⟨by rw [HB.out]; simp [*], hx⟩
end Go.Proofs.YthlppbbejdeeoaaGreatDoor
namespace Go.Proofs.YthlppbbejdeeoaaGreatDoor
open Go.RowKit
def part0 (m : Ml) : Bool := tx0 m.ptx && (((m.peers.length : Int) + m.deeds.length + m.epochs.length) == 0)
set_option maxRecDepth 20000 in
set_option maxHeartbeats 2000000 in
theorem wrightPart0_any (m : Ml) (Ap Ad Ae : Option Addr) (cp cd ce : Nat) (N V : Value) (w : World) (h1 : m.peers.length ≤ 1152921504606846976) (h2 : m.deeds.length ≤ 1152921504606846976) (h3 : m.epochs.length ≤ 1152921504606846976) :
 Calls Tryz.prog 33 #[.bool false, .agg (mlC m (.slice Ap m.peers.length cp) (.slice Ad m.deeds.length cd) (.slice Ae m.epochs.length ce) N V)] w fun e w' => e = .returned (.bool (part0 m)) ∧ Ext w w' := by
 obtain ⟨mc, hmc⟩ : ∃ mc, mc = mlC m (.slice Ap m.peers.length cp) (.slice Ad m.deeds.length cd) (.slice Ae m.epochs.length ce) N V := ⟨_, rfl⟩
 rw [← hmc]
 obtain ⟨wa, hwa⟩ : ∃ wa, wa = w.alloc (.cells mc 37) := ⟨_, rfl⟩
 have hxa : Ext w wa := by rw [hwa]; exact (Ext.refl w).alloc _
 have hrow : wa.heap[w.heap.size]? = some (.cells mc 37 (0, 0)) := by rw [hwa]; exact heap_alloc_new w _
 have HWA := Lib.hid hwa
 have hMP : wa.rangeAt w.heap.size 6 [.int .i64 m.ptx.node, .int .i64 m.ptx.boot, .int .i64 m.ptx.n, .slice Ap m.peers.length cp, .slice Ad m.deeds.length cd, .slice Ae m.epochs.length ce] := by
  have := World.rangeAt_of_block hrow 6 6
  rw [hmc] at this
  exact this
 obtain ⟨r, hr⟩ : ∃ r, r = part0 m := ⟨_, rfl⟩
 rw [← hr]
 have HB : Hid (r = (tx0 ⟨m.ptx.node, m.ptx.boot, m.ptx.n⟩ && (((m.peers.length : Int) + m.deeds.length + m.epochs.length) == 0))) := Lib.hid hr
 clear hwa hrow hmc hr
 generalize m.ptx.node = a1 at *
 generalize m.ptx.boot = a2 at *
 generalize m.ptx.n = a3 at *
 go_enter Tryz.func33, Tryz.ntmps33
 go_wp2_with (with_reducible refine sL 29 ?_)
 rw [← HWA.out]
 refine go_on (wpList_load_mid rfl 29 _ rfl w.heap.size 6 rfl _ _ hMP Tryz.underlying29 rfl (by kernel_rfl) ?_)
 go_wp2_with (with_reducible first | refine sL 25 ?_ | refine sL 29 ?_ | refine sA 29 ?_ | refine sS 29 ?_)
 refine go_on (wpList_alloc_ rfl rfl part_info ?_)
 go_wp2_with (with_reducible first | refine sL 25 ?_ | refine sL 29 ?_ | refine sA 29 ?_ | refine sS 29 ?_)
 refine go_on (wpList_store_last (c' := #[.int .i64 a1, .int .i64 a2, .int .i64 a3, .slice Ap m.peers.length cp, .slice Ad m.deeds.length cd, .slice Ae m.epochs.length ce]) rfl rfl rfl rfl (by kernel_rfl) rfl (by simp [Value.oneCell']) ?_)
 intro wb hrowP hxb _
 have hx := hxa.trans hxb
 obtain ⟨-, -, -, C3, C4, C5, -⟩ := row6_at hrowP
 have HPT : wb.rangeAt wa.heap.size 0 [.int .i64 a1, .int .i64 a2, .int .i64 a3] := World.rangeAt_of_block hrowP 0 3
 clear hMP hrowP
 go_wp2_with (with_reducible refine sL 25 ?_)
 refine go_on (wpList_load_mid rfl 25 _ rfl wa.heap.size 0 rfl _ _ HPT Tryz.underlying25 rfl (by kernel_rfl) ?_)
 clear HPT
 go_wp2
 all_goals
  go_ret
  refine ⟨?_, hx⟩
  rw [HB.out]
  first
  | (simp [tx0, *]; done)
  | exact congrArg (fun b => Ending.returned (.bool b)) (by simp [tx0, *])
end Go.Proofs.YthlppbbejdeeoaaGreatDoor
namespace Go.Proofs.YthlppbbejdeeoaaGreatDoor
open Go.RowKit
theorem Lay.al {w0 w w1 w2 : World} {l : By} {b : Value} (h : Lay w0 w l w1 b) (hx : Ext w1 w2) : Lay w0 w l w2 b := ⟨h.o.ext hx, h.x.trans hx, fun ts ht => (h.s ts ht).trans (.of_ext hx)⟩
theorem Lay.app {w0 w w1 w2 : World} {l m : By} {b c : Value} (h : Lay w0 w l w1 b) (ho : Own w2 w0.heap.size c m) (hg : w1.grownBy w2 b.ownBlock) : Lay w0 w m w2 c :=
 ⟨ho, h.x.own h.o (Nat.le_refl _) hg, fun ts ht => (h.s ts ht).own h.o hg ht⟩
theorem ext_grown {w w1 : World} (h : Ext w w1) (row : Option Nat) : w.grownBy w1 row := ⟨h.os, h.tape, h.output, h.size, fun k hk _ => h.block k hk⟩
structure LayG (w0 w : World) (b0 : Value) (l : By) (w' : World) (b : Value) : Prop where
 l : Lay w0 w l w' b
 g : w.grownBy w' b0.ownBlock
 h : b.ownBlock = b0.ownBlock ∨ ∃ k, b.ownBlock = some k ∧ w.heap.size ≤ k
theorem LayG.refl {w0 w : World} {b : Value} {l : By} (h : Lay w0 w l w b) : LayG w0 w b l w b := ⟨h, World.grownBy.refl w _, .inl rfl⟩
theorem LayG.start {w0 w : World} {b : Value} {l : By} (ho : Own w w0.heap.size b l) (hx : Ext w0 w) : LayG w0 w b l w b := .refl ⟨ho, hx, fun ts _ => .refl ts w⟩
theorem LayG.trans {w0 w w1 w2 : World} {l m : By} {b0 b c : Value} (h : LayG w0 w b0 l w1 b) (k : LayG w0 w1 b m w2 c) : LayG w0 w b0 m w2 c :=
 ⟨h.l.trans k.l, grown_step h.g k.g h.h, by
  rcases k.h with k1 | ⟨j, k1, k2⟩
  ·rw [k1]; exact h.h
  ·exact .inr ⟨j, k1, Nat.le_trans h.g.size k2⟩⟩
theorem LayG.al {w0 w w1 w2 : World} {l : By} {b0 b : Value} (h : LayG w0 w b0 l w1 b) (hx : Ext w1 w2) : LayG w0 w b0 l w2 b :=
 ⟨h.l.al hx, grown_step h.g (ext_grown hx b0.ownBlock) (.inl rfl), h.h⟩
theorem LayG.drew {w0 w w1 : World} {l : By} {b0 b : Value} (h : LayG w0 w b0 l w1 b) : LayG w0 w b0 l w1.drew b := h.al (Ext.refl _).drew
theorem LayG.app {w0 w w1 w2 : World} {l m : By} {b0 b c : Value} (h : LayG w0 w b0 l w1 b) (ho : Own w2 w0.heap.size c m) (hg : w1.grownBy w2 b.ownBlock) (hc : c.ownBlock = b.ownBlock ∨ c.ownBlock = some w1.heap.size) : LayG w0 w b0 m w2 c :=
 ⟨h.l.app ho hg, grown_step h.g hg h.h, by
  rcases hc with k1 | k1
  ·rw [k1]; exact h.h
  ·exact .inr ⟨_, k1, h.g.size⟩⟩
/-- another row of bytes stays as it is -/
theorem LayG.other {w0 w w1 : World} {l p : By} {b0 b u : Value} (h : LayG w0 w b0 l w1 b) {base : Nat} (hu : Own w base u p) (hb : ∀ k, b0.ownBlock = some k → k < base) : Own w1 base u p :=
 hu.kept h.g (by
  cases hk : b0.ownBlock with
  | none => cases hv : u.ownBlock with
   | none => exact .inl rfl
   | some j => exact .inr (by simp)
  | some k => cases hv : u.ownBlock with
   | none => exact .inl rfl
   | some j =>
    refine .inr ?_
    have h1 := hb k hk
    have h2 := (hu.lt j hv).1
    intro e
    injection e with e
    omega)
end Go.Proofs.YthlppbbejdeeoaaGreatDoor
namespace Go.Proofs.YthlppbbejdeeoaaGreatDoor
open Go.RowKit
set_option maxHeartbeats 1000000 in
theorem wnumG_any (w0 w : World) (b : Value) (l : By) (v n : Nat) (hx : Ext w0 w) (ho : Own w w0.heap.size b l) (hl : l.length + 4 ≤ 140737488355328) (hn : n ≤ 4) :
 Calls Tryz.prog 55 #[b, .int .i64 v, .int .i64 n] w fun e w' => ∃ b', e = .returned b' ∧ LayG w0 w b (l ++ beN n v) w' b' := by
 obtain ⟨ls, hls⟩ : ∃ ls, ls = l ++ beN n v := ⟨_, rfl⟩
 rw [← hls]
 have HLS := Lib.hid hls
 clear hls
 go_enter Tryz.func55, Tryz.ntmps55
 go_wp2
 go_loopw [0, 7] (fun b' k wr => ∃ (m : Nat) (l' : By), k = .int .i64 ((m : Int) - 1) ∧ m ≤ n ∧ LayG w0 w b l' wr b' ∧ l' ++ beN m v = ls) (fun _ k _ => ((intOf k) + 1).toNat)
 case atStart => exact ⟨n, l, rfl, Nat.le_refl _, .start ho hx, HLS.out.symm⟩
 case round =>
  clear ho hx
  obtain ⟨m, l', rfl, hmn, hlay, hls⟩ := hrel
  have HLEN := Lib.hid (congrArg List.length hls)
  have HLN := Lib.hid (congrArg List.length HLS.out)
  match m with
  | 0 =>
   rw [beN, List.append_nil] at hls
   subst hls
   go_wp2
   go_ret
   exact ⟨_, rfl, hlay⟩
  | m + 1 =>
   rw [beN] at hls
   have HL := Lib.hid hls
   clear hls
   have e1 : ((m + 1 : Nat) : Int) - 1 = (m : Int) := by omega
   have hsh := shr_byte v m
   have e2 : ((8 : Int) * (m : Int)).toNat = 8 * m := by omega
   have hwb := wrap_byte (v / 256 ^ m)
   have ho := hlay.l.o
   have hx := hlay.l.x
   obtain ⟨A, cap, rfl⟩ := ho.form
   rw [e1]
   go_wp2_with (at_builtin; refine unstop ?_)
   refine go_on (wpList_appB bytesTr (ho.alloc _) (Bs.new _ [UInt8.ofNat (v / 256 ^ m)] _ rfl _ _) rfl rfl rfl rfl rfl (by have := HLEN.out; have := HLN.out; simp only [List.length_append, beN_length, List.length_cons, List.length_nil] at *; omega) (by have := hx.size; simp; omega) ?_)
   intro b' w1 ho1 hg1 hc1
   have hlay1 : LayG w0 w b (l' ++ [UInt8.ofNat (v / 256 ^ m)]) w1 b' := (hlay.al ((Ext.refl _).alloc _)).app ho1 hg1 hc1
   clear hsh e1 e2 hwb hg1 hlay hx ho hc1
   go_wp2
   go_roundw
   case rel => exact ⟨m, _, rfl, by omega, hlay1, by rw [← HL.out, List.append_assoc]; rfl⟩
   case measure => simp [intOf]
theorem wnumS_any (w0 w : World) (b : Value) (l : By) (v n : Nat) (hx : Ext w0 w) (ho : Own w w0.heap.size b l) (hl : l.length + 4 ≤ 140737488355328) (hn : n ≤ 4) :
 Calls Tryz.prog 55 #[b, .int .i64 v, .int .i64 n] w fun e w' => ∃ b', e = .returned b' ∧ Lay w0 w (l ++ beN n v) w' b' :=
 (wnumG_any w0 w b l v n hx ho hl hn).mono fun _ _ ⟨b', h1, h2⟩ => ⟨b', h1, h2.l⟩
set_option maxHeartbeats 1000000 in
theorem wtextS_any (w0 w : World) (b : Value) (l p : By) (hx : Ext w0 w) (ho : Own w w0.heap.size b l) (hl : l.length + p.length + 8 ≤ 140737488355328) :
 Calls Tryz.prog 57 #[b, .string (st p)] w fun e w' => ∃ b', e = .returned b' ∧ Lay w0 w (l ++ shortB p) w' b' := by
 have HN := wnumS_any w0 w b l p.length 1 hx ho (by omega) (by omega)
 obtain ⟨s, hs⟩ : ∃ s, s = st p := ⟨_, rfl⟩
 have hz : s.size = p.length := by rw [hs, st_size]
 rw [← hs]
 have HS := Lib.hid hs
 clear hs
 go_enter Tryz.func57, Tryz.ntmps57
 go_wp2_with fail
 refine HN.mono ?_
 rintro e w1 ⟨b1, rfl, hlay⟩
 go_wp2_with (at_builtin; refine unstop ?_)
 refine go_on (wpList_appS hlay.o rfl rfl rfl (congrArg Value.string HS.out) (by simp; omega) hlay.x.size ?_)
 intro b2 w2 ho2 hg2
 have hlay2 : Lay w0 w (l ++ shortB p) w2 b2 := ⟨by simpa [shortB] using ho2, hlay.x.own hlay.o (Nat.le_refl _) hg2, fun ts ht => (hlay.s ts ht).own hlay.o hg2 ht⟩
 clear hg2 ho2 ho HN hlay
 go_wp2
 go_ret
 exact ⟨_, rfl, hlay2⟩
end Go.Proofs.YthlppbbejdeeoaaGreatDoor
namespace Go.Proofs.YthlppbbejdeeoaaGreatDoor
open Go.RowKit
theorem wtake_len {α : Type} {ls : List α} {k : Nat} (hk : k < ls.length) : ls.take (k + 1) = ls.take k ++ [ls[k]] := by rw [List.take_add_one, List.getElem?_eq_getElem hk]; rfl
set_option maxHeartbeats 1000000 in
theorem wlistG_any (w0 w : World) (b : Value) (l : By) (vs : List Int) (A : Option Addr) (c n : Nat) (hx : Ext w0 w) (ho : Own w w0.heap.size b l) (hv : Sl w0 A (doV vs)) (hpos : ∀ v ∈ vs, 0 ≤ v) (hl : l.length ≤ 1000000) (hn : n ≤ 4) (hvl : vs.length ≤ 1000000) :
 Calls Tryz.prog 56 #[b, .slice A vs.length c, .int .i64 n] w fun e w' => ∃ b', e = .returned b' ∧ LayG w0 w b (l ++ listB n vs) w' b' := by
 have H1 := wnumG_any w0 w b l vs.length 1 hx ho (by omega) (by omega)
 have hN := fun (W : World) (b : Value) (l : By) (v : Nat) (hL : Lay w0 w l W b) (h1 : l.length ≤ 9000000) => wnumG_any w0 W b l v n hL.x hL.o (by omega) hn
 go_enter Tryz.func56, Tryz.ntmps56
 go_wp2_with fail
 refine H1.mono ?_
 rintro e w1 ⟨b1, rfl, hlay1⟩
 clear H1 ho
 go_wp2
 go_loopw [0, 15] (fun b' iv wr => ∃ k : Nat, iv = .int .i64 k ∧ k ≤ vs.length ∧ LayG w0 w b (l ++ beN 1 vs.length ++ (vs.take k).flatMap fun v => beN n v.toNat) wr b') (fun _ iv _ => vs.length - (intOf iv).toNat)
 case atStart => exact ⟨0, rfl, by omega, by simpa using hlay1⟩
 case round =>
  clear hlay1
  obtain ⟨k, rfl, hk, hlay⟩ := hrel
  by_cases hlt : k < vs.length
  ·obtain ⟨ad, rfl, hc⟩ := Sl.now (hv.ext hlay.l.x) (doV_get hlt)
   have hlt2 : (k : Int) < vs.length := by omega
   have HT := Lib.hid (wtake_len hlt)
   have hp0 := hpos _ (List.getElem_mem hlt)
   have hlen : (l ++ beN 1 vs.length ++ (vs.take k).flatMap fun v => beN n v.toNat).length ≤ 9000000 := by
    have h9 : ∀ (us : List Int), (us.flatMap fun v => beN n v.toNat).length = us.length * n := fun us => by
     induction us with
     | nil => simp
     | cons u us ih => rw [List.flatMap_cons, List.length_append, ih, beN_length, List.length_cons, Nat.succ_mul]; omega
    rw [List.length_append, List.length_append, h9, List.length_take, beN_length]
    have : min k vs.length * n ≤ 1000000 * 4 := Nat.mul_le_mul (by omega) hn
    omega
   generalize vs[k] = x at *
   obtain ⟨x, rfl⟩ : ∃ m : Nat, x = (m : Int) := ⟨x.toNat, by omega⟩
   have HL := Lib.hid hlay
   have HX := hN _ _ _ x hlay.l hlen
   clear hlay hlen hp0
   go_wp2_with fail
   refine HX.mono ?_
   rintro e w2 ⟨b2, rfl, hlay2⟩
   have hlay3 := HL.out.trans hlay2
   clear hlay2 HX HL
   go_wp2
   go_roundw
   case rel => exact ⟨k + 1, by go_num, by omega, by rw [HT.out, List.flatMap_append, ← List.append_assoc]; simpa using hlay3⟩
   case measure => simp [intOf]; omega
  ·have hlt2 : ¬ (k : Int) < vs.length := by omega
   obtain rfl : k = vs.length := by omega
   rw [List.take_length] at hlay
   rw [List.append_assoc] at hlay
   have HL := Lib.hid hlay
   clear hlay
   go_wp2
   go_ret
   exact ⟨_, rfl, HL.out⟩
theorem wlist_any (w0 w : World) (b : Value) (l : By) (vs : List Int) (A : Option Addr) (c n : Nat) (hx : Ext w0 w) (ho : Own w w0.heap.size b l) (hv : Sl w0 A (doV vs)) (hpos : ∀ v ∈ vs, 0 ≤ v) (hl : l.length ≤ 1000000) (hn : n ≤ 4) (hvl : vs.length ≤ 1000000) :
 Calls Tryz.prog 56 #[b, .slice A vs.length c, .int .i64 n] w fun e w' => ∃ b', e = .returned b' ∧ Lay w0 w (l ++ listB n vs) w' b' :=
 (wlistG_any w0 w b l vs A c n hx ho hv hpos hl hn hvl).mono fun _ _ ⟨b', h1, h2⟩ => ⟨b', h1, h2.l⟩
end Go.Proofs.YthlppbbejdeeoaaGreatDoor
