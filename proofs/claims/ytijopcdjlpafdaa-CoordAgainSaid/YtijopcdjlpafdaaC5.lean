/- The walk of the reference's set; rows laid behind rows. Conditions: the hypotheses of each theorem. The walks of the reference's Num, PutDone, New and Boot. Conditions: the hypotheses of each theorem. -/
import Derived.Test.YtijopcdjlpafdaaRCo0M
import Derived.Test.YtijopcdjlpafdaaC2
namespace Go.Proofs.Ytijopcdjlpafdaa
open Go.RowKit
section
variable {M : List Nat} {w w' : World} {A : Option Addr} {xs : List Value}
theorem SlM.take (h : SlM M w A xs) (k : Nat) : SlM M w A (xs.take k) := by
 intro j v hj
 rw [List.getElem?_take] at hj
 split at hj
 ·exact h j v hj
 ·cases hj
theorem SlM.add (h : SlM M w A xs) (k : Nat) : SlM M w (A.map (·.add k)) (xs.drop k) := by
 intro j v hj
 rw [List.getElem?_drop] at hj
 obtain ⟨ad, rfl, hn, hc⟩ := h _ v hj
 exact ⟨ad.add k, rfl, by rw [addr_add_block]; exact hn, by rw [add_addB]; exact hc⟩
end
section
variable {α : Type} {R : Reading α} {s e : Nat} {M : List Nat} {w : World} {A : Option Addr} {xs : List α}
theorem RsM.take (h : RsM R s M w A xs) (k : Nat) : RsM R s M w A (xs.take k) := by
 obtain ⟨css, h1, h2, h3, h4⟩ := h
 refine ⟨css.take k, by simp [h1], fun cs hc => h2 cs (List.mem_of_mem_take hc), ?_, fun j cs x hj hx => ?_⟩
 ·rw [← flatten_take h2]
  exact h3.take _
 ·rw [List.getElem?_take] at hj hx
  split at hj
  ·rename_i hlt
   rw [if_pos hlt] at hx
   exact h4 j cs x hj hx
  ·cases hj
theorem RsM.drop (h : RsM R s M w A xs) (k : Nat) : RsM R s M w (A.map (·.add (k * s))) (xs.drop k) := by
 obtain ⟨css, h1, h2, h3, h4⟩ := h
 refine ⟨css.drop k, by simp [h1], fun cs hc => h2 cs (List.mem_of_mem_drop hc), ?_, fun j cs x hj hx => ?_⟩
 ·rw [← flatten_drop h2]
  exact h3.add _
 ·rw [List.getElem?_drop] at hj hx
  exact h4 _ cs x hj hx
theorem RsM.at0 {A' : Option Addr} (h : RsM R s M w A xs) (hA : A' = A ∨ A' = A.map (·.add 0)) : RsM R s M w A' xs := by
 rcases hA with rfl | rfl
 ·exact h
 ·have := h.drop 0
  simpa using this
theorem cutR_h {P : Program} {t : Nat} (ht : P.underlying t = some (.slice e)) (hz : ∀ w, (Go.sizeOf e).run P w = .ok s w) (A : Option Addr) (n cap h : Nat) (hn : n ≤ cap) (hh : h ≤ n) :
 ∃ A', (∀ W, (Instr.slice t (.slice A n cap) none (some (.int .i64 (h : Int))) none).run P W = .ok (.slice A' h cap) W) ∧
  (∀ w M (xs : List α), xs.length = n → RsM R s M w A xs → RsM R s M w A' (xs.take h)) := by
 refine ⟨if cap = 0 then A else A.map (·.add 0), fun W => ?_, fun w M xs hx hs => (hs.take h).at0 (by split; exact .inl rfl; exact .inr rfl)⟩
 have ht' : P.underlying t = some (.slice (P.elem t)) := by simp [Program.elem, ht]
 have he : P.elem t = e := by simp [Program.elem, ht]
 rw [run_slice_h W t _ _ _ ht' .i64 _ (by omega) (by omega), he, hz]
 simp [Result.andThen, sliced]
theorem cutR_l {P : Program} {t : Nat} (ht : P.underlying t = some (.slice e)) (hz : ∀ w, (Go.sizeOf e).run P w = .ok s w) (A : Option Addr) (n cap l : Nat) {li : Int} (eli : li = l) (hn : n ≤ cap) (hl : l ≤ n) :
 ∃ A', (∀ W, (Instr.slice t (.slice A n cap) (some (.int .i64 li)) none none).run P W = .ok (.slice A' (n - l) (cap - l)) W) ∧
  (∀ w M (xs : List α), xs.length = n → RsM R s M w A xs → RsM R s M w A' (xs.drop l)) := by
 subst eli
 refine ⟨if cap = l then A else A.map (·.add (l * s)), fun W => ?_, fun w M xs hx hs => ?_⟩
 ·have ht' : P.underlying t = some (.slice (P.elem t)) := by simp [Program.elem, ht]
  have he : P.elem t = e := by simp [Program.elem, ht]
  rw [run_slice_l W t _ _ _ ht' .i64 _ (by omega) (by omega), he, hz]
  simp [Result.andThen, sliced]
 ·by_cases hc : cap = l
  ·have : xs.drop l = [] := List.drop_of_length_le (by omega)
   rw [this]; exact RsM.nil _ _ _ _ _
  ·rw [if_neg hc]
   exact hs.drop l
/-- rows laid behind rows -/
theorem OwnR.app {wr w' : World} {base : Nat} {v' : Value} {ys : List α} {css ds : List (List Value)} (h1 : css.length = xs.length) (h2 : ∀ cs ∈ css, cs.length = s)
 (h4 : ∀ (k : Nat) (cs : List Value) (x : α), css[k]? = some cs → xs[k]? = some x → R.says M wr cs x) (k1 : ds.length = ys.length) (k2 : ∀ cs ∈ ds, cs.length = s)
 (k4 : ∀ (k : Nat) (cs : List Value) (x : α), ds[k]? = some cs → ys[k]? = some x → R.says M wr cs x) (h3 : w'.ownsRow base e s v' (xs.length + ys.length) (css.flatten ++ ds.flatten)) : OwnR R s e M wr w' base v' (xs ++ ys) := by
 refine ⟨css ++ ds, by simp [h1, k1], ?_, by simpa using h3, ?_⟩
 ·intro d hd
  rcases List.mem_append.1 hd with h | h
  ·exact h2 d h
  ·exact k2 d h
 ·intro k d z hk hz
  rw [List.getElem?_append] at hk hz
  by_cases hlt : k < css.length
  ·rw [if_pos hlt] at hk
   rw [if_pos (by omega)] at hz
   exact h4 k d z hk hz
  ·rw [if_neg hlt] at hk
   rw [if_neg (by omega)] at hz
   rw [h1] at hk
   exact k4 _ d z hk hz
end
theorem rc_storeR {M : List Nat} {w w2 wr : World} {q base n' c' : Nat} {a b c : Int} {old : Value} {A' : Option Addr} {us' : List Tr} (hr : w2.heap[q]? = some (.cells #[.int .i64 a, .int .i64 b, .int .i64 c, old] 93 (0, 0))) (hp : q ∈ M) (hM : ∀ k ∈ M, k < base) (hk : Kept [q] w w2) (hkr : Kept M wr w2)
 (ho : OwnR RRr 7 98 M wr w2 base (.slice A' n' c') us') :
 Rc M (w2.setCell ⟨q, 3, none⟩ (.slice A' n' c')) q ⟨a, b, c, us'⟩ ∧ Kept [q] w (w2.setCell ⟨q, 3, none⟩ (.slice A' n' c')) := by
 have h1 : ∀ k ∈ [q], k ∈ M := by intro k hk; simp at hk; subst hk; exact hp
 have h2 : Kept [q] w2 (w2.setCell ⟨q, 3, none⟩ (.slice A' n' c')) := (Kept.refl _ _).setCell (.inl (by simp)) _
 obtain ⟨hn, hcap, _⟩ := ho.cap
 subst hn
 refine ⟨⟨A', c', ?_, ((ho.rsm hkr hM).kept (h2.mono h1)), hcap⟩, hk.trans h2⟩
 have := heap_setCell_same w2 q 3 _ _ (.slice A' us'.length c') hr
 simpa using this
set_option maxRecDepth 20000 in
set_option maxHeartbeats 2000000 in
theorem rset_any {M : List Nat} {w : World} {q : Nat} {s : Cs} (h : Rc M w q s) (hq : q ∈ M) (hM : ∀ k ∈ M, k < w.heap.size) (i : Nat) (hi : i < s.under.length) (A2 : Option Addr) (c2 : Nat) (ys : List Tr) (h2 : RsM RRr 7 M w A2 ys) (hn : s.under.length ≤ 1000) (hy : ys.length ≤ 1000) :
 Calls Try.prog 65 #[pt q, .int .i64 i, .slice A2 ys.length c2] w fun e w' => e = .returned (.tuple #[]) ∧ Rc M w' q { s with under := s.under.take i ++ ys ++ s.under.drop (i + 1) } ∧ Kept [q] w w' := by
 obtain ⟨A, cap, h⟩ := h
 obtain ⟨c0, c1, c2', c3, cf⟩ := rows4 h.row
 have hcap := h.cap
 obtain ⟨Ah, eh, fh⟩ := cutR_h (R := RRr) (P := Try.prog) Try.underlying91 sizeRr A s.under.length cap i hcap (by omega)
 obtain ⟨Al, el, fl⟩ := cutR_l (R := RRr) (P := Try.prog) Try.underlying91 sizeRr A s.under.length cap (i + 1) (li := (i : Int) + 1) (by omega) hcap (by omega)
 have hwi : IntKind.i64.wrap ((i : Int) + 1) = (i : Int) + 1 := wrap64_nat (i + 1) (by omega)
 have HT := Lib.hid (fh w M _ rfl h.rs)
 have HD := Lib.hid (fl w M _ rfl h.rs)
 have HY := Lib.hid h2
 have HROW := Lib.hid h.row
 have HM := Lib.hid hM
 have HTL : Hid ((s.under.take i).length = i) := Lib.hid (by rw [List.length_take]; omega)
 have HDL : Hid ((s.under.drop (i + 1)).length = s.under.length - (i + 1)) := Lib.hid (by rw [List.length_drop])
 have hx0 := Ext.refl w
 clear h c0 c1 c2' fh fl h2 hM
 unfold pt
 obtain ⟨ca, p1, p2, p3, p4⟩ := HT.out
 obtain ⟨cb, r1, r2, r3, r4⟩ := HY.out
 obtain ⟨cd, t1, t2, t3, t4⟩ := HD.out
 have HP4 := Lib.hid p4
 have HR4 := Lib.hid r4
 have HT4 := Lib.hid t4
 have hp3 := p3.sl
 have hr3 := r3.sl
 have ht3 := t3.sl
 have hf1 := flatten_length p2
 have hf2 := flatten_length r2
 have hf3 := flatten_length t2
 have HF1 : Hid (ca.flatten.length = i * 7) := Lib.hid (by rw [hf1, p1, HTL.out])
 have HF2 : Hid (cb.flatten.length = ys.length * 7) := Lib.hid (by rw [hf2, r1])
 have HF3 : Hid (cd.flatten.length = (s.under.length - (i + 1)) * 7) := Lib.hid (by rw [hf3, t1, HDL.out])
 have HO1 := Lib.hid (RRr.one p1 p4)
 have HO2 := Lib.hid (RRr.one r1 r4)
 have HO3 := Lib.hid (RRr.one t1 t4)
 have HP1 := Lib.hid p1
 have HR1 := Lib.hid r1
 have HT1 := Lib.hid t1
 have HP2 := Lib.hid p2
 have HR2 := Lib.hid r2
 have HT2 := Lib.hid t2
 have HP3 := Lib.hid hp3
 have HR3 := Lib.hid hr3
 have HT3 := Lib.hid ht3
 clear p1 p2 p3 p4 r1 r2 r3 r4 t1 t2 t3 t4 hf1 hf2 hf3 hp3 hr3 ht3 HT HY HD
 go_enter Try.func65, Try.ntmps65
 go_wp2_with (at_builtin; refine unstop ?_)
 refine go_on (wpList_app rrT (xs := []) (World.ownsRow_made w #[] 0 (Nat.le_refl _) (by simp [maxLen]) rfl) (HP3.out.ext ((Ext.refl _).alloc _)) rfl rfl rfl rfl HF1.out HO1.out (by omega) (by omega) (by simp) ?_)
 intro v1 w1 ho1 hg1 _
 have hx1 : Ext w w1 := ((Ext.refl _).alloc _).grown hg1 (by intro k hk; simp [Value.ownBlock] at hk; omega)
 rw [Nat.zero_add] at ho1
 obtain ⟨Av1, cv1, rfl⟩ := own_form ho1
 have HG1 := Lib.hid ho1
 have HX1 := Lib.hid hx1
 clear ho1 hg1 hx1
 go_wp2_with (at_builtin; refine unstop ?_)
 refine go_on (wpList_app rrT HG1.out (HR3.out.ext HX1.out) rfl rfl rfl rfl HF2.out HO2.out (by omega) (by omega) HX1.out.size ?_)
 intro v2 w2 ho2 hg2 _
 have hx2 : Ext w w2 := HX1.out.own HG1.out (Nat.le_refl _) hg2
 obtain ⟨Av2, cv2, rfl⟩ := own_form ho2
 have HG2 := Lib.hid ho2
 have HX2 := Lib.hid hx2
 have c32 := c3 w2 hx2
 clear ho2 hg2 hx2
 go_wp2_with (at_builtin; refine unstop ?_)
 refine go_on (wpList_app rrT HG2.out (HT3.out.ext HX2.out) rfl rfl rfl rfl HF3.out HO3.out (by omega) (by omega) HX2.out.size ?_)
 intro v3 w3 ho3 hg3 _
 have hx3 : Ext w w3 := HX2.out.own HG2.out (Nat.le_refl _) hg3
 obtain ⟨Av3, cv3, rfl⟩ := own_form ho3
 have c33 := c3 w3 hx3
 have cf3 := fun j => cf w3 j hx3
 have HN : OwnR RRr 7 98 M w w3 w.heap.size (.slice Av3 (i + ys.length + (s.under.length - (i + 1))) cv3) (s.under.take i ++ ys ++ s.under.drop (i + 1)) := by
  have h12 : (ca ++ cb).length = (s.under.take i ++ ys).length := by simp only [List.length_append, HP1.out, HR1.out]
  refine OwnR.app (css := ca ++ cb) (ds := cd) h12 (fun cs hc => ?_) (fun k cs x hk hx => ?_) HT1.out HT2.out HT4.out ?_
  ·rcases List.mem_append.1 hc with h | h
   ·exact HP2.out cs h
   ·exact HR2.out cs h
  ·rw [List.getElem?_append] at hk hx
   rw [HP1.out] at hk
   split at hk
   ·rename_i hlt
    rw [if_pos hlt] at hx
    exact HP4.out k cs x hk hx
   ·rename_i hlt
    rw [if_neg hlt] at hx
    exact HR4.out _ cs x hk hx
  ·rw [List.flatten_append, List.length_append, HTL.out, HDL.out]
   simpa using ho3
 have HST := Lib.hid (rc_storeR (hx3.obj HROW.out) hq (fun k hk => HM.out k hk) (.of_ext hx3) (.of_ext hx3) HN)
 clear HN ho3 hg3 hx3 c32 c3 cf
 go_wp2
 exact bodyPost_end (results_none rfl _ _ _) rfl ⟨rfl, HST.out.1, HST.out.2⟩
end Go.Proofs.Ytijopcdjlpafdaa
namespace Go.Proofs.Ytijopcdjlpafdaa
open Go.RowKit
set_option maxRecDepth 20000 in
set_option maxHeartbeats 1000000 in
theorem RNumB_any (w0 w : World) (b : Value) (l : By) (v n : Nat) (hx : Ext w0 w) (ho : Own w w0.heap.size b l) (hl : l.length + 4 ≤ 140737488355328) (hn : n ≤ 4) (hv : v < 9223372036854775808) :
 Calls Try.prog 50 #[b, .int .i64 v, .int .i64 n] w fun e w' => ∃ b', e = .returned b' ∧ Own w' w0.heap.size b' (l ++ beN n v) ∧ Ext w0 w' := by
 have HX := Lib.hid hx
 go_enter Try.func50, Try.ntmps50
 go_wp2
 go_loopw [1, 7, 8] (fun vv xv iv wr => ∃ i : Nat, iv = .int .i64 i ∧ i ≤ n ∧ vv = .int .i64 ((v / 256 ^ i : Nat)) ∧ Own wr w.heap.size xv (beN i v) ∧ Ext w wr) (fun _ _ iv _ => n - (intOf iv).toNat)
 case atStart => exact ⟨0, rfl, by omega, by simp, Own.empty w w.heap.size (Nat.le_refl _), (Ext.refl w).alloc _⟩
 case round =>
  obtain ⟨i, rfl, hi, rfl, hox, hxr⟩ := hrel
  by_cases hlt : i < n
  ·have hlt2 : (i : Int) < (n : Int) := by omega
   obtain ⟨Ax, cx, rfl⟩ := hox.form
   rw [beN_length] at *
   have HD : Hid (v / 256 ^ i / 256 = v / 256 ^ (i + 1)) := Lib.hid (by rw [Nat.div_div_eq_div_mul, Nat.pow_succ])
   have HBE : Hid (beN (i + 1) v = UInt8.ofNat (v / 256 ^ i) :: beN i v) := Lib.hid rfl
   have hqv : v / 256 ^ i ≤ v := Nat.div_le_self _ _
   generalize v / 256 ^ i = q at *
   go_wp2_with (at_builtin; refine unstop ?_)
   have hnew : Own (wr.alloc (.cells #[.int .u8 ((q : Int) % 256)] 5)) w.heap.size (.slice (some ⟨wr.heap.size, 0, none⟩) 1 1) [UInt8.ofNat q] := Own.new wr w.heap.size _ [UInt8.ofNat q] 1 (by rw [u8_of]; rfl) rfl hxr.size (by simp [maxLen])
   refine go_on (wpList_appB bytesTr hnew (hox.bs.ext ((Ext.refl wr).alloc _)) rfl rfl rfl rfl (by rw [beN_length]) (by simp; omega) (by have := hxr.size; simp; omega) ?_)
   intro v' w1 ho1 hg1 _
   have hx1 : Ext w w1 := (hxr.alloc _).own hnew (Nat.le_refl _) hg1
   have HO : Hid (Own w1 w.heap.size v' (beN (i + 1) v)) := Lib.hid (by rw [HBE.out]; exact ho1)
   clear hnew hox hxr ho1 hg1
   go_wp2
   go_roundw
   case rel => exact ⟨i + 1, by go_num, by omega, by rw [← HD.out]; exact congrArg _ (by omega), HO.out, hx1⟩
   case measure => simp [intOf]; omega
  ·obtain rfl : i = n := by omega
   obtain ⟨Ax, cx, rfl⟩ := hox.form
   rw [beN_length] at *
   have hob : Own wr w0.heap.size b l := ho.ext hxr
   go_wp2_with (at_builtin; refine unstop ?_)
   refine go_on (wpList_appB bytesTr hob hox.bs rfl rfl rfl rfl (by rw [beN_length]) (by simp; omega) (by have := hxr.size; have := HX.out.size; omega) ?_)
   intro v' w1 ho1 hg1 _
   have hlay : Own w1 w0.heap.size v' (l ++ beN i v) ∧ Ext w0 w1 := ⟨ho1, (HX.out.trans hxr).own hob (Nat.le_refl _) hg1⟩
   clear hob ho hox hxr ho1 hg1
   go_wp2
   go_ret
   exact ⟨_, rfl, hlay⟩
theorem RNumB_i (w0 w : World) (b : Value) (l : By) (v : Int) (n : Nat) (hv : 0 ≤ v) (hv2 : v < 9223372036854775808) (hx : Ext w0 w) (ho : Own w w0.heap.size b l) (hl : l.length + 4 ≤ 140737488355328) (hn : n ≤ 4) :
 Calls Try.prog 50 #[b, .int .i64 v, .int .i64 n] w fun e w' => ∃ b', e = .returned b' ∧ Own w' w0.heap.size b' (l ++ beN n v.toNat) ∧ Ext w0 w' := by
 obtain ⟨k, rfl⟩ := Int.eq_ofNat_of_zero_le hv
 exact RNumB_any w0 w b l k n hx ho hl hn (by omega)
theorem Bs.one8 (w : World) (n : Nat) (h : n < 256) : Bs (w.alloc (.cells #[.int .u8 (n : Int)] 5)) (some ⟨w.heap.size, 0, none⟩) [UInt8.ofNat n] := by
 have e : (n : Int) = ((UInt8.ofNat n).toNat : Int) := by rw [UInt8.toNat_ofNat']; omega
 rw [e]
 exact Bs.new w [UInt8.ofNat n] _ rfl _ _
set_option maxRecDepth 20000 in
set_option maxHeartbeats 2000000 in
theorem RPutD_any (t : Tr) (A : Option Addr) (cap : Nat) (w : World) (h : Sl w A (ib t.shards)) (hl : ∀ x ∈ t.shards, 0 ≤ x ∧ x ≤ 3) (hn : t.shards.length ≤ 100) (hb : 0 ≤ t.id.boot) (hi : 0 ≤ t.id.n) (hb2 : t.id.boot < 9223372036854775808) (hi2 : t.id.n < 9223372036854775808) :
 Calls Try.prog 51 #[.agg #[.int .i64 t.id.node, .int .i64 t.id.boot, .int .i64 t.id.n], .slice A t.shards.length cap] w fun e w' => ∃ v, e = .returned v ∧ Own w' w.heap.size v (putD t) ∧ Ext w w' := by
 have HH := Lib.hid h
 have HL := Lib.hid hl
 have hN := fun w0 W (b : Value) (l : By) (v : Int) (hv : 0 ≤ v) (hv2 : v < 9223372036854775808) (hx : Ext w0 W) (ho : Own W w0.heap.size b l) (hl : l.length ≤ 2000) => RNumB_i w0 W b l v 4 hv hv2 hx ho (by omega) (by omega)
 obtain ⟨wa, hwa⟩ : ∃ wa, wa = w.alloc (.cells #[.int .i64 t.id.node, .int .i64 t.id.boot, .int .i64 t.id.n] 35) := ⟨_, rfl⟩
 have hxa : Ext w wa := by rw [hwa]; exact (Ext.refl w).alloc _
 have hrow : wa.heap[w.heap.size]? = some (.cells #[.int .i64 t.id.node, .int .i64 t.id.boot, .int .i64 t.id.n] 35 (0, 0)) := by rw [hwa]; exact heap_alloc_new w _
 obtain ⟨C0, C1, C2, CF⟩ := rows3 hrow
 have hx0 : Ext wa wa := Ext.refl _
 have hwaA := hwa.symm
 have HP : Hid (putK t 0 = [2] ++ beN 4 t.id.boot.toNat ++ beN 4 t.id.n.toNat ++ [UInt8.ofNat t.shards.length]) := Lib.hid (by unfold putK be4; simp [be1])
 have HPA := Lib.hid (putK_all t)
 clear h hl hwa hrow C0 CF
 go_enter Try.func51, Try.ntmps51
 go_wp2_with fail
 clear hwaA
 refine wp_region_phase (S := fun w' => Ext wa w') 7 (by kernel_rfl) (by kernel_rfl) ?_ (fun hHeld => ?_)
 ·exact hx0.drew
 simp only [List.drop_succ_cons, List.drop_zero]
 refine name_head ?_
 intro wr0 hw0
 rw [hw0] at hHeld
 refine wt 1 _ ?_
 simp only [red, Act.put]
 refine wt 2 _ ?_
 simp only [red, Act.put]
 refine wt 4 _ ?_
 simp only [red, Act.put]
 refine wt 5 _ ?_
 simp only [red, Act.put]
 refine rd [0] ?_
 refine ac (fun K hK => ?_) ?_
 ·go_simp
  refine name_world ?_
  rintro wrz hw0
  have hxn0 : Ext wr0 wrz := hw0 ▸ (Ext.refl _).alloc _
  have hrow0 : wrz.heap[wr0.heap.size]? = some (.cells #[.int .u8 2] 5) := hw0 ▸ heap_alloc_new wr0 _
  have ho0 : Own wrz wa.heap.size (.slice (some ⟨wr0.heap.size, 0, none⟩) 1 1) [2] := hw0 ▸ Own.new wr0 wa.heap.size _ [2] 1 rfl rfl hHeld.size (by simp [maxLen])
  refine hK.out _ _ ?_ (fun hHeld => ?_)
  ·first | assumption | exact Ext.trans (by assumption) (by assumption) | exact Ext.trans hHeld (by assumption)
  clear hK K
  try simp only [red, Act.put]
  refine rd [3] ?_
  refine ac (fun K hK => ?_) ?_
  ·refine step_callG (by rfl) (by kernel_rfl) (hN wa _ _ _ t.id.boot hb hb2 hHeld ho0 (by simp)) ?_
   rintro e wr3 ⟨c4, rfl, ho4, hx4⟩
   refine ⟨_, rfl, ?_⟩
   refine hK.out _ _ ?_ (fun hHeld => ?_)
   ·first | assumption | exact Ext.trans (by assumption) (by assumption) | exact Ext.trans hHeld (by assumption)
   clear hK K
   try simp only [red, Act.put]
   refine rd [6] ?_
   refine ac (fun K hK => ?_) ?_
   ·refine step_callG (by rfl) (by kernel_rfl) (hN wa _ _ _ t.id.n hi hi2 hHeld ho4 (by simp)) ?_
    rintro e wr6 ⟨c8, rfl, ho8, hx8⟩
    refine ⟨_, rfl, ?_⟩
    refine hK.out _ _ ?_ (fun hHeld => ?_)
    ·first | assumption | exact Ext.trans (by assumption) (by assumption) | exact Ext.trans hHeld (by assumption)
    clear hK K
    try simp only [red, Act.put]
    refine wpHead_done (by kernel_rfl) ?_
    have HO8 := Lib.hid ho8
    have HX := Lib.hid hHeld
    obtain ⟨A8, k8, rfl⟩ := ho8.form
    clear ho0 ho4 ho8 hN hHeld
    generalize wr6 = w8 at *
    go_wp2_with (at_builtin; refine unstop ?_)
    have hnb := Bs.one8 w8 t.shards.length (by omega)
    refine go_on (wpList_appB bytesTr (HO8.out.alloc _) hnb rfl rfl rfl rfl rfl (by simp) (by have := HX.out.size; simp; omega) ?_)
    intro v9 w9 ho9 hg9 _
    have hx9 : Ext wa w9 := (HX.out.alloc _).own (HO8.out.alloc _) (Nat.le_refl _) hg9
    have ho9' : Own w9 wa.heap.size v9 (putK t 0) := by rw [HP.out]; exact ho9
    clear hnb ho9 hg9
    go_wp2
    go_loopw [5, 6] (fun b i wr => ∃ k : Nat, i = .int .i64 k ∧ k ≤ t.shards.length ∧ Own wr wa.heap.size b (putK t k) ∧ Ext wa wr) (fun _ i _ => t.shards.length - (intOf i).toNat)
    case atStart => exact ⟨0, rfl, by omega, ho9', hx9⟩
    case round =>
     obtain ⟨k, rfl, hk, hok, hxk⟩ := hrel
     clear ho9' hx9 HX HO8
     by_cases hlt : k < t.shards.length
     ·have hlt2 : (k : Int) < (t.shards.length : Int) := by omega
      obtain ⟨ad, rfl, hc⟩ := HH.out.int hlt
      have hc0 := hc _ (hxa.trans hxk)
      have HS := Lib.hid (putK_step t k hlt)
      have hpl := putK_len t k
      obtain ⟨x, hxs, hx3⟩ : ∃ x : Nat, t.shards[k] = (x : Int) ∧ x < 256 := by
       have := HL.out _ (List.getElem_mem hlt)
       exact ⟨t.shards[k].toNat, by omega, by omega⟩
      rw [hxs] at hc0 HS
      have HBX : Hid (beN 1 (x : Int).toNat = [UInt8.ofNat x]) := Lib.hid (be1 x)
      have HOK := Lib.hid hok
      obtain ⟨Ak, ck, rfl⟩ := hok.form
      clear hc hxs hok
      go_wp2_with (at_builtin; refine unstop ?_)
      have hnb := Bs.one8 wr x hx3
      refine go_on (wpList_appB bytesTr (HOK.out.alloc _) hnb rfl rfl rfl rfl rfl (by simp; omega) (by have := hxk.size; simp; omega) ?_)
      intro v9 w9 ho9 hg9 _
      have hx9 : Ext wa w9 := (hxk.alloc _).own (HOK.out.alloc _) (Nat.le_refl _) hg9
      have HO3 : Hid (Own w9 wa.heap.size v9 (putK t (k + 1))) := Lib.hid (by rw [HS.out, HBX.out]; exact ho9)
      clear ho9 hg9 hnb
      go_wp2
      go_roundw
      case rel => exact ⟨k + 1, by go_num, by omega, HO3.out, hx9⟩
      case measure => simp [intOf]; omega
     ·have hlt2 : ¬ (k : Int) < (t.shards.length : Int) := by omega
      obtain rfl : k = t.shards.length := by omega
      rw [HPA.out] at hok
      have HO := Lib.hid hok
      have HXK := Lib.hid hxk
      clear hok hxk
      go_wp2
      go_ret
      exact ⟨_, rfl, HO.out.low hxa.size, hxa.trans HXK.out⟩
   exact AllHead.nil
  exact AllHead.nil
 exact AllHead.nil
theorem RNew_any (n : Int) (w : World) (h0 : 0 ≤ n) (h1 : n ≤ 255) :
 Calls Try.prog 16 #[.int .i64 n] w fun e w' => e = .returned (.tuple #[pt w.heap.size, .int .i64 0]) ∧ Ext w w' ∧ w.heap.size < w'.heap.size ∧ ∀ M, Rc M w' w.heap.size ⟨n, 0, 1, []⟩ := by
 have h0' : ¬ n < 0 := by omega
 have h1' : ¬ 255 < n := by omega
 unfold pt
 go_enter Try.func16, Try.ntmps16
 go_wp2
 go_ret2
 exact ⟨rfl, (Ext.refl _).alloc _, by simp, fun M => ⟨none, 0, heap_alloc_new w _, RsM.nil _ _ _ _ _, by simp⟩⟩
theorem RBoot_any {M : List Nat} {w : World} {q : Nat} {s : Cs} (h : Rc M w q s) (hs : s.Ok) :
 Calls Try.prog 42 #[pt q] w fun e w' => ∃ v, e = .returned (.tuple #[v, .int .i64 (bootO s).2]) ∧ Own w' w.heap.size v (bootO s).1 ∧ Ext w w' := by
 obtain ⟨A, cap, h⟩ := h
 obtain ⟨c0, c1, c2, c3, cf⟩ := rows4 h.row
 have hb := hs.boot1
 clear h c0 c2 c3 cf
 have hx0 := Ext.refl w
 by_cases h1 : s.boot = 2147483647
 ·have HV : Hid (bootO s = ([], 8)) := Lib.hid (by unfold bootO; rw [if_pos h1])
  rw [h1] at c1
  clear hb h1
  unfold pt
  go_enter Try.func42, Try.ntmps42
  go_wp2
  go_ret2
  rw [HV.out]
  exact ⟨_, rfl, Own.nil _ _, Ext.refl _⟩
 ·have HV : Hid (bootO s = (1 :: be4 (s.boot + 1), 0)) := Lib.hid (by unfold bootO; rw [if_neg h1])
  have hb2 := hs.boot2
  have hne : ¬ 2147483647 ≤ s.boot := by omega
  have hw : IntKind.i64.wrap (s.boot + 1) = s.boot + 1 := by
   obtain ⟨k, hk⟩ := Int.eq_ofNat_of_zero_le hb
   rw [hk]
   exact wrap64_nat (k + 1) (by omega)
  have hN := fun W (b : Value) (l : By) (ho : Own W w.heap.size b l) (hx : Ext w W) (hl : l.length ≤ 1000) => RNumB_i w W b l (s.boot + 1) 4 (by omega) (by omega) hx ho (by omega) (by omega)
  clear h1
  unfold pt
  go_enter Try.func42, Try.ntmps42
  go_wp2_with fail
  have hx1 : Ext w (w.alloc (.cells #[.int .u8 1] 5)) := (Ext.refl w).alloc _
  have ho1 : Own (w.alloc (.cells #[.int .u8 1] 5)) w.heap.size (.slice (some ⟨w.heap.size, 0, none⟩) 1 1) [1] := Own.new w w.heap.size _ [1] 1 rfl rfl (Nat.le_refl _) (by simp [maxLen])
  refine (hN _ _ _ ho1 hx1 (by simp)).mono ?_
  rintro e w2 ⟨b2, rfl, ho2, hx2⟩
  have HO := Lib.hid ho2
  have HX := Lib.hid hx2
  clear hN ho1 ho2 hx1 hx2
  go_wp2
  go_ret2
  rw [HV.out]
  exact ⟨_, rfl, HO.out, HX.out⟩
end Go.Proofs.Ytijopcdjlpafdaa
