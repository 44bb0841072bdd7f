/- The walks of coord.New, Boot, lives, remove and of tx.put. Conditions: the hypotheses of each theorem. -/
import Derived.Test.YtijopcdjlpafdaaCo5
import Derived.Test.YtijopcdjlpafdaaStep
namespace Go.Proofs.Ytijopcdjlpafdaa
open Go.RowKit
/-- the node's list is laid anew -/
theorem co_store {M : List Nat} {w w2 : World} {p base n' c' : Nat} {a b c : Int} {old : Value} {A' : Option Addr} {us' : List Tr} (hr : w2.heap[p]? = some (.cells #[.int .i64 a, .int .i64 b, .int .i64 c, old] 72 (0, 0))) (hp : p ∈ M) (hM : ∀ k ∈ M, k < w.heap.size) (hk : Kept [p] w w2)
    (hb : w.heap.size ≤ base) (ho : OwnR RTr 13 85 M w w2 base (.slice A' n' c') us') :
    Co M (w2.setCell ⟨p, 3, none⟩ (.slice A' n' c')) p ⟨a, b, c, us'⟩ ∧ Kept [p] w (w2.setCell ⟨p, 3, none⟩ (.slice A' n' c')) := by
  have h1 : ∀ k ∈ [p], k ∈ M := by intro k hk; simp at hk; subst hk; exact hp
  have h2 : Kept [p] w2 (w2.setCell ⟨p, 3, none⟩ (.slice A' n' c')) := (Kept.refl _ _).setCell (.inl (by simp)) _
  have hn := ho.cap.1
  subst hn
  refine ⟨⟨A', c', ?_, ((ho.rsm (hk.mono h1) fun k hk => Nat.lt_of_lt_of_le (hM k hk) hb).kept (h2.mono h1))⟩, hk.trans h2⟩
  have := heap_setCell_same w2 p 3 _ _ (.slice A' us'.length c') hr
  simpa using this
theorem CNew_any (n : Int) (w : World) (h0 : 0 ≤ n) (h1 : n ≤ 255) :
    Calls Try.prog 7 #[.int .i64 n] w fun e w' => e = .returned (.tuple #[pt w.heap.size, .int .i64 0]) ∧ Ext w w' ∧ w.heap.size < w'.heap.size ∧ ∀ M, Co M w' w.heap.size ⟨n, 0, 1, []⟩ := by
  have h0' : ¬ n < 0 := by omega
  have h1' : ¬ 255 < n := by omega
  clear h0 h1
  go_enter Try.func7, Try.ntmps7
  go_wp2
  go_ret2
  exact ⟨rfl, (Ext.refl _).alloc _, by simp, fun M => ⟨none, 0, heap_alloc_new w _, RsM.nil _ _ _ _ _⟩⟩
theorem CBoot_any {M : List Nat} {w : World} {p : Nat} {s : Cs} (h : Co M w p s) (hs : s.Ok) :
    Calls Try.prog 9 #[pt p] w fun e w' => ∃ v, e = .returned (.tuple #[v, .int .i64 (bootO s).2]) ∧ Own w' w.heap.size v (bootO s).1 ∧ Ext w w' := by
  obtain ⟨A, cap, h⟩ := h
  obtain ⟨c0, c1, c2, c3, cf⟩ := rows4 h.row
  have hb := hs.boot1
  clear h c0 c2 c3 cf
  have hx0 := Ext.refl w
  by_cases h1 : s.boot = 2147483647
  · have HV : Hid (bootO s = ([], 8)) := Lib.hid (by unfold bootO; rw [if_pos h1])
    rw [h1] at c1
    clear hb h1
    unfold pt
    go_enter Try.func9, Try.ntmps9
    go_wp2
    go_ret2
    rw [HV.out]
    exact ⟨_, rfl, Own.nil _ _, Ext.refl _⟩
  · have HV : Hid (bootO s = (1 :: be4 (s.boot + 1), 0)) := Lib.hid (by unfold bootO; rw [if_neg h1])
    have hb2 := hs.boot2
    have hne : (s.boot == 2147483647) = false := by simpa using h1
    have hw : IntKind.i64.wrap (s.boot + 1) = s.boot + 1 := by
      obtain ⟨k, hk⟩ := Int.eq_ofNat_of_zero_le hb
      rw [hk]
      exact wrap64_nat (k + 1) (by omega)
    have hN := fun W (b : Value) (l : By) (ho : Own W w.heap.size b l) (hx : Ext w W) (hl : l.length ≤ 1000) => num_i w W b l (s.boot + 1) 4 (by omega) hx ho (by omega) (by omega)
    clear h1
    unfold pt
    go_enter Try.func9, Try.ntmps9
    go_wp2_with fail
    have hx1 : Ext w (w.alloc (.cells #[.int .u8 1] 5)) := (Ext.refl w).alloc _
    have ho1 : Own (w.alloc (.cells #[.int .u8 1] 5)) w.heap.size (.slice (some ⟨w.heap.size, 0, none⟩) 1 1) [1] := Own.new w w.heap.size _ [1] 1 rfl rfl (Nat.le_refl _) (by simp [maxLen])
    refine (hN _ _ _ ho1 hx1 (by simp)).mono ?_
    rintro e w2 ⟨b2, rfl, ho2, hx2⟩
    have HO := Lib.hid ho2
    have HX := Lib.hid hx2
    clear hN ho1 ho2 hx1 hx2
    go_wp2
    go_ret2
    rw [HV.out]
    exact ⟨_, rfl, HO.out, HX.out⟩
set_option maxHeartbeats 1000000 in
theorem cremove_any {M : List Nat} {w : World} {p : Nat} {s : Cs} (h : Co M w p s) (hp : p ∈ M) (hM : ∀ k ∈ M, k < w.heap.size) (i : Nat) (hi : i < s.under.length) (hn : s.under.length ≤ 1000) :
    Calls Try.prog 32 #[pt p, .int .i64 i] w fun e w' => e = .returned (.tuple #[]) ∧ Co M w' p { s with under := s.under.eraseIdx i } ∧ Kept [p] w w' := by
  obtain ⟨A, cap, h⟩ := h
  obtain ⟨c0, c1, c2, c3, cf⟩ := rows4 h.row
  have HROW := Lib.hid h.row
  have HC := tclone_any A cap s.under M w w h.rs (Ext.refl _) (by omega)
  have hx0 := Ext.refl w
  clear h c0 c1 c2
  unfold pt
  go_enter Try.func32, Try.ntmps32
  go_wp2_with fail
  refine HC.mono ?_
  rintro e w1 ⟨v1, rfl, ho1, hx1⟩
  have hwi : IntKind.i64.wrap ((i : Int) + 1) = (i : Int) + 1 := wrap64_nat (i + 1) (by omega)
  go_wp2_with fail
  refine (tdel_own s.under i w.heap.size M v1 w w1 ho1 hi).mono ?_
  rintro e w2 ⟨v2, rfl, ho2, hxx⟩
  have hx2 := hxx w hx1 (Nat.le_refl _)
  obtain ⟨A2, c2, rfl⟩ := ho2.form
  have HST := Lib.hid (co_store (hx2.obj HROW.out) hp hM (.of_ext hx2) (Nat.le_refl _) ho2)
  clear ho1 ho2 hxx HC hwi
  go_wp2
  go_end0
  exact ⟨rfl, HST.out.1, HST.out.2⟩
set_option maxHeartbeats 1000000 in
theorem clives_any {M : List Nat} {w : World} {p : Nat} {s : Cs} (h : Co M w p s) (hp : p ∈ M) (hM : ∀ k ∈ M, k < w.heap.size) (b : Int) (hn : s.under.length ≤ 1000) :
    Calls Try.prog 30 #[pt p, .int .i64 b] w fun e w' => e = .returned (.int .i64 (livesO s b).1) ∧ Co M w' p (livesO s b).2 ∧ Kept [p] w w' := by
  have HCO := Lib.hid h
  obtain ⟨A, cap, h⟩ := h
  obtain ⟨c0, c1, c2, c3, cf⟩ := rows4 h.row
  have hx0 := Ext.refl w
  by_cases h1 : b ≤ s.boot
  · have HV : Hid (livesO s b = (13, s)) := Lib.hid (by unfold livesO; rw [if_pos h1])
    clear h c0 c2 c3 cf
    unfold pt
    go_enter Try.func30, Try.ntmps30
    go_wp2
    go_ret
    rw [HV.out]
    exact ⟨rfl, HCO.out, Kept.refl _ _⟩
  · have HV : Hid (livesO s b = (0, { s with boot := b, next := 1, under := s.under.filter (·.done) })) := Lib.hid (by unfold livesO; rw [if_neg h1])
    have hset : ((w.setCell ⟨p, 1, none⟩ (.int .i64 b)).setCell ⟨p, 2, none⟩ (.int .i64 1)).heap[p]? = some (.cells #[.int .i64 s.node, .int .i64 b, .int .i64 1, .slice A s.under.length cap] 72 (0, 0)) := by
      have e1 := heap_setCell_same w p 1 _ _ (.int .i64 b) h.row
      have e2 := heap_setCell_same _ p 2 _ _ (.int .i64 1) e1
      simpa using e2
    have hk : Kept [p] w ((w.setCell ⟨p, 1, none⟩ (.int .i64 b)).setCell ⟨p, 2, none⟩ (.int .i64 1)) := ((Kept.refl _ _).setCell (.inl (by simp)) _).setCell (.inl (by simp)) _
    have h1p : ∀ k ∈ [p], k ∈ M := by intro k hk; simp at hk; subst hk; exact hp
    have HRS := Lib.hid (h.rs.kept (hk.mono h1p))
    have HSET := Lib.hid hset
    have HK := Lib.hid hk
    have HM : Hid (∀ k ∈ M, k < ((w.setCell ⟨p, 1, none⟩ (.int .i64 b)).setCell ⟨p, 2, none⟩ (.int .i64 1)).heap.size) := Lib.hid (by simpa using hM)
    have d1 := c1 w hx0
    have d2 := c2 w hx0
    have d3 := c3 w hx0
    have df := fun j => cf w j hx0
    clear h hset hk c0 c1 c2 c3 cf
    unfold pt
    go_enter Try.func30, Try.ntmps30
    go_wp2_with fail
    generalize (w.setCell ⟨p, 1, none⟩ (.int .i64 b)).setCell ⟨p, 2, none⟩ (.int .i64 1) = w1 at *
    clear d1 d2 d3 df hx0 h1
    refine (tclone_any A cap s.under M w1 w1 HRS.out (Ext.refl _) (by omega)).mono ?_
    rintro e w2 ⟨v2, rfl, ho2, hx2⟩
    go_wp2_with fail
    refine (tdelf_any 53 #[] enters_lives (fun t => !t.done) M w1.heap.size v2 s.under w1 w2 ho2 hx2 (Nat.le_refl _) HM.out (lives_tells M w1) hn).mono ?_
    rintro e w3 ⟨v3, rfl, ho3, hx3⟩
    obtain ⟨A3, c3, rfl⟩ := ho3.form
    have hflt : (s.under.filter fun t => !(!t.done)) = s.under.filter (·.done) := by simp
    rw [hflt] at ho3 ⊢
    have HST := Lib.hid (co_store (hx3.obj HSET.out) hp HM.out (.of_ext hx3) (Nat.le_refl _) ho3)
    clear hflt
    obtain ⟨r0, r1, r2, r3, rf⟩ := row4_at (hx3.obj HSET.out)
    clear ho2 hx2 ho3 hx3 r0 r1 r2
    go_wp2
    go_ret
    rw [HV.out]
    exact ⟨rfl, HST.out.1, HK.out.trans HST.out.2⟩
end Go.Proofs.Ytijopcdjlpafdaa
