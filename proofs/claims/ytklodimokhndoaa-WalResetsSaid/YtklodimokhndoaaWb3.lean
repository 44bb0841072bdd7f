/- A disk and a log in memory, and how they stand while others turn; the walk of Records. Conditions: the hypotheses of each theorem. -/
import Derived.Test.YtklodimokhndoaaWb1
import Derived.Test.YtklodimokhndoaaWb2
namespace Go.Proofs.Ytklodimokhndoaa
open Go.RowKit
/-- a disk at p and a log at q: M are their own blocks, in no block of N lies what the log reads -/
structure SysI (M N : List Nat) (w : World) (p q : Nat) (s : Dk) (g : Lg) (B : List Nat) (A : Option Addr) (c : Nat) (v : Value) (vs : List Value) : Prop where
  disk : Disk B w p s
  row : LgRow w q p g A c v
  BM : ∀ k ∈ B, k ∈ M
  qM : q ∈ M
  vM : ∀ k, v.ownBlock = some k → k ∈ M
  qB : q ∉ B
  vB : ∀ k, v.ownBlock = some k → k ∉ B
  MN : ∀ k ∈ M, k ∈ N
  lt : ∀ k ∈ N, k < w.heap.size
  sp : BsM N w A g.space
  cap : g.space.length ≤ c
  own : w.ownsRow 0 46 1 v g.recs.length vs
  els : ∀ (k : Nat) (l : By), g.recs[k]? = some l → ∃ A' c', vs[k]? = some (.slice A' l.length c') ∧ l.length ≤ c' ∧ BsM N w A' l
def Sys (M N : List Nat) (w : World) (p q : Nat) (s : Dk) (g : Lg) : Prop := ∃ B A c v vs, SysI M N w p q s g B A c v vs
section
variable {M N : List Nat} {w w' : World} {p q : Nat} {s s' : Dk} {g : Lg} {B : List Nat} {A : Option Addr} {c : Nat} {v : Value} {vs : List Value}
theorem SysI.ext (h : SysI M N w p q s g B A c v vs) (hx : Ext w w') : SysI M N w' p q s g B A c v vs :=
  ⟨h.disk.ext hx, h.row.ext hx, h.BM, h.qM, h.vM, h.qB, h.vB, h.MN, fun k hk => Nat.lt_of_lt_of_le (h.lt k hk) hx.size, h.sp.kept (.of_ext hx), h.cap, owns_ext h.own hx, fun k l hk => by
    obtain ⟨A', c', h1, h2, h3⟩ := h.els k l hk
    exact ⟨A', c', h1, h2, h3.kept (.of_ext hx)⟩⟩
theorem Sys.ext (h : Sys M N w p q s g) (hx : Ext w w') : Sys M N w' p q s g := by
  obtain ⟨B, A, c, v, vs, h⟩ := h
  exact ⟨B, A, c, v, vs, h.ext hx⟩
/-- blocks that are no part of it: more of them are told of -/
theorem SysI.old {N' : List Nat} (h : SysI M N w p q s g B A c v vs) (hs : ∀ k ∈ N', k ∈ N ∨ w.heap.size ≤ k) (hM : ∀ k ∈ M, k ∈ N') (hl : ∀ k ∈ N', k < w.heap.size) : SysI M N' w p q s g B A c v vs :=
  ⟨h.disk, h.row, h.BM, h.qM, h.vM, h.qB, h.vB, hM, hl, SlM.old h.sp hs, h.cap, h.own, fun k l hk => by
    obtain ⟨A', c', h1, h2, h3⟩ := h.els k l hk
    exact ⟨A', c', h1, h2, SlM.old h3 hs⟩⟩
/-- others turn -/
theorem SysI.other {K : List Nat} (h : SysI M N w p q s g B A c v vs) (hk : Kept K w w') (hK : ∀ k ∈ K, k ∉ M) (hKN : ∀ k ∈ K, k ∈ N) : SysI M N w' p q s g B A c v vs := by
  refine ⟨?_, h.row.kept hk (fun hq => hK q hq h.qM), h.BM, h.qM, h.vM, h.qB, h.vB, h.MN, fun k hk2 => Nat.lt_of_lt_of_le (h.lt k hk2) hk.size, h.sp.kept (hk.mono hKN), h.cap, ?_, fun k l hk2 => ?_⟩
  · obtain ⟨g0, cap0, v0, hi⟩ := h.disk
    exact ⟨g0, cap0, v0, hi.kept hk fun k hkB hm => hK k hm (h.BM k hkB)⟩
  · obtain ⟨h1, h2⟩ := h.own
    refine ⟨h1, ?_⟩
    rcases h2 with h2 | ⟨g', cap', cur, e, hb, hg, h3⟩
    · exact .inl h2
    · exact .inr ⟨g', cap', cur, e, hb, hk.heap hg (fun hm => hK g' hm (h.vM g' (by rw [e]; rfl))), h3⟩
  · obtain ⟨A', c', h1, h2, h3⟩ := h.els k l hk2
    exact ⟨A', c', h1, h2, h3.kept (hk.mono hKN)⟩
/-- the disk turns -/
theorem SysI.turn {B' : List Nat} (h : SysI M N w p q s g B A c v vs) (hd : Disk B' w' p s') (t : Turn B w B' w') : SysI (B' ++ M) (B' ++ N) w' p q s' g B' A c v vs := by
  have hnew : ∀ k ∈ B' ++ N, k ∈ N ∨ w.heap.size ≤ k := fun k hk => by
    rcases List.mem_append.1 hk with hk | hk
    · rcases t.new k hk with h1 | h1
      · exact .inl (h.MN _ (h.BM k h1))
      · exact .inr h1
    · exact .inl hk
  have hsub : ∀ k ∈ B, k ∈ B' ++ N := fun k hk => List.mem_append.2 (.inr (h.MN _ (h.BM k hk)))
  have hout : ∀ k, k < w.heap.size → k ∉ B → k ∉ B' := fun k hk hn hm => by
    rcases t.new k hm with h1 | h1
    · exact hn h1
    · omega
  refine ⟨hd, h.row.kept t.kept h.qB, fun k hk => List.mem_append.2 (.inl hk), List.mem_append.2 (.inr h.qM), fun k hk => List.mem_append.2 (.inr (h.vM k hk)), hout q (h.lt q (h.MN q h.qM)) h.qB, fun k hk => hout k (h.lt k (h.MN k (h.vM k hk))) (h.vB k hk), ?_, ?_, ?_, h.cap, ?_, fun k l hk => ?_⟩
  · intro k hk
    rcases List.mem_append.1 hk with hk | hk
    · exact List.mem_append.2 (.inl hk)
    · exact List.mem_append.2 (.inr (h.MN k hk))
  · intro k hk
    rcases List.mem_append.1 hk with hk | hk
    · exact hd.lt k hk
    · exact Nat.lt_of_lt_of_le (h.lt k hk) t.kept.size
  · exact (SlM.old h.sp hnew).kept (t.kept.mono hsub)
  · obtain ⟨h1, h2⟩ := h.own
    refine ⟨h1, ?_⟩
    rcases h2 with h2 | ⟨g', cap', cur, e, hb, hg, h3⟩
    · exact .inl h2
    · exact .inr ⟨g', cap', cur, e, hb, t.kept.heap hg (h.vB g' (by rw [e]; rfl)), h3⟩
  · obtain ⟨A', c', h1, h2, h3⟩ := h.els k l hk
    exact ⟨A', c', h1, h2, (SlM.old h3 hnew).kept (t.kept.mono hsub)⟩
theorem SysI.turned {B' : List Nat} (h : SysI M N w p q s g B A c v vs) (t : Turn B w B' w') : Turn M w (B' ++ M) w' :=
  ⟨t.kept.mono h.BM, fun k hk => List.mem_append.2 (.inr hk), fun k hk => by
    rcases List.mem_append.1 hk with hk | hk
    · rcases t.new k hk with h1 | h1
      · exact .inl (h.BM k h1)
      · exact .inr h1
    · exact .inl hk⟩
end
theorem wrecords_nil (w : World) : Calls Try.prog 18 #[.pointer none] w fun e w' => e = .returned (.slice none 0 0) ∧ Ext w w' := by
  go_enter Try.func18, Try.ntmps18
  go_wp2
  go_ret
  exact ⟨rfl, Ext.refl _⟩
set_option maxRecDepth 20000 in
set_option maxHeartbeats 2000000 in
theorem wrecords_any {M N : List Nat} {w : World} {p q : Nat} {s : Dk} {g : Lg} {B : List Nat} {A : Option Addr} {c : Nat} {v : Value} {vs : List Value} (h : SysI M N w p q s g B A c v vs) (hn : g.recs.length ≤ 1000000) (hr : ∀ r ∈ g.recs, r.length ≤ 1000000) :
    Calls Try.prog 18 #[pt q] w fun e w' => ∃ v, e = .returned v ∧ OwnS w' w.heap.size v g.recs ∧ Ext w w' := by
  obtain ⟨-, -, -, -, -, -, -, c7, -⟩ := h.row.cell
  have c7 := c7 w (Ext.refl _)
  obtain ⟨A0, c0, rfl⟩ := own_form h.own
  have HS := Lib.hid (Sl.own h.own rfl)
  have HE := Lib.hid h.els
  have HRL := Lib.hid hr
  have HO0 := Lib.hid (OwnS.nil w w.heap.size)
  clear h hr
  generalize g.recs = rs at *
  unfold pt
  go_enter Try.func18, Try.ntmps18
  go_wp2
  go_loopw [3, 13] (fun ov iv wr => ∃ (k : Nat) (A1 : Option Addr) (c1 : Nat), iv = .int .i64 k ∧ k ≤ rs.length ∧ ov = .slice A1 (rs.take k).length c1 ∧ Hid (OwnS wr w.heap.size (.slice A1 (rs.take k).length c1) (rs.take k)) ∧ Hid (Ext w wr)) (fun _ iv _ => rs.length - (intOf iv).toNat)
  case atStart => exact ⟨0, none, 0, rfl, by omega, rfl, HO0, Lib.hid (Ext.refl _)⟩
  case round =>
    clear HO0
    obtain ⟨k, A1, c1, rfl, hk, rfl, HO, HX⟩ := hrel
    by_cases hlt : k < rs.length
    · have hlt2 : (k : Int) < (rs.length : Int) := by omega
      obtain ⟨A2, c2, e1, hc2, hb2⟩ := HE.out k rs[k] (List.getElem?_eq_getElem hlt)
      obtain ⟨ad, rfl, hc⟩ := HS.out k _ e1
      have hc := HX.out.cell hc
      have hll := HRL.out rs[k] (List.getElem_mem hlt)
      have HTK : Hid (rs.take (k + 1) = rs.take k ++ [rs[k]]) := Lib.hid (by rw [List.take_add_one, List.getElem?_eq_getElem hlt]; rfl)
      have htl : (rs.take k).length ≤ 1000000 := by simp; omega
      generalize rs[k] = r at *
      generalize rs.take k = o1 at *
      have HCL := fclone_any A2 c2 r.length r wr (hb2.bs.ext HX.out) (by omega) rfl
      clear e1 hb2 hc2
      go_wp2_with fail
      refine HCL.mono ?_
      rintro e w2 ⟨v2, rfl, ho2, hx2⟩
      obtain ⟨A3, c3, rfl⟩ := ho2.form
      obtain ⟨us, q1, q2⟩ := HO.out.ext hx2
      have Q1 := Lib.hid q1
      have Q2 := Lib.hid q2
      have HP := Lib.hid (ho2.low HX.out.size)
      have HX2 := Lib.hid (HX.out.trans hx2)
      clear q1 q2 ho2 hx2 HCL hc HO HX
      go_wp2_with (at_builtin; refine unstop ?_)
      refine go_on (wpList_app bytessT (Q1.out.alloc _) (Sl.new w2 [.slice A3 r.length c3] 46 (0, 0)) rfl rfl rfl rfl rfl (by simp [Value.oneCell']) (by omega) (by omega) (by have := HX2.out.size; simp; omega) ?_)
      intro v4 w4 ho4 hg4 hor4
      obtain ⟨A5, c5, rfl⟩ := own_form ho4
      have hos := OwnS.push (Q1.out.alloc _) (fun k l hk => by obtain ⟨u, h3, h4⟩ := Q2.out k l hk; exact ⟨u, h3, h4.alloc _⟩) (HP.out.alloc _) ho4 hg4
      rw [← HTK.out] at hos
      have hxx : Ext w w4 := (HX2.out.alloc _).own (Q1.out.alloc _) (Nat.le_refl _) hg4
      have HO4 := Lib.hid hos
      have HX4 := Lib.hid hxx
      have htl4 : Hid (o1.length + 1 = (rs.take (k + 1)).length) := Lib.hid (by rw [HTK.out]; simp)
      clear hos hxx ho4 hg4 hor4 Q1 Q2
      go_wp2
      go_roundw
      case rel => exact ⟨k + 1, A5, c5, by go_num, by omega, by rw [htl4.out], by rw [htl4.out] at HO4; exact HO4, HX4⟩
      case measure => simp [intOf]; omega
    · obtain rfl : k = rs.length := by omega
      have htk : rs.take rs.length = rs := List.take_length
      rw [htk] at HO
      have HTT := Lib.hid htk
      clear htk
      go_wp2
      go_ret
      exact ⟨_, rfl, by rw [HTT.out]; exact HO.out, HX.out⟩
end Go.Proofs.Ytklodimokhndoaa
