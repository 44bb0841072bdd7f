/- The walks of both Scans: they answer the same. Conditions: the lengths named. -/
import Derived.Test.YtapjgncalldngaaRef2
namespace Go.Proofs.Ytapjgncalldngaa
open Go.RowKit
def scanF (b : List UInt8) : Nat → Nat → List (List UInt8) × Nat
  | 0, at_ => ([], at_)
  | f + 1, at_ => if (oneL b at_).2.2 = 0 then ((oneL b at_).1 :: (scanF b f (oneL b at_).2.1.toNat).1, (scanF b f (oneL b at_).2.1.toNat).2) else ([], at_)
def scanL (b : List UInt8) : List (List UInt8) × Nat := scanF b (b.length + 1) 0
theorem oneL_next (b : List UInt8) (k : Nat) (h : (oneL b k).2.2 = 0) : ∃ n : Nat, (oneL b k).2.1 = (n : Int) ∧ k + 7 ≤ n ∧ n ≤ b.length := by
  unfold oneL at h ⊢
  split at h
  · simp at h
  split at h
  · simp at h
  split at h
  · simp at h
  split at h
  · simp at h
  split at h
  · simp at h
  rename_i h1 h2 h3 h4 h5
  rw [if_neg h1, if_neg h2, if_neg h3, if_neg h4, if_neg h5]
  refine ⟨k + 6 + numL ((b.drop (k : Int).toNat).take 2), by simp, by omega, ?_⟩
  simp only [List.length_drop] at h2 h4
  omega
/-- what a scan's loop has gathered when it is at a place -/
def ScanAt (b : List UInt8) (outs : List (List UInt8)) (k : Nat) : Prop :=
  k ≤ b.length ∧ outs.length ≤ k ∧ ∃ f, b.length - k < f ∧ scanL b = (outs ++ (scanF b f k).1, (scanF b f k).2)
theorem ScanAt.start (b : List UInt8) : ScanAt b [] 0 := ⟨by omega, by simp, b.length + 1, by omega, by simp [scanL]⟩
theorem ScanAt.stop {b : List UInt8} {outs : List (List UInt8)} {k : Nat} (h : ScanAt b outs k) (he : (oneL b k).2.2 ≠ 0) : scanL b = (outs, k) := by
  obtain ⟨_, _, f, hf, e⟩ := h
  cases f with
  | zero => omega
  | succ f => rw [e]; simp [scanF, he]
theorem ScanAt.step {b : List UInt8} {outs : List (List UInt8)} {k : Nat} (h : ScanAt b outs k) (he : (oneL b k).2.2 = 0) :
    ∃ n : Nat, (oneL b k).2.1 = (n : Int) ∧ k < n ∧ n ≤ b.length ∧ ScanAt b (outs ++ [(oneL b k).1]) n := by
  obtain ⟨h1, h2, f, hf, e⟩ := h
  obtain ⟨n, hn, h3, h4⟩ := oneL_next b k he
  refine ⟨n, hn, by omega, h4, h4, by simp; omega, ?_⟩
  cases f with
  | zero => omega
  | succ f => exact ⟨f, by omega, by rw [e]; simp [scanF, he, hn]⟩
def ScanSays (b : List UInt8) (w : World) (e : Ending) (w' : World) : Prop := ∃ v, e = .returned (.tuple #[v, .int .i64 ((scanL b).2 : Nat)]) ∧ OwnS w' w.heap.size v (scanL b).1 ∧ Ext w w'
theorem ScanSays.mk {b : List UInt8} {w w' : World} {outs : List (List UInt8)} {k : Nat} {v : Value} (h : scanL b = (outs, k)) (ho : OwnS w' w.heap.size v outs) (hx : Ext w w') : ScanSays b w (.returned (.tuple #[v, .int .i64 (k : Nat)])) w' := by
  refine ⟨v, ?_, ?_, hx⟩
  · rw [h]
  · rw [h]; exact ho
theorem bytessT : ElemOf Try.prog 36 22 1 24 := ElemOf.mk' (z := .slice none 0 0) Try.underlying36 (by kernel_rfl) rfl (by omega)
set_option maxHeartbeats 1000000 in
theorem Scan_any (A : Option Addr) (cap n : Nat) (b : List UInt8) (w : World) (h : Bs w A b) (hl : n = b.length) (hc : b.length ≤ cap) (hm : cap ≤ 9223372036854775807) (hbn : b.length ≤ 4398046511104) :
    Calls Try.prog 16 #[.slice A n cap] w (ScanSays b w) := by
  subst hl
  go_enter Try.func16, Try.ntmps16
  go_wp2
  go_loopw [4, 5] (fun o i wr => ∃ (outs : List (List UInt8)) (k : Nat), i = .int .i64 k ∧ OwnS wr w.heap.size o outs ∧ Ext w wr ∧ ScanAt b outs k) (fun _ i _ => b.length - (intOf i).toNat)
  case atStart => exact ⟨[], 0, rfl, OwnS.nil _ _, Ext.refl _, ScanAt.start b⟩
  case round =>
    obtain ⟨outs, k, rfl, ho, hx, hs⟩ := hrel
    obtain ⟨A0, c0, rfl⟩ := ho.form
    have hk := hs.1
    have hol := hs.2.1
    by_cases he : (oneL b k).2.2 = 0
    · obtain ⟨m, hm1, hm2, hm3, hs'⟩ := hs.step he
      have HS := Lib.hid hs'
      have hne : ((oneL b k).2.2 != 0) = false := by rw [he]; rfl
      have HM := Lib.hid hm1
      clear hs hs' he hm1
      go_wp2_with fail
      refine (One_any A cap _ b k wr (h.ext hx) rfl hc hm).mono ?_
      rintro e w1 ⟨v1, rfl, ho1, hx1⟩
      obtain ⟨A1, c1, rfl⟩ := ho1.form
      rw [HM.out]
      go_wp2_with (at_builtin; refine unstop ?_)
      obtain ⟨vs, hv1, hv2⟩ := ho.ext hx1
      refine go_on (wpList_app bytessT (hv1.alloc _) (Sl.new w1 [_] _ _) rfl rfl rfl rfl rfl (by intro u hu; simp at hu; subst hu; rfl) (by omega) (by omega) (by have := hx1.size; have := hx.size; simp; omega) ?_)
      intro v2 w2 hv3 hg2 _
      have ho2 := OwnS.push (hv1.alloc _) (fun k l hk => by obtain ⟨u, h3, h4⟩ := hv2 k l hk; exact ⟨u, h3, h4.alloc _⟩) ((ho1.low hx.size).alloc _) hv3 hg2
      have hx2 : Ext w w2 := ((hx.trans hx1).alloc _).own (hv1.alloc _) (Nat.le_refl _) hg2
      go_wp2
      go_roundw
      case rel => exact ⟨_, m, rfl, ho2, hx2, HS.out⟩
      case measure => simp [intOf]; omega
    · have hne : ((oneL b k).2.2 != 0) = true := by rw [bne_iff_ne]; exact he
      have HST := Lib.hid (hs.stop he)
      clear hs he
      go_wp2_with fail
      refine (One_any A cap _ b k wr (h.ext hx) rfl hc hm).mono ?_
      rintro e w1 ⟨v1, rfl, ho1, hx1⟩
      go_wp2
      go_ret2
      exact ScanSays.mk HST.out (ho.ext hx1) (hx.trans hx1)
set_option maxHeartbeats 1000000 in
theorem RScan_any (A : Option Addr) (cap n : Nat) (b : List UInt8) (w : World) (h : Bs w A b) (hl : n = b.length) (hc : b.length ≤ cap) (hbn : b.length ≤ 4398046511104) :
    Calls Try.prog 17 #[.slice A n cap] w (ScanSays b w) := by
  subst hl
  go_enter Try.func17, Try.ntmps17
  go_wp2
  go_loopw [4, 5] (fun o i wr => ∃ (outs : List (List UInt8)) (k : Nat), i = .int .i64 k ∧ OwnS wr w.heap.size o outs ∧ Ext w wr ∧ ScanAt b outs k) (fun _ i _ => b.length - (intOf i).toNat)
  case atStart => exact ⟨[], 0, rfl, OwnS.empty w _ (Nat.le_refl _), (Ext.refl _).alloc _, ScanAt.start b⟩
  case round =>
    obtain ⟨outs, k, rfl, ho, hx, hs⟩ := hrel
    obtain ⟨A0, c0, rfl⟩ := ho.form
    have hk := hs.1
    have hol := hs.2.1
    by_cases he : (oneL b k).2.2 = 0
    · obtain ⟨m, hm1, hm2, hm3, hs'⟩ := hs.step he
      have HS := Lib.hid hs'
      have hne : ((oneL b k).2.2 != 0) = false := by rw [he]; rfl
      have HM := Lib.hid hm1
      clear hs hs' he hm1
      go_wp2_with fail
      refine (ROne_any A cap _ b k wr (h.ext hx) rfl hc (by omega)).mono ?_
      rintro e w1 ⟨v1, rfl, ho1, hx1⟩
      obtain ⟨A1, c1, rfl⟩ := ho1.form
      rw [HM.out]
      go_wp2_with (at_builtin; refine unstop ?_)
      obtain ⟨vs, hv1, hv2⟩ := ho.ext hx1
      refine go_on (wpList_app bytessT (hv1.alloc _) (Sl.new w1 [_] _ _) rfl rfl rfl rfl rfl (by intro u hu; simp at hu; subst hu; rfl) (by omega) (by omega) (by have := hx1.size; have := hx.size; simp; omega) ?_)
      intro v2 w2 hv3 hg2 _
      have ho2 := OwnS.push (hv1.alloc _) (fun k l hk => by obtain ⟨u, h3, h4⟩ := hv2 k l hk; exact ⟨u, h3, h4.alloc _⟩) ((ho1.low hx.size).alloc _) hv3 hg2
      have hx2 : Ext w w2 := ((hx.trans hx1).alloc _).own (hv1.alloc _) (Nat.le_refl _) hg2
      go_wp2
      go_roundw
      case rel => exact ⟨_, m, rfl, ho2, hx2, HS.out⟩
      case measure => simp [intOf]; omega
    · have hne : ((oneL b k).2.2 != 0) = true := by rw [bne_iff_ne]; exact he
      have HST := Lib.hid (hs.stop he)
      clear hs he
      go_wp2_with fail
      refine (ROne_any A cap _ b k wr (h.ext hx) rfl hc (by omega)).mono ?_
      rintro e w1 ⟨v1, rfl, ho1, hx1⟩
      go_wp2
      go_ret2
      exact ScanSays.mk HST.out (ho.ext hx1) (hx.trans hx1)
end Go.Proofs.Ytapjgncalldngaa
