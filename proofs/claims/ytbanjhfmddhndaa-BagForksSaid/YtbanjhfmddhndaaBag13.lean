/- The walks of the reference's Same and of BagTakes' count. Conditions: the messages stand in memory. -/
import Derived.Test.YtbanjhfmddhndaaBag11
import Derived.Deep.RegionHeld3
namespace Go.Proofs.Ytbanjhfmddhndaa
open Go.RowKit
attribute [local go_sem] pt uv
def sameU (u v : U) : Bool := u.from_ == v.from_ && (u.to_ == v.to_ && u.by_ == v.by_)
theorem sameU_iff (u v : U) : sameU u v = true ↔ u = v := by
  cases u; cases v; simp [sameU]
theorem sameU_refl (u : U) : sameU u u = true := by simp [sameU]
set_option maxHeartbeats 400000 in
theorem Same_any (u v : U) (A A' : Option Addr) (c c' : Nat) (w : World) (hA : Bs w A u.by_) (hB : Bs w A' v.by_) :
    Calls Try.prog 9 #[uv u A c, uv v A' c'] w fun e w' => e = .returned (.bool (sameU u v)) ∧ Ext w w' := by
  have s0 := run_str (P := Try.prog) Try.underlying28 Try.underlying5 Try.underlying9 hA u.by_.length c rfl
  have s1 := run_str (P := Try.prog) Try.underlying28 Try.underlying5 Try.underlying9 hB v.by_.length c' rfl
  have hx0 := (Ext.refl w).alloc (.cells #[.int .i64 u.from_, .int .i64 u.to_, .slice A u.by_.length c] 30)
  have hx1 := hx0.alloc (.cells #[.int .i64 v.from_, .int .i64 v.to_, .slice A' v.by_.length c'] 30)
  by_cases h1 : u.from_ = v.from_
  · have e1 : (u.from_ == v.from_) = true := by simpa using h1
    by_cases h2 : u.to_ = v.to_
    · have e2 : (u.to_ == v.to_) = true := by simpa using h2
      have hs : sameU u v = (u.by_ == v.by_) := by unfold sameU; rw [e1, e2, Bool.true_and, Bool.true_and]
      have HS := Lib.hid hs
      clear h1 h2 hs
      go_enter Try.func9, Try.ntmps9
      go_wp2
      go_ret
      exact ⟨ret_bool HS.out.symm, hx1⟩
    · have e2 : (u.to_ == v.to_) = false := by simpa using h2
      have hs : sameU u v = false := by unfold sameU; rw [e1, e2]; rfl
      have HS := Lib.hid hs
      clear h1 h2 hs
      go_enter Try.func9, Try.ntmps9
      go_wp2
      go_ret
      exact ⟨ret_bool HS.out.symm, hx1⟩
  · have e1 : (u.from_ == v.from_) = false := by simpa using h1
    have hs : sameU u v = false := by unfold sameU; rw [e1]; rfl
    have HS := Lib.hid hs
    clear h1 hs
    go_enter Try.func9, Try.ntmps9
    go_wp2
    go_ret
    exact ⟨ret_bool HS.out.symm, hx1⟩
def cntU (l : List U) (u : U) : Nat := l.countP (sameU · u)
theorem cntU_take {l : List U} {u : U} {k : Nat} (hk : k < l.length) : cntU (l.take (k + 1)) u = cntU (l.take k) u + if sameU l[k] u then 1 else 0 := by
  unfold cntU
  rw [List.take_succ_eq_append_getElem hk, List.countP_append]
  simp [List.countP_cons]
theorem cntU_le (l : List U) (u : U) : cntU l u ≤ l.length := List.countP_le_length
set_option maxHeartbeats 1000000 in
theorem count_any (l : List U) (u : U) (A A' : Option Addr) (c c' : Nat) (w : World) (hA : RsM RU 3 [] w A l) (hB : Bs w A' u.by_) (hl : l.length ≤ 1000000) :
    Calls Try.prog 8 #[.slice A l.length c, uv u A' c'] w fun e w' => e = .returned (.int .i64 (cntU l u)) ∧ Ext w w' := by
  have hx0 := (Ext.refl w).alloc (.cells #[.int .i64 u.from_, .int .i64 u.to_, .slice A' u.by_.length c'] 30)
  obtain ⟨r0, r1, r2, r3⟩ := rows3 (heap_alloc_new w (.cells #[.int .i64 u.from_, .int .i64 u.to_, .slice A' u.by_.length c'] 30))
  have hB1 := hB.ext hx0
  have hA1 := hA.kept (.of_ext hx0)
  have hlt0 : w.heap.size < (w.alloc (.cells #[.int .i64 u.from_, .int .i64 u.to_, .slice A' u.by_.length c'] 30)).heap.size := by simp
  go_enter Try.func8, Try.ntmps8
  unfold uv
  go_wp2
  generalize w.alloc (.cells #[.int .i64 u.from_, .int .i64 u.to_, .slice A' u.by_.length c'] 30) = w0 at *
  go_loopw [5, 6] (fun n i wr => ∃ k : Nat, k ≤ l.length ∧ i = .int .i64 k ∧ n = .int .i64 (cntU (l.take k) u : Nat) ∧ Ext w0 wr) (fun _ i _ => l.length - (intOf i).toNat)
  case atStart => exact ⟨0, by omega, rfl, rfl, Ext.refl _⟩
  case round =>
    obtain ⟨k, hk, rfl, rfl, hx⟩ := hrel
    by_cases hlt : k < l.length
    · obtain ⟨ad, cs, rfl, had, hcs, hcell, A2, cap2, rfl, hby⟩ := hA1.at_ (by omega) hlt
      have E0 : ∀ w', Ext w0 w' → w'.cell? (ad.add (k * 3)) = some (.int .i64 l[k].from_) := fun w' hx => hx.cell (hcell 0 _ rfl)
      have E1 : ∀ w', Ext w0 w' → w'.cell? ⟨(ad.add (k * 3)).block, (ad.add (k * 3)).off + 1, none⟩ = some (.int .i64 l[k].to_) := fun w' hx => hx.cell (by rw [← add_field ad (k * 3) 0]; exact hcell 1 _ rfl)
      have E2 : ∀ w', Ext w0 w' → w'.cell? ⟨(ad.add (k * 3)).block, (ad.add (k * 3)).off + 2, none⟩ = some (.slice A2 l[k].by_.length cap2) := fun w' hx => hx.cell (by rw [← add_field ad (k * 3) 1]; exact hcell 2 _ rfl)
      have hS := fun W (q : Ext w0 W) => Same_any l[k] u A2 A' cap2 c' W (hby.bs.ext q) (hB1.ext q)
      have ht := cntU_take (u := u) hlt
      have hcl := cntU_le (l.take k) u
      rw [List.length_take] at hcl
      have hcl2 : cntU (l.take k) u ≤ 1000000 := by omega
      have hlt2 : (k : Int) < l.length := by omega
      generalize hu : l[k] = uk at *
      generalize cntU (l.take k) u = n0 at *
      have HT := Lib.hid ht
      clear hu hcell hby hcs ht hcl hA hA1
      by_cases hs : sameU uk u = true
      · rw [hs] at hS HT
        go_wp2_with fail
        go_region_held3 (fun w' => Ext w0 w') (first | exact hx.drew | assumption) ((go_at_call 9; refine (hS _ (by first | assumption | exact hx.drew)).mono ?_; rintro e w2 ⟨rfl, hx2⟩; have hx3 : Ext w0 w2 := hx.drew.trans hx2))
        go_wp2
        go_roundw
        case rel => exact ⟨k + 1, by omega, by go_num, by rw [HT.out]; go_num, by assumption⟩
        case measure => simp [intOf]; omega
      · have hs : sameU uk u = false := by simpa using hs
        rw [hs] at hS HT
        go_wp2_with fail
        go_region_held3 (fun w' => Ext w0 w') (first | exact hx.drew | assumption) ((go_at_call 9; refine (hS _ (by first | assumption | exact hx.drew)).mono ?_; rintro e w2 ⟨rfl, hx2⟩; have hx3 : Ext w0 w2 := hx.drew.trans hx2))
        go_wp2
        go_roundw
        case rel => exact ⟨k + 1, by omega, by go_num, by rw [HT.out]; rfl, by assumption⟩
        case measure => simp [intOf]; omega
    · have hk' : k = l.length := by omega
      subst hk'
      have hlt2 : ¬ (l.length : Int) < l.length := by omega
      go_wp2
      go_ret
      exact ⟨rfl, hx0.trans hx⟩
end Go.Proofs.Ytbanjhfmddhndaa
