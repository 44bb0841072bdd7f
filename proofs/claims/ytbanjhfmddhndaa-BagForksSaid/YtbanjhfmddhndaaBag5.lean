/- The walk of bag.First: the place of the first message for a node. Conditions: those of IsBag. -/
import Derived.Test.YtbanjhfmddhndaaChecked
import Derived.Test.YtbanjhfmddhndaaBag4
namespace Go.Proofs.Ytbanjhfmddhndaa
open Go.RowKit
def firstL (l : List U) (to : Int) : Option Nat := l.findIdx? (fun u => u.to_ == to)
def FirstSays (l : List U) (to : Int) (e : Ending) : Prop := e = .returned (match firstL l to with | some k => .tuple #[.int .i64 (k : Int), .bool true] | none => .tuple #[.int .i64 0, .bool false])
theorem FirstSays.yes {l : List U} {to : Int} {k : Nat} (h : firstL l to = some k) : FirstSays l to (.returned (.tuple #[.int .i64 (k : Int), .bool true])) := by unfold FirstSays; rw [h]
theorem FirstSays.no {l : List U} {to : Int} (h : firstL l to = none) : FirstSays l to (.returned (.tuple #[.int .i64 0, .bool false])) := by unfold FirstSays; rw [h]
theorem first_at {l : List U} {to : Int} {k : Nat} (hk : k < l.length) (h : firstL (l.take k) to = none) (he : l[k].to_ = to) : firstL l to = some k := by
  unfold firstL at *
  rw [List.findIdx?_eq_some_iff_getElem]
  refine ⟨hk, by simp [he], fun j hj => ?_⟩
  rw [List.findIdx?_eq_none_iff] at h
  have := h l[j] (by rw [List.mem_iff_getElem]; exact ⟨j, by simp; omega, by simp⟩)
  simpa using this
theorem first_on {l : List U} {to : Int} {k : Nat} (hk : k < l.length) (h : firstL (l.take k) to = none) (he : ¬ l[k].to_ = to) : firstL (l.take (k + 1)) to = none := by
  unfold firstL at *
  rw [List.findIdx?_eq_none_iff] at *
  intro x hx
  rw [List.take_succ_eq_append_getElem hk] at hx
  rcases List.mem_append.1 hx with hx | hx
  · exact h x hx
  · simp at hx
    rw [hx]
    simpa using he
set_option maxHeartbeats 400000 in
theorem First_any (p : Nat) (to : Int) (b : Bg) (M : List Nat) (w : World) (h : IsBag M w p b) (hn : b.l.length ≤ 1000000) :
    Calls Try.prog 21 #[pt p, .int .i64 to] w fun e w' => FirstSays b.l to e ∧ Ext w w' := by
  have HW := Len_any p b M w h
  obtain ⟨A, cap, h1, h2⟩ := h
  have C2 : ∀ w', Ext w w' → w'.cell? ⟨p, 2, none⟩ = some (.slice A b.l.length cap) := fun w' hx => hx.cell (by rw [cell_of_row w p 2 _ _ _ h1]; rfl)
  have HN := Lib.hid hn
  clear h1 hn
  unfold pt at HW ⊢
  go_enter Try.func21, Try.ntmps21
  go_wp2_with fail
  refine HW.mono ?_
  rintro e w1 ⟨rfl, hx1⟩
  go_wp2
  go_loopw [9] (fun i wr => ∃ k : Nat, k ≤ b.l.length ∧ i = .int .i64 k ∧ Ext w wr ∧ firstL (b.l.take k) to = none) (fun i _ => b.l.length - (intOf i).toNat)
  case atStart => exact ⟨0, by omega, rfl, hx1, by simp [firstL]⟩
  case round =>
    obtain ⟨k, hk, rfl, hx, ht⟩ := hrel
    by_cases hlt : k < b.l.length
    · have hN := HN.out
      obtain ⟨ad, cs, rfl, had, hcs, hcell, A2, cap2, rfl, hby⟩ := h2.at_ (by omega) hlt
      have E1 : ∀ w', Ext w w' → w'.cell? ⟨(ad.add (k * 3)).block, (ad.add (k * 3)).off + 1, none⟩ = some (.int .i64 b.l[k].to_) := fun w' hx => hx.cell (by rw [← add_field ad (k * 3) 0]; exact hcell 1 _ rfl)
      have hf1 := fun he => FirstSays.yes (first_at hlt ht he)
      have hf2 := fun he => first_on hlt ht he
      have hk1 : (k : Int) < (b.l.length : Int) := by omega
      generalize b.l[k] = u at *
      have HF1 := Lib.hid hf1
      have HF2 := Lib.hid hf2
      clear hf1 hf2 ht hcell hby hcs
      by_cases he : u.to_ = to
      · have h1 : (u.to_ == to) = true := by rw [he]; exact beq_self_eq_true _
        have HE := Lib.hid he
        clear he
        go_wp2_with fail
        go_ret2
        exact ⟨HF1.out HE.out, hx⟩
      · have h1 : (u.to_ == to) = false := beq_eq_false_iff_ne.2 he
        have HE := Lib.hid he
        clear he
        go_wp2_with fail
        go_roundw
        case rel => exact ⟨k + 1, by omega, by go_num, hx, HF2.out HE.out⟩
        case measure => simp [intOf]; omega
    · have hk1 : ¬ (k : Int) < (b.l.length : Int) := by omega
      have hf := Lib.hid (FirstSays.no (by rw [List.take_of_length_le (by omega)] at ht; exact ht))
      clear ht
      go_wp2
      go_ret2
      exact ⟨hf.out, hx⟩
end Go.Proofs.Ytbanjhfmddhndaa
