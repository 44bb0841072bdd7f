/- The walks of text.Atom, text.Word and the reference's. Conditions: the lengths named in each theorem. -/
import Derived.Test.YtkjklpalpodbgaaText1
import Derived.Deep.QuietTactic
import Derived.BigQuiet
namespace Go.Proofs.Ytkjklpalpodbgaa
open Go.RowKit
def badB : List Nat := [40, 41, 123, 37, 42, 34, 92, 93]
def atomOk (c : UInt8) : Bool := decide (33 ≤ c.toNat ∧ c.toNat ≤ 126 ∧ c.toNat ∉ badB)
def atomL (l : List UInt8) : Bool := !l.isEmpty && l.all atomOk
theorem atomL_no {l : List UInt8} {k : Nat} (h : k < l.length) (hk : atomOk l[k] = false) : atomL l = false := by
  unfold atomL
  rw [Bool.and_eq_false_iff]
  right
  rw [List.all_eq_false]
  exact ⟨l[k], List.getElem_mem h, by simp [hk]⟩
theorem atomL_yes {l : List UInt8} (h : (l.take l.length).all atomOk = true) : atomL l = !l.isEmpty := by
  unfold atomL
  rw [List.take_length] at h
  rw [h, Bool.and_true]
theorem all_take {l : List UInt8} {k : Nat} (h : k < l.length) (hk : (l.take k).all atomOk = true) (hc : atomOk l[k] = true) : (l.take (k + 1)).all atomOk = true := by
  rw [List.take_succ_eq_append_getElem h, List.all_append, hk]
  simp [hc]
set_option maxHeartbeats 1000000 in
theorem Atom_any (s : ByteArray) (w : World) (hs : s.size ≤ 140737488355328) : Calls Try.prog 13 #[.string s] w fun e w' => e = .returned (.bool (atomL (tl s))) ∧ Ext w w' := by
  have hget := tl_get? s
  have hsz := tl_length s
  generalize hl : tl s = l at *
  have HS := Lib.hid hsz
  have HL := Lib.hid hl
  have HG := Lib.hid hget
  have hs1 : s.size ≤ l.length := by omega
  have hs2 : l.length ≤ s.size := by omega
  have hit0 : It (w.iter s 0) w.heap.size s 0 := World.iter_heap w s 0
  have hx0 : Ext w (w.iter s 0) := (Ext.refl w).alloc _
  clear hsz hl hget
  go_enter Try.func13, Try.ntmps13
  go_wp2
  go_loopw [] (fun wr => ∃ pos : Nat, pos ≤ s.size ∧ It wr w.heap.size s pos ∧ Ext w wr ∧ (l.take pos).all atomOk = true) (fun wr => s.size - wr.iterPos w.heap.size)
  case atStart => exact ⟨0, by omega, hit0, hx0, by simp⟩
  case round =>
    obtain ⟨pos, hp, hit, hx, hall⟩ := hrel
    clear hit0 hx0
    have hpos := iterPos_of hit
    by_cases hlt : pos < s.size
    · have hkl : pos < l.length := by omega
      have hgk : l[pos] = s[pos] := by have := HG.out pos hlt; rw [List.getElem?_eq_getElem hkl] at this; simpa using this
      have hno := fun h : atomOk s[pos] = false => atomL_no hkl (by rw [hgk]; exact h)
      have hyes := fun h : atomOk s[pos] = true => all_take hkl hall (by rw [hgk]; exact h)
      have hnx := hit.next hlt
      have hcl := s[pos].toNat_lt
      have hit2 := hit.at_ (pos + (Utf8.decode s pos).2)
      have hx2 := hx.iterAt (pos := pos + (Utf8.decode s pos).2) (s := s) (Nat.le_refl w.heap.size)
      have HPOS := Lib.hid hpos
      by_cases h128 : s[pos].toNat < 128
      · have hd := decode_ascii s pos hlt h128
        rw [hd] at hnx hit2 hx2
        simp only [] at hnx hit2 hx2
        have hpos2 := Lib.hid (iterPos_of hit2)
        have HNO := Lib.hid hno
        have HYES := Lib.hid hyes
        clear hno hyes hd hgk hall hpos
        by_cases hok : atomOk s[pos] = true
        · have hok' := hok
          simp only [atomOk, badB, decide_eq_true_eq, List.mem_cons, List.not_mem_nil, or_false, not_or] at hok'
          obtain ⟨o1, o2, o3, o4, o5, o6, o7, o8, o9, o10⟩ := hok'
          have t0 : ¬ (s[pos].toNat : Int) ≤ 32 := by omega
          have t1 : ¬ (126 : Int) < (s[pos].toNat : Int) := by omega
          have b0 : ((s[pos].toNat : Int) == 40) = false := beq_eq_false_iff_ne.2 (by omega)
          have b1 : ((s[pos].toNat : Int) == 41) = false := beq_eq_false_iff_ne.2 (by omega)
          have b2 : ((s[pos].toNat : Int) == 123) = false := beq_eq_false_iff_ne.2 (by omega)
          have b3 : ((s[pos].toNat : Int) == 37) = false := beq_eq_false_iff_ne.2 (by omega)
          have b4 : ((s[pos].toNat : Int) == 42) = false := beq_eq_false_iff_ne.2 (by omega)
          have b5 : ((s[pos].toNat : Int) == 34) = false := beq_eq_false_iff_ne.2 (by omega)
          have b6 : ((s[pos].toNat : Int) == 92) = false := beq_eq_false_iff_ne.2 (by omega)
          have b7 : ((s[pos].toNat : Int) == 93) = false := beq_eq_false_iff_ne.2 (by omega)
          clear o1 o2 o3 o4 o5 o6 o7 o8 o9 o10
          have HOK := Lib.hid hok
          clear hok
          go_wp2
          go_roundw
          case rel => exact ⟨pos + 1, by omega, hit2, hx2, HYES.out HOK.out⟩
          case measure => rw [hpos2.out, HPOS.out]; omega
        · have hok' : atomOk s[pos] = false := by simpa using hok
          have HR := Lib.hid (HNO.out hok')
          have HOK := Lib.hid hok
          clear hok hok'
          go_wp2
          all_goals first
            | (go_ret; exact ⟨ret_bool HR.out.symm, hx2⟩)
            | (exfalso; refine HOK.out ?_; simp only [atomOk, badB, decide_eq_true_eq, List.mem_cons, List.not_mem_nil, or_false, not_or]; simp at *; omega)
      · have hd := decode_high s pos hlt (by omega)
        have hok : atomOk s[pos] = false := by simp only [atomOk, decide_eq_false_iff_not]; omega
        have HR := Lib.hid (hno hok)
        have t0 : ¬ (((Utf8.decode s pos).1 : Nat) : Int) ≤ 32 := by omega
        have t1 : (126 : Int) < (((Utf8.decode s pos).1 : Nat) : Int) := by omega
        clear hno hyes hok hgk hall hpos hd
        go_wp2
        go_ret
        exact ⟨ret_bool HR.out.symm, hx2⟩
    · have hp' : pos = s.size := by omega
      subst hp'
      have hst := hit.stop (by omega)
      have hlen : l.length = s.size := by omega
      have HR := Lib.hid (atomL_yes (l := l) (by rw [hlen]; exact hall))
      have HLEN := Lib.hid hlen
      have hemp : s = ⟨#[]⟩ ↔ l = [] := by
        rw [← HL.out, st_ext]
        rfl
      have HE := Lib.hid hemp
      clear hlen hall hemp hpos
      by_cases h0 : l = []
      · have h1 := HE.out.2 h0
        have hs0 : s.toList = [] := by rw [ByteArray.toList_eq, h1]
        have HR2 : Hid (atomL l = false) := Lib.hid (by rw [HR.out, h0]; rfl)
        have HH := Lib.hid h1
        clear h1 h0
        go_wp2
        go_ret
        exact ⟨ret_bool (by rw [HR2.out]), hx⟩
      · have hs0 : ¬ s.toList = [] := by rw [ByteArray.toList_eq]; exact fun h => h0 (by rw [← HL.out]; exact h)
        have hs1' : s.toList.isEmpty = false := by simpa using hs0
        have HR2 : Hid (atomL l = true) := Lib.hid (by rw [HR.out]; simpa using h0)
        clear h0
        go_wp2
        go_ret
        exact ⟨ret_bool (by rw [HR2.out]), hx⟩
theorem atomOk_bad {c : UInt8} {b : Nat} (hb : b ∈ badB) (h : c.toNat = b) : atomOk c = false := by
  simp only [atomOk, decide_eq_false_iff_not]
  rintro ⟨_, _, h3⟩
  exact h3 (by rw [h]; exact hb)
set_option maxHeartbeats 2000000 in
theorem RAtom_any (s : ByteArray) (w : World) (hs : s.size ≤ 140737488355328) : Calls Try.prog 14 #[.string s] w fun e w' => e = .returned (.bool (atomL (tl s))) ∧ Ext w w' := by
  have hget := tl_get? s
  have hsz := tl_length s
  generalize hl : tl s = l at *
  have HS := Lib.hid hsz
  have HL := Lib.hid hl
  have HG := Lib.hid hget
  have hs1 : s.size ≤ l.length := by omega
  have hs2 : l.length ≤ s.size := by omega
  clear hsz hl hget
  go_enter Try.func14, Try.ntmps14
  go_wp2
  go_loopw [3] (fun i wr => ∃ k : Nat, k ≤ s.size ∧ i = .int .i64 k ∧ Ext w wr ∧ (l.take k).all atomOk = true) (fun i _ => s.size - (intOf i).toNat)
  case atStart => exact ⟨0, by omega, rfl, Ext.refl _, by simp⟩
  case round =>
    obtain ⟨k, hk, rfl, hx, hall⟩ := hrel
    by_cases hlt : k < s.size
    · have hkl : k < l.length := by omega
      have hgk : l[k] = s[k] := by have := HG.out k hlt; rw [List.getElem?_eq_getElem hkl] at this; simpa using this
      have hno := fun h : atomOk s[k] = false => atomL_no hkl (by rw [hgk]; exact h)
      have hyes := fun h : atomOk s[k] = true => all_take hkl hall (by rw [hgk]; exact h)
      have HNO := Lib.hid hno
      have HYES := Lib.hid hyes
      have hcl := s[k].toNat_lt
      have hlt2 : (k : Int) < s.size := by omega
      clear hno hyes hall hgk
      by_cases h1 : s[k].toNat < 33
      · have t0 : (s[k].toNat : Int) < 33 := by omega
        have HR := Lib.hid (HNO.out (by simp only [atomOk, decide_eq_false_iff_not]; omega))
        clear h1
        go_wp2
        go_ret
        exact ⟨ret_bool HR.out.symm, hx⟩
      · have t0 : ¬ (s[k].toNat : Int) < 33 := by omega
        by_cases h2 : 126 < s[k].toNat
        · have t1 : (126 : Int) < (s[k].toNat : Int) := by omega
          have HR := Lib.hid (HNO.out (by simp only [atomOk, decide_eq_false_iff_not]; omega))
          clear h1 h2
          go_wp2
          go_ret
          exact ⟨ret_bool HR.out.symm, hx⟩
        · have t1 : ¬ (126 : Int) < (s[k].toNat : Int) := by omega
          have HOK : Hid (s[k].toNat ∉ badB → atomOk s[k] = true) := Lib.hid (fun h => by simp only [atomOk, decide_eq_true_eq]; exact ⟨by omega, by omega, h⟩)
          clear h1 h2
          go_wp2
          obtain ⟨wo, rfl⟩ : ∃ wo : World, wo = wr := ⟨_, rfl⟩
          go_loopw [4] (fun j wr => ∃ m : Nat, m ≤ 8 ∧ j = .int .i64 m ∧ Ext w wr ∧ s[k].toNat ∉ badB.take m) (fun j _ => 8 - (intOf j).toNat)
          case atStart => exact ⟨0, by omega, rfl, hx, by simp⟩
          case round =>
            obtain ⟨m, hm, rfl, hxr, hnb⟩ := hrel
            have HNB := Lib.hid hnb
            clear hx hnb
            by_cases hlt8 : m < 8
            · obtain hm8 | hm8 | hm8 | hm8 | hm8 | hm8 | hm8 | hm8 : m = 0 ∨ m = 1 ∨ m = 2 ∨ m = 3 ∨ m = 4 ∨ m = 5 ∨ m = 6 ∨ m = 7 := by omega
              · subst hm8
                have hbm : ((⟨#[40, 41, 123, 37, 42, 34, 92, 93]⟩ : ByteArray)[0]'(by decide)).toNat = 40 := rfl
                by_cases hb : s[k].toNat = 40
                · have e1 : ((s[k].toNat : Int) == 40) = true := by rw [hb]; rfl
                  have e2 : ((s[k].toNat : Int) != 125) = true := by rw [hb]; rfl
                  have HR := Lib.hid (HNO.out (atomOk_bad (b := 40) (by simp [badB]) hb))
                  clear hb hlt8 hm
                  go_wp2_with fail
                  go_quiet (fail)
                  go_wp2
                  go_ret
                  exact ⟨ret_bool HR.out.symm, hxr.drewN _⟩
                · have e1 : ((s[k].toNat : Int) == 40) = false := beq_eq_false_iff_ne.2 (by omega)
                  have HB := Lib.hid hb
                  clear hb hlt8 hm
                  go_wp2_with fail
                  go_quiet (fail)
                  go_wp2
                  go_roundw
                  case rel => exact ⟨1, by omega, by go_num, hxr.drewN _, by have h1 := HNB.out; have h2 := HB.out; simp [badB] at h1 ⊢; omega⟩
                  case measure => simp [intOf]
              · subst hm8
                have hbm : ((⟨#[40, 41, 123, 37, 42, 34, 92, 93]⟩ : ByteArray)[1]'(by decide)).toNat = 41 := rfl
                by_cases hb : s[k].toNat = 41
                · have e1 : ((s[k].toNat : Int) == 41) = true := by rw [hb]; rfl
                  have e2 : ((s[k].toNat : Int) != 125) = true := by rw [hb]; rfl
                  have HR := Lib.hid (HNO.out (atomOk_bad (b := 41) (by simp [badB]) hb))
                  clear hb hlt8 hm
                  go_wp2_with fail
                  go_quiet (fail)
                  go_wp2
                  go_ret
                  exact ⟨ret_bool HR.out.symm, hxr.drewN _⟩
                · have e1 : ((s[k].toNat : Int) == 41) = false := beq_eq_false_iff_ne.2 (by omega)
                  have HB := Lib.hid hb
                  clear hb hlt8 hm
                  go_wp2_with fail
                  go_quiet (fail)
                  go_wp2
                  go_roundw
                  case rel => exact ⟨2, by omega, by go_num, hxr.drewN _, by have h1 := HNB.out; have h2 := HB.out; simp [badB] at h1 ⊢; omega⟩
                  case measure => simp [intOf]
              · subst hm8
                have hbm : ((⟨#[40, 41, 123, 37, 42, 34, 92, 93]⟩ : ByteArray)[2]'(by decide)).toNat = 123 := rfl
                by_cases hb : s[k].toNat = 123
                · have e1 : ((s[k].toNat : Int) == 123) = true := by rw [hb]; rfl
                  have e2 : ((s[k].toNat : Int) != 125) = true := by rw [hb]; rfl
                  have HR := Lib.hid (HNO.out (atomOk_bad (b := 123) (by simp [badB]) hb))
                  clear hb hlt8 hm
                  go_wp2_with fail
                  go_quiet (fail)
                  go_wp2
                  go_ret
                  exact ⟨ret_bool HR.out.symm, hxr.drewN _⟩
                · have e1 : ((s[k].toNat : Int) == 123) = false := beq_eq_false_iff_ne.2 (by omega)
                  have HB := Lib.hid hb
                  clear hb hlt8 hm
                  go_wp2_with fail
                  go_quiet (fail)
                  go_wp2
                  go_roundw
                  case rel => exact ⟨3, by omega, by go_num, hxr.drewN _, by have h1 := HNB.out; have h2 := HB.out; simp [badB] at h1 ⊢; omega⟩
                  case measure => simp [intOf]
              · subst hm8
                have hbm : ((⟨#[40, 41, 123, 37, 42, 34, 92, 93]⟩ : ByteArray)[3]'(by decide)).toNat = 37 := rfl
                by_cases hb : s[k].toNat = 37
                · have e1 : ((s[k].toNat : Int) == 37) = true := by rw [hb]; rfl
                  have e2 : ((s[k].toNat : Int) != 125) = true := by rw [hb]; rfl
                  have HR := Lib.hid (HNO.out (atomOk_bad (b := 37) (by simp [badB]) hb))
                  clear hb hlt8 hm
                  go_wp2_with fail
                  go_quiet (fail)
                  go_wp2
                  go_ret
                  exact ⟨ret_bool HR.out.symm, hxr.drewN _⟩
                · have e1 : ((s[k].toNat : Int) == 37) = false := beq_eq_false_iff_ne.2 (by omega)
                  have HB := Lib.hid hb
                  clear hb hlt8 hm
                  go_wp2_with fail
                  go_quiet (fail)
                  go_wp2
                  go_roundw
                  case rel => exact ⟨4, by omega, by go_num, hxr.drewN _, by have h1 := HNB.out; have h2 := HB.out; simp [badB] at h1 ⊢; omega⟩
                  case measure => simp [intOf]
              · subst hm8
                have hbm : ((⟨#[40, 41, 123, 37, 42, 34, 92, 93]⟩ : ByteArray)[4]'(by decide)).toNat = 42 := rfl
                by_cases hb : s[k].toNat = 42
                · have e1 : ((s[k].toNat : Int) == 42) = true := by rw [hb]; rfl
                  have e2 : ((s[k].toNat : Int) != 125) = true := by rw [hb]; rfl
                  have HR := Lib.hid (HNO.out (atomOk_bad (b := 42) (by simp [badB]) hb))
                  clear hb hlt8 hm
                  go_wp2_with fail
                  go_quiet (fail)
                  go_wp2
                  go_ret
                  exact ⟨ret_bool HR.out.symm, hxr.drewN _⟩
                · have e1 : ((s[k].toNat : Int) == 42) = false := beq_eq_false_iff_ne.2 (by omega)
                  have HB := Lib.hid hb
                  clear hb hlt8 hm
                  go_wp2_with fail
                  go_quiet (fail)
                  go_wp2
                  go_roundw
                  case rel => exact ⟨5, by omega, by go_num, hxr.drewN _, by have h1 := HNB.out; have h2 := HB.out; simp [badB] at h1 ⊢; omega⟩
                  case measure => simp [intOf]
              · subst hm8
                have hbm : ((⟨#[40, 41, 123, 37, 42, 34, 92, 93]⟩ : ByteArray)[5]'(by decide)).toNat = 34 := rfl
                by_cases hb : s[k].toNat = 34
                · have e1 : ((s[k].toNat : Int) == 34) = true := by rw [hb]; rfl
                  have e2 : ((s[k].toNat : Int) != 125) = true := by rw [hb]; rfl
                  have HR := Lib.hid (HNO.out (atomOk_bad (b := 34) (by simp [badB]) hb))
                  clear hb hlt8 hm
                  go_wp2_with fail
                  go_quiet (fail)
                  go_wp2
                  go_ret
                  exact ⟨ret_bool HR.out.symm, hxr.drewN _⟩
                · have e1 : ((s[k].toNat : Int) == 34) = false := beq_eq_false_iff_ne.2 (by omega)
                  have HB := Lib.hid hb
                  clear hb hlt8 hm
                  go_wp2_with fail
                  go_quiet (fail)
                  go_wp2
                  go_roundw
                  case rel => exact ⟨6, by omega, by go_num, hxr.drewN _, by have h1 := HNB.out; have h2 := HB.out; simp [badB] at h1 ⊢; omega⟩
                  case measure => simp [intOf]
              · subst hm8
                have hbm : ((⟨#[40, 41, 123, 37, 42, 34, 92, 93]⟩ : ByteArray)[6]'(by decide)).toNat = 92 := rfl
                by_cases hb : s[k].toNat = 92
                · have e1 : ((s[k].toNat : Int) == 92) = true := by rw [hb]; rfl
                  have e2 : ((s[k].toNat : Int) != 125) = true := by rw [hb]; rfl
                  have HR := Lib.hid (HNO.out (atomOk_bad (b := 92) (by simp [badB]) hb))
                  clear hb hlt8 hm
                  go_wp2_with fail
                  go_quiet (fail)
                  go_wp2
                  go_ret
                  exact ⟨ret_bool HR.out.symm, hxr.drewN _⟩
                · have e1 : ((s[k].toNat : Int) == 92) = false := beq_eq_false_iff_ne.2 (by omega)
                  have HB := Lib.hid hb
                  clear hb hlt8 hm
                  go_wp2_with fail
                  go_quiet (fail)
                  go_wp2
                  go_roundw
                  case rel => exact ⟨7, by omega, by go_num, hxr.drewN _, by have h1 := HNB.out; have h2 := HB.out; simp [badB] at h1 ⊢; omega⟩
                  case measure => simp [intOf]
              · subst hm8
                have hbm : ((⟨#[40, 41, 123, 37, 42, 34, 92, 93]⟩ : ByteArray)[7]'(by decide)).toNat = 93 := rfl
                by_cases hb : s[k].toNat = 93
                · have e1 : ((s[k].toNat : Int) == 93) = true := by rw [hb]; rfl
                  have e2 : ((s[k].toNat : Int) != 125) = true := by rw [hb]; rfl
                  have HR := Lib.hid (HNO.out (atomOk_bad (b := 93) (by simp [badB]) hb))
                  clear hb hlt8 hm
                  go_wp2_with fail
                  go_quiet (fail)
                  go_wp2
                  go_ret
                  exact ⟨ret_bool HR.out.symm, hxr.drewN _⟩
                · have e1 : ((s[k].toNat : Int) == 93) = false := beq_eq_false_iff_ne.2 (by omega)
                  have HB := Lib.hid hb
                  clear hb hlt8 hm
                  go_wp2_with fail
                  go_quiet (fail)
                  go_wp2
                  go_roundw
                  case rel => exact ⟨8, by omega, by go_num, hxr.drewN _, by have h1 := HNB.out; have h2 := HB.out; simp [badB] at h1 ⊢; omega⟩
                  case measure => simp [intOf]
            · have hm8 : m = 8 := by omega
              subst hm8
              have HY := Lib.hid (HYES.out (HOK.out (by have := HNB.out; simpa [badB] using this)))
              go_wp2
              go_roundw
              case rel => exact ⟨k + 1, by omega, by go_num, hxr, HY.out⟩
              case measure => simp [intOf]; omega
    · have hk' : k = s.size := by omega
      subst hk'
      have hlt2 : ¬ (s.size : Int) < s.size := by omega
      have hlen : l.length = s.size := by omega
      have HR := Lib.hid (atomL_yes (l := l) (by rw [hlen]; exact hall))
      have HLEN := Lib.hid hlen
      clear hlen hall
      go_wp2
      go_ret
      refine ⟨ret_bool ?_, hx⟩
      rw [HR.out, Bool.eq_iff_iff]
      have := HLEN.out
      cases l <;> simp at * <;> omega
end Go.Proofs.Ytkjklpalpodbgaa
