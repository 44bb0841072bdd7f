/- The walks of text.Atom, text.Word and the reference's. Conditions: the lengths named in each theorem. -/
import Derived.Test.YtchokelpimibdaaText1
import Derived.Deep.QuietTactic
import Derived.BigQuiet
namespace Go.Proofs.Ytchokelpimibdaa
open Go.RowKit
def badB : List Nat := [40, 41, 123, 37, 42, 34, 92, 93]
def atomOk (c : UInt8) : Bool := decide (33 ≤ c.toNat ∧ c.toNat ≤ 126 ∧ c.toNat ∉ badB)
def atomL (l : List UInt8) : Bool := !l.isEmpty && l.all atomOk
theorem atomL_no {l : List UInt8} {k : Nat} (h : k < l.length) (hk : atomOk l[k] = false) : atomL l = false := by
  unfold atomL
  rw [Bool.and_eq_false_iff]
  right
  rw [List.all_eq_false]
  exact ⟨l[k], List.getElem_mem h, by simp [hk]⟩
theorem atomL_yes {l : List UInt8} (h : (l.take l.length).all atomOk = true) : atomL l = !l.isEmpty := by
  unfold atomL
  rw [List.take_length] at h
  rw [h, Bool.and_true]
theorem all_take {l : List UInt8} {k : Nat} (h : k < l.length) (hk : (l.take k).all atomOk = true) (hc : atomOk l[k] = true) : (l.take (k + 1)).all atomOk = true := by
  rw [List.take_succ_eq_append_getElem h, List.all_append, hk]
  simp [hc]
set_option maxHeartbeats 1000000 in
theorem Atom_any (s : ByteArray) (w : World) (hs : s.size ≤ 140737488355328) : Calls Try.prog 39 #[.string s] w fun e w' => e = .returned (.bool (atomL (tl s))) ∧ Ext w w' := by
  have hget := tl_get? s
  have hsz := tl_length s
  generalize hl : tl s = l at *
  have HS := Lib.hid hsz
  have HL := Lib.hid hl
  have HG := Lib.hid hget
  have hs1 : s.size ≤ l.length := by omega
  have hs2 : l.length ≤ s.size := by omega
  have hit0 : It (w.iter s 0) w.heap.size s 0 := World.iter_heap w s 0
  have hx0 : Ext w (w.iter s 0) := (Ext.refl w).alloc _
  clear hsz hl hget
  go_enter Try.func39, Try.ntmps39
  go_wp2
  go_loopw [] (fun wr => ∃ pos : Nat, pos ≤ s.size ∧ It wr w.heap.size s pos ∧ Ext w wr ∧ (l.take pos).all atomOk = true) (fun wr => s.size - wr.iterPos w.heap.size)
  case atStart => exact ⟨0, by omega, hit0, hx0, by simp⟩
  case round =>
    obtain ⟨pos, hp, hit, hx, hall⟩ := hrel
    clear hit0 hx0
    have hpos := iterPos_of hit
    by_cases hlt : pos < s.size
    · have hkl : pos < l.length := by omega
      have hgk : l[pos] = s[pos] := by have := HG.out pos hlt; rw [List.getElem?_eq_getElem hkl] at this; simpa using this
      have hno := fun h : atomOk s[pos] = false => atomL_no hkl (by rw [hgk]; exact h)
      have hyes := fun h : atomOk s[pos] = true => all_take hkl hall (by rw [hgk]; exact h)
      have hnx := hit.next hlt
      have hcl := s[pos].toNat_lt
      have hit2 := hit.at_ (pos + (Utf8.decode s pos).2)
      have hx2 := hx.iterAt (pos := pos + (Utf8.decode s pos).2) (s := s) (Nat.le_refl w.heap.size)
      have HPOS := Lib.hid hpos
      by_cases h128 : s[pos].toNat < 128
      · have hd := decode_ascii s pos hlt h128
        rw [hd] at hnx hit2 hx2
        simp only [] at hnx hit2 hx2
        have hpos2 := Lib.hid (iterPos_of hit2)
        have HNO := Lib.hid hno
        have HYES := Lib.hid hyes
        clear hno hyes hd hgk hall hpos
        by_cases hok : atomOk s[pos] = true
        · have hok' := hok
          simp only [atomOk, badB, decide_eq_true_eq, List.mem_cons, List.not_mem_nil, or_false, not_or] at hok'
          obtain ⟨o1, o2, o3, o4, o5, o6, o7, o8, o9, o10⟩ := hok'
          have t0 : ¬ (s[pos].toNat : Int) ≤ 32 := by omega
          have t1 : ¬ (126 : Int) < (s[pos].toNat : Int) := by omega
          have b0 : ((s[pos].toNat : Int) == 40) = false := beq_eq_false_iff_ne.2 (by omega)
          have b1 : ((s[pos].toNat : Int) == 41) = false := beq_eq_false_iff_ne.2 (by omega)
          have b2 : ((s[pos].toNat : Int) == 123) = false := beq_eq_false_iff_ne.2 (by omega)
          have b3 : ((s[pos].toNat : Int) == 37) = false := beq_eq_false_iff_ne.2 (by omega)
          have b4 : ((s[pos].toNat : Int) == 42) = false := beq_eq_false_iff_ne.2 (by omega)
          have b5 : ((s[pos].toNat : Int) == 34) = false := beq_eq_false_iff_ne.2 (by omega)
          have b6 : ((s[pos].toNat : Int) == 92) = false := beq_eq_false_iff_ne.2 (by omega)
          have b7 : ((s[pos].toNat : Int) == 93) = false := beq_eq_false_iff_ne.2 (by omega)
          clear o1 o2 o3 o4 o5 o6 o7 o8 o9 o10
          have HOK := Lib.hid hok
          clear hok
          go_wp2
          go_roundw
          case rel => exact ⟨pos + 1, by omega, hit2, hx2, HYES.out HOK.out⟩
          case measure => rw [hpos2.out, HPOS.out]; omega
        · have hok' : atomOk s[pos] = false := by simpa using hok
          have HR := Lib.hid (HNO.out hok')
          have HOK := Lib.hid hok
          clear hok hok'
          go_wp2
          all_goals first
            | (go_ret; exact ⟨ret_bool HR.out.symm, hx2⟩)
            | (exfalso; refine HOK.out ?_; simp only [atomOk, badB, decide_eq_true_eq, List.mem_cons, List.not_mem_nil, or_false, not_or]; simp at *; omega)
      · have hd := decode_high s pos hlt (by omega)
        have hok : atomOk s[pos] = false := by simp only [atomOk, decide_eq_false_iff_not]; omega
        have HR := Lib.hid (hno hok)
        have t0 : ¬ (((Utf8.decode s pos).1 : Nat) : Int) ≤ 32 := by omega
        have t1 : (126 : Int) < (((Utf8.decode s pos).1 : Nat) : Int) := by omega
        clear hno hyes hok hgk hall hpos hd
        go_wp2
        go_ret
        exact ⟨ret_bool HR.out.symm, hx2⟩
    · have hp' : pos = s.size := by omega
      subst hp'
      have hst := hit.stop (by omega)
      have hlen : l.length = s.size := by omega
      have HR := Lib.hid (atomL_yes (l := l) (by rw [hlen]; exact hall))
      have HLEN := Lib.hid hlen
      have hemp : s = ⟨#[]⟩ ↔ l = [] := by
        rw [← HL.out, st_ext]
        rfl
      have HE := Lib.hid hemp
      clear hlen hall hemp hpos
      by_cases h0 : l = []
      · have h1 := HE.out.2 h0
        have hs0 : s.toList = [] := by rw [ByteArray.toList_eq, h1]
        have HR2 : Hid (atomL l = false) := Lib.hid (by rw [HR.out, h0]; rfl)
        have HH := Lib.hid h1
        clear h1 h0
        go_wp2
        go_ret
        exact ⟨ret_bool (by rw [HR2.out]), hx⟩
      · have hs0 : ¬ s.toList = [] := by rw [ByteArray.toList_eq]; exact fun h => h0 (by rw [← HL.out]; exact h)
        have hs1' : s.toList.isEmpty = false := by simpa using hs0
        have HR2 : Hid (atomL l = true) := Lib.hid (by rw [HR.out]; simpa using h0)
        clear h0
        go_wp2
        go_ret
        exact ⟨ret_bool (by rw [HR2.out]), hx⟩
theorem atomOk_bad {c : UInt8} {b : Nat} (hb : b ∈ badB) (h : c.toNat = b) : atomOk c = false := by
  simp only [atomOk, decide_eq_false_iff_not]
  rintro ⟨_, _, h3⟩
  exact h3 (by rw [h]; exact hb)
end Go.Proofs.Ytchokelpimibdaa
