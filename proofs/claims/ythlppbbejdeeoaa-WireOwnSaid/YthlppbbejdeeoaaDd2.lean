/- The walks of deed.num, short, long, within. Conditions: the bounds named. -/
import Derived.Test.YthlppbbejdeeoaaChecked
import Derived.Test.YthlppbbejdeeoaaDd0
import Derived.Test.YthlppbbejdeeoaaRet
import Derived.Lib.AppendStr
namespace Go.Proofs.Ythlppbbejdeeoaa
open Go.RowKit
theorem within_any (b : Bool) (n l h : Int) (w : World) : Calls Try.prog 55 #[.bool b, .int .i64 n, .int .i64 l, .int .i64 h] w fun e w' => e = .returned (.bool (withinB b n l h)) ∧ w = w' := by
  cases b
  · by_cases h0 : n = 0
    · subst h0
      go_enter Try.func55, Try.ntmps55
      go_wp2
      go_ret
      exact ⟨by simp [withinB], rfl⟩
    · have h1 : (n == 0) = false := by simpa using h0
      go_enter Try.func55, Try.ntmps55
      go_wp2
      go_ret
      exact ⟨by simp [withinB, h0], rfl⟩
  · by_cases h1 : l ≤ n
    · by_cases h2 : n ≤ h
      all_goals
        go_enter Try.func55, Try.ntmps55
        go_wp2
        go_ret
        exact ⟨by simp [withinB, h1, h2], rfl⟩
    · go_enter Try.func55, Try.ntmps55
      go_wp2
      go_ret
      exact ⟨by simp [withinB]; omega, rfl⟩
theorem shr_byte (v m : Nat) : ((v : Int) / 2 ^ (8 * m)) = ((v / 256 ^ m : Nat) : Int) := by
  have : (2 : Int) ^ (8 * m) = ((256 ^ m : Nat) : Int) := by rw [Int.pow_mul]; simp
  rw [this]; simp
theorem wrap_byte (q : Nat) : IntKind.u8.wrap (q : Int) = ((UInt8.ofNat q).toNat : Int) := by
  rw [IntKind.wrap_u8]
  simp
set_option maxHeartbeats 1000000 in
theorem num_any (w0 w : World) (b : Value) (l : By) (v n : Nat) (hx : Ext w0 w) (ho : Own w w0.heap.size b l) (hl : l.length + 4 ≤ 140737488355328) (hn : n ≤ 4) :
    Calls Try.prog 38 #[b, .int .i64 v, .int .i64 n] w fun e w' => ∃ b', e = .returned b' ∧ Own w' w0.heap.size b' (l ++ beN n v) ∧ Ext w0 w' := by
  obtain ⟨ls, hls⟩ : ∃ ls, ls = l ++ beN n v := ⟨_, rfl⟩
  rw [← hls]
  have HLS := Lib.hid hls
  clear hls
  go_enter Try.func38, Try.ntmps38
  go_wp2
  go_loopw [0, 7] (fun b' k wr => ∃ (m : Nat) (l' : By), k = .int .i64 ((m : Int) - 1) ∧ m ≤ n ∧ Own wr w0.heap.size b' l' ∧ l' ++ beN m v = ls ∧ Ext w0 wr) (fun _ k _ => ((intOf k) + 1).toNat)
  case atStart => exact ⟨n, l, rfl, Nat.le_refl _, ho, HLS.out.symm, hx⟩
  case round =>
    clear ho hx
    obtain ⟨m, l', rfl, hmn, ho, hls, hx⟩ := hrel
    have HLEN := Lib.hid (congrArg List.length hls)
    have HLN := Lib.hid (congrArg List.length HLS.out)
    match m with
    | 0 =>
      rw [beN, List.append_nil] at hls
      subst hls
      go_wp2
      go_ret
      exact ⟨_, rfl, ho, hx⟩
    | m + 1 =>
      rw [beN] at hls
      have HL := Lib.hid hls
      clear hls
      have e1 : ((m + 1 : Nat) : Int) - 1 = (m : Int) := by omega
      have hsh := shr_byte v m
      have e2 : ((8 : Int) * (m : Int)).toNat = 8 * m := by omega
      have hwb := wrap_byte (v / 256 ^ m)
      obtain ⟨A, cap, rfl⟩ := ho.form
      rw [e1]
      go_wp2_with (at_builtin; refine unstop ?_)
      refine go_on (wpList_appB bytesTr (ho.alloc _) (Bs.new _ [UInt8.ofNat (v / 256 ^ m)] _ rfl _ _) rfl rfl rfl rfl rfl (by have := HLEN.out; have := HLN.out; simp only [List.length_append, beN_length, List.length_cons, List.length_nil] at *; omega) (by have := hx.size; simp; omega) ?_)
      intro b' w1 ho1 hg1 _
      have hx1 : Ext w0 w1 := (hx.alloc _).own (ho.alloc _) (Nat.le_refl _) hg1
      clear hsh e1 e2 hwb hg1
      go_wp2
      go_roundw
      case rel => exact ⟨m, _, rfl, by omega, ho1, by rw [← HL.out, List.append_assoc]; rfl, hx1⟩
      case measure => simp [intOf]
theorem strCells_st (m : By) : Lib.strCells (st m) = bv m := by
  unfold Lib.strCells bv
  simp [st]
/-- append of a text -/
theorem wpList_appS {w : World} {ops : Array Oper} {rest : List Oper} {o : Oper} {a : Act} {Q : Exit → Act → World → Prop} {s x : Operand}
    {base : Nat} {v : Value} {l m : List UInt8} (hown : Own w base v l)
    (hgd : o.guard = none) (ho : o.op = .call { callee := .builtin .append, args := #[s, x], argTypes := #[32, 9] })
    (hs : a.eval s = v) (hx : a.eval x = .string (st m)) (hb : l.length + m.length ≤ 140737488355328) (hbase : base ≤ w.heap.size)
    (h : ∀ v' w', Own w' base v' (l ++ m) → w.grownBy w' v.ownBlock → wpList Try.prog ops Q rest (a.put o.dst v') w') : wpList Try.prog ops Q (o :: rest) a w := by
  obtain ⟨i, hi, hz, hsize, hby⟩ := info_parts (show (Try.prog.info? 5).map (fun i => (i.zero, i.size, i.bytes)) = some (some (.int .u8 0), 1, 1) by kernel_rfl)
  refine Lib.wpList_append_own_string _ hgd s x 32 9 ho base 5 i Try.underlying32 Try.underlying9 hi hz hsize hby v l.length (bv l) hs hown (st m) hx (by unfold maxLen; rw [st_size]; omega) (by rw [st_size]; omega) hbase ?_
  intro v' w' h1 h2 _
  refine h v' w' ?_ h2
  unfold Own
  rw [st_size, strCells_st] at h1
  rw [bv_append, List.length_append]
  exact h1
set_option maxHeartbeats 1000000 in
theorem long_any (w0 w : World) (b : Value) (l p : By) (A : Option Addr) (c : Nat) (hx : Ext w0 w) (ho : Own w w0.heap.size b l) (hp : Bs w0 A p) (hl : l.length + p.length + 8 ≤ 140737488355328) :
    Calls Try.prog 41 #[b, .slice A p.length c] w fun e w' => ∃ b', e = .returned b' ∧ Own w' w0.heap.size b' (l ++ longB p) ∧ Ext w0 w' := by
  have HN := num_any w0 w b l p.length 2 hx ho (by omega) (by omega)
  go_enter Try.func41, Try.ntmps41
  go_wp2_with fail
  refine HN.mono ?_
  rintro e w1 ⟨b1, rfl, ho1, hx1⟩
  go_wp2_with (at_builtin; refine unstop ?_)
  refine go_on (wpList_appB bytesTr ho1 (hp.ext hx1) rfl rfl rfl rfl rfl (by simp; omega) hx1.size ?_)
  intro b2 w2 ho2 hg2 _
  have hx2 := hx1.own ho1 (Nat.le_refl _) hg2
  clear hg2 ho1 ho HN hp
  go_wp2
  go_ret
  exact ⟨_, rfl, by simpa [longB] using ho2, hx2⟩
set_option maxHeartbeats 1000000 in
theorem short_any (w0 w : World) (b : Value) (l p : By) (hx : Ext w0 w) (ho : Own w w0.heap.size b l) (hl : l.length + p.length + 8 ≤ 140737488355328) :
    Calls Try.prog 40 #[b, .string (st p)] w fun e w' => ∃ b', e = .returned b' ∧ Own w' w0.heap.size b' (l ++ shortB p) ∧ Ext w0 w' := by
  have HN := num_any w0 w b l p.length 1 hx ho (by omega) (by omega)
  obtain ⟨s, hs⟩ : ∃ s, s = st p := ⟨_, rfl⟩
  have hz : s.size = p.length := by rw [hs, st_size]
  rw [← hs]
  have HS := Lib.hid hs
  clear hs
  go_enter Try.func40, Try.ntmps40
  go_wp2_with fail
  refine HN.mono ?_
  rintro e w1 ⟨b1, rfl, ho1, hx1⟩
  go_wp2_with (at_builtin; refine unstop ?_)
  refine go_on (wpList_appS ho1 rfl rfl rfl (congrArg Value.string HS.out) (by simp; omega) hx1.size ?_)
  intro b2 w2 ho2 hg2
  have hx2 := hx1.own ho1 (Nat.le_refl _) hg2
  clear hg2 ho1 ho HN
  go_wp2
  go_ret
  exact ⟨_, rfl, by simpa [shortB] using ho2, hx2⟩
end Go.Proofs.Ythlppbbejdeeoaa
