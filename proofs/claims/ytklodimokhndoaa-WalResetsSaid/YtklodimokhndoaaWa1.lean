/- The walks of the log's skip and chunk. Conditions: the hypotheses of each theorem. -/
import Derived.Test.YtklodimokhndoaaWa0
import Derived.Test.YtklodimokhndoaaFrm2
import Derived.Deep.RegionHeld3
import Derived.BigQuiet
import Derived.Deep.QuietTactic
namespace Go.Proofs.Ytklodimokhndoaa
open Go.RowKit
theorem wrapI (x : Int) (h1 : -9223372036854775808 ≤ x) (h2 : x < 9223372036854775808) : IntKind.i64.wrap x = x := by
  unfold IntKind.wrap
  simp [IntKind.bits, IntKind.signed]
  omega
theorem wskip_any (a : Nat) (w : World) (ha : a ≤ 1000000000) : Calls Try.prog 44 #[.int .i64 a] w fun e w' => e = .returned (.int .i64 (skipF a : Nat)) ∧ w' = w := by
  have hm : (a : Int) % 64 = ((a % 64 : Nat) : Int) := by omega
  have hlt : a % 64 < 64 := Nat.mod_lt _ (by omega)
  have HS : Hid (skipF a = if 64 - a % 64 ≤ 3 then a + (64 - a % 64) else a) := Lib.hid rfl
  generalize hmm : a % 64 = m at *
  have HM := Lib.hid hmm
  clear hmm
  have h1 : IntKind.i64.wrap (64 - (m : Int)) = 64 - (m : Int) := wrapI _ (by omega) (by omega)
  have h2 : IntKind.i64.wrap ((a : Int) + (64 - (m : Int))) = (a : Int) + (64 - (m : Int)) := wrapI _ (by omega) (by omega)
  go_enter Try.func44, Try.ntmps44
  by_cases hc : 64 - m ≤ 3
  · have hc2 : 64 - (m : Int) ≤ 3 := by omega
    go_wp2
    go_ret
    refine ⟨?_, rfl⟩
    rw [HS.out, if_pos hc, show ((a + (64 - m) : Nat) : Int) = (a : Int) + (64 - (m : Int)) by omega]
    rfl
  · have hc2 : ¬ 64 - (m : Int) ≤ 3 := by omega
    go_wp2
    go_ret
    refine ⟨?_, rfl⟩
    rw [HS.out, if_neg hc]
    rfl
theorem getD_at {b : By} {i : Nat} (h : i < b.length) : (b.getD i 0) = b[i] := by rw [List.getD_eq_getElem?_getD, List.getElem?_eq_getElem h]; rfl
/-- what chunk tells -/
def ChunkSays (b : By) (at_ : Nat) (w : World) (e : Ending) (w' : World) : Prop :=
  Ext w w' ∧ match chunkF b at_ with
    | none => e = .returned (.tuple #[.int .u8 0, .slice none 0 0, .int .i64 0, .bool false])
    | some (k, p, nx) => ∃ A' c, e = .returned (.tuple #[.int .u8 k, .slice A' p.length c, .int .i64 nx, .bool true]) ∧ Bs w A' p ∧ p.length ≤ c
set_option maxRecDepth 20000 in
set_option maxHeartbeats 1000000 in
theorem wchunk_any (A : Option Addr) (c : Nat) (b : By) (at_ : Nat) (w : World) (hb : Bs w A b) (hc : b.length ≤ c) (hl : b.length % 64 = 0) (hbl : b.length ≤ 1000000) (ha : at_ ≤ 1000000) :
    Calls Try.prog 74 #[.slice A b.length c, .int .i64 at_] w (ChunkSays b at_ w) := by
  have HB := Lib.hid hb
  have HK := wskip_any at_ w (by omega)
  have h1 := skipF_ge at_
  have h2 := skipF_le at_
  have h4 := skipF_room at_
  have HF : Hid (chunkF b at_ = if b.length ≤ skipF at_ + 3 then none
  else if (b.getD (skipF at_) 0).toNat < 1 ∨ 4 < (b.getD (skipF at_) 0).toNat ∨ (b.getD (skipF at_ + 1) 0).toNat = 0 ∨ skipF at_ - skipF at_ % 64 + 63 < skipF at_ + 2 + (b.getD (skipF at_ + 1) 0).toNat ∨ (b.getD (skipF at_ + 2 + (b.getD (skipF at_ + 1) 0).toNat) 0).toNat ≠ 231 then none
  else some ((b.getD (skipF at_) 0).toNat, (b.drop (skipF at_ + 2)).take (b.getD (skipF at_ + 1) 0).toNat, skipF at_ + 3 + (b.getD (skipF at_ + 1) 0).toNat)) := Lib.hid rfl
  clear hb
  generalize skipF at_ = s at *
  have w3 : IntKind.i64.wrap ((s : Int) + 3) = (s : Int) + 3 := wrapI _ (by omega) (by omega)
  have w1 : IntKind.i64.wrap ((s : Int) + 1) = (s : Int) + 1 := wrapI _ (by omega) (by omega)
  go_enter Try.func74, Try.ntmps74
  go_wp2_with fail
  refine HK.mono ?_
  rintro e w' ⟨rfl, rfl⟩
  clear HK
  by_cases hs : b.length ≤ s + 3
  · have hs2 : (b.length : Int) ≤ (s : Int) + 3 := by omega
    go_wp2_with fail
    ((try simp only [Exit.inBlock, Exit.then]); refine bodyPost_ret (results_tmp4 rfl _ _ _) rfl ?_)
    refine ⟨Ext.refl _, ?_⟩
    rw [HF.out, if_pos hs]
    rfl
  · have hs2 : ¬ (b.length : Int) ≤ (s : Int) + 3 := by omega
    rw [if_neg hs] at HF
    have hlt : s < b.length := by omega
    have hlt1 : s + 1 < b.length := by omega
    obtain ⟨ad, rfl, hk⟩ := HB.out.at_ hlt
    obtain ⟨ad', e', hn⟩ := HB.out.at_ hlt1
    cases e'
    replace hk := hk w' (Ext.refl _)
    replace hn := hn w' (Ext.refl _)
    rw [getD_at hlt, getD_at hlt1] at HF
    have hku := b[s].toNat_lt
    have hnu := b[s + 1].toNat_lt
    generalize b[s].toNat = kk at *
    generalize b[s + 1].toNat = n at *
    have w2 : IntKind.i64.wrap ((s : Int) + 3 + (n : Int)) = (s : Int) + 3 + (n : Int) := wrapI _ (by omega) (by omega)
    have ean : ad.add (s + 1) = ⟨ad.block, ad.off + (s + 1), none⟩ := add_pos' _ _
    rw [ean] at hn
    clear ean
    have hsl : ((s : Int)).toNat = s := by omega
    have hsl1 : ((s : Int) + 1).toNat = s + 1 := by omega
    have hi1 : (s : Int) < (b.length : Int) := by omega
    have hi2 : (s : Int) + 1 < (b.length : Int) := by omega
    go_wp2_with fail
    go_quiet (fail)
    have hxq : Ext w' (w'.drewN nq) := (Ext.refl _).drewN nq
    generalize w'.drewN nq = wq at *
    have HXQ := Lib.hid hxq
    clear hk hn hxq hi1 hi2 hsl hsl1 w1 w3
    have hmod : (s : Int) % 64 = ((s % 64 : Nat) : Int) := by omega
    have hmlt : s % 64 < 64 := Nat.mod_lt _ (by omega)
    have hsm : s % 64 ≤ s := Nat.mod_le _ _
    have hpage : s - s % 64 + 64 ≤ b.length := by omega
    generalize s % 64 = m at *
    have wa : IntKind.i64.wrap ((s : Int) + 3 + (n : Int) - 1) = (s : Int) + 3 + (n : Int) - 1 := wrapI _ (by omega) (by omega)
    have wb : IntKind.i64.wrap ((s : Int) - (m : Int)) = (s : Int) - (m : Int) := wrapI _ (by omega) (by omega)
    have wc : IntKind.i64.wrap ((s : Int) - (m : Int) + 64) = (s : Int) - (m : Int) + 64 := wrapI _ (by omega) (by omega)
    have wd : IntKind.i64.wrap ((s : Int) - (m : Int) + 64 - 1) = (s : Int) - (m : Int) + 64 - 1 := wrapI _ (by omega) (by omega)
    by_cases c1 : kk < 1
    · have t1 : (kk : Int) < 1 := by omega
      go_wp2_with fail
      ((try simp only [Exit.inBlock, Exit.then]); refine bodyPost_ret (results_tmp4 rfl _ _ _) rfl ?_)
      refine ⟨HXQ.out, ?_⟩
      rw [HF.out, if_pos (.inl c1)]
      rfl
    have t1 : ¬ (kk : Int) < 1 := by omega
    by_cases c2 : 4 < kk
    · have t2 : (4 : Int) < (kk : Int) := by omega
      go_wp2_with fail
      ((try simp only [Exit.inBlock, Exit.then]); refine bodyPost_ret (results_tmp4 rfl _ _ _) rfl ?_)
      refine ⟨HXQ.out, ?_⟩
      rw [HF.out, if_pos (.inr (.inl c2))]
      rfl
    have t2 : ¬ (4 : Int) < (kk : Int) := by omega
    by_cases c3 : n = 0
    · have t3 : ((n : Int) == 0) = true := by simpa using c3
      go_wp2_with fail
      ((try simp only [Exit.inBlock, Exit.then]); refine bodyPost_ret (results_tmp4 rfl _ _ _) rfl ?_)
      refine ⟨HXQ.out, ?_⟩
      rw [HF.out, if_pos (.inr (.inr (.inl c3)))]
      rfl
    have t3 : ((n : Int) == 0) = false := by simpa using c3
    by_cases c4 : s - m + 63 < s + 2 + n
    · have t4 : (s : Int) - (m : Int) + 64 - 1 < (s : Int) + 3 + (n : Int) - 1 := by omega
      go_wp2_with fail
      ((try simp only [Exit.inBlock, Exit.then]); refine bodyPost_ret (results_tmp4 rfl _ _ _) rfl ?_)
      refine ⟨HXQ.out, ?_⟩
      rw [HF.out, if_pos (.inr (.inr (.inr (.inl c4))))]
      rfl
    have t4 : ¬ (s : Int) - (m : Int) + 64 - 1 < (s : Int) + 3 + (n : Int) - 1 := by omega
    have hlt2 : s + 2 + n < b.length := by omega
    obtain ⟨ad', e', hq⟩ := HB.out.at_ hlt2
    cases e'
    replace hq := hq wq HXQ.out
    rw [getD_at hlt2] at HF
    have hix : ((s : Int) + 3 + (n : Int) - 1).toNat = s + 2 + n := by omega
    have hi3 : (s : Int) + 3 + (n : Int) - 1 < (b.length : Int) := by omega
    have hi4 : 0 ≤ (s : Int) + 3 + (n : Int) - 1 := by omega
    generalize b[s + 2 + n].toNat = mk at *
    by_cases c5 : mk = 231
    · have t5 : ((mk : Int) != 231) = false := by simp; omega
      obtain ⟨A3, e3, f3⟩ := cutB_lh (P := Try.prog) Try.underlying46 size8 (some ad) b.length c b (s + 2) (s + 2 + n) (li := (s : Int) + 2) (hi := (s : Int) + 3 + (n : Int) - 1) (by omega) (by omega) rfl (by omega) hc (by omega)
      have hsub : s + 2 + n - (s + 2) = n := by omega
      rw [hsub] at e3 f3
      have HP := Lib.hid (f3 w' HB.out)
      have HLN : Hid (((b.drop (s + 2)).take n).length = n) := Lib.hid (by rw [List.length_take, List.length_drop]; omega)
      have HCP : Hid (n ≤ c - (s + 2)) := Lib.hid (by omega)
      have we : IntKind.i64.wrap ((s : Int) + 2) = (s : Int) + 2 := wrapI _ (by omega) (by omega)
      have HN := Lib.hid (show ¬(kk < 1 ∨ 4 < kk ∨ n = 0 ∨ s - m + 63 < s + 2 + n ∨ mk ≠ 231) by omega)
      clear hsub f3 hix
      go_wp2_with fail
      go_quiet (fail)
      have hxr : Ext wq (wq.drewN nq) := (Ext.refl _).drewN nq
      generalize wq.drewN nq = wz at *
      have HXZ := Lib.hid (HXQ.out.trans hxr)
      go_wp2
      ((try simp only [Exit.inBlock, Exit.then]); refine bodyPost_ret (results_tmp4 rfl _ _ _) rfl ?_)
      refine ⟨HXZ.out, ?_⟩
      rw [HF.out, if_neg HN.out]
      refine ⟨A3, c - (s + 2), ?_, HP.out, by rw [HLN.out]; exact HCP.out⟩
      rw [HLN.out, show ((s + 3 + n : Nat) : Int) = (s : Int) + 3 + (n : Int) by omega]
      rfl
    · have t5 : ((mk : Int) != 231) = true := by simp; omega
      go_wp2_with fail
      ((try simp only [Exit.inBlock, Exit.then]); refine bodyPost_ret (results_tmp4 rfl _ _ _) rfl ?_)
      refine ⟨HXQ.out, ?_⟩
      rw [HF.out, if_pos (.inr (.inr (.inr (.inr c5))))]
      rfl
end Go.Proofs.Ytklodimokhndoaa
