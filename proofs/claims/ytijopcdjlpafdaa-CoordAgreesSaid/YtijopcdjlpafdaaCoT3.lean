/- The walk of the law CoordTxs: it answers true. Conditions: the script and the bytes stand in memory. -/
import Derived.Test.YtijopcdjlpafdaaCoT2
import Derived.Deep.Cut
import Derived.Deep.CutRange
namespace Go.Proofs.Ytijopcdjlpafdaa
open Go.RowKit
theorem boot_len (s : Cs) : (bootO s).1.length ≤ 100 := by
  unfold bootO
  split
  · simp
  · simp [be4]
theorem putD_len (t : Tr) (h : t.shards.length ≤ 4) : (putD t).length ≤ 100 := by
  unfold putD be4
  simp
  omega
theorem vote_len {s : Cs} (hs : s.Ok) (id : TxI) (shard : Int) (yes : Bool) : (voteO s id shard yes).r.length ≤ 100 := by
  unfold voteO
  cases hat : s.at_ id false with
  | none => simp
  | some i =>
    have hr := (rightF_len (hs.rows _ (row_mem (at_some hat).1)).right).2
    simp only
    split
    · simp
    · split
      · split <;> simp
      · simp only
        split
        · exact putD_len _ hr
        · simp
theorem ack_len (s : Cs) (id : TxI) (shard : Int) : (ackO s id shard).r.length ≤ 100 := by
  unfold ackO
  cases s.at_ id true with
  | none => simp
  | some i =>
    simp only
    split
    · simp
    · split
      · simp [be4]
      · simp
section
variable {w wr w' : World} {p : Nat} {lv tv : Value} {x : Cs} {log : List By} {txs : List TxI}
theorem TMem.fresh (h : TMem w wr p lv tv x log txs) {y : Cs} (hx : Ext wr w') (hp : wr.heap.size < w'.heap.size) (hc : ∀ M, Co M w' wr.heap.size y) : TMem w w' wr.heap.size lv tv y log txs := by
  obtain ⟨vs, q1, q2⟩ := h.lo
  have h1 := q1.lt
  have h2 := h.to.lt
  refine ⟨h.ex.trans hx, h.ex.size, ⟨wr.heap.size :: (lv.ownBlock.toList ++ tv.ownBlock.toList), hc _, by simp, fun k hk => ?_, fun g hg => by simp [hg], fun g hg => by simp [hg], fun k hk => ?_⟩, h.lo.ext hx, owns_ext h.to hx⟩
  · rcases List.mem_cons.1 hk with rfl | hk
    · exact hp
    · rcases List.mem_append.1 hk with hk | hk
      · have := (h1 k (by simpa using hk)).2; omega
      · have := (h2 k (by simpa using hk)).2; omega
  · rcases List.mem_cons.1 hk with rfl | hk
    · exact h.ex.size
    · rcases List.mem_append.1 hk with hk | hk
      · exact (h1 k (by simpa using hk)).1
      · exact (h2 k (by simpa using hk)).1
theorem TMem.recAt {lA : Option Addr} {n lc : Nat} (h : TMem w wr p (.slice lA n lc) tv x log txs) {j : Nat} (hj : j < log.length) : ∃ ad A' cap, lA = some ad ∧ wr.cell? (ad.add j) = some (.slice A' log[j].length cap) ∧ Bs wr A' log[j] ∧ log[j].length ≤ cap := by
  obtain ⟨vs, q1, q2⟩ := h.lo
  obtain ⟨u, q3, q4⟩ := q2 j log[j] (List.getElem?_eq_getElem hj)
  obtain ⟨ad, e, hc⟩ := Sl.own q1 rfl j u q3
  obtain ⟨A', cap, rfl⟩ := q4.form
  exact ⟨ad, A', cap, e, hc, q4.bs, q4.cap.1⟩
end
/-- what the calls of a script and the name at g say -/
def SVx (w : World) (g : Nat) (id : TxI) (W : World) : Prop := Ext w W ∧ TxAt W g id
theorem SVx.drew {w W : World} {g : Nat} {id : TxI} (h : SVx w g id W) : SVx w g id W.drew := ⟨h.1.drew, h.2⟩
set_option maxRecDepth 20000 in
set_option maxHeartbeats 2000000 in
theorem Txs_any (l : List Cl) (an : By) (A Aa : Option Addr) (c ca : Nat) (w : World) (hl : RsM RCl 9 [] w A l) (ha : Bs w Aa an) (han : an.length ≤ 140737488351232) :
    Calls Try.prog 3 #[.slice A l.length c, .slice Aa an.length ca] w (Yes w) := by
  have HLS := Lib.hid hl
  have HAN := Lib.hid ha
  have HN := CNew_any 2 w (by omega) (by omega)
  unfold Yes
  unfold pt at HN
  clear hl ha
  go_enter Try.func3, Try.ntmps3
  go_wp2_with fail
  refine HN.mono ?_
  rintro e w1 ⟨rfl, hx1, hp1, hco1⟩
  have hM0 : TMem w w1 w.heap.size (.slice none 0 0) (.slice none 0 0) (N0 2) [] [] :=
    ⟨hx1, Nat.le_refl _, ⟨[w.heap.size], hco1 _, by simp, one_lt hp1, by simp [Value.ownBlock], by simp [Value.ownBlock], one_ge (Nat.le_refl _)⟩, OwnS.nil _ _, World.ownsRow_nil _ _ _ _⟩
  have HM0 := Lib.hid hM0
  clear hx1 hp1 hco1 HN hM0
  go_wp2
  go_loopw [5, 7, 8, 9, 10] (fun xv lv tv kv iv wr => ∃ (i k p : Nat) (x : Cs) (log : List By) (txs : List TxI), xv = .pointer (some ⟨p, 0, none⟩) ∧ kv = .int .i64 k ∧ iv = .int .i64 i ∧ i ≤ l.length ∧ i ≤ 120 ∧ k ≤ an.length ∧ Hid (TMem w wr p lv tv x log txs) ∧ Hid (TInv 2 x log txs (2 * i)) ∧ log.length ≤ 2 * i ∧ txs.length ≤ i ∧ Hid (∀ r ∈ log, r.length ≤ 100)) (fun _ _ _ _ iv _ => l.length - (intOf iv).toNat)
  case atStart => exact ⟨0, 0, _, _, [], [], rfl, rfl, rfl, by omega, by omega, by omega, HM0, Lib.hid (TInv.start 2), by simp, by simp, Lib.hid (by simp)⟩
  case round =>
    obtain ⟨i, k, p, x, log, txs, rfl, rfl, rfl, hil, hi, hk, HM, HI, hll, htl, HRL⟩ := hrel
    clear HM0
    by_cases hlt : i < l.length ∧ i < 120
    · obtain ⟨hlt, hlt120⟩ := hlt
      have q1 : (i : Int) < (l.length : Int) := by omega
      have q2 : (i : Int) < 120 := by omega
      obtain ⟨lA, lc, hlv⟩ := HM.out.lo.form
      subst hlv
      obtain ⟨tA, tc, htv⟩ := own_form HM.out.to
      subst htv
      obtain ⟨V, hV⟩ : ∃ V, V = (decide (k < an.length) && decide (i % 11 = (an.getD k 0).toNat % 11)) := ⟨_, rfl⟩
      have HVV := Lib.hid hV
      clear hV
      go_upto_region 10 with fail
      go_cut [55] from 41 to 54 (fun s wx => s = .bool V ∧ wr = wx)
      case first =>
        by_cases hka : k < an.length; rotate_left
        · have q3 : ¬ (k : Int) < (an.length : Int) := by omega
          have hv : V = false := by rw [HVV.out]; simp [hka]
          clear hka
          go_wp2_with fail
          go_meet
          exact ⟨by rw [hv], rfl⟩
        · have q3 : (k : Int) < (an.length : Int) := by omega
          obtain ⟨ad, hA, hc⟩ := HAN.out.at_ hka
          subst hA
          have hck := hc _ HM.out.ex
          have hu := an[k].toNat_lt
          have hg : (an.getD k 0) = an[k] := by rw [List.getD_eq_getElem?_getD, List.getElem?_eq_getElem hka]; rfl
          rw [hg] at HVV
          generalize an[k].toNat = u at *
          clear hc hg
          by_cases hmod : i % 11 = u % 11; rotate_left
          · have q4 : ((i : Int) % 11 == (u : Int) % 11) = false := beq_eq_false_iff_ne.2 (by omega)
            have hv : V = false := by rw [HVV.out]; simp [hmod]
            clear hmod
            go_wp2_with fail
            go_meet
            exact ⟨by rw [hv], rfl⟩
          · have q4 : ((i : Int) % 11 == (u : Int) % 11) = true := by simp; omega
            have hv : V = true := by rw [HVV.out]; simp [hmod, hka]
            clear hmod
            go_wp2_with fail
            go_meet
            exact ⟨by rw [hv], rfl⟩
      case rest =>
      obtain ⟨rfl, rfl⟩ := hcut
      obtain ⟨wo, rfl⟩ : ∃ x, x = wr := ⟨wr, rfl⟩
      go_upto_if 55 with fail
      go_cut [5, 7, 9] from 56 to 100 (fun xv lv kv wx => ∃ (k p : Nat) (x : Cs) (log : List By), xv = .pointer (some ⟨p, 0, none⟩) ∧ kv = .int .i64 k ∧ k ≤ an.length ∧ Hid (TMem w wx p lv (.slice tA txs.length tc) x log txs) ∧ Hid (TInv 2 x log txs (2 * i + 1)) ∧ log.length ≤ 2 * i + 1 ∧ Hid (∀ r ∈ log, r.length ≤ 100))
      case first =>
        cases V with
        | false =>
          have HI1 := Lib.hid (HI.out.mono (Nat.le_succ (2 * i)))
          go_wp2_with fail
          go_meet
          exact ⟨k, p, x, log, rfl, rfl, hk, HM, HI1, by omega, HRL⟩
        | true =>
          as_aux_lemma =>
            have hka : k < an.length := by
              have := HVV.out
              simp only [Bool.true_eq, Bool.and_eq_true, decide_eq_true_eq] at this
              exact this.1
            have hkw : IntKind.i64.wrap ((k : Int) + 1) = (k : Int) + 1 := wrap64_nat (k + 1) (by omega)
            have HN2 := CNew_any 2 wo (by omega) (by omega)
            unfold pt at HN2
            clear HVV
            go_wp2_with fail
            refine HN2.mono ?_
            rintro e w2 ⟨rfl, hx2, hp2, hco2⟩
            have HM2 : Hid (TMem w w2 wo.heap.size (.slice lA log.length lc) (.slice tA txs.length tc) (zAt 2 log 0) log txs) := Lib.hid (HM.out.fresh hx2 hp2 hco2)
            clear hx2 hp2 hco2 HN2
            generalize wo.heap.size = z at *
            go_wp2
            go_loopw [13] (fun jv wx => ∃ j : Nat, jv = .int .i64 j ∧ j ≤ log.length ∧ Hid (TMem w wx z (.slice lA log.length lc) (.slice tA txs.length tc) (zAt 2 log j) log txs)) (fun jv _ => log.length - (intOf jv).toNat)
            case atStart => exact ⟨0, rfl, by omega, HM2⟩
            case round =>
              obtain ⟨j, rfl, hj, HMJ⟩ := hrel
              clear HM2
              by_cases hjl : j < log.length
              · have hjl2 : (j : Int) < (log.length : Int) := by omega
                obtain ⟨adr, Ar, cr, hlA, hcr, hbr, hlr⟩ := HMJ.out.recAt hjl
                subst hlA
                have hgood := HI.out.good j hjl
                have HZ := Lib.hid (zAt_succ 2 log j hjl)
                have HRD := t_redo HMJ.out (zAt_ok 2 log j) Ar cr log[j] hbr hlr (by have := HRL.out _ (List.getElem_mem hjl); omega)
                rw [hgood, ← HZ.out] at HRD
                clear hgood hbr
                go_wp2_with fail
                refine HRD.mono ?_
                rintro e w4 ⟨rfl, hm4, -⟩
                have HM4 := Lib.hid hm4
                clear hm4 HRD hcr
                go_wp2
                go_roundw
                case rel => exact ⟨j + 1, by go_num, by omega, HM4⟩
                case measure => simp [intOf]; omega
              · have hjl2 : ¬ (j : Int) < (log.length : Int) := by omega
                obtain rfl : j = log.length := by omega
                obtain ⟨b1, b2, hI2⟩ := HI.out.anew (by omega)
                have HR5 : Hid ((1 :: be4 (x.boot + 1) : By).length ≤ 100) := Lib.hid (by simp [be4])
                generalize (1 :: be4 (x.boot + 1) : By) = r5 at *
                have HI2 := Lib.hid hI2
                have HBT := t_boot HMJ.out (zAt_ok 2 log log.length)
                rw [b1] at HBT
                have HB2 := Lib.hid b2
                clear b1 b2 hI2
                go_wp2_with fail
                refine HBT.mono ?_
                rintro e w5 ⟨v5, rfl, ho5, hm5, -⟩
                obtain ⟨A5, c5, rfl⟩ := ho5.form
                have HRD := t_redo hm5 (zAt_ok 2 log log.length) A5 c5 _ ho5.bs ho5.cap.1 (by have := HR5.out; omega)
                rw [HB2.out] at HRD
                have HO5 := Lib.hid ho5
                clear HBT ho5 hm5
                go_wp2_with fail
                refine HRD.mono ?_
                rintro e w6 ⟨rfl, hm6, ho6⟩
                have HO6 := Lib.hid (HO5.out.oth ho6)
                have HM6 := Lib.hid hm6
                clear HRD ho6 hm6
                obtain ⟨vs, v1, v2⟩ := HM6.out.lo
                have HV1 := Lib.hid v1
                have HV2 := Lib.hid v2
                clear v1 v2
                go_wp2_with (at_builtin; refine unstop ?_)
                have hMa := HM6.out.ext ((Ext.refl _).alloc (.cells #[.slice A5 r5.length c5] 23))
                have hnw : Sl (w6.alloc (.cells #[.slice A5 r5.length c5] 23)) (some ⟨w6.heap.size, 0, none⟩) [.slice A5 r5.length c5] := Sl.new w6 _ _ _
                refine go_on (wpList_app bytessT (HV1.out.alloc _) hnw rfl rfl rfl rfl rfl (by intro u hu; simp at hu; subst hu; rfl) (by omega) (by omega) (by have := HM6.out.ex.size; simp; omega) ?_)
                intro v7 w7 ho7 hg7 hor7
                have HM7 := Lib.hid (hMa.pushLog (r := r5) (HV1.out.alloc _) (fun k l hl => by obtain ⟨u, a, b⟩ := HV2.out k l hl; exact ⟨u, a, b.ext ((Ext.refl _).alloc _)⟩) (HO6.out.ext ((Ext.refl _).alloc _)) ho7 hg7 hor7)
                clear hMa hnw ho7 hg7 hor7
                go_wp2_with fail
                go_meet
                exact ⟨k + 1, z, _, _, rfl, by go_num, by omega, HM7, HI2, by simp; omega, Lib.hid (by
                  intro r hr
                  rcases List.mem_append.1 hr with hr | hr
                  · exact HRL.out r hr
                  · simp at hr; subst hr; exact HR5.out)⟩
      case rest =>
      obtain ⟨k, p, x, log, rfl, rfl, hk, HM, HI, hll, HRL⟩ := hcut
      obtain ⟨ad, A1, c1, A2, c2, hA, hsh, hby, hsl1, hbl, -, hw8, d0, d1, d2, -, d4, d5, d6, d7, -⟩ := HLS.out.cl hlt
      subst hA
      generalize hcd : l[i] = cd at *
      obtain ⟨do_, sh, shard, keep, which, tx, bys⟩ := cd
      simp only at hsh hby hsl1 hbl hw8 d0 d1 d2 d4 d5 d6 d7
      clear hcd hby hbl
      have HSH := Lib.hid hsh
      have hxc := HM.out.ex
      obtain ⟨lA, lc, hlv⟩ := HM.out.lo.form
      subst hlv
      clear hsh
      go_wp2_with (with_reducible first | refine stop_alloc 35 ?_ | refine stop_store 35 ?_)
      refine go_on (wpList_alloc_ rfl rfl apitx_info ?_)
      go_wp2_with (with_reducible first | refine stop_alloc 35 ?_ | refine stop_store 35 ?_)
      refine go_on (wpList_store_last rfl rfl rfl rfl (apitx_size _ _ _) rfl (by simp [Value.oneCell']) ?_)
      intro wd hrowd hxd _
      have HTD : Hid (∃ id, TxAt wd wc.heap.size id) := Lib.hid ⟨tx, hrowd⟩
      have HGG := Lib.hid hxc.size
      have HMD := Lib.hid (HM.out.ext hxd)
      have HXD := Lib.hid hxd
      have HGE := Lib.hid (Nat.le_refl wc.heap.size)
      obtain ⟨g, hg⟩ : ∃ g, g = wc.heap.size := ⟨_, rfl⟩
      rw [← hg] at HTD HGG ⊢
      have HGE : Hid (wc.heap.size ≤ g) := Lib.hid (Nat.le_of_eq hg.symm)
      clear hrowd hxd hxc d5 d6 d7 hg
      go_upto_if 108 with fail
      go_cut [8] from 101 to 120 (fun tv wx => tv = .slice tA txs.length tc ∧ Hid (∃ id, TxAt wx g id) ∧ Hid (TMem w wx p (.slice lA log.length lc) (.slice tA txs.length tc) x log txs))
      case first =>
        by_cases ht0 : 0 < txs.length; rotate_left
        · have q5 : ¬ (0 : Int) < (txs.length : Int) := by omega
          go_wp2_with fail
          go_meet
          exact ⟨rfl, HTD, HMD⟩
        · have q5 : (0 : Int) < (txs.length : Int) := by omega
          have hmd := HMD.out.ex
          have hlt3 : which % txs.length < txs.length := Nat.mod_lt _ ht0
          obtain ⟨adt, cpt, htv, hct⟩ := HMD.out.tx hlt3
          injection htv with h1 _ h3
          subst h1 h3
          have hw4 := d4 _ hmd
          have hre : Int.tmod (which : Int) (txs.length : Int) = ((which % txs.length : Nat) : Int) := rfl
          have hte : ((which : Int) % (txs.length : Int)) = ((which % txs.length : Nat) : Int) := rfl
          have hltn : which % txs.length < txs.length := hlt3
          generalize hqq : which % txs.length = qq at *
          obtain ⟨id0, hid0⟩ := HTD.out
          go_wp2_with (with_reducible first | refine stop_load 35 ?_ | refine stop_alloc 35 ?_ | refine stop_store 35 ?_)
          refine go_on (wpList_load_elem rfl 35 _ rfl (adt.add (qq * 3)) rfl (txiC txs[qq]) _ (hct _ (Ext.refl _)) Try.underlying35 rfl (by kernel_rfl) ?_)
          go_wp2_with (with_reducible first | refine stop_load 35 ?_ | refine stop_alloc 35 ?_ | refine stop_store 35 ?_)
          refine go_on (wpList_store_whole rfl rfl rfl rfl hid0 (apitx_size _ _ _) rfl (by simp [txiC, Value.oneCell']) ?_)
          intro we hrowe hke _
          have HTE : Hid (∃ id, TxAt we g id) := Lib.hid ⟨_, hrowe⟩
          have HME := Lib.hid (HM.out.ext (HXD.out.kept hke (one_ge HGE.out)))
          clear hrowe hke
          go_wp2_with fail
          go_meet
          exact ⟨rfl, HTE, HME⟩
      case rest =>
      clear HM HMD HXD HGE HTD
      obtain ⟨rfl, HTD, HM⟩ := hcut
      obtain ⟨id, hid⟩ := HTD.out
      have HTX := Lib.hid hid
      clear HTD
      have hxc := HM.out.ex
      obtain ⟨t0, t1, t2, -⟩ := row3_at hid
      clear hid
      have e0 := d0 _ hxc
      have hsv : SVx w g id wc := ⟨hxc, HTX.out⟩
      have HSV := Lib.hid hsv
      have s0 := fun W (h : SVx w g id W) => d0 W h.1
      have s2 := fun W (h : SVx w g id W) => d2 W h.1
      have i0 := fun W (h : SVx w g id W) => (row3_at h.2).1
      have i1 := fun W (h : SVx w g id W) => (row3_at h.2).2.1
      have i2 := fun W (h : SVx w g id W) => (row3_at h.2).2.2.1
      have hsd := hsv.drew
      by_cases h0 : do_ = 0
      · subst h0
        as_aux_lemma =>
          have hbb := HI.out.boot
          obtain ⟨b1, -, b3⟩ := boot_redo HI.out.ok (by omega)
          have HBB : Hid ((redoO x (bootO x).1).2.boot ≤ (2 * (i + 1) : Nat)) := Lib.hid (by rw [b1]; simp only [b3]; omega)
          have HBT := t_boot HM.out HI.out.ok
          have HIQ := HI
          clear d0 d1 d2 d4 t0 t1 t2 hbb b1 b3
          go_wp2_with fail
          refine HBT.mono ?_
          rintro e w3 ⟨v3, rfl, ho3, hm3, hoth3⟩
          obtain ⟨A5, c5, rfl⟩ := ho3.form
          have hrl := boot_len x
          have hrb := HBB.out
          have HMQ := Lib.hid hm3
          have HOQ := Lib.hid ho3
          clear s0 s2 i0 i1 i2 hsd hsv e0 hxc HBT hm3 ho3 hoth3
          generalize (bootO x).1 = r at *
          obtain ⟨xq, rfl⟩ : ∃ y, y = x := ⟨_, rfl⟩
          generalize w3 = wq at *
          have hrb := Lib.hid hrb
          by_cases hr0 : r.length = 0
          · have hi2 : TInv 2 xq log txs (2 * (i + 1)) := HIQ.out.mono (by omega)
            have HI2 := Lib.hid hi2
            clear hi2
            rw [hr0]
            clear hr0 hrl
            go_wp2
            go_roundw
            case rel => exact ⟨i + 1, k, p, xq, log, txs, rfl, rfl, by go_num, by omega, by omega, hk, HMQ, HI2, by omega, by omega, HRL⟩
            case measure => simp [intOf]; omega
          · have hpos : (0 : Int) < (r.length : Int) := by omega
            have HRD := t_redo HMQ.out HIQ.out.ok A5 c5 r HOQ.out.bs HOQ.out.cap.1 (by omega)
            go_wp2_with fail
            refine HRD.mono ?_
            rintro e w6 ⟨rfl, hm6, ho6⟩
            have HM6 := Lib.hid hm6
            have HO6 := Lib.hid (HOQ.out.oth ho6)
            clear HRD hm6 ho6
            by_cases he : (redoO xq r).1 = 0
            · have HI2 : Hid (TInv 2 (redoO xq r).2 (log ++ [r]) txs (2 * (i + 1))) := Lib.hid ((HIQ.out.mono (by omega)).push r he hrb.out)
              rw [he]
              clear he hr0 hpos
              obtain ⟨vs, v1, v2⟩ := HM6.out.lo
              have HV1 := Lib.hid v1
              have HV2 := Lib.hid v2
              clear v1 v2
              go_wp2_with (at_builtin; refine unstop ?_)
              have hMa := HM6.out.ext ((Ext.refl _).alloc (.cells #[.slice A5 r.length c5] 23))
              have hnw : Sl (w6.alloc (.cells #[.slice A5 r.length c5] 23)) (some ⟨w6.heap.size, 0, none⟩) [.slice A5 r.length c5] := Sl.new w6 _ _ _
              refine go_on (wpList_app bytessT (HV1.out.alloc _) hnw rfl rfl rfl rfl rfl (by intro u hu; simp at hu; subst hu; rfl) (by omega) (by omega) (by have := HM6.out.ex.size; simp; omega) ?_)
              intro v7 w7 ho7 hg7 hor7
              have HM7 := Lib.hid (hMa.pushLog (r := r) (HV1.out.alloc _) (fun k l hl => by obtain ⟨u, a, b⟩ := HV2.out k l hl; exact ⟨u, a, b.ext ((Ext.refl _).alloc _)⟩) (HO6.out.ext ((Ext.refl _).alloc _)) ho7 hg7 hor7)
              clear hMa hnw ho7 hg7 hor7
              have HRL2 : Hid (∀ q ∈ log ++ [r], q.length ≤ 100) := Lib.hid (by
                intro q hq
                rcases List.mem_append.1 hq with hq | hq
                · exact HRL.out q hq
                · simp at hq; subst hq; exact hrl)
              go_wp2
              go_roundw
              case rel => exact ⟨i + 1, k, p, _, log ++ [r], txs, rfl, rfl, by go_num, by omega, by omega, hk, HM7, HI2, by simp; omega, by omega, HRL2⟩
              case measure => simp [intOf]; omega
            · have hse := redo_err he
              have heb : ((redoO xq r).1 == 0) = false := by simpa using he
              rw [hse] at HM6
              have HI2 : Hid (TInv 2 xq log txs (2 * (i + 1))) := Lib.hid (HIQ.out.mono (by omega))
              clear he hse hr0
              go_wp2
              go_roundw
              case rel => exact ⟨i + 1, k, p, xq, log, txs, rfl, rfl, by go_num, by omega, by omega, hk, HM6, HI2, by omega, by omega, HRL⟩
              case measure => simp [intOf]; omega
      by_cases h1 : do_ = 1
      · subst h1
        as_aux_lemma =>
          have d1c := d1 _ hxc
          have HBG := t_begin HM.out HI.out.ok A1 c1 sh HSH.out hsl1
          clear d0 d1 d2 d4 t0 t1 t2 s0 s2 i0 i1 i2 hsd hsv h0
          go_wp2_with fail
          refine HBG.mono ?_
          rintro e w3 ⟨rfl, hm3, -⟩
          have HM3 := Lib.hid hm3
          clear HBG hm3 d1c e0 hxc
          go_wp2_with (with_reducible first | refine stop_alloc 35 ?_ | refine stop_store 35 ?_)
          refine go_on (wpList_alloc_ rfl rfl apitx_info ?_)
          go_wp2_with (with_reducible first | refine stop_alloc 35 ?_ | refine stop_store 35 ?_)
          refine go_on (wpList_store_last rfl rfl rfl rfl (apitx_size _ _ _) rfl (by simp [Value.oneCell']) ?_)
          intro w4 hrow4 hx4 _
          have HM4 := Lib.hid (HM3.out.ext hx4)
          have HR4 := Lib.hid hrow4
          generalize w3.heap.size = g18 at *
          clear HM3 hx4 hrow4
          by_cases he : beginE x sh = 0; rotate_left
          · have hse : beginS x sh = x := by unfold beginS; rw [if_neg he]
            have heb : (beginE x sh == 0) = false := by simpa using he
            rw [hse] at HM4
            have HI2 : Hid (TInv 2 x log txs (2 * (i + 1))) := Lib.hid (HI.out.mono (by omega))
            generalize beginE x sh = be at *
            clear hse he
            go_wp2
            go_loopw [20] (fun jv wx => jv = .int .i64 0 ∧ w4 = wx) (fun _ _ => 0)
            case atStart => exact ⟨rfl, rfl⟩
            case round =>
              obtain ⟨rfl, rfl⟩ := hrel
              go_wp2
              go_roundw
              case rel => exact ⟨i + 1, k, p, x, log, txs, rfl, rfl, by go_num, by omega, by omega, hk, HM4, HI2, by omega, by omega, HRL⟩
              case measure => simp [intOf]; omega
          · obtain ⟨hI5, hne⟩ := HI.out.begin sh he
            have HI2 : Hid (TInv 2 (beginS x sh) log (txs ++ [beginT x sh]) (2 * (i + 1))) := Lib.hid (hI5.mono (by omega))
            have HNE := Lib.hid hne
            rw [he]
            clear he hI5 hne
            generalize beginT x sh = bt at *
            generalize beginS x sh = xb at *
            go_wp2
            go_loopw [20] (fun jv wx => ∃ j : Nat, jv = .int .i64 j ∧ j ≤ txs.length ∧ Ext w4 wx) (fun jv _ => txs.length - (intOf jv).toNat)
            case atStart => exact ⟨0, rfl, by omega, Ext.refl _⟩
            case round =>
              obtain ⟨j, rfl, hj, hxj⟩ := hrel
              by_cases hjt : j < txs.length
              · have hjt2 : (j : Int) < (txs.length : Int) := by omega
                obtain ⟨adt, cpt, htv, hct⟩ := HM4.out.tx hjt
                injection htv with r1 _ r3
                subst r1 r3
                have hnj := HNE.out _ (List.getElem_mem hjt)
                obtain ⟨k0, k1, k2, -⟩ := rows3 HR4.out
                have hxjd := hxj.drew
                generalize txs[j] = tj at *
                have HNJ := Lib.hid hnj
                clear hnj
                go_wp2_with fail
                refine wp_region_phase (S := fun w' => Ext w4 w') 5 (by kernel_rfl) (by kernel_rfl) ?_ (fun hHeld => ?_)
                · exact hxjd
                simp only [List.drop_succ_cons, List.drop_zero]
                refine name_head ?_
                intro wr0 hw0
                rw [hw0] at hHeld
                refine wpHead_take (i := 0) (v := ?_) (by rfl) (by kernel_rfl) (by kernel_rfl) (by exact fun _ _ _ h => h) (Or.inl ⟨by rfl, ?_⟩) (by assumption) ?_
                rotate_left
                · intro w hSw
                  first | (go_simp; done) | (go_simp; with_reducible rfl)
                simp only [List.getElem_toArray, List.getElem_cons_zero, Act.put, List.setIfInBounds_toArray, List.set_cons_zero, List.set_cons_succ]
                refine wpHead_take (i := 1) (v := ?_) (by rfl) (by kernel_rfl) (by kernel_rfl) (by exact fun _ _ _ h => h) (Or.inl ⟨by rfl, ?_⟩) (by assumption) ?_
                rotate_left
                · intro w hSw
                  first | (go_simp; done) | (go_simp; with_reducible rfl)
                simp only [List.getElem_toArray, List.getElem_cons_succ, List.getElem_cons_zero, Act.put, List.setIfInBounds_toArray, List.set_cons_zero, List.set_cons_succ]
                refine wpHead_take (i := 2) (v := ?_) (by rfl) (by kernel_rfl) (by kernel_rfl) (by exact fun _ _ _ h => h) (Or.inl ⟨by rfl, ?_⟩) (by assumption) ?_
                rotate_left
                · intro w hSw
                  first | (go_simp; done) | (go_simp; with_reducible rfl)
                simp only [List.getElem_toArray, List.getElem_cons_succ, List.getElem_cons_zero, Act.put, List.setIfInBounds_toArray, List.set_cons_zero, List.set_cons_succ]
                refine wpHead_take (i := 3) (v := (.agg #[.int .i64 tj.node, .int .i64 tj.boot, .int .i64 tj.n])) (by rfl) (by kernel_rfl) (by kernel_rfl) (by exact fun _ _ _ h => h) (by exact yieldsIf_load_elem (by rfl) 35 _ rfl (adt.add (j * 3)) rfl (txiC tj) _ (fun w' hx => hct w' hx) Try.underlying35 rfl (by kernel_rfl)) (by assumption) ?_
                simp only [List.getElem_toArray, List.getElem_cons_succ, List.getElem_cons_zero, Act.put, List.setIfInBounds_toArray, List.set_cons_zero, List.set_cons_succ]
                refine wpHead_take (i := 4) (v := ?_) (by rfl) (by kernel_rfl) (by kernel_rfl) (by exact fun _ _ _ h => h) (Or.inl ⟨by rfl, ?_⟩) (by assumption) ?_
                rotate_left
                · intro w hSw
                  first | (go_simp; done) | (go_simp; with_reducible rfl)
                simp only [List.getElem_toArray, List.getElem_cons_succ, List.getElem_cons_zero, Act.put, List.setIfInBounds_toArray, List.set_cons_zero, List.set_cons_succ]
                refine wpHead_done (by kernel_rfl) ?_
                have HXJ := Lib.hid hHeld
                generalize wr0 = wj at *
                clear hxjd hct k0 k1 k2 hxj hHeld
                go_wp2
                all_goals try (exfalso; exact HNJ.out ((txi_iff _ _).2 ⟨by assumption, by assumption, by assumption⟩))
                all_goals
                  go_roundw
                  case rel => exact ⟨j + 1, by go_num, by omega, HXJ.out⟩
                  case measure => simp [intOf]; omega
              · have hjt2 : ¬ (j : Int) < (txs.length : Int) := by omega
                obtain ⟨k0, k1, k2, -⟩ := rows3 HR4.out
                go_wp2_with (at_builtin; refine unstop ?_)
                have hMa := HM4.out.ext (hxj.trans ((Ext.refl wr).alloc (.cells #[.int .i64 bt.node, .int .i64 bt.boot, .int .i64 bt.n] 35)))
                have hnw : Sl (wr.alloc (.cells #[.int .i64 bt.node, .int .i64 bt.boot, .int .i64 bt.n] 35)) (some ⟨wr.heap.size, 0, none⟩) (txiC bt) := Sl.new wr (txiC bt) _ _
                refine go_on (wpList_app apitxsT hMa.to hnw rfl rfl rfl rfl rfl (txiC_one _) (by omega) (by omega) (by have := hMa.ex.size; simpa using this) ?_)
                intro v5 w5 ho5 hg5 hor5
                have HM5 := Lib.hid (hMa.pushTx ho5 hg5 hor5)
                clear hMa hnw ho5 hg5 hor5 k0 k1 k2 hxj
                go_wp2
                go_roundw
                case rel => exact ⟨i + 1, k, p, xb, log, txs ++ [bt], rfl, rfl, by go_num, by omega, by omega, hk, HM5, HI2, by omega, by simp; omega, HRL⟩
                case measure => simp [intOf]; omega
      have q0 : (do_ == 0) = false := by simpa using h0
      have q1 : (do_ == 1) = false := by simpa using h1
      by_cases h5 : do_ = 5
      · subst h5
        as_aux_lemma =>
          clear d0 d1 d2 d4 h0 h1 t0 t1 t2
          go_wp2_with fail
          have HAK := t_ack (HM.out.ext (Ext.refl wc).drew) HI.out.ok id shard
          have HIQ := Lib.hid (HI.out.ack id shard)
          go_region_held3 (fun w' => SVx w g id w') (first | exact hsd | assumption) ((go_at_call 12; refine HAK.mono ?_; rintro e w3 ⟨v3, rfl, ho3, hm3, hoth3⟩; obtain ⟨A5, c5, rfl⟩ := ho3.form; have hs3 : SVx w g id w3 := ⟨hm3.ex, hsd.2.oth hoth3⟩))
          have hrl := ack_len x id shard
          have hrb := (show (redoO (ackO x id shard).s (ackO x id shard).r).2.boot ≤ (2 * (i + 1) : Nat) by rw [redo_same (ack_rec x id shard)]; have := HIQ.out.boot; omega)
          have HMQ := Lib.hid hm3
          have HOQ := Lib.hid ho3
          clear s0 s2 i0 i1 i2 hsd hsv e0 hxc hs3 HAK hm3 ho3 hoth3
          generalize (ackO x id shard).r = r at *
          generalize (ackO x id shard).s = xq at *
          generalize w3 = wq at *
          have hrb := Lib.hid hrb
          by_cases hr0 : r.length = 0
          · have hi2 : TInv 2 xq log txs (2 * (i + 1)) := HIQ.out.mono (by omega)
            have HI2 := Lib.hid hi2
            clear hi2
            rw [hr0]
            clear hr0 hrl
            go_wp2
            go_roundw
            case rel => exact ⟨i + 1, k, p, xq, log, txs, rfl, rfl, by go_num, by omega, by omega, hk, HMQ, HI2, by omega, by omega, HRL⟩
            case measure => simp [intOf]; omega
          · have hpos : (0 : Int) < (r.length : Int) := by omega
            have HRD := t_redo HMQ.out HIQ.out.ok A5 c5 r HOQ.out.bs HOQ.out.cap.1 (by omega)
            go_wp2_with fail
            refine HRD.mono ?_
            rintro e w6 ⟨rfl, hm6, ho6⟩
            have HM6 := Lib.hid hm6
            have HO6 := Lib.hid (HOQ.out.oth ho6)
            clear HRD hm6 ho6
            by_cases he : (redoO xq r).1 = 0
            · have HI2 : Hid (TInv 2 (redoO xq r).2 (log ++ [r]) txs (2 * (i + 1))) := Lib.hid ((HIQ.out.mono (by omega)).push r he hrb.out)
              rw [he]
              clear he hr0 hpos
              obtain ⟨vs, v1, v2⟩ := HM6.out.lo
              have HV1 := Lib.hid v1
              have HV2 := Lib.hid v2
              clear v1 v2
              go_wp2_with (at_builtin; refine unstop ?_)
              have hMa := HM6.out.ext ((Ext.refl _).alloc (.cells #[.slice A5 r.length c5] 23))
              have hnw : Sl (w6.alloc (.cells #[.slice A5 r.length c5] 23)) (some ⟨w6.heap.size, 0, none⟩) [.slice A5 r.length c5] := Sl.new w6 _ _ _
              refine go_on (wpList_app bytessT (HV1.out.alloc _) hnw rfl rfl rfl rfl rfl (by intro u hu; simp at hu; subst hu; rfl) (by omega) (by omega) (by have := HM6.out.ex.size; simp; omega) ?_)
              intro v7 w7 ho7 hg7 hor7
              have HM7 := Lib.hid (hMa.pushLog (r := r) (HV1.out.alloc _) (fun k l hl => by obtain ⟨u, a, b⟩ := HV2.out k l hl; exact ⟨u, a, b.ext ((Ext.refl _).alloc _)⟩) (HO6.out.ext ((Ext.refl _).alloc _)) ho7 hg7 hor7)
              clear hMa hnw ho7 hg7 hor7
              have HRL2 : Hid (∀ q ∈ log ++ [r], q.length ≤ 100) := Lib.hid (by
                intro q hq
                rcases List.mem_append.1 hq with hq | hq
                · exact HRL.out q hq
                · simp at hq; subst hq; exact hrl)
              go_wp2
              go_roundw
              case rel => exact ⟨i + 1, k, p, _, log ++ [r], txs, rfl, rfl, by go_num, by omega, by omega, hk, HM7, HI2, by simp; omega, by omega, HRL2⟩
              case measure => simp [intOf]; omega
            · have hse := redo_err he
              have heb : ((redoO xq r).1 == 0) = false := by simpa using he
              rw [hse] at HM6
              have HI2 : Hid (TInv 2 xq log txs (2 * (i + 1))) := Lib.hid (HIQ.out.mono (by omega))
              clear he hse hr0
              go_wp2
              go_roundw
              case rel => exact ⟨i + 1, k, p, xq, log, txs, rfl, rfl, by go_num, by omega, by omega, hk, HM6, HI2, by omega, by omega, HRL⟩
              case measure => simp [intOf]; omega
      have q5 : (do_ == 5) = false := by simpa using h5
      by_cases h2 : do_ = 2
      · subst h2
        as_aux_lemma =>
          clear d0 d1 d2 d4 h0 h1 h5 t0 t1 t2
          go_wp2_with fail
          have HAK := t_vote (HM.out.ext (Ext.refl wc).drew) HI.out.ok id shard true
          have HIQ := Lib.hid (HI.out.vote id shard true)
          go_region_held3 (fun w' => SVx w g id w') (first | exact hsd | assumption) ((go_at_call 11; refine HAK.mono ?_; rintro e w3 ⟨v3, rfl, ho3, hm3, hoth3⟩; obtain ⟨A5, c5, rfl⟩ := ho3.form; have hs3 : SVx w g id w3 := ⟨hm3.ex, hsd.2.oth hoth3⟩))
          have HOKQ := Lib.hid HI.out.ok
          have hrl := vote_len HOKQ.out id shard true
          have hrb := (show (redoO (voteO x id shard true).s (voteO x id shard true).r).2.boot ≤ (2 * (i + 1) : Nat) by rw [redo_same (vote_rec x id shard true)]; have := HIQ.out.boot; omega)
          have HMQ := Lib.hid hm3
          have HOQ := Lib.hid ho3
          clear s0 s2 i0 i1 i2 hsd hsv e0 hxc hs3 HAK hm3 ho3 hoth3 HOKQ
          generalize (voteO x id shard true).r = r at *
          generalize (voteO x id shard true).s = xq at *
          generalize w3 = wq at *
          have hrb := Lib.hid hrb
          by_cases hr0 : r.length = 0
          · have hi2 : TInv 2 xq log txs (2 * (i + 1)) := HIQ.out.mono (by omega)
            have HI2 := Lib.hid hi2
            clear hi2
            rw [hr0]
            clear hr0 hrl
            go_wp2
            go_roundw
            case rel => exact ⟨i + 1, k, p, xq, log, txs, rfl, rfl, by go_num, by omega, by omega, hk, HMQ, HI2, by omega, by omega, HRL⟩
            case measure => simp [intOf]; omega
          · have hpos : (0 : Int) < (r.length : Int) := by omega
            have HRD := t_redo HMQ.out HIQ.out.ok A5 c5 r HOQ.out.bs HOQ.out.cap.1 (by omega)
            go_wp2_with fail
            refine HRD.mono ?_
            rintro e w6 ⟨rfl, hm6, ho6⟩
            have HM6 := Lib.hid hm6
            have HO6 := Lib.hid (HOQ.out.oth ho6)
            clear HRD hm6 ho6
            by_cases he : (redoO xq r).1 = 0
            · have HI2 : Hid (TInv 2 (redoO xq r).2 (log ++ [r]) txs (2 * (i + 1))) := Lib.hid ((HIQ.out.mono (by omega)).push r he hrb.out)
              rw [he]
              clear he hr0 hpos
              obtain ⟨vs, v1, v2⟩ := HM6.out.lo
              have HV1 := Lib.hid v1
              have HV2 := Lib.hid v2
              clear v1 v2
              go_wp2_with (at_builtin; refine unstop ?_)
              have hMa := HM6.out.ext ((Ext.refl _).alloc (.cells #[.slice A5 r.length c5] 23))
              have hnw : Sl (w6.alloc (.cells #[.slice A5 r.length c5] 23)) (some ⟨w6.heap.size, 0, none⟩) [.slice A5 r.length c5] := Sl.new w6 _ _ _
              refine go_on (wpList_app bytessT (HV1.out.alloc _) hnw rfl rfl rfl rfl rfl (by intro u hu; simp at hu; subst hu; rfl) (by omega) (by omega) (by have := HM6.out.ex.size; simp; omega) ?_)
              intro v7 w7 ho7 hg7 hor7
              have HM7 := Lib.hid (hMa.pushLog (r := r) (HV1.out.alloc _) (fun k l hl => by obtain ⟨u, a, b⟩ := HV2.out k l hl; exact ⟨u, a, b.ext ((Ext.refl _).alloc _)⟩) (HO6.out.ext ((Ext.refl _).alloc _)) ho7 hg7 hor7)
              clear hMa hnw ho7 hg7 hor7
              have HRL2 : Hid (∀ q ∈ log ++ [r], q.length ≤ 100) := Lib.hid (by
                intro q hq
                rcases List.mem_append.1 hq with hq | hq
                · exact HRL.out q hq
                · simp at hq; subst hq; exact hrl)
              go_wp2
              go_roundw
              case rel => exact ⟨i + 1, k, p, _, log ++ [r], txs, rfl, rfl, by go_num, by omega, by omega, hk, HM7, HI2, by simp; omega, by omega, HRL2⟩
              case measure => simp [intOf]; omega
            · have hse := redo_err he
              have heb : ((redoO xq r).1 == 0) = false := by simpa using he
              rw [hse] at HM6
              have HI2 : Hid (TInv 2 xq log txs (2 * (i + 1))) := Lib.hid (HIQ.out.mono (by omega))
              clear he hse hr0
              go_wp2
              go_roundw
              case rel => exact ⟨i + 1, k, p, xq, log, txs, rfl, rfl, by go_num, by omega, by omega, hk, HM6, HI2, by omega, by omega, HRL⟩
              case measure => simp [intOf]; omega
      have q2 : (do_ == 2) = false := by simpa using h2
      by_cases h3 : do_ = 3
      · subst h3
        as_aux_lemma =>
          clear d0 d1 d2 d4 h0 h1 h5 h2 t0 t1 t2
          go_wp2_with fail
          have HAK := t_vote (HM.out.ext (Ext.refl wc).drew) HI.out.ok id shard false
          have HIQ := Lib.hid (HI.out.vote id shard false)
          go_region_held3 (fun w' => SVx w g id w') (first | exact hsd | assumption) ((go_at_call 11; refine HAK.mono ?_; rintro e w3 ⟨v3, rfl, ho3, hm3, hoth3⟩; obtain ⟨A5, c5, rfl⟩ := ho3.form; have hs3 : SVx w g id w3 := ⟨hm3.ex, hsd.2.oth hoth3⟩))
          have HOKQ := Lib.hid HI.out.ok
          have hrl := vote_len HOKQ.out id shard false
          have hrb := (show (redoO (voteO x id shard false).s (voteO x id shard false).r).2.boot ≤ (2 * (i + 1) : Nat) by rw [redo_same (vote_rec x id shard false)]; have := HIQ.out.boot; omega)
          have HMQ := Lib.hid hm3
          have HOQ := Lib.hid ho3
          clear s0 s2 i0 i1 i2 hsd hsv e0 hxc hs3 HAK hm3 ho3 hoth3 HOKQ
          generalize (voteO x id shard false).r = r at *
          generalize (voteO x id shard false).s = xq at *
          generalize w3 = wq at *
          have hrb := Lib.hid hrb
          by_cases hr0 : r.length = 0
          · have hi2 : TInv 2 xq log txs (2 * (i + 1)) := HIQ.out.mono (by omega)
            have HI2 := Lib.hid hi2
            clear hi2
            rw [hr0]
            clear hr0 hrl
            go_wp2
            go_roundw
            case rel => exact ⟨i + 1, k, p, xq, log, txs, rfl, rfl, by go_num, by omega, by omega, hk, HMQ, HI2, by omega, by omega, HRL⟩
            case measure => simp [intOf]; omega
          · have hpos : (0 : Int) < (r.length : Int) := by omega
            have HRD := t_redo HMQ.out HIQ.out.ok A5 c5 r HOQ.out.bs HOQ.out.cap.1 (by omega)
            go_wp2_with fail
            refine HRD.mono ?_
            rintro e w6 ⟨rfl, hm6, ho6⟩
            have HM6 := Lib.hid hm6
            have HO6 := Lib.hid (HOQ.out.oth ho6)
            clear HRD hm6 ho6
            by_cases he : (redoO xq r).1 = 0
            · have HI2 : Hid (TInv 2 (redoO xq r).2 (log ++ [r]) txs (2 * (i + 1))) := Lib.hid ((HIQ.out.mono (by omega)).push r he hrb.out)
              rw [he]
              clear he hr0 hpos
              obtain ⟨vs, v1, v2⟩ := HM6.out.lo
              have HV1 := Lib.hid v1
              have HV2 := Lib.hid v2
              clear v1 v2
              go_wp2_with (at_builtin; refine unstop ?_)
              have hMa := HM6.out.ext ((Ext.refl _).alloc (.cells #[.slice A5 r.length c5] 23))
              have hnw : Sl (w6.alloc (.cells #[.slice A5 r.length c5] 23)) (some ⟨w6.heap.size, 0, none⟩) [.slice A5 r.length c5] := Sl.new w6 _ _ _
              refine go_on (wpList_app bytessT (HV1.out.alloc _) hnw rfl rfl rfl rfl rfl (by intro u hu; simp at hu; subst hu; rfl) (by omega) (by omega) (by have := HM6.out.ex.size; simp; omega) ?_)
              intro v7 w7 ho7 hg7 hor7
              have HM7 := Lib.hid (hMa.pushLog (r := r) (HV1.out.alloc _) (fun k l hl => by obtain ⟨u, a, b⟩ := HV2.out k l hl; exact ⟨u, a, b.ext ((Ext.refl _).alloc _)⟩) (HO6.out.ext ((Ext.refl _).alloc _)) ho7 hg7 hor7)
              clear hMa hnw ho7 hg7 hor7
              have HRL2 : Hid (∀ q ∈ log ++ [r], q.length ≤ 100) := Lib.hid (by
                intro q hq
                rcases List.mem_append.1 hq with hq | hq
                · exact HRL.out q hq
                · simp at hq; subst hq; exact hrl)
              go_wp2
              go_roundw
              case rel => exact ⟨i + 1, k, p, _, log ++ [r], txs, rfl, rfl, by go_num, by omega, by omega, hk, HM7, HI2, by simp; omega, by omega, HRL2⟩
              case measure => simp [intOf]; omega
            · have hse := redo_err he
              have heb : ((redoO xq r).1 == 0) = false := by simpa using he
              rw [hse] at HM6
              have HI2 : Hid (TInv 2 xq log txs (2 * (i + 1))) := Lib.hid (HIQ.out.mono (by omega))
              clear he hse hr0
              go_wp2
              go_roundw
              case rel => exact ⟨i + 1, k, p, xq, log, txs, rfl, rfl, by go_num, by omega, by omega, hk, HM6, HI2, by omega, by omega, HRL⟩
              case measure => simp [intOf]; omega
      have q3 : (do_ == 3) = false := by simpa using h3
      have HI2 : Hid (TInv 2 x log txs (2 * (i + 1))) := Lib.hid (HI.out.mono (by omega))
      clear d0 d1 d2 d4 h0 h1 h2 h3 h5 t0 t1 t2 s0 s2 i0 i1 i2 hsd hsv
      go_wp2
      go_roundw
      case rel => exact ⟨i + 1, k, p, x, log, txs, rfl, rfl, by go_num, by omega, by omega, hk, HM, HI2, by omega, by omega, HRL⟩
      case measure => simp [intOf]; omega
    · have hor : ¬ (i : Int) < (l.length : Int) ∨ ((i : Int) < (l.length : Int) ∧ ¬ (i : Int) < 120) := by omega
      clear hlt
      rcases hor with q1 | ⟨q1, q2⟩
      all_goals
        go_wp2_with fail
        refine (live_any _).mono ?_
        rintro e w9 ⟨rfl, hx9⟩
        have HX9 := Lib.hid (HM.out.ex.trans hx9)
        clear hx9
        go_wp2
        go_ret
        exact ⟨rfl, HX9.out⟩
end Go.Proofs.Ytijopcdjlpafdaa
