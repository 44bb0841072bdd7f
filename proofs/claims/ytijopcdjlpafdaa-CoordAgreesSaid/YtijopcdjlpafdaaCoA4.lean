/- The walk of the law CoordAgrees: it answers true. Conditions: the script stands in memory. -/
import Derived.Test.YtijopcdjlpafdaaCoA3
import Derived.Test.YtijopcdjlpafdaaCoT3
import Derived.Deep.Cut
import Derived.Deep.CutRange
import Derived.Deep.CutBlock
namespace Go.Proofs.Ytijopcdjlpafdaa
open Go.RowKit
set_option maxRecDepth 20000 in
set_option maxHeartbeats 2000000 in
theorem Agr_any (l : List Cl) (A : Option Addr) (c : Nat) (w : World) (hl : RsM RCl 9 [] w A l) :
    Calls Try.prog 4 #[.slice A l.length c] w (Yes w) := by
  have HLS := Lib.hid hl
  have HN := CNew_any 1 w (by omega) (by omega)
  unfold Yes
  unfold pt at HN
  clear hl
  go_enter Try.func4, Try.ntmps4
  go_wp2_with fail
  refine HN.mono ?_
  rintro e w1 ⟨rfl, hx1, hp1, hco1⟩
  have hM0 : AMem w w1 w.heap.size (.slice none 0 0) (.slice none 0 0) (.slice none 0 0) (.slice none 0 0) (N0 1) [] [] [] [] :=
    ⟨⟨hx1, Nat.le_refl _, ⟨[w.heap.size], hco1 _, by simp, one_lt hp1, by simp [Value.ownBlock], one_ge (Nat.le_refl _)⟩⟩, World.ownsRow_nil _ _ _ _, ⟨[], World.ownsRow_nil _ _ _ _, by simp⟩, World.ownsRow_nil _ _ _ _, World.ownsRow_nil _ _ _ _⟩
  have HM0 := Lib.hid hM0
  have HPB := Lib.hid (Nat.le_refl w.heap.size)
  clear hx1 hp1 hco1 HN hM0
  generalize hpp : w.heap.size = p at HM0 HPB ⊢
  clear hpp
  go_wp2
  go_loopw [5, 6, 7, 8, 9] (fun tv sv yv fv iv wr => ∃ (i : Nat) (x : Cs) (es : List En), iv = .int .i64 i ∧ i ≤ l.length ∧ i ≤ 120 ∧ Hid (AMem w wr p tv sv yv fv x (es.map En.tx) (es.map En.sh) (es.map En.ys) (es.map En.ft)) ∧ Hid (AInv x es) ∧ es.length ≤ i) (fun _ _ _ _ iv _ => l.length - (intOf iv).toNat)
  case atStart => exact ⟨0, _, [], rfl, by omega, by omega, HM0, Lib.hid (AInv.start 1), by simp⟩
  case round =>
    obtain ⟨i, x, es, rfl, hil, hi, HM, HI, hel⟩ := hrel
    clear HM0
    by_cases hlt : i < l.length ∧ i < 120
    · obtain ⟨hlt, hlt120⟩ := hlt
      have q1 : (i : Int) < (l.length : Int) := by omega
      have q2 : (i : Int) < 120 := by omega
      obtain ⟨ad, A1, c1, A2, c2, hA, hsh, hsl1, hw8, hcl⟩ := HLS.out.cl9 hlt
      subst hA
      generalize hcd : l[i] = cd at *
      clear hcd
      have HSH := Lib.hid hsh
      have HCL := Lib.hid hcl
      have HW8 := Lib.hid hw8
      clear hsh hcl hw8
      obtain ⟨tA, tc, htv⟩ := own_form HM.out.to
      obtain ⟨yA, yc, hyv⟩ := own_form HM.out.yo
      obtain ⟨fA, fc, hfv⟩ := own_form HM.out.fo
      obtain ⟨sA, sc, hsv⟩ := HM.out.so.form
      simp only [List.length_map] at htv hyv hfv hsv
      subst htv hyv hfv hsv
      go_wp2_with (with_reducible first | refine stop_load 37 ?_ | refine stop_alloc 37 ?_ | refine stop_store 37 ?_)
      refine go_on (wpList_load_elem rfl 37 _ rfl (ad.add (i * 9)) rfl (clC cd A1 c1 A2 c2) _ (HCL.out _ HM.out.nm.ex) Try.underlying37 rfl (by kernel_rfl) ?_)
      go_wp2_with (with_reducible first | refine stop_load 37 ?_ | refine stop_alloc 37 ?_ | refine stop_store 37 ?_)
      refine go_on (wpList_alloc_ rfl rfl call_info ?_)
      go_wp2_with (with_reducible first | refine stop_load 37 ?_ | refine stop_alloc 37 ?_ | refine stop_store 37 ?_)
      refine go_on (wpList_store_last rfl rfl rfl rfl (call_size cd A1 c1 A2 c2) rfl (by simp [clC, Value.oneCell']) ?_)
      intro wd hrowd hxd hzd
      have HMD := Lib.hid (HM.out.ext hxd)
      have HC := Lib.hid (show ClAt wd wr.heap.size cd A1 c1 A2 c2 from hrowd)
      have HGB := Lib.hid (HM.out.nm.ex.size)
      have HGL := Lib.hid (show wr.heap.size < wd.heap.size by omega)
      clear hrowd hxd hzd HM
      generalize wr.heap.size = g at HC HGB HGL ⊢
      go_wp2_with (with_reducible first | refine stop_load 35 ?_ | refine stop_alloc 35 ?_ | refine stop_store 35 ?_)
      refine go_on (wpList_load_elem rfl 35 _ rfl ⟨g, 5, none⟩ rfl (txiC cd.tx) _ (HC.out.tx _ (Ext.refl _)) Try.underlying35 rfl (by kernel_rfl) ?_)
      go_wp2_with (with_reducible first | refine stop_load 35 ?_ | refine stop_alloc 35 ?_ | refine stop_store 35 ?_)
      refine go_on (wpList_alloc_ rfl rfl apitx_info ?_)
      go_wp2_with (with_reducible first | refine stop_load 35 ?_ | refine stop_alloc 35 ?_ | refine stop_store 35 ?_)
      refine go_on (wpList_store_last rfl rfl rfl rfl (apitx_size _ _ _) rfl (by simp [txiC, Value.oneCell']) ?_)
      intro we hrowe hxe hze
      have HME := Lib.hid (HMD.out.ext hxe)
      have HCE := Lib.hid (HC.out.ext hxe)
      have HTE := Lib.hid (show ∃ id, TxAt we wd.heap.size id from ⟨cd.tx, hrowe⟩)
      have HG2 := Lib.hid (show g < wd.heap.size from HGL.out)
      have HGL2 := Lib.hid (show wd.heap.size < we.heap.size by omega)
      have HXE := Lib.hid hxe
      have HGD := Lib.hid (Nat.le_refl wd.heap.size)
      clear hrowe hxe hze HGL
      obtain ⟨h12, hh⟩ : ∃ h, h = wd.heap.size := ⟨_, rfl⟩
      rw [← hh] at HTE HG2 HGL2 ⊢
      have HGD : Hid (wd.heap.size ≤ h12) := Lib.hid (Nat.le_of_eq hh.symm)
      clear hh
      go_upto_if 49 with fail
      go_cut [11] from 47 to 60 (fun av wx => ∃ (at_ : Int) (id : TxI), av = .int .i64 at_ ∧ TxAt wx h12 id ∧ ((es.length = 0 ∧ at_ = -1) ∨ ∃ (k : Nat) (h : k < es.length), at_ = k ∧ id = es[k].tx) ∧ Hid (AMem w wx p (.slice tA es.length tc) (.slice sA es.length sc) (.slice yA es.length yc) (.slice fA es.length fc) x (es.map En.tx) (es.map En.sh) (es.map En.ys) (es.map En.ft)) ∧ Hid (ClAt wx g cd A1 c1 A2 c2))
      case first =>
        obtain ⟨id0, hid0⟩ := HTE.out
        by_cases ht0 : 0 < es.length; rotate_left
        · have q5 : ¬ (0 : Int) < (es.length : Int) := by omega
          go_wp2_with fail
          go_meet
          exact ⟨-1, id0, rfl, hid0, .inl ⟨by omega, rfl⟩, HME, HCE⟩
        · have q5 : (0 : Int) < (es.length : Int) := by omega
          have hlt3 : cd.which % es.length < es.length := Nat.mod_lt _ ht0
          obtain ⟨adt, cpt, htv, hct⟩ := HME.out.tx (k := cd.which % es.length) (by simpa using hlt3)
          injection htv with h1 h2 h3
          clear h2
          subst h1 h3
          simp only [List.getElem_map] at hct
          have hw4 := HCE.out.all.2.2.2.2
          have hw8 := HW8.out
          have hre : Int.tmod (cd.which : Int) (es.length : Int) = ((cd.which % es.length : Nat) : Int) := rfl
          have hte : ((cd.which : Int) % (es.length : Int)) = ((cd.which % es.length : Nat) : Int) := rfl
          have hltn : cd.which % es.length < es.length := hlt3
          generalize hqq : cd.which % es.length = qq at *
          go_wp2_with (with_reducible first | refine stop_load 35 ?_ | refine stop_alloc 35 ?_ | refine stop_store 35 ?_)
          refine go_on (wpList_load_elem rfl 35 _ rfl (adt.add (qq * 3)) rfl (txiC es[qq].tx) _ (hct _ (Ext.refl _)) Try.underlying35 rfl (by kernel_rfl) ?_)
          go_wp2_with (with_reducible first | refine stop_load 35 ?_ | refine stop_alloc 35 ?_ | refine stop_store 35 ?_)
          refine go_on (wpList_store_whole rfl rfl rfl rfl hid0 (apitx_size _ _ _) rfl (by simp [txiC, Value.oneCell']) ?_)
          intro we2 hrowe hke _
          have HX2 := HXE.out.kept hke (one_ge HGD.out)
          have HM2 := Lib.hid (HMD.out.ext HX2)
          have HC2 := Lib.hid (HC.out.ext HX2)
          clear hke HX2
          go_wp2_with fail
          go_meet
          exact ⟨qq, es[qq].tx, rfl, hrowe, .inr ⟨qq, hltn, rfl, rfl⟩, HM2, HC2⟩
      case rest =>
      clear HMD HME HC HCE HTE HXE HGD
      obtain ⟨at_, id, rfl, htx, hat, HM, HC⟩ := hcut
      have HTX := Lib.hid htx
      have HAT := Lib.hid hat
      clear htx hat
      have cc := HC.out.all
      obtain ⟨k0, k1, k2, k3, -⟩ := cc
      go_upto_block 2 with fail
      go_cut [5, 6, 7, 8, 13, 14, 15, 16] from 62 to 143 (fun tv sv yv fv rv _ _ _ wx => ∃ (x' : Cs) (es' : List En) (r : By) (A5 : Option Addr) (c5 : Nat), rv = .slice A5 r.length c5 ∧ Hid (AMem w wx p tv sv yv fv x' (es'.map En.tx) (es'.map En.sh) (es'.map En.ys) (es'.map En.ft)) ∧ Hid (AInv x' es') ∧ Hid (RecOk x' r) ∧ r.length ≤ 100 ∧ Hid (Bs wx A5 r ∧ r.length ≤ c5) ∧ Hid (0 < r.length → wx.cell? ⟨g, 3, none⟩ = some (.bool cd.keep)) ∧ es'.length ≤ i + 1)
      case first =>
        by_cases h0 : cd.do_ = 0
        · as_aux_lemma =>
            have q0 : (cd.do_ == 0) = true := by simpa using h0
            have HBT := a_boot HM.out HI.out.ok
            clear h0
            go_wp2_with fail
            refine HBT.mono ?_
            rintro e w3 ⟨v3, rfl, ho3, hm3, hoth3⟩
            obtain ⟨A5, c5, rfl⟩ := ho3.form
            have HMQ := Lib.hid hm3
            have HIQ := HI
            have HRQ := Lib.hid (rec_boot x)
            have HLQ := Lib.hid (boot_len x)
            have HBQ := Lib.hid (And.intro ho3.bs ho3.cap.1)
            have HKQ : Hid (0 < (bootO x).1.length → w3.cell? ⟨g, 3, none⟩ = some (.bool cd.keep)) := Lib.hid fun _ => (HC.out.oth hoth3).all.2.2.2.1
            clear HBT ho3 hm3 hoth3
            go_wp2_with fail
            go_meet
            exact ⟨_, es, (bootO x).1, A5, c5, rfl, HMQ, HIQ, HRQ, HLQ.out, HBQ, HKQ, by omega⟩
        have q0 : (cd.do_ == 0) = false := by simpa using h0
        by_cases h1 : cd.do_ = 1
        · as_aux_lemma =>
            have q1 : (cd.do_ == 1) = true := by simpa using h1
            have HBG := a_begin HM.out HI.out.ok A1 c1 cd.shards HSH.out hsl1
            clear h0 h1
            go_wp2_with fail
            refine HBG.mono ?_
            rintro e w3 ⟨rfl, hm3, hoth3⟩
            have HM3 := Lib.hid hm3
            have HC3 := Lib.hid (HC.out.oth hoth3)
            clear HBG hm3 hoth3 k0 k1 k2 k3
            go_wp2_with (with_reducible first | refine stop_alloc 35 ?_ | refine stop_store 35 ?_)
            refine go_on (wpList_alloc_ rfl rfl apitx_info ?_)
            go_wp2_with (with_reducible first | refine stop_alloc 35 ?_ | refine stop_store 35 ?_)
            refine go_on (wpList_store_last rfl rfl rfl rfl (apitx_size _ _ _) rfl (by simp [Value.oneCell']) ?_)
            intro w4 hrow4 hx4 hz4
            have HM4 := Lib.hid (HM3.out.ext hx4)
            have HC4 := Lib.hid (HC3.out.ext hx4)
            have HR4 := Lib.hid hrow4
            generalize w3.heap.size = g18 at *
            clear HM3 HC3 hx4 hrow4 hz4
            by_cases he : beginE x cd.shards = 0; rotate_left
            · have hse : beginS x cd.shards = x := begin_bad he
              have heb : (beginE x cd.shards == 0) = false := by simpa using he
              rw [hse] at HM4
              have HMQ := HM4
              have HIQ := HI
              have HRQ := Lib.hid (rec_nil x)
              have HLQ := Lib.hid (show ([] : By).length ≤ 100 by simp)
              have HBQ : Hid (Bs w4 none [] ∧ ([] : By).length ≤ 0) := Lib.hid ⟨fun k v hk => by simp at hk, by simp⟩
              have HKQ : Hid (0 < ([] : By).length → w4.cell? ⟨g, 3, none⟩ = some (.bool cd.keep)) := Lib.hid fun h => by simp at h
              generalize beginE x cd.shards = be at *
              clear hse he
              go_wp2_with fail
              go_meet
              exact ⟨_, es, [], none, 0, rfl, HMQ, HIQ, HRQ, HLQ.out, HBQ, HKQ, by omega⟩
            · have HIQ := Lib.hid (HI.out.begin cd.shards he)
              have HRQ := Lib.hid (rec_nil (beginS x cd.shards))
              have hsl4 := (rightF_len (begin_ok he)).2
              rw [he]
              clear he
              generalize beginT x cd.shards = bt at *
              generalize beginS x cd.shards = xb at *
              obtain ⟨k0, k1, k2, -⟩ := rows3 HR4.out
              go_wp2_with (at_builtin; refine unstop ?_)
              have hMa := HM4.out.ext ((Ext.refl w4).alloc (.cells #[.int .i64 bt.node, .int .i64 bt.boot, .int .i64 bt.n] 35))
              have hnw : Sl (w4.alloc (.cells #[.int .i64 bt.node, .int .i64 bt.boot, .int .i64 bt.n] 35)) (some ⟨w4.heap.size, 0, none⟩) (txiC bt) := Sl.new w4 (txiC bt) _ _
              refine go_on (wpList_app apitxsT hMa.to hnw rfl rfl rfl rfl rfl (txiC_one _) (by rw [List.length_map]; omega) (by rw [List.length_map]; omega) (by have := hMa.nm.ex.size; simpa using this) ?_)
              intro v5 w5 ho5 hg5 hor5
              have HM5 := Lib.hid (hMa.pushT ho5 hg5 hor5)
              have HC5 := Lib.hid ((HC4.out.ext ((Ext.refl w4).alloc (.cells #[.int .i64 bt.node, .int .i64 bt.boot, .int .i64 bt.n] 35))).grow hMa.to (by decide) hg5)
              clear hMa hnw ho5 hg5 hor5 k0 k1 k2
              have e1 := fun W (hx : Ext w5 W) => (HC5.out.ext hx).all.2.1
              go_wp2_with (at_builtin; refine unstop ?_)
              have hnil : (w5.alloc (.cells #[] 3)).ownsRow w5.heap.size 3 1 (.slice (some ⟨w5.heap.size, 0, none⟩) 0 0) 0 [] := owns_new w5 w5.heap.size 3 #[] [] 0 rfl rfl (Nat.le_refl _) (by simp [maxLen])
              have hsl : Sl (w5.alloc (.cells #[] 3)) A1 (ib cd.shards) := HSH.out.ext (HM5.out.nm.ex.trans ((Ext.refl w5).alloc _))
              refine go_on (wpList_app intsT hnil hsl rfl rfl rfl rfl (by simp) (ib_one _) (by omega) (by omega) (by simp) ?_)
              intro v6 w6 ho6 hg6 _
              have hx56 : Ext w5 w6 := ((Ext.refl w5).alloc _).own hnil (Nat.le_refl _) hg6
              have hu6 : w6.ownsRow w.heap.size 3 1 v6 cd.shards.length (ib cd.shards) := by simpa using owns_low ho6 HM5.out.nm.ex.size
              obtain ⟨A6, c6, rfl⟩ := own_form hu6
              have HU6 := Lib.hid hu6
              have HM6 := Lib.hid (HM5.out.ext hx56)
              clear hnil hsl ho6 hg6 hx56 hu6 e1 HM5 HC5
              go_wp2_with (at_builtin; refine unstop ?_)
              have hMa := HM6.out.ext ((Ext.refl w6).alloc (.cells #[.slice A6 cd.shards.length c6] 33))
              obtain ⟨vs, v1, v2⟩ := hMa.so
              have hnw : Sl (w6.alloc (.cells #[.slice A6 cd.shards.length c6] 33)) (some ⟨w6.heap.size, 0, none⟩) [.slice A6 cd.shards.length c6] := Sl.new w6 _ _ _
              refine go_on (wpList_app intssT v1 hnw rfl rfl rfl rfl rfl (by intro u hu; simp at hu; subst hu; rfl) (by rw [List.length_map]; omega) (by rw [List.length_map]; omega) (by have := hMa.nm.ex.size; simpa using this) ?_)
              intro v7 w7 ho7 hg7 hor7
              have HM7 := Lib.hid (hMa.pushS (t := cd.shards) v1 v2 (owns_ext HU6.out ((Ext.refl w6).alloc _)) ho7 hg7 hor7)
              clear hMa v1 v2 hnw ho7 hg7 hor7 HU6 HM6
              go_wp2_with (at_builtin; refine unstop ?_)
              have hMa := HM7.out.ext ((Ext.refl w7).alloc (.cells #[.bool false, .bool false, .bool false, .bool false] 47))
              have hnw : Sl (w7.alloc (.cells #[.bool false, .bool false, .bool false, .bool false] 47)) (some ⟨w7.heap.size, 0, none⟩) (yb [false, false, false, false]) := Sl.new w7 (yb [false, false, false, false]) _ _
              refine go_on (wpList_app ybssT hMa.yo hnw rfl rfl rfl rfl rfl (by intro u hu; simp [yb] at hu; subst hu; rfl) (by rw [List.length_map]; omega) (by rw [List.length_map]; omega) (by have := hMa.nm.ex.size; simpa using this) ?_)
              intro v8 w8 ho8 hg8 hor8
              have HM8 := Lib.hid (hMa.pushY ho8 hg8 hor8)
              clear hMa hnw ho8 hg8 hor8 HM7
              go_wp2_with (at_builtin; refine unstop ?_)
              have hMa := HM8.out.ext ((Ext.refl w8).alloc (.cells #[.int .i64 0] 48))
              have hnw : Sl (w8.alloc (.cells #[.int .i64 0] 48)) (some ⟨w8.heap.size, 0, none⟩) [.int .i64 0] := Sl.new w8 _ _ _
              refine go_on (wpList_app fatesT hMa.fo hnw rfl rfl rfl rfl rfl (by intro u hu; simp at hu; subst hu; rfl) (by rw [List.length_map]; omega) (by rw [List.length_map]; omega) (by have := hMa.nm.ex.size; simpa using this) ?_)
              intro v9 w9 ho9 hg9 hor9
              have hm9 := hMa.pushF ho9 hg9 hor9
              have HMQ : Hid (AMem w w9 p v5 v7 v8 v9 xb ((es ++ [En.mk bt cd.shards [false, false, false, false] 0]).map En.tx) ((es ++ [En.mk bt cd.shards [false, false, false, false] 0]).map En.sh) ((es ++ [En.mk bt cd.shards [false, false, false, false] 0]).map En.ys) ((es ++ [En.mk bt cd.shards [false, false, false, false] 0]).map En.ft)) := Lib.hid (by simpa only [List.map_append, List.map_cons, List.map_nil] using hm9)
              have HLQ := Lib.hid (show ([] : By).length ≤ 100 by simp)
              have HBQ : Hid (Bs w9 none [] ∧ ([] : By).length ≤ 0) := Lib.hid ⟨fun k v hk => by simp at hk, by simp⟩
              have HKQ : Hid (0 < ([] : By).length → w9.cell? ⟨g, 3, none⟩ = some (.bool cd.keep)) := Lib.hid fun h => by simp at h
              clear hMa hnw ho9 hg9 hor9 HM8 hm9
              go_wp2_with fail
              go_meet
              exact ⟨_, _, [], none, 0, rfl, HMQ, HIQ, HRQ, HLQ.out, HBQ, HKQ, by simp; omega⟩
        have q1 : (cd.do_ == 1) = false := by simpa using h1
        by_cases h4 : cd.do_ = 4
        · as_aux_lemma =>
            have q4 : (cd.do_ == 4) = true := by simpa using h4
            have q2 : (cd.do_ == 2) = false := by simpa using (show cd.do_ ≠ 2 by omega)
            have q3 : (cd.do_ == 3) = false := by simpa using (show cd.do_ ≠ 3 by omega)
            obtain ⟨t0, t1, t2, -⟩ := row3_at HTX.out
            have HDR := a_drop HM.out HI.out.ok id
            clear h0 h1 h4
            go_wp2_with fail
            refine HDR.mono ?_
            rintro e w3 ⟨rfl, hm3, hoth3⟩
            have HMQ := Lib.hid hm3
            have HIQ := Lib.hid (HI.out.drop id)
            have HRQ := Lib.hid (rec_nil (dropO x id).2)
            have HLQ := Lib.hid (show ([] : By).length ≤ 100 by simp)
            have HBQ : Hid (Bs w3 none [] ∧ ([] : By).length ≤ 0) := Lib.hid ⟨fun k v hk => by simp at hk, by simp⟩
            have HKQ : Hid (0 < ([] : By).length → w3.cell? ⟨g, 3, none⟩ = some (.bool cd.keep)) := Lib.hid fun h => by simp at h
            clear HDR hm3 hoth3 t0 t1 t2
            generalize (dropO x id).2 = xq at *
            go_wp2_with fail
            go_meet
            exact ⟨_, es, [], none, 0, rfl, HMQ, HIQ, HRQ, HLQ.out, HBQ, HKQ, by omega⟩
        have q4 : (cd.do_ == 4) = false := by simpa using h4
        by_cases h5 : cd.do_ = 5
        · as_aux_lemma =>
            have q5 : (cd.do_ == 5) = true := by simpa using h5
            have q2 : (cd.do_ == 2) = false := by simpa using (show cd.do_ ≠ 2 by omega)
            have q3 : (cd.do_ == 3) = false := by simpa using (show cd.do_ ≠ 3 by omega)
            obtain ⟨t0, t1, t2, -⟩ := row3_at HTX.out
            have HAK := a_ack HM.out HI.out.ok id cd.shard
            clear h0 h1 h4 h5
            go_wp2_with fail
            refine HAK.mono ?_
            rintro e w3 ⟨v3, rfl, ho3, hm3, hoth3⟩
            obtain ⟨A5, c5, rfl⟩ := ho3.form
            have HMQ := Lib.hid hm3
            have HIQ := Lib.hid (HI.out.ack id cd.shard)
            have HRQ := Lib.hid (rec_ack (x := x) id cd.shard)
            have HLQ := Lib.hid (ack_len x id cd.shard)
            have HBQ := Lib.hid (And.intro ho3.bs ho3.cap.1)
            have HKQ : Hid (0 < (ackO x id cd.shard).r.length → w3.cell? ⟨g, 3, none⟩ = some (.bool cd.keep)) := Lib.hid fun _ => (HC.out.oth hoth3).all.2.2.2.1
            clear HAK ho3 hm3 hoth3 t0 t1 t2
            generalize (ackO x id cd.shard).s = xq at *
            generalize (ackO x id cd.shard).r = rq at *
            go_wp2_with fail
            go_meet
            exact ⟨_, es, rq, A5, c5, rfl, HMQ, HIQ, HRQ, HLQ.out, HBQ, HKQ, by omega⟩
        have q5 : (cd.do_ == 5) = false := by simpa using h5
        by_cases h2 : cd.do_ = 2
        · as_aux_lemma =>
            have q2 : (cd.do_ == 2) = true := by simpa using h2
            obtain ⟨t0, t1, t2, -⟩ := row3_at HTX.out
            have HVT := a_vote HM.out HI.out.ok id cd.shard true
            clear h0 h1 h4 h5 h2
            go_wp2_with fail
            refine HVT.mono ?_
            rintro e w3 ⟨v3, rfl, ho3, hm3, hoth3⟩
            obtain ⟨A5, c5, rfl⟩ := ho3.form
            have hc3 := (HC.out.oth hoth3).all.1
            have hc4 := (HC.out.oth hoth3).all.2.2.1
            have HRQ := Lib.hid (rec_vote (x := x) id cd.shard true)
            have HLQ := Lib.hid (vote_len HI.out.ok id cd.shard true)
            by_cases he : (voteO x id cd.shard true).e = 0; rotate_left
            · have HMQ := Lib.hid hm3
              have HIQ := Lib.hid (HI.out.voteNo (id := id) (s := cd.shard) (yes := true) (by rcases HAT.out with h | ⟨k, hk, _, h⟩; exact .inl h.1; exact .inr ⟨k, hk, h⟩) (.inl he))
              have HBQ := Lib.hid (And.intro ho3.bs ho3.cap.1)
              have HKQ : Hid (0 < (voteO x id cd.shard true).r.length → w3.cell? ⟨g, 3, none⟩ = some (.bool cd.keep)) := Lib.hid fun _ => (HC.out.oth hoth3).all.2.2.2.1
              have heb : ((voteO x id cd.shard true).e == 0) = false := by simpa using he
              clear HVT ho3 hm3 hoth3 t0 t1 t2 he
              generalize (voteO x id cd.shard true).s = xq at *
              generalize (voteO x id cd.shard true).r = rq at *
              generalize (voteO x id cd.shard true).e = eq at *
              go_wp2_with fail
              go_meet
              exact ⟨_, es, rq, A5, c5, rfl, HMQ, HIQ, HRQ, HLQ.out, HBQ, HKQ, by omega⟩
            · rcases HAT.out with ⟨hz, ha⟩ | ⟨k, hk, ha, hid⟩
              · have HMQ := Lib.hid hm3
                have HIQ := Lib.hid (show AInv (voteO x id cd.shard true).s es by
                  obtain rfl := List.eq_nil_of_length_eq_zero hz
                  exact HI.out.vote0 id cd.shard true)
                have HBQ := Lib.hid (And.intro ho3.bs ho3.cap.1)
                have HKQ : Hid (0 < (voteO x id cd.shard true).r.length → w3.cell? ⟨g, 3, none⟩ = some (.bool cd.keep)) := Lib.hid fun _ => (HC.out.oth hoth3).all.2.2.2.1
                subst ha
                rw [he]
                clear HVT ho3 hm3 hoth3 t0 t1 t2 he hz
                generalize (voteO x id cd.shard true).s = xq at *
                generalize (voteO x id cd.shard true).r = rq at *
                go_wp2_with fail
                go_meet
                exact ⟨_, es, rq, A5, c5, rfl, HMQ, HIQ, HRQ, HLQ.out, HBQ, HKQ, by omega⟩
              · have hs3 := vote_shard HI.out.ok he
                have hAV := HI.out.vote hk cd.shard true
                subst hid
                have HIQ := Lib.hid hAV
                clear hAV
                obtain ⟨gy, hyA, hyc, hyf, -⟩ := OwnY.at_ hm3.yo (fun r hr => by obtain ⟨e, he, rfl⟩ := List.mem_map.1 hr; exact (HI.out.ent e he).y4) (k := k) (by simpa using hk)
                subst hyA ha
                have hk0 : (0 : Int) ≤ (k : Int) := by omega
                have hkn : (k : Int) < (es.length : Int) := by omega
                rw [he]
                obtain ⟨s, hs, hs4⟩ : ∃ s : Nat, cd.shard = (s : Int) ∧ s < 4 := ⟨cd.shard.toNat, by omega, by omega⟩
                rw [hs] at hc4
                have hys := hyc s hs4
                have hyz := hyf (k * 4 + s)
                have hs0 : (0 : Int) ≤ (s : Int) := by omega
                have hs5 : (s : Int) < 4 := by omega
                have hev := he
                clear he
                go_wp2_with fail
                have hms := (hm3.setY (k := k) (by simpa using hk) hs4 (fun r hr => by obtain ⟨e, he, rfl⟩ := List.mem_map.1 hr; exact (HI.out.ent e he).y4)).ext (Ext.refl _).drew
                have hve : votedE es[k] (voteO x es[k].tx cd.shard true) cd.shard true = En.mk es[k].tx es[k].sh (es[k].ys.set s true) es[k].ft := by unfold votedE; rw [if_pos ⟨hev, rfl⟩, hs]; rfl
                have HMQ : Hid (AMem w (w3.setCell ⟨gy, k * 4 + s, none⟩ (.bool true)).drew p (.slice tA es.length tc) (.slice sA es.length sc) (.slice (some ⟨gy, 0, none⟩) es.length yc) (.slice fA es.length fc) (voteO x es[k].tx cd.shard true).s ((es.set k (En.mk es[k].tx es[k].sh (es[k].ys.set s true) es[k].ft)).map En.tx) ((es.set k (En.mk es[k].tx es[k].sh (es[k].ys.set s true) es[k].ft)).map En.sh) ((es.set k (En.mk es[k].tx es[k].sh (es[k].ys.set s true) es[k].ft)).map En.ys) ((es.set k (En.mk es[k].tx es[k].sh (es[k].ys.set s true) es[k].ft)).map En.ft)) := Lib.hid (by
                  rw [map_set_same (e := En.mk es[k].tx es[k].sh (es[k].ys.set s true) es[k].ft) En.tx hk rfl, map_set_same (e := En.mk es[k].tx es[k].sh (es[k].ys.set s true) es[k].ft) En.sh hk rfl, map_set_same (e := En.mk es[k].tx es[k].sh (es[k].ys.set s true) es[k].ft) En.ft hk rfl, List.map_set]
                  simpa using hms)
                rw [hve] at HIQ
                obtain ⟨ho4, hc4'⟩ := hm3.beside (k * 4 + s) (.bool true) ho3 (HC.out.oth hoth3)
                have HBQ := Lib.hid (And.intro (ho4.ext (Ext.refl _).drew).bs ho3.cap.1)
                have HKQ : Hid (0 < (voteO x es[k].tx cd.shard true).r.length → (w3.setCell ⟨gy, k * 4 + s, none⟩ (.bool true)).drew.cell? ⟨g, 3, none⟩ = some (.bool cd.keep)) := Lib.hid fun _ => (hc4'.ext (Ext.refl _).drew).all.2.2.2.1
                rw [hs] at HMQ HRQ HLQ HBQ HKQ HIQ
                clear HVT ho3 hm3 hoth3 t0 t1 t2 hms hve hev hs3 hyc hyf ho4 hc4'
                go_region
                clear hys hyz hc3 hc4
                go_wp2_with fail
                go_meet
                exact ⟨_, _, (voteO x es[k].tx s true).r, A5, c5, rfl, HMQ, HIQ, HRQ, HLQ.out, HBQ, HKQ, by rw [List.length_set]; omega⟩
        have q2 : (cd.do_ == 2) = false := by simpa using h2
        by_cases h3 : cd.do_ = 3
        · as_aux_lemma =>
            have q3 : (cd.do_ == 3) = true := by simpa using h3
            obtain ⟨t0, t1, t2, -⟩ := row3_at HTX.out
            have HVT := a_vote HM.out HI.out.ok id cd.shard false
            clear h0 h1 h4 h5 h2 h3
            go_wp2_with fail
            refine HVT.mono ?_
            rintro e w3 ⟨v3, rfl, ho3, hm3, hoth3⟩
            obtain ⟨A5, c5, rfl⟩ := ho3.form
            have hc3 := (HC.out.oth hoth3).all.1
            have HMQ := Lib.hid hm3
            have HIQ := Lib.hid (HI.out.voteNo (id := id) (s := cd.shard) (yes := false) (by rcases HAT.out with h | ⟨k, hk, _, h⟩; exact .inl h.1; exact .inr ⟨k, hk, h⟩) (.inr rfl))
            have HRQ := Lib.hid (rec_vote (x := x) id cd.shard false)
            have HLQ := Lib.hid (vote_len HI.out.ok id cd.shard false)
            have HBQ := Lib.hid (And.intro ho3.bs ho3.cap.1)
            have HKQ : Hid (0 < (voteO x id cd.shard false).r.length → w3.cell? ⟨g, 3, none⟩ = some (.bool cd.keep)) := Lib.hid fun _ => (HC.out.oth hoth3).all.2.2.2.1
            clear HVT ho3 hm3 hoth3 t0 t1 t2
            generalize (voteO x id cd.shard false).s = xq at *
            generalize (voteO x id cd.shard false).r = rq at *
            by_cases he : (voteO x id cd.shard false).e = 0
            · rw [he]
              clear he
              go_wp2_with fail
              go_meet
              exact ⟨_, es, rq, A5, c5, rfl, HMQ, HIQ, HRQ, HLQ.out, HBQ, HKQ, by omega⟩
            · have heb : ((voteO x id cd.shard false).e == 0) = false := by simpa using he
              clear he
              generalize (voteO x id cd.shard false).e = eq at *
              go_wp2_with fail
              go_meet
              exact ⟨_, es, rq, A5, c5, rfl, HMQ, HIQ, HRQ, HLQ.out, HBQ, HKQ, by omega⟩
        have q3 : (cd.do_ == 3) = false := by simpa using h3
        as_aux_lemma =>
          have HMQ := HM
          have HIQ := HI
          have HRQ := Lib.hid (rec_nil x)
          have HLQ := Lib.hid (show ([] : By).length ≤ 100 by simp)
          have HBQ : Hid (Bs wc none [] ∧ ([] : By).length ≤ 0) := Lib.hid ⟨fun k v hk => by simp at hk, by simp⟩
          have HKQ : Hid (0 < ([] : By).length → wc.cell? ⟨g, 3, none⟩ = some (.bool cd.keep)) := Lib.hid fun h => by simp at h
          clear h0 h1 h2 h3 h4 h5
          go_wp2_with fail
          go_meet
          exact ⟨_, es, [], none, 0, rfl, HMQ, HIQ, HRQ, HLQ.out, HBQ, HKQ, by omega⟩
      case rest =>
      obtain ⟨x1, es1, r, A5, c5, rfl, HM1, HI1, HR1, HL1, HB1, HK1, hel1⟩ := hcut
      clear HM HI HC HTX HAT k0 k1 k2 k3 HSH HW8 HGB HG2 HGL2
      obtain ⟨tA1, tc1, htv⟩ := own_form HM1.out.to
      obtain ⟨yA1, yc1, hyv⟩ := own_form HM1.out.yo
      obtain ⟨fA1, fc1, hfv⟩ := own_form HM1.out.fo
      obtain ⟨sA1, sc1, hsv⟩ := HM1.out.so.form
      simp only [List.length_map] at htv hyv hfv hsv
      subst htv hyv hfv hsv
      go_upto_region 38 with fail
      go_cut [150] from 144 to 149 (fun s wx => s = .bool (decide (0 < r.length) && cd.keep) ∧ wc = wx)
      case first =>
        by_cases hr0 : 0 < r.length
        · have q5 : (0 : Int) < (r.length : Int) := by omega
          have hk := HK1.out hr0
          by_cases hkp : cd.keep = true
          · rw [hkp] at hk
            go_wp2_with fail
            go_meet
            exact ⟨by simp [hr0, hkp], rfl⟩
          · have hkf : cd.keep = false := by simpa using hkp
            rw [hkf] at hk
            go_wp2_with fail
            go_meet
            exact ⟨by simp [hkf], rfl⟩
        · have q5 : ¬ (0 : Int) < (r.length : Int) := by omega
          go_wp2_with fail
          go_meet
          exact ⟨by simp [hr0], rfl⟩
      case rest =>
      obtain ⟨rfl, rfl⟩ := hcut
      generalize (decide (0 < r.length) && cd.keep) = T at *
      go_upto_if 150 with fail
      go_cut [] from 150 to 153 (fun wx => ∃ x2, Hid (AMem w wx p (.slice tA1 es1.length tc1) (.slice sA1 es1.length sc1) (.slice yA1 es1.length yc1) (.slice fA1 es1.length fc1) x2 (es1.map En.tx) (es1.map En.sh) (es1.map En.ys) (es1.map En.ft)) ∧ Hid (AInv x2 es1))
      case first =>
        cases T with
        | false =>
          go_wp2_with fail
          go_meet
          exact ⟨x1, HM1, HI1⟩
        | true =>
          have HRD := a_redo HM1.out HI1.out.ok A5 c5 r HB1.out.1 HB1.out.2 (by omega)
          have HI2 := Lib.hid (HI1.out.again HR1.out)
          go_wp2_with fail
          refine HRD.mono ?_
          rintro e w4 ⟨rfl, hm4, -⟩
          have HM2 := Lib.hid hm4
          clear HRD hm4
          go_wp2_with fail
          go_meet
          exact ⟨_, HM2, HI2⟩
      case rest =>
      obtain ⟨x2, HM2, HI2⟩ := hcut
      clear HM1 HI1 HR1 HL1 HB1 HK1
      go_wp2_with fail
      go_loopw [17] (fun kv wr => ∃ (k : Nat) (es2 : List En), kv = .int .i64 k ∧ k ≤ es1.length ∧ es2.length = es1.length ∧ Hid (AMem w wr p (.slice tA1 es1.length tc1) (.slice sA1 es1.length sc1) (.slice yA1 es1.length yc1) (.slice fA1 es1.length fc1) x2 (es2.map En.tx) (es2.map En.sh) (es2.map En.ys) (es2.map En.ft)) ∧ Hid (AInv x2 es2)) (fun kv _ => es1.length - (intOf kv).toNat)
      case atStart => exact ⟨0, es1, rfl, by omega, rfl, HM2, HI2⟩
      case round =>
        obtain ⟨k, es2, rfl, hk, hes, HM, HI⟩ := hrel
        clear HM2 HI2
        by_cases hkl : k < es1.length; rotate_left
        · have q5 : ¬ (k : Int) < (es1.length : Int) := by omega
          go_wp2
          go_roundw
          case rel => exact ⟨i + 1, x2, es2, by go_num, by omega, by omega, HM, HI, by omega⟩
          case measure => simp [intOf]; omega
        · have q5 : (k : Int) < (es1.length : Int) := by omega
          have hk2 : k < es2.length := by omega
          obtain ⟨adt, cpt, htv, hct⟩ := HM.out.tx (k := k) (by simpa using hk2)
          injection htv with h1 h2 h3
          clear h2
          subst h1 h3
          simp only [List.getElem_map] at hct
          have HAS := a_ask HM.out HI.out.ok es2[k].tx
          go_wp2_with (with_reducible first | refine stop_load 35 ?_)
          refine go_on (wpList_load_elem rfl 35 _ rfl (adt.add (k * 3)) rfl (txiC es2[k].tx) _ (hct _ (Ext.refl _)) Try.underlying35 rfl (by kernel_rfl) ?_)
          go_wp2_with fail
          refine HAS.mono ?_
          rintro e w4 ⟨rfl, hm4, hx4⟩
          have HM4 := Lib.hid hm4
          have HAD := Lib.hid (fun h => ask_done HI.out hk2 h)
          have HIF := Lib.hid (HI.out.fate hk2)
          obtain ⟨ads, As, cs, hsa, hss, hsc⟩ := hm4.so.at_ (k := k) (by simpa using hk2)
          obtain ⟨gy, hya, hyc, -, -⟩ := OwnY.at_ hm4.yo (fun r hr => by obtain ⟨e, he, rfl⟩ := List.mem_map.1 hr; exact (HI.out.ent e he).y4) (k := k) (by simpa using hk2)
          obtain ⟨gf, hfa, hfc, hff⟩ := OwnF.at_ hm4.fo (k := k) (by simpa using hk2)
          subst hsa hya hfa
          simp only [List.getElem_map] at hss hsc hyc hfc
          have HRM := Lib.hid (rightF_mem (HI.out.ent _ (List.getElem_mem hk2)).right)
          have hsl4 := (rightF_len (HI.out.ent _ (List.getElem_mem hk2)).right).2
          clear HAS hm4 hct
          have HAD : Hid (askF x2 es2[k].tx = 1 → (∀ s ∈ es2[k].sh, es2[k].ys.getD s.toNat false = true) ∧ es2[k].ft ≠ 2) := HAD
          generalize askF x2 es2[k].tx = fa at *
          generalize es2[k].sh = sh at hss hsc HAD HRM hsl4
          generalize es2[k].ys = ys at hyc HAD
          generalize es2[k].ft = ft at hfc HAD
          have HSS := Lib.hid hss
          have HYC := Lib.hid hyc
          have HX4 := Lib.hid hx4
          clear hss hyc hx4
          go_wp2_with fail
          go_loopw [19, 20] (fun av jv wx => ∃ j : Nat, jv = .int .i64 j ∧ j ≤ sh.length ∧ av = .bool ((sh.take j).all fun s => ys.getD s.toNat false) ∧ Ext w4 wx) (fun _ jv _ => sh.length - (intOf jv).toNat)
          case atStart => exact ⟨0, rfl, by omega, by simp, Ext.refl _⟩
          case round =>
            obtain ⟨j, rfl, hj, rfl, hxj⟩ := hrel
            have c1 := hsc _ hxj
            by_cases hjl : j < sh.length
            · have q6 : (j : Int) < (sh.length : Int) := by omega
              obtain ⟨s, hs, hs4⟩ : ∃ s : Nat, sh[j] = (s : Int) ∧ s < 4 := by
                have := HRM.out _ (List.getElem_mem hjl)
                exact ⟨sh[j].toNat, by omega, by omega⟩
              have htk : ((sh.take (j + 1)).all fun s => ys.getD s.toNat false) = (((sh.take j).all fun s => ys.getD s.toNat false) && ys.getD s false) := by
                rw [List.take_succ_eq_append_getElem hjl, List.all_append, hs]
                simp
              have HTK := Lib.hid htk
              obtain ⟨ad2, e2, hc2⟩ := HSS.out j _ (ib_get hjl)
              subst e2
              rw [hs] at hc2
              have c2 : ∀ W, Ext w4 W → W.cell? (ad2.add j) = some (.int .i64 (s : Int)) := fun W hx => hx.cell hc2
              have c3 : ∀ W, Ext w4 W → W.cell? ⟨gy, k * 4 + s, none⟩ = some (.bool (ys.getD s false)) := fun W hx => hx.cell (HYC.out s hs4)
              have hs0 : (0 : Int) ≤ (s : Int) := by omega
              have hs5 : (s : Int) < 4 := by omega
              have hxd := hxj.drew
              clear hs hc2 htk c1
              generalize ((sh.take j).all fun s => ys.getD s.toNat false) = aa at *
              cases aa
              · go_wp2_with fail
                refine wp_region_phase (S := fun w' => Ext w4 w') 15 (by kernel_rfl) (by kernel_rfl) ?_ (fun hHeld => ?_)
                · exact hxd
                simp only [List.drop_succ_cons, List.drop_zero]
                refine name_head ?_
                intro wr0 hw0
                rw [hw0] at hHeld
                refine wpHead_take (i := 0) (v := ?_) (by rfl) (by kernel_rfl) (by kernel_rfl) (by exact fun _ _ _ h => h) (Or.inl ⟨by rfl, ?_⟩) (by assumption) ?_
                rotate_left
                · intro w hSw
                  first | (go_simp; done) | (go_simp; with_reducible rfl)
                simp only [List.getElem_toArray, List.getElem_cons_zero, Act.put, List.setIfInBounds_toArray, List.set_cons_zero, List.set_cons_succ]
                refine wpHead_take (i := 1) (v := ?_) (by rfl) (by kernel_rfl) (by kernel_rfl) (by exact fun _ _ _ h => h) (Or.inl ⟨by rfl, ?_⟩) (by assumption) ?_
                rotate_left
                · intro w hSw
                  first | (go_simp; done) | (go_simp; with_reducible rfl)
                simp only [List.getElem_toArray, List.getElem_cons_succ, List.getElem_cons_zero, Act.put, List.setIfInBounds_toArray, List.set_cons_zero, List.set_cons_succ]
                refine wpHead_take (i := 2) (v := undef) (by rfl) (by kernel_rfl) (by kernel_rfl) (by exact fun _ _ _ h => h) (Or.inr ⟨by rfl, rfl⟩) (by assumption) ?_
                simp only [List.getElem_toArray, List.getElem_cons_succ, List.getElem_cons_zero, Act.put, List.setIfInBounds_toArray, List.set_cons_zero, List.set_cons_succ]
                refine wpHead_take (i := 3) (v := undef) (by rfl) (by kernel_rfl) (by kernel_rfl) (by exact fun _ _ _ h => h) (Or.inr ⟨by rfl, rfl⟩) (by assumption) ?_
                simp only [List.getElem_toArray, List.getElem_cons_succ, List.getElem_cons_zero, Act.put, List.setIfInBounds_toArray, List.set_cons_zero, List.set_cons_succ]
                refine wpHead_take (i := 4) (v := undef) (by rfl) (by kernel_rfl) (by kernel_rfl) (by exact fun _ _ _ h => h) (Or.inr ⟨by rfl, rfl⟩) (by assumption) ?_
                simp only [List.getElem_toArray, List.getElem_cons_succ, List.getElem_cons_zero, Act.put, List.setIfInBounds_toArray, List.set_cons_zero, List.set_cons_succ]
                refine wpHead_take (i := 5) (v := undef) (by rfl) (by kernel_rfl) (by kernel_rfl) (by exact fun _ _ _ h => h) (Or.inr ⟨by rfl, rfl⟩) (by assumption) ?_
                simp only [List.getElem_toArray, List.getElem_cons_succ, List.getElem_cons_zero, Act.put, List.setIfInBounds_toArray, List.set_cons_zero, List.set_cons_succ]
                refine wpHead_take (i := 6) (v := undef) (by rfl) (by kernel_rfl) (by kernel_rfl) (by exact fun _ _ _ h => h) (Or.inr ⟨by rfl, rfl⟩) (by assumption) ?_
                simp only [List.getElem_toArray, List.getElem_cons_succ, List.getElem_cons_zero, Act.put, List.setIfInBounds_toArray, List.set_cons_zero, List.set_cons_succ]
                refine wpHead_take (i := 7) (v := undef) (by rfl) (by kernel_rfl) (by kernel_rfl) (by exact fun _ _ _ h => h) (Or.inr ⟨by rfl, rfl⟩) (by assumption) ?_
                simp only [List.getElem_toArray, List.getElem_cons_succ, List.getElem_cons_zero, Act.put, List.setIfInBounds_toArray, List.set_cons_zero, List.set_cons_succ]
                refine wpHead_take (i := 8) (v := undef) (by rfl) (by kernel_rfl) (by kernel_rfl) (by exact fun _ _ _ h => h) (Or.inr ⟨by rfl, rfl⟩) (by assumption) ?_
                simp only [List.getElem_toArray, List.getElem_cons_succ, List.getElem_cons_zero, Act.put, List.setIfInBounds_toArray, List.set_cons_zero, List.set_cons_succ]
                refine wpHead_take (i := 9) (v := undef) (by rfl) (by kernel_rfl) (by kernel_rfl) (by exact fun _ _ _ h => h) (Or.inr ⟨by rfl, rfl⟩) (by assumption) ?_
                simp only [List.getElem_toArray, List.getElem_cons_succ, List.getElem_cons_zero, Act.put, List.setIfInBounds_toArray, List.set_cons_zero, List.set_cons_succ]
                refine wpHead_take (i := 10) (v := undef) (by rfl) (by kernel_rfl) (by kernel_rfl) (by exact fun _ _ _ h => h) (Or.inr ⟨by rfl, rfl⟩) (by assumption) ?_
                simp only [List.getElem_toArray, List.getElem_cons_succ, List.getElem_cons_zero, Act.put, List.setIfInBounds_toArray, List.set_cons_zero, List.set_cons_succ]
                refine wpHead_take (i := 11) (v := undef) (by rfl) (by kernel_rfl) (by kernel_rfl) (by exact fun _ _ _ h => h) (Or.inr ⟨by rfl, rfl⟩) (by assumption) ?_
                simp only [List.getElem_toArray, List.getElem_cons_succ, List.getElem_cons_zero, Act.put, List.setIfInBounds_toArray, List.set_cons_zero, List.set_cons_succ]
                refine wpHead_take (i := 12) (v := undef) (by rfl) (by kernel_rfl) (by kernel_rfl) (by exact fun _ _ _ h => h) (Or.inr ⟨by rfl, rfl⟩) (by assumption) ?_
                simp only [List.getElem_toArray, List.getElem_cons_succ, List.getElem_cons_zero, Act.put, List.setIfInBounds_toArray, List.set_cons_zero, List.set_cons_succ]
                refine wpHead_take (i := 13) (v := undef) (by rfl) (by kernel_rfl) (by kernel_rfl) (by exact fun _ _ _ h => h) (Or.inr ⟨by rfl, rfl⟩) (by assumption) ?_
                simp only [List.getElem_toArray, List.getElem_cons_succ, List.getElem_cons_zero, Act.put, List.setIfInBounds_toArray, List.set_cons_zero, List.set_cons_succ]
                refine wpHead_take (i := 14) (v := ?_) (by rfl) (by kernel_rfl) (by kernel_rfl) (by exact fun _ _ _ h => h) (Or.inl ⟨by rfl, ?_⟩) (by assumption) ?_
                rotate_left
                · intro w hSw
                  first | (go_simp; done) | (go_simp; with_reducible rfl)
                simp only [List.getElem_toArray, List.getElem_cons_succ, List.getElem_cons_zero, Act.put, List.setIfInBounds_toArray, List.set_cons_zero, List.set_cons_succ]
                refine wpHead_done (by kernel_rfl) ?_
                have HXJ := Lib.hid hHeld
                generalize wr0 = wj at *
                clear hxd hxj hHeld
                go_wp2_with fail
                go_roundw
                case rel => exact ⟨j + 1, by go_num, by omega, by rw [HTK.out]; simp, HXJ.out⟩
                case measure => simp [intOf]; omega
              · go_wp2_with fail
                refine wp_region_phase (S := fun w' => Ext w4 w') 15 (by kernel_rfl) (by kernel_rfl) ?_ (fun hHeld => ?_)
                · exact hxd
                simp only [List.drop_succ_cons, List.drop_zero]
                refine name_head ?_
                intro wr0 hw0
                rw [hw0] at hHeld
                refine wpHead_take (i := 0) (v := ?_) (by rfl) (by kernel_rfl) (by kernel_rfl) (by exact fun _ _ _ h => h) (Or.inl ⟨by rfl, ?_⟩) (by assumption) ?_
                rotate_left
                · intro w hSw
                  first | (go_simp; done) | (go_simp; with_reducible rfl)
                simp only [List.getElem_toArray, List.getElem_cons_zero, Act.put, List.setIfInBounds_toArray, List.set_cons_zero, List.set_cons_succ]
                refine wpHead_take (i := 1) (v := ?_) (by rfl) (by kernel_rfl) (by kernel_rfl) (by exact fun _ _ _ h => h) (Or.inl ⟨by rfl, ?_⟩) (by assumption) ?_
                rotate_left
                · intro w hSw
                  first | (go_simp; done) | (go_simp; with_reducible rfl)
                simp only [List.getElem_toArray, List.getElem_cons_succ, List.getElem_cons_zero, Act.put, List.setIfInBounds_toArray, List.set_cons_zero, List.set_cons_succ]
                refine wpHead_take (i := 2) (v := ?_) (by rfl) (by kernel_rfl) (by kernel_rfl) (by exact fun _ _ _ h => h) (Or.inl ⟨by rfl, ?_⟩) (by assumption) ?_
                rotate_left
                · intro w hSw
                  first | (go_simp; done) | (go_simp; with_reducible rfl)
                simp only [List.getElem_toArray, List.getElem_cons_succ, List.getElem_cons_zero, Act.put, List.setIfInBounds_toArray, List.set_cons_zero, List.set_cons_succ]
                refine wpHead_take (i := 3) (v := ?_) (by rfl) (by kernel_rfl) (by kernel_rfl) (by exact fun _ _ _ h => h) (Or.inl ⟨by rfl, ?_⟩) (by assumption) ?_
                rotate_left
                · intro w hSw
                  first | (go_simp; done) | (go_simp; with_reducible rfl)
                simp only [List.getElem_toArray, List.getElem_cons_succ, List.getElem_cons_zero, Act.put, List.setIfInBounds_toArray, List.set_cons_zero, List.set_cons_succ]
                refine wpHead_take (i := 4) (v := ?_) (by rfl) (by kernel_rfl) (by kernel_rfl) (by exact fun _ _ _ h => h) (Or.inl ⟨by rfl, ?_⟩) (by assumption) ?_
                rotate_left
                · intro w hSw
                  first | (go_simp; done) | (go_simp; with_reducible rfl)
                simp only [List.getElem_toArray, List.getElem_cons_succ, List.getElem_cons_zero, Act.put, List.setIfInBounds_toArray, List.set_cons_zero, List.set_cons_succ]
                refine wpHead_take (i := 5) (v := ?_) (by rfl) (by kernel_rfl) (by kernel_rfl) (by exact fun _ _ _ h => h) (Or.inl ⟨by rfl, ?_⟩) (by assumption) ?_
                rotate_left
                · intro w hSw
                  first | (go_simp; done) | (go_simp; with_reducible rfl)
                simp only [List.getElem_toArray, List.getElem_cons_succ, List.getElem_cons_zero, Act.put, List.setIfInBounds_toArray, List.set_cons_zero, List.set_cons_succ]
                refine wpHead_take (i := 6) (v := ?_) (by rfl) (by kernel_rfl) (by kernel_rfl) (by exact fun _ _ _ h => h) (Or.inl ⟨by rfl, ?_⟩) (by assumption) ?_
                rotate_left
                · intro w hSw
                  first | (go_simp; done) | (go_simp; with_reducible rfl)
                simp only [List.getElem_toArray, List.getElem_cons_succ, List.getElem_cons_zero, Act.put, List.setIfInBounds_toArray, List.set_cons_zero, List.set_cons_succ]
                refine wpHead_take (i := 7) (v := ?_) (by rfl) (by kernel_rfl) (by kernel_rfl) (by exact fun _ _ _ h => h) (Or.inl ⟨by rfl, ?_⟩) (by assumption) ?_
                rotate_left
                · intro w hSw
                  first | (go_simp; done) | (go_simp; with_reducible rfl)
                simp only [List.getElem_toArray, List.getElem_cons_succ, List.getElem_cons_zero, Act.put, List.setIfInBounds_toArray, List.set_cons_zero, List.set_cons_succ]
                refine wpHead_take (i := 8) (v := ?_) (by rfl) (by kernel_rfl) (by kernel_rfl) (by exact fun _ _ _ h => h) (Or.inl ⟨by rfl, ?_⟩) (by assumption) ?_
                rotate_left
                · intro w hSw
                  first | (go_simp; done) | (go_simp; with_reducible rfl)
                simp only [List.getElem_toArray, List.getElem_cons_succ, List.getElem_cons_zero, Act.put, List.setIfInBounds_toArray, List.set_cons_zero, List.set_cons_succ]
                refine wpHead_take (i := 9) (v := ?_) (by rfl) (by kernel_rfl) (by kernel_rfl) (by exact fun _ _ _ h => h) (Or.inl ⟨by rfl, ?_⟩) (by assumption) ?_
                rotate_left
                · intro w hSw
                  first | (go_simp; done) | (go_simp; with_reducible rfl)
                simp only [List.getElem_toArray, List.getElem_cons_succ, List.getElem_cons_zero, Act.put, List.setIfInBounds_toArray, List.set_cons_zero, List.set_cons_succ]
                refine wpHead_take (i := 10) (v := ?_) (by rfl) (by kernel_rfl) (by kernel_rfl) (by exact fun _ _ _ h => h) (Or.inl ⟨by rfl, ?_⟩) (by assumption) ?_
                rotate_left
                · intro w hSw
                  first | (go_simp; done) | (go_simp; with_reducible rfl)
                simp only [List.getElem_toArray, List.getElem_cons_succ, List.getElem_cons_zero, Act.put, List.setIfInBounds_toArray, List.set_cons_zero, List.set_cons_succ]
                refine wpHead_take (i := 11) (v := ?_) (by rfl) (by kernel_rfl) (by kernel_rfl) (by exact fun _ _ _ h => h) (Or.inl ⟨by rfl, ?_⟩) (by assumption) ?_
                rotate_left
                · intro w hSw
                  first | (go_simp; done) | (go_simp; with_reducible rfl)
                simp only [List.getElem_toArray, List.getElem_cons_succ, List.getElem_cons_zero, Act.put, List.setIfInBounds_toArray, List.set_cons_zero, List.set_cons_succ]
                refine wpHead_take (i := 12) (v := ?_) (by rfl) (by kernel_rfl) (by kernel_rfl) (by exact fun _ _ _ h => h) (Or.inl ⟨by rfl, ?_⟩) (by assumption) ?_
                rotate_left
                · intro w hSw
                  first | (go_simp; done) | (go_simp; with_reducible rfl)
                simp only [List.getElem_toArray, List.getElem_cons_succ, List.getElem_cons_zero, Act.put, List.setIfInBounds_toArray, List.set_cons_zero, List.set_cons_succ]
                refine wpHead_take (i := 13) (v := ?_) (by rfl) (by kernel_rfl) (by kernel_rfl) (by exact fun _ _ _ h => h) (Or.inl ⟨by rfl, ?_⟩) (by assumption) ?_
                rotate_left
                · intro w hSw
                  first | (go_simp; done) | (go_simp; with_reducible rfl)
                simp only [List.getElem_toArray, List.getElem_cons_succ, List.getElem_cons_zero, Act.put, List.setIfInBounds_toArray, List.set_cons_zero, List.set_cons_succ]
                refine wpHead_take (i := 14) (v := ?_) (by rfl) (by kernel_rfl) (by kernel_rfl) (by exact fun _ _ _ h => h) (Or.inl ⟨by rfl, ?_⟩) (by assumption) ?_
                rotate_left
                · intro w hSw
                  first | (go_simp; done) | (go_simp; with_reducible rfl)
                simp only [List.getElem_toArray, List.getElem_cons_succ, List.getElem_cons_zero, Act.put, List.setIfInBounds_toArray, List.set_cons_zero, List.set_cons_succ]
                refine wpHead_done (by kernel_rfl) ?_
                have HXJ := Lib.hid hHeld
                generalize wr0 = wj at *
                clear hxd hxj hHeld
                go_wp2_with fail
                go_roundw
                case rel => exact ⟨j + 1, by go_num, by omega, by rw [HTK.out]; simp, HXJ.out⟩
                case measure => simp [intOf]; omega
            · have q6 : ¬ (j : Int) < (sh.length : Int) := by omega
              have htk : sh.take j = sh := List.take_of_length_le (by omega)
              have c4 := hxj.cell hfc
              have HM5 := Lib.hid (HM4.out.ext hxj)
              obtain ⟨gf2, hfa2, -, f4⟩ := OwnF.at_ HM5.out.fo (k := k) (by simpa using hk2)
              obtain ⟨rfl, -⟩ : gf2 = gf ∧ True := by
                injection hfa2 with h
                injection h with h
                exact ⟨h.symm, trivial⟩
              have HMS : Hid (AMem w (wr.setCell ⟨gf2, k, none⟩ (.int .i64 fa)) p (.slice (some adt) es1.length tc1) (.slice (some ads) es1.length sc1) (.slice (some ⟨gy, 0, none⟩) es1.length yc1) (.slice (some ⟨gf2, 0, none⟩) es1.length fc1) x2 ((es2.set k (En.mk es2[k].tx es2[k].sh es2[k].ys fa)).map En.tx) ((es2.set k (En.mk es2[k].tx es2[k].sh es2[k].ys fa)).map En.sh) ((es2.set k (En.mk es2[k].tx es2[k].sh es2[k].ys fa)).map En.ys) ((es2.set k (En.mk es2[k].tx es2[k].sh es2[k].ys fa)).map En.ft)) := Lib.hid (by
                have hms := HM5.out.setF k fa
                rw [map_set_same (e := En.mk es2[k].tx es2[k].sh es2[k].ys fa) En.tx hk2 rfl, map_set_same (e := En.mk es2[k].tx es2[k].sh es2[k].ys fa) En.sh hk2 rfl, map_set_same (e := En.mk es2[k].tx es2[k].sh es2[k].ys fa) En.ys hk2 rfl, List.map_set]
                exact hms)
              rw [htk]
              clear htk hfc hff hsc hxj hsl4 HM4 HM hfa2
              have hkf : (k : Int) < (es1.length : Int) := q5
              have hk0 : (0 : Int) ≤ (k : Int) := by omega
              by_cases hf1 : fa = 1
              · subst hf1
                obtain ⟨hall, hft⟩ := HAD.out rfl
                have haa : (sh.all fun s => ys.getD s.toNat false) = true := List.all_eq_true.2 hall
                rw [haa]
                have hf2 : (ft == 2) = false := by simpa using hft
                clear haa hall hft
                by_cases hf3 : ft = 1
                · have q8 : (ft != 1) = false := by simpa using hf3
                  clear hf3
                  go_wp2_with fail
                  go_roundw
                  case rel => exact ⟨k + 1, es2, by go_num, by omega, hes, HM5, HI⟩
                  case measure => simp [intOf]; omega
                · have q8 : (ft != 1) = true := by simpa using hf3
                  clear hf3
                  go_wp2_with fail
                  go_roundw
                  case rel => exact ⟨k + 1, _, by go_num, by omega, by rw [List.length_set]; exact hes, HMS, HIF⟩
                  case measure => simp [intOf]; omega
              · have hfb : (fa == 1) = false := by simpa using hf1
                clear hf1
                generalize (sh.all fun s => ys.getD s.toNat false) = aa at *
                by_cases hf3 : ft = 1
                · have q8 : (ft != 1) = false := by simpa using hf3
                  clear hf3
                  go_wp2_with fail
                  go_roundw
                  case rel => exact ⟨k + 1, es2, by go_num, by omega, hes, HM5, HI⟩
                  case measure => simp [intOf]; omega
                · have q8 : (ft != 1) = true := by simpa using hf3
                  clear hf3
                  go_wp2_with fail
                  go_roundw
                  case rel => exact ⟨k + 1, _, by go_num, by omega, by rw [List.length_set]; exact hes, HMS, HIF⟩
                  case measure => simp [intOf]; omega
    · have hor : ¬ (i : Int) < (l.length : Int) ∨ ((i : Int) < (l.length : Int) ∧ ¬ (i : Int) < 120) := by omega
      clear hlt
      rcases hor with q1 | ⟨q1, q2⟩
      all_goals
        go_wp2_with fail
        refine (live_any _).mono ?_
        rintro e w9 ⟨rfl, hx9⟩
        have HX9 := Lib.hid (HM.out.nm.ex.trans hx9)
        clear hx9
        go_wp2
        go_ret
        exact ⟨rfl, HX9.out⟩
end Go.Proofs.Ytijopcdjlpafdaa
