/- Rows of the call's own whose elements have rows of their own; the walk of deed.TakeAll's closure. Conditions: the hypotheses of each theorem. -/
import Derived.Test.YthlppbbejdeeoaaDd4
import Derived.Test.YthlppbbejdeeoaaDd5
import Derived.Test.YthlppbbejdeeoaaStep
namespace Go.Proofs.Ythlppbbejdeeoaa
open Go.RowKit
/-- the blocks of these types have not turned -/
def Stp (ts : List Nat) (w w' : World) : Prop := w.heap.size ≤ w'.heap.size ∧ ∀ (k : Nat) cs t fr, w.heap[k]? = some (.cells cs t fr) → t ∈ ts → w'.heap[k]? = some (.cells cs t fr)
section
variable {ts us : List Nat} {w w' w'' : World}
theorem Stp.trans (h : Stp ts w w') (k : Stp ts w' w'') : Stp ts w w'' := ⟨Nat.le_trans h.1 k.1, fun a cs t fr h1 h2 => k.2 a cs t fr (h.2 a cs t fr h1 h2) h2⟩
theorem Stp.of_ext (h : Ext w w') : Stp ts w w' := ⟨h.size, fun _ _ _ _ h1 _ => h.obj h1⟩
theorem Stp.less (h : Stp ts w w') (hs : ∀ t ∈ us, t ∈ ts) : Stp us w w' := ⟨h.1, fun a cs t fr h1 h2 => h.2 a cs t fr h1 (hs t h2)⟩
theorem Stp.kept {M : List Nat} (h : Kept M w w') (hM : ∀ k ∈ M, k < w.heap.size → ∃ cs t fr, w.heap[k]? = some (.cells cs t fr) ∧ t ∉ ts) : Stp ts w w' :=
  ⟨h.size, fun a cs t fr h1 h2 => by
    by_cases ha : a ∈ M
    · obtain ⟨cs', t', fr', h3, h4⟩ := hM a ha (obj_lt h1)
      rw [h1] at h3
      cases h3
      exact absurd h2 h4
    · exact h.heap h1 ha⟩
theorem Stp.grown {row : Option Nat} (h : w.grownBy w' row) (hr : ∀ g, row = some g → g < w.heap.size → ∃ cs t fr, w.heap[g]? = some (.cells cs t fr) ∧ t ∉ ts) : Stp ts w w' :=
  ⟨h.size, fun a cs t fr h1 h2 => by
    by_cases ha : row = some a
    · obtain ⟨cs', t', fr', h3, h4⟩ := hr a ha (obj_lt h1)
      rw [h1] at h3
      cases h3
      exact absurd h2 h4
    · exact (h.block a (obj_lt h1) (fun e => ha e.symm)).trans h1⟩
end
theorem owns_stp {w w' : World} {base e size n : Nat} {v : Value} {xs : List Value} {ts : List Nat} (h : w.ownsRow base e size v n xs) (hs : Stp ts w w') (he : e ∈ ts) : w'.ownsRow base e size v n xs := by
  refine ⟨h.1, ?_⟩
  rcases h.2 with h0 | ⟨g, cap, cur, h1, h2, h3, h4⟩
  · exact .inl h0
  · exact .inr ⟨g, cap, cur, h1, h2, hs.2 g _ _ _ h3 he, h4⟩
theorem Own.stp {w w' : World} {base : Nat} {v : Value} {l : By} {ts : List Nat} (h : Own w base v l) (hs : Stp ts w w') (he : 5 ∈ ts) : Own w' base v l := owns_stp h hs he
/-- a row of the call's own, each element by s cells that say something -/
def OwnG {α : Type} (S : World → List Value → α → Prop) (s e : Nat) (w : World) (base : Nat) (v : Value) (xs : List α) : Prop :=
  ∃ css : List (List Value), css.length = xs.length ∧ (∀ cs ∈ css, cs.length = s) ∧ w.ownsRow base e s v xs.length css.flatten ∧ ∀ (k : Nat) (cs : List Value) (x : α), css[k]? = some cs → xs[k]? = some x → S w cs x
section
variable {α : Type} {S : World → List Value → α → Prop} {s e base : Nat} {w w' : World} {v : Value} {xs : List α}
theorem OwnG.nil (S : World → List Value → α → Prop) (s e : Nat) (w : World) (base : Nat) : OwnG S s e w base (.slice none 0 0) [] := ⟨[], rfl, by simp, World.ownsRow_nil _ _ _ _, by simp⟩
theorem OwnG.form (h : OwnG S s e w base v xs) : ∃ A cap, v = .slice A xs.length cap := by
  obtain ⟨css, _, _, h3, _⟩ := h
  exact own_form h3
theorem OwnG.stp {ts : List Nat} (h : OwnG S s e w base v xs) (hs : Stp ts w w') (he : e ∈ ts) (hS : ∀ cs x, S w cs x → S w' cs x) : OwnG S s e w' base v xs := by
  obtain ⟨css, h1, h2, h3, h4⟩ := h
  exact ⟨css, h1, h2, owns_stp h3 hs he, fun k cs x a b => hS cs x (h4 k cs x a b)⟩
theorem OwnG.low {b2 : Nat} (h : OwnG S s e w base v xs) (hb : b2 ≤ base) : OwnG S s e w b2 v xs := by
  obtain ⟨css, h1, h2, h3, h4⟩ := h
  exact ⟨css, h1, h2, owns_low h3 hb, h4⟩
theorem OwnG.push {css : List (List Value)} {x : α} {c : List Value} (h1 : css.length = xs.length) (h2 : ∀ cs ∈ css, cs.length = s) (h3 : w'.ownsRow base e s v (xs.length + 1) (css.flatten ++ c))
    (h4 : ∀ (k : Nat) (cs : List Value) (x : α), css[k]? = some cs → xs[k]? = some x → S w' cs x) (hc : c.length = s) (hx : S w' c x) : OwnG S s e w' base v (xs ++ [x]) := by
  refine ⟨css ++ [c], by simp [h1], ?_, by simpa using h3, ?_⟩
  · intro d hd
    rcases List.mem_append.1 hd with h | h
    · exact h2 d h
    · simp at h; subst h; exact hc
  · intro k d z hk hz
    rw [List.getElem?_append] at hk hz
    by_cases hlt : k < css.length
    · rw [if_pos hlt] at hk
      rw [if_pos (by omega)] at hz
      exact h4 k d z hk hz
    · rw [if_neg hlt] at hk
      rw [if_neg (by omega)] at hz
      have hk0 : k - css.length = 0 := by
        rcases Nat.eq_zero_or_pos (k - css.length) with h | h
        · exact h
        · rw [List.getElem?_eq_none (by simp; omega)] at hk; cases hk
      rw [hk0] at hk
      rw [show k - xs.length = 0 by omega] at hz
      simp at hk hz
      subst hk hz
      exact hx
end
/-- a call, guarded or not, that may end in a panic, as one step of a region that draws its order -/
theorem step_callP {P : Program} {ops : Array Oper} {Q : Exit → Act → World → Prop} {a : Act} {w : World} {K : Act → World → Prop} {E : Prop} {o : Oper} {f : Nat} {args : Array Value} {R : Ending → World → Prop} (hw : Region.wanted o (yielded ops a.tmps) = true) (hrun : (execOp a.eval o).run P w = .ok (.enter f args) w) (hc : Calls P f args w R)
    (h : ∀ e w'', R e w'' → (∃ v, e = .returned v ∧ K (a.put o.dst v) w'') ∨ (∃ ch, e = .panicked ch ∧ Q (.panic ch) a w'')) : if Region.wanted o (yielded ops a.tmps) = true then Oper.wp P o a w K Q else E := by
  rw [if_pos hw]
  unfold Oper.wp
  rw [hrun, Oper.upon_enter]
  refine hc.mono fun e w'' hh => ?_
  rcases h e w'' hh with ⟨v, rfl, hk⟩ | ⟨ch, rfl, hk⟩
  · exact hk
  · exact hk
/-! ## deeds -/
def SDd (base : Nat) (w : World) (cs : List Value) (d : Dd) : Prop := ∃ pv, cs = (ddC d pv).toList ∧ Own w base pv d.bytes
def OwnDs (w : World) (base : Nat) (v : Value) (ds : List Dd) : Prop := OwnG (SDd base) 10 48 w base v ds
theorem SDd.stp {base : Nat} {w w' : World} {cs : List Value} {d : Dd} {ts : List Nat} (h : SDd base w cs d) (hs : Stp ts w w') (he : 5 ∈ ts) : SDd base w' cs d := by
  obtain ⟨pv, h1, h2⟩ := h
  exact ⟨pv, h1, h2.stp hs he⟩
theorem OwnDs.stp {base : Nat} {w w' : World} {v : Value} {ds : List Dd} (h : OwnDs w base v ds) (hs : Stp [5, 48] w w') : OwnDs w' base v ds :=
  OwnG.stp h hs (by simp) fun _ _ hx => hx.stp hs (by simp)
theorem deedT : ElemOf Try.prog 26 48 10 120 := ElemOf.mk' (z := .agg zDeed) Try.underlying26 (by kernel_rfl) rfl (by omega)
theorem ddC_one (d : Dd) (A : Option Addr) (n c : Nat) : ∀ u ∈ (ddC d (.slice A n c)).toList, u.oneCell' = true := by
  intro u hu
  simp only [ddC, List.mem_cons, List.not_mem_nil, or_false] at hu
  rcases hu with rfl | rfl | rfl | rfl | rfl | rfl | rfl | rfl | rfl | rfl <;> rfl
def VDs (O base : Nat) (ds : List Dd) (w : World) : Prop := ∃ v, w.heap[O]? = some (.cells #[v] 26 (0, 0)) ∧ OwnDs w base v ds
theorem VDs.low {O base b2 : Nat} {ds : List Dd} {w : World} (h : VDs O base ds w) (hb : b2 ≤ base) : VDs O b2 ds w := by
  obtain ⟨v, h1, css, h2, h3, h4, h5⟩ := h
  refine ⟨v, h1, css, h2, h3, owns_low h4 hb, fun k cs x a b => ?_⟩
  obtain ⟨pv, h6, h7⟩ := h5 k cs x a b
  exact ⟨pv, h6, h7.low hb⟩
theorem Sl.row {w : World} {g : Nat} {cs : Array Value} {t : TypeId} {fr : Nat × Nat} (h : w.heap[g]? = some (.cells cs t fr)) : Sl w (some ⟨g, 0, none⟩) cs.toList := by
  intro k v hk
  refine ⟨_, rfl, ?_⟩
  have : (⟨g, 0, none⟩ : Addr).add k = ⟨g, k, none⟩ := by unfold Addr.add; split <;> simp_all
  rw [this, cell_of_row _ _ k cs t fr h]
  simpa using hk
theorem Kept.row {w w' : World} {base e s n : Nat} {v : Value} {xs : List Value} (ho : w.ownsRow base e s v n xs) (hg : w.grownBy w' v.ownBlock) : ∃ N, Kept N w w' ∧ (∀ k ∈ N, base ≤ k ∧ ∃ cs, w.heap[k]? = some (.cells cs e (0, 0))) := by
  rcases ho.2 with ⟨rfl, _⟩ | ⟨g, cap, cur, rfl, h2, h3, _⟩
  · exact ⟨[], ⟨hg.os, hg.tape, hg.output, hg.size, fun k hk _ => hg.block k hk (by simp [Value.ownBlock])⟩, by simp⟩
  · refine ⟨[g], ⟨hg.os, hg.tape, hg.output, hg.size, fun k hk hn => hg.block k hk (by simp [Value.ownBlock] at hn ⊢; exact hn)⟩, ?_⟩
    intro k hk
    simp at hk
    subst hk
    exact ⟨h2, cur, h3⟩
theorem obj_ne {w : World} {a b : Nat} {cs cs' : Array Value} {t t' : TypeId} {fr fr' : Nat × Nat} (h : w.heap[a]? = some (.cells cs t fr)) (h' : w.heap[b]? = some (.cells cs' t' fr')) (hne : t ≠ t') : a ≠ b := by
  rintro rfl
  rw [h] at h'
  cases h'
  exact hne rfl
theorem repA_step {α : Type} {p : Prs α} {n i : Nat} {acc : List α} {l : By} {res : Nat ⊕ (List α × By)} (h : repA p (n - i) acc l = res) (hi : i < n) :
    (∀ k, p l = .inl k → res = .inl k) ∧ ∀ a r, p l = .inr (a, r) → repA p (n - (i + 1)) (acc ++ [a]) r = res := by
  rw [show n - i = (n - (i + 1)) + 1 by omega] at h
  unfold repA andP at h
  constructor
  · intro k hk
    rw [hk] at h
    exact h.symm
  · intro a r hk
    rw [hk] at h
    exact h
theorem le_deed {a : Dd} {l r : By} (h : deedP l = .inr (a, r)) : r.length ≤ l.length := by
  have := congrArg List.length (Rt.deed.got _ _ _ h).1
  simp only [List.length_append] at this
  omega
set_option maxRecDepth 20000 in
set_option maxHeartbeats 4000000 in
theorem TakeAll1_any (w0 w : World) (R O : Nat) (l : By) (h : RAt w0 w R l) (hl : l.length ≤ 2000) (hO : w.heap[O]? = some (.cells #[.slice none 0 0] 26 (0, 0))) (hO0 : w0.heap.size ≤ O) (hOR : O ≠ R) :
    Calls Try.prog 45 #[pt R, pt O] w (DoSays (allP l) (VDs O w0.heap.size) (fun w' => ∃ ds, VDs O w0.heap.size ds w') w0 w R O) := by
  have HN := rnum_any w0 w R 1 l h (by omega)
  have HX := h.e
  unfold pt at *
  cases hp : numP 1 l with
  | inl k =>
    have HP : Hid (allP l = .inl k) := Lib.hid (by unfold allP andP; rw [hp])
    unfold Reads at HN
    rw [hp] at HN
    clear hp h
    go_enter Try.func45, Try.ntmps45
    go_wp2_with fail
    refine HN.mono ?_
    rintro e w1 ⟨he, hk, hx⟩
    unfold Pan fv at he
    subst he
    go_wp2
    unfold DoSays
    rw [HP.out]
    exact ⟨rfl, rfl, hk.mono (by simp), hx, [], _, hk.heap hO (by simpa using hOR), OwnG.nil _ _ _ _ _⟩
  | inr q =>
    obtain ⟨n, r⟩ := q
    unfold Reads at HN
    rw [hp] at HN
    by_cases hn : 1 ≤ n ∧ n ≤ 12
    · have HP : Hid (allP l = repA deedP n [] r) := Lib.hid (by unfold allP; rw [andP_put hp]; unfold mustP andP; simp [hn])
      have HM := must_any true
      have h1 : (1 : Int) ≤ (n : Int) := by omega
      have h2 : (n : Int) ≤ 12 := by omega
      have hrl := le_num hp
      clear hp h hn
      go_enter Try.func45, Try.ntmps45
      go_wp2_with fail
      refine HN.mono ?_
      rintro e w1 ⟨⟨v, rfl, rfl⟩, hr, hk⟩
      have hO1 := hk.heap hO (by simpa using hOR)
      have hk1 : Kept [R, O] w w1 := hk.mono (by simp)
      clear hk HN hO
      go_wp2_with fail
      refine (HM w1).mono ?_
      rintro e w2 ⟨he, rfl⟩
      unfold MustSays at he
      subst he
      clear HM
      go_wp2
      go_loopw [14] (fun iv wr => ∃ (i : Nat) (acc : List Dd) (l' : By), iv = .int .i64 i ∧ i ≤ n ∧ acc.length = i ∧ RAt w0 wr R l' ∧ Kept [R, O] w wr ∧ VDs O w.heap.size acc wr ∧ repA deedP (n - i) acc l' = allP l ∧ l'.length ≤ 2000) (fun iv _ => n - (intOf iv).toNat)
      case atStart => exact ⟨0, [], r, rfl, by omega, rfl, hr, hk1, ⟨_, hO1, OwnG.nil _ _ _ _ _⟩, HP.out.symm, by omega⟩
      case round =>
        clear hr hk1 hO1
        obtain ⟨i, acc, l', rfl, hin, hacc, hr, hk, ⟨v, hOv, hds⟩, hrun, hll⟩ := hrel
        have hal : acc.length ≤ 12 := by omega
        have HACC := Lib.hid hacc
        clear hacc
        by_cases hlt : i < n
        · obtain ⟨s1, s2⟩ := repA_step hrun hlt
          have HD := fun w1 (hr1 : RAt w0 w1 R l') => rdeed_any w0 w1 R l' hr1 (by omega)
          unfold pt at HD
          have hRlt := hr.lt
          have hOlt := obj_lt hOv
          have CO : ∀ w', Kept [R] wr w' → w'.cell? ⟨O, 0, none⟩ = some v := fun w' hk' => by rw [cell_of_row w' O 0 _ _ _ (hk'.heap hOv (by simpa using hOR))]; rfl
          have hS0 : Kept [R] wr wr := .refl _ _
          have HR := Lib.hid hr
          have HDS := Lib.hid hds
          clear hds hr
          go_wp2_with fail
          refine wp_region_phase (S := fun w' => Kept [R] wr w') 4 (by kernel_rfl) (by kernel_rfl) ?_ (fun hHeld => ?_)
          · exact hS0.drew
          simp only [List.drop_succ_cons, List.drop_zero]
          refine name_head ?_
          intro wr0 hw0
          rw [hw0] at hHeld
          refine wpHead_take (i := 0) (v := ?_) (by rfl) (by kernel_rfl) (by kernel_rfl) (by exact fun _ _ _ h => h) (Or.inl ⟨by rfl, ?_⟩) (by assumption) ?_
          rotate_left
          · intro w hSw
            first | (go_simp; done) | (go_simp; with_reducible rfl)
          simp only [List.getElem_toArray, List.getElem_cons_zero, Act.put, List.setIfInBounds_toArray, List.set_cons_zero, List.set_cons_succ]
          refine wpHead_take (i := 1) (v := ?_) (by rfl) (by kernel_rfl) (by kernel_rfl) (by exact fun _ _ _ h => h) (Or.inl ⟨by rfl, ?_⟩) (by assumption) ?_
          rotate_left
          · intro w hSw
            first | (go_simp; done) | (go_simp; with_reducible rfl)
          simp only [List.getElem_toArray, List.getElem_cons_succ, List.getElem_cons_zero, Act.put, List.setIfInBounds_toArray, List.set_cons_zero, List.set_cons_succ]
          refine wpHead_ready (rs := [2]) (by kernel_rfl) (by simp) (by kernel_rfl) ?_
          refine AllHead.cons (by rfl) (fun K hK => ?_) ?_
          · refine step_callP (by rfl) (by kernel_rfl) (HD _ (HR.out.ext (hw0 ▸ (Ext.refl wr).drew))) ?_
            rintro e wr2 hq
            unfold Reads at hq
            rcases hpd : deedP l' with k | ⟨d, r'⟩
            · rw [hpd] at hq
              obtain ⟨he, hkd, hxd⟩ := hq
              unfold Pan fv at he
              refine Or.inr ⟨_, he, ?_⟩
              simp only [Exit.inBlock, Exit.then]
              have hQ : DoSays (allP l) (VDs O w0.heap.size) (fun w' => ∃ ds, VDs O w0.heap.size ds w') w0 w R O (.panicked [{ v := .iface 115 (.agg #[.int .i64 (k : Nat)]), recovered := false }]) wr2 := by
                unfold DoSays
                rw [s1 k hpd]
                exact ⟨rfl, (hk.trans (hHeld.mono (by simp))).trans (hkd.mono (by simp)), hxd, acc, VDs.low ⟨v, (hHeld.trans hkd).heap hOv (by simpa using hOR), HDS.out.stp (.kept (hHeld.trans hkd) (by intro k hk hlt; simp at hk; subst hk; obtain ⟨_, _, _, _, hrowR, _, _⟩ := HR.out; exact ⟨_, _, _, hrowR, by decide⟩))⟩ HX.size⟩
              exact ⟨rfl, hQ⟩
            rw [hpd] at hq
            obtain ⟨⟨dv, rfl, pv, rfl, hov⟩, hrd, hkd⟩ := hq
            obtain ⟨A, c, rfl⟩ := hov.form
            unfold ddC
            refine Or.inl ⟨_, rfl, ?_⟩
            refine hK.out _ _ ?_ (fun hHeld => ?_)
            · exact hHeld.trans hkd
            clear hK K
            try simp only [List.getElem_toArray, List.getElem_cons_succ, List.getElem_cons_zero, Act.put, List.setIfInBounds_toArray, List.set_cons_zero, List.set_cons_succ]
            refine wpHead_ready (rs := [3]) (by kernel_rfl) (by simp) (by kernel_rfl) ?_
            refine AllHead.cons (by rfl) (fun K hK => ?_) ?_
            · go_simp
              refine name_world ?_
              rintro wr3 hw3
              have hxn3 : Ext wr2 wr3 := hw3 ▸ (Ext.refl _).alloc _
              have hrow3 : wr3.heap[wr2.heap.size]? = some (.cells (ddC d (.slice A d.bytes.length c)) 48 (0, 0)) := hw3 ▸ heap_alloc_new wr2 _
              refine hK.out _ _ ?_ (fun hHeld => ?_)
              · exact hHeld.ext hxn3
              clear hK K
              try simp only [List.getElem_toArray, List.getElem_cons_succ, List.getElem_cons_zero, Act.put, List.setIfInBounds_toArray, List.set_cons_zero, List.set_cons_succ]
              refine wpHead_done (by kernel_rfl) ?_
              obtain ⟨_, _, _, _, hrowR, _, _⟩ := HR.out
              have hst : Stp [5, 48] wr wr3 := .kept hHeld (by intro k hk hlt; simp at hk; subst hk; exact ⟨_, _, _, hrowR, by decide⟩)
              obtain ⟨css, q1, q2, q3, q4⟩ := HDS.out.stp hst
              have hO3 := hHeld.heap hOv (by simpa using hOR)
              have hrd3 := hrd.ext hxn3
              obtain ⟨_, hx3, _, _, hrowR3, _, _⟩ := hrd3
              have hx03 := hk.size
              refine wpList_app deedT q3 (Sl.row hrow3) rfl rfl rfl rfl rfl (ddC_one d A d.bytes.length c) (by omega) (by omega) (by have := hHeld.size; omega) ?_
              intro v' w5 ho5 hg5 _
              obtain ⟨A5, c5, rfl⟩ := own_form ho5
              obtain ⟨N, hkN, hN⟩ := Kept.row q3 hg5
              have hON : O ∉ N := fun hm => by obtain ⟨_, cs, hc⟩ := hN O hm; exact obj_ne hc hO3 (by decide) rfl
              have hRN : R ∉ N := fun hm => by obtain ⟨_, cs, hc⟩ := hN R hm; exact obj_ne hc hrowR3 (by decide) rfl
              have hO5 := hkN.heap hO3 hON
              have hst5 : Stp [5] wr3 w5 := .kept hkN (by intro k hk _; obtain ⟨_, cs, hc⟩ := hN k hk; exact ⟨_, _, _, hc, by decide⟩)
              obtain ⟨C5, F5⟩ := row1_cell hO5
              have hset := heap_setCell_same w5 O 0 _ _ (.slice A5 (acc.length + 1) c5) hO5
              have hkS : Kept [O] w5 (w5.setCell ⟨O, 0, none⟩ (.slice A5 (acc.length + 1) c5)) := (Kept.refl _ _).setCell (.inl (by simp)) _
              have hstS : Stp [5, 48] w5 (w5.setCell ⟨O, 0, none⟩ (.slice A5 (acc.length + 1) c5)) := .kept hkS (by intro k hk _; simp at hk; subst hk; exact ⟨_, _, _, hO5, by decide⟩)
              have hst8 := hst5.trans (hstS.less (us := [5]) (by simp))
              have hds6 : OwnDs (w5.setCell ⟨O, 0, none⟩ (.slice A5 (acc.length + 1) c5)) w.heap.size (.slice A5 (acc.length + 1) c5) (acc ++ [d]) := OwnG.push q1 q2 (owns_stp ho5 hstS (by simp)) (fun k cs x a b => (q4 k cs x a b).stp hst8 (by simp)) rfl
                ⟨_, rfl, ((hov.ext hxn3).low (by have := hk.size; have := (hw0 ▸ Nat.le_refl _ : wr.heap.size ≤ wr0.heap.size); omega)).stp hst8 (by simp)⟩
              have hr6 : RAt w0 (w5.setCell ⟨O, 0, none⟩ (.slice A5 (acc.length + 1) c5)) R r' := ((hrd.ext hxn3).kept hkN hRN (fun k hk => Nat.le_trans HX.size (hN k hk).1)).kept hkS (by simp; exact hOR.symm) (by intro k hk; simp at hk; omega)
              have hk6 : Kept [R, O] w (w5.setCell ⟨O, 0, none⟩ (.slice A5 (acc.length + 1) c5)) := Kept.less (M := [R, O] ++ N) (((hk.mono (by simp)).trans (hHeld.mono (by simp))).trans ((hkN.mono (by intro k hk; simp [hk])).trans (hkS.mono (by simp)))) (by
                intro k hk hlt
                simp only [List.mem_append] at hk
                rcases hk with hk | hk
                · exact hk
                · have := (hN k hk).1; omega)
              have hrun6 := s2 d r' hpd
              have hle6 := le_deed hpd
              go_wp2
              go_roundw
              case rel => exact ⟨i + 1, acc ++ [d], r', by go_num, by omega, by simp [HACC.out], hr6, hk6, ⟨_, hset, hds6⟩, hrun6, by omega⟩
              case measure => simp [intOf]; omega
            exact AllHead.nil
          exact AllHead.nil
        · have hi : n - i = 0 := by omega
          rw [hi] at hrun
          have HF := Lib.hid hrun
          clear hrun
          go_wp2
          go_end0
          unfold DoSays
          rw [← HF.out]
          exact ⟨rfl, VDs.low ⟨v, hOv, hds⟩ HX.size, hr, hk⟩
    · have HP : Hid (allP l = .inl 4) := Lib.hid (by unfold allP; rw [andP_put hp]; unfold mustP andP; simp [hn])
      have HM := must_any false
      clear hp h
      by_cases h1 : (1 : Int) ≤ (n : Int)
      · have h2 : ¬ (n : Int) ≤ 12 := by omega
        clear hn
        go_enter Try.func45, Try.ntmps45
        go_wp2_with fail
        refine HN.mono ?_
        rintro e w1 ⟨⟨v, rfl, rfl⟩, hr, hk⟩
        go_wp2_with fail
        rw [decide_eq_false (show ¬ (n : Int) ≤ 12 by omega)]
        refine (HM w1).mono ?_
        rintro e w2 ⟨he, rfl⟩
        unfold MustSays Pan fv at he
        subst he
        have hx1 := hr.e
        go_wp2
        unfold DoSays
        rw [HP.out]
        exact ⟨rfl, rfl, hk.mono (by simp), hx1, [], _, hk.heap hO (by simpa using hOR), OwnG.nil _ _ _ _ _⟩
      · have h2 : ¬ (n : Int) < 0 := by omega
        clear hn
        go_enter Try.func45, Try.ntmps45
        go_wp2_with fail
        refine HN.mono ?_
        rintro e w1 ⟨⟨v, rfl, rfl⟩, hr, hk⟩
        go_wp2_with fail
        skip
        refine (HM w1).mono ?_
        rintro e w2 ⟨he, rfl⟩
        unfold MustSays Pan fv at he
        subst he
        have hx1 := hr.e
        go_wp2
        unfold DoSays
        rw [HP.out]
        exact ⟨rfl, rfl, hk.mono (by simp), hx1, [], _, hk.heap hO (by simpa using hOR), OwnG.nil _ _ _ _ _⟩
end Go.Proofs.Ythlppbbejdeeoaa
