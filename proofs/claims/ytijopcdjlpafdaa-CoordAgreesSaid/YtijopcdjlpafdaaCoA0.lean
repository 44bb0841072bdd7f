/- The plain law of CoordAgrees: what is done was voted for by all, and nothing that is dropped is done. No program. Conditions: the hypotheses of each theorem. -/
import Derived.Test.YtijopcdjlpafdaaCoT0
namespace Go.Proofs.Ytijopcdjlpafdaa
/-- a transaction that was begun: its name, its shards, who said yes, its fate -/
structure En where
  tx : TxI
  sh : List Int
  ys : List Bool
  ft : Int
def En.say (e : En) (s : Int) : Bool := e.ys.getD s.toNat false
/-- what stays true of one -/
structure EnOk (x : Cs) (e : En) : Prop where
  y4 : e.ys.length = 4
  right : rightF e.sh = true
  given : Given x e.tx
  rows : ∀ t ∈ x.under, t.id = e.tx → t.shards = e.sh ∧ (∀ s ∈ t.yes, e.say s = true) ∧ (t.done = true → ∀ s ∈ e.sh, e.say s = true)
  gone : e.ft = 2 → ∀ t ∈ x.under, t.id ≠ e.tx
structure AInv (x : Cs) (es : List En) : Prop where
  ok : x.Ok
  ent : ∀ e ∈ es, EnOk x e
  one : es.Pairwise fun a b => a.tx ≠ b.tx
theorem AInv.start (n : Int) : AInv (N0 n) [] := ⟨ok_new n, by simp, by simp⟩
/-- rows that fall away -/
theorem EnOk.sub {x x' : Cs} {e : En} (h : EnOk x e) (hs : ∀ t ∈ x'.under, t ∈ x.under) (hg : x.boot < x'.boot ∨ (x.boot = x'.boot ∧ x.next ≤ x'.next)) : EnOk x' e :=
  ⟨h.y4, h.right, given_mono h.given hg, fun t ht => h.rows t (hs t ht), fun hf t ht => h.gone hf t (hs t ht)⟩
theorem AInv.sub {x x' : Cs} {es : List En} (h : AInv x es) (hok : x'.Ok) (hs : ∀ t ∈ x'.under, t ∈ x.under) (hg : x.boot < x'.boot ∨ (x.boot = x'.boot ∧ x.next ≤ x'.next)) : AInv x' es :=
  ⟨hok, fun e he => (h.ent e he).sub hs hg, h.one⟩
theorem AInv.same {x x' : Cs} {es : List En} (h : AInv x es) (hok : x'.Ok) (hs : ∀ t ∈ x'.under, t ∈ x.under) (hb : x'.boot = x.boot) (hn : x'.next = x.next) : AInv x' es :=
  h.sub hok hs (.inr ⟨hb.symm, by omega⟩)
/-! ## Begin -/
theorem begin_ok {x : Cs} {sh : List Int} (h : beginE x sh = 0) : rightF sh = true := by
  unfold beginE at h
  split at h
  · cases h
  · split at h
    · cases h
    · rename_i hr
      simpa using hr
theorem begin_bad {x : Cs} {sh : List Int} (h : beginE x sh ≠ 0) : beginS x sh = x := by unfold beginS; rw [if_neg h]
theorem AInv.begin {x : Cs} {es : List En} (h : AInv x es) (sh : List Int) (he : beginE x sh = 0) : AInv (beginS x sh) (es ++ [⟨beginT x sh, sh, [false, false, false, false], 0⟩]) := by
  have hr := begin_ok he
  have hT : beginT x sh = ⟨x.node, x.boot, x.next⟩ := by unfold beginT; rw [if_pos he]
  have hS : beginS x sh = { x with next := x.next + 1, under := x.under ++ [⟨⟨x.node, x.boot, x.next⟩, sh, false, [], []⟩] } := by unfold beginS; rw [if_pos he]
  have hne : ∀ e ∈ es, e.tx ≠ ⟨x.node, x.boot, x.next⟩ := fun e hm heq => by
    have := (h.ent e hm).given
    unfold Given at this
    rw [heq] at this
    simp only at this
    omega
  have hne2 : ∀ t ∈ x.under, t.id ≠ ⟨x.node, x.boot, x.next⟩ := fun t ht heq => by
    have := (h.ok.rows t ht).next (by rw [heq])
    rw [heq] at this
    simp only at this
    omega
  refine ⟨ok_begin h.ok sh, fun e hm => ?_, ?_⟩
  · rw [hS]
    rcases List.mem_append.1 hm with hm | hm
    · have hE := h.ent e hm
      refine ⟨hE.y4, hE.right, given_mono hE.given (.inr ⟨rfl, by simp only; omega⟩), fun t ht hid => ?_, fun hf t ht => ?_⟩
      · rcases List.mem_append.1 ht with ht | ht
        · exact hE.rows t ht hid
        · simp only [List.mem_singleton] at ht
          subst ht
          exact absurd hid.symm (hne e hm)
      · rcases List.mem_append.1 ht with ht | ht
        · exact hE.gone hf t ht
        · simp only [List.mem_singleton] at ht
          subst ht
          exact fun hid => absurd hid.symm (hne e hm)
    · simp only [List.mem_singleton] at hm
      subst hm
      rw [hT]
      refine ⟨rfl, hr, .inr ⟨rfl, by simp only; omega⟩, fun t ht hid => ?_, fun hf => by simp at hf⟩
      rcases List.mem_append.1 ht with ht | ht
      · exact absurd hid (hne2 t ht)
      · simp only [List.mem_singleton] at ht
        subst ht
        exact ⟨rfl, by simp, by simp⟩
  · rw [List.pairwise_append]
    refine ⟨h.one, by simp, fun a ha b hb => ?_⟩
    simp only [List.mem_singleton] at hb
    subst hb
    rw [hT]
    exact hne a ha
/-! ## a row is written anew -/
theorem row_get {s : Cs} {i : Nat} (hi : i < s.under.length) : s.row i = s.under[i] := by
  unfold Cs.row
  rw [List.getD_eq_getElem?_getD, List.getElem?_eq_getElem hi]
  rfl
theorem EnOk.put {x : Cs} {e : En} (h : EnOk x e) {i : Nat} (hi : i < x.under.length) {t' : Tr} (hid : t'.id = (x.row i).id) (h1 : t'.id = e.tx → t'.shards = e.sh ∧ (∀ s ∈ t'.yes, e.say s = true) ∧ (t'.done = true → ∀ s ∈ e.sh, e.say s = true)) : EnOk { x with under := x.under.set i t' } e := by
  refine ⟨h.y4, h.right, h.given, fun t ht => ?_, fun hf t ht => ?_⟩
  · rcases List.mem_or_eq_of_mem_set ht with ht | rfl
    · exact h.rows t ht
    · exact h1
  · rcases List.mem_or_eq_of_mem_set ht with ht | rfl
    · exact h.gone hf t ht
    · rw [hid]
      exact h.gone hf _ (row_mem hi)
theorem say_set {e : En} (h4 : e.ys.length = 4) {s : Int} (hs : 0 ≤ s ∧ s ≤ 3) : ({ e with ys := e.ys.set s.toNat true } : En).say s = true := by
  unfold En.say
  simp only
  rw [List.getD_eq_getElem?_getD, List.getElem?_set_self (by omega)]
  rfl
theorem say_more {e : En} {s r : Int} (h : e.say r = true) : ({ e with ys := e.ys.set s.toNat true } : En).say r = true := by
  unfold En.say at *
  simp only
  rw [List.getD_eq_getElem?_getD, List.getElem?_set] at *
  split
  · split
    · rfl
    · rename_i h1 h2
      rw [h1] at h2
      rw [List.getElem?_eq_none (by omega)] at h
      exact h
  · exact h
theorem EnOk.more {x : Cs} {e : En} (h : EnOk x e) (s : Int) : EnOk x { e with ys := e.ys.set s.toNat true } :=
  ⟨by simp only [List.length_set]; exact h.y4, h.right, h.given, fun t ht hid => by
    obtain ⟨a, b, c⟩ := h.rows t ht hid
    exact ⟨a, fun r hr => say_more (b r hr), fun hd r hr => say_more (c hd r hr)⟩, h.gone⟩
theorem ent_one {es : List En} (h : es.Pairwise fun a b => a.tx ≠ b.tx) {k j : Nat} (hk : k < es.length) (hj : j < es.length) (e : es[j].tx = es[k].tx) : j = k := by
  have := List.pairwise_iff_getElem.1 h
  rcases Nat.lt_trichotomy j k with h1 | h1 | h1
  · exact absurd e (this j k hj hk h1)
  · exact h1
  · exact absurd e.symm (this k j hk hj h1)
theorem pair_set {es : List En} (h : es.Pairwise fun a b => a.tx ≠ b.tx) {k : Nat} (hk : k < es.length) {e' : En} (he : e'.tx = es[k].tx) : (es.set k e').Pairwise fun a b => a.tx ≠ b.tx := by
  have e : ∀ l : List En, l.Pairwise (fun a b => a.tx ≠ b.tx) ↔ (l.map (·.tx)).Pairwise (· ≠ ·) := fun l => by rw [List.pairwise_map]
  rw [e, List.map_set]
  have : (es.map (·.tx)).set k e'.tx = es.map (·.tx) := by
    rw [he]
    apply List.ext_getElem?
    intro j
    rw [List.getElem?_set]
    by_cases hj : k = j
    · subst hj
      rw [if_pos rfl]
      simp [hk]
    · rw [if_neg hj]
  rw [this, ← e]
  exact h
theorem AInv.set {x : Cs} {es : List En} (h : AInv x es) {k : Nat} (hk : k < es.length) {e' : En} (he : e'.tx = es[k].tx) (hE : EnOk x e') : AInv x (es.set k e') :=
  ⟨h.ok, fun e hm => by
    rcases List.mem_or_eq_of_mem_set hm with hm | rfl
    · exact h.ent e hm
    · exact hE, pair_set h.one hk he⟩
/-! ## Vote -/
def votedE (e : En) (o : Out) (s : Int) (yes : Bool) : En := if o.e = 0 ∧ yes = true then { e with ys := e.ys.set s.toNat true } else e
theorem vote_shard {x : Cs} (hx : x.Ok) {id : TxI} {s : Int} {yes : Bool} (h : (voteO x id s yes).e = 0) : 0 ≤ s ∧ s ≤ 3 := by
  unfold voteO at h
  cases hat : x.at_ id false with
  | none => rw [hat] at h; cases h
  | some i =>
    rw [hat] at h
    simp only at h
    split at h
    · cases h
    · rename_i hs
      have := rightF_mem (hx.rows _ (row_mem (at_some hat).1)).right
      exact this s (hasI_iff.1 (by simpa using hs))
theorem AInv.vote {x : Cs} {es : List En} (h : AInv x es) {k : Nat} (hk : k < es.length) (s : Int) (yes : Bool) :
    AInv (voteO x es[k].tx s yes).s (es.set k (votedE es[k] (voteO x es[k].tx s yes) s yes)) := by
  have hok := ok_vote h.ok es[k].tx s yes
  have hsr := @vote_shard x h.ok es[k].tx s yes
  have hv1 : ∀ o, votedE es[k] o s false = es[k] := fun o => by unfold votedE; rw [if_neg (by simp)]
  have hv3 : ∀ o, o.e = 0 → votedE es[k] o s true = { es[k] with ys := es[k].ys.set s.toNat true } := fun o ho => by unfold votedE; rw [if_pos ⟨ho, rfl⟩]
  have hv2 : ∀ o y, o.e ≠ 0 → votedE es[k] o s y = es[k] := fun o y ho => by unfold votedE; rw [if_neg (fun hc => ho hc.1)]
  unfold voteO at *
  cases hat : x.at_ es[k].tx false with
  | none =>
    rw [hv2 _ _ (by simp), List.set_getElem_self]
    exact h
  | some i =>
    rw [hat] at hok hsr
    obtain ⟨h1, h2, h3, _⟩ := at_some hat
    simp only at hok hsr ⊢
    split
    · rw [hv2 _ _ (by simp), List.set_getElem_self]
      exact h
    · rename_i hs
      rw [if_neg hs] at hok hsr
      cases yes with
      | false =>
        rw [if_pos rfl, hv1, List.set_getElem_self]
        split
        · exact h
        · exact h.same (ok_erase h.ok i) (fun t ht => List.mem_of_mem_eraseIdx ht) rfl rfl
      | true =>
        rw [if_neg (by simp)] at hok hsr ⊢
        have hs3 := hsr rfl
        rw [hv3 _ rfl]
        have hE := h.ent es[k] (List.getElem_mem hk)
        obtain ⟨r1, r2, r3⟩ := hE.rows _ (row_mem h1) h2
        refine ⟨hok, fun e hm => ?_, pair_set h.one hk rfl⟩
        obtain ⟨j, hj, rfl⟩ := List.mem_iff_getElem.1 hm
        rw [List.length_set] at hj
        by_cases hjk : k = j
        · subst hjk
          rw [List.getElem_set_self]
          refine (hE.more s).put h1 rfl fun hid => ⟨r1, fun r hr => ?_, fun hd => ?_⟩
          · simp only at hr
            rcases List.mem_append.1 hr with hr | hr
            · exact say_more (r2 r hr)
            · simp only [List.mem_singleton] at hr
              subst hr
              exact say_set hE.y4 hs3
          · simp only at hd
            rw [h3] at hd
            cases hd
        · rw [List.getElem_set_ne hjk]
          refine (h.ent es[j] (List.getElem_mem hj)).put h1 rfl fun hid => ?_
          simp only at hid
          rw [h2] at hid
          exact absurd (ent_one h.one hk hj hid.symm).symm hjk
theorem AInv.vote0 {x : Cs} (h : AInv x []) (id : TxI) (s : Int) (yes : Bool) : AInv (voteO x id s yes).s [] := ⟨ok_vote h.ok id s yes, by simp, by simp⟩
/-! ## Drop, Ack, Ask -/
theorem AInv.drop {x : Cs} {es : List En} (h : AInv x es) (id : TxI) : AInv (dropO x id).2 es := by
  have hok := ok_drop h.ok id
  unfold dropO at *
  cases hat : x.at_ id false with
  | none => exact h
  | some i =>
    rw [hat] at hok
    simp only at hok ⊢
    split
    · exact h
    · exact h.same (ok_erase h.ok i) (fun t ht => List.mem_of_mem_eraseIdx ht) rfl rfl
theorem AInv.ack {x : Cs} {es : List En} (h : AInv x es) (id : TxI) (s : Int) : AInv (ackO x id s).s es := by
  have hok := ok_ack h.ok id s
  unfold ackO at *
  cases hat : x.at_ id true with
  | none => exact h
  | some i =>
    rw [hat] at hok
    obtain ⟨h1, h2, h3, _⟩ := at_some hat
    simp only at hok ⊢
    split
    · exact h
    · rename_i hs
      rw [if_neg hs] at hok
      refine ⟨hok, fun e he => (h.ent e he).put h1 rfl fun hid => ?_, h.one⟩
      exact (h.ent e he).rows (x.row i) (row_mem h1) hid
theorem ask_done {x : Cs} {es : List En} (h : AInv x es) {k : Nat} (hk : k < es.length) (ha : askF x es[k].tx = 1) : (∀ s ∈ es[k].sh, es[k].say s = true) ∧ es[k].ft ≠ 2 := by
  unfold askF at ha
  split at ha
  · cases ha
  · split at ha
    · cases ha
    · rename_i i hf
      obtain ⟨h1, h2⟩ := findT_some hf
      have hE := h.ent es[k] (List.getElem_mem hk)
      split at ha
      · rename_i hd
        exact ⟨(hE.rows _ (row_mem h1) h2).2.2 hd, fun h2' => hE.gone h2' _ (row_mem h1) h2⟩
      · cases ha
theorem AInv.fate {x : Cs} {es : List En} (h : AInv x es) {k : Nat} (hk : k < es.length) : AInv x (es.set k { es[k] with ft := askF x es[k].tx }) := by
  have hE := h.ent es[k] (List.getElem_mem hk)
  refine h.set hk rfl ⟨hE.y4, hE.right, hE.given, hE.rows, fun hf => ?_⟩
  simp only at hf ⊢
  unfold askF at hf
  split at hf
  · cases hf
  · split at hf
    · rename_i hn
      exact findT_none.1 hn
    · split at hf <;> cases hf
/-! ## Redo -/
theorem redo_sub {s : Cs} {r : By} (h : r.getD 0 0 ≠ 2) : ∀ t ∈ (redoO s r).2.under, t ∈ s.under := by
  unfold redoO
  split
  · exact fun t ht => ht
  · split
    · unfold livesO
      split
      · exact fun t ht => ht
      · exact fun t ht => (List.mem_filter.1 ht).1
    · split
      · exact fun t ht => ht
      · split
        · cases s.at_ ⟨s.node, (valAt r 1 : Nat), (valAt r 5 : Nat)⟩ true with
          | none => exact fun t ht => ht
          | some i => exact fun t ht => List.mem_of_mem_eraseIdx ht
        · rw [if_neg (fun h2 => h h2.1)]
          exact fun t ht => ht
theorem AInv.redo {x : Cs} {es : List En} (h : AInv x es) {r : By} (hr : r.getD 0 0 ≠ 2) : AInv (redoO x r).2 es :=
  h.sub (ok_redo h.ok r) (redo_sub hr) (redo_grows x r)
theorem redo_put {x : Cs} (hx : x.Ok) {t : Tr} (ht : t ∈ x.under) : redoO x (putD t) = isDoneO x t.id t.shards := by
  have hT := hx.rows t ht
  have hl := rightF_len hT.right
  have hm := rightF_mem hT.right
  have b1 := hT.boot1; have b2 := hT.boot2; have b3 := hx.boot2; have n1 := hT.n1; have n2 := hT.n2
  have hlen : (putD t).length = 10 + t.shards.length := by unfold putD be4; simp; omega
  have hcat : putD t = 2 :: (be4 t.id.boot ++ (be4 t.id.n ++ (beN 1 t.shards.length ++ t.shards.map fun x => UInt8.ofNat x.toNat))) := by unfold putD; simp
  have v1 : valAt (putD t) 1 = t.id.boot.toNat := by
    unfold valAt
    rw [hcat, List.drop_succ_cons, List.drop_zero, List.take_append_of_le_length (by simp [be4]), List.take_of_length_le (by simp [be4])]
    unfold be4
    rw [valB_be]
    omega
  have v5 : valAt (putD t) 5 = t.id.n.toNat := by
    unfold valAt
    rw [hcat, List.drop_succ_cons, List.drop_append_of_le_length (by simp [be4]), List.drop_of_length_le (by simp [be4]), List.nil_append, List.take_append_of_le_length (by simp [be4]), List.take_of_length_le (by simp [be4])]
    unfold be4
    rw [valB_be]
    omega
  have h9 : (putD t).getD 9 0 = UInt8.ofNat t.shards.length := by
    rw [hcat]
    have e : (be4 t.id.boot).length = 4 := by simp [be4]
    have e2 : (be4 t.id.n).length = 4 := by simp [be4]
    rw [List.getD_cons_succ, List.getD_eq_getElem?_getD, List.getElem?_append_right (by omega), List.getElem?_append_right (by omega), e, e2]
    simp [beN]
  have h0 : (putD t).getD 0 0 = 2 := by rw [hcat]; rfl
  have hd : ((putD t).drop 10).map (fun c => ((c.toNat : Nat) : Int)) = t.shards := by
    rw [hcat, List.drop_succ_cons, List.drop_append, List.drop_append, List.drop_append]
    have e : (be4 t.id.boot).length = 4 := by simp [be4]
    have e2 : (be4 t.id.n).length = 4 := by simp [be4]
    have e3 : (beN 1 t.shards.length).length = 1 := by simp
    rw [e, e2, e3, List.drop_of_length_le (by omega), List.drop_of_length_le (by omega), List.drop_of_length_le (by omega)]
    simp only [List.nil_append, List.drop_zero, Nat.sub_self, Nat.reduceSub]
    rw [List.map_map]
    apply List.ext_getElem (by simp)
    intro j h1 h2
    simp only [List.getElem_map, Function.comp]
    have := hm _ (List.getElem_mem h2)
    rw [UInt8.toNat_ofNat']
    omega
  have hg1 : goodF t.id.boot.toNat = true := by unfold goodF; simp; omega
  have hg5 : goodF t.id.n.toNat = true := by unfold goodF; simp; omega
  have hid : (⟨x.node, ((t.id.boot.toNat : Nat) : Int), ((t.id.n.toNat : Nat) : Int)⟩ : TxI) = t.id := by
    have e := hT.node
    have e1 : ((t.id.boot.toNat : Nat) : Int) = t.id.boot := by omega
    have e2 : ((t.id.n.toNat : Nat) : Int) = t.id.n := by omega
    rw [e1, e2, ← e]
  unfold redoO
  rw [v1, v5, h0, hlen, h9, hg1, hg5, hd, hid]
  rw [if_neg (by simp; omega), if_neg (by simp), if_neg (by simp; omega), if_neg (by simp), if_pos (by refine ⟨rfl, by omega, ?_⟩; rw [UInt8.toNat_ofNat']; omega)]
  simp only
  rw [if_pos hT.right]
theorem AInv.redoPut {x : Cs} {es : List En} (h : AInv x es) {t : Tr} (ht : t ∈ x.under) (ha : allIn t.shards t.yes = true) : AInv (redoO x (putD t)).2 es := by
  have hok := ok_redo h.ok (putD t)
  have hgr := redo_grows x (putD t)
  rw [redo_put h.ok ht] at hok hgr ⊢
  by_cases he : (isDoneO x t.id t.shards).1 = 0; rotate_left
  · rw [isDone_err he]; exact h
  · refine ⟨hok, fun e hm => ?_, h.one⟩
    have hE := h.ent e hm
    have hmem : ∀ u ∈ (isDoneO x t.id t.shards).2.under, u ∈ x.under ∨ u = ⟨t.id, t.shards, true, [], []⟩ := by
      intro u hu
      unfold isDoneO at hu
      split at hu
      · exact .inl hu
      · split at hu
        · exact .inl hu
        · split at hu
          · exact .inl hu
          · rcases List.mem_append.1 hu with hu | hu
            · exact .inl (List.mem_filter.1 hu).1
            · exact .inr (by simpa using hu)
    refine ⟨hE.y4, hE.right, given_mono hE.given hgr, fun u hu hid => ?_, fun hf u hu => ?_⟩
    · rcases hmem u hu with hu | rfl
      · exact hE.rows u hu hid
      · simp only at hid ⊢
        obtain ⟨r1, r2, _⟩ := hE.rows t ht hid
        refine ⟨r1, by simp, fun _ s hs => r2 s ?_⟩
        rw [← r1] at hs
        exact allIn_iff.1 ha s hs
    · rcases hmem u hu with hu | rfl
      · exact hE.gone hf u hu
      · exact hE.gone hf t ht
/-- a record that may be redone -/
def RecOk (x : Cs) (r : By) : Prop := r.getD 0 0 ≠ 2 ∨ ∃ t ∈ x.under, allIn t.shards t.yes = true ∧ r = putD t
theorem AInv.again {x : Cs} {es : List En} (h : AInv x es) {r : By} (hr : RecOk x r) : AInv (redoO x r).2 es := by
  rcases hr with hr | ⟨t, ht, ha, rfl⟩
  · exact h.redo hr
  · exact h.redoPut ht ha
theorem rec_boot (x : Cs) : RecOk x (bootO x).1 := by
  left
  unfold bootO
  split <;> simp
theorem rec_vote {x : Cs} (id : TxI) (s : Int) (yes : Bool) : RecOk (voteO x id s yes).s (voteO x id s yes).r := by
  unfold voteO
  cases hat : x.at_ id false with
  | none => exact .inl (by simp)
  | some i =>
    obtain ⟨h1, _⟩ := at_some hat
    simp only
    split
    · exact .inl (by simp)
    · split
      · split <;> exact .inl (by simp)
      · simp only
        split
        · rename_i ha
          exact .inr ⟨_, List.mem_iff_getElem.2 ⟨i, by simpa using h1, by simp⟩, ha, rfl⟩
        · exact .inl (by simp)
theorem rec_ack {x : Cs} (id : TxI) (s : Int) : RecOk (ackO x id s).s (ackO x id s).r := by
  left
  unfold ackO
  cases x.at_ id true with
  | none => simp
  | some i =>
    simp only
    split
    · simp
    · simp only
      split <;> simp
theorem rec_nil (x : Cs) : RecOk x [] := .inl (by simp)
end Go.Proofs.Ytijopcdjlpafdaa
