/- Deeds and users as lists; their bytes; what is wrong with them; and that what is put is taken. No program. Conditions: the hypotheses of each theorem. -/
import Derived.Test.YthlppbbejdeeoaaDd0
import Derived.Test.YthlppbbejdeeoaaText7
namespace Go.Proofs.Ythlppbbejdeeoaa
open Go.RowKit
def userC (c : Nat) : Bool := decide (97 ≤ c ∧ c ≤ 122) || decide (48 ≤ c ∧ c ≤ 57) || decide (c = 46) || decide (c = 45) || decide (c = 95)
def rightU (l : By) : Bool := (letL l).all (fun d => userC d.1) && decide (l ≠ []) && decide (l.length ≤ 24)
def inboxL : By := [73, 78, 66, 79, 88]
def foldB (l : By) : By := if lowL l = lowL inboxL then inboxL else l
def rightB (l : By) : Bool := decide (l ≠ []) && decide (l.length ≤ 24) && decide ((quoteT l).2.2 = 0) && decide (foldB l = l)
structure Lt where
  uid : Int
  flags : UInt8
  bytes : By
structure Bx where
  name : By
  valid : Int
  next : Int
  letters : List Lt
structure Us where
  name : By
  valid : Int
  boxes : List Bx
structure Dd where
  dw : Int
  user : By
  box : By
  dest : By
  uid : Int
  how : Int
  flags : UInt8
  shard : Int
  epoch : Int
  bytes : By
/-! ## boxes -/
def lettersC (next : Int) : List Lt → Int → Nat
  | [], _ => 0
  | l :: ls, last => if l.uid ≤ last ∨ next ≤ l.uid then 4 else if 32 ≤ l.flags.toNat then 2 else if 600 < l.bytes.length then 6 else lettersC next ls l.uid
def numB (n : Int) : Bool := decide (1 ≤ n) && decide (n ≤ 4294967295)
def boxC (b : Bx) : Nat := if numB b.valid = false ∨ numB b.next = false then 2 else if 32 < b.letters.length then 8 else lettersC b.next b.letters 0
def sizeF (n : Nat) (ls : List Lt) : Nat := ls.foldl (fun n l => n + l.bytes.length) n
def sizeB (b : Bx) : Nat := sizeF 0 b.letters
/-! ## users -/
def leB (a b : By) : Bool := Op.bytesLess a b || a == b
/-- a name that does not stand behind the one ahead -/
def behindB (prev : Option By) (b : By) : Bool := match prev with
  | none => false
  | some p => leB b p
/-- one box of a user, behind another one, or none -/
def oneC (valid : Int) (prev : Option By) (b : Bx) : Nat :=
  if rightB b.name = false ∨ behindB prev b.name = true then 4 else if boxC b ≠ 0 then boxC b else if valid < b.valid then 2 else 0
structure Tot where
  letters : Nat
  size : Nat
  found : Bool
def Tot.add (t : Tot) (b : Bx) : Tot := ⟨t.letters + b.letters.length, t.size + sizeB b, t.found || decide (b.name = inboxL)⟩
def boxesC (valid : Int) : List Bx → Option By → Tot → Nat
  | [], _, t => if t.found = false then 4 else if 40 < t.letters ∨ 1200 < t.size then 8 else 0
  | b :: bs, prev, t => if oneC valid prev b ≠ 0 then oneC valid prev b else boxesC valid bs (some b.name) (t.add b)
def checkU (u : Us) : Nat :=
  if rightU u.name = false then 4 else if u.valid < 1 ∨ 4294967295 < u.valid then 2 else if u.boxes.length = 0 ∨ 6 < u.boxes.length then 8 else boxesC u.valid u.boxes none ⟨0, 0, false⟩
def putL (l : Lt) : By := beN 4 l.uid.toNat ++ (beN 1 l.flags.toNat ++ (longB l.bytes ++ []))
def putX (b : Bx) : By := shortB b.name ++ (beN 4 b.valid.toNat ++ (beN 4 b.next.toNat ++ (beN 1 b.letters.length ++ (b.letters.flatMap putL ++ []))))
def putUs (u : Us) : By := shortB u.name ++ (beN 4 u.valid.toNat ++ (beN 1 u.boxes.length ++ (u.boxes.flatMap putX ++ [])))
def letP : Prs Lt := andP (numP 4) fun u => andP (numP 1) fun f => andP longP fun b => pureP ⟨(u : Nat), UInt8.ofNat f, b⟩
def boxP : Prs Bx := andP shortP fun n => andP (numP 4) fun v => andP (numP 4) fun x => andP (numP 1) fun m => andP (repA letP m []) fun ls => pureP ⟨n, (v : Nat), (x : Nat), ls⟩
def userP : Prs Us := andP shortP fun n => andP (numP 4) fun v => andP (numP 1) fun m => andP (repA boxP m []) fun bs => pureP ⟨n, (v : Nat), bs⟩
def readP {α : Type} (p : Prs α) (l : By) : Nat ⊕ α := match p l with
  | .inl e => .inl e
  | .inr (a, r) => if r = [] then .inr a else .inl 4
def takeUs (l : By) : Nat ⊕ Us := match readP userP l with
  | .inl e => .inl e
  | .inr u => if checkU u ≠ 0 then .inl (checkU u) else .inr u
def putUsT (u : Us) : By × Nat := if checkU u ≠ 0 then ([], checkU u) else (putUs u, 0)
/-! ## deeds -/
def boxed (o : Int) : Bool := decide (o = 2 ∨ o = 3 ∨ o = 4 ∨ o = 5 ∨ o = 6 ∨ o = 7)
def form4 (d : Dd) : Bool := !rightU d.user || (boxed d.dw && !rightB d.box) || (!boxed d.dw && decide (d.box ≠ [])) || (decide (d.dw = 7) && !rightB d.dest) || (!decide (d.dw = 7) && decide (d.dest ≠ []))
def form2 (d : Dd) : Bool := !withinB (decide (d.dw = 5 ∨ d.dw = 6)) d.uid 1 4294967295 || !withinB (decide (d.dw = 5)) d.how 0 2 || !withinB (decide (d.dw = 4 ∨ d.dw = 5)) d.flags.toNat 0 31 || !withinB (decide (d.dw = 9)) d.shard 0 3 || !withinB (decide (d.dw = 8 ∨ d.dw = 9)) d.epoch 1 4294967295
def lastC (d : Dd) : Nat := match takeUs d.bytes with
  | .inl e => e
  | .inr u => if u.name ≠ d.user then 4 else 0
def checkD (d : Dd) : Nat :=
  if d.dw < 1 ∨ 9 < d.dw then 14 else if form4 d = true then 4 else if form2 d = true then 2
  else if d.dw = 4 ∧ 600 < d.bytes.length then 6 else if ¬ (d.dw = 4 ∨ d.dw = 8) ∧ 0 < d.bytes.length then 2 else if d.dw ≠ 8 then 0 else lastC d
def putD (d : Dd) : By := beN 1 d.dw.toNat ++ (shortB d.user ++ (shortB d.box ++ (shortB d.dest ++ (beN 4 d.uid.toNat ++ (beN 1 d.how.toNat ++ (beN 1 d.flags.toNat ++ (beN 1 d.shard.toNat ++ (beN 4 d.epoch.toNat ++ (longB d.bytes ++ [])))))))))
def deedP : Prs Dd := andP (numP 1) fun o => andP shortP fun u => andP shortP fun b => andP shortP fun t => andP (numP 4) fun i => andP (numP 1) fun h => andP (numP 1) fun f => andP (numP 1) fun s => andP (numP 4) fun e => andP longP fun p =>
  pureP ⟨(o : Nat), u, b, t, (i : Nat), (h : Nat), UInt8.ofNat f, (s : Nat), (e : Nat), p⟩
def firstC (ds : List Dd) : Nat := match ds.find? (fun d => decide (checkD d ≠ 0)) with
  | some d => checkD d
  | none => 0
def putAllB (ds : List Dd) : By := beN 1 ds.length ++ (ds.flatMap putD ++ [])
def putAllT (ds : List Dd) : By × Nat :=
  if ds.length = 0 then ([], 2) else if 12 < ds.length then ([], 6) else if firstC ds ≠ 0 then ([], firstC ds) else if 1800 < (putAllB ds).length then ([], 6) else (putAllB ds, 0)
def mustP (ok : Bool) : Prs Unit := fun l => if ok then .inr ((), l) else .inl 4
def allP : Prs (List Dd) := andP (numP 1) fun n => andP (mustP (decide (1 ≤ n) && decide (n ≤ 12))) fun _ => repA deedP n []
def takeAllT (l : By) : Nat ⊕ List Dd := if 1800 < l.length then .inl 6 else match readP allP l with
  | .inl e => .inl e
  | .inr ds => if firstC ds ≠ 0 then .inl (firstC ds) else .inr ds
/-! ## what is put is taken -/
theorem ofNat_of {f : UInt8} : UInt8.ofNat f.toNat = f := by simp
theorem nat_of {i : Int} (h : 0 ≤ i) : ((i.toNat : Nat) : Int) = i := by omega
def okN (i : Int) : Prop := 0 ≤ i ∧ i < 4294967296
def ok1 (i : Int) : Prop := 0 ≤ i ∧ i < 256
theorem okN.put {i : Int} (h : okN i) (r : By) : numP 4 (beN 4 i.toNat ++ r) = .inr (i.toNat, r) := (Rt.num 4).put _ _ (by unfold okN at h; omega)
theorem ok1.put {i : Int} (h : ok1 i) (r : By) : numP 1 (beN 1 i.toNat ++ r) = .inr (i.toNat, r) := (Rt.num 1).put _ _ (by unfold ok1 at h; omega)
theorem u8put (f : UInt8) (r : By) : numP 1 (beN 1 f.toNat ++ r) = .inr (f.toNat, r) := (Rt.num 1).put _ _ (by have := f.toNat_lt; omega)
theorem got4 {l r : By} {u : Nat} (h : numP 4 l = .inr (u, r)) : l = beN 4 u ++ r ∧ okN (u : Nat) := by
  obtain ⟨h1, h2⟩ := (Rt.num 4).got _ _ _ h
  exact ⟨h1, by unfold okN; omega⟩
theorem got1 {l r : By} {u : Nat} (h : numP 1 l = .inr (u, r)) : l = beN 1 u ++ r ∧ ok1 (u : Nat) ∧ u < 256 := by
  obtain ⟨h1, h2⟩ := (Rt.num 1).got _ _ _ h
  exact ⟨h1, by unfold ok1; omega, by omega⟩
theorem ofNat_to {u : Nat} (h : u < 256) : (UInt8.ofNat u).toNat = u := by simp; omega
def okL (l : Lt) : Prop := okN l.uid ∧ l.bytes.length < 65536
theorem Rt.letter : Rt letP putL okL := by
  constructor
  · rintro ⟨u, f, b⟩ r ⟨h1, h2⟩
    simp only [letP, putL, List.append_assoc, List.nil_append]
    rw [andP_put (h1.put _), andP_put (u8put f _), andP_put (Rt.long.put _ _ h2), ofNat_of, nat_of h1.1]
    rfl
  · intro l x r h
    obtain ⟨u, l1, h1, h⟩ := andP_inr h
    obtain ⟨f, l2, h2, h⟩ := andP_inr h
    obtain ⟨b, l3, h3, h⟩ := andP_inr h
    obtain ⟨rfl, rfl⟩ := pureP_inr h
    obtain ⟨rfl, k1⟩ := got4 h1
    obtain ⟨rfl, k2, k2'⟩ := got1 h2
    obtain ⟨rfl, k3⟩ := Rt.long.got _ _ _ h3
    exact ⟨by simp [putL, ofNat_to k2'], k1, k3⟩
def okX (b : Bx) : Prop := b.name.length < 256 ∧ okN b.valid ∧ okN b.next ∧ b.letters.length < 256 ∧ ∀ l ∈ b.letters, okL l
theorem Rt.box : Rt boxP putX okX := by
  constructor
  · rintro ⟨n, v, x, ls⟩ r ⟨h1, h2, h3, h4, h5⟩
    simp only [boxP, putX, List.append_assoc, List.nil_append]
    rw [andP_put (Rt.short.put _ _ h1), andP_put (h2.put _), andP_put (h3.put _), andP_put ((Rt.num 1).put _ _ (by simpa using h4)), andP_put ((Rt.letter.rep _).put _ _ ⟨h5, rfl⟩), nat_of h2.1, nat_of h3.1]
    rfl
  · intro l b r h
    obtain ⟨n, l1, h1, h⟩ := andP_inr h
    obtain ⟨v, l2, h2, h⟩ := andP_inr h
    obtain ⟨x, l3, h3, h⟩ := andP_inr h
    obtain ⟨m, l4, h4, h⟩ := andP_inr h
    obtain ⟨ls, l5, h5, h⟩ := andP_inr h
    obtain ⟨rfl, rfl⟩ := pureP_inr h
    obtain ⟨rfl, k1⟩ := Rt.short.got _ _ _ h1
    obtain ⟨rfl, k2⟩ := got4 h2
    obtain ⟨rfl, k3⟩ := got4 h3
    obtain ⟨rfl, k4, k4'⟩ := got1 h4
    obtain ⟨rfl, k5, rfl⟩ := (Rt.letter.rep _).got _ _ _ h5
    exact ⟨by simp [putX], k1, k2, k3, k4', k5⟩
def okU (u : Us) : Prop := u.name.length < 256 ∧ okN u.valid ∧ u.boxes.length < 256 ∧ ∀ b ∈ u.boxes, okX b
theorem Rt.user : Rt userP putUs okU := by
  constructor
  · rintro ⟨n, v, bs⟩ r ⟨h1, h2, h4, h5⟩
    simp only [userP, putUs, List.append_assoc, List.nil_append]
    rw [andP_put (Rt.short.put _ _ h1), andP_put (h2.put _), andP_put ((Rt.num 1).put _ _ (by simpa using h4)), andP_put ((Rt.box.rep _).put _ _ ⟨h5, rfl⟩), nat_of h2.1]
    rfl
  · intro l b r h
    obtain ⟨n, l1, h1, h⟩ := andP_inr h
    obtain ⟨v, l2, h2, h⟩ := andP_inr h
    obtain ⟨m, l4, h4, h⟩ := andP_inr h
    obtain ⟨bs, l5, h5, h⟩ := andP_inr h
    obtain ⟨rfl, rfl⟩ := pureP_inr h
    obtain ⟨rfl, k1⟩ := Rt.short.got _ _ _ h1
    obtain ⟨rfl, k2⟩ := got4 h2
    obtain ⟨rfl, k4, k4'⟩ := got1 h4
    obtain ⟨rfl, k5, rfl⟩ := (Rt.box.rep _).got _ _ _ h5
    exact ⟨by simp [putUs], k1, k2, k4', k5⟩
def okD (d : Dd) : Prop := ok1 d.dw ∧ d.user.length < 256 ∧ d.box.length < 256 ∧ d.dest.length < 256 ∧ okN d.uid ∧ ok1 d.how ∧ ok1 d.shard ∧ okN d.epoch ∧ d.bytes.length < 65536
theorem Rt.deed : Rt deedP putD okD := by
  constructor
  · rintro ⟨o, u, b, t, i, hw, f, s, e, p⟩ r ⟨h1, h2, h3, h4, h5, h6, h8, h9, h10⟩
    simp only [deedP, putD, List.append_assoc, List.nil_append]
    rw [andP_put (h1.put _), andP_put (Rt.short.put _ _ h2), andP_put (Rt.short.put _ _ h3), andP_put (Rt.short.put _ _ h4), andP_put (h5.put _), andP_put (h6.put _), andP_put (u8put f _), andP_put (h8.put _), andP_put (h9.put _), andP_put (Rt.long.put _ _ h10), nat_of h1.1, nat_of h5.1, nat_of h6.1, nat_of h8.1, nat_of h9.1, ofNat_of]
    rfl
  · intro l d r h
    obtain ⟨o, l1, h1, h⟩ := andP_inr h
    obtain ⟨u, l2, h2, h⟩ := andP_inr h
    obtain ⟨b, l3, h3, h⟩ := andP_inr h
    obtain ⟨t, l4, h4, h⟩ := andP_inr h
    obtain ⟨i, l5, h5, h⟩ := andP_inr h
    obtain ⟨hw, l6, h6, h⟩ := andP_inr h
    obtain ⟨f, l7, h7, h⟩ := andP_inr h
    obtain ⟨s, l8, h8, h⟩ := andP_inr h
    obtain ⟨e, l9, h9, h⟩ := andP_inr h
    obtain ⟨p, l10, h10, h⟩ := andP_inr h
    obtain ⟨rfl, rfl⟩ := pureP_inr h
    obtain ⟨rfl, k1, _⟩ := got1 h1
    obtain ⟨rfl, k2⟩ := Rt.short.got _ _ _ h2
    obtain ⟨rfl, k3⟩ := Rt.short.got _ _ _ h3
    obtain ⟨rfl, k4⟩ := Rt.short.got _ _ _ h4
    obtain ⟨rfl, k5⟩ := got4 h5
    obtain ⟨rfl, k6, _⟩ := got1 h6
    obtain ⟨rfl, k7, k7'⟩ := got1 h7
    obtain ⟨rfl, k8, _⟩ := got1 h8
    obtain ⟨rfl, k9⟩ := got4 h9
    obtain ⟨rfl, k10⟩ := Rt.long.got _ _ _ h10
    exact ⟨by simp [putD, ofNat_to k7'], k1, k2, k3, k4, k5, k6, k8, k9, k10⟩
end Go.Proofs.Ythlppbbejdeeoaa
