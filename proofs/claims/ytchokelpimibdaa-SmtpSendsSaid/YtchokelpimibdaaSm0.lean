/- A session that sends letters, in plain words: what each of its calls answers, and how it stands behind it. No program. Conditions: the hypotheses of each theorem. -/
import Derived.Test.YtchokelpimibdaaAd7
import Derived.Test.YtchokelpimibdaaLn0
import Derived.Test.YtchokelpimibdaaText2
import Derived.Test.YtchokelpimibdaaText5
namespace Go.Proofs.Ytchokelpimibdaa
open Go.RowKit
abbrev By := List UInt8
def userC (c : Nat) : Bool := decide (97 ≤ c ∧ c ≤ 122) || decide (48 ≤ c ∧ c ≤ 57) || decide (c = 46) || decide (c = 45) || decide (c = 95)
def rightU (l : By) : Bool := (letL l).all (fun d => userC d.1) && decide (l ≠ []) && decide (l.length ≤ 24)
def hereB : By := [104, 101, 114, 101]
def readyB : By := [50, 50, 48, 32, 114, 101, 97, 100, 121]
def longB : By := [53, 48, 48, 32, 108, 105, 110, 101, 32, 116, 111, 111, 32, 108, 111, 110, 103]
def aloneB : By := [53, 48, 49, 32, 97, 108, 111, 110, 101]
def whoB : By := [53, 48, 49, 32, 119, 104, 111]
def helloB : By := [50, 53, 48, 32, 104, 101, 108, 108, 111]
def notB : By := [53, 48, 51, 32, 110, 111, 116, 32, 110, 111, 119]
def nobodyB : By := [53, 53, 52, 32, 116, 111, 32, 110, 111, 98, 111, 100, 121]
def goB : By := [51, 53, 52, 32, 103, 111, 32, 111, 110]
def okB : By := [50, 53, 48, 32, 111, 107]
def tryB : By := [50, 53, 50, 32, 116, 114, 121]
def byeB : By := [50, 50, 49, 32, 98, 121, 101]
def whatB : By := [53, 48, 48, 32, 119, 104, 97, 116]
def pathB : By := [53, 48, 49, 32, 112, 97, 116, 104]
def tooB : By := [53, 53, 50, 32, 116, 111, 111, 32, 108, 111, 110, 103]
def elseB : By := [53, 53, 48, 32, 110, 111, 116, 32, 104, 101, 114, 101]
def manyB : By := [52, 53, 50, 32, 116, 111, 111, 32, 109, 97, 110, 121]
def sentB : By := [50, 53, 48, 32, 115, 101, 110, 116]
def wData : By := [100, 97, 116, 97]
def wRset : By := [114, 115, 101, 116]
def wQuit : By := [113, 117, 105, 116]
def wHelo : By := [104, 101, 108, 111]
def wEhlo : By := [101, 104, 108, 111]
def wMail : By := [109, 97, 105, 108]
def wRcpt : By := [114, 99, 112, 116]
def wNoop : By := [110, 111, 111, 112]
def wVrfy : By := [118, 114, 102, 121]
def wFrom : By := [102, 114, 111, 109, 58]
def wTo : By := [116, 111, 58]
def wSize : By := [32, 115, 105, 122, 101, 61]
abbrev Ad := By × By
/-- a session: the bytes that wait; how it stands (0 begun, 1 fresh, 2 greeted, 3 a sender, 4 a body, 5 waits, 6 over); greeted; the sender; the recipients -/
structure Se where
  buf : By
  st : Nat
  hello : Bool
  fl : By
  fd : By
  to_ : List Ad
/-- what a session does -/
structure Ou where
  lines : List By
  send : Bool
  fl : By
  fd : By
  to_ : List Ad
  bytes : By
  close : Bool
def Ou.no : Ou := ⟨[], false, [], [], [], [], false⟩
def sayO (b : By) : Ou := ⟨[b], false, [], [], [], [], false⟩
def newS : Se := ⟨[], 0, false, [], [], []⟩
def restS (s : Se) : Se := ⟨s.buf, if s.hello = true then 2 else 1, s.hello, [], [], []⟩
def behindT (s word : By) : By × Bool := if s.length < word.length ∨ lowL (s.take word.length) ≠ lowL word then ([], false) else (s.drop word.length, true)
/-- a size that is named: 0 it may be, 1 it is none, 2 it is too much -/
def sizeT (more : By) : Nat :=
  if more = [] then 0
  else if (behindT more wSize).2 = false ∨ (numberL (behindT more wSize).1).2.2 ≠ 0 then 1
  else if 600 < (numberL (behindT more wSize).1).1 then 2 else 0
def mailT (s : Se) (rest : By) : By × Se :=
  if s.st ≠ 2 then (notB, s)
  else if (behindT rest wFrom).2 = false ∨ (pathT (behindT rest wFrom).1).2.2.2 ≠ 0 then (pathB, s)
  else if sizeT (pathT (behindT rest wFrom).1).2.2.1 = 1 then (pathB, s)
  else if sizeT (pathT (behindT rest wFrom).1).2.2.1 = 2 then (tooB, s)
  else (okB, ⟨s.buf, 3, s.hello, (pathT (behindT rest wFrom).1).1, (pathT (behindT rest wFrom).1).2.1, s.to_⟩)
def knownT (to_ : List Ad) (user : By) : Bool := to_.any fun a => decide (lowL a.1 = user)
def rcptT (s : Se) (rest : By) : By × Se :=
  if s.st ≠ 3 then (notB, s)
  else if (behindT rest wTo).2 = false ∨ (pathT (behindT rest wTo).1).2.2.2 ≠ 0 ∨ (pathT (behindT rest wTo).1).2.2.1 ≠ [] ∨ ((pathT (behindT rest wTo).1).1 = [] ∧ (pathT (behindT rest wTo).1).2.1 = []) then (pathB, s)
  else if lowL (pathT (behindT rest wTo).1).2.1 ≠ lowL hereB ∨ rightU (lowL (pathT (behindT rest wTo).1).1) = false then (elseB, s)
  else if knownT s.to_ (lowL (pathT (behindT rest wTo).1).1) = true then (okB, s)
  else if s.to_.length = 4 then (manyB, s)
  else (okB, ⟨s.buf, s.st, s.hello, s.fl, s.fd, s.to_ ++ [((pathT (behindT rest wTo).1).1, (pathT (behindT rest wTo).1).2.1)]⟩)
def lineT (s : Se) (l : By) : Ou × Se :=
  if (lowL (wordL l).1 = wData ∨ lowL (wordL l).1 = wRset ∨ lowL (wordL l).1 = wQuit) ∧ (wordL l).2 ≠ [] then (sayO aloneB, s)
  else if lowL (wordL l).1 = wHelo ∨ lowL (wordL l).1 = wEhlo then
    (if atomL (wordL l).2 = false then (sayO whoB, s) else (sayO helloB, restS ⟨s.buf, s.st, true, s.fl, s.fd, s.to_⟩))
  else if lowL (wordL l).1 = wMail then (sayO (mailT s (wordL l).2).1, (mailT s (wordL l).2).2)
  else if lowL (wordL l).1 = wRcpt then (sayO (rcptT s (wordL l).2).1, (rcptT s (wordL l).2).2)
  else if lowL (wordL l).1 = wData then
    (if s.st ≠ 3 then (sayO notB, s) else if s.to_ = [] then (sayO nobodyB, s) else (sayO goB, ⟨s.buf, 4, s.hello, s.fl, s.fd, s.to_⟩))
  else if lowL (wordL l).1 = wRset then (sayO okB, restS s)
  else if lowL (wordL l).1 = wNoop then (sayO okB, s)
  else if lowL (wordL l).1 = wVrfy then (sayO tryB, s)
  else if lowL (wordL l).1 = wQuit then (⟨[byeB], false, [], [], [], [], true⟩, ⟨s.buf, 6, s.hello, s.fl, s.fd, s.to_⟩)
  else (sayO whatB, s)
def Se.cut (s : Se) (b : By) : Se := ⟨b, s.st, s.hello, s.fl, s.fd, s.to_⟩
def stepT (s : Se) : Ou × Bool × Se :=
  if s.st = 5 ∨ s.st = 6 then (Ou.no, false, s)
  else if s.st = 0 then (sayO readyB, true, ⟨s.buf, 1, s.hello, s.fl, s.fd, s.to_⟩)
  else if s.st = 4 then
    (if unE s.buf ≠ 0 then (Ou.no, false, s)
     else if 600 < (unL s.buf).length then (sayO tooB, true, restS (s.cut (s.buf.drop (unN s.buf))))
     else (⟨[], true, s.fl, s.fd, s.to_, unL s.buf, false⟩, true, ⟨s.buf.drop (unN s.buf), 5, s.hello, s.fl, s.fd, s.to_⟩))
  else if lineE s.buf = 0 then ((lineT (s.cut (lineL s.buf)) (lineS s.buf)).1, true, (lineT (s.cut (lineL s.buf)) (lineS s.buf)).2)
  else if lineE s.buf = 6 then (sayO longB, true, s.cut (lineL s.buf))
  else (Ou.no, false, s)
def feedT (s : Se) (p : By) : Int × Se := if s.st = 6 then (13, s) else (feedE s.buf p, s.cut (feedL s.buf p))
/-! ## bounds -/
structure Se.Ok (s : Se) : Prop where
  buf : s.buf.length ≤ 16384
  to_ : s.to_.length ≤ 4
  ads : ∀ a ∈ s.to_, a.1.length ≤ 64 ∧ a.2.length ≤ 255
  st : s.st ≤ 6
theorem newS_ok : newS.Ok := ⟨by decide, by decide, fun a h => (by cases h), by decide⟩
theorem restS_ok {s : Se} (h : s.Ok) : (restS s).Ok := ⟨h.buf, by simp [restS], fun a ha => (by cases ha), by simp only [restS]; split <;> omega⟩
theorem cut_ok {s : Se} (h : s.Ok) {b : By} (hb : b.length ≤ 16384) : (s.cut b).Ok := ⟨hb, h.to_, h.ads, h.st⟩
theorem big_len (lo dm : By) : (if 64 < lo.length ∨ 255 < dm.length then (([], [], 0, 6) : By × By × Nat × Nat) else (lo, dm, 0, 0)).1.length ≤ 64 ∧ (if 64 < lo.length ∨ 255 < dm.length then (([], [], 0, 6) : By × By × Nat × Nat) else (lo, dm, 0, 0)).2.1.length ≤ 255 := by
  split
  · simp
  · simp only; omega
theorem restT_len (l said : By) (s0 f p : Nat) : (restT l said s0 f p).1.length ≤ 64 ∧ (restT l said s0 f p).2.1.length ≤ 255 := by
  unfold restT
  split
  · simp
  · split
    · simp
    · exact big_len _ _
theorem parseT_len (l : By) : (parseT l).1.length ≤ 64 ∧ (parseT l).2.1.length ≤ 255 := by
  unfold parseT
  split
  · split
    · simp
    · exact restT_len _ _ _ _ _
  · exact restT_len _ _ _ _ _
theorem pathT_len (l : By) : (pathT l).1.length ≤ 64 ∧ (pathT l).2.1.length ≤ 255 := by
  unfold pathT
  split
  · simp
  · split
    · exact parseT_len _
    · simp
theorem mailT_ok {s : Se} (h : s.Ok) (r : By) : (mailT s r).2.Ok := by
  unfold mailT
  repeat' split
  all_goals first | exact h | exact ⟨h.buf, h.to_, h.ads, by simp⟩
theorem rcptT_ok {s : Se} (h : s.Ok) (r : By) : (rcptT s r).2.Ok := by
  unfold rcptT
  by_cases h3 : s.st ≠ 3
  · rw [if_pos h3]; exact h
  rw [if_neg h3]
  split
  · exact h
  split
  · exact h
  split
  · exact h
  by_cases h4 : s.to_.length = 4
  · rw [if_pos h4]; exact h
  rw [if_neg h4]
  have := h.to_
  refine ⟨h.buf, by simp only [List.length_append, List.length_cons, List.length_nil]; omega, fun a ha => ?_, h.st⟩
  rcases List.mem_append.1 ha with h1 | h1
  · exact h.ads a h1
  · simp only [List.mem_cons, List.not_mem_nil, or_false] at h1
    subst h1
    exact pathT_len _
theorem lineT_ok {s : Se} (h : s.Ok) (l : By) : (lineT s l).2.Ok := by
  unfold lineT
  repeat' split
  all_goals first | exact h | exact mailT_ok h _ | exact rcptT_ok h _ | exact restS_ok h | exact restS_ok ⟨h.buf, h.to_, h.ads, h.st⟩ | exact ⟨h.buf, h.to_, h.ads, by simp⟩
theorem stepT_ok {s : Se} (h : s.Ok) : (stepT s).2.2.Ok := by
  have hb := h.buf
  have h1 := lineL_le s.buf
  unfold stepT
  repeat' split
  all_goals first
    | exact h
    | exact restS_ok (cut_ok h (by simp; omega))
    | exact lineT_ok (cut_ok h (by omega)) _
    | exact cut_ok h (by omega)
    | exact ⟨hb, h.to_, h.ads, by simp⟩
    | exact ⟨by simp; omega, h.to_, h.ads, by simp⟩
theorem feedT_ok {s : Se} (h : s.Ok) (p : By) : (feedT s p).2.Ok := by
  unfold feedT
  split
  · exact h
  · exact cut_ok h (feedL_le _ _ h.buf)
end Go.Proofs.Ytchokelpimibdaa
