/- The walks of the reference's New, take, Feed, Line, Raw, Fork. Conditions: those of IsBuf, the lengths named. -/
import Derived.Test.YtchokelpimibdaaLn3
namespace Go.Proofs.Ytchokelpimibdaa
open Go.RowKit
/-- its cell turns: a row of the call's own -/
theorem IsBuf.own {M : List Nat} {w : World} {t p c n base : Nat} {A : Option Addr} {v : Value} {l' : List UInt8} (h : w.heap[p]? = some (.cells #[v] t (0, 0))) (hp : p ∈ M) (hb : Own w base (.slice A n c) l') (hM : ∀ k ∈ M, k < base) :
    IsBuf t M (w.setCell ⟨p, 0, none⟩ (.slice A n c)) p l' ∧ Kept [p] w (w.setCell ⟨p, 0, none⟩ (.slice A n c)) :=
  IsBuf.set h hp (BsM.own hb hM) hb.len hb.cap.1 hb.cap.2
theorem app_empty {w : World} {base : Nat} : base ≤ w.heap.size → Own (w.alloc (.cells #[] 5)) base (.slice (some ⟨w.heap.size, 0, none⟩) 0 0) [] := Own.empty w base
section
variable {M : List Nat} {p : Nat} {l : List UInt8}
end
end Go.Proofs.Ytchokelpimibdaa
