/- What the walks of small texts share: the row of []uint8. -/
import Derived.Test.YtijopcdjlpafdaaStr
import Derived.Test.YtijopcdjlpafdaaStop
namespace Go.Proofs.Ytijopcdjlpafdaa
open Go.RowKit
theorem bytesTr : ElemOf Try.prog 23 5 1 1 := ElemOf.mk' (z := .int .u8 0) Try.underlying23 (by kernel_rfl) rfl (by omega)
end Go.Proofs.Ytijopcdjlpafdaa
