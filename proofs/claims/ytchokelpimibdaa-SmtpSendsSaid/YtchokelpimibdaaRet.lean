/- What the walks of small texts share: the row of []uint8. -/
import Derived.Test.YtchokelpimibdaaStr
import Derived.Test.YtchokelpimibdaaStop
namespace Go.Proofs.Ytchokelpimibdaa
open Go.RowKit
theorem bytesTr : ElemOf Try.prog 22 5 1 1 := ElemOf.mk' (z := .int .u8 0) Try.underlying22 (by kernel_rfl) rfl (by omega)
end Go.Proofs.Ytchokelpimibdaa
