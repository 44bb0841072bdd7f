/- What the walks of small texts share: the row of []uint8. -/
import Derived.Test.YtigkmlhkfpdajaaStr
import Derived.Test.YtigkmlhkfpdajaaStop
namespace Go.Proofs.Ytigkmlhkfpdajaa
open Go.RowKit
theorem bytesTr : ElemOf Try.prog 36 5 1 1 := ElemOf.mk' (z := .int .u8 0) Try.underlying36 (by kernel_rfl) rfl (by omega)
end Go.Proofs.Ytigkmlhkfpdajaa
