/- What the walks of small texts share: the row of []uint8. -/
import Derived.Test.YthlppbbejdeeoaaStr
import Derived.Test.YthlppbbejdeeoaaStop
namespace Go.Proofs.Ythlppbbejdeeoaa
open Go.RowKit
theorem bytesTr : ElemOf Try.prog 32 5 1 1 := ElemOf.mk' (z := .int .u8 0) Try.underlying32 (by kernel_rfl) rfl (by omega)
end Go.Proofs.Ythlppbbejdeeoaa
