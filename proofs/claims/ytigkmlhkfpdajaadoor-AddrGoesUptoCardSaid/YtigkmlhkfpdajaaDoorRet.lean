/- What the walks of small texts share: the row of []uint8. -/
import Derived.Test.YtigkmlhkfpdajaaDoorStr
import Derived.Test.YtigkmlhkfpdajaaDoorStop
namespace Go.Proofs.YtigkmlhkfpdajaaDoor
open Go.RowKit
theorem bytesTr : ElemOf Tryd.prog 49 5 1 1 := ElemOf.mk' (z := .int .u8 0) Tryd.underlying49 (by kernel_rfl) rfl (by omega)
end Go.Proofs.YtigkmlhkfpdajaaDoor
