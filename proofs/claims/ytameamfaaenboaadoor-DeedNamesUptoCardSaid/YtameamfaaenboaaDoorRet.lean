/- What the walks of small texts share: the row of []uint8. -/
import Derived.Test.YtameamfaaenboaaDoorStr
import Derived.Test.YtameamfaaenboaaDoorStop
namespace Go.Proofs.YtameamfaaenboaaDoor
open Go.RowKit
theorem bytesTr : ElemOf Tryd.prog 26 5 1 1 := ElemOf.mk' (z := .int .u8 0) Tryd.underlying26 (by kernel_rfl) rfl (by omega)
end Go.Proofs.YtameamfaaenboaaDoor
