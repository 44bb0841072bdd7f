/- What the walk of Check shows, in the words that the other walks ask for. No condition. -/
import Derived.Test.YthlppbbejdeeoaaDd12
import Derived.Test.YthlppbbejdeeoaaDd14
namespace Go.Proofs.Ythlppbbejdeeoaa
theorem checkLaw : CheckLaw := fun d A cap w a b c p q r => Check_any d A cap w a b c p q r
end Go.Proofs.Ythlppbbejdeeoaa
