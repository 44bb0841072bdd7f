/- The walk of text.Quote. Condition: the length named in the theorem. -/
import Derived.Test.YtchokelpimibdaaText7
namespace Go.Proofs.Ytchokelpimibdaa
open Go.RowKit
end Go.Proofs.Ytchokelpimibdaa
