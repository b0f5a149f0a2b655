/- A step law for append in a region that draws its order. -/
import Derived.Test.YtkefgcleaalnnaaGreatRegion
namespace Go.Proofs.YtkefgcleaalnnaaGreat
set_option linter.unusedVariables false
set_option linter.unusedSimpArgs false
open Go.RowKit

end Go.Proofs.YtkefgcleaalnnaaGreat
