/- A step law for append in a region that draws its order. -/
import Derived.Test.YtbdlhiogjnbhjaaGreatRegion
namespace Go.Proofs.YtbdlhiogjnbhjaaGreat
set_option linter.unusedVariables false
set_option linter.unusedSimpArgs false
open Go.RowKit

end Go.Proofs.YtbdlhiogjnbhjaaGreat
