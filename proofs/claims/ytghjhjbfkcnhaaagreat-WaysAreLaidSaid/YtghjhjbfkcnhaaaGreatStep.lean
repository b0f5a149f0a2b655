/- A step law for append in a region that draws its order. -/
import Derived.Test.YtghjhjbfkcnhaaaGreatRegion
namespace Go.Proofs.YtghjhjbfkcnhaaaGreat
set_option linter.unusedVariables false
set_option linter.unusedSimpArgs false
open Go.RowKit

end Go.Proofs.YtghjhjbfkcnhaaaGreat
