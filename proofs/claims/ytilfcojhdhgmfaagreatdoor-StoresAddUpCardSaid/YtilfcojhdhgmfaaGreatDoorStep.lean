/- A step law for append in a region that draws its order. -/
import Derived.Test.YtilfcojhdhgmfaaGreatDoorRegion
namespace Go.Proofs.YtilfcojhdhgmfaaGreatDoor
set_option linter.unusedVariables false
set_option linter.unusedSimpArgs false
open Go.RowKit

end Go.Proofs.YtilfcojhdhgmfaaGreatDoor
