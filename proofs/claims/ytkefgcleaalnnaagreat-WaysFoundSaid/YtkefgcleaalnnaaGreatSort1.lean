/- Go's sort of elements of one cell, by the kit's contract of it. -/
import Derived.Test.YtkefgcleaalnnaaGreatSort
namespace Go.Proofs.YtkefgcleaalnnaaGreat
set_option linter.unusedVariables false
set_option linter.unusedSimpArgs false
namespace Abs
open Go.Shelf Go.Sort Go.RowKit
variable {P : Program} {ρ : Ren}
end Abs
end Go.Proofs.YtkefgcleaalnnaaGreat
