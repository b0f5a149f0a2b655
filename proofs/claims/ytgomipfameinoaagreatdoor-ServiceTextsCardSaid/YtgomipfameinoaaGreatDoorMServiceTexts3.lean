/- Parts of the proof, in order. -/
import Derived.Test.YtgomipfameinoaaGreatDoorMServiceTexts2
import Derived.Deep.RegionHeld3

/- Walks: rules and traces are looked at (package trace, and the reference). -/
namespace Go.Proofs.YtgomipfameinoaaGreatDoor.Hd
set_option linter.unusedVariables false
set_option linter.unusedSimpArgs false
open Go.RowKit

end Go.Proofs.YtgomipfameinoaaGreatDoor.Hd

/- Walks: a trace is looked at (package trace, and the reference). -/
namespace Go.Proofs.YtgomipfameinoaaGreatDoor.Hd
set_option linter.unusedVariables false
set_option linter.unusedSimpArgs false
open Go.RowKit

end Go.Proofs.YtgomipfameinoaaGreatDoor.Hd

/- Walks: the excess of a trace (package trace, and the reference). -/
namespace Go.Proofs.YtgomipfameinoaaGreatDoor.Hd
set_option linter.unusedVariables false
set_option linter.unusedSimpArgs false
open Go.RowKit

/-! the excess -/
def prs (l : List (Int × Int)) : List Value := l.flatMap fun q => [.int .i64 q.1, .int .i64 q.2]
end Go.Proofs.YtgomipfameinoaaGreatDoor.Hd

/- Walks: where a trace ends (package trace, and the reference). -/
namespace Go.Proofs.YtgomipfameinoaaGreatDoor.Hd
set_option linter.unusedVariables false
set_option linter.unusedSimpArgs false
open Go.RowKit

end Go.Proofs.YtgomipfameinoaaGreatDoor.Hd
