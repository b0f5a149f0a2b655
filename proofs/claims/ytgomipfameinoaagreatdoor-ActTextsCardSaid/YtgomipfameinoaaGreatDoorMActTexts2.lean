/- Parts of the proof, in order. -/
import Derived.Test.YtgomipfameinoaaGreatDoorMActTexts1
import Derived.Deep.RegionHeld3
import Derived.Laws.Bits64b
import Derived.Lib.Mul64
import Derived.StillTailTactics

/- Walks of package base, and of the small functions of the reference that say the same. -/
namespace Go.Proofs.YtgomipfameinoaaGreatDoor.Hd
set_option linter.unusedVariables false
set_option linter.unusedSimpArgs false
open Go.RowKit

/-! greatest common divisors -/
/-! the reference's -/
/-! rounding down -/
end Go.Proofs.YtgomipfameinoaaGreatDoor.Hd

/- Walks of package base: comparisons, the first error, lowest terms. -/
namespace Go.Proofs.YtgomipfameinoaaGreatDoor.Hd
set_option linter.unusedVariables false
set_option linter.unusedSimpArgs false
open Go.RowKit

/-! the first error -/
def firstErr : List Int → Int
  | [] => 0
  | x :: r => if x = 0 then firstErr r else x
def sgn (x : Int) : Int := if x < 0 then -1 else if 0 < x then 1 else 0
/-! comparisons -/
namespace M64
end M64

/-! lowest terms -/
/-! fractions -/
end Go.Proofs.YtgomipfameinoaaGreatDoor.Hd

/- Walks: slices.IndexFunc and ContainsFunc of numbers, over whatever function that only reads. -/
namespace Go.Proofs.YtgomipfameinoaaGreatDoor.Hd
set_option linter.unusedVariables false
set_option linter.unusedSimpArgs false
open Go.RowKit

end Go.Proofs.YtgomipfameinoaaGreatDoor.Hd

/- Walks: rules and traces are looked at (package trace, and the reference). -/
namespace Go.Proofs.YtgomipfameinoaaGreatDoor.Hd
set_option linter.unusedVariables false
set_option linter.unusedSimpArgs false
open Go.RowKit

end Go.Proofs.YtgomipfameinoaaGreatDoor.Hd

/- Walks: a trace is looked at (package trace, and the reference). -/
namespace Go.Proofs.YtgomipfameinoaaGreatDoor.Hd
set_option linter.unusedVariables false
set_option linter.unusedSimpArgs false
open Go.RowKit

end Go.Proofs.YtgomipfameinoaaGreatDoor.Hd

/- Walks: the excess of a trace (package trace, and the reference). -/
namespace Go.Proofs.YtgomipfameinoaaGreatDoor.Hd
set_option linter.unusedVariables false
set_option linter.unusedSimpArgs false
open Go.RowKit

/-! the excess -/
def prs (l : List (Int × Int)) : List Value := l.flatMap fun q => [.int .i64 q.1, .int .i64 q.2]
end Go.Proofs.YtgomipfameinoaaGreatDoor.Hd

/- Walks: where a trace ends (package trace, and the reference). -/
namespace Go.Proofs.YtgomipfameinoaaGreatDoor.Hd
set_option linter.unusedVariables false
set_option linter.unusedSimpArgs false
open Go.RowKit

end Go.Proofs.YtgomipfameinoaaGreatDoor.Hd
