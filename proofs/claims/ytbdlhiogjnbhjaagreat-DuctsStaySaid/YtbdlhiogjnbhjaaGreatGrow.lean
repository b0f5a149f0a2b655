/- What a call has made anew, as an object. -/
import Derived.Test.YtbdlhiogjnbhjaaGreatAbsW
namespace Go.Proofs.YtbdlhiogjnbhjaaGreat
set_option linter.unusedVariables false
set_option linter.unusedSimpArgs false
open Abs

end Go.Proofs.YtbdlhiogjnbhjaaGreat
