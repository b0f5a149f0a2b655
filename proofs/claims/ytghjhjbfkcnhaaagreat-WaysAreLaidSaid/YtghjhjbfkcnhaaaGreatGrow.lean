/- What a call has made anew, as an object. -/
import Derived.Test.YtghjhjbfkcnhaaaGreatAbsW
namespace Go.Proofs.YtghjhjbfkcnhaaaGreat
set_option linter.unusedVariables false
set_option linter.unusedSimpArgs false
open Abs

end Go.Proofs.YtghjhjbfkcnhaaaGreat
