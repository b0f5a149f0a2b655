/- Keys and values of maps. -/
import Derived.Test.YtkefgcleaalnnaaGreatAbsZ
namespace Go.Proofs.YtkefgcleaalnnaaGreat
set_option linter.unusedVariables false
set_option linter.unusedSimpArgs false
open Abs

abbrev ekS : ByteArray → S := fun b => .c (.str b)
abbrev evI : Int → S := fun v => .c (.int .i64 v)
end Go.Proofs.YtkefgcleaalnnaaGreat
