/- The tables that are laid when a law of this seat begins (written by globs.py). -/
import Derived.Shelf.Strconv.Itoa3
namespace Go.Proofs.YthdaejnepengeaaGreatDoor
namespace Abs
/-- is it kept how much of the tape has been drawn? (sorts by functions ask for it; contracts walked by hand do not tell) -/
abbrev dm : Prop := True
def globs : List (Nat × (Array Value → Prop)) := [(1, fun cs => cs = (Lib.pow10Tab.map fun z => Value.int .u64 z).toArray)]
end Abs
end Go.Proofs.YthdaejnepengeaaGreatDoor
