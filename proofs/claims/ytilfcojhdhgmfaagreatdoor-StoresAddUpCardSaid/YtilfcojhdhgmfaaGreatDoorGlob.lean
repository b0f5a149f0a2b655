/- The tables that are laid when a law of this seat begins (written by globs.py). -/
import Derived.Shelf.Strconv.Itoa3
import Derived.WalkKit
namespace Go.Proofs.YtilfcojhdhgmfaaGreatDoor
namespace Abs
abbrev dm : Prop := True
def globs : List (Nat × (Array Value → Prop)) := [(3, fun cs => cs = (Lib.pow10Tab.map fun z => Value.int .u64 z).toArray), (2, fun cs => ∃ m, cs[0]? = some (.int .i64 m))]
end Abs
end Go.Proofs.YtilfcojhdhgmfaaGreatDoor
