/- The tables that are laid when a law of this seat begins (written by globs.py). -/
import Derived.Shelf.Strconv.Itoa3
namespace Go.Proofs.YteccacaonllceaaGreatDoor
namespace Abs
def globs : List (Nat × Array Value) := [(1, (Lib.pow10Tab.map fun z => Value.int .u64 z).toArray)]
end Abs
end Go.Proofs.YteccacaonllceaaGreatDoor
