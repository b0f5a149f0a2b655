/- The tables that are laid when a law of this seat begins (written by globs.py). -/
import Derived.WalkKit
namespace Go.Proofs.YtllpjcgadfmipaaGreat
namespace Abs
def globs : List (Nat × Array Value) := []
end Abs
end Go.Proofs.YtllpjcgadfmipaaGreat
