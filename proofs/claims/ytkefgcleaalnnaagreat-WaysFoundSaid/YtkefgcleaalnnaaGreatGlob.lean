/- The tables that are laid when a law of this seat begins (written by globs.py). -/
import Derived.WalkKit
namespace Go.Proofs.YtkefgcleaalnnaaGreat
namespace Abs
abbrev dm : Prop := True
def globs : List (Nat × (Array Value → Prop)) := []
end Abs
end Go.Proofs.YtkefgcleaalnnaaGreat
