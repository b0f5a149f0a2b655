/- The tables that are laid when a law of this seat begins (written by globs.py). -/
import Derived.WalkKit
namespace Go.Proofs.YtjflmenfinohcaaGreat
namespace Abs
/-- is it kept how much of the tape has been drawn? (sorts by functions ask for it; contracts walked by hand do not tell) -/
abbrev dm : Prop := True
def globs : List (Nat × (Array Value → Prop)) := []
end Abs
end Go.Proofs.YtjflmenfinohcaaGreat
