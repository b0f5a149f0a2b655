/- Parts of the proof, in order. -/
import Derived.Test.YtgomipfameinoaaGreatDoorMActTexts3
import Derived.Test.YtgomipfameinoaaGreatDoorStep

/- Walks: the events of a trace, as the reference finds them. -/
namespace Go.Proofs.YtgomipfameinoaaGreatDoor.Hd
set_option linter.unusedVariables false
set_option linter.unusedSimpArgs false
open Go.RowKit

/-- what the variables of the reference's function hold -/
structure RSt (Br Bx Bu : Nat) (aR : Option Addr) (cR : Nat) (R : List Int) (st wd ls nm dn u : Int) (w : World) : Prop where
  r : w.heap[Br]? = some (.cells #[.int .i64 st, .int .i64 wd, .int .i64 ls, .int .i64 nm, .int .i64 dn] 128 (0, 0))
  x : w.heap[Bx]? = some (.cells #[.slice aR R.length cR] 22 (0, 0))
  u : w.heap[Bu]? = some (.cells #[.int .i64 u] 3 (0, 0))
  at_ : At w aR (ints R)
theorem RSt.kept {Br Bx Bu : Nat} {aR : Option Addr} {cR : Nat} {R : List Int} {st wd ls nm dn u : Int} {w w' : World} {row : Option Nat} {B : Nat} (h : RSt Br Bx Bu aR cR R st wd ls nm dn u w) (hg : w.grownBy w' row)
    (hl : Br < B ∧ Bx < B ∧ Bu < B ∧ ∀ p, aR = some p → p.block < B) (hr : ∀ b, row = some b → B ≤ b) : RSt Br Bx Bu aR cR R st wd ls nm dn u w' :=
  ⟨blk_apart h.r hg (fun k hk => by have := hr k hk; omega), blk_apart h.x hg (fun k hk => by have := hr k hk; omega), blk_apart h.u hg (fun k hk => by have := hr k hk; omega), h.at_.apart hg hl.2.2.2 hr⟩
theorem RSt.drewN {Br Bx Bu : Nat} {aR : Option Addr} {cR : Nat} {R : List Int} {st wd ls nm dn u : Int} {w : World} (h : RSt Br Bx Bu aR cR R st wd ls nm dn u w) (n : Nat) : RSt Br Bx Bu aR cR R st wd ls nm dn u (w.drewN n) := ⟨h.r, h.x, h.u, h.at_⟩

end Go.Proofs.YtgomipfameinoaaGreatDoor.Hd

/- Walks: slices.Equal of pairs of numbers; the self-test of package trace; the trace of steps. -/
namespace Go.Proofs.YtgomipfameinoaaGreatDoor.Hd
set_option linter.unusedVariables false
set_option linter.unusedSimpArgs false
open Go.RowKit

end Go.Proofs.YtgomipfameinoaaGreatDoor.Hd

/- Contracts of package trace and of the reference for every input, and the self-test of the laws. -/
namespace Go.Proofs.YtgomipfameinoaaGreatDoor.Hd
set_option linter.unusedVariables false
set_option linter.unusedSimpArgs false
open Go.RowKit

end Go.Proofs.YtgomipfameinoaaGreatDoor.Hd
