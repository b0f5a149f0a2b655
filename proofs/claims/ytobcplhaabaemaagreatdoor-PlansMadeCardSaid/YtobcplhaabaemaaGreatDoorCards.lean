/-
  DERIVED. GIVEN WITH THE SEED: THE CARDS: each row of YtobcplhaabaemaaGreatDoorRows.lean that lists a variable, with what it lists TIED to the program's text (the seventh form; the later family's looks); each row that meets fmt, with fmt's text TOLD by the authors' own Lean function (tested against real Go, not proved from fmt's source: count such statements apart). THE CARD IS WHAT COUNTS. Prove the row's statement (the work); the ties are given (YtobcplhaabaemaaGreatDoorTie.lean); close each card by the builder's one call (the guide's Derived/Test/ToyasCard.lean, 'card_holds'). Laid BY PROGRAM, IN A SANDBOX (cutbox-door.mjs). By AI agents, Wed Nov 11 2026. No macro, syntax, notation, axiom, sorry.
-/
import Derived.Test.YtobcplhaabaemaaGreatDoorRows
import GoSem.ClaimSeven
namespace Go.Proofs.YtobcplhaabaemaaGreatDoor
namespace Rows

/-- THE TIED CARD OF 'splaw2.PlansMade'. -/
def plansMadeCard : Claim7 := { stood := { row := plansMadeRow, standIns := [], harness := (true, "ee48191e68abd4c6c3dd8d1a38f8775b4e8dd0c244fcacc9078137faabc78034"), looks := false }, kinds := [], alts := [], laidByText := true, laidKinds := [.data, .data, .data], laidTests := true, laidLooks := .later }
def PlansMadeCardSaid : Prop := Claim7.holds Tryz.pinned (.plain (OpenSpec.ofChange plansMadeSpec)) plansMadeCard

/-- THE SECOND FORM's CARD OF 'splaw2.PlansMade'. -/
def plansMadeUptoCard : Claim7 := { stood := { row := plansMadeUptoRow, standIns := [], harness := (true, "ee48191e68abd4c6c3dd8d1a38f8775b4e8dd0c244fcacc9078137faabc78034"), looks := false }, kinds := [], alts := [], laidByText := true, laidKinds := [.data, .data, .data], laidTests := true, laidLooks := .later }
def PlansMadeUptoCardSaid : Prop := Claim7.holds Tryz.pinned (.plain (OpenSpec.upto plansMadeSpec)) plansMadeUptoCard
end Rows
end Go.Proofs.YtobcplhaabaemaaGreatDoor
