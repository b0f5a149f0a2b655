/-
  DERIVED. GIVEN WITH THE SEED: THE CARDS: each row of YthdaejnepengeaaGreatDoorRows.lean that lists a variable, with what it lists TIED to the program's text (the seventh form; the later family's looks); each row that meets fmt, with fmt's text TOLD by the authors' own Lean function (tested against real Go, not proved from fmt's source: count such statements apart). THE CARD IS WHAT COUNTS. Prove the row's statement (the work); the ties are given (YthdaejnepengeaaGreatDoorTie.lean); close each card by the builder's one call (the guide's Derived/Test/ToyasCard.lean, 'card_holds'). Laid BY PROGRAM, IN A SANDBOX (cutbox-door.mjs). By AI agents, Wed Nov 11 2026. No macro, syntax, notation, axiom, sorry.
-/
import Derived.Test.YthdaejnepengeaaGreatDoorRows
import GoSem.ClaimSeven
namespace Go.Proofs.YthdaejnepengeaaGreatDoor
namespace Rows

/-- THE TIED CARD OF 'sptop.TopCapacityIsLaid'. -/
def topCapacityIsLaidCard : Claim7 := { stood := { row := topCapacityIsLaidRow, standIns := [], harness := (true, "256229b9343edb9474920e6204de9d0978864c534acda5278179c38dcf92450e"), looks := false }, kinds := [], alts := [], laidByText := true, laidKinds := [.data, .data, .data], laidTests := true, laidLooks := .later }
def TopCapacityIsLaidCardSaid : Prop := Claim7.holds Tryz.pinned (.plain (OpenSpec.ofChange topCapacityIsLaidSpec)) topCapacityIsLaidCard

/-- THE SECOND FORM's CARD OF 'sptop.TopCapacityIsLaid'. -/
def topCapacityIsLaidUptoCard : Claim7 := { stood := { row := topCapacityIsLaidUptoRow, standIns := [], harness := (true, "256229b9343edb9474920e6204de9d0978864c534acda5278179c38dcf92450e"), looks := false }, kinds := [], alts := [], laidByText := true, laidKinds := [.data, .data, .data], laidTests := true, laidLooks := .later }
def TopCapacityIsLaidUptoCardSaid : Prop := Claim7.holds Tryz.pinned (.plain (OpenSpec.upto topCapacityIsLaidSpec)) topCapacityIsLaidUptoCard
end Rows
end Go.Proofs.YthdaejnepengeaaGreatDoor
