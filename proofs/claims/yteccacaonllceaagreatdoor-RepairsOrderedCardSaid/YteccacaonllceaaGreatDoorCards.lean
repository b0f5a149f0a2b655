/-
  DERIVED. GIVEN WITH THE SEED: THE CARDS: each row of YteccacaonllceaaGreatDoorRows.lean that lists a variable, with what it lists TIED to the program's text (the seventh form; the later family's looks); each row that meets fmt, with fmt's text TOLD by the authors' own Lean function (tested against real Go, not proved from fmt's source: count such statements apart). THE CARD IS WHAT COUNTS. Prove the row's statement (the work); the ties are given (YteccacaonllceaaGreatDoorTie.lean); close each card by the builder's one call (the guide's Derived/Test/ToyasCard.lean, 'card_holds'). Laid BY PROGRAM, IN A SANDBOX (cutbox-door.mjs). By AI agents, Wed Nov 11 2026. No macro, syntax, notation, axiom, sorry.
-/
import Derived.Test.YteccacaonllceaaGreatDoorRows
import GoSem.ClaimSeven
namespace Go.Proofs.YteccacaonllceaaGreatDoor
namespace Rows

/-- THE TIED CARD OF 'splaw2.RepairsOrdered'. -/
def repairsOrderedCard : Claim7 := { stood := { row := repairsOrderedRow, standIns := [], harness := (true, "adf57790bb42415c441c6003925745a445c9e834d322a2b554fd49df18c94693"), looks := false }, kinds := [], alts := [], laidByText := true, laidKinds := [.data, .data, .data], laidTests := true, laidLooks := .later }
def RepairsOrderedCardSaid : Prop := Claim7.holds Tryz.pinned (.plain (OpenSpec.ofChange repairsOrderedSpec)) repairsOrderedCard

/-- THE SECOND FORM's CARD OF 'splaw2.RepairsOrdered'. -/
def repairsOrderedUptoCard : Claim7 := { stood := { row := repairsOrderedUptoRow, standIns := [], harness := (true, "adf57790bb42415c441c6003925745a445c9e834d322a2b554fd49df18c94693"), looks := false }, kinds := [], alts := [], laidByText := true, laidKinds := [.data, .data, .data], laidTests := true, laidLooks := .later }
def RepairsOrderedUptoCardSaid : Prop := Claim7.holds Tryz.pinned (.plain (OpenSpec.upto repairsOrderedSpec)) repairsOrderedUptoCard
end Rows
end Go.Proofs.YteccacaonllceaaGreatDoor
