/-
  DERIVED. GIVEN WITH THE SEED: THE CARDS: each row of YtdljolmiclbolaaGreatDoorRows.lean that lists a variable, with what it lists TIED to the program's text (the seventh form; the later family's looks); each row that meets fmt, with fmt's text TOLD by the authors' own Lean function (tested against real Go, not proved from fmt's source: count such statements apart). THE CARD IS WHAT COUNTS. Prove the row's statement (the work); the ties are given (YtdljolmiclbolaaGreatDoorTie.lean); close each card by the builder's one call (the guide's Derived/Test/ToyasCard.lean, 'card_holds'). Laid BY PROGRAM, IN A SANDBOX (cutbox-door.mjs). By AI agents, Wed Nov 11 2026. No macro, syntax, notation, axiom, sorry.
-/
import Derived.Test.YtdljolmiclbolaaGreatDoorRows
import GoSem.ClaimSeven
namespace Go.Proofs.YtdljolmiclbolaaGreatDoor
namespace Rows

/-- THE TIED CARD OF 'spkeep2.RepairsRestore'. -/
def repairsRestoreCard : Claim7 := { stood := { row := repairsRestoreRow, standIns := [], harness := (true, "81c3faad6dba1ae7e702b8e989d849b162044be6d42a1eb3adb36f9962566d9e"), looks := true }, kinds := [], alts := [], laidByText := true, laidKinds := [.data, .data, .data, .sentinel, .sentinel], laidTests := true, laidLooks := .later }
def RepairsRestoreCardSaid : Prop := Claim7.holds Tryz.pinned (.plain (OpenSpec.ofChange repairsRestoreSpec)) repairsRestoreCard

/-- THE SECOND FORM's CARD OF 'spkeep2.RepairsRestore'. -/
def repairsRestoreUptoCard : Claim7 := { stood := { row := repairsRestoreUptoRow, standIns := [], harness := (true, "81c3faad6dba1ae7e702b8e989d849b162044be6d42a1eb3adb36f9962566d9e"), looks := true }, kinds := [], alts := [], laidByText := true, laidKinds := [.data, .data, .data, .sentinel, .sentinel], laidTests := true, laidLooks := .later }
def RepairsRestoreUptoCardSaid : Prop := Claim7.holds Tryz.pinned (.plain (OpenSpec.upto repairsRestoreSpec)) repairsRestoreUptoCard
end Rows
end Go.Proofs.YtdljolmiclbolaaGreatDoor
