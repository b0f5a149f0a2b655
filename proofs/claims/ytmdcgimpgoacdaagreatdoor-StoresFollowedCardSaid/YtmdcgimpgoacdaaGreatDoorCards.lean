/-
  DERIVED. GIVEN WITH THE SEED: THE CARDS: each row of YtmdcgimpgoacdaaGreatDoorRows.lean that lists a variable, with what it lists TIED to the program's text (the seventh form; the later family's looks); each row that meets fmt, with fmt's text TOLD by the authors' own Lean function (tested against real Go, not proved from fmt's source: count such statements apart). THE CARD IS WHAT COUNTS. Prove the row's statement (the work); the ties are given (YtmdcgimpgoacdaaGreatDoorTie.lean); close each card by the builder's one call (the guide's Derived/Test/ToyasCard.lean, 'card_holds'). Laid BY PROGRAM, IN A SANDBOX (cutbox-door.mjs). By AI agents, Wed Nov 11 2026. No macro, syntax, notation, axiom, sorry.
-/
import Derived.Test.YtmdcgimpgoacdaaGreatDoorRows
import GoSem.ClaimSeven
namespace Go.Proofs.YtmdcgimpgoacdaaGreatDoor
namespace Rows

/-- THE TIED CARD OF 'splaw2.StoresFollowed'. -/
def storesFollowedCard : Claim7 := { stood := { row := storesFollowedRow, standIns := [], harness := (true, "5ab4c56903da4add72215a68c6c4e88d9b34cefdbf9b232c04965c2b1fb4ee15"), looks := false }, kinds := [], alts := [], laidByText := true, laidKinds := [.data, .data, .data], laidTests := true, laidLooks := .later }
def StoresFollowedCardSaid : Prop := Claim7.holds Tryz.pinned (.plain (OpenSpec.ofChange storesFollowedSpec)) storesFollowedCard

/-- THE TIED CARD OF 'splaw2.RepairsOrdered'. -/
def repairsOrderedCard : Claim7 := { stood := { row := repairsOrderedRow, standIns := [], harness := (true, "5ab4c56903da4add72215a68c6c4e88d9b34cefdbf9b232c04965c2b1fb4ee15"), looks := false }, kinds := [], alts := [], laidByText := true, laidKinds := [.data, .data, .data], laidTests := true, laidLooks := .later }
def RepairsOrderedCardSaid : Prop := Claim7.holds Tryz.pinned (.plain (OpenSpec.ofChange repairsOrderedSpec)) repairsOrderedCard

/-- THE SECOND FORM's CARD OF 'splaw2.StoresFollowed'. -/
def storesFollowedUptoCard : Claim7 := { stood := { row := storesFollowedUptoRow, standIns := [], harness := (true, "5ab4c56903da4add72215a68c6c4e88d9b34cefdbf9b232c04965c2b1fb4ee15"), looks := false }, kinds := [], alts := [], laidByText := true, laidKinds := [.data, .data, .data], laidTests := true, laidLooks := .later }
def StoresFollowedUptoCardSaid : Prop := Claim7.holds Tryz.pinned (.plain (OpenSpec.upto storesFollowedSpec)) storesFollowedUptoCard

/-- THE SECOND FORM's CARD OF 'splaw2.RepairsOrdered'. -/
def repairsOrderedUptoCard : Claim7 := { stood := { row := repairsOrderedUptoRow, standIns := [], harness := (true, "5ab4c56903da4add72215a68c6c4e88d9b34cefdbf9b232c04965c2b1fb4ee15"), looks := false }, kinds := [], alts := [], laidByText := true, laidKinds := [.data, .data, .data], laidTests := true, laidLooks := .later }
def RepairsOrderedUptoCardSaid : Prop := Claim7.holds Tryz.pinned (.plain (OpenSpec.upto repairsOrderedSpec)) repairsOrderedUptoCard
end Rows
end Go.Proofs.YtmdcgimpgoacdaaGreatDoor
