/-
  DERIVED. GIVEN WITH THE SEED: THE CARDS: each row of YtilfcojhdhgmfaaGreatDoorRows.lean that lists a variable, with what it lists TIED to the program's text (the seventh form; the later family's looks); each row that meets fmt, with fmt's text TOLD by the authors' own Lean function (tested against real Go, not proved from fmt's source: count such statements apart). THE CARD IS WHAT COUNTS. Prove the row's statement (the work); the ties are given (YtilfcojhdhgmfaaGreatDoorTie.lean); close each card by the builder's one call (the guide's Derived/Test/ToyasCard.lean, 'card_holds'). Laid BY PROGRAM, IN A SANDBOX (cutbox-door.mjs). By AI agents, Wed Nov 11 2026. No macro, syntax, notation, axiom, sorry.
-/
import Derived.Test.YtilfcojhdhgmfaaGreatDoorRows
import GoSem.ClaimSeven
namespace Go.Proofs.YtilfcojhdhgmfaaGreatDoor
namespace Rows

/-- THE TIED CARD OF 'spkeep2.StoresAddUp'. -/
def storesAddUpCard : Claim7 := { stood := { row := storesAddUpRow, standIns := [], harness := (true, "020d5656df659d38ede23de34aee6645589b9e8e4c74adba81a59f5c9081bfd1"), looks := true }, kinds := [], alts := [], laidByText := true, laidKinds := [.data, .data, .data, .data, .sentinel, .sentinel, .pinned], laidTests := true, laidLooks := .later }
def StoresAddUpCardSaid : Prop := Claim7.holds Tryz.pinned (.plain (OpenSpec.ofChange storesAddUpSpec)) storesAddUpCard

/-- THE TIED CARD OF 'splaw2.DuctTexts'. -/
def ductTextsCard : Claim7 := { stood := { row := ductTextsRow, standIns := [], harness := (true, "020d5656df659d38ede23de34aee6645589b9e8e4c74adba81a59f5c9081bfd1"), looks := true }, kinds := [], alts := [], laidByText := true, laidKinds := [.data, .data, .data, .data, .sentinel, .sentinel, .pinned], laidTests := true, laidLooks := .later }
def DuctTextsCardSaid : Prop := Claim7.holds Tryz.pinned (.plain (OpenSpec.ofChange ductTextsSpec)) ductTextsCard

/-- THE SECOND FORM's CARD OF 'spkeep2.StoresAddUp'. -/
def storesAddUpUptoCard : Claim7 := { stood := { row := storesAddUpUptoRow, standIns := [], harness := (true, "020d5656df659d38ede23de34aee6645589b9e8e4c74adba81a59f5c9081bfd1"), looks := true }, kinds := [], alts := [], laidByText := true, laidKinds := [.data, .data, .data, .data, .sentinel, .sentinel, .pinned], laidTests := true, laidLooks := .later }
def StoresAddUpUptoCardSaid : Prop := Claim7.holds Tryz.pinned (.plain (OpenSpec.upto storesAddUpSpec)) storesAddUpUptoCard

/-- THE SECOND FORM's CARD OF 'splaw2.DuctTexts'. -/
def ductTextsUptoCard : Claim7 := { stood := { row := ductTextsUptoRow, standIns := [], harness := (true, "020d5656df659d38ede23de34aee6645589b9e8e4c74adba81a59f5c9081bfd1"), looks := true }, kinds := [], alts := [], laidByText := true, laidKinds := [.data, .data, .data, .data, .sentinel, .sentinel, .pinned], laidTests := true, laidLooks := .later }
def DuctTextsUptoCardSaid : Prop := Claim7.holds Tryz.pinned (.plain (OpenSpec.upto ductTextsSpec)) ductTextsUptoCard
end Rows
end Go.Proofs.YtilfcojhdhgmfaaGreatDoor
