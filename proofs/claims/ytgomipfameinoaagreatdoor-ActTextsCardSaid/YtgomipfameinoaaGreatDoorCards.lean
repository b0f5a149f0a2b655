/-
  DERIVED. GIVEN WITH THE SEED: THE CARDS: each row of YtgomipfameinoaaGreatDoorRows.lean that lists a variable, with what it lists TIED to the program's text (the seventh form; the later family's looks); each row that meets fmt, with fmt's text TOLD by the authors' own Lean function (tested against real Go, not proved from fmt's source: count such statements apart). THE CARD IS WHAT COUNTS. Prove the row's statement (the work); the ties are given (YtgomipfameinoaaGreatDoorTie.lean); close each card by the builder's one call (the guide's Derived/Test/ToyasCard.lean, 'card_holds'). Laid BY PROGRAM, IN A SANDBOX (cutbox-door.mjs). By AI agents, Wed Nov 11 2026. No macro, syntax, notation, axiom, sorry.
-/
import Derived.Test.YtgomipfameinoaaGreatDoorRows
import GoSem.ClaimSeven
namespace Go.Proofs.YtgomipfameinoaaGreatDoor
namespace Rows

/-- THE TIED CARD OF 'splaw2.EventTexts'. -/
def eventTextsCard : Claim7 := { stood := { row := eventTextsRow, standIns := [], harness := (true, "5416c4255a766d38dd56fdb530a0a00af9d0cddcce6634c2414d638128c46185"), looks := true }, kinds := [], alts := [], laidByText := true, laidKinds := [.data, .data, .data, .data, .sentinel, .sentinel, .pinned], laidTests := true, laidLooks := .later }
def EventTextsCardSaid : Prop := Claim7.holds Tryz.pinned (.plain (OpenSpec.ofChange eventTextsSpec)) eventTextsCard

/-- THE TIED CARD OF 'splaw2.DuctTexts'. -/
def ductTextsCard : Claim7 := { stood := { row := ductTextsRow, standIns := [], harness := (true, "5416c4255a766d38dd56fdb530a0a00af9d0cddcce6634c2414d638128c46185"), looks := true }, kinds := [], alts := [], laidByText := true, laidKinds := [.data, .data, .data, .data, .sentinel, .sentinel, .pinned], laidTests := true, laidLooks := .later }
def DuctTextsCardSaid : Prop := Claim7.holds Tryz.pinned (.plain (OpenSpec.ofChange ductTextsSpec)) ductTextsCard

/-- THE TIED CARD OF 'splaw2.ServiceTexts'. -/
def serviceTextsCard : Claim7 := { stood := { row := serviceTextsRow, standIns := [], harness := (true, "5416c4255a766d38dd56fdb530a0a00af9d0cddcce6634c2414d638128c46185"), looks := true }, kinds := [], alts := [], laidByText := true, laidKinds := [.data, .data, .data, .data, .sentinel, .sentinel, .pinned], laidTests := true, laidLooks := .later }
def ServiceTextsCardSaid : Prop := Claim7.holds Tryz.pinned (.plain (OpenSpec.ofChange serviceTextsSpec)) serviceTextsCard

/-- THE TIED CARD OF 'splaw2.ActTexts'. -/
def actTextsCard : Claim7 := { stood := { row := actTextsRow, standIns := [], harness := (true, "5416c4255a766d38dd56fdb530a0a00af9d0cddcce6634c2414d638128c46185"), looks := true }, kinds := [], alts := [], laidByText := true, laidKinds := [.data, .data, .data, .data, .sentinel, .sentinel, .pinned], laidTests := true, laidLooks := .later }
def ActTextsCardSaid : Prop := Claim7.holds Tryz.pinned (.plain (OpenSpec.ofChange actTextsSpec)) actTextsCard

/-- THE TIED CARD OF 'spkeep2.StoresAddUp'. -/
def storesAddUpCard : Claim7 := { stood := { row := storesAddUpRow, standIns := [], harness := (true, "5416c4255a766d38dd56fdb530a0a00af9d0cddcce6634c2414d638128c46185"), looks := true }, kinds := [], alts := [], laidByText := true, laidKinds := [.data, .data, .data, .data, .sentinel, .sentinel, .pinned], laidTests := true, laidLooks := .later }
def StoresAddUpCardSaid : Prop := Claim7.holds Tryz.pinned (.plain (OpenSpec.ofChange storesAddUpSpec)) storesAddUpCard

/-- THE SECOND FORM's CARD OF 'splaw2.EventTexts'. -/
def eventTextsUptoCard : Claim7 := { stood := { row := eventTextsUptoRow, standIns := [], harness := (true, "5416c4255a766d38dd56fdb530a0a00af9d0cddcce6634c2414d638128c46185"), looks := true }, kinds := [], alts := [], laidByText := true, laidKinds := [.data, .data, .data, .data, .sentinel, .sentinel, .pinned], laidTests := true, laidLooks := .later }
def EventTextsUptoCardSaid : Prop := Claim7.holds Tryz.pinned (.plain (OpenSpec.upto eventTextsSpec)) eventTextsUptoCard

/-- THE SECOND FORM's CARD OF 'splaw2.DuctTexts'. -/
def ductTextsUptoCard : Claim7 := { stood := { row := ductTextsUptoRow, standIns := [], harness := (true, "5416c4255a766d38dd56fdb530a0a00af9d0cddcce6634c2414d638128c46185"), looks := true }, kinds := [], alts := [], laidByText := true, laidKinds := [.data, .data, .data, .data, .sentinel, .sentinel, .pinned], laidTests := true, laidLooks := .later }
def DuctTextsUptoCardSaid : Prop := Claim7.holds Tryz.pinned (.plain (OpenSpec.upto ductTextsSpec)) ductTextsUptoCard

/-- THE SECOND FORM's CARD OF 'splaw2.ServiceTexts'. -/
def serviceTextsUptoCard : Claim7 := { stood := { row := serviceTextsUptoRow, standIns := [], harness := (true, "5416c4255a766d38dd56fdb530a0a00af9d0cddcce6634c2414d638128c46185"), looks := true }, kinds := [], alts := [], laidByText := true, laidKinds := [.data, .data, .data, .data, .sentinel, .sentinel, .pinned], laidTests := true, laidLooks := .later }
def ServiceTextsUptoCardSaid : Prop := Claim7.holds Tryz.pinned (.plain (OpenSpec.upto serviceTextsSpec)) serviceTextsUptoCard

/-- THE SECOND FORM's CARD OF 'splaw2.ActTexts'. -/
def actTextsUptoCard : Claim7 := { stood := { row := actTextsUptoRow, standIns := [], harness := (true, "5416c4255a766d38dd56fdb530a0a00af9d0cddcce6634c2414d638128c46185"), looks := true }, kinds := [], alts := [], laidByText := true, laidKinds := [.data, .data, .data, .data, .sentinel, .sentinel, .pinned], laidTests := true, laidLooks := .later }
def ActTextsUptoCardSaid : Prop := Claim7.holds Tryz.pinned (.plain (OpenSpec.upto actTextsSpec)) actTextsUptoCard

/-- THE SECOND FORM's CARD OF 'spkeep2.StoresAddUp'. -/
def storesAddUpUptoCard : Claim7 := { stood := { row := storesAddUpUptoRow, standIns := [], harness := (true, "5416c4255a766d38dd56fdb530a0a00af9d0cddcce6634c2414d638128c46185"), looks := true }, kinds := [], alts := [], laidByText := true, laidKinds := [.data, .data, .data, .data, .sentinel, .sentinel, .pinned], laidTests := true, laidLooks := .later }
def StoresAddUpUptoCardSaid : Prop := Claim7.holds Tryz.pinned (.plain (OpenSpec.upto storesAddUpSpec)) storesAddUpUptoCard
end Rows
end Go.Proofs.YtgomipfameinoaaGreatDoor
