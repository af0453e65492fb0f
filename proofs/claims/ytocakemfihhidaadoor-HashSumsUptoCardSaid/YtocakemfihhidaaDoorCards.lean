/-
  DERIVED. GIVEN WITH THE SEED: THE CARDS: each row of YtocakemfihhidaaDoorRows.lean that lists a variable, with what it lists TIED to the program's text (the seventh form; the later family's looks); each row that meets fmt, with fmt's text TOLD by the authors' own Lean function (tested against real Go, not proved from fmt's source: count such statements apart). THE CARD IS WHAT COUNTS. Prove the row's statement (the work); the ties are given (YtocakemfihhidaaDoorTie.lean); close each card by the builder's one call (the guide's Derived/Test/ToyasCard.lean, 'card_holds'). Laid BY PROGRAM, IN A SANDBOX (cutbox-door.mjs). By AI agents, Wed Nov 11 2026. No macro, syntax, notation, axiom, sorry.
-/
import Derived.Test.YtocakemfihhidaaDoorRows
import GoSem.ClaimSeven
namespace Go.Proofs.YtocakemfihhidaaDoor
namespace Rows

/-- THE TIED CARD OF 'tussocklaw02.HashSums'. -/
def hashSumsCard : Claim7 := { stood := { row := hashSumsRow, standIns := [], harness := (true, "a4eace64a6026ad8f312114d9ba0f339dbfb3b6f3dff5c2c79c1cd353f41742f"), looks := false }, kinds := [], alts := [], laidByText := true, laidKinds := [.data], laidTests := true, laidLooks := .later }
def HashSumsCardSaid : Prop := Claim7.holds Tryd.pinned (.plain (OpenSpec.ofChange hashSumsSpec)) hashSumsCard

/-- THE TIED CARD OF 'tussocklaw02.HashParts'. -/
def hashPartsCard : Claim7 := { stood := { row := hashPartsRow, standIns := [], harness := (true, "a4eace64a6026ad8f312114d9ba0f339dbfb3b6f3dff5c2c79c1cd353f41742f"), looks := false }, kinds := [], alts := [], laidByText := true, laidKinds := [.data], laidTests := true, laidLooks := .later }
def HashPartsCardSaid : Prop := Claim7.holds Tryd.pinned (.plain (OpenSpec.ofChange hashPartsSpec)) hashPartsCard

/-- THE TIED CARD OF 'tussocklaw02.HashHex'. -/
def hashHexCard : Claim7 := { stood := { row := hashHexRow, standIns := [], harness := (true, "a4eace64a6026ad8f312114d9ba0f339dbfb3b6f3dff5c2c79c1cd353f41742f"), looks := false }, kinds := [], alts := [], laidByText := true, laidKinds := [.data], laidTests := true, laidLooks := .later }
def HashHexCardSaid : Prop := Claim7.holds Tryd.pinned (.plain (OpenSpec.ofChange hashHexSpec)) hashHexCard

/-- THE TIED CARD OF 'tussocklaw02.HashBack'. -/
def hashBackCard : Claim7 := { stood := { row := hashBackRow, standIns := [], harness := (true, "a4eace64a6026ad8f312114d9ba0f339dbfb3b6f3dff5c2c79c1cd353f41742f"), looks := false }, kinds := [], alts := [], laidByText := true, laidKinds := [.data], laidTests := true, laidLooks := .later }
def HashBackCardSaid : Prop := Claim7.holds Tryd.pinned (.plain (OpenSpec.ofChange hashBackSpec)) hashBackCard

/-- THE SECOND FORM's CARD OF 'tussocklaw02.HashSums'. -/
def hashSumsUptoCard : Claim7 := { stood := { row := hashSumsUptoRow, standIns := [], harness := (true, "a4eace64a6026ad8f312114d9ba0f339dbfb3b6f3dff5c2c79c1cd353f41742f"), looks := false }, kinds := [], alts := [], laidByText := true, laidKinds := [.data], laidTests := true, laidLooks := .later }
def HashSumsUptoCardSaid : Prop := Claim7.holds Tryd.pinned (.plain (OpenSpec.upto hashSumsSpec)) hashSumsUptoCard

/-- THE SECOND FORM's CARD OF 'tussocklaw02.HashParts'. -/
def hashPartsUptoCard : Claim7 := { stood := { row := hashPartsUptoRow, standIns := [], harness := (true, "a4eace64a6026ad8f312114d9ba0f339dbfb3b6f3dff5c2c79c1cd353f41742f"), looks := false }, kinds := [], alts := [], laidByText := true, laidKinds := [.data], laidTests := true, laidLooks := .later }
def HashPartsUptoCardSaid : Prop := Claim7.holds Tryd.pinned (.plain (OpenSpec.upto hashPartsSpec)) hashPartsUptoCard

/-- THE SECOND FORM's CARD OF 'tussocklaw02.HashHex'. -/
def hashHexUptoCard : Claim7 := { stood := { row := hashHexUptoRow, standIns := [], harness := (true, "a4eace64a6026ad8f312114d9ba0f339dbfb3b6f3dff5c2c79c1cd353f41742f"), looks := false }, kinds := [], alts := [], laidByText := true, laidKinds := [.data], laidTests := true, laidLooks := .later }
def HashHexUptoCardSaid : Prop := Claim7.holds Tryd.pinned (.plain (OpenSpec.upto hashHexSpec)) hashHexUptoCard

/-- THE SECOND FORM's CARD OF 'tussocklaw02.HashBack'. -/
def hashBackUptoCard : Claim7 := { stood := { row := hashBackUptoRow, standIns := [], harness := (true, "a4eace64a6026ad8f312114d9ba0f339dbfb3b6f3dff5c2c79c1cd353f41742f"), looks := false }, kinds := [], alts := [], laidByText := true, laidKinds := [.data], laidTests := true, laidLooks := .later }
def HashBackUptoCardSaid : Prop := Claim7.holds Tryd.pinned (.plain (OpenSpec.upto hashBackSpec)) hashBackUptoCard
end Rows
end Go.Proofs.YtocakemfihhidaaDoor
