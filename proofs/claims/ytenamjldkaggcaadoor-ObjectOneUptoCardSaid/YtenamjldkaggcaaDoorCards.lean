/-
  DERIVED. GIVEN WITH THE SEED: THE CARDS: each row of YtenamjldkaggcaaDoorRows.lean that lists a variable, with what it lists TIED to the program's text (the seventh form; the later family's looks); each row that meets fmt, with fmt's text TOLD by the authors' own Lean function (tested against real Go, not proved from fmt's source: count such statements apart). THE CARD IS WHAT COUNTS. Prove the row's statement (the work); the ties are given (YtenamjldkaggcaaDoorTie.lean); close each card by the builder's one call (the guide's Derived/Test/ToyasCard.lean, 'card_holds'). Laid BY PROGRAM, IN A SANDBOX (cutbox-door.mjs). By AI agents, Wed Nov 11 2026. No macro, syntax, notation, axiom, sorry.
-/
import Derived.Test.YtenamjldkaggcaaDoorRows
import GoSem.ClaimSeven
namespace Go.Proofs.YtenamjldkaggcaaDoor
namespace Rows

/-- THE TIED CARD OF 'tussocklaw08.ObjectOne'. -/
def objectOneCard : Claim7 := { stood := { row := objectOneRow, standIns := [], harness := (true, "ef196398792b635e9e2d7e04cca55974a998eb450877f27493ce58d864612560"), looks := false }, kinds := [], alts := [], laidByText := true, laidKinds := [.data], laidTests := true, laidLooks := .later }
def ObjectOneCardSaid : Prop := Claim7.holds Tryd.pinned (.plain (OpenSpec.ofChange objectOneSpec)) objectOneCard

/-- THE TIED CARD OF 'tussocklaw08.ObjectMaps'. -/
def objectMapsCard : Claim7 := { stood := { row := objectMapsRow, standIns := [], harness := (true, "ef196398792b635e9e2d7e04cca55974a998eb450877f27493ce58d864612560"), looks := false }, kinds := [], alts := [], laidByText := true, laidKinds := [.data], laidTests := true, laidLooks := .later }
def ObjectMapsCardSaid : Prop := Claim7.holds Tryd.pinned (.plain (OpenSpec.ofChange objectMapsSpec)) objectMapsCard

/-- THE TIED CARD OF 'tussocklaw08.ObjectCommits'. -/
def objectCommitsCard : Claim7 := { stood := { row := objectCommitsRow, standIns := [], harness := (true, "ef196398792b635e9e2d7e04cca55974a998eb450877f27493ce58d864612560"), looks := false }, kinds := [], alts := [], laidByText := true, laidKinds := [.data], laidTests := true, laidLooks := .later }
def ObjectCommitsCardSaid : Prop := Claim7.holds Tryd.pinned (.plain (OpenSpec.ofChange objectCommitsSpec)) objectCommitsCard

/-- THE TIED CARD OF 'tussocklaw08.ObjectNodes'. -/
def objectNodesCard : Claim7 := { stood := { row := objectNodesRow, standIns := [], harness := (true, "ef196398792b635e9e2d7e04cca55974a998eb450877f27493ce58d864612560"), looks := false }, kinds := [], alts := [], laidByText := true, laidKinds := [.data], laidTests := true, laidLooks := .later }
def ObjectNodesCardSaid : Prop := Claim7.holds Tryd.pinned (.plain (OpenSpec.ofChange objectNodesSpec)) objectNodesCard

/-- THE TIED CARD OF 'tussocklaw08.ObjectBack'. -/
def objectBackCard : Claim7 := { stood := { row := objectBackRow, standIns := [], harness := (true, "ef196398792b635e9e2d7e04cca55974a998eb450877f27493ce58d864612560"), looks := false }, kinds := [], alts := [], laidByText := true, laidKinds := [.data], laidTests := true, laidLooks := .later }
def ObjectBackCardSaid : Prop := Claim7.holds Tryd.pinned (.plain (OpenSpec.ofChange objectBackSpec)) objectBackCard

/-- THE TIED CARD OF 'tussocklaw08.ObjectEntries'. -/
def objectEntriesCard : Claim7 := { stood := { row := objectEntriesRow, standIns := [], harness := (true, "ef196398792b635e9e2d7e04cca55974a998eb450877f27493ce58d864612560"), looks := false }, kinds := [], alts := [], laidByText := true, laidKinds := [.data], laidTests := true, laidLooks := .later }
def ObjectEntriesCardSaid : Prop := Claim7.holds Tryd.pinned (.plain (OpenSpec.ofChange objectEntriesSpec)) objectEntriesCard

/-- THE SECOND FORM's CARD OF 'tussocklaw08.ObjectOne'. -/
def objectOneUptoCard : Claim7 := { stood := { row := objectOneUptoRow, standIns := [], harness := (true, "ef196398792b635e9e2d7e04cca55974a998eb450877f27493ce58d864612560"), looks := false }, kinds := [], alts := [], laidByText := true, laidKinds := [.data], laidTests := true, laidLooks := .later }
def ObjectOneUptoCardSaid : Prop := Claim7.holds Tryd.pinned (.plain (OpenSpec.upto objectOneSpec)) objectOneUptoCard

/-- THE SECOND FORM's CARD OF 'tussocklaw08.ObjectMaps'. -/
def objectMapsUptoCard : Claim7 := { stood := { row := objectMapsUptoRow, standIns := [], harness := (true, "ef196398792b635e9e2d7e04cca55974a998eb450877f27493ce58d864612560"), looks := false }, kinds := [], alts := [], laidByText := true, laidKinds := [.data], laidTests := true, laidLooks := .later }
def ObjectMapsUptoCardSaid : Prop := Claim7.holds Tryd.pinned (.plain (OpenSpec.upto objectMapsSpec)) objectMapsUptoCard

/-- THE SECOND FORM's CARD OF 'tussocklaw08.ObjectCommits'. -/
def objectCommitsUptoCard : Claim7 := { stood := { row := objectCommitsUptoRow, standIns := [], harness := (true, "ef196398792b635e9e2d7e04cca55974a998eb450877f27493ce58d864612560"), looks := false }, kinds := [], alts := [], laidByText := true, laidKinds := [.data], laidTests := true, laidLooks := .later }
def ObjectCommitsUptoCardSaid : Prop := Claim7.holds Tryd.pinned (.plain (OpenSpec.upto objectCommitsSpec)) objectCommitsUptoCard

/-- THE SECOND FORM's CARD OF 'tussocklaw08.ObjectNodes'. -/
def objectNodesUptoCard : Claim7 := { stood := { row := objectNodesUptoRow, standIns := [], harness := (true, "ef196398792b635e9e2d7e04cca55974a998eb450877f27493ce58d864612560"), looks := false }, kinds := [], alts := [], laidByText := true, laidKinds := [.data], laidTests := true, laidLooks := .later }
def ObjectNodesUptoCardSaid : Prop := Claim7.holds Tryd.pinned (.plain (OpenSpec.upto objectNodesSpec)) objectNodesUptoCard

/-- THE SECOND FORM's CARD OF 'tussocklaw08.ObjectBack'. -/
def objectBackUptoCard : Claim7 := { stood := { row := objectBackUptoRow, standIns := [], harness := (true, "ef196398792b635e9e2d7e04cca55974a998eb450877f27493ce58d864612560"), looks := false }, kinds := [], alts := [], laidByText := true, laidKinds := [.data], laidTests := true, laidLooks := .later }
def ObjectBackUptoCardSaid : Prop := Claim7.holds Tryd.pinned (.plain (OpenSpec.upto objectBackSpec)) objectBackUptoCard

/-- THE SECOND FORM's CARD OF 'tussocklaw08.ObjectEntries'. -/
def objectEntriesUptoCard : Claim7 := { stood := { row := objectEntriesUptoRow, standIns := [], harness := (true, "ef196398792b635e9e2d7e04cca55974a998eb450877f27493ce58d864612560"), looks := false }, kinds := [], alts := [], laidByText := true, laidKinds := [.data], laidTests := true, laidLooks := .later }
def ObjectEntriesUptoCardSaid : Prop := Claim7.holds Tryd.pinned (.plain (OpenSpec.upto objectEntriesSpec)) objectEntriesUptoCard
end Rows
end Go.Proofs.YtenamjldkaggcaaDoor
