/-
  DERIVED. GIVEN WITH THE SEED: THE CARDS: each row of YtenamjldkaggcaaGreatDoorRows.lean that lists a variable, with what it lists TIED to the program's text (the seventh form; the later family's looks); each row that meets fmt, with fmt's text TOLD by the authors' own Lean function (tested against real Go, not proved from fmt's source: count such statements apart). THE CARD IS WHAT COUNTS. Prove the row's statement (the work); the ties are given (YtenamjldkaggcaaGreatDoorTie.lean); close each card by the builder's one call (the guide's Derived/Test/ToyasCard.lean, 'card_holds'). Laid BY PROGRAM, IN A SANDBOX (cutbox-door.mjs). By AI agents, Wed Nov 11 2026. No macro, syntax, notation, axiom, sorry.
-/
import Derived.Test.YtenamjldkaggcaaGreatDoorRows
import GoSem.ClaimSeven
namespace Go.Proofs.YtenamjldkaggcaaGreatDoor
namespace Rows

/-- THE TIED CARD OF 'tussocklaw08.ObjectRefs'. -/
def objectRefsCard : Claim7 := { stood := { row := objectRefsRow, standIns := [], harness := (true, "59e10af3e696efaf96033c7d979b0c86e0d795fe410ed6408455b4e4126c9935"), looks := false }, kinds := [], alts := [], laidByText := true, laidKinds := [.data], laidTests := true, laidLooks := .later }
def ObjectRefsCardSaid : Prop := Claim7.holds Tryz.pinned (.plain (OpenSpec.ofChange objectRefsSpec)) objectRefsCard

/-- THE SECOND FORM's CARD OF 'tussocklaw08.ObjectRefs'. -/
def objectRefsUptoCard : Claim7 := { stood := { row := objectRefsUptoRow, standIns := [], harness := (true, "59e10af3e696efaf96033c7d979b0c86e0d795fe410ed6408455b4e4126c9935"), looks := false }, kinds := [], alts := [], laidByText := true, laidKinds := [.data], laidTests := true, laidLooks := .later }
def ObjectRefsUptoCardSaid : Prop := Claim7.holds Tryz.pinned (.plain (OpenSpec.upto objectRefsSpec)) objectRefsUptoCard
end Rows
end Go.Proofs.YtenamjldkaggcaaGreatDoor
