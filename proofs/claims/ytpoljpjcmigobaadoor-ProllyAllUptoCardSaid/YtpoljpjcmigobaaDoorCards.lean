/-
  DERIVED. GIVEN WITH THE SEED: THE CARDS: each row of YtpoljpjcmigobaaDoorRows.lean that lists a variable, with what it lists TIED to the program's text (the seventh form; the later family's looks); each row that meets fmt, with fmt's text TOLD by the authors' own Lean function (tested against real Go, not proved from fmt's source: count such statements apart). THE CARD IS WHAT COUNTS. Prove the row's statement (the work); the ties are given (YtpoljpjcmigobaaDoorTie.lean); close each card by the builder's one call (the guide's Derived/Test/ToyasCard.lean, 'card_holds'). Laid BY PROGRAM, IN A SANDBOX (cutbox-door.mjs). By AI agents, Wed Nov 11 2026. No macro, syntax, notation, axiom, sorry.
-/
import Derived.Test.YtpoljpjcmigobaaDoorRows
import GoSem.ClaimSeven
namespace Go.Proofs.YtpoljpjcmigobaaDoor
namespace Rows

/-- THE TIED CARD OF 'tussocklaw12.ProllyBuilds'. -/
def prollyBuildsCard : Claim7 := { stood := { row := prollyBuildsRow, standIns := [], harness := (true, "f17e5eafdb311eca62e479750b4b33c19466858ca3e45d228ae2553e0b556a20"), looks := false }, kinds := [], alts := [], laidByText := true, laidKinds := [.data], laidTests := true, laidLooks := .later }
def ProllyBuildsCardSaid : Prop := Claim7.holds Tryd.pinned (.plain (OpenSpec.ofChange prollyBuildsSpec)) prollyBuildsCard

/-- THE TIED CARD OF 'tussocklaw12.ProllyFinds'. -/
def prollyFindsCard : Claim7 := { stood := { row := prollyFindsRow, standIns := [], harness := (true, "f17e5eafdb311eca62e479750b4b33c19466858ca3e45d228ae2553e0b556a20"), looks := false }, kinds := [], alts := [], laidByText := true, laidKinds := [.data], laidTests := true, laidLooks := .later }
def ProllyFindsCardSaid : Prop := Claim7.holds Tryd.pinned (.plain (OpenSpec.ofChange prollyFindsSpec)) prollyFindsCard

/-- THE TIED CARD OF 'tussocklaw12.ProllyAll'. -/
def prollyAllCard : Claim7 := { stood := { row := prollyAllRow, standIns := [], harness := (true, "f17e5eafdb311eca62e479750b4b33c19466858ca3e45d228ae2553e0b556a20"), looks := false }, kinds := [], alts := [], laidByText := true, laidKinds := [.data], laidTests := true, laidLooks := .later }
def ProllyAllCardSaid : Prop := Claim7.holds Tryd.pinned (.plain (OpenSpec.ofChange prollyAllSpec)) prollyAllCard

/-- THE TIED CARD OF 'tussocklaw12.ProllyLists'. -/
def prollyListsCard : Claim7 := { stood := { row := prollyListsRow, standIns := [], harness := (true, "f17e5eafdb311eca62e479750b4b33c19466858ca3e45d228ae2553e0b556a20"), looks := false }, kinds := [], alts := [], laidByText := true, laidKinds := [.data], laidTests := true, laidLooks := .later }
def ProllyListsCardSaid : Prop := Claim7.holds Tryd.pinned (.plain (OpenSpec.ofChange prollyListsSpec)) prollyListsCard

/-- THE SECOND FORM's CARD OF 'tussocklaw12.ProllyBuilds'. -/
def prollyBuildsUptoCard : Claim7 := { stood := { row := prollyBuildsUptoRow, standIns := [], harness := (true, "f17e5eafdb311eca62e479750b4b33c19466858ca3e45d228ae2553e0b556a20"), looks := false }, kinds := [], alts := [], laidByText := true, laidKinds := [.data], laidTests := true, laidLooks := .later }
def ProllyBuildsUptoCardSaid : Prop := Claim7.holds Tryd.pinned (.plain (OpenSpec.upto prollyBuildsSpec)) prollyBuildsUptoCard

/-- THE SECOND FORM's CARD OF 'tussocklaw12.ProllyFinds'. -/
def prollyFindsUptoCard : Claim7 := { stood := { row := prollyFindsUptoRow, standIns := [], harness := (true, "f17e5eafdb311eca62e479750b4b33c19466858ca3e45d228ae2553e0b556a20"), looks := false }, kinds := [], alts := [], laidByText := true, laidKinds := [.data], laidTests := true, laidLooks := .later }
def ProllyFindsUptoCardSaid : Prop := Claim7.holds Tryd.pinned (.plain (OpenSpec.upto prollyFindsSpec)) prollyFindsUptoCard

/-- THE SECOND FORM's CARD OF 'tussocklaw12.ProllyAll'. -/
def prollyAllUptoCard : Claim7 := { stood := { row := prollyAllUptoRow, standIns := [], harness := (true, "f17e5eafdb311eca62e479750b4b33c19466858ca3e45d228ae2553e0b556a20"), looks := false }, kinds := [], alts := [], laidByText := true, laidKinds := [.data], laidTests := true, laidLooks := .later }
def ProllyAllUptoCardSaid : Prop := Claim7.holds Tryd.pinned (.plain (OpenSpec.upto prollyAllSpec)) prollyAllUptoCard

/-- THE SECOND FORM's CARD OF 'tussocklaw12.ProllyLists'. -/
def prollyListsUptoCard : Claim7 := { stood := { row := prollyListsUptoRow, standIns := [], harness := (true, "f17e5eafdb311eca62e479750b4b33c19466858ca3e45d228ae2553e0b556a20"), looks := false }, kinds := [], alts := [], laidByText := true, laidKinds := [.data], laidTests := true, laidLooks := .later }
def ProllyListsUptoCardSaid : Prop := Claim7.holds Tryd.pinned (.plain (OpenSpec.upto prollyListsSpec)) prollyListsUptoCard
end Rows
end Go.Proofs.YtpoljpjcmigobaaDoor
