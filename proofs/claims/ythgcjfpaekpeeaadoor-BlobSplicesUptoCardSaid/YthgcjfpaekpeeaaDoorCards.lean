/-
  DERIVED. GIVEN WITH THE SEED: THE CARDS: each row of YthgcjfpaekpeeaaDoorRows.lean that lists a variable, with what it lists TIED to the program's text (the seventh form; the later family's looks); each row that meets fmt, with fmt's text TOLD by the authors' own Lean function (tested against real Go, not proved from fmt's source: count such statements apart). THE CARD IS WHAT COUNTS. Prove the row's statement (the work); the ties are given (YthgcjfpaekpeeaaDoorTie.lean); close each card by the builder's one call (the guide's Derived/Test/ToyasCard.lean, 'card_holds'). Laid BY PROGRAM, IN A SANDBOX (cutbox-door.mjs). By AI agents, Wed Nov 11 2026. No macro, syntax, notation, axiom, sorry.
-/
import Derived.Test.YthgcjfpaekpeeaaDoorRows
import GoSem.ClaimSeven
namespace Go.Proofs.YthgcjfpaekpeeaaDoor
namespace Rows

/-- THE TIED CARD OF 'tussocklaw10.BlobBuilds'. -/
def blobBuildsCard : Claim7 := { stood := { row := blobBuildsRow, standIns := [], harness := (true, "41eae272e355aa18759e488bcb155937f58d32579347b22be8207f6a193f6e08"), looks := false }, kinds := [], alts := [], laidByText := true, laidKinds := [.data], laidTests := true, laidLooks := .later }
def BlobBuildsCardSaid : Prop := Claim7.holds Tryd.pinned (.plain (OpenSpec.ofChange blobBuildsSpec)) blobBuildsCard

/-- THE TIED CARD OF 'tussocklaw10.BlobReads'. -/
def blobReadsCard : Claim7 := { stood := { row := blobReadsRow, standIns := [], harness := (true, "41eae272e355aa18759e488bcb155937f58d32579347b22be8207f6a193f6e08"), looks := false }, kinds := [], alts := [], laidByText := true, laidKinds := [.data], laidTests := true, laidLooks := .later }
def BlobReadsCardSaid : Prop := Claim7.holds Tryd.pinned (.plain (OpenSpec.ofChange blobReadsSpec)) blobReadsCard

/-- THE TIED CARD OF 'tussocklaw10.BlobSplices'. -/
def blobSplicesCard : Claim7 := { stood := { row := blobSplicesRow, standIns := [], harness := (true, "41eae272e355aa18759e488bcb155937f58d32579347b22be8207f6a193f6e08"), looks := false }, kinds := [], alts := [], laidByText := true, laidKinds := [.data], laidTests := true, laidLooks := .later }
def BlobSplicesCardSaid : Prop := Claim7.holds Tryd.pinned (.plain (OpenSpec.ofChange blobSplicesSpec)) blobSplicesCard

/-- THE TIED CARD OF 'tussocklaw10.BlobChunks'. -/
def blobChunksCard : Claim7 := { stood := { row := blobChunksRow, standIns := [], harness := (true, "41eae272e355aa18759e488bcb155937f58d32579347b22be8207f6a193f6e08"), looks := false }, kinds := [], alts := [], laidByText := true, laidKinds := [.data], laidTests := true, laidLooks := .later }
def BlobChunksCardSaid : Prop := Claim7.holds Tryd.pinned (.plain (OpenSpec.ofChange blobChunksSpec)) blobChunksCard

/-- THE SECOND FORM's CARD OF 'tussocklaw10.BlobBuilds'. -/
def blobBuildsUptoCard : Claim7 := { stood := { row := blobBuildsUptoRow, standIns := [], harness := (true, "41eae272e355aa18759e488bcb155937f58d32579347b22be8207f6a193f6e08"), looks := false }, kinds := [], alts := [], laidByText := true, laidKinds := [.data], laidTests := true, laidLooks := .later }
def BlobBuildsUptoCardSaid : Prop := Claim7.holds Tryd.pinned (.plain (OpenSpec.upto blobBuildsSpec)) blobBuildsUptoCard

/-- THE SECOND FORM's CARD OF 'tussocklaw10.BlobReads'. -/
def blobReadsUptoCard : Claim7 := { stood := { row := blobReadsUptoRow, standIns := [], harness := (true, "41eae272e355aa18759e488bcb155937f58d32579347b22be8207f6a193f6e08"), looks := false }, kinds := [], alts := [], laidByText := true, laidKinds := [.data], laidTests := true, laidLooks := .later }
def BlobReadsUptoCardSaid : Prop := Claim7.holds Tryd.pinned (.plain (OpenSpec.upto blobReadsSpec)) blobReadsUptoCard

/-- THE SECOND FORM's CARD OF 'tussocklaw10.BlobSplices'. -/
def blobSplicesUptoCard : Claim7 := { stood := { row := blobSplicesUptoRow, standIns := [], harness := (true, "41eae272e355aa18759e488bcb155937f58d32579347b22be8207f6a193f6e08"), looks := false }, kinds := [], alts := [], laidByText := true, laidKinds := [.data], laidTests := true, laidLooks := .later }
def BlobSplicesUptoCardSaid : Prop := Claim7.holds Tryd.pinned (.plain (OpenSpec.upto blobSplicesSpec)) blobSplicesUptoCard

/-- THE SECOND FORM's CARD OF 'tussocklaw10.BlobChunks'. -/
def blobChunksUptoCard : Claim7 := { stood := { row := blobChunksUptoRow, standIns := [], harness := (true, "41eae272e355aa18759e488bcb155937f58d32579347b22be8207f6a193f6e08"), looks := false }, kinds := [], alts := [], laidByText := true, laidKinds := [.data], laidTests := true, laidLooks := .later }
def BlobChunksUptoCardSaid : Prop := Claim7.holds Tryd.pinned (.plain (OpenSpec.upto blobChunksSpec)) blobChunksUptoCard
end Rows
end Go.Proofs.YthgcjfpaekpeeaaDoor
