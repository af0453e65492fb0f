/-
  No cell of these rows narrows 'for every input' (looked for: loops, veiled, ifaces, maps, wideKeys, modest, calm, conditions, laid).
  DERIVED. THE GIVEN ROWS OF THIS SEAT. 7 by the template 'for every input the law returns true; each argument reads behind the call as it read before'; 0 by the template 'total and deterministic' (their statements: YtjcdekipkpmniaaTotals.lean).
  GIVEN WITH THE SEED: the statements are not yours to turn. If you find one false, say at which input.
  Laid BY PROGRAM, IN A SANDBOX (cutbox-rows.mjs): the forced cells as the released guide's own fill.sh prints them over the translation bbdf845be4bb9bd7… (all of the seat's roots in one cut). By AI agents, Wed Nov 11 2026. No macro, syntax, notation, axiom, sorry.
-/
import Derived.Test.YtjcdekipkpmniaaChecked
import GoSem.Claim
import GoSem.ClaimJoined
import GoSem.ClaimMapViews
import Derived.JoinedTies
import Derived.KernelRfl
namespace Go.Proofs.Ytjcdekipkpmniaa
/- THE CELL 'sum', in the pinned program and in every row, IS THE sha256 OF THE DUMP (.gsa) THAT YtjcdekipkpmniaaProg.lean LOADS. Nothing in Lean hashes anything: it is a label: what it is worth is what the hold of that sum in a sandbox is worth. -/
noncomputable def Try.pinned : Pinned := { name := "ytjcdekipkpmniaa", sum := "bbdf845be4bb9bd73e67082b0cddfca2ea95024ae02e742bfa8f6b147a80df0c", checked := Try.checked }
namespace Rows
def none {H : Type} : Left H := { results := [], args := [] }

/-- 'tussocklaw06.GearCuts': WHATEVER THE INPUT: true; the input reads as it did. -/
def gearCutsSpec : ChangeSpec := { name := "gearCuts", fn := fun _ => fun
  | [d1, d2] => { results := [.lit (.bool true)], args := [d1, d2] }
  | _ => none }
def gearCutsRow : OpenClaim := { program := "ytjcdekipkpmniaa", sum := "bbdf845be4bb9bd73e67082b0cddfca2ea95024ae02e742bfa8f6b147a80df0c", func := "tussock/tussocklaw06.GearCuts", spec := "gearCuts", apart := false }
def GearCutsSaid : Prop := gearCutsRow.holds Try.pinned (OpenSpec.ofChange gearCutsSpec)

/-- ITS FALSE NEIGHBOUR: 'it returns false'. Refute it at one input. -/
def gearCutsWrong : ChangeSpec := { name := "gearCuts", fn := fun _ => fun
  | [d1, d2] => { results := [.lit (.bool false)], args := [d1, d2] }
  | _ => none }
def GearCutsWrongFalsely : Prop := gearCutsRow.holds Try.pinned (OpenSpec.ofChange gearCutsWrong)

/-- 'tussocklaw06.GearSizes': WHATEVER THE INPUT: true; the input reads as it did. -/
def gearSizesSpec : ChangeSpec := { name := "gearSizes", fn := fun _ => fun
  | [d] => { results := [.lit (.bool true)], args := [d] }
  | _ => none }
def gearSizesRow : OpenClaim := { program := "ytjcdekipkpmniaa", sum := "bbdf845be4bb9bd73e67082b0cddfca2ea95024ae02e742bfa8f6b147a80df0c", func := "tussock/tussocklaw06.GearSizes", spec := "gearSizes", apart := false }
def GearSizesSaid : Prop := gearSizesRow.holds Try.pinned (OpenSpec.ofChange gearSizesSpec)

/-- ITS FALSE NEIGHBOUR: 'it returns false'. Refute it at one input. -/
def gearSizesWrong : ChangeSpec := { name := "gearSizes", fn := fun _ => fun
  | [d] => { results := [.lit (.bool false)], args := [d] }
  | _ => none }
def GearSizesWrongFalsely : Prop := gearSizesRow.holds Try.pinned (OpenSpec.ofChange gearSizesWrong)

/-- 'tussocklaw06.GearBehind': WHATEVER THE INPUT: true; the input reads as it did. -/
def gearBehindSpec : ChangeSpec := { name := "gearBehind", fn := fun _ => fun
  | [d1, d2] => { results := [.lit (.bool true)], args := [d1, d2] }
  | _ => none }
def gearBehindRow : OpenClaim := { program := "ytjcdekipkpmniaa", sum := "bbdf845be4bb9bd73e67082b0cddfca2ea95024ae02e742bfa8f6b147a80df0c", func := "tussock/tussocklaw06.GearBehind", spec := "gearBehind", apart := false }
def GearBehindSaid : Prop := gearBehindRow.holds Try.pinned (OpenSpec.ofChange gearBehindSpec)

/-- ITS FALSE NEIGHBOUR: 'it returns false'. Refute it at one input. -/
def gearBehindWrong : ChangeSpec := { name := "gearBehind", fn := fun _ => fun
  | [d1, d2] => { results := [.lit (.bool false)], args := [d1, d2] }
  | _ => none }
def GearBehindWrongFalsely : Prop := gearBehindRow.holds Try.pinned (OpenSpec.ofChange gearBehindWrong)

/-- 'tussocklaw06.GearAlike': WHATEVER THE INPUT: true; the input reads as it did. -/
def gearAlikeSpec : ChangeSpec := { name := "gearAlike", fn := fun _ => fun
  | [d1, d2, d3] => { results := [.lit (.bool true)], args := [d1, d2, d3] }
  | _ => none }
def gearAlikeRow : OpenClaim := { program := "ytjcdekipkpmniaa", sum := "bbdf845be4bb9bd73e67082b0cddfca2ea95024ae02e742bfa8f6b147a80df0c", func := "tussock/tussocklaw06.GearAlike", spec := "gearAlike", apart := false }
def GearAlikeSaid : Prop := gearAlikeRow.holds Try.pinned (OpenSpec.ofChange gearAlikeSpec)

/-- ITS FALSE NEIGHBOUR: 'it returns false'. Refute it at one input. -/
def gearAlikeWrong : ChangeSpec := { name := "gearAlike", fn := fun _ => fun
  | [d1, d2, d3] => { results := [.lit (.bool false)], args := [d1, d2, d3] }
  | _ => none }
def GearAlikeWrongFalsely : Prop := gearAlikeRow.holds Try.pinned (OpenSpec.ofChange gearAlikeWrong)

/-- 'tussocklaw06.GearNone': WHATEVER THE INPUT: true; the input reads as it did. -/
def gearNoneSpec : ChangeSpec := { name := "gearNone", fn := fun _ => fun
  | [d] => { results := [.lit (.bool true)], args := [d] }
  | _ => none }
def gearNoneRow : OpenClaim := { program := "ytjcdekipkpmniaa", sum := "bbdf845be4bb9bd73e67082b0cddfca2ea95024ae02e742bfa8f6b147a80df0c", func := "tussock/tussocklaw06.GearNone", spec := "gearNone", inPlace := ["internal/abi.NoEscape"], apart := false }
def GearNoneSaid : Prop := gearNoneRow.holds Try.pinned (OpenSpec.ofChange gearNoneSpec)

/-- ITS FALSE NEIGHBOUR: 'it returns false'. Refute it at one input. -/
def gearNoneWrong : ChangeSpec := { name := "gearNone", fn := fun _ => fun
  | [d] => { results := [.lit (.bool false)], args := [d] }
  | _ => none }
def GearNoneWrongFalsely : Prop := gearNoneRow.holds Try.pinned (OpenSpec.ofChange gearNoneWrong)

/-- 'tussocklaw06.GearPieces': WHATEVER THE INPUT: true; the input reads as it did. -/
def gearPiecesSpec : ChangeSpec := { name := "gearPieces", fn := fun _ => fun
  | [d1, d2] => { results := [.lit (.bool true)], args := [d1, d2] }
  | _ => none }
def gearPiecesRow : OpenClaim := { program := "ytjcdekipkpmniaa", sum := "bbdf845be4bb9bd73e67082b0cddfca2ea95024ae02e742bfa8f6b147a80df0c", func := "tussock/tussocklaw06.GearPieces", spec := "gearPieces", inPlace := ["internal/abi.NoEscape"], apart := false }
def GearPiecesSaid : Prop := gearPiecesRow.holds Try.pinned (OpenSpec.ofChange gearPiecesSpec)

/-- ITS FALSE NEIGHBOUR: 'it returns false'. Refute it at one input. -/
def gearPiecesWrong : ChangeSpec := { name := "gearPieces", fn := fun _ => fun
  | [d1, d2] => { results := [.lit (.bool false)], args := [d1, d2] }
  | _ => none }
def GearPiecesWrongFalsely : Prop := gearPiecesRow.holds Try.pinned (OpenSpec.ofChange gearPiecesWrong)

/-- 'tussocklaw06.GearTogether': WHATEVER THE INPUT: true; the input reads as it did. -/
def gearTogetherSpec : ChangeSpec := { name := "gearTogether", fn := fun _ => fun
  | [d] => { results := [.lit (.bool true)], args := [d] }
  | _ => none }
def gearTogetherRow : OpenClaim := { program := "ytjcdekipkpmniaa", sum := "bbdf845be4bb9bd73e67082b0cddfca2ea95024ae02e742bfa8f6b147a80df0c", func := "tussock/tussocklaw06.GearTogether", spec := "gearTogether", inPlace := ["internal/abi.NoEscape"], apart := false }
def GearTogetherSaid : Prop := gearTogetherRow.holds Try.pinned (OpenSpec.ofChange gearTogetherSpec)

/-- ITS FALSE NEIGHBOUR: 'it returns false'. Refute it at one input. -/
def gearTogetherWrong : ChangeSpec := { name := "gearTogether", fn := fun _ => fun
  | [d] => { results := [.lit (.bool false)], args := [d] }
  | _ => none }
def GearTogetherWrongFalsely : Prop := gearTogetherRow.holds Try.pinned (OpenSpec.ofChange gearTogetherWrong)

/- THE SECOND FORM. 'bulk': how many values and letters a reading holds, each counted each time it is reached (what is shared counts as often as it is met; a slice's spare places count too). A statement '..UptoSaid' is the law's where the arguments, and the package variables that the reading takes, are together of bulk at most 1048576: NARROWER than '..Said'. Prove '..Said' where nothing that the law and all that it calls make is longer than what came in: it says more and counts as full. Else prove '..UptoSaid'. A law counts once. -/
mutual
def uptoBulk {H : Type} : DataW H → Nat
  | .lit (.string bytes) => bytes.length + 1
  | .lit _ => 1
  | .nil => 1
  | .ptr d => uptoBulk d + 1
  | .slice elems spare => uptoBulkAll elems + uptoBulkAll spare + 1
  | .agg parts => uptoBulkAll parts + 1
  | .iface _ d => uptoBulk d + 1
  | .map entries => uptoBulkEntries entries + 1
  | .held _ => 1
def uptoBulkAll {H : Type} : List (DataW H) → Nat
  | [] => 0
  | d :: r => uptoBulk d + uptoBulkAll r
def uptoBulkEntries {H : Type} : List (Lit × DataW H) → Nat
  | [] => 0
  | x :: r => uptoBulkEntry x + uptoBulkEntries r
def uptoBulkEntry {H : Type} : Lit × DataW H → Nat
  | (.string bytes, d) => bytes.length + uptoBulk d + 1
  | (_, d) => uptoBulk d + 1
 end
def uptoSmall : (H : Type) → List (DataW H) → Bool := fun _ ds => decide (uptoBulkAll ds ≤ 1048576)
def OpenSpec.upto (s : _root_.Go.ChangeSpec) : _root_.Go.OpenSpec := { _root_.Go.OpenSpec.ofChange s with cond := some uptoSmall }

/-- 'tussocklaw06.GearCuts', WHERE WHAT IT READS IS OF BULK AT MOST 1048576: true; the input reads as it did. -/
def gearCutsUptoRow : OpenClaim := { program := "ytjcdekipkpmniaa", sum := "bbdf845be4bb9bd73e67082b0cddfca2ea95024ae02e742bfa8f6b147a80df0c", func := "tussock/tussocklaw06.GearCuts", spec := "gearCuts", apart := false, narrowed := true }
def GearCutsUptoSaid : Prop := gearCutsUptoRow.holds Try.pinned (OpenSpec.upto gearCutsSpec)

/-- 'tussocklaw06.GearSizes', WHERE WHAT IT READS IS OF BULK AT MOST 1048576: true; the input reads as it did. -/
def gearSizesUptoRow : OpenClaim := { program := "ytjcdekipkpmniaa", sum := "bbdf845be4bb9bd73e67082b0cddfca2ea95024ae02e742bfa8f6b147a80df0c", func := "tussock/tussocklaw06.GearSizes", spec := "gearSizes", apart := false, narrowed := true }
def GearSizesUptoSaid : Prop := gearSizesUptoRow.holds Try.pinned (OpenSpec.upto gearSizesSpec)

/-- 'tussocklaw06.GearBehind', WHERE WHAT IT READS IS OF BULK AT MOST 1048576: true; the input reads as it did. -/
def gearBehindUptoRow : OpenClaim := { program := "ytjcdekipkpmniaa", sum := "bbdf845be4bb9bd73e67082b0cddfca2ea95024ae02e742bfa8f6b147a80df0c", func := "tussock/tussocklaw06.GearBehind", spec := "gearBehind", apart := false, narrowed := true }
def GearBehindUptoSaid : Prop := gearBehindUptoRow.holds Try.pinned (OpenSpec.upto gearBehindSpec)

/-- 'tussocklaw06.GearAlike', WHERE WHAT IT READS IS OF BULK AT MOST 1048576: true; the input reads as it did. -/
def gearAlikeUptoRow : OpenClaim := { program := "ytjcdekipkpmniaa", sum := "bbdf845be4bb9bd73e67082b0cddfca2ea95024ae02e742bfa8f6b147a80df0c", func := "tussock/tussocklaw06.GearAlike", spec := "gearAlike", apart := false, narrowed := true }
def GearAlikeUptoSaid : Prop := gearAlikeUptoRow.holds Try.pinned (OpenSpec.upto gearAlikeSpec)

/-- 'tussocklaw06.GearNone', WHERE WHAT IT READS IS OF BULK AT MOST 1048576: true; the input reads as it did. -/
def gearNoneUptoRow : OpenClaim := { program := "ytjcdekipkpmniaa", sum := "bbdf845be4bb9bd73e67082b0cddfca2ea95024ae02e742bfa8f6b147a80df0c", func := "tussock/tussocklaw06.GearNone", spec := "gearNone", inPlace := ["internal/abi.NoEscape"], apart := false, narrowed := true }
def GearNoneUptoSaid : Prop := gearNoneUptoRow.holds Try.pinned (OpenSpec.upto gearNoneSpec)

/-- 'tussocklaw06.GearPieces', WHERE WHAT IT READS IS OF BULK AT MOST 1048576: true; the input reads as it did. -/
def gearPiecesUptoRow : OpenClaim := { program := "ytjcdekipkpmniaa", sum := "bbdf845be4bb9bd73e67082b0cddfca2ea95024ae02e742bfa8f6b147a80df0c", func := "tussock/tussocklaw06.GearPieces", spec := "gearPieces", inPlace := ["internal/abi.NoEscape"], apart := false, narrowed := true }
def GearPiecesUptoSaid : Prop := gearPiecesUptoRow.holds Try.pinned (OpenSpec.upto gearPiecesSpec)

/-- 'tussocklaw06.GearTogether', WHERE WHAT IT READS IS OF BULK AT MOST 1048576: true; the input reads as it did. -/
def gearTogetherUptoRow : OpenClaim := { program := "ytjcdekipkpmniaa", sum := "bbdf845be4bb9bd73e67082b0cddfca2ea95024ae02e742bfa8f6b147a80df0c", func := "tussock/tussocklaw06.GearTogether", spec := "gearTogether", inPlace := ["internal/abi.NoEscape"], apart := false, narrowed := true }
def GearTogetherUptoSaid : Prop := gearTogetherUptoRow.holds Try.pinned (OpenSpec.upto gearTogetherSpec)

end Rows
end Go.Proofs.Ytjcdekipkpmniaa
