/-
  NARROWER THAN 'FOR EVERY INPUT', by the rows' own cells (each row's printed sentence says how): ObjectOne: laid · ObjectMaps: laid · ObjectCommits: laid · ObjectNodes: laid · ObjectBack: laid · ObjectEntries: laid.
  DERIVED. THE GIVEN ROWS OF THIS SEAT. 6 by the template 'for every input the law returns true; each argument reads behind the call as it read before'; 0 by the template 'total and deterministic' (their statements: YtenamjldkaggcaaDoorTotals.lean).
  GIVEN WITH THE SEED: the statements are not yours to turn. If you find one false, say at which input.
  Laid BY PROGRAM, IN A SANDBOX (cutbox-rows.mjs): the forced cells as the released guide's own fill.sh prints them over the translation 050efb6059a8e4ea… (all of the seat's roots in one cut). By AI agents, Wed Nov 11 2026. No macro, syntax, notation, axiom, sorry.
-/
import Derived.Test.YtenamjldkaggcaaDoorChecked
import GoSem.Claim
import GoSem.ClaimJoined
import GoSem.ClaimMapViews
import Derived.JoinedTies
import Derived.KernelRfl
namespace Go.Proofs.YtenamjldkaggcaaDoor
/- THE CELL 'sum', in the pinned program and in every row, IS THE sha256 OF THE DUMP (.gsa) THAT YtenamjldkaggcaaDoorProg.lean LOADS. Nothing in Lean hashes anything: it is a label: what it is worth is what the hold of that sum in a sandbox is worth. -/
noncomputable def Tryd.pinned : Pinned := { name := "ytenamjldkaggcaadoor", sum := "050efb6059a8e4ea19eb9c91de7a96d2919ed9e9794bee56d6e7e6efc3b2a1ee", checked := Tryd.checked }
namespace Rows
def none {H : Type} : Left H := { results := [], args := [] }

/- WHAT THE LISTED PACKAGE-LEVEL VARIABLES READ AS WHEN THE CALL BEGINS. Each datum BY PROGRAM (the guide's laid-datum.mjs) off the statement by which the dump's own 'gosem.cut.vars' lays the variable. In a bare row this is a premise. The card (YtenamjldkaggcaaDoorCards.lean) ties it to the program's text. -/
def laid_tussock_hash_keys {H : Type} : DataW H := .agg [.lit (.int .u32 1116352408), .lit (.int .u32 1899447441), .lit (.int .u32 3049323471), .lit (.int .u32 3921009573), .lit (.int .u32 961987163), .lit (.int .u32 1508970993), .lit (.int .u32 2453635748), .lit (.int .u32 2870763221), .lit (.int .u32 3624381080), .lit (.int .u32 310598401), .lit (.int .u32 607225278), .lit (.int .u32 1426881987), .lit (.int .u32 1925078388), .lit (.int .u32 2162078206), .lit (.int .u32 2614888103), .lit (.int .u32 3248222580), .lit (.int .u32 3835390401), .lit (.int .u32 4022224774), .lit (.int .u32 264347078), .lit (.int .u32 604807628), .lit (.int .u32 770255983), .lit (.int .u32 1249150122), .lit (.int .u32 1555081692), .lit (.int .u32 1996064986), .lit (.int .u32 2554220882), .lit (.int .u32 2821834349), .lit (.int .u32 2952996808), .lit (.int .u32 3210313671), .lit (.int .u32 3336571891), .lit (.int .u32 3584528711), .lit (.int .u32 113926993), .lit (.int .u32 338241895), .lit (.int .u32 666307205), .lit (.int .u32 773529912), .lit (.int .u32 1294757372), .lit (.int .u32 1396182291), .lit (.int .u32 1695183700), .lit (.int .u32 1986661051), .lit (.int .u32 2177026350), .lit (.int .u32 2456956037), .lit (.int .u32 2730485921), .lit (.int .u32 2820302411), .lit (.int .u32 3259730800), .lit (.int .u32 3345764771), .lit (.int .u32 3516065817), .lit (.int .u32 3600352804), .lit (.int .u32 4094571909), .lit (.int .u32 275423344), .lit (.int .u32 430227734), .lit (.int .u32 506948616), .lit (.int .u32 659060556), .lit (.int .u32 883997877), .lit (.int .u32 958139571), .lit (.int .u32 1322822218), .lit (.int .u32 1537002063), .lit (.int .u32 1747873779), .lit (.int .u32 1955562222), .lit (.int .u32 2024104815), .lit (.int .u32 2227730452), .lit (.int .u32 2361852424), .lit (.int .u32 2428436474), .lit (.int .u32 2756734187), .lit (.int .u32 3204031479), .lit (.int .u32 3329325298)]

/-- 'tussocklaw08.ObjectOne': WHATEVER THE INPUT: true; the input reads as it did. -/
def objectOneSpec : ChangeSpec := { name := "objectOne", fn := fun _ => fun
  | [d] => { results := [.lit (.bool true)], args := [d] }
  | _ => none }
def objectOneRow : OpenClaim := { program := "ytenamjldkaggcaadoor", sum := "050efb6059a8e4ea19eb9c91de7a96d2919ed9e9794bee56d6e7e6efc3b2a1ee", func := "tussock/tussocklaw08.ObjectOne", spec := "objectOne", inPlace := ["internal/abi.NoEscape", "internal/bytealg.MakeNoZero", "internal/bytealg.IndexByteString", "internal/bytealg.IndexString"], unfollowed := true, recurses := true, named := ["tussock/hash.keys", "internal/bytealg.MaxLen"], apart := false, laid := [("tussock/hash.keys", laid_tussock_hash_keys)] }
def ObjectOneSaid : Prop := objectOneRow.holds Tryd.pinned (OpenSpec.ofChange objectOneSpec)

/-- ITS FALSE NEIGHBOUR: 'it returns false'. Refute it at one input. -/
def objectOneWrong : ChangeSpec := { name := "objectOne", fn := fun _ => fun
  | [d] => { results := [.lit (.bool false)], args := [d] }
  | _ => none }
def ObjectOneWrongFalsely : Prop := objectOneRow.holds Tryd.pinned (OpenSpec.ofChange objectOneWrong)

/-- 'tussocklaw08.ObjectMaps': WHATEVER THE INPUT: true; the input reads as it did. -/
def objectMapsSpec : ChangeSpec := { name := "objectMaps", fn := fun _ => fun
  | [d1, d2, d3] => { results := [.lit (.bool true)], args := [d1, d2, d3] }
  | _ => none }
def objectMapsRow : OpenClaim := { program := "ytenamjldkaggcaadoor", sum := "050efb6059a8e4ea19eb9c91de7a96d2919ed9e9794bee56d6e7e6efc3b2a1ee", func := "tussock/tussocklaw08.ObjectMaps", spec := "objectMaps", inPlace := ["internal/abi.NoEscape", "internal/bytealg.MakeNoZero"], unfollowed := true, recurses := true, named := ["tussock/hash.keys"], apart := false, laid := [("tussock/hash.keys", laid_tussock_hash_keys)] }
def ObjectMapsSaid : Prop := objectMapsRow.holds Tryd.pinned (OpenSpec.ofChange objectMapsSpec)

/-- ITS FALSE NEIGHBOUR: 'it returns false'. Refute it at one input. -/
def objectMapsWrong : ChangeSpec := { name := "objectMaps", fn := fun _ => fun
  | [d1, d2, d3] => { results := [.lit (.bool false)], args := [d1, d2, d3] }
  | _ => none }
def ObjectMapsWrongFalsely : Prop := objectMapsRow.holds Tryd.pinned (OpenSpec.ofChange objectMapsWrong)

/-- 'tussocklaw08.ObjectCommits': WHATEVER THE INPUT: true; the input reads as it did. -/
def objectCommitsSpec : ChangeSpec := { name := "objectCommits", fn := fun _ => fun
  | [d1, d2] => { results := [.lit (.bool true)], args := [d1, d2] }
  | _ => none }
def objectCommitsRow : OpenClaim := { program := "ytenamjldkaggcaadoor", sum := "050efb6059a8e4ea19eb9c91de7a96d2919ed9e9794bee56d6e7e6efc3b2a1ee", func := "tussock/tussocklaw08.ObjectCommits", spec := "objectCommits", inPlace := ["internal/abi.NoEscape", "internal/bytealg.MakeNoZero"], unfollowed := true, recurses := true, named := ["tussock/hash.keys"], apart := false, laid := [("tussock/hash.keys", laid_tussock_hash_keys)] }
def ObjectCommitsSaid : Prop := objectCommitsRow.holds Tryd.pinned (OpenSpec.ofChange objectCommitsSpec)

/-- ITS FALSE NEIGHBOUR: 'it returns false'. Refute it at one input. -/
def objectCommitsWrong : ChangeSpec := { name := "objectCommits", fn := fun _ => fun
  | [d1, d2] => { results := [.lit (.bool false)], args := [d1, d2] }
  | _ => none }
def ObjectCommitsWrongFalsely : Prop := objectCommitsRow.holds Tryd.pinned (OpenSpec.ofChange objectCommitsWrong)

/-- 'tussocklaw08.ObjectNodes': WHATEVER THE INPUT: true; the input reads as it did. -/
def objectNodesSpec : ChangeSpec := { name := "objectNodes", fn := fun _ => fun
  | [d1, d2, d3] => { results := [.lit (.bool true)], args := [d1, d2, d3] }
  | _ => none }
def objectNodesRow : OpenClaim := { program := "ytenamjldkaggcaadoor", sum := "050efb6059a8e4ea19eb9c91de7a96d2919ed9e9794bee56d6e7e6efc3b2a1ee", func := "tussock/tussocklaw08.ObjectNodes", spec := "objectNodes", inPlace := ["internal/abi.NoEscape", "internal/bytealg.MakeNoZero"], unfollowed := true, recurses := true, named := ["tussock/hash.keys"], apart := false, laid := [("tussock/hash.keys", laid_tussock_hash_keys)] }
def ObjectNodesSaid : Prop := objectNodesRow.holds Tryd.pinned (OpenSpec.ofChange objectNodesSpec)

/-- ITS FALSE NEIGHBOUR: 'it returns false'. Refute it at one input. -/
def objectNodesWrong : ChangeSpec := { name := "objectNodes", fn := fun _ => fun
  | [d1, d2, d3] => { results := [.lit (.bool false)], args := [d1, d2, d3] }
  | _ => none }
def ObjectNodesWrongFalsely : Prop := objectNodesRow.holds Tryd.pinned (OpenSpec.ofChange objectNodesWrong)

/-- 'tussocklaw08.ObjectBack': WHATEVER THE INPUT: true; the input reads as it did. -/
def objectBackSpec : ChangeSpec := { name := "objectBack", fn := fun _ => fun
  | [d1, d2, d3, d4] => { results := [.lit (.bool true)], args := [d1, d2, d3, d4] }
  | _ => none }
def objectBackRow : OpenClaim := { program := "ytenamjldkaggcaadoor", sum := "050efb6059a8e4ea19eb9c91de7a96d2919ed9e9794bee56d6e7e6efc3b2a1ee", func := "tussock/tussocklaw08.ObjectBack", spec := "objectBack", inPlace := ["internal/abi.NoEscape", "internal/bytealg.MakeNoZero"], unfollowed := true, recurses := true, named := ["tussock/hash.keys"], apart := false, laid := [("tussock/hash.keys", laid_tussock_hash_keys)] }
def ObjectBackSaid : Prop := objectBackRow.holds Tryd.pinned (OpenSpec.ofChange objectBackSpec)

/-- ITS FALSE NEIGHBOUR: 'it returns false'. Refute it at one input. -/
def objectBackWrong : ChangeSpec := { name := "objectBack", fn := fun _ => fun
  | [d1, d2, d3, d4] => { results := [.lit (.bool false)], args := [d1, d2, d3, d4] }
  | _ => none }
def ObjectBackWrongFalsely : Prop := objectBackRow.holds Tryd.pinned (OpenSpec.ofChange objectBackWrong)

/-- 'tussocklaw08.ObjectEntries': WHATEVER THE INPUT: true; the input reads as it did. -/
def objectEntriesSpec : ChangeSpec := { name := "objectEntries", fn := fun _ => fun
  | [d1, d2, d3] => { results := [.lit (.bool true)], args := [d1, d2, d3] }
  | _ => none }
def objectEntriesRow : OpenClaim := { program := "ytenamjldkaggcaadoor", sum := "050efb6059a8e4ea19eb9c91de7a96d2919ed9e9794bee56d6e7e6efc3b2a1ee", func := "tussock/tussocklaw08.ObjectEntries", spec := "objectEntries", inPlace := ["internal/abi.NoEscape", "internal/bytealg.MakeNoZero", "internal/bytealg.IndexByteString", "internal/bytealg.IndexString"], unfollowed := true, recurses := true, named := ["tussock/hash.keys", "internal/bytealg.MaxLen"], apart := false, laid := [("tussock/hash.keys", laid_tussock_hash_keys)] }
def ObjectEntriesSaid : Prop := objectEntriesRow.holds Tryd.pinned (OpenSpec.ofChange objectEntriesSpec)

/-- ITS FALSE NEIGHBOUR: 'it returns false'. Refute it at one input. -/
def objectEntriesWrong : ChangeSpec := { name := "objectEntries", fn := fun _ => fun
  | [d1, d2, d3] => { results := [.lit (.bool false)], args := [d1, d2, d3] }
  | _ => none }
def ObjectEntriesWrongFalsely : Prop := objectEntriesRow.holds Tryd.pinned (OpenSpec.ofChange objectEntriesWrong)

/- THE SECOND FORM. 'bulk': how many values and letters a reading holds, each counted each time it is reached (what is shared counts as often as it is met; a slice's spare places count too). A statement '..UptoSaid' is the law's where the arguments, and the package variables that the reading takes, are together of bulk at most 1048576: NARROWER than '..Said'. Prove '..Said' where nothing that the law and all that it calls make is longer than what came in: it says more and counts as full. Else prove '..UptoSaid'. A law counts once. -/
mutual
def uptoBulk {H : Type} : DataW H → Nat
  | .lit (.string bytes) => bytes.length + 1
  | .lit _ => 1
  | .nil => 1
  | .ptr d => uptoBulk d + 1
  | .slice elems spare => uptoBulkAll elems + uptoBulkAll spare + 1
  | .agg parts => uptoBulkAll parts + 1
  | .iface _ d => uptoBulk d + 1
  | .map entries => uptoBulkEntries entries + 1
  | .held _ => 1
def uptoBulkAll {H : Type} : List (DataW H) → Nat
  | [] => 0
  | d :: r => uptoBulk d + uptoBulkAll r
def uptoBulkEntries {H : Type} : List (Lit × DataW H) → Nat
  | [] => 0
  | x :: r => uptoBulkEntry x + uptoBulkEntries r
def uptoBulkEntry {H : Type} : Lit × DataW H → Nat
  | (.string bytes, d) => bytes.length + uptoBulk d + 1
  | (_, d) => uptoBulk d + 1
 end
def uptoSmall : (H : Type) → List (DataW H) → Bool := fun _ ds => decide (uptoBulkAll ds ≤ 1048576)
def OpenSpec.upto (s : _root_.Go.ChangeSpec) : _root_.Go.OpenSpec := { _root_.Go.OpenSpec.ofChange s with cond := some uptoSmall }

/-- 'tussocklaw08.ObjectOne', WHERE WHAT IT READS IS OF BULK AT MOST 1048576: true; the input reads as it did. -/
def objectOneUptoRow : OpenClaim := { program := "ytenamjldkaggcaadoor", sum := "050efb6059a8e4ea19eb9c91de7a96d2919ed9e9794bee56d6e7e6efc3b2a1ee", func := "tussock/tussocklaw08.ObjectOne", spec := "objectOne", inPlace := ["internal/abi.NoEscape", "internal/bytealg.MakeNoZero", "internal/bytealg.IndexByteString", "internal/bytealg.IndexString"], unfollowed := true, recurses := true, named := ["tussock/hash.keys", "internal/bytealg.MaxLen"], apart := false, laid := [("tussock/hash.keys", laid_tussock_hash_keys)], narrowed := true }
def ObjectOneUptoSaid : Prop := objectOneUptoRow.holds Tryd.pinned (OpenSpec.upto objectOneSpec)

/-- 'tussocklaw08.ObjectMaps', WHERE WHAT IT READS IS OF BULK AT MOST 1048576: true; the input reads as it did. -/
def objectMapsUptoRow : OpenClaim := { program := "ytenamjldkaggcaadoor", sum := "050efb6059a8e4ea19eb9c91de7a96d2919ed9e9794bee56d6e7e6efc3b2a1ee", func := "tussock/tussocklaw08.ObjectMaps", spec := "objectMaps", inPlace := ["internal/abi.NoEscape", "internal/bytealg.MakeNoZero"], unfollowed := true, recurses := true, named := ["tussock/hash.keys"], apart := false, laid := [("tussock/hash.keys", laid_tussock_hash_keys)], narrowed := true }
def ObjectMapsUptoSaid : Prop := objectMapsUptoRow.holds Tryd.pinned (OpenSpec.upto objectMapsSpec)

/-- 'tussocklaw08.ObjectCommits', WHERE WHAT IT READS IS OF BULK AT MOST 1048576: true; the input reads as it did. -/
def objectCommitsUptoRow : OpenClaim := { program := "ytenamjldkaggcaadoor", sum := "050efb6059a8e4ea19eb9c91de7a96d2919ed9e9794bee56d6e7e6efc3b2a1ee", func := "tussock/tussocklaw08.ObjectCommits", spec := "objectCommits", inPlace := ["internal/abi.NoEscape", "internal/bytealg.MakeNoZero"], unfollowed := true, recurses := true, named := ["tussock/hash.keys"], apart := false, laid := [("tussock/hash.keys", laid_tussock_hash_keys)], narrowed := true }
def ObjectCommitsUptoSaid : Prop := objectCommitsUptoRow.holds Tryd.pinned (OpenSpec.upto objectCommitsSpec)

/-- 'tussocklaw08.ObjectNodes', WHERE WHAT IT READS IS OF BULK AT MOST 1048576: true; the input reads as it did. -/
def objectNodesUptoRow : OpenClaim := { program := "ytenamjldkaggcaadoor", sum := "050efb6059a8e4ea19eb9c91de7a96d2919ed9e9794bee56d6e7e6efc3b2a1ee", func := "tussock/tussocklaw08.ObjectNodes", spec := "objectNodes", inPlace := ["internal/abi.NoEscape", "internal/bytealg.MakeNoZero"], unfollowed := true, recurses := true, named := ["tussock/hash.keys"], apart := false, laid := [("tussock/hash.keys", laid_tussock_hash_keys)], narrowed := true }
def ObjectNodesUptoSaid : Prop := objectNodesUptoRow.holds Tryd.pinned (OpenSpec.upto objectNodesSpec)

/-- 'tussocklaw08.ObjectBack', WHERE WHAT IT READS IS OF BULK AT MOST 1048576: true; the input reads as it did. -/
def objectBackUptoRow : OpenClaim := { program := "ytenamjldkaggcaadoor", sum := "050efb6059a8e4ea19eb9c91de7a96d2919ed9e9794bee56d6e7e6efc3b2a1ee", func := "tussock/tussocklaw08.ObjectBack", spec := "objectBack", inPlace := ["internal/abi.NoEscape", "internal/bytealg.MakeNoZero"], unfollowed := true, recurses := true, named := ["tussock/hash.keys"], apart := false, laid := [("tussock/hash.keys", laid_tussock_hash_keys)], narrowed := true }
def ObjectBackUptoSaid : Prop := objectBackUptoRow.holds Tryd.pinned (OpenSpec.upto objectBackSpec)

/-- 'tussocklaw08.ObjectEntries', WHERE WHAT IT READS IS OF BULK AT MOST 1048576: true; the input reads as it did. -/
def objectEntriesUptoRow : OpenClaim := { program := "ytenamjldkaggcaadoor", sum := "050efb6059a8e4ea19eb9c91de7a96d2919ed9e9794bee56d6e7e6efc3b2a1ee", func := "tussock/tussocklaw08.ObjectEntries", spec := "objectEntries", inPlace := ["internal/abi.NoEscape", "internal/bytealg.MakeNoZero", "internal/bytealg.IndexByteString", "internal/bytealg.IndexString"], unfollowed := true, recurses := true, named := ["tussock/hash.keys", "internal/bytealg.MaxLen"], apart := false, laid := [("tussock/hash.keys", laid_tussock_hash_keys)], narrowed := true }
def ObjectEntriesUptoSaid : Prop := objectEntriesUptoRow.holds Tryd.pinned (OpenSpec.upto objectEntriesSpec)

end Rows
end Go.Proofs.YtenamjldkaggcaaDoor
