/- The law ObjectNodes, as its card asks it. -/
import Derived.Test.YtenamjldkaggcaaDoorObjectNodesL
import Derived.Test.YtenamjldkaggcaaDoorKi
namespace Go.Proofs.YtenamjldkaggcaaDoor
set_option linter.unusedVariables false
set_option linter.unusedSimpArgs false
open Go.RowKit K Wire
namespace Obj
theorem nodes_row (s : ByteArray) (level : Int) (A : Option Addr) (c : Nat) (kids : List Part) (t : ByteArray) (w : World) (hK : Hash.Keys w) (hs : s.size ≤ 1048576) (hA : Cells w A (kids.flatMap pc)) (hlv : In64 level) (hsz : ∀ p ∈ kids, In64 p.size)
    (hb : (kids.map fun p => p.id.size + 1).sum + kids.length ≤ 1048576) (ht : t.size ≤ 1048576) :
    Calls Tryd.prog 6 #[.string s, .agg #[.int .i64 level, .slice A kids.length c], .string t] w fun e w' => e = .returned (.bool true) ∧ Below w.heap.size w w' :=
  nodes_calls s level A c kids t w hK hA hs ht (by omega) hlv hsz (fanB_len level kids hlv hsz hb)
end Obj
end Go.Proofs.YtenamjldkaggcaaDoor
