/- Joined texts: ObjectMapsL. -/
import Derived.Test.YtenamjldkaggcaaGreatDoorJ21
import Derived.Test.YtenamjldkaggcaaGreatDoorJ18
/- The walk of the law ObjectMaps. -/
namespace Go.Proofs.YtenamjldkaggcaaGreatDoor
set_option linter.unusedVariables false
set_option linter.unusedSimpArgs false
open Go.RowKit K Wire
namespace Obj

theorem outLeaf_len (L : List UInt8) : (outLeaf L).length ≤ 64 := by
  unfold outLeaf
  split
  · rename_i h
    have h2 := (leaf_sound L h).2
    simp only [rightLeaf, inR, Bool.and_eq_true, decide_eq_true_eq] at h2
    have := h2.1.1.2
    omega
  · simp
theorem outBranch_len (L : List UInt8) : (outBranch L).2.length ≤ 64 := by
  unfold outBranch
  split
  · rename_i h
    have h2 := (branch_sound L h).2
    simp only [rightBranch, inR, Bool.and_eq_true, decide_eq_true_eq] at h2
    have := h2.1.1.1.2.2
    show (rdBranch L).2.length ≤ 64
    omega
  · simp

end Obj
end Go.Proofs.YtenamjldkaggcaaGreatDoor
