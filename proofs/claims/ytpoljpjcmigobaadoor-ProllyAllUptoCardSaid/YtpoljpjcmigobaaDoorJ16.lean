/- Joined texts: ObjTg, ObjU. -/
import Derived.Test.YtpoljpjcmigobaaDoorJ15
/- The walk of the reference's TakeFan. -/
namespace Go.Proofs.YtpoljpjcmigobaaDoor
set_option linter.unusedVariables false
set_option linter.unusedSimpArgs false
open Go.RowKit K Wire
namespace Obj

def gList {α : Type} (f : RR → α × RR) : Nat → RR → List α → RR × List α
  | 0, x, l => (x, l)
  | n + 1, x, l => if x.bad then (x, l) else gList f n (f x).2 (l ++ [(f x).1])
theorem gList_stop {α : Type} (f : RR → α × RR) (n : Nat) (x : RR) (l : List α) (h : n = 0 ∨ x.bad = true) : gList f n x l = (x, l) := by
  cases n with
  | zero => rfl
  | succ n => rcases h with h | h; cases h; rw [gList, if_pos h]
theorem gList_go {α : Type} (f : RR → α × RR) (n : Nat) (x : RR) (l : List α) (h : x.bad = false) : gList f (n + 1) x l = gList f n (f x).2 (l ++ [(f x).1]) := by
  rw [gList, if_neg (by rw [h]; decide)]
theorem gCount_in (L : List UInt8) (most : Int) (x : RR) (hm : 0 ≤ most) : 0 ≤ (gCount L most x).1 ∧ (gCount L most x).1 ≤ most := by
  unfold gCount; split
  · exact ⟨Int.le_refl _, hm⟩
  · omega
def gPart (L : List UInt8) (x : RR) : Part × RR := (⟨⟨(gId L x).1.toArray⟩, (gInt L (gId L x).2).1⟩, (gInt L (gId L x).2).2)
def gfanL (L : List UInt8) : Int := (gInt L ⟨begunBad L 0x46, 1⟩).1
def gFan (L : List UInt8) : RR × List Part :=
  gList (gPart L) (gCount L 32 (gInt L ⟨begunBad L 0x46, 1⟩).2).1.toNat (gCount L 32 (gInt L ⟨begunBad L 0x46, 1⟩).2).2 []
def gokFan (L : List UInt8) : Bool := gEnds L (gFan L).1 && rightFan (gfanL L) (gFan L).2
def goutFan (L : List UInt8) : Int × List Part := if gokFan L then (gfanL L, (gFan L).2) else (0, [])

end Obj
end Go.Proofs.YtpoljpjcmigobaaDoor
/- The walk of the reference's SameFan, of two that are the same. -/
namespace Go.Proofs.YtpoljpjcmigobaaDoor
set_option linter.unusedVariables false
set_option linter.unusedSimpArgs false
open Go.RowKit K Wire
namespace Obj

end Obj
end Go.Proofs.YtpoljpjcmigobaaDoor
