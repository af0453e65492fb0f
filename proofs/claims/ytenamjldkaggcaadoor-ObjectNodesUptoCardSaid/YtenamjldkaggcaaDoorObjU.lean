/- The walk of the reference's SameFan, of two that are the same. -/
import Derived.Test.YtenamjldkaggcaaDoorObjTg
namespace Go.Proofs.YtenamjldkaggcaaDoor
set_option linter.unusedVariables false
set_option linter.unusedSimpArgs false
open Go.RowKit K Wire
namespace Obj

set_option maxRecDepth 100000 in
set_option maxHeartbeats 2000000 in
theorem sameFan_calls (level : Int) (A A' : Option Addr) (c c' : Nat) (kids : List Part) (w : World) (hA : Cells w A (kids.flatMap pc)) (hA' : Cells w A' (kids.flatMap pc)) (hc : kids.length ≤ 100000000) :
    Calls Tryd.prog 34 #[.agg #[.int .i64 level, .slice A kids.length c], .agg #[.int .i64 level, .slice A' kids.length c']] w fun e w' => e = .returned (.bool true) ∧ Mod (fun _ => False) w w' := by
  have hX := (Has.new w [.int .i64 level, .slice A kids.length c] 32).alloc (.cells #[.int .i64 level, .slice A' kids.length c'] 32)
  have hY := (Has.new (w.alloc (.cells #[.int .i64 level, .slice A kids.length c] 32)) [.int .i64 level, .slice A' kids.length c'] 32)
  have hM0 := ((Mod.refl (fun _ => False) w).alloc (.cells #[.int .i64 level, .slice A kids.length c] 32)).alloc (.cells #[.int .i64 level, .slice A' kids.length c'] 32)
  rw [size_alloc] at hY
  have HX0 := Lib.hid hX
  have HY0 := Lib.hid hY
  have HM0 := Lib.hid hM0
  have HA := Lib.hid hA
  have HA' := Lib.hid hA'
  clear hX hY hM0 hA hA'
  go_enter Tryd.func34, Tryd.ntmps34
  go_wp2_with fail
  go_loopw [5] (fun i wr => ∃ (k : Nat), i = .int .i64 k ∧ k ≤ kids.length ∧ Hid (Mod (fun _ => False) w wr) ∧ Hid (Has wr w.heap.size [.int .i64 level, .slice A kids.length c] 32) ∧ Hid (Has wr (w.heap.size + 1) [.int .i64 level, .slice A' kids.length c'] 32)) (fun i _ => kids.length - (intOf i).toNat)
  case atStart => exact ⟨0, by go_num, by omega, HM0, HX0, HY0⟩
  case round =>
    obtain ⟨k, rfl, hk, HM, HX, HY⟩ := hrel
    have x1 := HX.out.cell (o := 1) rfl
    have y1 := HY.out.cell (o := 1) rfl
    by_cases hlt : k < kids.length
    · have i1 : (k : Int) < (kids.length : Int) := by omega
      have i0 : (0 : Int) ≤ (k : Int) := by omega
      rcases HA.out.keep HM.out (fun _ _ h => h) with h | ⟨ba, o, rfl, hcell⟩
      · have := flat_len pc_len kids; rw [h] at this; simp at this; omega
      rcases HA'.out.keep HM.out (fun _ _ h => h) with h | ⟨ba', o', rfl, hcell'⟩
      · have := flat_len pc_len kids; rw [h] at this; simp at this; omega
      have a0 := hcell _ _ (flat_get pc_len kids k 0 hlt (by omega))
      have a1 := hcell _ _ (flat_get pc_len kids k 1 hlt (by omega))
      have b0 := hcell' _ _ (flat_get pc_len kids k 0 hlt (by omega))
      have b1 := hcell' _ _ (flat_get pc_len kids k 1 hlt (by omega))
      rw [Nat.add_zero] at a0 b0
      rw [← Nat.add_assoc] at a1 b1
      generalize kids[k] = p at *
      clear hcell hcell'
      go_wp2_with fail
      go_quiet (fail)
      go_wp2_with fail
      go_roundw
      case rel => exact ⟨k + 1, by go_num, by omega, Lib.hid (HM.out.drewN _), Lib.hid (HX.out.drewN _), Lib.hid (HY.out.drewN _)⟩
      case measure => simp [intOf]; omega
    · have i1 : ¬ (k : Int) < (kids.length : Int) := by omega
      go_wp2_with fail
      go_ret
      exact ⟨rfl, HM.out⟩
end Obj
end Go.Proofs.YtenamjldkaggcaaDoor
