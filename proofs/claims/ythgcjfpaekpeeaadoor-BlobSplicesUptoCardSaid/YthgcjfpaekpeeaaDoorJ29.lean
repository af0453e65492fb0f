/- Joined texts: BlobL. -/
import Derived.Test.YthgcjfpaekpeeaaDoorJ28
import Derived.Deep.QuietTactic
import Derived.BigQuiet
/- The reference's Same of objects and of parts, where they are the same. -/
namespace Go.Proofs.YthgcjfpaekpeeaaDoor
set_option linter.unusedVariables false
set_option linter.unusedSimpArgs false
open Go.RowKit K Wire Go.Maps
namespace Blob
open Go.Proofs.YthgcjfpaekpeeaaDoor.Obj

set_option maxRecDepth 100000 in
set_option maxHeartbeats 2000000 in
theorem sameObs_calls (A A' : Option Addr) (c c' : Nat) (kids : List Ob) (w : World) (hA : Cells w A (kids.flatMap oc)) (hA' : Cells w A' (kids.flatMap oc)) (hc : kids.length ≤ 100000000) :
    Calls Tryd.prog 11 #[.slice A kids.length c, .slice A' kids.length c'] w fun e w' => e = .returned (.bool true) ∧ Mod (fun _ => False) w w' := by
  have HA := Lib.hid hA
  have HA' := Lib.hid hA'
  clear hA hA'
  go_enter Tryd.func11, Tryd.ntmps11
  go_wp2_with fail
  go_loopw [5] (fun i wr => ∃ (k : Nat), i = .int .i64 k ∧ k ≤ kids.length ∧ Hid (Mod (fun _ => False) w wr)) (fun i _ => kids.length - (intOf i).toNat)
  case atStart => exact ⟨0, by go_num, by omega, Lib.hid (Mod.refl _ _)⟩
  case round =>
    obtain ⟨k, rfl, hk, HM⟩ := hrel
    by_cases hlt : k < kids.length
    · have i1 : (k : Int) < (kids.length : Int) := by omega
      have i0 : (0 : Int) ≤ (k : Int) := by omega
      rcases HA.out.keep HM.out (fun _ _ h => h) with h | ⟨ba, o, rfl, hcell⟩
      · have := flat_len oc_len kids; rw [h] at this; simp at this; omega
      rcases HA'.out.keep HM.out (fun _ _ h => h) with h | ⟨ba', o', rfl, hcell'⟩
      · have := flat_len oc_len kids; rw [h] at this; simp at this; omega
      have a0 := hcell _ _ (flat_get oc_len kids k 0 hlt (by omega))
      have a1 := hcell _ _ (flat_get oc_len kids k 1 hlt (by omega))
      have b0 := hcell' _ _ (flat_get oc_len kids k 0 hlt (by omega))
      have b1 := hcell' _ _ (flat_get oc_len kids k 1 hlt (by omega))
      rw [Nat.add_zero] at a0 b0
      rw [← Nat.add_assoc] at a1 b1
      generalize kids[k] = p at *
      clear hcell hcell'
      go_wp2_with fail
      go_quiet (fail)
      go_wp2_with fail
      go_roundw
      case rel => exact ⟨k + 1, by go_num, by omega, Lib.hid (HM.out.drewN _)⟩
      case measure => simp [intOf]; omega
    · have i1 : ¬ (k : Int) < (kids.length : Int) := by omega
      go_wp2_with fail
      go_ret
      exact ⟨rfl, HM.out⟩
set_option maxRecDepth 100000 in
set_option maxHeartbeats 2000000 in
theorem sameParts_calls (A A' : Option Addr) (c c' : Nat) (kids : List Part) (w : World) (hA : Cells w A (kids.flatMap pc)) (hA' : Cells w A' (kids.flatMap pc)) (hc : kids.length ≤ 100000000) :
    Calls Tryd.prog 21 #[.slice A kids.length c, .slice A' kids.length c'] w fun e w' => e = .returned (.bool true) ∧ Mod (fun _ => False) w w' := by
  have HA := Lib.hid hA
  have HA' := Lib.hid hA'
  clear hA hA'
  go_enter Tryd.func21, Tryd.ntmps21
  go_wp2_with fail
  go_loopw [5] (fun i wr => ∃ (k : Nat), i = .int .i64 k ∧ k ≤ kids.length ∧ Hid (Mod (fun _ => False) w wr)) (fun i _ => kids.length - (intOf i).toNat)
  case atStart => exact ⟨0, by go_num, by omega, Lib.hid (Mod.refl _ _)⟩
  case round =>
    obtain ⟨k, rfl, hk, HM⟩ := hrel
    by_cases hlt : k < kids.length
    · have i1 : (k : Int) < (kids.length : Int) := by omega
      have i0 : (0 : Int) ≤ (k : Int) := by omega
      rcases HA.out.keep HM.out (fun _ _ h => h) with h | ⟨ba, o, rfl, hcell⟩
      · have := flat_len pc_len kids; rw [h] at this; simp at this; omega
      rcases HA'.out.keep HM.out (fun _ _ h => h) with h | ⟨ba', o', rfl, hcell'⟩
      · have := flat_len pc_len kids; rw [h] at this; simp at this; omega
      have a0 := hcell _ _ (flat_get pc_len kids k 0 hlt (by omega))
      have a1 := hcell _ _ (flat_get pc_len kids k 1 hlt (by omega))
      have b0 := hcell' _ _ (flat_get pc_len kids k 0 hlt (by omega))
      have b1 := hcell' _ _ (flat_get pc_len kids k 1 hlt (by omega))
      rw [Nat.add_zero] at a0 b0
      rw [← Nat.add_assoc] at a1 b1
      generalize kids[k] = p at *
      clear hcell hcell'
      go_wp2_with fail
      go_quiet (fail)
      go_wp2_with fail
      go_roundw
      case rel => exact ⟨k + 1, by go_num, by omega, Lib.hid (HM.out.drewN _)⟩
      case measure => simp [intOf]; omega
    · have i1 : ¬ (k : Int) < (kids.length : Int) := by omega
      go_wp2_with fail
      go_ret
      exact ⟨rfl, HM.out⟩
end Blob
end Go.Proofs.YthgcjfpaekpeeaaDoor
