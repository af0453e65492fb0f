/- Joined texts: BlobI. -/
import Derived.Test.YthgcjfpaekpeeaaDoorJ26
import Derived.Lib.IndexBytes
/- The reference's ends. -/
namespace Go.Proofs.YthgcjfpaekpeeaaDoor
set_option linter.unusedVariables false
set_option linter.unusedSimpArgs false
open Go.RowKit K Wire Go.Maps
namespace Blob
open Go.Proofs.YthgcjfpaekpeeaaDoor.Obj

set_option maxRecDepth 100000 in
set_option maxHeartbeats 1000000 in
theorem rEnds_calls (n : Nat) (id : ByteArray) (w : World) (hid : id.size = 32) (hn : n ≤ 1000) :
    Calls Tryd.prog 47 #[.int .i64 (n : Int), .string id] w fun e w' => e = .returned (.bool (endsG n id)) ∧ Mod (fun _ => False) w w' := by
  obtain ⟨cc, hcc⟩ : ∃ cc, id[31]'(by omega) = cc := ⟨_, rfl⟩
  have e31 : ∀ h : 31 < id.size, id[31]'h = cc := fun _ => hcc
  have h31 : id.data.toList.getD 31 0 = cc := by
    rw [List.getD_eq_getElem?_getD, Lib.data_getElem? id 31 (by omega), hcc]; rfl
  unfold endsG
  rw [h31]
  have j31 : (31 : Int) < (id.size : Int) := by omega
  clear hcc h31
  by_cases h2 : 2 ≤ n
  · have i2 : (2 : Int) ≤ (n : Int) := by omega
    have b2 : decide ((2 : Int) ≤ (n : Int)) = true := decide_eq_true i2
    by_cases h3 : cc.toNat % 8 = 0
    · have m3 : ((cc.toNat : Int) % 8) = 0 := by omega
      have b3 : (((cc.toNat : Int) % 8) == 0) = true := by simp [m3]
      have hr : (decide (2 ≤ n) && decide (cc.toNat % 8 = 0) || decide (n = 32)) = true := by simp [h2, h3]
      rw [hr]
      clear hr h2 h3
      go_enter Tryd.func47, Tryd.ntmps47
      go_wp2_with fail
      go_ret
      exact ⟨rfl, by (repeat (first | with_reducible exact Mod.refl _ _ | with_reducible apply Mod.drew | with_reducible apply Mod.drewN | with_reducible apply Mod.alloc | refine Mod.set1 ?_ (by first | exact rfl | simp) _ _))⟩
    · have m3 : ¬ ((cc.toNat : Int) % 8) = 0 := by omega
      have b3 : (((cc.toNat : Int) % 8) == 0) = false := beq_eq_false_iff_ne.2 m3
      by_cases h4 : n = 32
      · have hr : (decide (2 ≤ n) && decide (cc.toNat % 8 = 0) || decide (n = 32)) = true := by simp [h4]
        rw [hr]
        have b4 : ((n : Int) == 32) = true := by simp; omega
        clear hr h2 h3 h4
        go_enter Tryd.func47, Tryd.ntmps47
        go_wp2_with fail
        go_ret
        exact ⟨rfl, by (repeat (first | with_reducible exact Mod.refl _ _ | with_reducible apply Mod.drew | with_reducible apply Mod.drewN | with_reducible apply Mod.alloc | refine Mod.set1 ?_ (by first | exact rfl | simp) _ _))⟩
      · have hr : (decide (2 ≤ n) && decide (cc.toNat % 8 = 0) || decide (n = 32)) = false := by simp [h3, h4]
        rw [hr]
        have b4 : ((n : Int) == 32) = false := by simp; omega
        clear hr h2 h3 h4
        go_enter Tryd.func47, Tryd.ntmps47
        go_wp2_with fail
        go_ret
        exact ⟨rfl, by (repeat (first | with_reducible exact Mod.refl _ _ | with_reducible apply Mod.drew | with_reducible apply Mod.drewN | with_reducible apply Mod.alloc | refine Mod.set1 ?_ (by first | exact rfl | simp) _ _))⟩
  · have i2 : ¬ (2 : Int) ≤ (n : Int) := by omega
    have b2 : decide ((2 : Int) ≤ (n : Int)) = false := decide_eq_false i2
    have hr : (decide (2 ≤ n) && decide (cc.toNat % 8 = 0) || decide (n = 32)) = false := by simp [h2]; omega
    rw [hr]
    have b4 : ((n : Int) == 32) = false := by simp; omega
    clear hr h2
    go_enter Tryd.func47, Tryd.ntmps47
    go_wp2_with fail
    go_ret
    exact ⟨rfl, by (repeat (first | with_reducible exact Mod.refl _ _ | with_reducible apply Mod.drew | with_reducible apply Mod.drewN | with_reducible apply Mod.alloc | refine Mod.set1 ?_ (by first | exact rfl | simp) _ _))⟩
end Blob
end Go.Proofs.YthgcjfpaekpeeaaDoor
