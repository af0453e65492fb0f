/- The walk of the law's shown. -/
import Derived.Test.YtenamjldkaggcaaDoorObjU
namespace Go.Proofs.YtenamjldkaggcaaDoor
set_option linter.unusedVariables false
set_option linter.unusedSimpArgs false
open Go.RowKit K Wire
namespace Obj

def kv : List Pair := [⟨⟨#[107]⟩, ⟨#[118]⟩⟩]
theorem enc1 : enc 1 = [2] := by unfold enc; rw [encU_small _ (by decide)]; decide
theorem kv_bytes : leafB kv = [76, 2, 2, 107, 2, 118] := by
  simp [leafB, kv, pairB, encT, enc1, ByteArray.size]
theorem kv_right : rightLeaf kv = true := by decide +kernel
theorem kv_back : okLeaf [76, 2, 2, 107, 2, 118] = true ∧ outLeaf [76, 2, 2, 107, 2, 118] = kv := by
  constructor
  · decide +kernel
  · kernel_rfl
set_option maxRecDepth 100000 in
set_option maxHeartbeats 2000000 in
theorem shown_calls (w : World) (hK : Hash.Keys w) : Calls Tryd.prog 9 #[] w fun e w' => e = .returned (.bool true) ∧ Mod (fun _ => False) w w' := by
  have hL := leaf_calls (some ⟨w.heap.size, 0, none⟩) 1 kv (w.alloc (.cells #[.string ⟨#[107]⟩, .string ⟨#[118]⟩] 71)) (hK.keep ((Mod.refl (fun _ => False) w).alloc _) (fun h => h)) (.inr ⟨_, 0, rfl, fun j u hj => by rw [Nat.zero_add]; exact (Has.new w [.string ⟨#[107]⟩, .string ⟨#[118]⟩] 71).cell hj⟩) (by decide) (by rw [kv_bytes]; decide)
  rw [kv_bytes, kv_right, Bool.not_true, putV_f] at hL
  have hsl : (Hash.sha [76, 2, 2, 107, 2, 118]).length = 32 := sha_len _
  generalize Hash.sha [76, 2, 2, 107, 2, 118] = H at *
  have HL := Lib.hid hL
  have hT := fun w1 => takeLeaf_calls ⟨#[76, 2, 2, 107, 2, 118]⟩ w1 (by decide)
  have e1 : (⟨#[76, 2, 2, 107, 2, 118]⟩ : ByteArray).data.toList = [76, 2, 2, 107, 2, 118] := rfl
  rw [e1] at hT
  rw [kv_back.1, kv_back.2] at hT
  have HT := Lib.hid hT
  clear hL hT hK e1
  go_enter Tryd.func9, Tryd.ntmps9
  go_wp2_with fail
  refine HL.out.mono ?_
  rintro e w1 ⟨rfl, hm1⟩
  have HM1 := Lib.hid (Mod.trans ((Mod.refl (fun _ => False) w).alloc _) hm1 (fun _ _ h => h))
  clear hm1
  go_wp2_with fail
  refine (HT.out _).mono ?_
  rintro e w2 ⟨v, rfl, ho, hm2⟩
  have hO := (Has.new w1 [.string ⟨H.toArray⟩, .string ⟨#[76, 2, 2, 107, 2, 118]⟩] 27).keep hm2 (fun h => h)
  have x0 := hO.cell (o := 0) rfl
  have x1 := hO.cell (o := 1) rfl
  have HM2 := Lib.hid (Mod.trans (HM1.out.alloc _) hm2 (fun _ _ h => h))
  obtain ⟨A, cp, rfl, _, hcl, _, _⟩ := own_cells ho
  rcases hcl with h | ⟨ba, o, rfl, hcell⟩
  · cases h
  have y1 := hcell 1 (.string ⟨#[118]⟩) rfl
  have i32 : (((⟨H.toArray⟩ : ByteArray).size : Int) == 32) = true := by
    have : (⟨H.toArray⟩ : ByteArray).size = 32 := hsl
    rw [this]; rfl
  rw [show errV true = .int .i64 0 from rfl]
  clear hcell ho hm2 hO HL HT
  rw [show kv.length = 1 from rfl]
  go_wp2_with fail
  go_ret
  exact ⟨rfl, HM2.out⟩
end Obj
end Go.Proofs.YtenamjldkaggcaaDoor
