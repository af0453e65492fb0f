/- Joined texts: BlobB. -/
import Derived.Test.YthgcjfpaekpeeaaDoorJ21
import Derived.Lib.IndexBytes
/- The walks of group, above. -/
namespace Go.Proofs.YthgcjfpaekpeeaaDoor
set_option linter.unusedVariables false
set_option linter.unusedSimpArgs false
open Go.RowKit K Wire Go.Maps
namespace Blob
open Go.Proofs.YthgcjfpaekpeeaaDoor.Obj

set_option maxRecDepth 100000 in
set_option maxHeartbeats 2000000 in
theorem group_calls (A : Option Addr) (c : Nat) (l : List Part) (w : World) (hA : Cells w A (l.flatMap pc)) (hid : ∀ p ∈ l, p.id.size = 32) (hn : l.length ≤ 1000000) :
    Calls Tryd.prog 43 #[.slice A l.length c] w fun e w' => e = .returned (.int .i64 (gN 0 l : Nat)) ∧ Mod (fun _ => False) w w' := by
  have HA := Lib.hid hA
  have HID := Lib.hid hid
  obtain ⟨G, hG⟩ : ∃ G, gN 0 l = G := ⟨_, rfl⟩
  have HG0 : Hid (G = gN 0 (l.drop 0)) := Lib.hid (by rw [List.drop_zero, hG])
  rw [hG]
  clear hA hid hG
  go_enter Tryd.func43, Tryd.ntmps43
  go_wp2_with fail
  go_loopw [7] (fun i wr => ∃ k : Nat, i = .int .i64 k ∧ k ≤ l.length ∧ Hid (G = gN k (l.drop k)) ∧ Hid (Mod (fun _ => False) w wr)) (fun i _ => l.length - (intOf i).toNat)
  case atStart => exact ⟨0, by go_num, Nat.zero_le _, HG0, Lib.hid (Mod.refl _ _)⟩
  case round =>
    obtain ⟨k, rfl, hk, HG, HM⟩ := hrel
    by_cases hlt : k < l.length
    · have i1 : (k : Int) < (l.length : Int) := by omega
      have i0 : (0 : Int) ≤ (k : Int) := by omega
      rcases HA.out.keep HM.out (fun _ _ h => h) with h | ⟨ba, o, rfl, hcell⟩
      · have := flat_len pc_len l; rw [h] at this; simp at this; omega
      have y0 := hcell _ _ (flat_get pc_len l k 0 hlt (by omega))
      have y1 := hcell _ _ (flat_get pc_len l k 1 hlt (by omega))
      rw [Nat.add_zero] at y0
      rw [← Nat.add_assoc] at y1
      have hg := HG.out
      rw [List.drop_eq_getElem_cons hlt, gN_cons] at hg
      have hsz := HID.out _ (List.getElem_mem hlt)
      obtain ⟨p, hp⟩ : ∃ p, l[k] = p := ⟨_, rfl⟩
      rw [hp] at y0 y1 hg hsz
      obtain ⟨id, size⟩ := p
      dsimp only at y0 y1 hg hsz
      obtain ⟨cc, hcc⟩ : ∃ cc, id[31]'(by omega) = cc := ⟨_, rfl⟩
      have e31 : ∀ h : 31 < id.size, id[31]'h = cc := fun _ => hcc
      have h31 : id.data.toList.getD 31 0 = cc := by
        rw [List.getD_eq_getElem?_getD, Lib.data_getElem? id 31 (by omega), hcc]; rfl
      unfold endsG at hg
      rw [h31] at hg
      have j31 : (31 : Int) < (id.size : Int) := by omega
      have HM2 := Lib.hid (HM.out.alloc (.cells #[.string id, .int .i64 size] 25))
      by_cases h1 : k + 1 = 32
      · have b1 : ((k : Int) + 1 == 32) = true := by simp; omega
        have hgk : G = k + 1 := by rw [hg, if_pos (by simp [h1])]
        have HGK := Lib.hid hgk
        clear hg hcell hp hcc h31
        go_wp2_with fail
        go_ret
        exact ⟨by rw [HGK.out]; rfl, HM2.out⟩
      · have b1 : ((k : Int) + 1 == 32) = false := by simp; omega
        by_cases h2 : 0 < k
        · have b2 : decide ((0 : Int) < (k : Int)) = true := decide_eq_true (by omega)
          by_cases h3 : cc.toNat % 8 = 0
          · have hgk : G = k + 1 := by rw [hg, if_pos (by simp [h3]; omega)]
            have HGK := Lib.hid hgk
            have m3 : ((cc.toNat : Int) % 8) = 0 := by omega
            have b3 : (((cc.toNat : Int) % 8) == 0) = true := by simp [m3]
            clear hg hcell hp hcc h31
            go_wp2_with fail
            go_ret
            exact ⟨by rw [HGK.out]; rfl, HM2.out⟩
          · have hgk : G = gN (k + 1) (l.drop (k + 1)) := by rw [hg, if_neg (by simp [h3]; omega)]
            have HGK := Lib.hid hgk
            have m3 : ¬ ((cc.toNat : Int) % 8) = 0 := by omega
            have b3 : (((cc.toNat : Int) % 8) == 0) = false := beq_eq_false_iff_ne.2 m3
            clear hg hcell hp hcc h31
            go_wp2_with fail
            go_roundw
            case rel => exact ⟨k + 1, by go_num, by omega, HGK, HM2⟩
            case measure => simp [intOf]; omega
        · obtain rfl : k = 0 := by omega
          have hgk : G = gN (0 + 1) (l.drop (0 + 1)) := by rw [hg, if_neg (by simp)]
          have HGK := Lib.hid hgk
          simp only [Nat.zero_mul, Nat.add_zero] at y0 y1
          have b2 : decide ((0 : Int) < ((0 : Nat) : Int)) = false := by decide
          clear hg hcell hp hcc h31
          go_wp2_with fail
          go_roundw
          case rel => exact ⟨1, by go_num, by omega, HGK, HM2⟩
          case measure => simp [intOf]; omega
    · have hkl : k = l.length := by omega
      have i1 : ¬ (k : Int) < (l.length : Int) := by omega
      have hg := HG.out
      rw [hkl, List.drop_length] at hg
      have HGK := Lib.hid hg
      clear hg
      go_wp2_with fail
      go_ret
      exact ⟨by rw [HGK.out]; rfl, HM.out⟩
end Blob
end Go.Proofs.YthgcjfpaekpeeaaDoor
