/- The law HashBack: what was written as digits is read as it was, and digits that are read are written so again. -/
import Derived.Test.YtocakemfihhidaaDoorHashU
namespace Go.Proofs.YtocakemfihhidaaDoor
open Go.RowKit K
namespace Hash

theorem self_b (s : ByteArray) : (⟨s.data.toList.toArray⟩ : ByteArray) = s := by simp

set_option maxRecDepth 100000 in
set_option maxHeartbeats 4000000 in
theorem hashBack_calls (s t : ByteArray) (w : World) (hK : Keys w) (hs : s.size ≤ 1048576) (ht : t.size ≤ 1048576) :
    Calls Tryd.prog 6 #[.string s, .string t] w fun e w' => e = .returned (.bool true) ∧ Below w.heap.size w w' := by
  have HS := Lib.hid (shown_calls w hK)
  have hsl : s.data.toList.length = s.size := by simp
  have htl : t.data.toList.length = t.size := by simp
  have hx1 := fun w => hex_calls s w hs
  have hxl := hex_len s.data.toList
  have hun := unhex_hex s.data.toList
  have hun2 : unhexA (hex s.data.toList) = (s.data.toList, true) := by unfold unhexA; rw [hun]
  have hx2 := fun w => unhex_calls ⟨(hex s.data.toList).toArray⟩ w (by rw [size_b]; omega)
  rw [show (⟨(hex s.data.toList).toArray⟩ : ByteArray).data.toList = hex s.data.toList from rfl, hun2] at hx2
  have hx3 := fun w => unhex_calls t w (by omega)
  generalize hex s.data.toList = X at *
  have HX1 := Lib.hid hx1
  have HX2 := Lib.hid hx2
  have d9 : (s.toList == s.toList) = true := (Lib.bytes_beq_iff _ _).2 rfl
  have d8 : (t.toList == t.toList) = true := (Lib.bytes_beq_iff _ _).2 rfl
  clear hx1 hx2 hun hun2 hK
  cases hut : unhexL t.data.toList with
  | none =>
    have hA : unhexA t.data.toList = ([], false) := by unfold unhexA; rw [hut]
    rw [hA] at hx3
    have HX3 := Lib.hid hx3
    clear hx3 hA hut
    go_enter Tryd.func6, Tryd.ntmps6
    go_wp2_with fail
    refine HS.out.mono ?_
    rintro e w1 ⟨rfl, hm1⟩
    have HM1 := Lib.hid hm1
    clear hm1
    go_wp2_with fail
    refine (HX1.out _).mono ?_
    rintro e w2 ⟨rfl, hm2⟩
    have HM2 := Lib.hid (Mod.trans HM1.out hm2 (fun _ _ h => h))
    clear hm2
    go_wp2_with fail
    refine (HX2.out _).mono ?_
    rintro e w3 ⟨rfl, hm3⟩
    have HM3 := Lib.hid (Mod.trans HM2.out hm3 (fun _ _ h => h))
    clear hm3
    dsimp only
    rw [self_b s]
    go_wp2_with fail
    refine (HX3.out _).mono ?_
    rintro e w4 ⟨rfl, hm4⟩
    have HM4 := Lib.hid (Mod.trans HM3.out hm4 (fun _ _ h => h))
    clear hm4
    dsimp only
    go_wp2_with fail
    go_ret
    exact ⟨rfl, HM4.out.below (fun _ _ h => h)⟩
  | some b =>
    have hA : unhexA t.data.toList = (b, true) := by unfold unhexA; rw [hut]
    have hbx := hex_unhex _ _ _ (Nat.le_refl _) hut
    have hbl := unhex_len _ _ _ (Nat.le_refl _) hut
    rw [hA] at hx3
    have hx4 := fun w => hex_calls ⟨b.toArray⟩ w (by rw [size_b]; omega)
    rw [show (⟨b.toArray⟩ : ByteArray).data.toList = b from rfl, hbx, self_b] at hx4
    have HX3 := Lib.hid hx3
    have HX4 := Lib.hid hx4
    clear hx3 hx4 hA hut hbx
    go_enter Tryd.func6, Tryd.ntmps6
    go_wp2_with fail
    refine HS.out.mono ?_
    rintro e w1 ⟨rfl, hm1⟩
    have HM1 := Lib.hid hm1
    clear hm1
    go_wp2_with fail
    refine (HX1.out _).mono ?_
    rintro e w2 ⟨rfl, hm2⟩
    have HM2 := Lib.hid (Mod.trans HM1.out hm2 (fun _ _ h => h))
    clear hm2
    go_wp2_with fail
    refine (HX2.out _).mono ?_
    rintro e w3 ⟨rfl, hm3⟩
    have HM3 := Lib.hid (Mod.trans HM2.out hm3 (fun _ _ h => h))
    clear hm3
    dsimp only
    rw [self_b s]
    go_wp2_with fail
    refine (HX3.out _).mono ?_
    rintro e w4 ⟨rfl, hm4⟩
    have HM4 := Lib.hid (Mod.trans HM3.out hm4 (fun _ _ h => h))
    clear hm4
    dsimp only
    go_wp2_with fail
    refine (HX4.out _).mono ?_
    rintro e w5 ⟨rfl, hm5⟩
    have HM5 := Lib.hid (Mod.trans HM4.out hm5 (fun _ _ h => h))
    clear hm5
    go_wp2_with fail
    go_ret
    exact ⟨rfl, HM5.out.below (fun _ _ h => h)⟩
end Hash
end Go.Proofs.YtocakemfihhidaaDoor
