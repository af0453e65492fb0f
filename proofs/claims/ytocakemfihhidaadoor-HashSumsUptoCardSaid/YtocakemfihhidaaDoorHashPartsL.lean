/- The law HashParts: how bytes are cut into parts makes no difference. -/
import Derived.Test.YtocakemfihhidaaDoorHashJ
namespace Go.Proofs.YtocakemfihhidaaDoor
open Go.RowKit K
namespace Hash

/-- parts that came in -/
structure PartsIn (w : World) (A : Option Addr) (c : Nat) (ps : List ByteArray) : Prop where
  row : Cells w A (ps.map .string)
  cap : ps.length ≤ c
  len : ps.length ≤ 1048576
  sum : (flat ps).length ≤ 1048576

set_option maxRecDepth 100000 in
set_option maxHeartbeats 4000000 in
theorem hashParts_calls (A : Option Addr) (c : Nat) (ps : List ByteArray) (w : World) (hK : Keys w) (hA : PartsIn w A c ps) :
    Calls Tryd.prog 4 #[.slice A ps.length c] w fun e w' => e = .returned (.bool true) ∧ Below w.heap.size w w' := by
  have HK := Lib.hid hK
  have HS := Lib.hid (shown_calls w hK)
  have HSM := Lib.hid (fun w' (m : Mod (fun _ => False) w w') => sum_calls A c ps w' (hK.keep m (fun h => h)) (hA.row.keep m (fun _ _ h => h)) hA.cap hA.len hA.sum)
  have HJ := Lib.hid (fun w' (m : Mod (fun _ => False) w w') => joined_calls A c ps w' (hA.row.keep m (fun _ _ h => h)) hA.len hA.sum)
  have hsum := hA.sum
  clear hK hA
  obtain ⟨L, hL⟩ : ∃ L, flat ps = L := ⟨_, rfl⟩
  rw [hL] at HSM HJ hsum
  clear hL
  have hs32 := sha_len L
  have hone := fun w' (m : Mod (fun _ => False) w w') => sum_calls (some ⟨w'.heap.size, 0, none⟩) 1 [⟨L.toArray⟩] (w'.alloc (.cells #[.string ⟨L.toArray⟩] 9)) (HK.out.keep (Mod.alloc m _) (fun h => h))
    (.inr ⟨_, 0, rfl, fun j u hj => by rw [Nat.zero_add]; exact (Has.new w' [.string ⟨L.toArray⟩] 9).cell hj⟩) (by simp) (by simp) (by simp [flat]; omega)
  simp only [show flat [⟨L.toArray⟩] = L by simp [flat]] at hone
  generalize sha L = S at *
  have HO := Lib.hid hone
  have hss := size_b S
  clear hone
  go_enter Tryd.func4, Tryd.ntmps4
  go_wp2_with fail
  refine HS.out.mono ?_
  rintro e w1 ⟨rfl, hm1⟩
  have HM1 := Lib.hid hm1
  clear hm1
  go_wp2_with fail
  refine (HSM.out _ HM1.out).mono ?_
  rintro e w2 ⟨rfl, hm2⟩
  have HM2 := Lib.hid (Mod.trans HM1.out hm2 (fun _ _ h => h))
  clear hm2
  go_wp2_with fail
  refine (HJ.out _ HM2.out).mono ?_
  rintro e w3 ⟨rfl, hm3⟩
  have HM3 := Lib.hid (Mod.trans HM2.out hm3 (fun _ _ h => h))
  clear hm3
  go_wp2_with fail
  refine (HO.out _ HM3.out).mono ?_
  rintro e w4 ⟨rfl, hm4⟩
  have HM4 := Lib.hid (Mod.trans (Mod.alloc HM3.out _) hm4 (fun _ _ h => h))
  clear hm4
  go_wp2_with fail
  go_ret
  exact ⟨rfl, HM4.out.below (fun _ _ h => h)⟩
end Hash
end Go.Proofs.YtocakemfihhidaaDoor
