/- The law HashSums: sums are those that the document says. -/
import Derived.Test.YtocakemfihhidaaDoorHashPartsL
import Derived.Test.YtocakemfihhidaaDoorHashRs
namespace Go.Proofs.YtocakemfihhidaaDoor
open Go.RowKit K
namespace Hash

set_option maxRecDepth 100000 in
set_option maxHeartbeats 4000000 in
theorem hashSums_calls (A : Option Addr) (c : Nat) (ps : List ByteArray) (w : World) (hK : Keys w) (hA : PartsIn w A c ps) :
    Calls Tryd.prog 3 #[.slice A ps.length c] w fun e w' => e = .returned (.bool true) ∧ Below w.heap.size w w' := by
  have HS := Lib.hid (shown_calls w hK)
  have HSM := Lib.hid (fun w' (m : Mod (fun _ => False) w w') => sum_calls A c ps w' (hK.keep m (fun h => h)) (hA.row.keep m (fun _ _ h => h)) hA.cap hA.len hA.sum)
  have HJ := Lib.hid (fun w' (m : Mod (fun _ => False) w w') => joined_calls A c ps w' (hA.row.keep m (fun _ _ h => h)) hA.len hA.sum)
  have hsum := hA.sum
  clear hK hA
  obtain ⟨L, hL⟩ : ∃ L, flat ps = L := ⟨_, rfl⟩
  rw [hL] at HSM HJ hsum
  clear hL
  have HS32 := Lib.hid (sha_len L)
  obtain ⟨S, hS⟩ : ∃ S, sha L = S := ⟨_, rfl⟩
  have HSH := Lib.hid hS
  rw [hS] at HSM HS32
  clear hS
  go_enter Tryd.func3, Tryd.ntmps3
  go_wp2_with fail
  refine HS.out.mono ?_
  rintro e w1 ⟨rfl, hm1⟩
  have HM1 := Lib.hid hm1
  clear hm1
  go_wp2_with fail
  refine (HSM.out _ HM1.out).mono ?_
  rintro e w2 ⟨rfl, hm2⟩
  have HM2 := Lib.hid (Mod.trans HM1.out hm2 (fun _ _ h => h))
  clear hm2
  go_wp2_with fail
  refine (HJ.out _ HM2.out).mono ?_
  rintro e w3 ⟨rfl, hm3⟩
  have HM3 := Lib.hid (Mod.trans HM2.out hm3 (fun _ _ h => h))
  clear hm3
  obtain ⟨c4, w4, hE, hM4, hC4, -, -, -⟩ := to_bytes ⟨L.toArray⟩ w3 (by rw [size_b]; unfold maxLen; omega)
  rw [size_b] at hE
  have HM4 := Lib.hid (Mod.trans HM3.out hM4 (fun _ _ h => h))
  have HR := Lib.hid (refSum_calls _ _ c4 L w4 hC4 hsum)
  rw [HSH.out] at HR
  clear hM4 hC4
  go_wp2_with fail
  refine HR.out.mono ?_
  rintro e w5 ⟨v, rfl, hown, hm5⟩
  have HM5 := Lib.hid (Mod.trans HM4.out hm5 (fun _ _ h => h))
  rw [← HS32.out] at hown
  obtain ⟨A5, c5, rfl, -, hC5, -, -⟩ := own_cells hown
  have hcv := run_bytes (P := Tryd.prog) c5 hC5 25 9 5 Tryd.underlying25 Tryd.underlying5 Tryd.underlying9
  clear hm5 hown hC5
  go_wp2_with fail
  go_ret
  exact ⟨rfl, HM5.out.below (fun _ _ h => h)⟩
end Hash
end Go.Proofs.YtocakemfihhidaaDoor
