/- The law HashHex: bytes are written as digits, and read from what may be such, as the document says. -/
import Derived.Test.YtocakemfihhidaaDoorHashV
namespace Go.Proofs.YtocakemfihhidaaDoor
open Go.RowKit K
namespace Hash

set_option maxRecDepth 100000 in
set_option maxHeartbeats 4000000 in
theorem hashHex_calls (s t : ByteArray) (w : World) (hK : Keys w) (hs : s.size ≤ 1048576) (ht : t.size ≤ 1048576) :
    Calls Tryd.prog 5 #[.string s, .string t] w fun e w' => e = .returned (.bool true) ∧ Below w.heap.size w w' := by
  have HS := Lib.hid (shown_calls w hK)
  have hx1 := fun w => unhex_calls t w (by omega)
  have hx2 := fun w => refUnhex_calls t w (by omega)
  have hx3 := fun w => hex_calls s w hs
  have hx4 := fun w => refHex_calls s w hs
  generalize unhexA t.data.toList = U at *
  generalize hex s.data.toList = X at *
  obtain ⟨b, ok⟩ := U
  have HX1 := Lib.hid hx1
  have HX2 := Lib.hid hx2
  have HX3 := Lib.hid hx3
  have HX4 := Lib.hid hx4
  clear hx1 hx2 hx3 hx4 hK
  go_enter Tryd.func5, Tryd.ntmps5
  go_wp2_with fail
  refine HS.out.mono ?_
  rintro e w1 ⟨rfl, hm1⟩
  have HM1 := Lib.hid hm1
  clear hm1
  go_wp2_with fail
  refine (HX1.out _).mono ?_
  rintro e w2 ⟨rfl, hm2⟩
  have HM2 := Lib.hid (Mod.trans HM1.out hm2 (fun _ _ h => h))
  clear hm2
  dsimp only
  go_wp2_with fail
  refine (HX2.out _).mono ?_
  rintro e w3 ⟨rfl, hm3⟩
  have HM3 := Lib.hid (Mod.trans HM2.out hm3 (fun _ _ h => h))
  clear hm3
  dsimp only
  go_wp2_with fail
  refine (HX3.out _).mono ?_
  rintro e w4 ⟨rfl, hm4⟩
  have HM4 := Lib.hid (Mod.trans HM3.out hm4 (fun _ _ h => h))
  clear hm4
  go_wp2_with fail
  refine (HX4.out _).mono ?_
  rintro e w5 ⟨rfl, hm5⟩
  have HM5 := Lib.hid (Mod.trans HM4.out hm5 (fun _ _ h => h))
  clear hm5
  go_wp2_with fail
  go_ret
  exact ⟨rfl, HM5.out.below (fun _ _ h => h)⟩
end Hash
end Go.Proofs.YtocakemfihhidaaDoor
