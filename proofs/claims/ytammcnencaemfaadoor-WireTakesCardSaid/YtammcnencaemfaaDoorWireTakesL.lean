/- The walk of the law WireTakes. -/
import Derived.Test.YtammcnencaemfaaDoorWireS
namespace Go.Proofs.YtammcnencaemfaaDoor
open Go.RowKit K
namespace Wire

set_option maxRecDepth 100000 in
set_option maxHeartbeats 1000000 in
theorem wireTakes_calls (A : Option Addr) (c : Nat) (l : List UInt8) (at_ most : Int) (w : World) (ht : Tab w) (hb : BytesIn w A c l) :
    Calls Tryd.prog 3 #[.slice A l.length c, .int .i64 at_, .int .i64 most] w fun e w' => e = .returned (.bool true) ∧ Below w.heap.size w w' := by
  obtain ⟨hA, hadr, hc, hc2, hl1, -⟩ := hb
  have hl : l.length ≤ 140737488355328 := by omega
  have HS := Lib.hid (shown_calls w ht)
  have HA := Lib.hid hA
  clear hA ht
  go_enter Tryd.func3, Tryd.ntmps3
  go_wp2_with fail
  refine HS.out.mono ?_
  rintro e w1 ⟨rfl, hm⟩
  have HM := Lib.hid hm
  clear hm HS
  go_wp2_with fail
  refine (takeInt_calls A c l at_ w1 (HA.out.keep HM.out (fun _ _ h => h)) hl hc hc2 hadr).mono ?_
  rintro e w' ⟨rfl, hw⟩; subst hw
  unfold vI
  go_wp2_with fail
  refine (refTakeInt_calls A c l at_ w' (HA.out.keep HM.out (fun _ _ h => h)) hl hc hc2 hadr).mono ?_
  rintro e w2 ⟨rfl, hm⟩
  have HM2 := Lib.hid (Mod.trans HM.out hm (fun _ _ h => h))
  clear hm HM
  unfold vI
  go_wp2_with fail
  refine (takeText_calls A c l at_ most w2 (HA.out.keep HM2.out (fun _ _ h => h)) hl hc hc2 hadr).mono ?_
  rintro e w' ⟨rfl, hw⟩; subst hw
  unfold vT
  go_wp2_with fail
  refine (refTakeText_calls A c l at_ most w' (HA.out.keep HM2.out (fun _ _ h => h)) hl hc hc2 hadr).mono ?_
  rintro e w3 ⟨rfl, hm⟩
  have HM3 := Lib.hid (Mod.trans HM2.out hm (fun _ _ h => h))
  clear hm HM2
  unfold vT
  generalize takeI l at_ = r
  generalize takeT l at_ most = s
  obtain ⟨r1, r2, r3⟩ := r
  obtain ⟨s1, s2, s3⟩ := s
  dsimp only
  go_wp2_with fail
  go_ret
  exact ⟨rfl, HM3.out.below (fun _ _ h => h)⟩
end Wire
end Go.Proofs.YtammcnencaemfaaDoor
