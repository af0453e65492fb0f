/- The walk of the law GearCuts. -/
import Derived.Test.YtjcdekipkpmniaaGearS
namespace Go.Proofs.Ytjcdekipkpmniaa
open Go.RowKit K
namespace Gear

set_option maxRecDepth 100000 in
set_option maxHeartbeats 1000000 in
theorem gearCuts_calls (c : Int) (a : ByteArray) (w : World) (ha : a.size ≤ 140737488351232) :
    Calls Try.prog 3 #[.int .u8 c, .string a] w fun e w' => e = .returned (.bool true) ∧ Below w.heap.size w w' := by
  have hs := cutS_size a
  go_enter Try.func3, Try.ntmps3
  go_wp2_with fail
  refine (shown_calls _).mono ?_
  rintro e w1 ⟨rfl, hm⟩
  have HM := Lib.hid hm
  clear hm
  have hL := cuts_len (cutS a).data.toList 0 0 0 (Int.le_refl _)
  have hl2 : (cutS a).data.toList.length = (cutS a).size := by simp
  have hL2 : (cuts (cutS a).data.toList 0 0 0).length ≤ 1000000000 := by omega
  clear hL hl2
  go_wp2_with (first
    | (go_at_call 11; refine (cut_calls _ _ ha).mono ?_; rintro e w' ⟨rfl, hw⟩; subst hw)
    | (go_at_call 12; refine (table_calls _ _).mono ?_; rintro e w' ⟨rfl, hw⟩; subst hw)
    | (go_at_call 13; refine (refTable_calls _ _).mono ?_; rintro e w' ⟨rfl, hw⟩; subst hw)
    | fail)
  refine (cuts_calls _ _ (by omega)).mono ?_
  rintro e w1 ⟨v, rfl, hown, hm1⟩
  obtain ⟨A, cap, rfl, hcap, hA⟩ := own_cells hown
  have HM1 := Lib.hid (Mod.trans HM.out hm1 (fun _ _ h => h))
  have HA := Lib.hid hA
  clear hm1 hown HM hA
  go_wp2_with fail
  refine (refCuts_calls _ _ (by omega)).mono ?_
  rintro e w2 ⟨v, rfl, hown, hm2⟩
  obtain ⟨B, cap2, rfl, hcap2, hB⟩ := own_cells hown
  have hA := HA.out.keep hm2 (fun _ _ h => h)
  have HM2 := Lib.hid (Mod.trans HM1.out hm2 (fun _ _ h => h))
  clear hm2 HA HM1
  go_wp2_with fail
  refine (same_calls _ A B cap cap2 _ hA hB hL2).mono ?_
  rintro e w3 ⟨rfl, m, rfl⟩
  clear hA hB hown
  go_wp2_with fail
  go_ret
  exact ⟨rfl, (HM2.out.drewN _).below (fun _ _ h => h)⟩
end Gear
end Go.Proofs.Ytjcdekipkpmniaa
