/- The walk of tussocklaw06.shown. -/
import Derived.Test.YtjcdekipkpmniaaGearR
namespace Go.Proofs.Ytjcdekipkpmniaa
open Go.RowKit K
namespace Gear

theorem tbl0 : tbl 0 = 16294208416658607535 := by decide +kernel

theorem table0 (w : World) : Calls Try.prog 12 #[.int .u8 0] w fun e w' => e = .returned (.int .u64 16294208416658607535) ∧ w' = w := by
  have h := table_calls 0 w
  rw [tbl0] at h
  exact h

theorem cuts64 : cuts (List.replicate 64 97) 0 0 0 = [64] := by
  rw [cuts_first 64 _ 0 0 0 (by omega) (by omega), if_pos (by simp)]
  simp

set_option maxRecDepth 100000 in
set_option maxHeartbeats 1000000 in
theorem shown_calls (w : World) : Calls Try.prog 10 #[] w fun e w' => e = .returned (.bool true) ∧ Mod (fun _ => False) w w' := by
  have hc := fun w => cuts_calls ⟨(List.replicate 64 97).toArray⟩ w (by simp [ByteArray.size])
  simp only [cuts64] at hc
  have HC := Lib.hid hc
  clear hc
  go_enter Try.func10, Try.ntmps10
  go_wp2_with fail
  refine (HC.out _).mono ?_
  rintro e w1 ⟨v, rfl, hown, hm⟩
  obtain ⟨A, cap, rfl, hcap, h | ⟨b, o, rfl, hcell⟩, -, -⟩ := own_cells hown
  · simp at h
  have h1 := hcell 0 (.int .i64 64) rfl
  rw [Nat.add_zero] at h1
  clear hcell
  have HM := Lib.hid hm
  clear hm hown
  go_wp2_with (first | (go_at_call 12; refine (table0 _).mono ?_; rintro e w' ⟨rfl, hw⟩; subst hw))
  go_ret
  exact ⟨rfl, HM.out⟩
end Gear
end Go.Proofs.Ytjcdekipkpmniaa
