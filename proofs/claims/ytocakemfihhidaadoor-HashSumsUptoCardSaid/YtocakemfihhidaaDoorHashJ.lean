/- The walks of tussocklaw02.joined and shown. -/
import Derived.Test.YtocakemfihhidaaDoorHashH
namespace Go.Proofs.YtocakemfihhidaaDoor
open Go.RowKit K
namespace Hash

theorem flat_take (ps : List ByteArray) (k : Nat) (h : k < ps.length) : flat (ps.take (k + 1)) = flat (ps.take k) ++ ps[k].data.toList := by
  unfold flat
  rw [List.take_succ_eq_append_getElem h, List.flatMap_append]; simp
theorem flat_take_le (ps : List ByteArray) (k : Nat) : (flat (ps.take k)).length ≤ (flat ps).length := by
  unfold flat
  conv => rhs; rw [← List.take_append_drop k ps, List.flatMap_append, List.length_append]
  omega

set_option maxRecDepth 100000 in
set_option maxHeartbeats 4000000 in
theorem joined_calls (A : Option Addr) (c : Nat) (ps : List ByteArray) (w : World) (hA : Cells w A (ps.map .string)) (hn : ps.length ≤ 1048576) (hl : (flat ps).length ≤ 1048576) :
    Calls Tryd.prog 10 #[.slice A ps.length c] w fun e w' => e = .returned (.string ⟨(flat ps).toArray⟩) ∧ Mod (fun _ => False) w w' := by
  have HA := Lib.hid hA
  clear hA
  go_enter Tryd.func10, Tryd.ntmps10
  go_wp2_with fail
  go_loopw [3, 4] (fun out i w' => ∃ (k : Nat) (acc : List UInt8), i = .int .i64 k ∧ k ≤ ps.length ∧ Hid (acc = flat (ps.take k)) ∧ w'.ownsRow w.heap.size 5 1 out acc.length (bv acc) ∧ Hid (Mod (fun _ => False) w w')) (fun _ i _ => ps.length - (intOf i).toNat)
  case atStart => exact ⟨0, [], by go_num, by omega, Lib.hid rfl, World.ownsRow_nil _ _ _ _, Lib.hid (Mod.refl _ _)⟩
  case round =>
    obtain ⟨k, acc, rfl, hk, HX, hown, HM⟩ := hrel
    by_cases hlt : k < ps.length
    · rcases HA.out with h | ⟨ab, ao, rfl, hcell⟩
      · simp at h; subst h; simp at hlt
      obtain ⟨p, hp⟩ : ∃ p, ps[k] = p := ⟨_, rfl⟩
      have c1 := hcell k (.string p) (by rw [List.getElem?_map, List.getElem?_eq_getElem hlt, hp]; rfl)
      rw [← HM.out.cell (World.block_lt_of_cell? w _ c1) (fun h => h)] at c1
      have hft := flat_take ps k hlt
      have hle := flat_take_le ps (k + 1)
      rw [hft, List.length_append, ← HX.out, hp] at hle
      rw [hp, ← HX.out] at hft
      have hpz : p.data.toList.length = p.size := by simp
      have i1 : (k : Int) < (ps.length : Int) := by omega
      have HFT := Lib.hid hft
      have hsz := HM.out.size
      clear hcell hp hft
      go_wp2_with (first
        | fail
        | (at_builtin; go_must (refine app_str _ _ bytes_t (fun i z hi hz => by cases hi; cases hz; rfl) Tryd.underlying9 w.heap.size _ acc.length (bv acc) hown p rfl rfl rfl rfl (by unfold maxLen; omega) (by omega) hsz ?_; intro v2 w2 hown2 hm2)))
      go_roundw
      case rel => exact ⟨k + 1, acc ++ p.data.toList, by go_num, by omega, Lib.hid HFT.out.symm, by rw [bv_append, List.length_append, hpz]; exact hown2, Lib.hid (Mod.trans HM.out hm2 (fun i hi ⟨h, _⟩ => absurd h (by omega)))⟩
      case measure => simp [intOf]; omega
    · obtain rfl : k = ps.length := by omega
      have hX := HX.out
      rw [List.take_of_length_le (Nat.le_refl _)] at hX
      have HX := Lib.hid hX
      obtain ⟨A9, c9, rfl, hc9, hA9, -, -⟩ := own_cells hown
      have hcv9 := run_bytes (P := Tryd.prog) c9 hA9 25 9 5 Tryd.underlying25 Tryd.underlying5 Tryd.underlying9
      clear hown hA9 hX
      go_wp2_with fail
      go_ret
      rw [← HX.out]
      exact ⟨rfl, HM.out⟩

theorem shaAbc : hex (sha [97, 98, 99]) = [98, 97, 55, 56, 49, 54, 98, 102, 56, 102, 48, 49, 99, 102, 101, 97, 52, 49, 52, 49, 52, 48, 100, 101, 53, 100, 97, 101, 50, 50, 50, 51, 98, 48, 48, 51, 54, 49, 97, 51, 57, 54, 49, 55, 55, 97, 57, 99, 98, 52, 49, 48, 102, 102, 54, 49, 102, 50, 48, 48, 49, 53, 97, 100] := by decide +kernel

theorem blocks_len (v : V8) : (v.list.flatMap (be 4)).length = 32 := by simp [V8.list, be_len]
theorem sha_len (l : List UInt8) : (sha l).length = 32 := blocks_len _

set_option maxRecDepth 100000 in
set_option maxHeartbeats 4000000 in
theorem shown_calls (w : World) (hK : Keys w) : Calls Tryd.prog 7 #[] w fun e w' => e = .returned (.bool true) ∧ Mod (fun _ => False) w w' := by
  have hsum := sum_calls (some ⟨w.heap.size, 0, none⟩) 1 [⟨#[97, 98, 99]⟩] (w.alloc (.cells #[.string ⟨#[97, 98, 99]⟩] 9)) (hK.keep (Mod.alloc (Mod.refl (fun _ => False) w) _) (fun h => h))
    (.inr ⟨_, 0, rfl, fun j u hj => by rw [Nat.zero_add]; exact (Has.new w [.string ⟨#[97, 98, 99]⟩] 9).cell hj⟩) (by simp) (by simp) (by decide)
  rw [show flat [⟨#[97, 98, 99]⟩] = [97, 98, 99] from rfl] at hsum
  have hsl := sha_len [97, 98, 99]
  have hx := shaAbc
  generalize sha [97, 98, 99] = S at *
  have HS := Lib.hid hsum
  have hhx := fun w => hex_calls ⟨S.toArray⟩ w (by rw [size_b]; omega)
  rw [show (⟨S.toArray⟩ : ByteArray).data.toList = S from rfl, hx] at hhx
  have HH := Lib.hid hhx
  clear hsum hhx hx
  go_enter Tryd.func7, Tryd.ntmps7
  go_wp2_with fail
  refine HS.out.mono ?_
  rintro e w1 ⟨rfl, hm1⟩
  have HM1 := Lib.hid (Mod.trans (Mod.alloc (Mod.refl (fun _ => False) w) _) hm1 (fun _ _ h => h))
  clear hm1
  go_wp2_with fail
  refine (HH.out _).mono ?_
  rintro e w2 ⟨rfl, hm2⟩
  have HM2 := Lib.hid (Mod.trans HM1.out hm2 (fun _ _ h => h))
  clear hm2
  go_wp2_with fail
  go_ret
  exact ⟨rfl, HM2.out⟩
end Hash
end Go.Proofs.YtocakemfihhidaaDoor
