/- The walks of wire.PutText, the reference's Text, wire.bits, wire.TakeInt. -/
import Derived.Test.YtenamjldkaggcaaDoorWireW
import Derived.WalkMore
namespace Go.Proofs.YtenamjldkaggcaaDoor
set_option linter.unusedVariables false
set_option linter.unusedSimpArgs false
open Go.RowKit K
namespace Wire

theorem byte_zero : ∀ i z, Tryd.prog.info? 5 = some i → i.zero = some z → z = .int .u8 0 := by
  intro i z hi hz
  have h : (Tryd.prog.info? 5).map (·.zero) = some (some (.int .u8 0)) := by kernel_rfl
  rw [hi] at h
  simp only [Option.map_some, Option.some.injEq] at h
  rw [h] at hz
  exact (Option.some.inj hz).symm

theorem in64_len (k : Nat) (h : k ≤ 140737488355328) : In64 (k : Int) := by unfold In64; omega

set_option maxRecDepth 100000 in
set_option maxHeartbeats 400000 in
theorem putText_calls (A : Option Addr) (c : Nat) (l : List UInt8) (s : ByteArray) (w : World) (hA : Cells w A (bv l)) (hl : l.length + 10 + s.size ≤ 140737488355327) (hnil : A = none → l = []) :
    Calls Tryd.prog 81 #[.slice A l.length c, .string s] w (BytesPost (l ++ encT s.data.toList) w) := by
  have hi := in64_len s.size (by omega)
  have hp := putInt_calls A c l s.size w hA (by omega) hnil hi
  have hlen := enc_len _ hi
  have HP := Lib.hid hp
  clear hp hA hnil hi
  go_enter Tryd.func81, Tryd.ntmps81
  go_wp2_with fail
  refine HP.out.mono ?_
  rintro e w1 ⟨v, rfl, hown, hm⟩
  have hsz := hm.size
  go_wp2_with (first
    | (at_builtin; go_must (refine app_str _ _ bytes_t byte_zero Tryd.underlying9 w.heap.size _ _ _ hown s rfl rfl rfl rfl (by simp; unfold maxLen; omega) (by simp; omega) (by omega) ?_; intro v' w2 hown2 hm2)))
  go_ret
  refine ⟨_, rfl, ?_, Mod.trans hm hm2 (fun i hi ⟨h, _⟩ => by omega)⟩
  have hs2 : s.data.toList.length = s.size := by simp
  rw [encT, ← List.append_assoc, List.length_append, hs2, bv_append]
  exact hown2

set_option maxRecDepth 100000 in
set_option maxHeartbeats 400000 in
theorem refText_calls (s : ByteArray) (w : World) (hl : 10 + s.size ≤ 140737488355327) :
    Calls Tryd.prog 85 #[.string s] w (BytesPost (encT s.data.toList) w) := by
  have hi := in64_len s.size (by omega)
  have hp := refInt_calls s.size w hi
  have hlen := enc_len _ hi
  have HP := Lib.hid hp
  clear hp hi
  go_enter Tryd.func85, Tryd.ntmps85
  go_wp2_with fail
  refine HP.out.mono ?_
  rintro e w1 ⟨v, rfl, hown, hm⟩
  have hsz := hm.size
  go_wp2_with (first
    | (at_builtin; go_must (refine app_str _ _ bytes_t byte_zero Tryd.underlying9 w.heap.size _ _ _ hown s rfl rfl rfl rfl (by unfold maxLen; omega) (by omega) (by omega) ?_; intro v' w2 hown2 hm2)))
  go_ret
  refine ⟨_, rfl, ?_, Mod.trans hm hm2 (fun i hi ⟨h, _⟩ => by omega)⟩
  have hs2 : s.data.toList.length = s.size := by simp
  rw [encT, List.length_append, hs2, bv_append]
  exact hown2

/-- what bits tells -/
def BitsPost (l : List UInt8) (w : World) (e : Ending) (w' : World) : Prop :=
  ∃ (u : Int) (k : Nat), e = .returned (.tuple #[.int .u64 u, .int .i64 k]) ∧ w' = w ∧ (bitsLen l 0 = none → k = 0) ∧ (∀ j, bitsLen l 0 = some j → k = j ∧ u = valU (l.take j))

theorem bitsLen_drop (l : List UInt8) (k : Nat) (h : k < l.length) : bitsLen (l.drop k) k = if 9 < k ∨ (k = 9 ∧ 1 < l[k].toNat) then none else if l[k].toNat < 128 then some (k + 1) else bitsLen (l.drop (k + 1)) (k + 1) := by
  rw [List.drop_eq_getElem_cons h]; rfl

theorem valU_take (l : List UInt8) (k : Nat) (h : k < l.length) : valU (l.take (k + 1)) = valU (l.take k) + 128 ^ k * (l[k].toNat % 128) := by
  rw [List.take_succ_eq_append_getElem h, valU_append]
  simp only [valU, List.length_take]
  rw [Nat.min_eq_left (by omega)]; rfl

theorem valU_take_lt (l : List UInt8) (k : Nat) : valU (l.take k) < 128 ^ k := by
  have h := valU_lt (l.take k)
  have h2 : 128 ^ (l.take k).length ≤ 128 ^ k := Nat.pow_le_pow_right (by decide) (by simp; omega)
  omega

theorem or_add (x y k : Nat) (hk : k ≤ 9) (hx : x < 128 ^ k) (hy : y * 128 ^ k < 18446744073709551616) : bits .or .u64 (x : Int) ((y * 128 ^ k : Nat) : Int) = ((x + 128 ^ k * y : Nat) : Int) := by
  have hx2 : x < 18446744073709551616 := by
    have h1 : 128 ^ k ≤ 128 ^ 9 := Nat.pow_le_pow_right (by decide) hk
    omega
  rw [bits_or_u64_nat _ _ hx2 hy]
  have e : (128 : Nat) ^ k = 2 ^ (7 * k) := by rw [Nat.pow_mul]
  rw [e] at hx ⊢
  rw [Nat.mul_comm y, Nat.or_comm, ← Nat.two_pow_add_eq_or_of_lt hx, Nat.add_comm]

theorem and127 : ∀ x : Fin 256, x.val &&& 127 = x.val % 128 := by decide +kernel
theorem byte_and (y : Nat) (h : y < 256) : bits .and .u8 (y : Int) 127 = ((y % 128 : Nat) : Int) := by
  rw [u8_and _ _ (by omega) (by omega) (by omega) (by omega)]
  have := and127 ⟨y, h⟩
  dsimp only at this
  rw [Int.toNat_natCast, show (127 : Int).toNat = 127 from rfl, this]

theorem shl7 (y k : Nat) (h : y * 128 ^ k < 18446744073709551616) : IntKind.u64.wrap ((y : Int) * 2 ^ (7 * k)) = ((y * 128 ^ k : Nat) : Int) := by
  have e : (128 : Nat) ^ k = 2 ^ (7 * k) := by rw [Nat.pow_mul]
  have e2 : ((y * 128 ^ k : Nat) : Int) = (y : Int) * 2 ^ (7 * k) := by rw [e]; simp
  rw [← e2, IntKind.wrap_u64]; omega

theorem mul_pow_lt (y k : Nat) (hy : y < 128) (hk : k ≤ 8) : y * 128 ^ k < 18446744073709551616 := by
  have h1 : 128 ^ k ≤ 128 ^ 8 := Nat.pow_le_pow_right (by decide) hk
  have h2 : y * 128 ^ k ≤ 127 * 128 ^ 8 := Nat.mul_le_mul (by omega) h1
  omega

set_option maxRecDepth 100000 in
set_option maxHeartbeats 1000000 in
theorem bits_calls (A : Option Addr) (c : Nat) (l : List UInt8) (w : World) (hA : Cells w A (bv l)) (hl : l.length ≤ 140737488355328) :
    Calls Tryd.prog 94 #[.slice A l.length c] w (BitsPost l w) := by
  have HA := Lib.hid hA
  clear hA
  go_enter Tryd.func94, Tryd.ntmps94
  go_wp2_with fail
  go_step3
  go_wp2_with fail
  go_step3
  go_wp2_with fail
  go_loop [10, 4, 5] (fun i u r => ∃ (k x : Nat), i = .int .i64 k ∧ u = .int .u64 x ∧ r = .int .i64 0 ∧ k ≤ l.length ∧ k ≤ 9 ∧ x < 128 ^ k ∧ Hid (x = valU (l.take k)) ∧ Hid (bitsLen l 0 = bitsLen (l.drop k) k)) (fun i _ _ => l.length - (intOf i).toNat)
  case atStart => exact ⟨0, 0, by go_num, rfl, rfl, by omega, by omega, by decide, Lib.hid rfl, Lib.hid rfl⟩
  case round =>
    obtain ⟨k, x, rfl, rfl, rfl, hk, hk9, hx, HV, HB⟩ := hrel
    by_cases hlt : k < l.length
    · have hb := bitsLen_drop l k hlt
      rw [← HB.out] at hb
      rcases HA.out with h | ⟨b, o, rfl, hcell⟩
      · have := congrArg List.length h; rw [bv_length] at this; simp at this; subst this; simp at hlt
      have c1 := hcell k _ (bv_get l k hlt)
      have hvt := valU_take l k hlt
      clear hcell HA
      obtain ⟨d, hd⟩ : ∃ d, l[k] = d := ⟨_, rfl⟩
      rw [hd] at c1 hb hvt
      have HVT := Lib.hid hvt
      clear hvt
      have HBK := Lib.hid hb
      clear hb HB
      have hd2 := d.toNat_lt
      generalize d.toNat = y at *
      have i1 : (k : Int) < (l.length : Int) := by omega
      clear hd
      go_wp2_with fail
      case roundEnd =>
        have hk8 : k ≤ 8 := by omega
        have hw : IntKind.u64.wrap (bits .and .u8 (y : Int) 127) = ((y % 128 : Nat) : Int) := by rw [byte_and y hd2, IntKind.wrap_u64]; omega
        have hm := mul_pow_lt (y % 128) k (by omega) hk8
        have hb := HBK.out
        rw [if_neg (by omega), if_neg (by omega)] at hb
        have hv := HVT.out
        rw [← HV.out] at hv
        have hlt2 := valU_take_lt l (k + 1)
        go_round
        case rel =>
          refine ⟨k + 1, x + 128 ^ k * (y % 128), by go_num, ?_, rfl, by omega, by omega, ?_, Lib.hid hv.symm, Lib.hid hb⟩
          · rw [hw, shl7 _ _ hm, or_add _ _ _ (by omega) hx hm]
          · rw [← hv]; exact hlt2
        case measure => simp [intOf]; omega
      all_goals
        go_ret2
        first
          | (refine ⟨_, 0, rfl, rfl, fun _ => rfl, fun j hj => ?_⟩
             have hb := HBK.out
             rw [if_pos (by omega)] at hb
             rw [hb] at hj; cases hj)
          | (have hk' : k = 9 := by omega
             subst hk'
             have hb := HBK.out
             rw [if_neg (by omega), if_pos (by omega)] at hb
             refine ⟨_, 10, rfl, rfl, (fun h => by rw [hb] at h; cases h), fun j hj => ?_⟩
             rw [hb] at hj
             obtain rfl := Option.some.inj hj
             refine ⟨rfl, ?_⟩
             have hv := HVT.out
             rw [← HV.out] at hv
             rw [hv, show y % 128 = y by omega]
             have := or_add x y 9 (by omega) hx (by omega)
             rw [← this]
             congr 1)
          | (have hb := HBK.out
             rw [if_neg (by omega), if_pos (by omega)] at hb
             refine ⟨bits .or .u64 (x : Int) (IntKind.u64.wrap ((y : Int) * 2 ^ (7 * k))), k + 1, by simp, rfl, (fun h => by rw [hb] at h; cases h), fun j hj => ?_⟩
             rw [hb] at hj
             obtain rfl := Option.some.inj hj
             refine ⟨rfl, ?_⟩
             have hv := HVT.out
             rw [← HV.out] at hv
             have hm := mul_pow_lt y k (by omega) (by omega)
             rw [hv, show y % 128 = y by omega, shl7 _ _ hm, or_add _ _ _ (by omega) hx hm])
    · obtain rfl : k = l.length := by omega
      have hb := HB.out
      rw [List.drop_of_length_le (Nat.le_refl _)] at hb
      have HBN := Lib.hid hb
      clear hb HB
      go_wp2_with fail
      go_ret2
      exact ⟨_, 0, rfl, rfl, fun _ => rfl, fun j hj => by rw [HBN.out] at hj; simp [bitsLen] at hj⟩
end Wire
end Go.Proofs.YtenamjldkaggcaaDoor
