/- The walks of slices.Clone of bytes, wire.PutInt, PutText, of the reference's Int and Text. -/
import Derived.Test.YtenamjldkaggcaaDoorK
import Derived.Test.YtenamjldkaggcaaDoorWireF
import Derived.Laws.BitsAllLaws
import Derived.Laws.Bits64b
import Derived.Outline
namespace Go.Proofs.YtenamjldkaggcaaDoor
set_option linter.unusedVariables false
set_option linter.unusedSimpArgs false
open Go.RowKit K
namespace Wire

set_option maxRecDepth 100000 in
theorem bytes_t : SliceT Tryd.prog 75 5 1 1 := ⟨Tryd.underlying75, by decide, _, .int .u8 0, rfl, rfl, rfl, rfl, rfl⟩

/-- a result: a row of bytes in new memory -/
def BytesPost (l : List UInt8) (w : World) (e : Ending) (w' : World) : Prop :=
  ∃ v, e = .returned v ∧ w'.ownsRow w.heap.size 5 1 v l.length (bv l) ∧ Mod (fun _ => False) w w'

set_option maxRecDepth 100000 in
set_option maxHeartbeats 400000 in
theorem clone_calls (A : Option Addr) (c : Nat) (l : List UInt8) (w : World) (hA : Cells w A (bv l)) (hl : l.length ≤ 140737488355328) (hn : A = none → l = []) :
    Calls Tryd.prog 95 #[.slice A l.length c] w (BytesPost l w) := by
  have hL : l.length ≤ maxLen := by unfold maxLen; omega
  cases A with
  | none =>
    obtain rfl := hn rfl
    have hq := Lib.run_eql_slice_nil (P := Tryd.prog) w 75 5 none 0 c 0 0 Tryd.underlying75
    go_enter Tryd.func95, Tryd.ntmps95
    go_wp2_with fail
    go_ret
    exact ⟨_, rfl, World.ownsRow_nil _ _ _ _, Mod.refl _ _⟩
  | some a =>
    have hq := Lib.run_eql_slice_nil (P := Tryd.prog) w 75 5 (some a) l.length c 0 0 Tryd.underlying75
    have hnews : ∀ j u, (bv l)[j]? = some u → w.cell? (a.add j) = some u := by
      intro j u hj
      rcases hA with h | ⟨b, o, ha, hc⟩
      · rw [h] at hj; simp at hj
      · obtain rfl := Option.some.inj ha
        rw [show (⟨b, o, none⟩ : Addr).add j = ⟨b, o + j, none⟩ by unfold Addr.add; split <;> simp_all]
        exact hc j u hj
    have HN := Lib.hid hnews
    have HA := Lib.hid hA
    clear hnews hA hn
    go_enter Tryd.func95, Tryd.ntmps95
    go_wp2_with (first
      | (at_builtin; go_must (refine app _ _ bytes_t w.heap.size _ 0 [] (World.ownsRow_lit w #[] 0 (Nat.le_refl _) (by unfold maxLen; omega) rfl) a l.length c (bv l) rfl rfl rfl rfl (by rw [bv_length]; omega) (fun j u hj => by rw [cell_new_old _ _ _ (World.block_lt_of_cell? _ _ (HN.out j u hj))]; exact HN.out j u hj) (bv_one l) (by omega) (by omega) (by simp) ?_; intro v' w2 hown2 hm2)))
    go_ret
    refine ⟨_, rfl, by simpa using hown2, ?_⟩
    exact Mod.trans (Mod.alloc (Mod.refl _ _) _) hm2 (fun i hi ⟨h, _⟩ => by omega)

/-- the bytes of a number, one by one -/
theorem encU_step (u : Nat) : encU u = if u < 128 then [UInt8.ofNat u] else UInt8.ofNat (u % 128 + 128) :: encU (u / 128) := by
  split
  · exact encU_small u (by assumption)
  · exact encU_big u (by omega)

theorem xor_ones (a : Nat) (h : a < 18446744073709551616) : a ^^^ 18446744073709551615 = 18446744073709551615 - a := by
  apply Nat.eq_of_testBit_eq
  intro i
  have e : 18446744073709551615 - a = 2 ^ 64 - (a + 1) := by omega
  have e2 : (18446744073709551615 : Nat) = 2 ^ 64 - 1 := by decide
  rw [Nat.testBit_xor, e, Nat.testBit_two_pow_sub_succ (by omega), e2, Nat.testBit_two_pow_sub_one]
  by_cases hi : i < 64
  · simp [hi]
  · have : a.testBit i = false := Nat.testBit_lt_two_pow (Nat.lt_of_lt_of_le h (by
      have := Nat.pow_le_pow_right (show 2 > 0 by decide) (show 64 ≤ i by omega); omega))
    simp [hi, this]

theorem zig_xor (n : Int) (hn : In64 n) : bits .xor .u64 (IntKind.u64.wrap (IntKind.u64.wrap n * 2)) (IntKind.u64.wrap (n / 9223372036854775808)) = (zig n : Int) := by
  unfold In64 at hn
  simp only [IntKind.wrap_u64]
  by_cases h : 0 ≤ n
  · have e1 : n % 18446744073709551616 * 2 % 18446744073709551616 = ((2 * n).toNat : Int) := by omega
    have e2 : n / 9223372036854775808 % 18446744073709551616 = ((0 : Nat) : Int) := by omega
    rw [e1, e2, bits_xor_u64_nat _ _ (by omega) (by omega), Nat.xor_zero, zig, if_pos h]
  · have e1 : n % 18446744073709551616 * 2 % 18446744073709551616 = ((2 * n + 18446744073709551616).toNat : Int) := by omega
    have e2 : n / 9223372036854775808 % 18446744073709551616 = ((18446744073709551615 : Nat) : Int) := by omega
    rw [e1, e2, bits_xor_u64_nat _ _ (by omega) (by omega), xor_ones _ (by omega), zig, if_neg h]
    omega

theorem zig_pos (n : Int) (hn : In64 n) (h : 0 ≤ n) : IntKind.u64.wrap (IntKind.u64.wrap n * 2) = (zig n : Int) := by
  unfold In64 at hn
  simp only [IntKind.wrap_u64]
  rw [zig, if_pos h]; omega

theorem zig_neg (n : Int) (hn : In64 n) (h : n < 0) : bits .xor .u64 IntKind.u64.max (IntKind.u64.wrap (IntKind.u64.wrap n * 2)) = (zig n : Int) := by
  unfold In64 at hn
  simp only [IntKind.wrap_u64]
  have e1 : n % 18446744073709551616 * 2 % 18446744073709551616 = ((2 * n + 18446744073709551616).toNat : Int) := by omega
  have e2 : IntKind.u64.max = ((18446744073709551615 : Nat) : Int) := by decide
  rw [e1, e2, bits_xor_u64_nat _ _ (by omega) (by omega), Nat.xor_comm, xor_ones _ (by omega), zig, if_neg (by omega)]
  omega

theorem or128 : ∀ x : Fin 256, x.val ||| 128 = x.val % 128 + 128 := by decide +kernel

theorem byte_or (u : Nat) : bits .or .u8 ((u : Int) % 256) 128 = ((UInt8.ofNat (u % 128 + 128)).toNat : Int) := by
  rw [toNat_of _ (by omega), u8_or _ _ (by omega) (by omega) (by omega) (by omega)]
  have e : ((u : Int) % 256).toNat = u % 256 := by omega
  have := or128 ⟨u % 256, Nat.mod_lt _ (by decide)⟩
  dsimp only at this
  rw [e, show (128 : Int).toNat = 128 from rfl, this]
  have : u % 256 % 128 = u % 128 := by omega
  rw [this]

theorem byte_wrap (u : Nat) (h : u < 128) : (u : Int) % 256 = ((UInt8.ofNat u).toNat : Int) := by
  rw [toNat_of _ (by omega)]; omega

set_option maxRecDepth 100000 in
set_option maxHeartbeats 1000000 in
theorem putInt_calls (A : Option Addr) (c : Nat) (l : List UInt8) (n : Int) (w : World) (hA : Cells w A (bv l)) (hl : l.length + 10 ≤ 140737488355328) (hnil : A = none → l = []) (hn : In64 n) :
    Calls Tryd.prog 79 #[.slice A l.length c, .int .i64 n] w (BytesPost (l ++ enc n) w) := by
  have hc := clone_calls A c l w hA (by omega) hnil
  have HC := Lib.hid hc
  have HX := Lib.hid (zig_xor n hn)
  have hz := zig_lt n hn
  have hlen := enc_len n hn
  clear hc hA hnil
  go_enter Tryd.func79, Tryd.ntmps79
  go_wp2_with fail
  refine HC.out.mono ?_
  rintro e w1 ⟨v, rfl, hown, hm⟩
  have HM := Lib.hid hm
  clear hm
  go_wp2_with fail
  rw [HX.out]
  go_loopw [0, 5] (fun v u w' => ∃ (acc : List UInt8) (x : Nat), u = .int .u64 x ∧ x < 18446744073709551616 ∧ w'.ownsRow w.heap.size 5 1 v (l.length + acc.length) (bv (l ++ acc)) ∧
      Hid (acc ++ encU x = enc n) ∧ Hid (Mod (fun _ => False) w w')) (fun _ u _ => (intOf u).toNat)
  case atStart => exact ⟨[], zig n, rfl, hz, by simpa using hown, Lib.hid rfl, HM⟩
  case round =>
    obtain ⟨acc, x, rfl, hx, hown, HE, HM⟩ := hrel
    have hal : acc.length < 10 := by
      have h1 := congrArg List.length HE.out
      have h2 := List.length_pos_iff.2 (encU_ne x)
      simp only [List.length_append] at h1
      omega
    have hsz := HM.out.size
    by_cases hlt : 128 ≤ x
    · obtain ⟨b, hb, hbb⟩ : ∃ b : UInt8, bits .or .u8 ((x : Int) % 256) 128 = (b.toNat : Int) ∧ b = UInt8.ofNat (x % 128 + 128) := ⟨_, byte_or x, rfl⟩
      rw [encU_big x hlt, ← hbb] at HE
      clear hbb
      go_wp2_with (first
        | (at_builtin; go_must (refine app _ _ bytes_t w.heap.size _ _ _ (hown.alloc _) _ 1 1 [.int .u8 b.toNat] rfl rfl rfl rfl rfl (one_new _ _ _) (by simp [Value.oneCell']) (by omega) (by unfold maxLen; omega) (by simp; omega) ?_; intro v' w2 hown2 hm2)))
      have hm3 := Mod.trans (Mod.alloc HM.out _) hm2 (fun i hi ⟨h, _⟩ => by omega)
      go_roundw
      case rel => exact ⟨acc ++ [b], x / 128, by go_num, by omega, by simpa [bv, Nat.add_assoc] using hown2, Lib.hid (by rw [List.append_assoc]; exact HE.out), Lib.hid hm3⟩
      case measure => simp [intOf]; omega
    · obtain ⟨b, rfl⟩ : ∃ b : UInt8, x = b.toNat := ⟨UInt8.ofNat x, (toNat_of x (by omega)).symm⟩
      rw [encU_small _ (by omega), show UInt8.ofNat b.toNat = b by simp] at HE
      go_wp2_with (first
        | (at_builtin; go_must (refine app _ _ bytes_t w.heap.size _ _ _ (hown.alloc _) _ 1 1 [.int .u8 b.toNat] rfl rfl rfl rfl rfl (one_new _ _ _) (by simp [Value.oneCell']) (by omega) (by unfold maxLen; omega) (by simp; omega) ?_; intro v' w2 hown2 hm2)))
      go_ret
      refine ⟨_, rfl, ?_, Mod.trans (Mod.alloc HM.out _) hm2 (fun i hi ⟨h, _⟩ => by omega)⟩
      rw [← HE.out]
      simpa [bv, Nat.add_assoc] using hown2

set_option maxRecDepth 100000 in
set_option maxHeartbeats 1000000 in
theorem refInt_calls (n : Int) (w : World) (hn : In64 n) : Calls Tryd.prog 84 #[.int .i64 n] w (BytesPost (enc n) w) := by
  have hz := zig_lt n hn
  have hlen := enc_len n hn
  by_cases h0 : 0 ≤ n
  · have HX := Lib.hid (zig_pos n hn h0)
    go_enter Tryd.func84, Tryd.ntmps84
    go_wp2_with fail
    rw [HX.out]
    go_loopw [4, 3] (fun v u w' => ∃ (acc : List UInt8) (x : Nat), u = .int .u64 x ∧ x < 18446744073709551616 ∧ w'.ownsRow w.heap.size 5 1 v acc.length (bv acc) ∧
      Hid (acc ++ encU x = enc n) ∧ Hid (Mod (fun _ => False) w w')) (fun _ u _ => (intOf u).toNat)
    case atStart => exact ⟨[], zig n, rfl, hz, World.ownsRow_nil _ _ _ _, Lib.hid rfl, Lib.hid (Mod.refl _ _)⟩
    case round =>
      obtain ⟨acc, x, rfl, hx, hown, HE, HM⟩ := hrel
      have hal : acc.length < 10 := by
        have h1 := congrArg List.length HE.out
        have h2 := List.length_pos_iff.2 (encU_ne x)
        simp only [List.length_append] at h1
        omega
      have hsz := HM.out.size
      by_cases hlt : 128 ≤ x
      · obtain ⟨b, hb, hbb⟩ : ∃ b : UInt8, bits .or .u8 ((x : Int) % 256) 128 = (b.toNat : Int) ∧ b = UInt8.ofNat (x % 128 + 128) := ⟨_, byte_or x, rfl⟩
        rw [encU_big x hlt, ← hbb] at HE
        clear hbb
        go_wp2_with (first
          | (at_builtin; go_must (refine app _ _ bytes_t w.heap.size _ _ _ (hown.alloc _) _ 1 1 [.int .u8 b.toNat] rfl rfl rfl rfl rfl (one_new _ _ _) (by simp [Value.oneCell']) (by omega) (by unfold maxLen; omega) (by simp; omega) ?_; intro v' w2 hown2 hm2)))
        have hm3 := Mod.trans (Mod.alloc HM.out _) hm2 (fun i hi ⟨h, _⟩ => by omega)
        go_roundw
        case rel => exact ⟨acc ++ [b], x / 128, by go_num, by omega, by simpa [bv, Nat.add_assoc] using hown2, Lib.hid (by rw [List.append_assoc]; exact HE.out), Lib.hid hm3⟩
        case measure => simp [intOf]; omega
      · obtain ⟨b, rfl⟩ : ∃ b : UInt8, x = b.toNat := ⟨UInt8.ofNat x, (toNat_of x (by omega)).symm⟩
        rw [encU_small _ (by omega), show UInt8.ofNat b.toNat = b by simp] at HE
        go_wp2_with (first
          | (at_builtin; go_must (refine app _ _ bytes_t w.heap.size _ _ _ (hown.alloc _) _ 1 1 [.int .u8 b.toNat] rfl rfl rfl rfl rfl (one_new _ _ _) (by simp [Value.oneCell']) (by omega) (by unfold maxLen; omega) (by simp; omega) ?_; intro v' w2 hown2 hm2)))
        go_ret
        refine ⟨_, rfl, ?_, Mod.trans (Mod.alloc HM.out _) hm2 (fun i hi ⟨h, _⟩ => by omega)⟩
        rw [← HE.out]
        simpa [bv, Nat.add_assoc] using hown2
  · have HX := Lib.hid (zig_neg n hn (by omega))
    go_enter Tryd.func84, Tryd.ntmps84
    go_wp2_with fail
    rw [HX.out]
    go_loopw [4, 3] (fun v u w' => ∃ (acc : List UInt8) (x : Nat), u = .int .u64 x ∧ x < 18446744073709551616 ∧ w'.ownsRow w.heap.size 5 1 v acc.length (bv acc) ∧
      Hid (acc ++ encU x = enc n) ∧ Hid (Mod (fun _ => False) w w')) (fun _ u _ => (intOf u).toNat)
    case atStart => exact ⟨[], zig n, rfl, hz, World.ownsRow_nil _ _ _ _, Lib.hid rfl, Lib.hid (Mod.refl _ _)⟩
    case round =>
      obtain ⟨acc, x, rfl, hx, hown, HE, HM⟩ := hrel
      have hal : acc.length < 10 := by
        have h1 := congrArg List.length HE.out
        have h2 := List.length_pos_iff.2 (encU_ne x)
        simp only [List.length_append] at h1
        omega
      have hsz := HM.out.size
      by_cases hlt : 128 ≤ x
      · obtain ⟨b, hb, hbb⟩ : ∃ b : UInt8, bits .or .u8 ((x : Int) % 256) 128 = (b.toNat : Int) ∧ b = UInt8.ofNat (x % 128 + 128) := ⟨_, byte_or x, rfl⟩
        rw [encU_big x hlt, ← hbb] at HE
        clear hbb
        go_wp2_with (first
          | (at_builtin; go_must (refine app _ _ bytes_t w.heap.size _ _ _ (hown.alloc _) _ 1 1 [.int .u8 b.toNat] rfl rfl rfl rfl rfl (one_new _ _ _) (by simp [Value.oneCell']) (by omega) (by unfold maxLen; omega) (by simp; omega) ?_; intro v' w2 hown2 hm2)))
        have hm3 := Mod.trans (Mod.alloc HM.out _) hm2 (fun i hi ⟨h, _⟩ => by omega)
        go_roundw
        case rel => exact ⟨acc ++ [b], x / 128, by go_num, by omega, by simpa [bv, Nat.add_assoc] using hown2, Lib.hid (by rw [List.append_assoc]; exact HE.out), Lib.hid hm3⟩
        case measure => simp [intOf]; omega
      · obtain ⟨b, rfl⟩ : ∃ b : UInt8, x = b.toNat := ⟨UInt8.ofNat x, (toNat_of x (by omega)).symm⟩
        rw [encU_small _ (by omega), show UInt8.ofNat b.toNat = b by simp] at HE
        go_wp2_with (first
          | (at_builtin; go_must (refine app _ _ bytes_t w.heap.size _ _ _ (hown.alloc _) _ 1 1 [.int .u8 b.toNat] rfl rfl rfl rfl rfl (one_new _ _ _) (by simp [Value.oneCell']) (by omega) (by unfold maxLen; omega) (by simp; omega) ?_; intro v' w2 hown2 hm2)))
        go_ret
        refine ⟨_, rfl, ?_, Mod.trans (Mod.alloc HM.out _) hm2 (fun i hi ⟨h, _⟩ => by omega)⟩
        rw [← HE.out]
        simpa [bv, Nat.add_assoc] using hown2

end Wire
end Go.Proofs.YtenamjldkaggcaaDoor
