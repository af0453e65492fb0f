/- The walk of wire.TakeInt. -/
import Derived.Test.YtenamjldkaggcaaDoorWireT
namespace Go.Proofs.YtenamjldkaggcaaDoor
set_option linter.unusedVariables false
set_option linter.unusedSimpArgs false
open Go.RowKit K
namespace Wire

/-- what TakeInt tells -/
def takeI (l : List UInt8) (at_ : Int) : Int × Int × Bool :=
  if at_ < 0 ∨ (l.length : Int) < at_ then (0, 0, false)
  else match dec (l.drop at_.toNat) with
    | none => (0, 0, false)
    | some (n, k) => (n, at_ + k, true)

theorem xor0 (x : Nat) (h : x < 9223372036854775808) : bits .xor .i64 (x : Int) 0 = x := by
  show IntKind.i64.wrap (((BitVec.ofInt 64 (x : Int)) ^^^ (BitVec.ofInt 64 0)).toNat : Int) = x
  have e : BitVec.ofInt 64 0 = 0#64 := by decide
  rw [e, BitVec.ofInt_natCast, BitVec.xor_zero, BitVec.toNat_ofNat, Nat.mod_eq_of_lt (by omega), IntKind.wrap_i64]
  omega
theorem xor1 (x : Nat) (h : x < 9223372036854775808) : bits .xor .i64 (x : Int) (-1) = -(x : Int) - 1 := by
  show IntKind.i64.wrap (((BitVec.ofInt 64 (x : Int)) ^^^ (BitVec.ofInt 64 (-1))).toNat : Int) = -(x : Int) - 1
  have e : BitVec.ofInt 64 (-1) = BitVec.allOnes 64 := by decide
  rw [e, BitVec.ofInt_natCast, BitVec.xor_allOnes, BitVec.toNat_not, BitVec.toNat_ofNat, Nat.mod_eq_of_lt (by omega), IntKind.wrap_i64]
  omega
theorem unzig_bits (x : Nat) (h : x < 18446744073709551616) : bits .xor .i64 ((x : Int) / 2) (wrap64 (-wrap64 (bits .and .u64 (x : Int) 1))) = unzig x := by
  have e1 : bits .and .u64 (x : Int) ((1 : Nat) : Int) = ((x % 2 : Nat) : Int) := by rw [u64_and_nat _ _ h (by decide), Nat.and_one_is_mod]
  have e3 : bits .and .u64 (x : Int) 1 = ((x % 2 : Nat) : Int) := e1
  rw [e3]
  have e2 : (x : Int) / 2 = ((x / 2 : Nat) : Int) := by omega
  rw [e2]
  unfold unzig
  split
  · rename_i h0
    have : wrap64 (-wrap64 ((x % 2 : Nat) : Int)) = 0 := by unfold wrap64; omega
    rw [this, xor0 _ (by omega)]
  · rename_i h0
    have : wrap64 (-wrap64 ((x % 2 : Nat) : Int)) = -1 := by unfold wrap64; omega
    rw [this, xor1 _ (by omega)]

theorem takeI_some (l : List UInt8) (p : Nat) (n : Int) (k : Nat) (hp : p ≤ l.length) (h : dec (l.drop p) = some (n, k)) : takeI l (p : Int) = (n, (p : Int) + k, true) := by
  unfold takeI; rw [if_neg (by omega), Int.toNat_natCast, h]
theorem takeI_none (l : List UInt8) (p : Nat) (hp : p ≤ l.length) (h : dec (l.drop p) = none) : takeI l (p : Int) = (0, 0, false) := by
  unfold takeI; rw [if_neg (by omega), Int.toNat_natCast, h]

def vI (r : Int × Int × Bool) : Value := .tuple #[.int .i64 r.1, .int .i64 r.2.1, .bool r.2.2]

set_option maxRecDepth 100000 in
set_option maxHeartbeats 1000000 in
theorem takeInt_calls (A : Option Addr) (c : Nat) (l : List UInt8) (at_ : Int) (w : World) (hA : Cells w A (bv l)) (hl : l.length ≤ 140737488355328) (hc : l.length ≤ c) (hc2 : c ≤ maxLen) (hadr : Adr A c) :
    Calls Tryd.prog 78 #[.slice A l.length c, .int .i64 at_] w fun e w' => e = .returned (vI (takeI l at_)) ∧ w' = w := by
  unfold maxLen at hc2
  by_cases hin : 0 ≤ at_ ∧ at_ ≤ (l.length : Int)
  · obtain ⟨h0, h1⟩ := hin
    obtain ⟨p, rfl⟩ := Int.eq_ofNat_of_zero_le h0
    have hp : p ≤ l.length := by omega
    have hT : takeI l (p : Int) = match dec (l.drop p) with | none => (0, 0, false) | some (n, k) => (n, (p : Int) + k, true) := by
      unfold takeI; rw [if_neg (by omega), Int.toNat_natCast]
    by_cases hcap : p < c
    · obtain h | ⟨b, o, rfl⟩ := hadr
      · omega
      have hcell : ∀ j u, (bv l)[j]? = some u → w.cell? ⟨b, o + j, none⟩ = some u := by
        rcases hA with h | ⟨b', o', hb, hcell⟩
        · intro j u hj; rw [h] at hj; simp at hj
        · obtain ⟨rfl, rfl⟩ : b = b' ∧ o = o' := by simpa using hb
          exact hcell
      have hcd : Cells w (some ⟨b, o + p, none⟩) (bv (l.drop p)) := .inr ⟨b, o + p, rfl, fun j u hj => by
        rw [bv_drop, List.getElem?_drop] at hj
        rw [Nat.add_assoc]; exact hcell _ u hj⟩
      have hb := bits_calls (some ⟨b, o + p, none⟩) (c - p) (l.drop p) w hcd (by simp; omega)
      rw [List.length_drop] at hb
      have HB := Lib.hid hb
      have HC := Lib.hid hcell
      clear hb hcd hcell hA
      cases hbl : bitsLen (l.drop p) 0 with
      | none =>
        have hfin : takeI l (p : Int) = (0, 0, false) := by rw [hT]; unfold dec; rw [hbl]
        have HF := Lib.hid hfin
        have HBL := Lib.hid hbl
        clear hT hfin hbl
        go_enter Tryd.func78, Tryd.ntmps78
        go_wp2_with fail
        refine HB.out.mono ?_
        rintro e w1 ⟨u, k, rfl, hw, hk0, -⟩
        obtain rfl := hk0 HBL.out
        subst hw
        go_wp2_with fail
        go_ret3
        rw [HF.out]
        exact ⟨rfl, rfl⟩
      | some j =>
        obtain ⟨m, d, hj, hjl, hgd, hv⟩ : ∃ m d, j = m + 1 ∧ p + m < l.length ∧ l[p + m]? = some d ∧ valU ((l.drop p).take j) < 18446744073709551616 := by
          obtain ⟨q, d, r, hq, hj, hq1, hd, h9⟩ := bitsLen_some _ _ _ hbl
          have hqlen := congrArg List.length hq
          simp only [List.length_drop, List.length_append, List.length_cons] at hqlen
          refine ⟨q.length, d, by omega, by omega, ?_, ?_⟩
          · rw [← List.getElem?_drop, hq]; simp
          · have h1 := valU_take (l.drop p) q.length (by simp; omega)
            have h2 := valU_take_lt (l.drop p) q.length
            have e : (l.drop p)[q.length]'(by simp; omega) = d := by simp only [hq]; simp
            rw [show j = q.length + 1 by omega, h1, e]
            rcases h9 with h9 | ⟨h9, h10⟩
            · have h3 := valU_take_lt (l.drop p) (q.length + 1)
              rw [h1, e] at h3
              have h4 : 128 ^ (q.length + 1) ≤ 128 ^ 9 := Nat.pow_le_pow_right (by decide) (by omega)
              omega
            · have h4 : q.length = 9 := by omega
              rw [h4] at h2 ⊢
              have : 128 ^ 9 * (d.toNat % 128) ≤ 128 ^ 9 * 1 := Nat.mul_le_mul (Nat.le_refl _) (by omega)
              omega
        subst hj
        have hcj := HC.out (p + m) (.int .u8 d.toNat) (by simp only [bv, List.getElem?_map, hgd]; rfl)
        have hgd2 : (l.drop p)[m + 1 - 1]? = some d := by rw [List.getElem?_drop]; exact hgd
        by_cases hz : 1 < m + 1 ∧ d = 0
        · have hfin : takeI l (p : Int) = (0, 0, false) := by
            rw [hT]; unfold dec; rw [hbl]; dsimp only
            rw [if_pos]
            rw [hgd2, hz.2]; exact ⟨hz.1, rfl⟩
          have HF := Lib.hid hfin
          have HBL := Lib.hid hbl
          have hz1 : 0 < m := by omega
          have hz2 : d.toNat = 0 := by rw [hz.2]; rfl
          rw [hz2] at hcj
          clear hT hfin hbl hz hgd hgd2 hv hz2
          go_enter Tryd.func78, Tryd.ntmps78
          go_wp2_with fail
          refine HB.out.mono ?_
          rintro e w1 ⟨u, k, rfl, hw, -, hk0⟩
          obtain ⟨rfl, hu⟩ := hk0 _ HBL.out
          subst hw
          clear hu hk0
          go_wp2_with fail
          go_ret3
          rw [HF.out]
          exact ⟨rfl, rfl⟩
        · have hfin : takeI l (p : Int) = (unzig (valU ((l.drop p).take (m + 1))), (p : Int) + (m + 1 : Nat), true) := by
            rw [hT]; unfold dec; rw [hbl]; dsimp only
            rw [if_neg]
            rw [hgd2]; simpa using hz
          have HF := Lib.hid hfin
          have HBL := Lib.hid hbl
          have hz2 : 0 < m → ((d.toNat : Int) == 0) = false := by
            intro h; simp; intro h2; exact hz ⟨by omega, UInt8.toNat_inj.1 h2⟩
          generalize d.toNat = y at *
          clear hT hfin hbl hz hgd hgd2
          go_enter Tryd.func78, Tryd.ntmps78
          go_wp2_with fail
          refine HB.out.mono ?_
          rintro e w1 ⟨u, k, rfl, hw, -, hk0⟩
          obtain ⟨rfl, hu⟩ := hk0 _ HBL.out
          subst hw
          clear hk0
          generalize valU ((l.drop p).take (m + 1)) = x at *
          subst hu
          by_cases hk1 : 0 < m
          · have hz3 := hz2 hk1
            go_wp2_with fail
            go_ret3
            rw [HF.out]
            refine ⟨?_, rfl⟩
            show Ending.returned (.tuple #[.int .i64 (bits .xor .i64 ((x : Int) / 2) (wrap64 (-wrap64 (bits .and .u64 (x : Int) 1)))), .int .i64 ((p : Int) + ((m : Int) + 1)), .bool true]) = _
            rw [unzig_bits x hv]
            rfl
          · obtain rfl : m = 0 := by omega
            go_wp2_with fail
            go_ret3
            rw [HF.out]
            refine ⟨?_, rfl⟩
            show Ending.returned (.tuple #[.int .i64 (bits .xor .i64 ((x : Int) / 2) (wrap64 (-wrap64 (bits .and .u64 (x : Int) 1)))), .int .i64 ((p : Int) + 1), .bool true]) = _
            rw [unzig_bits x hv]
            rfl
    · obtain rfl : p = c := by omega
      have hpl : p = l.length := by omega
      have hnil : l.drop p = [] := List.drop_of_length_le (by omega)
      have hfin : takeI l (p : Int) = (0, 0, false) := by rw [hT, hnil]; rfl
      have HF := Lib.hid hfin
      subst hpl
      clear hT hfin hnil hA
      have hb := bits_calls A 0 [] w (.inl rfl) (by simp)
      have HB := Lib.hid hb
      clear hb
      go_enter Tryd.func78, Tryd.ntmps78
      go_wp2_with fail
      refine HB.out.mono ?_
      rintro e w1 ⟨u, k, rfl, hw, hk0, -⟩
      obtain rfl := hk0 rfl
      subst hw
      go_wp2_with fail
      go_ret3
      exact ⟨by rw [HF.out]; rfl, rfl⟩
  · have hfin : takeI l at_ = (0, 0, false) := by unfold takeI; rw [if_pos (by omega)]
    have HF := Lib.hid hfin
    clear hfin hA
    by_cases h0 : at_ < 0
    · go_enter Tryd.func78, Tryd.ntmps78
      go_wp2_with fail
      go_ret3
      exact ⟨by rw [HF.out]; rfl, rfl⟩
    · have h1 : (l.length : Int) < at_ := by omega
      clear hin
      go_enter Tryd.func78, Tryd.ntmps78
      go_wp2_with fail
      go_ret3
      exact ⟨by rw [HF.out]; rfl, rfl⟩
end Wire
end Go.Proofs.YtenamjldkaggcaaDoor
