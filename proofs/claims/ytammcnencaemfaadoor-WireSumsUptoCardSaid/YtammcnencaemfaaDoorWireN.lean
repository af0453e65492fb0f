/- Where 32 bits in a row turn, the sum turns. -/
import Derived.Test.YtammcnencaemfaaDoorWireG
namespace Go.Proofs.YtammcnencaemfaaDoor
namespace Wire

def num : List UInt8 → Nat
  | [] => 0
  | x :: r => x.toNat ^^^ (2 ^ 8 * num r)

theorem mul_xor (k a b : Nat) : 2 ^ k * (a ^^^ b) = (2 ^ k * a) ^^^ (2 ^ k * b) := by
  have h := Nat.shiftLeft_xor_distrib (a := a) (b := b) (i := k)
  simp only [Nat.shiftLeft_eq] at h
  rw [Nat.mul_comm, h, Nat.mul_comm a, Nat.mul_comm b]

theorem bitN_shift : ∀ (k x : Nat), bitN k (2 ^ k * x) = x
  | 0, x => by simp [bitN]
  | k + 1, x => by
    rw [show 2 ^ (k + 1) * x = 2 * (2 ^ k * x) by rw [Nat.pow_succ]; rw [Nat.mul_comm (2 ^ k) 2, Nat.mul_assoc]]
    simp only [bitN, bit1_double]
    exact bitN_shift k x

theorem crcL_num : ∀ (l : List UInt8) (c : Nat), crcL l c = bitN (8 * l.length) (c ^^^ num l)
  | [], c => by simp [crcL, num, bitN]
  | x :: l, c => by
    have h : crcL (x :: l) c = crcL l (crcB c x.toNat) := rfl
    rw [h, crcL_num l, num, List.length_cons, show 8 * (l.length + 1) = 8 + 8 * l.length by omega, bitN_add, ← Nat.xor_assoc, bitN_xor 8 _ (2 ^ 8 * num l), bitN_shift]
    rfl

theorem crcL_diff (l m : List UInt8) (c : Nat) (h : l.length = m.length) : crcL l c ^^^ crcL m c = bitN (8 * m.length) (num l ^^^ num m) := by
  rw [crcL_num, crcL_num, h, ← bitN_xor]
  congr 1
  rw [Nat.xor_assoc, ← Nat.xor_assoc (num l), Nat.xor_comm (num l) c, Nat.xor_assoc c, ← Nat.xor_assoc, Nat.xor_self, Nat.zero_xor]

theorem bit1_ne (c : Nat) (h : c < 4294967296) (h0 : c ≠ 0) : bit1 c ≠ 0 := by
  unfold bit1
  split
  · intro e
    have e2 : c / 2 = 3988292384 := by
      have := congrArg (· ^^^ 3988292384) e
      simpa [Nat.xor_assoc] using this
    omega
  · omega
theorem bitN_ne : ∀ (k c : Nat), c < 4294967296 → c ≠ 0 → bitN k c ≠ 0
  | 0, _, _, h => h
  | k + 1, c, h, h0 => bitN_ne k _ (bit1_lt c h) (bit1_ne c h h0)

/-- the law: other bytes, which differ in a window of 32 bits -/
theorem burst (l m : List UInt8) (at_ D : Nat) (hl : l.length = m.length) (hD : D < 4294967296) (h0 : D ≠ 0) (hat : at_ ≤ 8 * m.length) (hn : num l = num m ^^^ (2 ^ at_ * D)) : crc l ≠ crc m := by
  intro e
  have e2 : crcL l 4294967295 = crcL m 4294967295 := by
    have := congrArg (4294967295 ^^^ ·) e
    simpa [crc, ← Nat.xor_assoc] using this
  have h1 := crcL_diff l m 4294967295 hl
  rw [e2, Nat.xor_self, hn, Nat.xor_comm (num m), Nat.xor_assoc, Nat.xor_self, Nat.xor_zero] at h1
  obtain ⟨r, hr⟩ : ∃ r, 8 * m.length = at_ + r := ⟨8 * m.length - at_, by omega⟩
  rw [hr, bitN_add, bitN_shift] at h1
  exact bitN_ne r D hD h0 h1.symm

/-- one bit turns -/
theorem num_set : ∀ (l : List UInt8) (j y : Nat) (b : UInt8) (h : j < l.length), b.toNat = l[j].toNat ^^^ y → num (l.set j b) = num l ^^^ (2 ^ (8 * j) * y)
  | x :: l, 0, y, b, _, hb => by
    simp only [List.set_cons_zero, num, Nat.mul_zero, Nat.pow_zero, Nat.one_mul]
    simp only [List.getElem_cons_zero] at hb
    rw [hb, Nat.xor_assoc, Nat.xor_assoc, Nat.xor_comm y]
  | x :: l, j + 1, y, b, h, hb => by
    simp only [List.set_cons_succ, num]
    rw [num_set l j y b (by simpa using h) (by simpa using hb), mul_xor, ← Nat.xor_assoc]
    congr 1
    rw [← Nat.mul_assoc, ← Nat.pow_add]
    congr 2
    omega

theorem num_bit (l : List UInt8) (k : Nat) (b : UInt8) (h : k / 8 < l.length) (hb : b.toNat = l[k / 8].toNat ^^^ (2 ^ (k % 8))) : num (l.set (k / 8) b) = num l ^^^ 2 ^ k := by
  rw [num_set l (k / 8) (2 ^ (k % 8)) b h hb, ← Nat.pow_add]
  congr 2
  omega
end Wire
end Go.Proofs.YtammcnencaemfaaDoor
