/- The sum CRC-32 in plain numbers: bit by bit, and by a table of sixteen. -/
namespace Go.Proofs.YtammcnencaemfaaDoor
namespace Wire

def bit1 (c : Nat) : Nat := if c % 2 = 1 then (c / 2) ^^^ 3988292384 else c / 2
def bitN : Nat → Nat → Nat
  | 0, c => c
  | k + 1, c => bitN k (bit1 c)
def nib : List Nat := [0, 498536548, 997073096, 651767980, 1994146192, 1802195444, 1303535960, 1342533948, 3988292384, 4027552580, 3604390888, 3412177804, 2607071920, 2262029012, 2685067896, 3183342108]

theorem xor_half (a b : Nat) : (a ^^^ b) / 2 = (a / 2) ^^^ (b / 2) := by
  apply Nat.eq_of_testBit_eq
  intro i
  rw [Nat.testBit_xor, Nat.testBit_div_two, Nat.testBit_div_two, Nat.testBit_div_two, Nat.testBit_xor]
theorem xor_mod2 (a b : Nat) : (a ^^^ b) % 2 = (a % 2 + b % 2) % 2 := by
  have h := Nat.testBit_xor a b 0
  simp only [Nat.testBit_zero] at h
  have ha := Nat.mod_two_eq_zero_or_one a
  have hb := Nat.mod_two_eq_zero_or_one b
  have hc := Nat.mod_two_eq_zero_or_one (a ^^^ b)
  rcases ha with ha | ha <;> rcases hb with hb | hb <;> rcases hc with hc | hc <;> simp [ha, hb, hc] at h ⊢

theorem bit1_xor (a b : Nat) : bit1 (a ^^^ b) = bit1 a ^^^ bit1 b := by
  unfold bit1
  rw [xor_half, xor_mod2]
  have ha := Nat.mod_two_eq_zero_or_one a
  have hb := Nat.mod_two_eq_zero_or_one b
  rcases ha with ha | ha <;> rcases hb with hb | hb <;> simp [ha, hb]
  · rw [Nat.xor_assoc]
  · rw [Nat.xor_assoc, Nat.xor_comm (b / 2), ← Nat.xor_assoc]
  · rw [Nat.xor_assoc (a / 2), Nat.xor_comm 3988292384, Nat.xor_assoc (b / 2), Nat.xor_self, Nat.xor_zero]

theorem bitN_xor : ∀ (k a b : Nat), bitN k (a ^^^ b) = bitN k a ^^^ bitN k b
  | 0, _, _ => rfl
  | k + 1, a, b => by simp only [bitN, bit1_xor, bitN_xor k]

theorem bit1_double (a : Nat) : bit1 (2 * a) = a := by
  unfold bit1; rw [if_neg (by omega)]; omega

theorem bit4_high (h : Nat) : bitN 4 (16 * h) = h := by
  have e : 16 * h = 2 * (2 * (2 * (2 * h))) := by omega
  simp only [bitN]
  rw [e, bit1_double, bit1_double, bit1_double, bit1_double]

theorem nib_low : ∀ r : Fin 16, bitN 4 r.val = nib.getD r.val 0 := by decide +kernel

theorem nib_step (c : Nat) : nib.getD (c % 16) 0 ^^^ (c / 16) = bitN 4 c := by
  have h := nib_low ⟨c % 16, Nat.mod_lt _ (by decide)⟩
  have e : c = (c % 16) ^^^ (16 * (c / 16)) := by
    have h1 : 16 * (c / 16) + c % 16 = 2 ^ 4 * (c / 16) ||| c % 16 := Nat.two_pow_add_eq_or_of_lt (i := 4) (by omega) _
    have h2 : 2 ^ 4 * (c / 16) ||| c % 16 = (c % 16) ^^^ (16 * (c / 16)) := by
      apply Nat.eq_of_testBit_eq
      intro i
      rw [Nat.testBit_or, Nat.testBit_xor, show (16 : Nat) = 2 ^ 4 from rfl, Nat.testBit_two_pow_mul, Nat.testBit_mod_two_pow]
      by_cases hi : i < 4
      · simp [hi, Nat.not_le.2 hi]
      · simp [hi, Nat.not_lt.1 hi]
    rw [← h2, ← h1]; omega
  conv => rhs; rw [e, bitN_xor, bit4_high, h]

theorem bit1_lt (c : Nat) (h : c < 4294967296) : bit1 c < 4294967296 := by
  unfold bit1
  split
  · exact Nat.xor_lt_two_pow (n := 32) (by omega) (by decide)
  · omega
theorem bitN_lt : ∀ (k c : Nat), c < 4294967296 → bitN k c < 4294967296
  | 0, _, h => h
  | k + 1, c, h => bitN_lt k _ (bit1_lt c h)
theorem bitN_add : ∀ (a b c : Nat), bitN (a + b) c = bitN b (bitN a c)
  | 0, b, c => by rw [Nat.zero_add]; rfl
  | a + 1, b, c => by rw [Nat.add_right_comm]; simp only [bitN]; exact bitN_add a b _
theorem bitN_succ (k c : Nat) : bitN (k + 1) c = bit1 (bitN k c) := bitN_add k 1 c

/-- one byte more -/
def crcB (c x : Nat) : Nat := bitN 8 (c ^^^ x)
def crcL (l : List UInt8) (c : Nat) : Nat := l.foldl (fun c x => crcB c x.toNat) c
def crc (l : List UInt8) : Nat := 4294967295 ^^^ crcL l 4294967295

theorem crcB_lt (c x : Nat) (hc : c < 4294967296) (hx : x < 256) : crcB c x < 4294967296 := bitN_lt 8 _ (Nat.xor_lt_two_pow (n := 32) hc (by omega))
theorem crcL_lt : ∀ (l : List UInt8) (c : Nat), c < 4294967296 → crcL l c < 4294967296
  | [], _, h => h
  | x :: l, c, h => crcL_lt l _ (crcB_lt c _ h x.toNat_lt)
theorem crcL_append (l m : List UInt8) (c : Nat) : crcL (l ++ m) c = crcL m (crcL l c) := by simp [crcL]
theorem crcL_take (l : List UInt8) (k c : Nat) (h : k < l.length) : crcL (l.take (k + 1)) c = crcB (crcL (l.take k) c) l[k].toNat := by
  rw [List.take_succ_eq_append_getElem h, crcL_append]; rfl

end Wire
end Go.Proofs.YtammcnencaemfaaDoor
