/- Wire's numbers and texts as bytes, in plain lists: what is put, what is taken, and that each undoes the other. -/
namespace Go.Proofs.YtenamjldkaggcaaDoor
set_option linter.unusedVariables false
set_option linter.unusedSimpArgs false
namespace Wire

def zig (n : Int) : Nat := if 0 ≤ n then (2 * n).toNat else (-2 * n - 1).toNat
def unzig (u : Nat) : Int := if u % 2 = 0 then ((u / 2 : Nat) : Int) else -((u / 2 : Nat) : Int) - 1
def In64 (n : Int) : Prop := -9223372036854775808 ≤ n ∧ n < 9223372036854775808

theorem unzig_zig (n : Int) : unzig (zig n) = n := by
  unfold unzig zig
  split <;> split <;> omega
theorem zig_unzig (u : Nat) : zig (unzig u) = u := by
  unfold unzig zig
  split <;> split <;> omega
theorem zig_lt (n : Int) (h : In64 n) : zig n < 18446744073709551616 := by
  unfold In64 at h; unfold zig; split <;> omega
theorem unzig_in (u : Nat) (h : u < 18446744073709551616) : In64 (unzig u) := by
  unfold In64 unzig; split <;> omega

def encU (u : Nat) : List UInt8 := if h : u < 128 then [UInt8.ofNat u] else UInt8.ofNat (u % 128 + 128) :: encU (u / 128)
termination_by u
decreasing_by omega

def valU : List UInt8 → Nat
  | [] => 0
  | c :: l => c.toNat % 128 + 128 * valU l

def enc (n : Int) : List UInt8 := encU (zig n)
def encT (s : List UInt8) : List UInt8 := enc s.length ++ s

theorem encU_small (u : Nat) (h : u < 128) : encU u = [UInt8.ofNat u] := by rw [encU, dif_pos h]
theorem encU_big (u : Nat) (h : 128 ≤ u) : encU u = UInt8.ofNat (u % 128 + 128) :: encU (u / 128) := by rw [encU, dif_neg (by omega)]

theorem toNat_of (x : Nat) (h : x < 256) : (UInt8.ofNat x).toNat = x := by simp; omega

theorem valU_append (p q : List UInt8) : valU (p ++ q) = valU p + 128 ^ p.length * valU q := by
  induction p with
  | nil => simp [valU]
  | cons c p ih =>
    simp only [List.cons_append, valU, ih, List.length_cons, Nat.pow_succ]
    rw [Nat.mul_add, ← Nat.mul_assoc, Nat.mul_comm 128 (128 ^ p.length)]; omega
theorem valU_lt (p : List UInt8) : valU p < 128 ^ p.length := by
  induction p with
  | nil => simp [valU]
  | cons c p ih => simp only [valU, List.length_cons, Nat.pow_succ]; have := Nat.mod_lt c.toNat (show 128 > 0 by decide); omega

theorem encU_ne (u : Nat) : encU u ≠ [] := by
  by_cases h : u < 128
  · rw [encU_small u h]; simp
  · rw [encU_big u (by omega)]; simp

theorem valU_encU : ∀ (n u : Nat), u ≤ n → valU (encU u) = u := by
  intro n
  induction n with
  | zero => intro u h; rw [encU_small u (by omega)]; simp only [valU]; rw [toNat_of u (by omega)]; omega
  | succ n ih =>
    intro u h
    by_cases hu : u < 128
    · rw [encU_small u hu]; simp only [valU]; rw [toNat_of u (by omega)]; omega
    · rw [encU_big u (by omega)]; simp only [valU]; rw [toNat_of _ (by omega), ih (u / 128) (by omega)]; omega

theorem encU_len (m u : Nat) (h : u < 128 ^ (m + 1)) : (encU u).length ≤ m + 1 := by
  induction m generalizing u with
  | zero => rw [encU_small u (by simpa using h)]; simp
  | succ m ih =>
    by_cases hu : u < 128
    · rw [encU_small u hu]; simp
    · rw [encU_big u (by omega)]
      have : u / 128 < 128 ^ (m + 1) := by rw [Nat.div_lt_iff_lt_mul (by decide)]; rw [Nat.pow_succ] at h; exact h
      have := ih _ this
      simp; omega
theorem enc_len (n : Int) (h : In64 n) : (enc n).length ≤ 10 := encU_len 9 _ (by have := zig_lt n h; omega)
theorem enc_pos (n : Int) : 0 < (enc n).length := List.length_pos_iff.2 (encU_ne _)

/-- Where the number ends that begins with l; i bytes of it are gone. -/
def bitsLen : List UInt8 → Nat → Option Nat
  | [], _ => none
  | c :: l, i => if 9 < i ∨ (i = 9 ∧ 1 < c.toNat) then none else if c.toNat < 128 then some (i + 1) else bitsLen l (i + 1)

/-- The number that l begins with, and how many bytes it has. -/
def dec (l : List UInt8) : Option (Int × Nat) :=
  match bitsLen l 0 with
  | none => none
  | some k => if 1 < k ∧ l[k - 1]? = some 0 then none else some (unzig (valU (l.take k)), k)

theorem bitsLen_encU (r : List UInt8) : ∀ (n u i : Nat), u ≤ n → u * 128 ^ i < 18446744073709551616 → (i = 0 ∨ 0 < u) → bitsLen (encU u ++ r) i = some (i + (encU u).length) := by
  intro n
  induction n with
  | zero =>
    intro u i h hb hi
    have : i = 0 := by omega
    subst this
    rw [encU_small u (by omega)]
    simp only [List.cons_append, List.nil_append, bitsLen, List.length_cons, List.length_nil]
    rw [toNat_of u (by omega), if_neg (by omega), if_pos (by omega)]
  | succ n ih =>
    intro u i h hb hi
    have hi9 : i ≤ 9 := by
      rcases hi with hi | hi
      · omega
      · rcases Nat.lt_or_ge 9 i with h9 | h9
        · have h1 : 128 ^ 10 ≤ 128 ^ i := Nat.pow_le_pow_right (by decide) h9
          have h2 : 128 ^ i ≤ u * 128 ^ i := Nat.le_mul_of_pos_left _ hi
          omega
        · exact h9
    have h9 : i = 9 → u ≤ 1 := by intro e; subst e; omega
    by_cases hu : u < 128
    · rw [encU_small u hu]
      simp only [List.cons_append, List.nil_append, bitsLen, List.length_cons, List.length_nil]
      rw [toNat_of u (by omega), if_neg (by omega), if_pos (by omega)]
    · rw [encU_big u (by omega)]
      simp only [List.cons_append, bitsLen, List.length_cons]
      rw [toNat_of _ (by omega), if_neg (by omega), if_neg (by omega), ih (u / 128) (i + 1) (by omega) ?_ (by omega)]
      · congr 1; omega
      · have : u / 128 * 128 ≤ u := Nat.div_mul_le_self _ _
        have h2 := Nat.mul_le_mul_right (128 ^ i) this
        rw [Nat.pow_succ, Nat.mul_comm (128 ^ i) 128, ← Nat.mul_assoc]; omega

theorem bitsLen_some : ∀ (l : List UInt8) (i k : Nat), bitsLen l i = some k → ∃ p c r, l = p ++ c :: r ∧ k = i + p.length + 1 ∧ (∀ b ∈ p, 128 ≤ b.toNat) ∧ c.toNat < 128 ∧ (k ≤ 9 ∨ (k = 10 ∧ c.toNat ≤ 1))
  | [], i, k, h => by simp [bitsLen] at h
  | c :: l, i, k, h => by
    simp only [bitsLen] at h
    split at h
    · cases h
    · rename_i h1
      split at h
      · rename_i h2
        simp only [Option.some.injEq] at h
        exact ⟨[], c, l, rfl, by simp; omega, by simp, h2, by omega⟩
      · rename_i h2
        obtain ⟨p, d, r, hl, hk, hp, hd, h3⟩ := bitsLen_some l (i + 1) k h
        refine ⟨c :: p, d, r, by rw [hl]; rfl, by simp; omega, ?_, hd, h3⟩
        intro b hb
        rcases List.mem_cons.1 hb with hb | hb
        · subst hb; omega
        · exact hp b hb

theorem encU_valU (p : List UInt8) (c : UInt8) (hp : ∀ b ∈ p, 128 ≤ b.toNat) (hc : c.toNat < 128) (h0 : p = [] ∨ c.toNat ≠ 0) : encU (valU (p ++ [c])) = p ++ [c] := by
  induction p with
  | nil =>
    simp only [List.nil_append, valU]
    rw [encU_small _ (by omega)]
    congr 1
    apply UInt8.toNat_inj.1
    rw [toNat_of _ (by omega)]; omega
  | cons b p ih =>
    have hb := hp b (by simp)
    have hb2 := b.toNat_lt
    have hc0 : c.toNat ≠ 0 := by rcases h0 with h | h; cases h; exact h
    have ih := ih (fun x hx => hp x (by simp [hx])) (.inr hc0)
    have hpos : 0 < valU (p ++ [c]) := by
      rw [valU_append]; simp only [valU]
      have h2 : 0 < 128 ^ p.length := Nat.pow_pos (by decide)
      have h3 : 0 < c.toNat % 128 + 128 * 0 := by omega
      have := Nat.mul_pos h2 h3
      omega
    simp only [List.cons_append, valU]
    rw [encU_big _ (by omega)]
    have e1 : (b.toNat % 128 + 128 * valU (p ++ [c])) / 128 = valU (p ++ [c]) := by omega
    have e2 : (b.toNat % 128 + 128 * valU (p ++ [c])) % 128 + 128 = b.toNat := by omega
    rw [e1, e2, ih]
    congr 1
    apply UInt8.toNat_inj.1
    rw [toNat_of _ hb2]

theorem encU_last : ∀ (n u : Nat), u ≤ n → ∀ p, encU u = p ++ [0] → p ≠ [] → False := by
  intro n
  induction n with
  | zero =>
    intro u h p hp hne
    rw [encU_small u (by omega)] at hp
    cases p with
    | nil => exact hne rfl
    | cons b p => simp at hp
  | succ n ih =>
    intro u h p hp hne
    by_cases hu : u < 128
    · rw [encU_small u hu] at hp
      cases p with
      | nil => exact hne rfl
      | cons b p => simp at hp
    · rw [encU_big u (by omega)] at hp
      cases p with
      | nil => exact hne rfl
      | cons b p =>
        simp only [List.cons_append, List.cons.injEq] at hp
        cases p with
        | nil =>
          have h2 := valU_encU _ (u / 128) (Nat.le_refl _)
          rw [hp.2] at h2
          simp [valU] at h2; omega
        | cons d p => exact ih (u / 128) (by omega) _ hp.2 (by simp)

theorem dec_enc (n : Int) (hn : In64 n) (r : List UInt8) : dec (enc n ++ r) = some (n, (enc n).length) := by
  have hz := zig_lt n hn
  have hb := bitsLen_encU r (zig n) (zig n) 0 (Nat.le_refl _) (by omega) (.inl rfl)
  rw [Nat.zero_add] at hb
  have hv : valU (encU (zig n)) = zig n := valU_encU _ _ (Nat.le_refl _)
  obtain ⟨p, c, r', hl, hk, hp, hc, _⟩ := bitsLen_some _ _ _ hb
  unfold dec enc
  rw [hb]
  dsimp only
  rw [List.take_left, hv, unzig_zig]
  rw [if_neg]
  rintro ⟨h1, h2⟩
  have hlen : (encU (zig n)).length = p.length + 1 := by omega
  have hpc : encU (zig n) = p ++ [c] := by
    have h3 := congrArg (List.take (p.length + 1)) hl
    rw [← hlen, List.take_left, hlen] at h3
    have e : p ++ c :: r' = (p ++ [c]) ++ r' := by simp
    have e2 : p.length + 1 = (p ++ [c]).length := by simp
    rw [h3, e, e2, List.take_left]
  rw [List.getElem?_append_left (by omega), hlen, Nat.add_sub_cancel, hpc] at h2
  simp only [List.getElem?_append_right (Nat.le_refl _), Nat.sub_self, List.getElem?_cons_zero, Option.some.injEq] at h2
  subst h2
  -- a number's bytes do not end with 0
  exact encU_last (zig n) (zig n) (Nat.le_refl _) p hpc (by rintro rfl; simp at hlen; omega)

theorem dec_some (l : List UInt8) (n : Int) (k : Nat) (h : dec l = some (n, k)) : In64 n ∧ 0 < k ∧ k ≤ 10 ∧ k ≤ l.length ∧ l.take k = enc n := by
  unfold dec at h
  cases hb : bitsLen l 0 with
  | none => rw [hb] at h; cases h
  | some j =>
    rw [hb] at h
    dsimp only at h
    split at h
    · cases h
    · rename_i h0
      simp only [Option.some.injEq, Prod.mk.injEq] at h
      obtain ⟨hn, rfl⟩ := h
      obtain ⟨p, c, r, rfl, hk, hp, hc, h9⟩ := bitsLen_some _ _ _ hb
      have ht : (p ++ c :: r).take j = p ++ [c] := by
        have : j = (p ++ [c]).length := by simp; omega
        rw [this]
        have e : p ++ c :: r = (p ++ [c]) ++ r := by simp
        rw [e, List.take_left]
      rw [ht] at hn ⊢
      have hc0 : p = [] ∨ c.toNat ≠ 0 := by
        by_cases hp0 : p = []
        · exact .inl hp0
        · refine .inr fun hz => h0 ⟨?_, ?_⟩
          · have := List.length_pos_iff.2 hp0; omega
          · have : j - 1 = p.length := by omega
            rw [this, List.getElem?_append_right (Nat.le_refl _)]
            simp only [Nat.sub_self, List.getElem?_cons_zero, Option.some.injEq]
            exact UInt8.toNat_inj.1 hz
      have hv : valU (p ++ [c]) < 18446744073709551616 := by
        rw [valU_append]
        simp only [valU]
        have h1 := valU_lt p
        rcases h9 with h9 | ⟨h9, h10⟩
        · have h2 : 128 ^ p.length ≤ 128 ^ 8 := Nat.pow_le_pow_right (by decide) (by omega)
          have h3 : 128 ^ p.length * (c.toNat % 128 + 128 * 0) ≤ 128 ^ 8 * 127 := Nat.mul_le_mul h2 (by omega)
          omega
        · have : p.length = 9 := by omega
          rw [this] at h1 ⊢
          have h3 : 128 ^ 9 * (c.toNat % 128 + 128 * 0) ≤ 128 ^ 9 * 1 := Nat.mul_le_mul (Nat.le_refl _) (by omega)
          omega
      refine ⟨hn ▸ unzig_in _ hv, by omega, by omega, by simp; omega, ?_⟩
      rw [← hn, enc, zig_unzig, encU_valU p c hp hc hc0]

end Wire
end Go.Proofs.YtenamjldkaggcaaDoor
