/- Joined texts: WireF, WireW, WireT, WireI. -/
import Derived.Test.YtpoljpjcmigobaaDoorJ1
import Derived.Laws.BitsAllLaws
import Derived.Laws.Bits64b
import Derived.Outline
import Derived.WalkMore
/- Wire's numbers and texts as bytes, in plain lists: what is put, what is taken, and that each undoes the other. -/
namespace Go.Proofs.YtpoljpjcmigobaaDoor
set_option linter.unusedVariables false
set_option linter.unusedSimpArgs false
namespace Wire

def zig (n : Int) : Nat := if 0 ≤ n then (2 * n).toNat else (-2 * n - 1).toNat
def unzig (u : Nat) : Int := if u % 2 = 0 then ((u / 2 : Nat) : Int) else -((u / 2 : Nat) : Int) - 1
def In64 (n : Int) : Prop := -9223372036854775808 ≤ n ∧ n < 9223372036854775808

theorem unzig_zig (n : Int) : unzig (zig n) = n := by
  unfold unzig zig
  split <;> split <;> omega
theorem zig_unzig (u : Nat) : zig (unzig u) = u := by
  unfold unzig zig
  split <;> split <;> omega
theorem zig_lt (n : Int) (h : In64 n) : zig n < 18446744073709551616 := by
  unfold In64 at h; unfold zig; split <;> omega
theorem unzig_in (u : Nat) (h : u < 18446744073709551616) : In64 (unzig u) := by
  unfold In64 unzig; split <;> omega

def encU (u : Nat) : List UInt8 := if h : u < 128 then [UInt8.ofNat u] else UInt8.ofNat (u % 128 + 128) :: encU (u / 128)
termination_by u
decreasing_by omega

def valU : List UInt8 → Nat
  | [] => 0
  | c :: l => c.toNat % 128 + 128 * valU l

def enc (n : Int) : List UInt8 := encU (zig n)
def encT (s : List UInt8) : List UInt8 := enc s.length ++ s

theorem encU_small (u : Nat) (h : u < 128) : encU u = [UInt8.ofNat u] := by rw [encU, dif_pos h]
theorem encU_big (u : Nat) (h : 128 ≤ u) : encU u = UInt8.ofNat (u % 128 + 128) :: encU (u / 128) := by rw [encU, dif_neg (by omega)]

theorem toNat_of (x : Nat) (h : x < 256) : (UInt8.ofNat x).toNat = x := by simp; omega

theorem valU_append (p q : List UInt8) : valU (p ++ q) = valU p + 128 ^ p.length * valU q := by
  induction p with
  | nil => simp [valU]
  | cons c p ih =>
    simp only [List.cons_append, valU, ih, List.length_cons, Nat.pow_succ]
    rw [Nat.mul_add, ← Nat.mul_assoc, Nat.mul_comm 128 (128 ^ p.length)]; omega
theorem valU_lt (p : List UInt8) : valU p < 128 ^ p.length := by
  induction p with
  | nil => simp [valU]
  | cons c p ih => simp only [valU, List.length_cons, Nat.pow_succ]; have := Nat.mod_lt c.toNat (show 128 > 0 by decide); omega

theorem encU_ne (u : Nat) : encU u ≠ [] := by
  by_cases h : u < 128
  · rw [encU_small u h]; simp
  · rw [encU_big u (by omega)]; simp

theorem valU_encU : ∀ (n u : Nat), u ≤ n → valU (encU u) = u := by
  intro n
  induction n with
  | zero => intro u h; rw [encU_small u (by omega)]; simp only [valU]; rw [toNat_of u (by omega)]; omega
  | succ n ih =>
    intro u h
    by_cases hu : u < 128
    · rw [encU_small u hu]; simp only [valU]; rw [toNat_of u (by omega)]; omega
    · rw [encU_big u (by omega)]; simp only [valU]; rw [toNat_of _ (by omega), ih (u / 128) (by omega)]; omega

theorem encU_len (m u : Nat) (h : u < 128 ^ (m + 1)) : (encU u).length ≤ m + 1 := by
  induction m generalizing u with
  | zero => rw [encU_small u (by simpa using h)]; simp
  | succ m ih =>
    by_cases hu : u < 128
    · rw [encU_small u hu]; simp
    · rw [encU_big u (by omega)]
      have : u / 128 < 128 ^ (m + 1) := by rw [Nat.div_lt_iff_lt_mul (by decide)]; rw [Nat.pow_succ] at h; exact h
      have := ih _ this
      simp; omega
theorem enc_len (n : Int) (h : In64 n) : (enc n).length ≤ 10 := encU_len 9 _ (by have := zig_lt n h; omega)
theorem enc_pos (n : Int) : 0 < (enc n).length := List.length_pos_iff.2 (encU_ne _)

/-- Where the number ends that begins with l; i bytes of it are gone. -/
def bitsLen : List UInt8 → Nat → Option Nat
  | [], _ => none
  | c :: l, i => if 9 < i ∨ (i = 9 ∧ 1 < c.toNat) then none else if c.toNat < 128 then some (i + 1) else bitsLen l (i + 1)

/-- The number that l begins with, and how many bytes it has. -/
def dec (l : List UInt8) : Option (Int × Nat) :=
  match bitsLen l 0 with
  | none => none
  | some k => if 1 < k ∧ l[k - 1]? = some 0 then none else some (unzig (valU (l.take k)), k)

theorem bitsLen_encU (r : List UInt8) : ∀ (n u i : Nat), u ≤ n → u * 128 ^ i < 18446744073709551616 → (i = 0 ∨ 0 < u) → bitsLen (encU u ++ r) i = some (i + (encU u).length) := by
  intro n
  induction n with
  | zero =>
    intro u i h hb hi
    have : i = 0 := by omega
    subst this
    rw [encU_small u (by omega)]
    simp only [List.cons_append, List.nil_append, bitsLen, List.length_cons, List.length_nil]
    rw [toNat_of u (by omega), if_neg (by omega), if_pos (by omega)]
  | succ n ih =>
    intro u i h hb hi
    have hi9 : i ≤ 9 := by
      rcases hi with hi | hi
      · omega
      · rcases Nat.lt_or_ge 9 i with h9 | h9
        · have h1 : 128 ^ 10 ≤ 128 ^ i := Nat.pow_le_pow_right (by decide) h9
          have h2 : 128 ^ i ≤ u * 128 ^ i := Nat.le_mul_of_pos_left _ hi
          omega
        · exact h9
    have h9 : i = 9 → u ≤ 1 := by intro e; subst e; omega
    by_cases hu : u < 128
    · rw [encU_small u hu]
      simp only [List.cons_append, List.nil_append, bitsLen, List.length_cons, List.length_nil]
      rw [toNat_of u (by omega), if_neg (by omega), if_pos (by omega)]
    · rw [encU_big u (by omega)]
      simp only [List.cons_append, bitsLen, List.length_cons]
      rw [toNat_of _ (by omega), if_neg (by omega), if_neg (by omega), ih (u / 128) (i + 1) (by omega) ?_ (by omega)]
      · congr 1; omega
      · have : u / 128 * 128 ≤ u := Nat.div_mul_le_self _ _
        have h2 := Nat.mul_le_mul_right (128 ^ i) this
        rw [Nat.pow_succ, Nat.mul_comm (128 ^ i) 128, ← Nat.mul_assoc]; omega

theorem bitsLen_some : ∀ (l : List UInt8) (i k : Nat), bitsLen l i = some k → ∃ p c r, l = p ++ c :: r ∧ k = i + p.length + 1 ∧ (∀ b ∈ p, 128 ≤ b.toNat) ∧ c.toNat < 128 ∧ (k ≤ 9 ∨ (k = 10 ∧ c.toNat ≤ 1))
  | [], i, k, h => by simp [bitsLen] at h
  | c :: l, i, k, h => by
    simp only [bitsLen] at h
    split at h
    · cases h
    · rename_i h1
      split at h
      · rename_i h2
        simp only [Option.some.injEq] at h
        exact ⟨[], c, l, rfl, by simp; omega, by simp, h2, by omega⟩
      · rename_i h2
        obtain ⟨p, d, r, hl, hk, hp, hd, h3⟩ := bitsLen_some l (i + 1) k h
        refine ⟨c :: p, d, r, by rw [hl]; rfl, by simp; omega, ?_, hd, h3⟩
        intro b hb
        rcases List.mem_cons.1 hb with hb | hb
        · subst hb; omega
        · exact hp b hb

theorem encU_valU (p : List UInt8) (c : UInt8) (hp : ∀ b ∈ p, 128 ≤ b.toNat) (hc : c.toNat < 128) (h0 : p = [] ∨ c.toNat ≠ 0) : encU (valU (p ++ [c])) = p ++ [c] := by
  induction p with
  | nil =>
    simp only [List.nil_append, valU]
    rw [encU_small _ (by omega)]
    congr 1
    apply UInt8.toNat_inj.1
    rw [toNat_of _ (by omega)]; omega
  | cons b p ih =>
    have hb := hp b (by simp)
    have hb2 := b.toNat_lt
    have hc0 : c.toNat ≠ 0 := by rcases h0 with h | h; cases h; exact h
    have ih := ih (fun x hx => hp x (by simp [hx])) (.inr hc0)
    have hpos : 0 < valU (p ++ [c]) := by
      rw [valU_append]; simp only [valU]
      have h2 : 0 < 128 ^ p.length := Nat.pow_pos (by decide)
      have h3 : 0 < c.toNat % 128 + 128 * 0 := by omega
      have := Nat.mul_pos h2 h3
      omega
    simp only [List.cons_append, valU]
    rw [encU_big _ (by omega)]
    have e1 : (b.toNat % 128 + 128 * valU (p ++ [c])) / 128 = valU (p ++ [c]) := by omega
    have e2 : (b.toNat % 128 + 128 * valU (p ++ [c])) % 128 + 128 = b.toNat := by omega
    rw [e1, e2, ih]
    congr 1
    apply UInt8.toNat_inj.1
    rw [toNat_of _ hb2]

theorem encU_last : ∀ (n u : Nat), u ≤ n → ∀ p, encU u = p ++ [0] → p ≠ [] → False := by
  intro n
  induction n with
  | zero =>
    intro u h p hp hne
    rw [encU_small u (by omega)] at hp
    cases p with
    | nil => exact hne rfl
    | cons b p => simp at hp
  | succ n ih =>
    intro u h p hp hne
    by_cases hu : u < 128
    · rw [encU_small u hu] at hp
      cases p with
      | nil => exact hne rfl
      | cons b p => simp at hp
    · rw [encU_big u (by omega)] at hp
      cases p with
      | nil => exact hne rfl
      | cons b p =>
        simp only [List.cons_append, List.cons.injEq] at hp
        cases p with
        | nil =>
          have h2 := valU_encU _ (u / 128) (Nat.le_refl _)
          rw [hp.2] at h2
          simp [valU] at h2; omega
        | cons d p => exact ih (u / 128) (by omega) _ hp.2 (by simp)

theorem dec_enc (n : Int) (hn : In64 n) (r : List UInt8) : dec (enc n ++ r) = some (n, (enc n).length) := by
  have hz := zig_lt n hn
  have hb := bitsLen_encU r (zig n) (zig n) 0 (Nat.le_refl _) (by omega) (.inl rfl)
  rw [Nat.zero_add] at hb
  have hv : valU (encU (zig n)) = zig n := valU_encU _ _ (Nat.le_refl _)
  obtain ⟨p, c, r', hl, hk, hp, hc, _⟩ := bitsLen_some _ _ _ hb
  unfold dec enc
  rw [hb]
  dsimp only
  rw [List.take_left, hv, unzig_zig]
  rw [if_neg]
  rintro ⟨h1, h2⟩
  have hlen : (encU (zig n)).length = p.length + 1 := by omega
  have hpc : encU (zig n) = p ++ [c] := by
    have h3 := congrArg (List.take (p.length + 1)) hl
    rw [← hlen, List.take_left, hlen] at h3
    have e : p ++ c :: r' = (p ++ [c]) ++ r' := by simp
    have e2 : p.length + 1 = (p ++ [c]).length := by simp
    rw [h3, e, e2, List.take_left]
  rw [List.getElem?_append_left (by omega), hlen, Nat.add_sub_cancel, hpc] at h2
  simp only [List.getElem?_append_right (Nat.le_refl _), Nat.sub_self, List.getElem?_cons_zero, Option.some.injEq] at h2
  subst h2
  -- a number's bytes do not end with 0
  exact encU_last (zig n) (zig n) (Nat.le_refl _) p hpc (by rintro rfl; simp at hlen; omega)

theorem dec_some (l : List UInt8) (n : Int) (k : Nat) (h : dec l = some (n, k)) : In64 n ∧ 0 < k ∧ k ≤ 10 ∧ k ≤ l.length ∧ l.take k = enc n := by
  unfold dec at h
  cases hb : bitsLen l 0 with
  | none => rw [hb] at h; cases h
  | some j =>
    rw [hb] at h
    dsimp only at h
    split at h
    · cases h
    · rename_i h0
      simp only [Option.some.injEq, Prod.mk.injEq] at h
      obtain ⟨hn, rfl⟩ := h
      obtain ⟨p, c, r, rfl, hk, hp, hc, h9⟩ := bitsLen_some _ _ _ hb
      have ht : (p ++ c :: r).take j = p ++ [c] := by
        have : j = (p ++ [c]).length := by simp; omega
        rw [this]
        have e : p ++ c :: r = (p ++ [c]) ++ r := by simp
        rw [e, List.take_left]
      rw [ht] at hn ⊢
      have hc0 : p = [] ∨ c.toNat ≠ 0 := by
        by_cases hp0 : p = []
        · exact .inl hp0
        · refine .inr fun hz => h0 ⟨?_, ?_⟩
          · have := List.length_pos_iff.2 hp0; omega
          · have : j - 1 = p.length := by omega
            rw [this, List.getElem?_append_right (Nat.le_refl _)]
            simp only [Nat.sub_self, List.getElem?_cons_zero, Option.some.injEq]
            exact UInt8.toNat_inj.1 hz
      have hv : valU (p ++ [c]) < 18446744073709551616 := by
        rw [valU_append]
        simp only [valU]
        have h1 := valU_lt p
        rcases h9 with h9 | ⟨h9, h10⟩
        · have h2 : 128 ^ p.length ≤ 128 ^ 8 := Nat.pow_le_pow_right (by decide) (by omega)
          have h3 : 128 ^ p.length * (c.toNat % 128 + 128 * 0) ≤ 128 ^ 8 * 127 := Nat.mul_le_mul h2 (by omega)
          omega
        · have : p.length = 9 := by omega
          rw [this] at h1 ⊢
          have h3 : 128 ^ 9 * (c.toNat % 128 + 128 * 0) ≤ 128 ^ 9 * 1 := Nat.mul_le_mul (Nat.le_refl _) (by omega)
          omega
      refine ⟨hn ▸ unzig_in _ hv, by omega, by omega, by simp; omega, ?_⟩
      rw [← hn, enc, zig_unzig, encU_valU p c hp hc hc0]

end Wire
end Go.Proofs.YtpoljpjcmigobaaDoor
/- The walks of slices.Clone of bytes, wire.PutInt, PutText, of the reference's Int and Text. -/
namespace Go.Proofs.YtpoljpjcmigobaaDoor
set_option linter.unusedVariables false
set_option linter.unusedSimpArgs false
open Go.RowKit K
namespace Wire

set_option maxRecDepth 100000 in
theorem bytes_t : SliceT Tryd.prog 111 5 1 1 := ⟨Tryd.underlying111, by decide, _, .int .u8 0, rfl, rfl, rfl, rfl, rfl⟩

/-- a result: a row of bytes in new memory -/
def BytesPost (l : List UInt8) (w : World) (e : Ending) (w' : World) : Prop :=
  ∃ v, e = .returned v ∧ w'.ownsRow w.heap.size 5 1 v l.length (bv l) ∧ Mod (fun _ => False) w w'

set_option maxRecDepth 100000 in
set_option maxHeartbeats 400000 in
theorem clone_calls (A : Option Addr) (c : Nat) (l : List UInt8) (w : World) (hA : Cells w A (bv l)) (hl : l.length ≤ 140737488355328) (hn : A = none → l = []) :
    Calls Tryd.prog 97 #[.slice A l.length c] w (BytesPost l w) := by
  have hL : l.length ≤ maxLen := by unfold maxLen; omega
  cases A with
  | none =>
    obtain rfl := hn rfl
    have hq := Lib.run_eql_slice_nil (P := Tryd.prog) w 111 5 none 0 c 0 0 Tryd.underlying111
    go_enter Tryd.func97, Tryd.ntmps97
    go_wp2_with fail
    go_ret
    exact ⟨_, rfl, World.ownsRow_nil _ _ _ _, Mod.refl _ _⟩
  | some a =>
    have hq := Lib.run_eql_slice_nil (P := Tryd.prog) w 111 5 (some a) l.length c 0 0 Tryd.underlying111
    have hnews : ∀ j u, (bv l)[j]? = some u → w.cell? (a.add j) = some u := by
      intro j u hj
      rcases hA with h | ⟨b, o, ha, hc⟩
      · rw [h] at hj; simp at hj
      · obtain rfl := Option.some.inj ha
        rw [show (⟨b, o, none⟩ : Addr).add j = ⟨b, o + j, none⟩ by unfold Addr.add; split <;> simp_all]
        exact hc j u hj
    have HN := Lib.hid hnews
    have HA := Lib.hid hA
    clear hnews hA hn
    go_enter Tryd.func97, Tryd.ntmps97
    go_wp2_with (first
      | (at_builtin; go_must (refine app _ _ bytes_t w.heap.size _ 0 [] (World.ownsRow_lit w #[] 0 (Nat.le_refl _) (by unfold maxLen; omega) rfl) a l.length c (bv l) rfl rfl rfl rfl (by rw [bv_length]; omega) (fun j u hj => by rw [cell_new_old _ _ _ (World.block_lt_of_cell? _ _ (HN.out j u hj))]; exact HN.out j u hj) (bv_one l) (by omega) (by omega) (by simp) ?_; intro v' w2 hown2 hm2)))
    go_ret
    refine ⟨_, rfl, by simpa using hown2, ?_⟩
    exact Mod.trans (Mod.alloc (Mod.refl _ _) _) hm2 (fun i hi ⟨h, _⟩ => by omega)

/-- the bytes of a number, one by one -/
theorem encU_step (u : Nat) : encU u = if u < 128 then [UInt8.ofNat u] else UInt8.ofNat (u % 128 + 128) :: encU (u / 128) := by
  split
  · exact encU_small u (by assumption)
  · exact encU_big u (by omega)

theorem xor_ones (a : Nat) (h : a < 18446744073709551616) : a ^^^ 18446744073709551615 = 18446744073709551615 - a := by
  apply Nat.eq_of_testBit_eq
  intro i
  have e : 18446744073709551615 - a = 2 ^ 64 - (a + 1) := by omega
  have e2 : (18446744073709551615 : Nat) = 2 ^ 64 - 1 := by decide
  rw [Nat.testBit_xor, e, Nat.testBit_two_pow_sub_succ (by omega), e2, Nat.testBit_two_pow_sub_one]
  by_cases hi : i < 64
  · simp [hi]
  · have : a.testBit i = false := Nat.testBit_lt_two_pow (Nat.lt_of_lt_of_le h (by
      have := Nat.pow_le_pow_right (show 2 > 0 by decide) (show 64 ≤ i by omega); omega))
    simp [hi, this]

theorem zig_xor (n : Int) (hn : In64 n) : bits .xor .u64 (IntKind.u64.wrap (IntKind.u64.wrap n * 2)) (IntKind.u64.wrap (n / 9223372036854775808)) = (zig n : Int) := by
  unfold In64 at hn
  simp only [IntKind.wrap_u64]
  by_cases h : 0 ≤ n
  · have e1 : n % 18446744073709551616 * 2 % 18446744073709551616 = ((2 * n).toNat : Int) := by omega
    have e2 : n / 9223372036854775808 % 18446744073709551616 = ((0 : Nat) : Int) := by omega
    rw [e1, e2, bits_xor_u64_nat _ _ (by omega) (by omega), Nat.xor_zero, zig, if_pos h]
  · have e1 : n % 18446744073709551616 * 2 % 18446744073709551616 = ((2 * n + 18446744073709551616).toNat : Int) := by omega
    have e2 : n / 9223372036854775808 % 18446744073709551616 = ((18446744073709551615 : Nat) : Int) := by omega
    rw [e1, e2, bits_xor_u64_nat _ _ (by omega) (by omega), xor_ones _ (by omega), zig, if_neg h]
    omega

theorem zig_pos (n : Int) (hn : In64 n) (h : 0 ≤ n) : IntKind.u64.wrap (IntKind.u64.wrap n * 2) = (zig n : Int) := by
  unfold In64 at hn
  simp only [IntKind.wrap_u64]
  rw [zig, if_pos h]; omega

theorem zig_neg (n : Int) (hn : In64 n) (h : n < 0) : bits .xor .u64 IntKind.u64.max (IntKind.u64.wrap (IntKind.u64.wrap n * 2)) = (zig n : Int) := by
  unfold In64 at hn
  simp only [IntKind.wrap_u64]
  have e1 : n % 18446744073709551616 * 2 % 18446744073709551616 = ((2 * n + 18446744073709551616).toNat : Int) := by omega
  have e2 : IntKind.u64.max = ((18446744073709551615 : Nat) : Int) := by decide
  rw [e1, e2, bits_xor_u64_nat _ _ (by omega) (by omega), Nat.xor_comm, xor_ones _ (by omega), zig, if_neg (by omega)]
  omega

theorem or128 : ∀ x : Fin 256, x.val ||| 128 = x.val % 128 + 128 := by decide +kernel

theorem byte_or (u : Nat) : bits .or .u8 ((u : Int) % 256) 128 = ((UInt8.ofNat (u % 128 + 128)).toNat : Int) := by
  rw [toNat_of _ (by omega), u8_or _ _ (by omega) (by omega) (by omega) (by omega)]
  have e : ((u : Int) % 256).toNat = u % 256 := by omega
  have := or128 ⟨u % 256, Nat.mod_lt _ (by decide)⟩
  dsimp only at this
  rw [e, show (128 : Int).toNat = 128 from rfl, this]
  have : u % 256 % 128 = u % 128 := by omega
  rw [this]

theorem byte_wrap (u : Nat) (h : u < 128) : (u : Int) % 256 = ((UInt8.ofNat u).toNat : Int) := by
  rw [toNat_of _ (by omega)]; omega

set_option maxRecDepth 100000 in
set_option maxHeartbeats 1000000 in
theorem putInt_calls (A : Option Addr) (c : Nat) (l : List UInt8) (n : Int) (w : World) (hA : Cells w A (bv l)) (hl : l.length + 10 ≤ 140737488355328) (hnil : A = none → l = []) (hn : In64 n) :
    Calls Tryd.prog 76 #[.slice A l.length c, .int .i64 n] w (BytesPost (l ++ enc n) w) := by
  have hc := clone_calls A c l w hA (by omega) hnil
  have HC := Lib.hid hc
  have HX := Lib.hid (zig_xor n hn)
  have hz := zig_lt n hn
  have hlen := enc_len n hn
  clear hc hA hnil
  go_enter Tryd.func76, Tryd.ntmps76
  go_wp2_with fail
  refine HC.out.mono ?_
  rintro e w1 ⟨v, rfl, hown, hm⟩
  have HM := Lib.hid hm
  clear hm
  go_wp2_with fail
  rw [HX.out]
  go_loopw [0, 5] (fun v u w' => ∃ (acc : List UInt8) (x : Nat), u = .int .u64 x ∧ x < 18446744073709551616 ∧ w'.ownsRow w.heap.size 5 1 v (l.length + acc.length) (bv (l ++ acc)) ∧
      Hid (acc ++ encU x = enc n) ∧ Hid (Mod (fun _ => False) w w')) (fun _ u _ => (intOf u).toNat)
  case atStart => exact ⟨[], zig n, rfl, hz, by simpa using hown, Lib.hid rfl, HM⟩
  case round =>
    obtain ⟨acc, x, rfl, hx, hown, HE, HM⟩ := hrel
    have hal : acc.length < 10 := by
      have h1 := congrArg List.length HE.out
      have h2 := List.length_pos_iff.2 (encU_ne x)
      simp only [List.length_append] at h1
      omega
    have hsz := HM.out.size
    by_cases hlt : 128 ≤ x
    · obtain ⟨b, hb, hbb⟩ : ∃ b : UInt8, bits .or .u8 ((x : Int) % 256) 128 = (b.toNat : Int) ∧ b = UInt8.ofNat (x % 128 + 128) := ⟨_, byte_or x, rfl⟩
      rw [encU_big x hlt, ← hbb] at HE
      clear hbb
      go_wp2_with (first
        | (at_builtin; go_must (refine app _ _ bytes_t w.heap.size _ _ _ (hown.alloc _) _ 1 1 [.int .u8 b.toNat] rfl rfl rfl rfl rfl (one_new _ _ _) (by simp [Value.oneCell']) (by omega) (by unfold maxLen; omega) (by simp; omega) ?_; intro v' w2 hown2 hm2)))
      have hm3 := Mod.trans (Mod.alloc HM.out _) hm2 (fun i hi ⟨h, _⟩ => by omega)
      go_roundw
      case rel => exact ⟨acc ++ [b], x / 128, by go_num, by omega, by simpa [bv, Nat.add_assoc] using hown2, Lib.hid (by rw [List.append_assoc]; exact HE.out), Lib.hid hm3⟩
      case measure => simp [intOf]; omega
    · obtain ⟨b, rfl⟩ : ∃ b : UInt8, x = b.toNat := ⟨UInt8.ofNat x, (toNat_of x (by omega)).symm⟩
      rw [encU_small _ (by omega), show UInt8.ofNat b.toNat = b by simp] at HE
      go_wp2_with (first
        | (at_builtin; go_must (refine app _ _ bytes_t w.heap.size _ _ _ (hown.alloc _) _ 1 1 [.int .u8 b.toNat] rfl rfl rfl rfl rfl (one_new _ _ _) (by simp [Value.oneCell']) (by omega) (by unfold maxLen; omega) (by simp; omega) ?_; intro v' w2 hown2 hm2)))
      go_ret
      refine ⟨_, rfl, ?_, Mod.trans (Mod.alloc HM.out _) hm2 (fun i hi ⟨h, _⟩ => by omega)⟩
      rw [← HE.out]
      simpa [bv, Nat.add_assoc] using hown2

set_option maxRecDepth 100000 in
set_option maxHeartbeats 1000000 in
theorem refInt_calls (n : Int) (w : World) (hn : In64 n) : Calls Tryd.prog 81 #[.int .i64 n] w (BytesPost (enc n) w) := by
  have hz := zig_lt n hn
  have hlen := enc_len n hn
  by_cases h0 : 0 ≤ n
  · have HX := Lib.hid (zig_pos n hn h0)
    go_enter Tryd.func81, Tryd.ntmps81
    go_wp2_with fail
    rw [HX.out]
    go_loopw [4, 3] (fun v u w' => ∃ (acc : List UInt8) (x : Nat), u = .int .u64 x ∧ x < 18446744073709551616 ∧ w'.ownsRow w.heap.size 5 1 v acc.length (bv acc) ∧
      Hid (acc ++ encU x = enc n) ∧ Hid (Mod (fun _ => False) w w')) (fun _ u _ => (intOf u).toNat)
    case atStart => exact ⟨[], zig n, rfl, hz, World.ownsRow_nil _ _ _ _, Lib.hid rfl, Lib.hid (Mod.refl _ _)⟩
    case round =>
      obtain ⟨acc, x, rfl, hx, hown, HE, HM⟩ := hrel
      have hal : acc.length < 10 := by
        have h1 := congrArg List.length HE.out
        have h2 := List.length_pos_iff.2 (encU_ne x)
        simp only [List.length_append] at h1
        omega
      have hsz := HM.out.size
      by_cases hlt : 128 ≤ x
      · obtain ⟨b, hb, hbb⟩ : ∃ b : UInt8, bits .or .u8 ((x : Int) % 256) 128 = (b.toNat : Int) ∧ b = UInt8.ofNat (x % 128 + 128) := ⟨_, byte_or x, rfl⟩
        rw [encU_big x hlt, ← hbb] at HE
        clear hbb
        go_wp2_with (first
          | (at_builtin; go_must (refine app _ _ bytes_t w.heap.size _ _ _ (hown.alloc _) _ 1 1 [.int .u8 b.toNat] rfl rfl rfl rfl rfl (one_new _ _ _) (by simp [Value.oneCell']) (by omega) (by unfold maxLen; omega) (by simp; omega) ?_; intro v' w2 hown2 hm2)))
        have hm3 := Mod.trans (Mod.alloc HM.out _) hm2 (fun i hi ⟨h, _⟩ => by omega)
        go_roundw
        case rel => exact ⟨acc ++ [b], x / 128, by go_num, by omega, by simpa [bv, Nat.add_assoc] using hown2, Lib.hid (by rw [List.append_assoc]; exact HE.out), Lib.hid hm3⟩
        case measure => simp [intOf]; omega
      · obtain ⟨b, rfl⟩ : ∃ b : UInt8, x = b.toNat := ⟨UInt8.ofNat x, (toNat_of x (by omega)).symm⟩
        rw [encU_small _ (by omega), show UInt8.ofNat b.toNat = b by simp] at HE
        go_wp2_with (first
          | (at_builtin; go_must (refine app _ _ bytes_t w.heap.size _ _ _ (hown.alloc _) _ 1 1 [.int .u8 b.toNat] rfl rfl rfl rfl rfl (one_new _ _ _) (by simp [Value.oneCell']) (by omega) (by unfold maxLen; omega) (by simp; omega) ?_; intro v' w2 hown2 hm2)))
        go_ret
        refine ⟨_, rfl, ?_, Mod.trans (Mod.alloc HM.out _) hm2 (fun i hi ⟨h, _⟩ => by omega)⟩
        rw [← HE.out]
        simpa [bv, Nat.add_assoc] using hown2
  · have HX := Lib.hid (zig_neg n hn (by omega))
    go_enter Tryd.func81, Tryd.ntmps81
    go_wp2_with fail
    rw [HX.out]
    go_loopw [4, 3] (fun v u w' => ∃ (acc : List UInt8) (x : Nat), u = .int .u64 x ∧ x < 18446744073709551616 ∧ w'.ownsRow w.heap.size 5 1 v acc.length (bv acc) ∧
      Hid (acc ++ encU x = enc n) ∧ Hid (Mod (fun _ => False) w w')) (fun _ u _ => (intOf u).toNat)
    case atStart => exact ⟨[], zig n, rfl, hz, World.ownsRow_nil _ _ _ _, Lib.hid rfl, Lib.hid (Mod.refl _ _)⟩
    case round =>
      obtain ⟨acc, x, rfl, hx, hown, HE, HM⟩ := hrel
      have hal : acc.length < 10 := by
        have h1 := congrArg List.length HE.out
        have h2 := List.length_pos_iff.2 (encU_ne x)
        simp only [List.length_append] at h1
        omega
      have hsz := HM.out.size
      by_cases hlt : 128 ≤ x
      · obtain ⟨b, hb, hbb⟩ : ∃ b : UInt8, bits .or .u8 ((x : Int) % 256) 128 = (b.toNat : Int) ∧ b = UInt8.ofNat (x % 128 + 128) := ⟨_, byte_or x, rfl⟩
        rw [encU_big x hlt, ← hbb] at HE
        clear hbb
        go_wp2_with (first
          | (at_builtin; go_must (refine app _ _ bytes_t w.heap.size _ _ _ (hown.alloc _) _ 1 1 [.int .u8 b.toNat] rfl rfl rfl rfl rfl (one_new _ _ _) (by simp [Value.oneCell']) (by omega) (by unfold maxLen; omega) (by simp; omega) ?_; intro v' w2 hown2 hm2)))
        have hm3 := Mod.trans (Mod.alloc HM.out _) hm2 (fun i hi ⟨h, _⟩ => by omega)
        go_roundw
        case rel => exact ⟨acc ++ [b], x / 128, by go_num, by omega, by simpa [bv, Nat.add_assoc] using hown2, Lib.hid (by rw [List.append_assoc]; exact HE.out), Lib.hid hm3⟩
        case measure => simp [intOf]; omega
      · obtain ⟨b, rfl⟩ : ∃ b : UInt8, x = b.toNat := ⟨UInt8.ofNat x, (toNat_of x (by omega)).symm⟩
        rw [encU_small _ (by omega), show UInt8.ofNat b.toNat = b by simp] at HE
        go_wp2_with (first
          | (at_builtin; go_must (refine app _ _ bytes_t w.heap.size _ _ _ (hown.alloc _) _ 1 1 [.int .u8 b.toNat] rfl rfl rfl rfl rfl (one_new _ _ _) (by simp [Value.oneCell']) (by omega) (by unfold maxLen; omega) (by simp; omega) ?_; intro v' w2 hown2 hm2)))
        go_ret
        refine ⟨_, rfl, ?_, Mod.trans (Mod.alloc HM.out _) hm2 (fun i hi ⟨h, _⟩ => by omega)⟩
        rw [← HE.out]
        simpa [bv, Nat.add_assoc] using hown2

end Wire
end Go.Proofs.YtpoljpjcmigobaaDoor
/- The walks of wire.PutText, the reference's Text, wire.bits, wire.TakeInt. -/
namespace Go.Proofs.YtpoljpjcmigobaaDoor
set_option linter.unusedVariables false
set_option linter.unusedSimpArgs false
open Go.RowKit K
namespace Wire

theorem byte_zero : ∀ i z, Tryd.prog.info? 5 = some i → i.zero = some z → z = .int .u8 0 := by
  intro i z hi hz
  have h : (Tryd.prog.info? 5).map (·.zero) = some (some (.int .u8 0)) := by kernel_rfl
  rw [hi] at h
  simp only [Option.map_some, Option.some.injEq] at h
  rw [h] at hz
  exact (Option.some.inj hz).symm

theorem in64_len (k : Nat) (h : k ≤ 140737488355328) : In64 (k : Int) := by unfold In64; omega

set_option maxRecDepth 100000 in
set_option maxHeartbeats 400000 in
theorem putText_calls (A : Option Addr) (c : Nat) (l : List UInt8) (s : ByteArray) (w : World) (hA : Cells w A (bv l)) (hl : l.length + 10 + s.size ≤ 140737488355327) (hnil : A = none → l = []) :
    Calls Tryd.prog 77 #[.slice A l.length c, .string s] w (BytesPost (l ++ encT s.data.toList) w) := by
  have hi := in64_len s.size (by omega)
  have hp := putInt_calls A c l s.size w hA (by omega) hnil hi
  have hlen := enc_len _ hi
  have HP := Lib.hid hp
  clear hp hA hnil hi
  go_enter Tryd.func77, Tryd.ntmps77
  go_wp2_with fail
  refine HP.out.mono ?_
  rintro e w1 ⟨v, rfl, hown, hm⟩
  have hsz := hm.size
  go_wp2_with (first
    | (at_builtin; go_must (refine app_str _ _ bytes_t byte_zero Tryd.underlying9 w.heap.size _ _ _ hown s rfl rfl rfl rfl (by simp; unfold maxLen; omega) (by simp; omega) (by omega) ?_; intro v' w2 hown2 hm2)))
  go_ret
  refine ⟨_, rfl, ?_, Mod.trans hm hm2 (fun i hi ⟨h, _⟩ => by omega)⟩
  have hs2 : s.data.toList.length = s.size := by simp
  rw [encT, ← List.append_assoc, List.length_append, hs2, bv_append]
  exact hown2

set_option maxRecDepth 100000 in
set_option maxHeartbeats 400000 in
theorem refText_calls (s : ByteArray) (w : World) (hl : 10 + s.size ≤ 140737488355327) :
    Calls Tryd.prog 82 #[.string s] w (BytesPost (encT s.data.toList) w) := by
  have hi := in64_len s.size (by omega)
  have hp := refInt_calls s.size w hi
  have hlen := enc_len _ hi
  have HP := Lib.hid hp
  clear hp hi
  go_enter Tryd.func82, Tryd.ntmps82
  go_wp2_with fail
  refine HP.out.mono ?_
  rintro e w1 ⟨v, rfl, hown, hm⟩
  have hsz := hm.size
  go_wp2_with (first
    | (at_builtin; go_must (refine app_str _ _ bytes_t byte_zero Tryd.underlying9 w.heap.size _ _ _ hown s rfl rfl rfl rfl (by unfold maxLen; omega) (by omega) (by omega) ?_; intro v' w2 hown2 hm2)))
  go_ret
  refine ⟨_, rfl, ?_, Mod.trans hm hm2 (fun i hi ⟨h, _⟩ => by omega)⟩
  have hs2 : s.data.toList.length = s.size := by simp
  rw [encT, List.length_append, hs2, bv_append]
  exact hown2

/-- what bits tells -/
def BitsPost (l : List UInt8) (w : World) (e : Ending) (w' : World) : Prop :=
  ∃ (u : Int) (k : Nat), e = .returned (.tuple #[.int .u64 u, .int .i64 k]) ∧ w' = w ∧ (bitsLen l 0 = none → k = 0) ∧ (∀ j, bitsLen l 0 = some j → k = j ∧ u = valU (l.take j))

theorem bitsLen_drop (l : List UInt8) (k : Nat) (h : k < l.length) : bitsLen (l.drop k) k = if 9 < k ∨ (k = 9 ∧ 1 < l[k].toNat) then none else if l[k].toNat < 128 then some (k + 1) else bitsLen (l.drop (k + 1)) (k + 1) := by
  rw [List.drop_eq_getElem_cons h]; rfl

theorem valU_take (l : List UInt8) (k : Nat) (h : k < l.length) : valU (l.take (k + 1)) = valU (l.take k) + 128 ^ k * (l[k].toNat % 128) := by
  rw [List.take_succ_eq_append_getElem h, valU_append]
  simp only [valU, List.length_take]
  rw [Nat.min_eq_left (by omega)]; rfl

theorem valU_take_lt (l : List UInt8) (k : Nat) : valU (l.take k) < 128 ^ k := by
  have h := valU_lt (l.take k)
  have h2 : 128 ^ (l.take k).length ≤ 128 ^ k := Nat.pow_le_pow_right (by decide) (by simp; omega)
  omega

theorem or_add (x y k : Nat) (hk : k ≤ 9) (hx : x < 128 ^ k) (hy : y * 128 ^ k < 18446744073709551616) : bits .or .u64 (x : Int) ((y * 128 ^ k : Nat) : Int) = ((x + 128 ^ k * y : Nat) : Int) := by
  have hx2 : x < 18446744073709551616 := by
    have h1 : 128 ^ k ≤ 128 ^ 9 := Nat.pow_le_pow_right (by decide) hk
    omega
  rw [bits_or_u64_nat _ _ hx2 hy]
  have e : (128 : Nat) ^ k = 2 ^ (7 * k) := by rw [Nat.pow_mul]
  rw [e] at hx ⊢
  rw [Nat.mul_comm y, Nat.or_comm, ← Nat.two_pow_add_eq_or_of_lt hx, Nat.add_comm]

theorem and127 : ∀ x : Fin 256, x.val &&& 127 = x.val % 128 := by decide +kernel
theorem byte_and (y : Nat) (h : y < 256) : bits .and .u8 (y : Int) 127 = ((y % 128 : Nat) : Int) := by
  rw [u8_and _ _ (by omega) (by omega) (by omega) (by omega)]
  have := and127 ⟨y, h⟩
  dsimp only at this
  rw [Int.toNat_natCast, show (127 : Int).toNat = 127 from rfl, this]

theorem shl7 (y k : Nat) (h : y * 128 ^ k < 18446744073709551616) : IntKind.u64.wrap ((y : Int) * 2 ^ (7 * k)) = ((y * 128 ^ k : Nat) : Int) := by
  have e : (128 : Nat) ^ k = 2 ^ (7 * k) := by rw [Nat.pow_mul]
  have e2 : ((y * 128 ^ k : Nat) : Int) = (y : Int) * 2 ^ (7 * k) := by rw [e]; simp
  rw [← e2, IntKind.wrap_u64]; omega

theorem mul_pow_lt (y k : Nat) (hy : y < 128) (hk : k ≤ 8) : y * 128 ^ k < 18446744073709551616 := by
  have h1 : 128 ^ k ≤ 128 ^ 8 := Nat.pow_le_pow_right (by decide) hk
  have h2 : y * 128 ^ k ≤ 127 * 128 ^ 8 := Nat.mul_le_mul (by omega) h1
  omega

set_option maxRecDepth 100000 in
set_option maxHeartbeats 1000000 in
theorem bits_calls (A : Option Addr) (c : Nat) (l : List UInt8) (w : World) (hA : Cells w A (bv l)) (hl : l.length ≤ 140737488355328) :
    Calls Tryd.prog 118 #[.slice A l.length c] w (BitsPost l w) := by
  have HA := Lib.hid hA
  clear hA
  go_enter Tryd.func118, Tryd.ntmps118
  go_wp2_with fail
  go_step3
  go_wp2_with fail
  go_step3
  go_wp2_with fail
  go_loop [10, 4, 5] (fun i u r => ∃ (k x : Nat), i = .int .i64 k ∧ u = .int .u64 x ∧ r = .int .i64 0 ∧ k ≤ l.length ∧ k ≤ 9 ∧ x < 128 ^ k ∧ Hid (x = valU (l.take k)) ∧ Hid (bitsLen l 0 = bitsLen (l.drop k) k)) (fun i _ _ => l.length - (intOf i).toNat)
  case atStart => exact ⟨0, 0, by go_num, rfl, rfl, by omega, by omega, by decide, Lib.hid rfl, Lib.hid rfl⟩
  case round =>
    obtain ⟨k, x, rfl, rfl, rfl, hk, hk9, hx, HV, HB⟩ := hrel
    by_cases hlt : k < l.length
    · have hb := bitsLen_drop l k hlt
      rw [← HB.out] at hb
      rcases HA.out with h | ⟨b, o, rfl, hcell⟩
      · have := congrArg List.length h; rw [bv_length] at this; simp at this; subst this; simp at hlt
      have c1 := hcell k _ (bv_get l k hlt)
      have hvt := valU_take l k hlt
      clear hcell HA
      obtain ⟨d, hd⟩ : ∃ d, l[k] = d := ⟨_, rfl⟩
      rw [hd] at c1 hb hvt
      have HVT := Lib.hid hvt
      clear hvt
      have HBK := Lib.hid hb
      clear hb HB
      have hd2 := d.toNat_lt
      generalize d.toNat = y at *
      have i1 : (k : Int) < (l.length : Int) := by omega
      clear hd
      go_wp2_with fail
      case roundEnd =>
        have hk8 : k ≤ 8 := by omega
        have hw : IntKind.u64.wrap (bits .and .u8 (y : Int) 127) = ((y % 128 : Nat) : Int) := by rw [byte_and y hd2, IntKind.wrap_u64]; omega
        have hm := mul_pow_lt (y % 128) k (by omega) hk8
        have hb := HBK.out
        rw [if_neg (by omega), if_neg (by omega)] at hb
        have hv := HVT.out
        rw [← HV.out] at hv
        have hlt2 := valU_take_lt l (k + 1)
        go_round
        case rel =>
          refine ⟨k + 1, x + 128 ^ k * (y % 128), by go_num, ?_, rfl, by omega, by omega, ?_, Lib.hid hv.symm, Lib.hid hb⟩
          · rw [hw, shl7 _ _ hm, or_add _ _ _ (by omega) hx hm]
          · rw [← hv]; exact hlt2
        case measure => simp [intOf]; omega
      all_goals
        go_ret2
        first
          | (refine ⟨_, 0, rfl, rfl, fun _ => rfl, fun j hj => ?_⟩
             have hb := HBK.out
             rw [if_pos (by omega)] at hb
             rw [hb] at hj; cases hj)
          | (have hk' : k = 9 := by omega
             subst hk'
             have hb := HBK.out
             rw [if_neg (by omega), if_pos (by omega)] at hb
             refine ⟨_, 10, rfl, rfl, (fun h => by rw [hb] at h; cases h), fun j hj => ?_⟩
             rw [hb] at hj
             obtain rfl := Option.some.inj hj
             refine ⟨rfl, ?_⟩
             have hv := HVT.out
             rw [← HV.out] at hv
             rw [hv, show y % 128 = y by omega]
             have := or_add x y 9 (by omega) hx (by omega)
             rw [← this]
             congr 1)
          | (have hb := HBK.out
             rw [if_neg (by omega), if_pos (by omega)] at hb
             refine ⟨bits .or .u64 (x : Int) (IntKind.u64.wrap ((y : Int) * 2 ^ (7 * k))), k + 1, by simp, rfl, (fun h => by rw [hb] at h; cases h), fun j hj => ?_⟩
             rw [hb] at hj
             obtain rfl := Option.some.inj hj
             refine ⟨rfl, ?_⟩
             have hv := HVT.out
             rw [← HV.out] at hv
             have hm := mul_pow_lt y k (by omega) (by omega)
             rw [hv, show y % 128 = y by omega, shl7 _ _ hm, or_add _ _ _ (by omega) hx hm])
    · obtain rfl : k = l.length := by omega
      have hb := HB.out
      rw [List.drop_of_length_le (Nat.le_refl _)] at hb
      have HBN := Lib.hid hb
      clear hb HB
      go_wp2_with fail
      go_ret2
      exact ⟨_, 0, rfl, rfl, fun _ => rfl, fun j hj => by rw [HBN.out] at hj; simp [bitsLen] at hj⟩
end Wire
end Go.Proofs.YtpoljpjcmigobaaDoor
/- The walk of wire.TakeInt. -/
namespace Go.Proofs.YtpoljpjcmigobaaDoor
set_option linter.unusedVariables false
set_option linter.unusedSimpArgs false
open Go.RowKit K
namespace Wire

/-- what TakeInt tells -/
def takeI (l : List UInt8) (at_ : Int) : Int × Int × Bool :=
  if at_ < 0 ∨ (l.length : Int) < at_ then (0, 0, false)
  else match dec (l.drop at_.toNat) with
    | none => (0, 0, false)
    | some (n, k) => (n, at_ + k, true)

theorem xor0 (x : Nat) (h : x < 9223372036854775808) : bits .xor .i64 (x : Int) 0 = x := by
  show IntKind.i64.wrap (((BitVec.ofInt 64 (x : Int)) ^^^ (BitVec.ofInt 64 0)).toNat : Int) = x
  have e : BitVec.ofInt 64 0 = 0#64 := by decide
  rw [e, BitVec.ofInt_natCast, BitVec.xor_zero, BitVec.toNat_ofNat, Nat.mod_eq_of_lt (by omega), IntKind.wrap_i64]
  omega
theorem xor1 (x : Nat) (h : x < 9223372036854775808) : bits .xor .i64 (x : Int) (-1) = -(x : Int) - 1 := by
  show IntKind.i64.wrap (((BitVec.ofInt 64 (x : Int)) ^^^ (BitVec.ofInt 64 (-1))).toNat : Int) = -(x : Int) - 1
  have e : BitVec.ofInt 64 (-1) = BitVec.allOnes 64 := by decide
  rw [e, BitVec.ofInt_natCast, BitVec.xor_allOnes, BitVec.toNat_not, BitVec.toNat_ofNat, Nat.mod_eq_of_lt (by omega), IntKind.wrap_i64]
  omega
theorem unzig_bits (x : Nat) (h : x < 18446744073709551616) : bits .xor .i64 ((x : Int) / 2) (wrap64 (-wrap64 (bits .and .u64 (x : Int) 1))) = unzig x := by
  have e1 : bits .and .u64 (x : Int) ((1 : Nat) : Int) = ((x % 2 : Nat) : Int) := by rw [u64_and_nat _ _ h (by decide), Nat.and_one_is_mod]
  have e3 : bits .and .u64 (x : Int) 1 = ((x % 2 : Nat) : Int) := e1
  rw [e3]
  have e2 : (x : Int) / 2 = ((x / 2 : Nat) : Int) := by omega
  rw [e2]
  unfold unzig
  split
  · rename_i h0
    have : wrap64 (-wrap64 ((x % 2 : Nat) : Int)) = 0 := by unfold wrap64; omega
    rw [this, xor0 _ (by omega)]
  · rename_i h0
    have : wrap64 (-wrap64 ((x % 2 : Nat) : Int)) = -1 := by unfold wrap64; omega
    rw [this, xor1 _ (by omega)]

theorem takeI_some (l : List UInt8) (p : Nat) (n : Int) (k : Nat) (hp : p ≤ l.length) (h : dec (l.drop p) = some (n, k)) : takeI l (p : Int) = (n, (p : Int) + k, true) := by
  unfold takeI; rw [if_neg (by omega), Int.toNat_natCast, h]
theorem takeI_none (l : List UInt8) (p : Nat) (hp : p ≤ l.length) (h : dec (l.drop p) = none) : takeI l (p : Int) = (0, 0, false) := by
  unfold takeI; rw [if_neg (by omega), Int.toNat_natCast, h]

def vI (r : Int × Int × Bool) : Value := .tuple #[.int .i64 r.1, .int .i64 r.2.1, .bool r.2.2]

set_option maxRecDepth 100000 in
set_option maxHeartbeats 1000000 in
theorem takeInt_calls (A : Option Addr) (c : Nat) (l : List UInt8) (at_ : Int) (w : World) (hA : Cells w A (bv l)) (hl : l.length ≤ 140737488355328) (hc : l.length ≤ c) (hc2 : c ≤ maxLen) (hadr : Adr A c) :
    Calls Tryd.prog 107 #[.slice A l.length c, .int .i64 at_] w fun e w' => e = .returned (vI (takeI l at_)) ∧ w' = w := by
  unfold maxLen at hc2
  by_cases hin : 0 ≤ at_ ∧ at_ ≤ (l.length : Int)
  · obtain ⟨h0, h1⟩ := hin
    obtain ⟨p, rfl⟩ := Int.eq_ofNat_of_zero_le h0
    have hp : p ≤ l.length := by omega
    have hT : takeI l (p : Int) = match dec (l.drop p) with | none => (0, 0, false) | some (n, k) => (n, (p : Int) + k, true) := by
      unfold takeI; rw [if_neg (by omega), Int.toNat_natCast]
    by_cases hcap : p < c
    · obtain h | ⟨b, o, rfl⟩ := hadr
      · omega
      have hcell : ∀ j u, (bv l)[j]? = some u → w.cell? ⟨b, o + j, none⟩ = some u := by
        rcases hA with h | ⟨b', o', hb, hcell⟩
        · intro j u hj; rw [h] at hj; simp at hj
        · obtain ⟨rfl, rfl⟩ : b = b' ∧ o = o' := by simpa using hb
          exact hcell
      have hcd : Cells w (some ⟨b, o + p, none⟩) (bv (l.drop p)) := .inr ⟨b, o + p, rfl, fun j u hj => by
        rw [bv_drop, List.getElem?_drop] at hj
        rw [Nat.add_assoc]; exact hcell _ u hj⟩
      have hb := bits_calls (some ⟨b, o + p, none⟩) (c - p) (l.drop p) w hcd (by simp; omega)
      rw [List.length_drop] at hb
      have HB := Lib.hid hb
      have HC := Lib.hid hcell
      clear hb hcd hcell hA
      cases hbl : bitsLen (l.drop p) 0 with
      | none =>
        have hfin : takeI l (p : Int) = (0, 0, false) := by rw [hT]; unfold dec; rw [hbl]
        have HF := Lib.hid hfin
        have HBL := Lib.hid hbl
        clear hT hfin hbl
        go_enter Tryd.func107, Tryd.ntmps107
        go_wp2_with fail
        refine HB.out.mono ?_
        rintro e w1 ⟨u, k, rfl, hw, hk0, -⟩
        obtain rfl := hk0 HBL.out
        subst hw
        go_wp2_with fail
        go_ret3
        rw [HF.out]
        exact ⟨rfl, rfl⟩
      | some j =>
        obtain ⟨m, d, hj, hjl, hgd, hv⟩ : ∃ m d, j = m + 1 ∧ p + m < l.length ∧ l[p + m]? = some d ∧ valU ((l.drop p).take j) < 18446744073709551616 := by
          obtain ⟨q, d, r, hq, hj, hq1, hd, h9⟩ := bitsLen_some _ _ _ hbl
          have hqlen := congrArg List.length hq
          simp only [List.length_drop, List.length_append, List.length_cons] at hqlen
          refine ⟨q.length, d, by omega, by omega, ?_, ?_⟩
          · rw [← List.getElem?_drop, hq]; simp
          · have h1 := valU_take (l.drop p) q.length (by simp; omega)
            have h2 := valU_take_lt (l.drop p) q.length
            have e : (l.drop p)[q.length]'(by simp; omega) = d := by simp only [hq]; simp
            rw [show j = q.length + 1 by omega, h1, e]
            rcases h9 with h9 | ⟨h9, h10⟩
            · have h3 := valU_take_lt (l.drop p) (q.length + 1)
              rw [h1, e] at h3
              have h4 : 128 ^ (q.length + 1) ≤ 128 ^ 9 := Nat.pow_le_pow_right (by decide) (by omega)
              omega
            · have h4 : q.length = 9 := by omega
              rw [h4] at h2 ⊢
              have : 128 ^ 9 * (d.toNat % 128) ≤ 128 ^ 9 * 1 := Nat.mul_le_mul (Nat.le_refl _) (by omega)
              omega
        subst hj
        have hcj := HC.out (p + m) (.int .u8 d.toNat) (by simp only [bv, List.getElem?_map, hgd]; rfl)
        have hgd2 : (l.drop p)[m + 1 - 1]? = some d := by rw [List.getElem?_drop]; exact hgd
        by_cases hz : 1 < m + 1 ∧ d = 0
        · have hfin : takeI l (p : Int) = (0, 0, false) := by
            rw [hT]; unfold dec; rw [hbl]; dsimp only
            rw [if_pos]
            rw [hgd2, hz.2]; exact ⟨hz.1, rfl⟩
          have HF := Lib.hid hfin
          have HBL := Lib.hid hbl
          have hz1 : 0 < m := by omega
          have hz2 : d.toNat = 0 := by rw [hz.2]; rfl
          rw [hz2] at hcj
          clear hT hfin hbl hz hgd hgd2 hv hz2
          go_enter Tryd.func107, Tryd.ntmps107
          go_wp2_with fail
          refine HB.out.mono ?_
          rintro e w1 ⟨u, k, rfl, hw, -, hk0⟩
          obtain ⟨rfl, hu⟩ := hk0 _ HBL.out
          subst hw
          clear hu hk0
          go_wp2_with fail
          go_ret3
          rw [HF.out]
          exact ⟨rfl, rfl⟩
        · have hfin : takeI l (p : Int) = (unzig (valU ((l.drop p).take (m + 1))), (p : Int) + (m + 1 : Nat), true) := by
            rw [hT]; unfold dec; rw [hbl]; dsimp only
            rw [if_neg]
            rw [hgd2]; simpa using hz
          have HF := Lib.hid hfin
          have HBL := Lib.hid hbl
          have hz2 : 0 < m → ((d.toNat : Int) == 0) = false := by
            intro h; simp; intro h2; exact hz ⟨by omega, UInt8.toNat_inj.1 h2⟩
          generalize d.toNat = y at *
          clear hT hfin hbl hz hgd hgd2
          go_enter Tryd.func107, Tryd.ntmps107
          go_wp2_with fail
          refine HB.out.mono ?_
          rintro e w1 ⟨u, k, rfl, hw, -, hk0⟩
          obtain ⟨rfl, hu⟩ := hk0 _ HBL.out
          subst hw
          clear hk0
          generalize valU ((l.drop p).take (m + 1)) = x at *
          subst hu
          by_cases hk1 : 0 < m
          · have hz3 := hz2 hk1
            go_wp2_with fail
            go_ret3
            rw [HF.out]
            refine ⟨?_, rfl⟩
            show Ending.returned (.tuple #[.int .i64 (bits .xor .i64 ((x : Int) / 2) (wrap64 (-wrap64 (bits .and .u64 (x : Int) 1)))), .int .i64 ((p : Int) + ((m : Int) + 1)), .bool true]) = _
            rw [unzig_bits x hv]
            rfl
          · obtain rfl : m = 0 := by omega
            go_wp2_with fail
            go_ret3
            rw [HF.out]
            refine ⟨?_, rfl⟩
            show Ending.returned (.tuple #[.int .i64 (bits .xor .i64 ((x : Int) / 2) (wrap64 (-wrap64 (bits .and .u64 (x : Int) 1)))), .int .i64 ((p : Int) + 1), .bool true]) = _
            rw [unzig_bits x hv]
            rfl
    · obtain rfl : p = c := by omega
      have hpl : p = l.length := by omega
      have hnil : l.drop p = [] := List.drop_of_length_le (by omega)
      have hfin : takeI l (p : Int) = (0, 0, false) := by rw [hT, hnil]; rfl
      have HF := Lib.hid hfin
      subst hpl
      clear hT hfin hnil hA
      have hb := bits_calls A 0 [] w (.inl rfl) (by simp)
      have HB := Lib.hid hb
      clear hb
      go_enter Tryd.func107, Tryd.ntmps107
      go_wp2_with fail
      refine HB.out.mono ?_
      rintro e w1 ⟨u, k, rfl, hw, hk0, -⟩
      obtain rfl := hk0 rfl
      subst hw
      go_wp2_with fail
      go_ret3
      exact ⟨by rw [HF.out]; rfl, rfl⟩
  · have hfin : takeI l at_ = (0, 0, false) := by unfold takeI; rw [if_pos (by omega)]
    have HF := Lib.hid hfin
    clear hfin hA
    by_cases h0 : at_ < 0
    · go_enter Tryd.func107, Tryd.ntmps107
      go_wp2_with fail
      go_ret3
      exact ⟨by rw [HF.out]; rfl, rfl⟩
    · have h1 : (l.length : Int) < at_ := by omega
      clear hin
      go_enter Tryd.func107, Tryd.ntmps107
      go_wp2_with fail
      go_ret3
      exact ⟨by rw [HF.out]; rfl, rfl⟩
end Wire
end Go.Proofs.YtpoljpjcmigobaaDoor
