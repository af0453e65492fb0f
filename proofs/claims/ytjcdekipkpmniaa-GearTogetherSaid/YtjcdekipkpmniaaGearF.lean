/- The gear's plain functions: a byte's number, a step of the sum, where bytes are cut. -/
import Derived.Test.YtjcdekipkpmniaaK
namespace Go.Proofs.Ytjcdekipkpmniaa
namespace Gear

/-- a byte's number -/
def tbl (c : Int) : Int :=
  let z := IntKind.u64.wrap (IntKind.u64.wrap (IntKind.u64.wrap c + 1) * 11400714819323198485)
  let y := IntKind.u64.wrap (Go.bits .xor .u64 z (z / 1073741824) * 13787848793156543929)
  let x := IntKind.u64.wrap (Go.bits .xor .u64 y (y / 134217728) * 10723151780598845931)
  Go.bits .xor .u64 x (x / 2147483648)

/-- the sum behind one byte more -/
def nxt (s c : Int) : Int := IntKind.u64.wrap (IntKind.u64.wrap (s * 2) + tbl c)

/-- does a chunk of n bytes with this sum go on? -/
def goes (s n : Int) : Bool := (if n > 256 then s / 288230376151711744 != 0 else s / 18014398509481984 != 0) && decide (n < 1024)

/-- the sum takes a byte: does the chunk end behind it, the sum, how many -/
def stp (s n c : Int) : Bool × Int × Int :=
  if n + 1 ≤ 64 then (false, s, n + 1)
  else if goes (nxt s c) (n + 1) = true then (false, nxt s c, n + 1)
  else (true, 0, 0)

/-- where the bytes l are cut, the first of which has place i, in a chunk of n bytes with sum s -/
def cuts : List UInt8 → Int → Int → Int → List Int
  | [], i, _, n => if n > 0 then [i] else []
  | c :: l, i, s, n => let r := stp s n c.toNat; if r.1 = true then (i + 1) :: cuts l (i + 1) r.2.1 r.2.2 else cuts l (i + 1) r.2.1 r.2.2

theorem stp_n (s n c : Int) (h0 : 0 ≤ n) (h1 : n < 1024) : 0 ≤ (stp s n c).2.2 ∧ (stp s n c).2.2 < 1024 := by
  unfold stp
  split
  · simp; omega
  · split
    · rename_i h; simp only [goes, Bool.and_eq_true, decide_eq_true_eq] at h
      have := h.2; simp; omega
    · simp

theorem stp_n0 (s n c : Int) (h0 : 0 ≤ n) : 0 ≤ (stp s n c).2.2 := by
  unfold stp
  split
  · simp; omega
  · split
    · simp; omega
    · simp

theorem cuts_len : ∀ (l : List UInt8) (i s n : Int), 0 ≤ n → (cuts l i s n).length ≤ l.length + 1
  | [], i, s, n, _ => by simp only [cuts]; split <;> simp
  | c :: l, i, s, n, h => by
    simp only [cuts]
    have hn := stp_n0 s n c.toNat h
    split
    · have := cuts_len l (i + 1) (stp s n c.toNat).2.1 (stp s n c.toNat).2.2 hn; simp; omega
    · have := cuts_len l (i + 1) (stp s n c.toNat).2.1 (stp s n c.toNat).2.2 hn; simp; omega

theorem cuts_bound : ∀ (l : List UInt8) (i s n x : Int), x ∈ cuts l i s n → i ≤ x ∧ x ≤ i + l.length
  | [], i, s, n, x, h => by
    simp only [cuts] at h
    split at h
    · simp at h; simp; omega
    · simp at h
  | c :: l, i, s, n, x, h => by
    simp only [cuts] at h
    simp only [List.length_cons]
    split at h
    · rcases List.mem_cons.1 h with h | h
      · omega
      · have := cuts_bound l _ _ _ x h; omega
    · have := cuts_bound l _ _ _ x h; omega

theorem cuts_drop (a : ByteArray) (k : Nat) (h : k < a.size) (i s n : Int) :
    cuts (a.data.toList.drop k) i s n = if (stp s n (a[k]).toNat).1 = true then (i + 1) :: cuts (a.data.toList.drop (k + 1)) (i + 1) (stp s n (a[k]).toNat).2.1 (stp s n (a[k]).toNat).2.2
      else cuts (a.data.toList.drop (k + 1)) (i + 1) (stp s n (a[k]).toNat).2.1 (stp s n (a[k]).toNat).2.2 := by
  rw [List.drop_eq_getElem_cons (by simpa using h)]
  rfl

/-- where the chunk ends of which n bytes with sum s are gone, 64 or more: how many it has; is that sure? -/
def ends : List UInt8 → Int → Int → Int × Bool
  | [], n, _ => (n, false)
  | c :: l, n, s => if goes (nxt s c.toNat) (n + 1) = true then ends l (n + 1) (nxt s c.toNat) else (n + 1, true)

def endsAll (l : List UInt8) : Int × Bool := if l.length ≤ 64 then (l.length, false) else ends (l.drop 64) 64 0

theorem ends_drop (a : ByteArray) (k : Nat) (h : k < a.size) (n s : Int) :
    ends (a.data.toList.drop k) n s = if goes (nxt s (a[k]).toNat) (n + 1) = true then ends (a.data.toList.drop (k + 1)) (n + 1) (nxt s (a[k]).toNat) else (n + 1, true) := by
  rw [List.drop_eq_getElem_cons (by simpa using h)]
  rfl

theorem ends_le : ∀ (l : List UInt8) (n s : Int), n < (ends l n s).1 + (if l = [] then 1 else 0) ∧ (ends l n s).1 ≤ n + l.length
  | [], n, _ => by simp [ends]; omega
  | c :: l, n, s => by
    unfold ends
    have ih := ends_le l (n + 1) (nxt s c.toNat)
    split
    · simp only [List.length_cons]
      refine ⟨?_, by omega⟩
      have := ih.1
      simp; split at this <;> omega
    · simp only [List.length_cons]; simp; omega

theorem ends_false : ∀ (l : List UInt8) (n s m : Int), ends l n s = (m, false) → m = n + l.length
  | [], n, s, m, h => by simp [ends] at h; simp [h]
  | c :: l, n, s, m, h => by
    unfold ends at h
    split at h
    · have := ends_false l _ _ m h; simp; omega
    · simp at h

/-- behind 64 bytes the cuts go on as 'ends' says -/
theorem cuts_ends : ∀ (l : List UInt8) (i n s : Int), 64 ≤ n → n < 1024 → 
    cuts l i s n = if (ends l n s).2 = true then (i + ((ends l n s).1 - n)) :: cuts (l.drop ((ends l n s).1 - n).toNat) (i + ((ends l n s).1 - n)) 0 0 else [i + l.length]
  | [], i, n, s, h, _ => by simp [cuts, ends]; omega
  | c :: l, i, n, s, h, h1 => by
    have hs : stp s n c.toNat = if goes (nxt s c.toNat) (n + 1) = true then (false, nxt s c.toNat, n + 1) else (true, 0, 0) := by
      simp only [stp]; rw [if_neg (by omega)]
    simp only [cuts, hs, ends]
    by_cases hg : goes (nxt s c.toNat) (n + 1) = true
    · simp only [if_pos hg]
      have hn : n + 1 < 1024 := by simp [goes] at hg; exact hg.2
      rw [if_neg (by simp), cuts_ends l (i + 1) (n + 1) (nxt s c.toNat) (by omega) hn]
      have hle := ends_le l (n + 1) (nxt s c.toNat)
      generalize ends l (n + 1) (nxt s c.toNat) = e at hle
      obtain ⟨m, b⟩ := e
      cases b with
      | true =>
        simp only [if_true]
        have : n + 1 ≤ m := by have := hle.1; dsimp only at this; split at this <;> omega
        have e1 : i + 1 + (m - (n + 1)) = i + (m - n) := by omega
        have e2 : (m - n).toNat = (m - (n + 1)).toNat + 1 := by omega
        rw [e1, e2, List.drop_succ_cons]
      | false => simp; omega
    · simp only [if_neg hg, if_true]
      have e2 : (n + 1 - n).toNat = 1 := by omega
      have e1 : i + (n + 1 - n) = i + 1 := by omega
      rw [e2, e1]; rfl

/-- the first 64 bytes -/
theorem cuts_first : ∀ (m : Nat) (l : List UInt8) (i n s : Int), 0 ≤ n → n + m = 64 → 
    cuts l i s n = if l.length ≤ m then (if 0 < n + l.length then [i + l.length] else []) else cuts (l.drop m) (i + m) s 64
  | 0, l, i, n, s, _, h => by
    have : n = 64 := by omega
    subst this
    cases l with
    | nil => simp [cuts]
    | cons c l => simp
  | m + 1, [], i, n, s, h0, h => by simp [cuts]
  | m + 1, c :: l, i, n, s, h0, h => by
    have hs : stp s n c.toNat = (false, s, n + 1) := by simp only [stp]; rw [if_pos (by omega)]
    simp only [cuts, hs]
    rw [if_neg (by simp), cuts_first m l (i + 1) (n + 1) s (by omega) (by omega)]
    simp only [List.length_cons, List.drop_succ_cons]
    have e1 : i + 1 + (m : Int) = i + ((m + 1 : Nat) : Int) := by omega
    rw [e1]
    by_cases hl : l.length ≤ m
    · rw [if_pos hl, if_pos (by omega), if_pos (by omega), if_pos (by omega)]
      have : i + 1 + (l.length : Int) = i + ((l.length + 1 : Nat) : Int) := by omega
      rw [this]
    · rw [if_neg hl, if_neg (by omega)]

theorem endsAll_le (l : List UInt8) (h : l ≠ []) : 0 < (endsAll l).1 ∧ (endsAll l).1 ≤ l.length := by
  unfold endsAll
  split
  · have : l.length ≠ 0 := by simpa using h
    simp; omega
  · rename_i hl
    have := ends_le (l.drop 64) 64 0
    simp only [List.length_drop] at this
    constructor
    · have := this.1; split at this <;> omega
    · omega

/-- the cuts, chunk by chunk -/
theorem cuts_chunk (l : List UInt8) (i : Int) (h : l ≠ []) : cuts l i 0 0 = (i + (endsAll l).1) :: cuts (l.drop (endsAll l).1.toNat) (i + (endsAll l).1) 0 0 := by
  rw [cuts_first 64 l i 0 0 (by omega) (by omega)]
  have hpos : 0 < l.length := by cases l; exact absurd rfl h; simp
  unfold endsAll
  by_cases hl : l.length ≤ 64
  · rw [if_pos hl, if_pos (by omega), if_pos hl]
    simp [cuts]
  · rw [if_neg hl, if_neg hl, cuts_ends _ _ 64 0 (by omega) (by omega)]
    have hle := ends_le (l.drop 64) 64 0
    generalize hd : ends (l.drop 64) 64 0 = e at hle
    obtain ⟨m, b⟩ := e
    simp only [List.length_drop] at hle
    have hm : 64 ≤ m := by have := hle.1; split at this <;> omega
    cases b with
    | true =>
      simp only [if_true, List.drop_drop]
      have e1 : i + ((64 : Nat) : Int) + (m - 64) = i + m := by omega
      have e2 : 64 + (m - 64).toNat = m.toNat := by omega
      rw [e1, e2]
    | false =>
      have hm2 : m = l.length := ends_false (l.drop 64) 64 0 m hd ▸ by simp; omega
      subst hm2
      simp [cuts]; omega

end Gear
end Go.Proofs.Ytjcdekipkpmniaa
