/- The cutter's plain laws: chunks are told where the document's Ends is sure; and they are what Cuts says. -/
import Derived.Test.YtjcdekipkpmniaaGearY
namespace Go.Proofs.Ytjcdekipkpmniaa
open Go.RowKit K
namespace Gear

def init : St := ⟨[], 0, 0, []⟩
theorem init_ok : Ok init := ⟨rfl, by decide⟩

/-- what was told before stands ahead -/
theorem feed_pre : ∀ (l : List UInt8) (o : List (List UInt8)) (s n : Int) (r : List UInt8), feed ⟨o, s, n, r⟩ l = ⟨o ++ (feed ⟨[], s, n, r⟩ l).out, (feed ⟨[], s, n, r⟩ l).s, (feed ⟨[], s, n, r⟩ l).n, (feed ⟨[], s, n, r⟩ l).rest⟩
  | [], o, s, n, r => by simp [feed]
  | c :: l, o, s, n, r => by
    have h1 : feed ⟨o, s, n, r⟩ (c :: l) = feed (step ⟨o, s, n, r⟩ c) l := rfl
    have h2 : feed ⟨[], s, n, r⟩ (c :: l) = feed (step ⟨[], s, n, r⟩ c) l := rfl
    rw [h1, h2]
    unfold step
    split
    · rw [feed_pre l (o ++ _), feed_pre l ([] ++ _)]
      simp [List.append_assoc]
    · rw [feed_pre l o]

/-- behind 64 bytes -/
theorem feed_ends : ∀ (l : List UInt8) (n s : Int) (r : List UInt8), 64 ≤ n → n < 1024 →
    ((ends l n s).2 = false → (feed ⟨[], s, n, r⟩ l).out = [] ∧ (feed ⟨[], s, n, r⟩ l).rest = r ++ l) ∧
    ((ends l n s).2 = true → n < (ends l n s).1 ∧ feed ⟨[], s, n, r⟩ l = feed ⟨[r ++ l.take ((ends l n s).1 - n).toNat], 0, 0, []⟩ (l.drop ((ends l n s).1 - n).toNat))
  | [], n, s, r, _, _ => by simp [ends, feed]
  | c :: l, n, s, r, h, h1 => by
    have hs : stp s n c.toNat = if goes (nxt s c.toNat) (n + 1) = true then (false, nxt s c.toNat, n + 1) else (true, 0, 0) := by
      simp only [stp]; rw [if_neg (by omega)]
    have h2 : feed ⟨[], s, n, r⟩ (c :: l) = feed (step ⟨[], s, n, r⟩ c) l := rfl
    rw [h2]
    by_cases hg : goes (nxt s c.toNat) (n + 1) = true
    · rw [if_pos hg] at hs
      have h3 : step ⟨[], s, n, r⟩ c = ⟨[], nxt s c.toNat, n + 1, r ++ [c]⟩ := by unfold step; dsimp only; rw [hs]; rfl
      have hn : n + 1 < 1024 := by simp [goes] at hg; exact hg.2
      have he : ends (c :: l) n s = ends l (n + 1) (nxt s c.toNat) := by rw [ends, if_pos hg]
      rw [h3, he]
      obtain ⟨i1, i2⟩ := feed_ends l (n + 1) (nxt s c.toNat) (r ++ [c]) (by omega) hn
      refine ⟨fun hf => ?_, fun ht => ?_⟩
      · obtain ⟨j1, j2⟩ := i1 hf
        exact ⟨j1, by rw [j2]; simp⟩
      · obtain ⟨j1, j2⟩ := i2 ht
        refine ⟨by omega, ?_⟩
        have e : ((ends l (n + 1) (nxt s c.toNat)).1 - n).toNat = ((ends l (n + 1) (nxt s c.toNat)).1 - (n + 1)).toNat + 1 := by omega
        rw [j2, e, List.take_succ_cons, List.drop_succ_cons]
        simp
    · rw [if_neg hg] at hs
      have h3 : step ⟨[], s, n, r⟩ c = ⟨[r ++ [c]], 0, 0, []⟩ := by unfold step; dsimp only; rw [hs]; rfl
      have he : ends (c :: l) n s = (n + 1, true) := by rw [ends, if_neg hg]
      rw [h3, he]
      refine ⟨fun hf => (by cases hf), fun _ => ⟨by dsimp only; omega, ?_⟩⟩
      have e : ((n + 1, true) : Int × Bool).1 - n = 1 := by dsimp only; omega
      rw [e]; rfl

/-- the first 64 bytes -/
theorem feed_first : ∀ (m : Nat) (l : List UInt8) (n s : Int) (r : List UInt8), 0 ≤ n → n + m = 64 →
    feed ⟨[], s, n, r⟩ l = if l.length ≤ m then ⟨[], s, n + l.length, r ++ l⟩ else feed ⟨[], s, 64, r ++ l.take m⟩ (l.drop m)
  | 0, l, n, s, r, _, h => by
    have : n = 64 := by omega
    subst this
    cases l with
    | nil => simp [feed]
    | cons c l => simp
  | m + 1, [], n, s, r, _, _ => by simp [feed]
  | m + 1, c :: l, n, s, r, h0, h => by
    have hs : stp s n c.toNat = (false, s, n + 1) := by simp only [stp]; rw [if_pos (by omega)]
    have h2 : feed ⟨[], s, n, r⟩ (c :: l) = feed (step ⟨[], s, n, r⟩ c) l := rfl
    have h3 : step ⟨[], s, n, r⟩ c = ⟨[], s, n + 1, r ++ [c]⟩ := by unfold step; dsimp only; rw [hs]; rfl
    rw [h2, h3, feed_first m l (n + 1) s (r ++ [c]) (by omega) (by omega)]
    simp only [List.length_cons, List.take_succ_cons, List.drop_succ_cons]
    by_cases hl : l.length ≤ m
    · rw [if_pos hl, if_pos (by omega)]
      congr 1
      · omega
      · simp
    · rw [if_neg hl, if_neg (by omega)]
      simp

/-- a chunk is told where Ends is sure; none where it is not -/
theorem feed_sure (l : List UInt8) :
    ((feed init l).out = [] → (endsAll l).2 = false ∧ (feed init l).rest = l) ∧
    (∀ c cs, (feed init l).out = c :: cs → endsAll l = ((c.length : Int), true) ∧ l.take c.length = c ∧ feed init (l.drop c.length) = ⟨cs, (feed init l).s, (feed init l).n, (feed init l).rest⟩) := by
  unfold init endsAll
  rw [feed_first 64 l 0 0 [] (by omega) (by omega)]
  by_cases hl : l.length ≤ 64
  · rw [if_pos hl, if_pos hl]
    exact ⟨fun _ => ⟨rfl, by simp⟩, fun c cs h => by cases h⟩
  · rw [if_neg hl, if_neg hl]
    obtain ⟨h1, h2⟩ := feed_ends (l.drop 64) 64 0 ([] ++ l.take 64) (by omega) (by omega)
    have hle := ends_le (l.drop 64) 64 0
    cases hb : (ends (l.drop 64) 64 0).2 with
    | false =>
      obtain ⟨j1, j2⟩ := h1 hb
      refine ⟨fun _ => ⟨rfl, by rw [j2]; simp⟩, fun c cs h => (by rw [j1] at h; cases h)⟩
    | true =>
      obtain ⟨j1, j2⟩ := h2 hb
      have hp : (ends (l.drop 64) 64 0) = ((ends (l.drop 64) 64 0).1, true) := by rw [← hb]
      rw [j2, hp]
      simp only [List.length_drop] at hle
      generalize (ends (l.drop 64) 64 0).1 = m at j1 hle
      rw [feed_pre]
      refine ⟨fun h => (by simp at h), fun c cs h => ?_⟩
      simp only [List.nil_append, List.cons_append, List.cons.injEq] at h
      obtain ⟨hc, hcs⟩ := h
      have e1 : List.take 64 l ++ List.take (m - 64).toNat (List.drop 64 l) = l.take m.toNat := by
        have e : m.toNat = 64 + (m - 64).toNat := by omega
        rw [e, List.take_add]
      rw [e1] at hc
      have hcl : c.length = m.toNat := by rw [← hc, List.length_take, Nat.min_eq_left (by omega)]
      refine ⟨by rw [hcl]; congr 1; omega, by rw [hcl]; exact hc, ?_⟩
      rw [hcl, List.drop_drop, show 64 + (m - 64).toNat = m.toNat by omega, hcs.symm]
      have e2 : List.drop (m - 64).toNat (List.drop 64 l) = l.drop m.toNat := by rw [List.drop_drop]; congr 1; omega
      rw [e2]
end Gear
end Go.Proofs.Ytjcdekipkpmniaa
