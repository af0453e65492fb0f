/- The law GearSizes: each chunk but the last one has sixty-four to a thousand and twenty-four bytes. -/
import Derived.Test.YtjcdekipkpmniaaGearS
namespace Go.Proofs.Ytjcdekipkpmniaa
open Go.RowKit K
namespace Gear

def sizesOK (len : Int) : List Int → Int → Prop
  | [], f => f = len
  | e :: r, f => 1 ≤ e - f ∧ e - f ≤ 1024 ∧ (r ≠ [] → 64 ≤ e - f) ∧ 0 ≤ e ∧ e ≤ len ∧ sizesOK len r e

theorem cuts_sizes (len : Int) : ∀ (l : List UInt8) (i s n : Int), 0 ≤ n → n < 1024 → 0 ≤ i → i + l.length = len → sizesOK len (cuts l i s n) (i - n)
  | [], i, s, n, h0, h1, hi, hl => by
    simp only [List.length_nil] at hl
    simp only [cuts]
    split
    · refine ⟨by omega, by omega, fun h => absurd rfl h, by omega, by omega, by simp [sizesOK]; omega⟩
    · simp only [sizesOK]; omega
  | c :: l, i, s, n, h0, h1, hi, hl => by
    simp only [List.length_cons] at hl
    have hn := stp_n s n c.toNat h0 h1
    simp only [cuts]
    by_cases hc : (stp s n c.toNat).1 = true
    · rw [if_pos hc]
      have h2 : (stp s n c.toNat).2.2 = 0 ∧ 64 < n + 1 := by
        unfold stp at hc ⊢
        split
        · rename_i h; rw [if_pos h] at hc; cases hc
        · rename_i h; rw [if_neg h] at hc; split
          · rename_i h'; rw [if_pos h'] at hc; cases hc
          · exact ⟨rfl, by omega⟩
      have ih := cuts_sizes len l (i + 1) (stp s n c.toNat).2.1 (stp s n c.toNat).2.2 hn.1 hn.2 (by omega) (by omega)
      rw [h2.1] at ih ⊢
      rw [Int.sub_zero] at ih
      exact ⟨by omega, by omega, fun _ => by omega, by omega, by omega, ih⟩
    · rw [if_neg hc]
      have h2 : (stp s n c.toNat).2.2 = n + 1 := by
        unfold stp at hc ⊢
        split
        · rfl
        · rename_i h; rw [if_neg h] at hc; split
          · rfl
          · rename_i h'; rw [if_neg h'] at hc; exact absurd rfl hc
      have ih := cuts_sizes len l (i + 1) (stp s n c.toNat).2.1 (stp s n c.toNat).2.2 hn.1 hn.2 (by omega) (by omega)
      rw [h2] at ih ⊢
      have e : i + 1 - (n + 1) = i - n := by omega
      rw [e] at ih
      exact ih

theorem getD_drop (L : List Int) (k : Nat) (h : k < L.length) : L.drop k = L[k] :: L.drop (k + 1) := List.drop_eq_getElem_cons h

set_option maxRecDepth 100000 in
set_option maxHeartbeats 1000000 in
theorem gearSizes_calls (a : ByteArray) (w : World) (ha : a.size ≤ 140737488351232) :
    Calls Try.prog 4 #[.string a] w fun e w' => e = .returned (.bool true) ∧ Below w.heap.size w w' := by
  have hs := cutS_size a
  have hL := cuts_len (cutS a).data.toList 0 0 0 (Int.le_refl _)
  have hl2 : (cutS a).data.toList.length = (cutS a).size := by simp
  have hok := cuts_sizes (cutS a).size (cutS a).data.toList 0 0 0 (by omega) (by omega) (by omega) (by omega)
  rw [hl2] at hL
  clear hl2
  have hcc := fun w => cuts_calls (cutS a) w (by omega)
  generalize cuts (cutS a).data.toList 0 0 0 = L at hL hok hcc
  have HC := Lib.hid hcc
  have HOK := Lib.hid hok
  clear hcc hok
  go_enter Try.func4, Try.ntmps4
  go_wp2_with fail
  refine (shown_calls _).mono ?_
  rintro e w1 ⟨rfl, hm⟩
  have HM := Lib.hid hm
  clear hm
  go_wp2_with (first
    | (go_at_call 11; refine (cut_calls _ _ ha).mono ?_; rintro e w' ⟨rfl, hw⟩; subst hw)
    | fail)
  refine (HC.out _).mono ?_
  rintro e w2 ⟨v, rfl, hown, hm1⟩
  obtain ⟨A, cap, rfl, hcap, hA⟩ := own_cells hown
  have HM1 := Lib.hid (Mod.trans HM.out hm1 (fun _ _ h => h))
  have HA := Lib.hid hA
  clear hm1 hown HM hA
  generalize cutS a = s at *
  go_wp2_with fail
  go_loop [5, 6] (fun f i => ∃ (k : Nat) (g : Int), i = .int .i64 k ∧ f = .int .i64 g ∧ k ≤ L.length ∧ 0 ≤ g ∧ g ≤ 1000000 ∧ Hid (sizesOK s.size (L.drop k) g)) (fun _ i => L.length - (intOf i).toNat)
  case atStart => exact ⟨0, 0, by go_num, rfl, by omega, by omega, by omega, HOK⟩
  case round =>
    obtain ⟨k, g, rfl, rfl, hk, hg0, hg1, HS⟩ := hrel
    by_cases hlt : k < L.length
    · rcases HA.out with h | ⟨b, o, rfl, hcell⟩
      · simp at h; subst h; simp at hlt
      have h1 := hcell k (.int .i64 L[k]) (by simp [hlt])
      have hS := HS.out
      rw [getD_drop L k hlt] at hS
      obtain ⟨g1, g2, g3, g4, g5, hS⟩ := hS
      clear hcell HS HA
      have HS := Lib.hid hS
      clear hS
      have g3' : k + 1 < L.length → 64 ≤ L[k] - g := fun h => g3 (by intro e; have := congrArg List.length e; simp at this; omega)
      clear g3
      have hb1 : (k : Int) < (L.length : Int) := by omega
      generalize L[k] = x at *
      by_cases hlast : k + 1 < L.length
      · have g3 := g3' hlast
        clear g3'
        go_wp2_with fail
        go_round
        case rel => exact ⟨k + 1, x, by go_num, rfl, by omega, by omega, by omega, HS⟩
        case measure => simp [intOf]; omega
      · clear g3'
        go_wp2_with fail
        go_round
        case rel => exact ⟨k + 1, x, by go_num, rfl, by omega, by omega, by omega, HS⟩
        case measure => simp [intOf]; omega
    · obtain rfl : k = L.length := by omega
      have hS := HS.out
      rw [List.drop_of_length_le (Nat.le_refl _)] at hS
      simp only [sizesOK] at hS
      subst hS
      go_wp2_with fail
      go_ret
      exact ⟨rfl, HM1.out.below (fun _ _ h => h)⟩
end Gear
end Go.Proofs.Ytjcdekipkpmniaa
