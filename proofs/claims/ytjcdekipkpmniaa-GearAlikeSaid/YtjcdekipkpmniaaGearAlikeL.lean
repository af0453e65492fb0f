/- The law GearAlike: where two texts begin alike they are cut alike, as far as chunks end within what is alike. -/
import Derived.Test.YtjcdekipkpmniaaGearS
namespace Go.Proofs.Ytjcdekipkpmniaa
open Go.RowKit K
namespace Gear

/-- the cuts p and q are alike as far as chunks of a text of lx bytes end within the first ns -/
def alike (ns lx : Int) : List Int → List Int → Prop
  | [], _ => True
  | e :: p, q => e > ns ∨ e = lx ∨ ∃ q', q = e :: q' ∧ alike ns lx p q'

theorem cuts_head (l : List UInt8) (h : l ≠ []) : ∀ (i s n e : Int) (p : List Int), cuts l i s n = e :: p → i < e := by
  induction l with
  | nil => exact absurd rfl h
  | cons c l ih =>
    intro i s n e p he
    simp only [cuts] at he
    split at he
    · simp at he; omega
    · by_cases hl : l = []
      · subst hl
        simp only [cuts] at he
        split at he
        · simp at he; omega
        · cases he
      · have := ih hl _ _ _ _ _ he; omega

theorem cuts_alike (x y : List UInt8) : ∀ (l : List UInt8) (i s n : Int), alike (i + l.length) (i + l.length + x.length) (cuts (l ++ x) i s n) (cuts (l ++ y) i s n)
  | [], i, s, n => by
    simp only [List.nil_append, List.length_nil]
    by_cases hx : x = []
    · subst hx
      simp only [cuts]
      split
      · exact .inr (.inl (by simp))
      · trivial
    · cases hc : cuts x i s n with
      | nil => trivial
      | cons e p => exact .inl (by have := cuts_head x hx _ _ _ _ _ hc; omega)
  | c :: l, i, s, n => by
    simp only [List.cons_append, cuts, List.length_cons]
    have ih := cuts_alike x y l (i + 1) (stp s n c.toNat).2.1 (stp s n c.toNat).2.2
    have e : i + 1 + (l.length : Int) = i + ((l.length + 1 : Nat) : Int) := by omega
    rw [e] at ih
    split
    · exact .inr (.inr ⟨_, rfl, ih⟩)
    · exact ih

set_option maxRecDepth 100000 in
set_option maxHeartbeats 1000000 in
theorem gearAlike_calls (a x y : ByteArray) (w : World) (ha : a.size ≤ 140737488351232) (hx : x.size ≤ 140737488351232) (hy : y.size ≤ 140737488351232) :
    Calls Try.prog 6 #[.string a, .string x, .string y] w fun e w' => e = .returned (.bool true) ∧ Below w.heap.size w w' := by
  have hs := cutS_size a
  have hsx := cutS_size x
  have hsy := cutS_size y
  have hal := cuts_alike (cutS x).data.toList (cutS y).data.toList (cutS a).data.toList 0 0 0
  have hL := cuts_len (cutS a ++ cutS x).data.toList 0 0 0 (Int.le_refl _)
  have hL2 := cuts_len (cutS a ++ cutS y).data.toList 0 0 0 (Int.le_refl _)
  have hbd := fun z hz => cuts_bound (cutS a ++ cutS x).data.toList 0 0 0 z hz
  have e0 : (cutS a).data.toList.length = (cutS a).size := by simp
  have e1 : (cutS x).data.toList.length = (cutS x).size := by simp
  have e2 : (cutS a ++ cutS x).data.toList = (cutS a).data.toList ++ (cutS x).data.toList := by simp
  have e3 : (cutS a ++ cutS y).data.toList = (cutS a).data.toList ++ (cutS y).data.toList := by simp
  have e4 : (cutS a ++ cutS x).data.toList.length = (cutS a).size + (cutS x).size := by rw [e2]; simp
  have e5 : (cutS a ++ cutS y).data.toList.length = (cutS a).size + (cutS y).size := by rw [e3]; simp
  have e6 : (cutS a ++ cutS x).size = (cutS a).size + (cutS x).size := by simp
  have e7 : (cutS a ++ cutS y).size = (cutS a).size + (cutS y).size := by simp
  rw [← e2, ← e3, e0, e1] at hal
  rw [e4] at hL hbd
  rw [e5] at hL2
  have hc1 := fun w => cuts_calls (cutS a ++ cutS x) w (by omega)
  have hc2 := fun w => cuts_calls (cutS a ++ cutS y) w (by omega)
  generalize cuts (cutS a ++ cutS x).data.toList 0 0 0 = L at hal hL hbd hc1
  generalize cuts (cutS a ++ cutS y).data.toList 0 0 0 = M at hal hL2 hc2
  clear e0 e1 e2 e3 e4 e5 e7
  have E6 := Lib.hid e6
  have HC1 := Lib.hid hc1
  have HC2 := Lib.hid hc2
  have HAL := Lib.hid hal
  have HBD := Lib.hid hbd
  clear hc1 hc2 hal hbd e6
  go_enter Try.func6, Try.ntmps6
  go_wp2_with fail
  refine (shown_calls _).mono ?_
  rintro e w1 ⟨rfl, hm⟩
  have HM := Lib.hid hm
  clear hm
  go_wp2_with fail
  refine (cut_calls _ _ ha).mono ?_
  rintro e w' ⟨rfl, hw⟩; subst hw
  go_wp2_with fail
  refine (cut_calls _ _ hx).mono ?_
  rintro e w' ⟨rfl, hw⟩; subst hw
  go_wp2_with fail
  refine (cut_calls _ _ hy).mono ?_
  rintro e w' ⟨rfl, hw⟩; subst hw
  go_wp2_with fail
  refine (HC1.out _).mono ?_
  rintro e w2 ⟨v, rfl, hown, hm1⟩
  obtain ⟨A, cap, rfl, hcap, hA⟩ := own_cells hown
  have HM1 := Lib.hid (Mod.trans HM.out hm1 (fun _ _ h => h))
  have HA := Lib.hid hA
  clear hm1 hown HM hA
  go_wp2_with fail
  refine (HC2.out _).mono ?_
  rintro e w3 ⟨v, rfl, hown, hm3⟩
  obtain ⟨B, cap2, rfl, hcap2, hB⟩ := own_cells hown
  have hA3 := HA.out.keep hm3 (fun _ _ h => h)
  have HA3 := Lib.hid hA3
  have HB3 := Lib.hid hB
  have HM3 := Lib.hid (Mod.trans HM1.out hm3 (fun _ _ h => h))
  clear hA3 hB hown hm3 HA HM1
  generalize cutS a = s at *
  generalize cutS x = t at *
  go_wp2_with fail
  go_loopw [12] (fun i w' => ∃ (k n : Nat), k ≤ L.length ∧ i = .int .i64 k ∧ w' = w3.drewN n ∧ Hid (alike (0 + s.size) (0 + s.size + t.size) (L.drop k) (M.drop k))) (fun i _ => L.length - (intOf i).toNat)
  case atStart => exact ⟨0, 0, Nat.zero_le _, by go_num, rfl, HAL⟩
  case round =>
    obtain ⟨k, n, hk, rfl, rfl, HK⟩ := hrel
    by_cases hlt : k < L.length
    · rcases HA3.out with h | ⟨b, o, rfl, hcell⟩
      · simp at h; subst h; simp at hlt
      obtain ⟨e, he⟩ : ∃ e, L[k] = e := ⟨_, rfl⟩
      have c1 := hcell k (.int .i64 e) (by rw [List.getElem?_map, List.getElem?_eq_getElem hlt, he]; rfl)
      have hbe := HBD.out e (he ▸ List.getElem_mem hlt)
      have hK := HK.out
      rw [List.drop_eq_getElem_cons hlt, he] at hK
      clear hcell HK HBD
      have i1 : (k : Int) < (L.length : Int) := by omega
      by_cases h1 : (s.size : Int) < e
      · clear hK he
        go_wp2_with fail
        go_ret
        exact ⟨rfl, (HM3.out.drewN _).below (fun _ _ h => h)⟩
      have h1' : e ≤ (s.size : Int) := by omega
      by_cases h2 : e = (s.size : Int) + (t.size : Int)
      · have h3 : (e == (((s ++ t).size : Nat) : Int)) = true := by rw [E6.out]; simp [h2]
        have h3' : (e == (s.size : Int) + (t.size : Int)) = true := by simp [h2]
        clear hK he h2 h1
        go_wp2_with fail
        go_ret
        exact ⟨rfl, (HM3.out.drewN _).below (fun _ _ h => h)⟩
      have h3 : (e == (((s ++ t).size : Nat) : Int)) = false := by rw [E6.out]; simp; omega
      have h3' : (e == (s.size : Int) + (t.size : Int)) = false := by simp; omega
      obtain ⟨q', hq, hK⟩ : ∃ q', M.drop k = e :: q' ∧ alike (0 + s.size) (0 + s.size + t.size) (L.drop (k + 1)) q' := by
        rcases hK with h | h | h
        · omega
        · omega
        · exact h
      have hkM : k < M.length := by
        rcases Nat.lt_or_ge k M.length with h | h
        · exact h
        · rw [List.drop_of_length_le h] at hq; cases hq
      rw [List.drop_eq_getElem_cons hkM] at hq
      obtain ⟨he2, hq2⟩ := List.cons.inj hq
      subst hq2
      rcases HB3.out with h | ⟨b2, o2, rfl, hcell2⟩
      · simp at h; subst h; simp at hkM
      have c2 := hcell2 k (.int .i64 e) (by rw [List.getElem?_map, List.getElem?_eq_getElem hkM, he2]; rfl)
      have HK := Lib.hid hK
      have i2 : (k : Int) < (M.length : Int) := by omega
      have i3 : decide ((M.length : Int) ≤ (k : Int)) = false := by simp; omega
      clear hcell2 hK hq he2 he h1 h2
      go_wp2_with fail
      go_quiet (fail)
      go_wp2_with fail
      go_roundw
      case rel => exact ⟨k + 1, _, by omega, by go_num, rfl, HK⟩
      case measure => simp [intOf]; omega
    · go_wp2_with fail
      go_ret
      exact ⟨rfl, (HM3.out.drewN _).below (fun _ _ h => h)⟩
end Gear
end Go.Proofs.Ytjcdekipkpmniaa
