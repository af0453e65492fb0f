/- The law GearBehind: behind any cut a text is cut as if it began there. -/
import Derived.Test.YtjcdekipkpmniaaGearS
namespace Go.Proofs.Ytjcdekipkpmniaa
open Go.RowKit K
namespace Gear

theorem cuts_shift (d : Int) : ∀ (l : List UInt8) (i s n : Int), cuts l (i + d) s n = (cuts l i s n).map (· + d)
  | [], i, s, n => by simp only [cuts]; split <;> simp
  | c :: l, i, s, n => by
    simp only [cuts]
    have e : i + d + 1 = i + 1 + d := by omega
    rw [e, cuts_shift d l (i + 1) (stp s n c.toNat).2.1 (stp s n c.toNat).2.2]
    split <;> simp

theorem cuts_behind : ∀ (k : Nat) (l : List UInt8) (i : Int) (h : k < (cuts l i 0 0).length),
    ∃ m : Nat, (cuts l i 0 0)[k] = i + m ∧ m ≤ l.length ∧ (cuts l i 0 0).drop (k + 1) = cuts (l.drop m) (i + m) 0 0
  | k, l, i, h => by
    have hne : l ≠ [] := by rintro rfl; simp [cuts] at h
    have hle := endsAll_le l hne
    obtain ⟨m, hm⟩ := Int.eq_ofNat_of_zero_le (show 0 ≤ (endsAll l).1 by omega)
    have hch := cuts_chunk l i hne
    rw [hm] at hch hle
    simp only [Int.toNat_natCast] at hch
    generalize hL : cuts l i 0 0 = L at h hch
    subst hch
    cases k with
    | zero => exact ⟨m, rfl, by omega, rfl⟩
    | succ k =>
      simp only [List.length_cons] at h
      obtain ⟨m', h1, h2, h3⟩ := cuts_behind k (l.drop m) (i + m) (by omega)
      refine ⟨m + m', ?_, ?_, ?_⟩
      · rw [List.getElem_cons_succ, h1]; omega
      · simp only [List.length_drop] at h2; omega
      · rw [List.drop_succ_cons, h3, List.drop_drop]
        have e : i + (m : Int) + (m' : Int) = i + ((m + m' : Nat) : Int) := by omega
        rw [e]

/-- behind the k-th cut m: the cuts of the rest -/
theorem cuts_rest (l : List UInt8) (k : Nat) (h : k < (cuts l 0 0 0).length) :
    ∃ m : Nat, (cuts l 0 0 0)[k] = m ∧ m ≤ l.length ∧ (cuts l 0 0 0).drop (k + 1) = (cuts (l.drop m) 0 0 0).map (· + (m : Int)) := by
  obtain ⟨m, h1, h2, h3⟩ := cuts_behind k l 0 h
  refine ⟨m, by omega, h2, ?_⟩
  rw [h3, cuts_shift]

set_option maxRecDepth 100000 in
set_option maxHeartbeats 1000000 in
theorem gearBehind_calls (a : ByteArray) (wh : Int) (w : World) (ha : a.size ≤ 140737488351232) :
    Calls Try.prog 5 #[.string a, .int .i64 wh] w fun e w' => e = .returned (.bool true) ∧ Below w.heap.size w w' := by
  have hs := cutS_size a
  have hL := cuts_len (cutS a).data.toList 0 0 0 (Int.le_refl _)
  have hl2 : (cutS a).data.toList.length = (cutS a).size := by simp
  rw [hl2] at hL
  have hb := cuts_rest (cutS a).data.toList
  have hcc := fun w => cuts_calls (cutS a) w (by omega)
  generalize hLL : cuts (cutS a).data.toList 0 0 0 = L at hL hcc hb
  clear hLL
  have HC := Lib.hid hcc
  have HB := Lib.hid hb
  clear hcc hb
  go_enter Try.func5, Try.ntmps5
  go_wp2_with fail
  refine (shown_calls _).mono ?_
  rintro e w1 ⟨rfl, hm⟩
  have HM := Lib.hid hm
  clear hm
  rw [hl2] at HB
  clear hl2
  go_wp2_with (first
    | (go_at_call 11; refine (cut_calls _ _ ha).mono ?_; rintro e w' ⟨rfl, hw⟩; subst hw)
    | fail)
  refine (HC.out _).mono ?_
  rintro e w2 ⟨v, rfl, hown, hm1⟩
  obtain ⟨A, cap, rfl, hcap, hA⟩ := own_cells hown
  have HM1 := Lib.hid (Mod.trans HM.out hm1 (fun _ _ h => h))
  have HA := Lib.hid hA
  clear hm1 hown HM hA
  generalize cutS a = s at *
  by_cases hin : 0 ≤ wh ∧ wh < (L.length : Int)
  · obtain ⟨hin0, hin1⟩ := hin
    obtain ⟨j, rfl⟩ := Int.eq_ofNat_of_zero_le hin0
    have hj : j < L.length := by omega
    obtain ⟨m, h1, h2, h3⟩ := HB.out j hj
    have hx : (s.extract m s.size).data.toList = s.data.toList.drop m := Lib.extract_to_end' s m
    have hr := fun w => cuts_calls (s.extract m s.size) w (by simp; omega)
    rw [hx] at hr
    have hlen : (cuts (s.data.toList.drop m) 0 0 0).length = L.length - (j + 1) := by
      have := congrArg List.length h3; simpa using this.symm
    have hbd : ∀ x ∈ cuts (s.data.toList.drop m) 0 0 0, 0 ≤ x ∧ x ≤ 1000000 := fun x hx => by
      have := cuts_bound _ _ _ _ x hx
      have h2 : s.data.toList.length = s.size := by simp
      simp only [List.length_drop] at this
      omega
    generalize cuts (s.data.toList.drop m) 0 0 0 = R at hr h3 hlen hbd
    have HBD := Lib.hid hbd
    clear hbd
    rcases HA.out with h | ⟨b, o, rfl, hcell⟩
    · simp at h; subst h; simp at hj
    have hcj := hcell j (.int .i64 m) (by simp [hj, h1])
    have HR := Lib.hid hr
    have H1 := Lib.hid h1
    have H3 := Lib.hid h3
    have HLEN := Lib.hid hlen
    have HX : R.length ≤ 1000001 := by omega
    have HY : (R.length : Int) = (L.length : Int) - j - 1 := by omega
    clear hx hr h3 hlen h1 HB HC hcell
    have hY1 : (((R.length : Int)) != (L.length : Int) - j - 1) = false := by simp [HY]
    have HYY := Lib.hid HY
    clear HY
    go_wp2_with fail
    refine (HR.out _).mono ?_
    rintro e w3 ⟨v, rfl, hown, hm3⟩
    obtain ⟨B, cap2, rfl, hcap2, hB⟩ := own_cells hown
    have hA3 := HA.out.keep hm3 (fun _ _ h => h)
    have HA3 := Lib.hid hA3
    have HB3 := Lib.hid hB
    have HM3 := Lib.hid (Mod.trans HM1.out hm3 (fun _ _ h => h))
    clear hA3 hB hown hm3 HA HM1 HR hcj
    go_wp2_with fail
    go_loopw [8] (fun i w' => ∃ (k n : Nat), k ≤ R.length ∧ i = .int .i64 k ∧ w' = w3.drewN n) (fun i _ => R.length - (intOf i).toNat)
    case atStart => exact ⟨0, 0, Nat.zero_le _, by go_num, rfl⟩
    case round =>
      obtain ⟨k, n, hk, rfl, rfl⟩ := hrel
      by_cases hlt : k < R.length
      · rcases HA3.out with h | ⟨b1, o1, hb1, hcell⟩
        · simp at h; subst h; simp at hj
        simp only [Option.some.injEq, Addr.mk.injEq, and_true] at hb1
        obtain ⟨rfl, rfl⟩ := hb1
        rcases HB3.out with h | ⟨b2, o2, rfl, hcell2⟩
        · simp at h; subst h; simp at hlt
        obtain ⟨x, hx⟩ : ∃ x, R[k] = x := ⟨_, rfl⟩
        have hbx := HBD.out x (hx ▸ List.getElem_mem hlt)
        have c1 := hcell j (.int .i64 m) (by rw [List.getElem?_map, List.getElem?_eq_getElem hj, H1.out]; rfl)
        have c2 := hcell2 k (.int .i64 x) (by rw [List.getElem?_map, List.getElem?_eq_getElem hlt, hx]; rfl)
        have hk3 : L[j + 1 + k]? = some (x + m) := by
          rw [← List.getElem?_drop, H3.out, List.getElem?_map, List.getElem?_eq_getElem hlt, hx]; rfl
        have c3 := hcell (j + 1 + k) (.int .i64 (x + m)) (by rw [List.getElem?_map, hk3]; rfl)
        have hlt3 : j + 1 + k < L.length := by
          rcases Nat.lt_or_ge (j + 1 + k) L.length with h | h
          · exact h
          · rw [List.getElem?_eq_none h] at hk3; cases hk3
        clear hcell hcell2 hk3 hx HYY HBD H3
        have i1 : (k : Int) < (R.length : Int) := by omega
        have i2 : (j : Int) < (L.length : Int) := by omega
        have i3 : (j : Int) + 1 + (k : Int) < (L.length : Int) := by omega
        have i4 : ((j : Int) + 1 + (k : Int)).toNat = j + 1 + k := by omega
        go_wp2_with fail
        go_quiet (fail)
        go_wp2_with fail
        go_roundw
        case rel => exact ⟨k + 1, _, by omega, by go_num, rfl⟩
        case measure => simp [intOf]; omega
      · go_wp2_with fail
        go_ret
        exact ⟨rfl, (HM3.out.drewN _).below (fun _ _ h => h)⟩
  · have hd : (decide (wh < 0) || decide ((L.length : Int) ≤ wh)) = true := by simp; omega
    by_cases h0 : wh < 0
    · go_wp2_with fail
      go_ret
      exact ⟨rfl, HM1.out.below (fun _ _ h => h)⟩
    · have h2 : (L.length : Int) ≤ wh := by omega
      clear hd hin
      go_wp2_with fail
      go_ret
      exact ⟨rfl, HM1.out.below (fun _ _ h => h)⟩
end Gear
end Go.Proofs.Ytjcdekipkpmniaa
