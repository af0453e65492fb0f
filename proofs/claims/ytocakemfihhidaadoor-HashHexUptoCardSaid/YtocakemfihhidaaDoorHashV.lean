/- The walks of the reference's digit, Hex, Unhex. -/
import Derived.Test.YtocakemfihhidaaDoorHashU
import Derived.OwnWalk
import Derived.Test.YtocakemfihhidaaDoorKr
namespace Go.Proofs.YtocakemfihhidaaDoor
open Go.RowKit K
namespace Hash

theorem refDigit_calls (c : UInt8) (w : World) : Calls Tryd.prog 24 #[.int .u8 (c.toNat : Int)] w fun e w' => e = .returned (.int .i64 (if dg c < 16 then (dg c : Int) else -1)) ∧ w' = w := by
  have hl := c.toNat_lt
  by_cases h1 : 48 ≤ c.toNat ∧ c.toNat ≤ 57
  · have hd : dg c = c.toNat - 48 := by unfold dg; rw [if_pos h1]
    have hr : (if dg c < 16 then (dg c : Int) else -1) = (c.toNat : Int) - 48 := by rw [hd, if_pos (by omega)]; omega
    rw [hr]
    obtain ⟨g1, g2⟩ := h1
    generalize c.toNat = n at *
    clear hd hr
    go_enter Tryd.func24, Tryd.ntmps24
    go_wp2_with fail
    go_ret
    exact ⟨by first | rfl | (congr 2; simp only [IntKind.wrap_u8]; omega), rfl⟩
  · by_cases h2 : 97 ≤ c.toNat ∧ c.toNat ≤ 102
    · have hd : dg c = c.toNat - 87 := by unfold dg; rw [if_neg h1, if_pos h2]
      have hr : (if dg c < 16 then (dg c : Int) else -1) = (c.toNat : Int) - 97 + 10 := by rw [hd, if_pos (by omega)]; omega
      rw [hr]
      obtain ⟨g1, g2⟩ := h2
      have g3 : (57 : Int) < (c.toNat : Int) := by omega
      generalize c.toNat = n at *
      clear hd hr h1
      go_enter Tryd.func24, Tryd.ntmps24
      go_wp2_with fail
      all_goals go_ret
      all_goals exact ⟨by first | rfl | (congr 2; simp only [IntKind.wrap_u8]; omega), rfl⟩
    · have hd : dg c = 16 := by unfold dg; rw [if_neg h1, if_neg h2]
      rw [hd, if_neg (by omega)]
      generalize c.toNat = n at *
      clear hd
      by_cases g1 : 48 ≤ n
      · have g2 : (57 : Int) < (n : Int) := by omega
        by_cases g3 : 97 ≤ n
        · have g4 : (102 : Int) < (n : Int) := by omega
          clear h1 h2
          go_enter Tryd.func24, Tryd.ntmps24
          go_wp2_with fail
          all_goals go_ret
          all_goals exact ⟨rfl, rfl⟩
        · have g4 : (n : Int) < 97 := by omega
          clear h1 h2
          go_enter Tryd.func24, Tryd.ntmps24
          go_wp2_with fail
          all_goals go_ret
          all_goals exact ⟨rfl, rfl⟩
      · have g2 : (n : Int) < 48 := by omega
        have g3 : (n : Int) < 97 := by omega
        clear h1 h2
        go_enter Tryd.func24, Tryd.ntmps24
        go_wp2_with fail
        all_goals go_ret
        all_goals exact ⟨rfl, rfl⟩

/-- make([]byte, 0, n) -/
theorem make0 (n : Nat) (hn : n ≤ 4194304) (w : World) : ∃ w', (Instr.makeSlice 25 (.int .i64 0) (.int .i64 (n : Int))).run Tryd.prog w = .ok (.slice (some ⟨w.heap.size, 0, none⟩) 0 n) w' ∧
    w'.ownsRow w.heap.size 5 1 (.slice (some ⟨w.heap.size, 0, none⟩) 0 n) 0 [] ∧ Mod (fun _ => False) w w' := by
  obtain ⟨i, hi, hz0, hz1, hz2⟩ := info_parts (P := Tryd.prog) (e := 5) (z := .int .u8 0) (size := 1) (bytes := 1) (by kernel_rfl)
  obtain ⟨w', h1, h2, h3⟩ := run_make_own (P := Tryd.prog) w w.heap.size 25 5 i (.int .u8 0) 1 Tryd.underlying25 hi hz0 hz1 .i64 .i64 n (by rw [hz2]; omega) (by unfold maxLen; omega) (Nat.le_refl _)
  exact ⟨w', h1, h2, Mod.grown (Mod.refl _ _) h3 fun k hk => by cases hk⟩

set_option maxRecDepth 100000 in
set_option maxHeartbeats 4000000 in
theorem refUnhex_calls (a : ByteArray) (w : World) (ha : a.size ≤ 2097152) :
    Calls Tryd.prog 12 #[.string a] w fun e w' => e = .returned (.tuple #[.string ⟨(unhexA a.data.toList).1.toArray⟩, .bool (unhexA a.data.toList).2]) ∧ Mod (fun _ => False) w w' := by
  have hlen : a.data.toList.length = a.size := by simp
  by_cases hodd : a.size % 2 = 1
  · have hnone : unhexA a.data.toList = ([], false) := by unfold unhexA; rw [unhex_odd (a.size / 2) _ (by omega)]
    rw [hnone]
    have i1 : (a.size : Int) % 2 = 1 := by omega
    go_enter Tryd.func12, Tryd.ntmps12
    go_wp2_with fail
    go_ret2
    exact ⟨rfl, Mod.refl _ _⟩
  · obtain ⟨n, hn⟩ : ∃ n, a.size = 2 * n := ⟨a.size / 2, by omega⟩
    obtain ⟨wm, hmk, hown0, hm0⟩ := make0 n (by omega) w
    have i1 : (a.size : Int) % 2 = 0 := by omega
    have i2 : (a.size : Int) / 2 = (n : Int) := by omega
    have HN := Lib.hid hn
    have hnb : n ≤ 1048576 := by omega
    have HM0 := Lib.hid hm0
    clear hn hodd hm0
    go_enter Tryd.func12, Tryd.ntmps12
    go_wp2_with fail
    clear i1 i2
    go_loopw [4, 5] (fun out i w' => ∃ (t : Nat) (acc : List UInt8), i = .int .i64 ((2 * t : Nat) : Int) ∧ t ≤ n ∧ acc.length = t ∧ Hid (unhexL a.data.toList = (unhexL (a.data.toList.drop (2 * t))).map (acc ++ ·)) ∧ w'.ownsRow w.heap.size 5 1 out t (bv acc) ∧ Hid (Mod (fun _ => False) w w')) (fun _ i _ => 2 * n - (intOf i).toNat)
    case atStart => exact ⟨0, [], by go_num, by omega, rfl, Lib.hid (by rw [Nat.mul_zero, List.drop_zero]; cases unhexL a.data.toList <;> rfl), hown0, HM0⟩
    case round =>
      obtain ⟨t, acc, rfl, ht, hal, HU, hown, HM⟩ := hrel
      have hnn := HN.out
      by_cases hlt : t < n
      · obtain ⟨k0, hk0⟩ : ∃ k : Nat, k = 2 * t := ⟨_, rfl⟩
        obtain ⟨k1, hk1⟩ : ∃ k : Nat, k = 2 * t + 1 := ⟨_, rfl⟩
        have l0 : k0 < a.size := by omega
        have l1 : k1 < a.size := by omega
        have j2 : (k0 : Int) < (a.size : Int) := by omega
        have j3 : (k1 : Int) < (a.size : Int) := by omega
        have j4 : (k0 : Int) + 1 = (k1 : Int) := by omega
        have hdr : a.data.toList.drop (2 * t) = a[k0] :: a[k1] :: a.data.toList.drop (2 * (t + 1)) := by
          rw [List.drop_eq_getElem_cons (by omega), List.drop_eq_getElem_cons (by omega)]
          subst hk0; subst hk1; rfl
        have hU := HU.out
        rw [hdr, unhexL] at hU
        obtain ⟨x, hx⟩ : ∃ x, a[k0] = x := ⟨_, rfl⟩
        obtain ⟨y, hy⟩ : ∃ y, a[k1] = y := ⟨_, rfl⟩
        have e1 : ∀ h : k0 < a.size, a[k0]'h = x := fun _ => hx
        have e2 : ∀ h : k1 < a.size, a[k1]'h = y := fun _ => hy
        have hxl : dg x ≤ 16 := dg_le x
        have hyl : dg y ≤ 16 := dg_le y
        rw [hx, hy] at hU
        have HD1 := Lib.hid (refDigit_calls x)
        have HD2 := Lib.hid (refDigit_calls y)
        have HK0 := Lib.hid hk0
        rw [← hk0]
        clear hdr hk0 hk1 hx hy HU hnn
        go_wp2_with fail
        refine (HD1.out _).mono ?_
        rintro e w1 ⟨rfl, hw⟩; subst hw
        by_cases hd1 : dg x < 16
        · simp only [if_pos hd1]
          generalize hdx : dg x = d1 at *
          go_wp2_with fail
          refine (HD2.out _).mono ?_
          rintro e w1 ⟨rfl, hw⟩; subst hw
          by_cases hd2 : dg y < 16
          · simp only [if_pos hd2]
            rw [if_pos ⟨hd1, hd2⟩] at hU
            generalize dg y = d2 at *
            have hz : (16 * (d1 : Int) + (d2 : Int)) = ((UInt8.ofNat (d1 * 16 + d2)).toNat : Int) := by
              rw [UInt8.toNat_ofNat']; omega
            generalize UInt8.ofNat (d1 * 16 + d2) = z at *
            have HU2 : Hid (unhexL a.data.toList = (unhexL (a.data.toList.drop (2 * (t + 1)))).map ((acc ++ [z]) ++ ·)) := Lib.hid (by
              rw [hU]; cases unhexL (a.data.toList.drop (2 * (t + 1))) <;> simp)
            have hsz := HM.out.size
            have hzl := z.toNat_lt
            clear hU hdx
            go_wp2_with (first
              | fail
              | (at_builtin
                 go_must (refine app _ _ bytes_t w.heap.size _ t (bv acc) (hown.alloc _) _ 1 1 [.int .u8 z.toNat] rfl rfl rfl rfl rfl (one_new _ _ _) (by simp [Value.oneCell']) (by omega) (by unfold maxLen; omega) (by simp; omega) ?_; intro v3 w3 hown3 hm3)))
            go_roundw
            case rel => exact ⟨t + 1, acc ++ [z], by rw [show (k0 : Int) + 2 = ((2 * (t + 1) : Nat) : Int) by have := HK0.out; omega], by omega, by simp [hal], HU2, by rw [bv_append]; exact hown3, Lib.hid (Mod.trans (Mod.alloc HM.out _) hm3 (fun i hi ⟨h, _⟩ => absurd h (by omega)))⟩
            case measure => simp [intOf]; have := HN.out; have := HK0.out; omega
          · simp only [if_neg hd2]
            have hnone : unhexA a.data.toList = ([], false) := by unfold unhexA; rw [hU, if_neg (fun h => hd2 h.2)]; rfl
            have HNO := Lib.hid hnone
            clear hnone hU hdx hd2
            go_wp2_with fail
            go_ret2
            rw [HNO.out]
            exact ⟨rfl, HM.out⟩
        · simp only [if_neg hd1]
          have hnone : unhexA a.data.toList = ([], false) := by unfold unhexA; rw [hU, if_neg (fun h => hd1 h.1)]; rfl
          have HNO := Lib.hid hnone
          clear hnone hU hd1
          go_wp2_with fail
          refine (HD2.out _).mono ?_
          rintro e w1 ⟨rfl, hw⟩; subst hw
          go_wp2_with fail
          all_goals
            go_ret2
            rw [HNO.out]
            exact ⟨rfl, HM.out⟩
      · have htn : t = n := by omega
        have j1 : ¬ ((2 * t : Nat) : Int) < (a.size : Int) := by omega
        have hU := HU.out
        rw [htn, List.drop_of_length_le (by omega)] at hU
        have hyes : unhexA a.data.toList = (acc, true) := by unfold unhexA; rw [hU]; simp [unhexL]
        have HYES := Lib.hid hyes
        obtain ⟨A9, c9, rfl, hc9, hA9, -, -⟩ := own_cells hown
        have hcv := run_bytes (P := Tryd.prog) c9 hA9 25 9 5 Tryd.underlying25 Tryd.underlying5 Tryd.underlying9
        rw [hal] at hcv
        obtain ⟨kk, hkk⟩ : ∃ k : Nat, 2 * t = k := ⟨_, rfl⟩
        rw [hkk] at j1 ⊢
        clear hU hnn hyes hA9 hal htn hown hkk
        go_wp2_with fail
        go_ret2
        rw [HYES.out]
        exact ⟨rfl, HM.out⟩

theorem digit_get (i : Nat) (h : i < 16) : ∀ h : i < (⟨#[48, 49, 50, 51, 52, 53, 54, 55, 56, 57, 97, 98, 99, 100, 101, 102]⟩ : ByteArray).size, (⟨#[48, 49, 50, 51, 52, 53, 54, 55, 56, 57, 97, 98, 99, 100, 101, 102]⟩ : ByteArray)[i]'h = digitsL.getD i 0 := by
  match i, h with
  | 0, _ | 1, _ | 2, _ | 3, _ | 4, _ | 5, _ | 6, _ | 7, _ | 8, _ | 9, _ | 10, _ | 11, _ | 12, _ | 13, _ | 14, _ | 15, _ => intro _; rfl
  | n + 16, h => omega

set_option maxRecDepth 100000 in
set_option maxHeartbeats 4000000 in
theorem refHex_calls (s : ByteArray) (w : World) (hs : s.size ≤ 1048576) :
    Calls Tryd.prog 14 #[.string s] w fun e w' => e = .returned (.string ⟨(hex s.data.toList).toArray⟩) ∧ Mod (fun _ => False) w w' := by
  have hlen : s.data.toList.length = s.size := by simp
  obtain ⟨wm, hmk, hown0, hm0⟩ := make0 (2 * s.size) (by omega) w
  have hmk2 : (Instr.makeSlice 25 (.int .i64 0) (.int .i64 (2 * (s.size : Int)))).run Tryd.prog w = .ok (.slice (some ⟨w.heap.size, 0, none⟩) 0 (2 * s.size)) wm := by
    rw [show 2 * (s.size : Int) = ((2 * s.size : Nat) : Int) by omega]; exact hmk
  have HM0 := Lib.hid hm0
  clear hmk hm0
  go_enter Tryd.func14, Tryd.ntmps14
  go_wp2_with fail
  go_loopw [4, 5] (fun out i w' => ∃ (t : Nat) (acc : List UInt8), i = .int .i64 t ∧ t ≤ s.size ∧ acc.length = 2 * t ∧ Hid (acc = hex (s.data.toList.take t)) ∧ w'.ownsRow w.heap.size 5 1 out (2 * t) (bv acc) ∧ Hid (Mod (fun _ => False) w w')) (fun _ i _ => s.size - (intOf i).toNat)
  case atStart => exact ⟨0, [], by go_num, by omega, rfl, Lib.hid rfl, hown0, HM0⟩
  case round =>
    obtain ⟨t, acc, rfl, ht, hal, HA, hown, HM⟩ := hrel
    by_cases hlt : t < s.size
    · have i1 : (t : Int) < (s.size : Int) := by omega
      obtain ⟨x, hx⟩ : ∃ x, s[t] = x := ⟨_, rfl⟩
      have e0 : ∀ h : t < s.size, s[t]'h = x := fun _ => hx
      have hacc : acc ++ hexB x = hex (s.data.toList.take (t + 1)) := by
        rw [HA.out, hex, hex, List.take_succ_eq_append_getElem (by omega), List.flatMap_append, show s.data.toList[t] = x from hx]; simp
      have hxl := x.toNat_lt
      have e1 : (x.toNat : Int) / 16 = ((x.toNat / 16 : Nat) : Int) := by omega
      have e2 : (x.toNat : Int) % 16 = ((x.toNat % 16 : Nat) : Int) := by omega
      have e3 : ((x.toNat : Int)).tmod 16 = ((x.toNat % 16 : Nat) : Int) := by rw [Int.tmod_eq_emod_of_nonneg (Int.natCast_nonneg _)]; rfl
      have d1 := digit_get (x.toNat / 16) (by omega)
      have d2 := digit_get (x.toNat % 16) (by omega)
      have hxb : hexB x = [digitsL.getD (x.toNat / 16) 0, digitsL.getD (x.toNat % 16) 0] := rfl
      rw [hxb] at hacc
      have g1l : x.toNat / 16 < 16 := by omega
      have g2l : x.toNat % 16 < 16 := by omega
      generalize x.toNat / 16 = q1 at *
      generalize x.toNat % 16 = q2 at *
      have f1 : IntKind.u8.wrap (q1 : Int) = (q1 : Int) := by simp only [IntKind.wrap_u8]; omega
      have f2 : IntKind.u8.wrap (q2 : Int) = (q2 : Int) := by simp only [IntKind.wrap_u8]; omega
      have f3 : (q1 : Int) < 16 := by omega
      have f4 : (q2 : Int) < 16 := by omega
      generalize digitsL.getD q1 0 = g1 at *
      generalize digitsL.getD q2 0 = g2 at *
      have HAC := Lib.hid hacc
      have hsz := HM.out.size
      have hown0 : (wr.drew).ownsRow w.heap.size 5 1 _ (2 * t) (bv acc) := hown
      clear hacc hxb hx
      go_wp2_with fail
      refine region_mS (fun k => w.heap.size ≤ k) (by kernel_rfl) ?_
      simp only [List.length_cons, List.length_nil, List.replicate]
      refine take0S (v := ?v1) (oi := ?o1) 0 ?hi1 (by kernel_rfl) (by kernel_rfl) (by kernel_rfl) ?hq1 ?hy1 ?_
      case hi1 => (simp only [List.getElem?_toArray, List.getElem?_cons_zero, List.getElem?_cons_succ]; rfl)
      case hq1 => exact fun _ _ _ h => h
      case hy1 => first | (refine ry_notS ?_; rfl) | (refine ry_runS (by rfl) (fun w' hw' => ?_); go_simp; try rfl)
      simp only [Act.put, List.setIfInBounds_toArray, List.set_cons_zero, List.set_cons_succ]
      refine take0S (v := ?v2) (oi := ?o2) 1 ?hi2 (by kernel_rfl) (by kernel_rfl) (by kernel_rfl) ?hq2 ?hy2 ?_
      case hi2 => (simp only [List.getElem?_toArray, List.getElem?_cons_zero, List.getElem?_cons_succ]; rfl)
      case hq2 => exact fun _ _ _ h => h
      case hy2 => first | (refine ry_notS ?_; rfl) | (refine ry_runS (by rfl) (fun w' hw' => ?_); go_simp; try rfl)
      simp only [Act.put, List.setIfInBounds_toArray, List.set_cons_zero, List.set_cons_succ]
      refine take0S (v := ?v3) (oi := ?o3) 2 ?hi3 (by kernel_rfl) (by kernel_rfl) (by kernel_rfl) ?hq3 ?hy3 ?_
      case hi3 => (simp only [List.getElem?_toArray, List.getElem?_cons_zero, List.getElem?_cons_succ]; rfl)
      case hq3 => exact fun _ _ _ h => h
      case hy3 => first | (refine ry_notS ?_; rfl) | (refine ry_runS (by rfl) (fun w' hw' => ?_); go_simp; try rfl)
      simp only [Act.put, List.setIfInBounds_toArray, List.set_cons_zero, List.set_cons_succ]
      refine take0S (v := ?v4) (oi := ?o4) 3 ?hi4 (by kernel_rfl) (by kernel_rfl) (by kernel_rfl) ?hq4 ?hy4 ?_
      case hi4 => (simp only [List.getElem?_toArray, List.getElem?_cons_zero, List.getElem?_cons_succ]; rfl)
      case hq4 => exact fun _ _ _ h => h
      case hy4 => first | (refine ry_notS ?_; rfl) | (refine ry_runS (by rfl) (fun w' hw' => ?_); go_simp; try rfl)
      simp only [Act.put, List.setIfInBounds_toArray, List.set_cons_zero, List.set_cons_succ]
      refine take0S (v := ?v5) (oi := ?o5) 4 ?hi5 (by kernel_rfl) (by kernel_rfl) (by kernel_rfl) ?hq5 ?hy5 ?_
      case hi5 => (simp only [List.getElem?_toArray, List.getElem?_cons_zero, List.getElem?_cons_succ]; rfl)
      case hq5 => exact fun _ _ _ h => h
      case hy5 => first | (refine ry_notS ?_; rfl) | (refine ry_runS (by rfl) (fun w' hw' => ?_); go_simp; try rfl)
      simp only [Act.put, List.setIfInBounds_toArray, List.set_cons_zero, List.set_cons_succ]
      refine take0S (v := ?v6) (oi := ?o6) 5 ?hi6 (by kernel_rfl) (by kernel_rfl) (by kernel_rfl) ?hq6 ?hy6 ?_
      case hi6 => (simp only [List.getElem?_toArray, List.getElem?_cons_zero, List.getElem?_cons_succ]; rfl)
      case hq6 => exact fun _ _ _ h => h
      case hy6 => first | (refine ry_notS ?_; rfl) | (refine ry_runS (by rfl) (fun w' hw' => ?_); go_simp; try rfl)
      simp only [Act.put, List.setIfInBounds_toArray, List.set_cons_zero, List.set_cons_succ]
      refine take0S (v := ?v7) (oi := ?o7) 6 ?hi7 (by kernel_rfl) (by kernel_rfl) (by kernel_rfl) ?hq7 ?hy7 ?_
      case hi7 => (simp only [List.getElem?_toArray, List.getElem?_cons_zero, List.getElem?_cons_succ]; rfl)
      case hq7 => exact fun _ _ _ h => h
      case hy7 => first | (refine ry_notS ?_; rfl) | (refine ry_runS (by rfl) (fun w' hw' => ?_); go_simp; try rfl)
      simp only [Act.put, List.setIfInBounds_toArray, List.set_cons_zero, List.set_cons_succ]
      refine take0S (v := ?v8) (oi := ?o8) 7 ?hi8 (by kernel_rfl) (by kernel_rfl) (by kernel_rfl) ?hq8 ?hy8 ?_
      case hi8 => (simp only [List.getElem?_toArray, List.getElem?_cons_zero, List.getElem?_cons_succ]; rfl)
      case hq8 => exact fun _ _ _ h => h
      case hy8 => first | (refine ry_notS ?_; rfl) | (refine ry_runS (by rfl) (fun w' hw' => ?_); go_simp; try rfl)
      simp only [Act.put, List.setIfInBounds_toArray, List.set_cons_zero, List.set_cons_succ]
      refine take0S (v := ?v9) (oi := ?o9) 8 ?hi9 (by kernel_rfl) (by kernel_rfl) (by kernel_rfl) ?hq9 ?hy9 ?_
      case hi9 => (simp only [List.getElem?_toArray, List.getElem?_cons_zero, List.getElem?_cons_succ]; rfl)
      case hq9 => exact fun _ _ _ h => h
      case hy9 => first | (refine ry_notS ?_; rfl) | (refine ry_runS (by rfl) (fun w' hw' => ?_); go_simp; try rfl)
      simp only [Act.put, List.setIfInBounds_toArray, List.set_cons_zero, List.set_cons_succ]
      refine take0S (v := ?v10) (oi := ?o10) 9 ?hi10 (by kernel_rfl) (by kernel_rfl) (by kernel_rfl) ?hq10 ?hy10 ?_
      case hi10 => (simp only [List.getElem?_toArray, List.getElem?_cons_zero, List.getElem?_cons_succ]; rfl)
      case hq10 => exact fun _ _ _ h => h
      case hy10 => first | (refine ry_notS ?_; rfl) | (refine ry_runS (by rfl) (fun w' hw' => ?_); go_simp; try rfl)
      simp only [Act.put, List.setIfInBounds_toArray, List.set_cons_zero, List.set_cons_succ]
      refine take0S (v := ?v11) (oi := ?o11) 10 ?hi11 (by kernel_rfl) (by kernel_rfl) (by kernel_rfl) ?hq11 ?hy11 ?_
      case hi11 => (simp only [List.getElem?_toArray, List.getElem?_cons_zero, List.getElem?_cons_succ]; rfl)
      case hq11 => exact fun _ _ _ h => h
      case hy11 => first | (refine ry_notS ?_; rfl) | (refine ry_runS (by rfl) (fun w' hw' => ?_); go_simp; try rfl)
      simp only [Act.put, List.setIfInBounds_toArray, List.set_cons_zero, List.set_cons_succ]
      refine take0S (v := ?v12) (oi := ?o12) 11 ?hi12 (by kernel_rfl) (by kernel_rfl) (by kernel_rfl) ?hq12 ?hy12 ?_
      case hi12 => (simp only [List.getElem?_toArray, List.getElem?_cons_zero, List.getElem?_cons_succ]; rfl)
      case hq12 => exact fun _ _ _ h => h
      case hy12 => first | (refine ry_notS ?_; rfl) | (refine ry_runS (by rfl) (fun w' hw' => ?_); go_simp; try rfl)
      simp only [Act.put, List.setIfInBounds_toArray, List.set_cons_zero, List.set_cons_succ]
      refine take0S (v := ?v13) (oi := ?o13) 12 ?hi13 (by kernel_rfl) (by kernel_rfl) (by kernel_rfl) ?hq13 ?hy13 ?_
      case hi13 => (simp only [List.getElem?_toArray, List.getElem?_cons_zero, List.getElem?_cons_succ]; rfl)
      case hq13 => exact fun _ _ _ h => h
      case hy13 => first | (refine ry_notS ?_; rfl) | (refine ry_runS (by rfl) (fun w' hw' => ?_); go_simp; try rfl)
      simp only [Act.put, List.setIfInBounds_toArray, List.set_cons_zero, List.set_cons_succ]
      refine step0S (o := ?o14) 13 (by kernel_rfl) ?hi14 ?hw14 ?_
      case hi14 => (simp only [List.getElem?_toArray, List.getElem?_cons_zero, List.getElem?_cons_succ]; rfl)
      case hw14 => rfl
      go_simp
      refine ⟨.inl (Mod.alloc (Mod.refl _ wr.drew) _), ?_⟩
      refine step0S (o := ?o15) 14 (by kernel_rfl) ?hi15 ?hw15 ?_
      case hi15 => (simp only [List.getElem?_toArray, List.getElem?_cons_zero, List.getElem?_cons_succ]; rfl)
      case hw15 => rfl
      refine app_step _ _ bytes_t w.heap.size _ (2 * t) (bv acc) (hown0.alloc (.cells #[.int .u8 g1.toNat, .int .u8 g2.toNat] 5)) ⟨wr.heap.size, 0, none⟩ 2 2 (bv [g1, g2]) rfl rfl rfl rfl (fun j u hj => by rw [Addr.add_lit, Nat.zero_add]; exact (Has.new wr.drew (bv [g1, g2]) 5).cell hj) (bv_one _) (by omega) (by unfold maxLen; omega) (by simp; omega) ?_
      intro v4 w4 hown4 hm4
      refine ⟨.inl (Mod.mono hm4 (fun _ _ h => h.1)), ?_⟩
      simp only [Act.put, List.setIfInBounds_toArray, List.set_cons_zero, List.set_cons_succ]
      refine take0S (v := ?v16) (oi := ?o16) 15 ?hi16 (by kernel_rfl) (by kernel_rfl) (by kernel_rfl) ?hq16 ?hy16 ?_
      case hi16 => (simp only [List.getElem?_toArray, List.getElem?_cons_zero, List.getElem?_cons_succ]; rfl)
      case hq16 => exact fun _ _ _ h => h
      case hy16 => first | (refine ry_notS ?_; rfl) | (refine ry_runS (by rfl) (fun w' hw' => ?_); go_simp; try rfl)
      simp only [Act.put, List.setIfInBounds_toArray, List.set_cons_zero, List.set_cons_succ]
      refine wpAnyM_done (by kernel_rfl) ?_
      go_simp
      have HO4 := Lib.hid hown4
      have HM4 : Hid (Mod (fun _ => False) w w4) := Lib.hid (Mod.trans (Mod.alloc HM.out.drew _) hm4 (fun i hi ⟨h, _⟩ => absurd h (by omega)))
      clear hown4 hm4 hown hown0
      go_wp2_with fail
      go_roundw
      case rel => exact ⟨t + 1, acc ++ [g1, g2], by go_num, by omega, by rw [List.length_append, hal]; simp; omega, Lib.hid HAC.out, by rw [bv_append, show 2 * (t + 1) = 2 * t + 2 by omega]; exact HO4.out, HM4⟩
      case measure => simp [intOf]; omega
    · have i1 : ¬ (t : Int) < (s.size : Int) := by omega
      have hacc : acc = hex s.data.toList := by rw [HA.out, List.take_of_length_le (by omega)]
      have HAC := Lib.hid hacc
      obtain ⟨A9, c9, rfl, hc9, hA9, -, -⟩ := own_cells hown
      have hcv9 := run_bytes (P := Tryd.prog) c9 hA9 25 9 5 Tryd.underlying25 Tryd.underlying5 Tryd.underlying9
      obtain ⟨kk, hkk⟩ : ∃ k : Nat, 2 * t = k := ⟨_, rfl⟩
      rw [hal, hkk] at hcv9
      rw [hkk]
      clear hown hA9 hacc hal hkk
      go_wp2_with fail
      go_ret
      rw [← HAC.out]
      exact ⟨rfl, HM.out⟩
end Hash
end Go.Proofs.YtocakemfihhidaaDoor
