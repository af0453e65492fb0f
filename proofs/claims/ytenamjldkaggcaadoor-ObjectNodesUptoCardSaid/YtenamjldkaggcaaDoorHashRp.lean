/- The walk of the reference's padded. -/
import Derived.Test.YtenamjldkaggcaaDoorHashR
namespace Go.Proofs.YtenamjldkaggcaaDoor
set_option linter.unusedVariables false
set_option linter.unusedSimpArgs false
open Go.RowKit K
namespace Hash

theorem pad_zero (n k : Nat) (hk : k ≤ (119 - n % 64) % 64) : (n + 1 + k) % 64 ≠ 56 ↔ k ≠ (119 - n % 64) % 64 := by omega
theorem bv_snoc (l : List UInt8) (x : UInt8) (z : Int) (h : z = (x.toNat : Int)) : bv l ++ [.int .u8 z] = bv (l ++ [x]) := by rw [bv_append, h]; rfl

def slen : Value → Nat
  | .slice _ n _ => n
  | _ => 0

set_option maxRecDepth 100000 in
set_option maxHeartbeats 4000000 in
theorem padded_calls (b o c : Nat) (l : List UInt8) (w : World) (hA : Cells w (some ⟨b, o, none⟩) (bv l)) (hl : l.length ≤ 2097152) :
    Calls Tryd.prog 105 #[.slice (some ⟨b, o, none⟩) l.length c] w fun e w' => ∃ v, e = .returned v ∧ w'.ownsRow w.heap.size 5 1 v (pad l).length (bv (pad l)) ∧ Mod (fun _ => False) w w' := by
  have HA := Lib.hid hA
  clear hA
  obtain ⟨i, hi, hz0, hz1, hz2⟩ := info_parts (P := Tryd.prog) (e := 5) (z := .int .u8 0) (size := 1) (bytes := 1) (by kernel_rfl)
  have hsum : IntKind.i64.wrap ((l.length : Int) + 72) = ((l.length + 72 : Nat) : Int) := by rw [IntKind.wrap_i64]; omega
  go_enter Tryd.func105, Tryd.ntmps105
  go_wp2_with (first
    | fail
    | (refine wpList_make_own _ rfl _ _ _ rfl w.heap.size 5 i _ 1 Tryd.underlying75 hi hz0 hz1 .i64 .i64 _ (l.length + 72) rfl rfl (by first | exact hsum | (simp; done) | omega) (by rw [hz2]; omega) (by unfold maxLen; omega) (Nat.le_refl _) ?_
       intro w1 hown1 hgr1
       have hm1 : Mod (fun _ => False) w w1 := Mod.grown (Mod.refl _ _) hgr1 (fun k hk => by cases hk)
       have hA1 := HA.out.keep hm1 (fun _ _ h => h)
       have hsz1 := hm1.size)
    | (at_builtin
       refine app _ _ bytes_t w.heap.size _ 0 [] hown1 ⟨b, o, none⟩ l.length c (bv l) rfl rfl rfl rfl (by rw [bv_length]; omega) (fun j u hj => by
         rcases hA1 with h | ⟨b', o', h, hc⟩
         · rw [h] at hj; simp at hj
         · obtain ⟨rfl, rfl⟩ : b = b' ∧ o = o' := by simpa using h
           rw [Addr.add_lit]; exact hc j u hj) (bv_one l) (by omega) (by unfold maxLen; omega) hsz1 ?_
       intro v2 w2 hown2 hm2
       rw [Nat.zero_add, List.nil_append] at hown2
       have HM2 : Hid (Mod (fun _ => False) w w2) := Lib.hid (Mod.trans hm1 hm2 (fun i hi ⟨h, _⟩ => absurd h (by omega)))
       have hsz2 := HM2.out.size
       have hown2a := hown2.alloc (.cells #[.int .u8 128] 5)
       clear hown1 hm2 hA1 hown2)
    | (at_builtin
       go_must (refine app _ _ bytes_t w.heap.size _ l.length (bv l) hown2a _ 1 1 [.int .u8 128] rfl rfl rfl rfl rfl (one_new _ _ _) (by simp [Value.oneCell']) (by omega) (by unfold maxLen; omega) (by simp; omega) ?_)
       intro v3 w3 hown3 hm3
       rw [bv_snoc l 128 128 rfl] at hown3
       have HM3 : Hid (Mod (fun _ => False) w w3) := Lib.hid (Mod.trans (HM2.out.alloc _) hm3 (fun i hi ⟨h, _⟩ => absurd h (by omega)))
       clear hown2a hm3))
  obtain ⟨z, hz⟩ : ∃ z, (119 - l.length % 64) % 64 = z := ⟨_, rfl⟩
  go_loopw [3] (fun out w' => ∃ k : Nat, k ≤ z ∧ w'.ownsRow w.heap.size 5 1 out (l.length + 1 + k) (bv (l ++ (128 :: List.replicate k 0))) ∧ Hid (Mod (fun _ => False) w w')) (fun out _ => z + l.length + 1 - slen out)
  case atStart => exact ⟨0, by omega, hown3, HM3⟩
  case round =>
    obtain ⟨k, hk, hown, HM⟩ := hrel
    have hpz := pad_zero l.length k (by omega)
    rw [hz] at hpz
    obtain ⟨m, hm⟩ : ∃ m, l.length + 1 + k = m := ⟨_, rfl⟩
    rw [hm] at hown hpz
    obtain ⟨A, cap, rfl, -, -, -, -⟩ := own_cells hown
    obtain ⟨r, hr⟩ : ∃ r, m % 64 = r := ⟨_, rfl⟩
    have u1 : Int.tmod (m : Int) 64 = (r : Int) := by rw [← hr]; rfl
    have u2 : (m : Int) % 64 = (r : Int) := by omega
    have hsz := HM.out.size
    rw [hr] at hpz
    by_cases hlt : k < z
    · have i1 : ¬ (r : Int) = 56 := by have := hpz.2 (by omega); omega
      have hown' := hown.alloc (.cells #[.int .u8 0] 5)
      have hbs := bv_snoc (l ++ (128 :: List.replicate k 0)) 0 0 rfl
      rw [List.append_assoc, List.cons_append, ← List.replicate_succ'] at hbs
      have HBS := Lib.hid hbs
      clear hown hbs hpz
      go_wp2_with (first
        | fail
        | (at_builtin
           go_must (refine app _ _ bytes_t w.heap.size _ m _ hown' _ 1 1 [.int .u8 0] rfl rfl rfl rfl rfl (one_new _ _ _) (by simp [Value.oneCell']) (by omega) (by unfold maxLen; omega) (by simp; omega) ?_)
           intro v5 w5 hown5 hm5
           rw [HBS.out] at hown5
           have HM5 : Hid (Mod (fun _ => False) w w5) := Lib.hid (Mod.trans (HM.out.alloc _) hm5 (fun i hi ⟨h, _⟩ => absurd h (by omega)))
           obtain ⟨A5, cap5, rfl, -, -, -, -⟩ := own_cells hown5
           clear hown' hm5))
      go_roundw
      case rel => exact ⟨k + 1, by omega, by rw [← Nat.add_assoc, hm]; exact hown5, HM5⟩
      case measure => simp only [slen]; omega
    · have i1 : (r : Int) = 56 := by
        by_cases h : r = 56
        · omega
        · have := hpz.1 h; omega
      obtain rfl : k = z := by omega
      obtain ⟨N, hN⟩ : ∃ N : Nat, (l.length : Int) * 8 = (N : Int) ∧ N = 8 * l.length := ⟨8 * l.length, by omega, rfl⟩
      obtain ⟨hN, hN2⟩ := hN
      have hNw : IntKind.u64.wrap (N : Int) = (N : Int) := by simp only [IntKind.wrap_u64]; omega
      have hpad : pad l = (l ++ (128 :: List.replicate k 0)) ++ be 8 N := by unfold pad; rw [hz, ← hN2, List.append_assoc]
      have hpl : (l ++ (128 :: List.replicate k 0)).length = m := by simp; omega
      generalize l ++ (128 :: List.replicate k 0) = L at *
      have HPAD := Lib.hid hpad
      have HOWN := Lib.hid hown
      have hbl := be_len 8 N
      clear hown hpad hpz hN2
      go_wp2_with fail
      go_loopw [3, 5] (fun out i w' => ∃ t : Nat, i = .int .i64 t ∧ t ≤ 8 ∧ w'.ownsRow w.heap.size 5 1 out (m + t) (bv (L ++ (be 8 N).take t)) ∧ Hid (Mod (fun _ => False) w w')) (fun _ i _ => 8 - (intOf i).toNat)
      case atStart => exact ⟨0, by go_num, by omega, by simpa using HOWN.out, HM⟩
      case round =>
        obtain ⟨t, rfl, ht, hown, HM⟩ := hrel
        have hsz := HM.out.size
        by_cases hlt : t < 8
        · have j1 : (t : Int) < 8 := by omega
          obtain ⟨s, hsh, hs⟩ : ∃ s : Nat, 56 - 8 * (t : Int) = (s : Int) ∧ s = 8 * (8 - 1 - t) := ⟨8 * (8 - 1 - t), by omega, rfl⟩
          have hbg := be_get 8 N t (by omega)
          rw [← hs] at hbg
          have hbs := bv_snoc (L ++ (be 8 N).take t) ((be 8 N)[t]'(by omega)) _ hbg.symm
          rw [List.append_assoc, ← List.take_succ_eq_append_getElem] at hbs
          have HBS := Lib.hid hbs
          have HS := Lib.hid hs
          have hown' := hown.alloc (.cells #[.int .u8 ((N : Int) / 2 ^ s % 256)] 5)
          clear hbs hbg hs hown
          go_wp2_with (first
            | fail
            | (at_builtin
               go_must (refine app _ _ bytes_t w.heap.size _ (m + t) _ hown' _ 1 1 [.int .u8 ((N : Int) / 2 ^ s % 256)] rfl rfl rfl rfl rfl (one_new _ _ _) (by simp [Value.oneCell']) (by omega) (by unfold maxLen; omega) (by simp; omega) ?_)
               intro v5 w5 hown5 hm5
               rw [HBS.out] at hown5
               have HM5 : Hid (Mod (fun _ => False) w w5) := Lib.hid (Mod.trans (HM.out.alloc _) hm5 (fun i hi ⟨h, _⟩ => absurd h (by omega)))
               clear hown' hm5))
          go_roundw
          case rel => exact ⟨t + 1, by go_num, by omega, hown5, HM5⟩
          case measure => simp [intOf]; omega
        · have j1 : ¬ (t : Int) < 8 := by omega
          obtain rfl : t = 8 := by omega
          rw [List.take_of_length_le (by omega), ← HPAD.out] at hown
          have hpl2 : (pad l).length = m + 8 := by rw [HPAD.out, List.length_append, hpl, hbl]
          rw [← hpl2] at hown
          clear hpl2
          go_wp2_with fail
          go_ret
          exact ⟨_, rfl, hown, HM.out⟩
end Hash
end Go.Proofs.YtenamjldkaggcaaDoor
