/- The walks of the reference's Table, Ends, Cuts, Same, of cut and shown. -/
import Derived.Test.YtjcdekipkpmniaaGearC
import Derived.Deep.QuietTactic
namespace Go.Proofs.Ytjcdekipkpmniaa
open Go.RowKit K
namespace Gear

theorem Lib.extract_to_end' (s : ByteArray) (a : Nat) : (s.extract a s.size).data.toList = s.data.toList.drop a := by
  obtain ⟨⟨l⟩⟩ := s
  simp only [ByteArray.size, ByteArray.data_extract, List.extract_toArray, List.size_toArray]
  rw [List.extract_eq_take_drop, List.take_of_length_le (by simp)]

theorem refTable_calls (c : Int) (w : World) :
    Calls Try.prog 13 #[.int .u8 c] w fun e w' => e = .returned (.int .u64 (tbl c)) ∧ w' = w := by
  go_enter Try.func13, Try.ntmps13
  go_wp2
  go_ret
  exact ⟨rfl, rfl⟩

/-- the first million bytes -/
def cutS (a : ByteArray) : ByteArray := if a.size ≤ 1000000 then a else a.extract 0 1000000

theorem cutS_size (a : ByteArray) : (cutS a).size ≤ 1000000 := by
  unfold cutS
  split
  · assumption
  · rw [ByteArray.size_extract]; omega

set_option maxHeartbeats 400000 in
theorem cut_calls (a : ByteArray) (w : World) (ha : a.size ≤ 140737488351232) :
    Calls Try.prog 11 #[.string a] w fun e w' => e = .returned (.string (cutS a)) ∧ w' = w := by
  by_cases h : a.size ≤ 1000000
  · go_enter Try.func11, Try.ntmps11
    go_wp2_with fail
    go_ret
    rw [cutS, if_pos h]
    exact ⟨rfl, rfl⟩
  · go_enter Try.func11, Try.ntmps11
    go_wp2_with fail
    go_ret
    rw [cutS, if_neg (by omega)]
    exact ⟨rfl, rfl⟩

set_option maxRecDepth 100000 in
set_option maxHeartbeats 1000000 in
theorem refEnds_calls (a : ByteArray) (w : World) (ha : a.size ≤ 1000000000) :
    Calls Try.prog 20 #[.string a] w fun e w' => e = .returned (.tuple #[.int .i64 (endsAll a.data.toList).1, .bool (endsAll a.data.toList).2]) ∧ w' = w := by
  go_enter Try.func20, Try.ntmps20
  go_wp2_with fail
  go_loop [4, 5] (fun sum i => ∃ (k : Nat) (s : Int), i = .int .i64 k ∧ sum = .int .u64 s ∧ 64 ≤ k ∧ (a.size ≤ 64 → k = 64) ∧ (64 ≤ a.size → k ≤ a.size) ∧ k < 1024 ∧ Hid (k ≤ a.size → endsAll a.data.toList = ends (a.data.toList.drop k) k s))
    (fun _ i => a.size - (intOf i).toNat)
  case atStart => 
    refine ⟨64, 0, by go_num, rfl, by omega, by omega, by omega, by omega, Lib.hid fun h => ?_⟩
    unfold endsAll
    by_cases h' : a.data.toList.length ≤ 64
    · have h2 : a.data.toList.length = a.size := by simp
      have h3 : a.data.toList.length = 64 := by omega
      rw [if_pos h', List.drop_of_length_le h', h3]; rfl
    · rw [if_neg h']; rfl
  case round =>
    obtain ⟨k, s, rfl, rfl, hk, hk1, hk2, hk3, HC⟩ := hrel
    by_cases hlt : k < a.size
    · have hcd := ends_drop a k hlt k s
      have hc2 : endsAll a.data.toList = _ := (HC.out (by omega)).trans hcd
      clear hcd HC
      have HC := Lib.hid hc2
      clear hc2
      go_wp2_with (first | (go_at_call 13; refine (refTable_calls _ _).mono ?_; rintro e w' ⟨rfl, rfl⟩))
      all_goals
        first
          | (have hg : goes (nxt s (a[k]).toNat) ((k : Int) + 1) = true := by
               unfold goes nxt
               first | rw [if_pos (by assumption)] | rw [if_neg (by omega)]
               simp [*]
               rename_i hh
               have := hh.2
               simp at this; omega
             rw [if_pos hg] at HC
             go_round
             case rel => exact ⟨k + 1, nxt s (a[k]).toNat, by go_num, rfl, by omega, by omega, by omega, by simp [goes] at hg; omega, Lib.hid fun _ => HC.out⟩
             case measure => simp [intOf]; omega)
          | (have hg : ¬ goes (nxt s (a[k]).toNat) ((k : Int) + 1) = true := by
               unfold goes nxt
               first | rw [if_pos (by assumption)] | rw [if_neg (by omega)]
               simp [*]
               try (rcases ‹_ ∨ _› with hh | hh
                    · exfalso; simp_all
                    · simp at hh; omega)
             rw [if_neg hg] at HC
             go_ret2
             rw [HC.out]
             exact ⟨rfl, rfl⟩)
    · have hfin : endsAll a.data.toList = ((a.size : Int), false) := by
        by_cases h64 : 64 ≤ a.size
        · have : k = a.size := by omega
          rw [HC.out (by omega), this, List.drop_of_length_le (by simp)]; rfl
        · have h2 : a.data.toList.length = a.size := by simp
          unfold endsAll; rw [if_pos (by omega), h2]
      have HF := Lib.hid hfin
      clear hfin HC
      go_wp2_with fail
      go_ret2
      rw [HF.out]
      exact ⟨rfl, rfl⟩

set_option maxRecDepth 100000 in
set_option maxHeartbeats 1000000 in
theorem refCuts_calls (a : ByteArray) (w : World) (ha : a.size ≤ 1000000000) :
    Calls Try.prog 16 #[.string a] w (IntsPost (cuts a.data.toList 0 0 0) w) := by
  go_enter Try.func16, Try.ntmps16
  go_wp2_with fail
  go_loopw [3, 4] (fun out i w' => ∃ (k : Nat) (acc : List Int), k ≤ a.size ∧ i = .int .i64 k ∧ w'.ownsRow w.heap.size 3 1 out acc.length (acc.map (.int .i64)) ∧
      Hid (acc ++ cuts (a.data.toList.drop k) k 0 0 = cuts a.data.toList 0 0 0) ∧ Hid (Mod (fun _ => False) w w') ∧ Hid (acc.length ≤ k))
    (fun _ i _ => a.size - (intOf i).toNat)
  case atStart => exact ⟨0, [], Nat.zero_le _, rfl, World.ownsRow_nil _ _ _ _, Lib.hid rfl, Lib.hid (by (repeat (first | with_reducible exact Mod.refl _ _ | with_reducible apply Mod.drew | with_reducible apply Mod.drewN | with_reducible apply Mod.alloc | refine Mod.set1 ?_ (by first | exact rfl | simp) _ _))), Lib.hid (Nat.le_refl _)⟩
  case round =>
    obtain ⟨k, acc, hk, rfl, hown, HC, HM, HL⟩ := hrel
    have hsz := HM.out.size
    by_cases hlt : k < a.size
    · have hne : a.data.toList.drop k ≠ [] := by
        intro h; have := congrArg List.length h; simp at this; omega
      have hch := cuts_chunk _ (k : Int) hne
      have hle := endsAll_le _ hne
      have hlen : (a.data.toList.drop k).length = a.size - k := by simp
      have hx : (a.extract k a.size).data.toList = a.data.toList.drop k := Lib.extract_to_end' a k
      have hcall := refEnds_calls (a.extract k a.size) 
      rw [hx] at hcall
      rw [hch] at HC
      clear hch hne
      generalize endsAll (a.data.toList.drop k) = r at hcall HC hle
      obtain ⟨m, b⟩ := r
      dsimp only at hcall HC hle
      obtain ⟨m, rfl⟩ := Int.eq_ofNat_of_zero_le (show 0 ≤ m by omega)
      rw [List.drop_drop, Int.toNat_natCast] at HC
      have hx2 : (a.extract k a.size).size ≤ 1000000000 := by simp; omega
      have hL := HL.out
      have hmk : k + m ≤ a.size := by omega
      have hm0 : 0 < m := by omega
      clear hx hle hlen
      have HCA := Lib.hid hcall
      clear hcall
      go_wp2_with (first
        | (go_at_call 20; go_must (refine (HCA.out _ hx2).mono ?_); rintro e w1 ⟨rfl, hw1⟩; subst hw1) 
        | (at_builtin; go_must (refine app _ _ ints_t w.heap.size _ _ _ (hown.alloc _) _ 1 1 [.int .i64 (k + m)] rfl rfl rfl rfl rfl (one_new _ _ _) (by simp [Value.oneCell']) (by omega) (by unfold maxLen; omega) (by simp; omega) ?_; intro v' w2 hown2 hm2)))
      go_wp2_with fail
      have hm3 := Mod.trans (Mod.alloc HM.out _) hm2 (fun i hi ⟨h, _⟩ => by omega)
      go_round
      case rel => exact ⟨k + m, acc ++ [(k : Int) + m], hmk, by go_num, by simpa using hown2, Lib.hid (by rw [List.append_assoc]; exact HC.out), Lib.hid hm3, Lib.hid (by simp; omega)⟩
      case measure => simp [intOf]; omega
    · obtain rfl : k = a.size := by omega
      rw [List.drop_of_length_le (by simp)] at HC
      go_wp2_with fail
      go_ret
      refine ⟨_, rfl, ?_, HM.out⟩
      rw [← HC.out]
      simpa [cuts] using hown

set_option maxHeartbeats 400000 in
/-- two lists that are the same -/
theorem same_calls (l : List Int) (A B : Option Addr) (c d : Nat) (w : World) (hA : Cells w A (l.map (.int .i64))) (hB : Cells w B (l.map (.int .i64))) (hl : l.length ≤ 1000000000) :
    Calls Try.prog 14 #[.slice A l.length c, .slice B l.length d] w fun e w' => e = .returned (.bool true) ∧ ∃ m, w' = w.drewN m := by
  have HA := Lib.hid hA
  have HB := Lib.hid hB
  clear hA hB
  go_enter Try.func14, Try.ntmps14
  go_wp2_with fail
  go_loopw [5] (fun i w' => ∃ (k m : Nat), k ≤ l.length ∧ i = .int .i64 k ∧ w' = w.drewN m)
    (fun i _ => l.length - (intOf i).toNat)
  case atStart => exact ⟨0, 0, Nat.zero_le _, rfl, rfl⟩
  case round =>
    obtain ⟨k, m, hk, rfl, rfl⟩ := hrel
    by_cases hlt : k < l.length
    · rcases HA.out with hA | ⟨b, o, rfl, hA⟩
      · simp at hA; subst hA; simp at hlt
      rcases HB.out with hB | ⟨b', o', rfl, hB⟩
      · simp at hB; subst hB; simp at hlt
      have h1 := hA k (.int .i64 l[k]) (by simp [hlt])
      have h2 := hB k (.int .i64 l[k]) (by simp [hlt])
      clear hA hB HA HB
      have h3 : (k : Int) < (l.length : Int) := by omega
      go_wp2_with fail
      go_quiet (fail)
      go_wp2_with fail
      go_roundw
      case rel => exact ⟨k + 1, _, by omega, by go_num, rfl⟩
      case measure => simp [intOf]; omega
    · obtain rfl : k = l.length := by omega
      go_wp2_with fail
      go_ret
      exact ⟨rfl, _, rfl⟩
end Gear
end Go.Proofs.Ytjcdekipkpmniaa
