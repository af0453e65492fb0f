/- The walk of gear.Cuts. -/
import Derived.Test.YtjcdekipkpmniaaGearW
namespace Go.Proofs.Ytjcdekipkpmniaa
open Go.RowKit K
namespace Gear

/-- a result: a row of numbers in new memory -/
def IntsPost (l : List Int) (w : World) (e : Ending) (w' : World) : Prop :=
  ∃ v, e = .returned v ∧ w'.ownsRow w.heap.size 3 1 v l.length (l.map (.int .i64)) ∧ Mod (fun _ => False) w w'

theorem ints_t : SliceT Try.prog 27 3 1 8 := ⟨Try.underlying27, by decide, _, .int .i64 0, rfl, rfl, rfl, rfl, rfl⟩

set_option maxRecDepth 100000 in
set_option maxHeartbeats 1000000 in
theorem cuts_calls (a : ByteArray) (w : World) (ha : a.size ≤ 1000000000) :
    Calls Try.prog 15 #[.string a] w (IntsPost (cuts a.data.toList 0 0 0) w) := by
  go_enter Try.func15, Try.ntmps15
  go_wp2_with fail
  go_loopw [4, 8] (fun out i w' => ∃ (k : Nat) (acc : List Int) (s n : Int), k ≤ a.size ∧ i = .int .i64 k ∧ w'.ownsRow (w.heap.size + 1) 3 1 out acc.length (acc.map (.int .i64)) ∧
      Has w' w.heap.size [.int .u64 s, .int .i64 n] 44 ∧ 0 ≤ n ∧ n < 1024 ∧ Hid (acc ++ cuts (a.data.toList.drop k) k s n = cuts a.data.toList 0 0 0) ∧ Hid (Mod (fun _ => False) w w') ∧ Hid (acc.length ≤ k))
    (fun _ i _ => a.size - (intOf i).toNat)
  case atStart => exact ⟨0, [], 0, 0, Nat.zero_le _, rfl, World.ownsRow_nil _ _ _ _, Has.new _ _ _, by omega, by omega, Lib.hid rfl, Lib.hid (by (repeat (first | with_reducible exact Mod.refl _ _ | with_reducible apply Mod.drew | with_reducible apply Mod.drewN | with_reducible apply Mod.alloc | refine Mod.set1 ?_ (by first | exact rfl | simp) _ _))), Lib.hid (Nat.le_refl _)⟩
  case round =>
    obtain ⟨k, acc, s, n, hk, rfl, hown, hhas, hn0, hn1, HC, HM, HL⟩ := hrel
    by_cases hlt : k < a.size
    · go_wp2_with fail
      refine (ends_calls w.heap.size s n _ [] 44 wr hhas hn0 (by omega)).mono ?_
      rintro e w1 ⟨rfl, hhas1, hm1⟩
      have hst := stp_n s n (a[k]).toNat hn0 hn1
      have hcd := cuts_drop a k hlt k s n
      generalize stp s n (a[k]).toNat = r at hst hcd hhas1
      obtain ⟨b1, s1, n1⟩ := r
      have hown1 := own_keep hown hm1 (fun j hj _ e => by omega)
      have hM1 := Mod.trans HM.out hm1 (fun i hi e => by omega)
      have hsz1 := hM1.size
      have hlt1 := hhas1.lt
      clear hown hhas hm1 HM
      rw [hcd] at HC
      clear hcd
      have HM1 := Lib.hid hM1
      clear hM1
      have HL2 := HL.out
      cases b1 with
      | false =>
        rw [if_neg (by simp)] at HC
        go_wp2_with fail
        go_round
        case rel => exact ⟨k + 1, acc, s1, n1, by omega, by go_num, hown1, hhas1, hst.1, hst.2, HC, HM1, Lib.hid (by have := HL.out; omega)⟩
        case measure => simp [intOf]; omega
      | true =>
        rw [if_pos rfl] at HC
        go_wp2_with (first | (at_builtin; go_must (refine app _ _ ints_t (w.heap.size + 1) _ _ _ (hown1.alloc _) _ 1 1 [.int .i64 (k + 1)] rfl rfl rfl rfl rfl (one_new _ _ _) (by simp [Value.oneCell']) (by have := HL.out; omega) (by have := HL.out; unfold maxLen; omega) (by simp; omega) ?_; intro v' w2 hown2 hm2)))
        have hhas2 := (hhas1.alloc _).keep hm2 (fun ⟨h, _⟩ => by omega)
        have hM2 := Mod.trans (Mod.alloc HM1.out _) hm2 (fun i hi ⟨h, _⟩ => by omega)
        have HM2 := Lib.hid hM2
        clear hM2 hm2 hhas1 hown1
        go_wp2_with fail
        go_round
        case rel => exact ⟨k + 1, acc ++ [(k : Int) + 1], s1, n1, by omega, by go_num, by simpa using hown2, hhas2, hst.1, hst.2, Lib.hid (by rw [List.append_assoc]; exact HC.out), HM2, Lib.hid (by have := HL.out; simp; omega)⟩
        case measure => simp [intOf]; omega
    · obtain rfl : k = a.size := by omega
      have hnil : cuts (a.data.toList.drop a.size) (a.size : Int) s n = if n > 0 then [(a.size : Int)] else [] := by
        rw [List.drop_of_length_le (by simp)]; rfl
      rw [hnil] at HC
      have hc1 := hhas.cell (o := 1) rfl
      have hlt1 := hhas.lt
      have HM2 := HM.out
      have HL2 := HL.out
      have hsz := HM2.size
      clear hnil
      by_cases hn : 0 < n
      · rw [if_pos hn] at HC
        go_wp2_with (first | (at_builtin; go_must (refine app _ _ ints_t (w.heap.size + 1) _ _ _ (hown.alloc _) _ 1 1 [.int .i64 a.size] rfl rfl rfl rfl rfl (one_new _ _ _) (by simp [Value.oneCell']) (by have := HL.out; omega) (by have := HL.out; unfold maxLen; omega) (by simp; omega) ?_; intro v' w2 hown2 hm2)))
        go_ret
        refine ⟨_, rfl, ?_, ?_⟩
        · rw [← HC.out]
          have := own_base hown2 (base' := w.heap.size) (by omega)
          simpa using this
        · exact Mod.trans (Mod.alloc HM2 _) hm2 (fun i hi ⟨h, _⟩ => by omega)
      · rw [if_neg (by omega)] at HC
        go_wp2_with fail
        go_ret
        refine ⟨_, rfl, ?_, HM2⟩
        rw [← HC.out]
        have := own_base hown (base' := w.heap.size) (by omega)
        simpa using this
end Gear
end Go.Proofs.Ytjcdekipkpmniaa
