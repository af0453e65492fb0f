/- The walks of gear.Table, sum.ends, gear.Cuts. -/
import Derived.Test.YtjcdekipkpmniaaGearF
import Derived.Outline
namespace Go.Proofs.Ytjcdekipkpmniaa
open Go.RowKit K
namespace Gear

theorem table_calls (c : Int) (w : World) :
    Calls Try.prog 12 #[.int .u8 c] w fun e w' => e = .returned (.int .u64 (tbl c)) ∧ w' = w := by
  go_enter Try.func12, Try.ntmps12
  go_wp2
  go_ret
  exact ⟨rfl, rfl⟩

/-- the sum behind ends -/
def SumPost (b : Nat) (s n c : Int) (rest : List Value) (T : TypeId) (w : World) (e : Ending) (w' : World) : Prop :=
  e = .returned (.bool (stp s n c).1) ∧ Has w' b (.int .u64 (stp s n c).2.1 :: .int .i64 (stp s n c).2.2 :: rest) T ∧ Mod (· = b) w w'

set_option maxRecDepth 100000 in
set_option maxHeartbeats 1000000 in
theorem ends_calls (b : Nat) (s n c : Int) (rest : List Value) (T : TypeId) (w : World)
    (hb : Has w b (.int .u64 s :: .int .i64 n :: rest) T) (h0 : 0 ≤ n) (h1 : n < 100000) :
    Calls Try.prog 21 #[.pointer (some ⟨b, 0, none⟩), .int .u8 c] w (SumPost b s n c rest T w) := by
  have hs := hb.cell (o := 0) (v := .int .u64 s) rfl
  have hn := hb.cell (o := 1) (v := .int .i64 n) rfl
  have fs := hb.frozen 0
  have fn := hb.frozen 1
  have HB := Lib.hid hb
  clear hb
  by_cases hle : n + 1 ≤ 64
  · have hstp : stp s n c = (false, s, n + 1) := by simp [stp, hle]
    have HS := Lib.hid hstp
    clear hstp
    go_enter Try.func21, Try.ntmps21
    go_wp2_with fail
    go_ret
    unfold SumPost
    rw [HS.out]
    refine ⟨rfl, ?_, ?_⟩
    · have := (HB.out.set 1 (.int .i64 (n + 1)))
      simpa using this
    · (repeat (first | with_reducible exact Mod.refl _ _ | with_reducible apply Mod.drew | with_reducible apply Mod.drewN | with_reducible apply Mod.alloc | refine Mod.set1 ?_ (by first | exact rfl | simp) _ _))
  · go_enter Try.func21, Try.ntmps21
    go_wp2_with fail
    refine region_tail 11 (by kernel_rfl) (by kernel_rfl) ?_
    simp only [List.take_succ_cons, List.take_zero, List.drop_succ_cons, List.drop_zero]
    repeat still_step
    still_call (table_calls c _)
    repeat still_step
    refine wpStill_nil ?_
    obtain ⟨t, ht⟩ : ∃ t, IntKind.u64.wrap (IntKind.u64.wrap (s * 2) + tbl c) = t := ⟨_, rfl⟩
    simp only [ht]
    have hfin : stp s n c = if goes t (n + 1) = true then (false, t, n + 1) else (true, 0, 0) := by
      have : nxt s c = t := ht
      simp only [stp, this, if_neg (Int.not_le.2 hle)]
    clear ht
    have HF := Lib.hid hfin
    clear hfin
    go_wp2_with fail
    all_goals
      first
        | (have hg : goes t (n + 1) = true := by
             unfold goes
             first | rw [if_pos (by assumption)] | rw [if_neg (by omega)]
             simp [*]
           go_ret
           unfold SumPost
           rw [HF.out, if_pos hg]
           exact ⟨rfl, ((HB.out.set 1 _).set 0 _).drew, by (repeat (first | with_reducible exact Mod.refl _ _ | with_reducible apply Mod.drew | with_reducible apply Mod.drewN | with_reducible apply Mod.alloc | refine Mod.set1 ?_ (by first | exact rfl | simp) _ _))⟩)
        | (have hg : ¬ goes t (n + 1) = true := by
             unfold goes
             first | rw [if_pos (by assumption)] | rw [if_neg (by omega)]
             simp [*]
             try (rcases ‹_ ∨ _› with h | h
                  · exfalso; simp_all
                  · exact h)
           go_ret
           unfold SumPost
           rw [HF.out, if_neg hg]
           exact ⟨rfl, ((((HB.out.set 1 _).set 0 _).set 0 _).set 1 _).drew, by (repeat (first | with_reducible exact Mod.refl _ _ | with_reducible apply Mod.drew | with_reducible apply Mod.drewN | with_reducible apply Mod.alloc | refine Mod.set1 ?_ (by first | exact rfl | simp) _ _))⟩)
end Gear
end Go.Proofs.Ytjcdekipkpmniaa
