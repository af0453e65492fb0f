/- The walks of wire.TakeText and of the reference's TakeText. -/
import Derived.Test.YtenamjldkaggcaaDoorWireJ
namespace Go.Proofs.YtenamjldkaggcaaDoor
set_option linter.unusedVariables false
set_option linter.unusedSimpArgs false
open Go.RowKit K
namespace Wire

/-- what TakeText tells -/
def takeT (l : List UInt8) (at_ most : Int) : List UInt8 × Int × Bool :=
  let r := takeI l at_
  if r.2.2 = false ∨ r.1 < 0 ∨ most < r.1 ∨ (l.length : Int) - r.2.1 < r.1 then ([], 0, false)
  else ((l.drop r.2.1.toNat).take r.1.toNat, r.2.1 + r.1, true)

def vT (r : List UInt8 × Int × Bool) : Value := .tuple #[.string ⟨r.1.toArray⟩, .int .i64 r.2.1, .bool r.2.2]

theorem takeI_cases (l : List UInt8) (at_ : Int) : takeI l at_ = (0, 0, false) ∨ ∃ (n : Int) (p k : Nat), at_ = p ∧ 0 < k ∧ k ≤ 10 ∧ p + k ≤ l.length ∧ In64 n ∧ dec (l.drop p) = some (n, k) ∧ takeI l at_ = (n, ((p + k : Nat) : Int), true) := by
  by_cases h : at_ < 0 ∨ (l.length : Int) < at_
  · left; unfold takeI; rw [if_pos h]
  · obtain ⟨p, rfl⟩ := Int.eq_ofNat_of_zero_le (show 0 ≤ at_ by omega)
    cases hd : dec (l.drop p) with
    | none => left; exact takeI_none l p (by omega) hd
    | some r =>
      obtain ⟨n, k⟩ := r
      obtain ⟨h1, h2, h3, h4, h5⟩ := dec_some _ _ _ hd
      simp only [List.length_drop] at h4
      right
      refine ⟨n, p, k, rfl, h2, h3, by omega, h1, hd, ?_⟩
      rw [takeI_some l p n k (by omega) hd]; simp

set_option maxRecDepth 100000 in
set_option maxHeartbeats 1000000 in
theorem takeText_calls (A : Option Addr) (c : Nat) (l : List UInt8) (at_ most : Int) (w : World) (hA : Cells w A (bv l)) (hl : l.length ≤ 140737488355328) (hc : l.length ≤ c) (hc2 : c ≤ maxLen) (hadr : Adr A c) :
    Calls Tryd.prog 80 #[.slice A l.length c, .int .i64 at_, .int .i64 most] w fun e w' => e = .returned (vT (takeT l at_ most)) ∧ w' = w := by
  have hp := takeInt_calls A c l at_ w hA hl hc hc2 hadr
  unfold maxLen at hc2
  rcases takeI_cases l at_ with h | ⟨n, p, k, rfl, hk, -, hpk, hn, -, h⟩
  · have hfin : takeT l at_ most = ([], 0, false) := by unfold takeT; rw [h]; rfl
    rw [h] at hp
    have HP := Lib.hid hp
    have HF := Lib.hid hfin
    clear hp hfin hA h
    go_enter Tryd.func80, Tryd.ntmps80
    go_wp2_with fail
    refine HP.out.mono ?_
    rintro e w1 ⟨rfl, hm⟩
    subst hm
    unfold vI
    go_wp2_with fail
    go_ret3
    rw [HF.out]
    exact ⟨rfl, rfl⟩
  · rw [h] at hp
    have HP := Lib.hid hp
    unfold In64 at hn
    have hlo : ((p + k : Nat) : Int) ≤ (l.length : Int) := by omega
    by_cases hok : 0 ≤ n ∧ n ≤ most ∧ n ≤ (l.length : Int) - ((p + k : Nat) : Int)
    · obtain ⟨h0, h1, h2⟩ := hok
      have hfin : takeT l (p : Int) most = ((l.drop (p + k)).take n.toNat, ((p + k : Nat) : Int) + n, true) := by
        unfold takeT; rw [h]; dsimp only; rw [if_neg (by simp; omega), Int.toNat_natCast]
      obtain ⟨q, rfl⟩ := Int.eq_ofNat_of_zero_le h0
      rw [Int.toNat_natCast] at hfin
      obtain ⟨A', hsl, hadr', hA'⟩ := slice_any (P := Tryd.prog) 75 5 (p + k) q hA hadr Tryd.underlying75 rfl (by omega) hc
      have hln : ((l.drop (p + k)).take q).length = q := by simp; omega
      obtain ⟨T, hT⟩ : ∃ T, (l.drop (p + k)).take q = T := ⟨_, rfl⟩
      rw [hT] at hA' hfin hln
      have hcv : ∀ w', Mod (fun _ => False) w w' → (convert 75 9 (.slice A' q (c - (p + k)))).run Tryd.prog w' = .ok (.string ⟨T.toArray⟩) w' := fun w' hm => by
        have := run_bytes (P := Tryd.prog) (c - (p + k)) (Cells.keep (S := fun _ => False) hA' hm (fun _ _ h => h)) 75 9 5 Tryd.underlying75 Tryd.underlying5 Tryd.underlying9
        rw [hln] at this
        exact this
      have HF := Lib.hid hfin
      have HC := Lib.hid hcv
      generalize p + k = r at *
      clear hp hfin hA h hT hA' hcv hadr'
      go_enter Tryd.func80, Tryd.ntmps80
      go_wp2_with fail
      refine HP.out.mono ?_
      rintro e w1 ⟨rfl, hm⟩
      subst hm
      have hcv := HC.out _ (Mod.refl _ _)
      unfold vI
      go_wp2_with fail
      go_ret3
      rw [HF.out]
      exact ⟨rfl, rfl⟩
    · have hfin : takeT l (p : Int) most = ([], 0, false) := by
        unfold takeT; rw [h]; dsimp only; rw [if_pos (by simp; omega)]
      have HF := Lib.hid hfin
      generalize p + k = r at *
      have hcases : n < 0 ∨ (0 ≤ n ∧ most < n) ∨ (0 ≤ n ∧ n ≤ most ∧ (l.length : Int) - (r : Int) < n) := by omega
      clear hp hfin hA h hok
      rcases hcases with hx | ⟨hx1, hx⟩ | ⟨hx1, hx2, hx⟩
      all_goals
        go_enter Tryd.func80, Tryd.ntmps80
        go_wp2_with fail
        refine HP.out.mono ?_
        rintro e w1 ⟨rfl, hm⟩
        subst hm
        unfold vI
        go_wp2_with fail
        go_ret3
        rw [HF.out]
        exact ⟨rfl, rfl⟩

set_option maxRecDepth 100000 in
set_option maxHeartbeats 1000000 in
theorem refTakeText_calls (A : Option Addr) (c : Nat) (l : List UInt8) (at_ most : Int) (w : World) (hA : Cells w A (bv l)) (hl : l.length ≤ 140737488355328) (hc : l.length ≤ c) (hc2 : c ≤ maxLen) (hadr : Adr A c) :
    Calls Tryd.prog 88 #[.slice A l.length c, .int .i64 at_, .int .i64 most] w fun e w' => e = .returned (vT (takeT l at_ most)) ∧ Mod (fun _ => False) w w' := by
  have hp := refTakeInt_calls A c l at_ w hA hl hc hc2 hadr
  unfold maxLen at hc2
  rcases takeI_cases l at_ with h | ⟨n, p, k, rfl, hk, -, hpk, hn, -, h⟩
  · have hfin : takeT l at_ most = ([], 0, false) := by unfold takeT; rw [h]; rfl
    rw [h] at hp
    have HP := Lib.hid hp
    have HF := Lib.hid hfin
    clear hp hfin hA h
    go_enter Tryd.func88, Tryd.ntmps88
    go_wp2_with fail
    refine HP.out.mono ?_
    rintro e w1 ⟨rfl, hm⟩
    have HM := Lib.hid hm; clear hm
    unfold vI
    go_wp2_with fail
    go_ret3
    rw [HF.out]
    exact ⟨rfl, HM.out⟩
  · rw [h] at hp
    have HP := Lib.hid hp
    unfold In64 at hn
    have hlo : ((p + k : Nat) : Int) ≤ (l.length : Int) := by omega
    by_cases hok : 0 ≤ n ∧ n ≤ most ∧ n ≤ (l.length : Int) - ((p + k : Nat) : Int)
    · obtain ⟨h0, h1, h2⟩ := hok
      have hfin : takeT l (p : Int) most = ((l.drop (p + k)).take n.toNat, ((p + k : Nat) : Int) + n, true) := by
        unfold takeT; rw [h]; dsimp only; rw [if_neg (by simp; omega), Int.toNat_natCast]
      obtain ⟨q, rfl⟩ := Int.eq_ofNat_of_zero_le h0
      rw [Int.toNat_natCast] at hfin
      obtain ⟨A', hsl, hadr', hA'⟩ := slice_any (P := Tryd.prog) 75 5 (p + k) q hA hadr Tryd.underlying75 rfl (by omega) hc
      have hln : ((l.drop (p + k)).take q).length = q := by simp; omega
      obtain ⟨T, hT⟩ : ∃ T, (l.drop (p + k)).take q = T := ⟨_, rfl⟩
      rw [hT] at hA' hfin hln
      have hcv : ∀ w', Mod (fun _ => False) w w' → (convert 75 9 (.slice A' q (c - (p + k)))).run Tryd.prog w' = .ok (.string ⟨T.toArray⟩) w' := fun w' hm => by
        have := run_bytes (P := Tryd.prog) (c - (p + k)) (Cells.keep (S := fun _ => False) hA' hm (fun _ _ h => h)) 75 9 5 Tryd.underlying75 Tryd.underlying5 Tryd.underlying9
        rw [hln] at this
        exact this
      have HF := Lib.hid hfin
      have HC := Lib.hid hcv
      generalize p + k = r at *
      clear hp hfin hA h hT hA' hcv hadr'
      go_enter Tryd.func88, Tryd.ntmps88
      go_wp2_with fail
      refine HP.out.mono ?_
      rintro e w1 ⟨rfl, hm⟩
      have HM := Lib.hid hm; clear hm
      have hcv := HC.out _ HM.out
      unfold vI
      go_wp2_with fail
      go_ret3
      rw [HF.out]
      exact ⟨rfl, HM.out⟩
    · have hfin : takeT l (p : Int) most = ([], 0, false) := by
        unfold takeT; rw [h]; dsimp only; rw [if_pos (by simp; omega)]
      have HF := Lib.hid hfin
      generalize p + k = r at *
      have hcases : n < 0 ∨ (0 ≤ n ∧ most < n) ∨ (0 ≤ n ∧ n ≤ most ∧ (l.length : Int) - (r : Int) < n) := by omega
      clear hp hfin hA h hok
      rcases hcases with hx | ⟨hx1, hx⟩ | ⟨hx1, hx2, hx⟩
      all_goals
        go_enter Tryd.func88, Tryd.ntmps88
        go_wp2_with fail
        refine HP.out.mono ?_
        rintro e w1 ⟨rfl, hm⟩
        have HM := Lib.hid hm; clear hm
        unfold vI
        go_wp2_with fail
        go_ret3
        rw [HF.out]
        exact ⟨rfl, HM.out⟩
end Wire
end Go.Proofs.YtenamjldkaggcaaDoor
