/- Joined texts: ObjIb, ObjKb. -/
import Derived.Test.YtenamjldkaggcaaGreatDoorJ19
/- The walk of the reference's RightBranch. -/
namespace Go.Proofs.YtenamjldkaggcaaGreatDoor
set_option linter.unusedVariables false
set_option linter.unusedSimpArgs false
open Go.RowKit K Wire
namespace Obj

theorem rightBranch_stop {level : Int} {kids : List Link} {p : Link} (hp : p ∈ kids) (h : linkOk p = false) : rightBranch level kids = false := by
  have : kids.all linkOk = false := by
    rw [List.all_eq_false]; exact ⟨p, hp, by rw [h]; decide⟩
  unfold rightBranch; rw [this]; simp
theorem linkOk_key {p : Link} (h : inR (p.last.size : Int) 1 64 = false) : linkOk p = false := by unfold linkOk; rw [h]; rfl
theorem linkOk_id {p : Link} (h : decide (p.id.size = 32) = false) : linkOk p = false := by unfold linkOk; rw [h]; simp
theorem linkOk_small {p : Link} (h : p.many < 1) : linkOk p = false := by unfold linkOk; rw [inR_no (.inl h)]; simp
theorem linkOk_big {p : Link} (h : 4096 < p.many) : linkOk p = false := by unfold linkOk; rw [inR_no (.inr h)]; simp

set_option maxRecDepth 100000 in
set_option maxHeartbeats 8000000 in
theorem rightBranch_calls (level : Int) (A : Option Addr) (c : Nat) (kids : List Link) (w : World) (hA : Cells w A (kids.flatMap lc)) (hc : kids.length ≤ 100000000) :
    Calls Tryz.prog 47 #[.agg #[.int .i64 level, .slice A kids.length c]] w fun e w' => e = .returned (.bool (rightBranch level kids)) ∧ Mod (fun _ => False) w w' := by
  by_cases a1 : level < 1
  ·
    have HF : Hid (rightBranch level kids = false) := Lib.hid (by unfold rightBranch; first | (rw [inR_no (n := level) (by omega)]; rfl) | (rw [inR_no (n := (kids.length : Int)) (by omega)]; simp))
    clear hA
    go_enter Tryz.func47, Tryz.ntmps47
    go_wp2_with fail
    go_ret
    exact ⟨by rw [HF.out]; rfl, by (repeat (first | with_reducible exact Mod.refl _ _ | with_reducible apply Mod.drew | with_reducible apply Mod.drewN | with_reducible apply Mod.alloc | refine Mod.set1 ?_ (by first | exact rfl | simp) _ _))⟩
  by_cases a2 : 20 < level
  ·
    have HF : Hid (rightBranch level kids = false) := Lib.hid (by unfold rightBranch; first | (rw [inR_no (n := level) (by omega)]; rfl) | (rw [inR_no (n := (kids.length : Int)) (by omega)]; simp))
    clear hA
    go_enter Tryz.func47, Tryz.ntmps47
    go_wp2_with fail
    go_ret
    exact ⟨by rw [HF.out]; rfl, by (repeat (first | with_reducible exact Mod.refl _ _ | with_reducible apply Mod.drew | with_reducible apply Mod.drewN | with_reducible apply Mod.alloc | refine Mod.set1 ?_ (by first | exact rfl | simp) _ _))⟩
  by_cases a3 : (kids.length : Int) < 1
  ·
    have HF : Hid (rightBranch level kids = false) := Lib.hid (by unfold rightBranch; first | (rw [inR_no (n := level) (by omega)]; rfl) | (rw [inR_no (n := (kids.length : Int)) (by omega)]; simp))
    clear hA
    go_enter Tryz.func47, Tryz.ntmps47
    go_wp2_with fail
    go_ret
    exact ⟨by rw [HF.out]; rfl, by (repeat (first | with_reducible exact Mod.refl _ _ | with_reducible apply Mod.drew | with_reducible apply Mod.drewN | with_reducible apply Mod.alloc | refine Mod.set1 ?_ (by first | exact rfl | simp) _ _))⟩
  by_cases a4 : 64 < (kids.length : Int)
  ·
    have HF : Hid (rightBranch level kids = false) := Lib.hid (by unfold rightBranch; first | (rw [inR_no (n := level) (by omega)]; rfl) | (rw [inR_no (n := (kids.length : Int)) (by omega)]; simp))
    clear hA
    go_enter Tryz.func47, Tryz.ntmps47
    go_wp2_with fail
    go_ret
    exact ⟨by rw [HF.out]; rfl, by (repeat (first | with_reducible exact Mod.refl _ _ | with_reducible apply Mod.drew | with_reducible apply Mod.drewN | with_reducible apply Mod.alloc | refine Mod.set1 ?_ (by first | exact rfl | simp) _ _))⟩
  have hX := Has.new w [.int .i64 level, .slice A kids.length c] 54
  have hM0 := (Mod.refl (fun _ => False) w).alloc (.cells #[.int .i64 level, .slice A kids.length c] 54)
  have HX := Lib.hid hX
  have HA := Lib.hid hA
  have HM0 := Lib.hid hM0
  clear hX hM0 hA
  go_enter Tryz.func47, Tryz.ntmps47
  go_wp2_with fail
  go_loopw [3, 4] (fun s i wr => ∃ (k : Nat) (z : Int), i = .int .i64 k ∧ s = .int .i64 z ∧ k ≤ kids.length ∧ 0 ≤ z ∧ z ≤ 4096 * k ∧ Hid (z = ((kids.take k).map (·.many)).sum) ∧ Hid ((kids.take k).all linkOk = true) ∧ Hid (risesN (kids.map (·.last)) (k - 1) = true) ∧ Hid (Mod (fun _ => False) w wr) ∧ Hid (Has wr w.heap.size [.int .i64 level, .slice A kids.length c] 54)) (fun _ i _ => kids.length - (intOf i).toNat)
  case atStart => exact ⟨0, 0, by go_num, rfl, by omega, by omega, by omega, Lib.hid rfl, Lib.hid rfl, Lib.hid rfl, HM0, HX⟩
  case round =>
    obtain ⟨k, z, rfl, rfl, hk, hz0, hz1, HZ, HO, HU, HM, HX⟩ := hrel
    have x1 := HX.out.cell (o := 1) rfl
    by_cases hlt : k < kids.length
    · have i1 : (k : Int) < (kids.length : Int) := by omega
      have i0 : (0 : Int) ≤ (k : Int) := by omega
      rcases HA.out.keep HM.out (fun _ _ h => h) with h | ⟨ba, o, rfl, hcell⟩
      · have := flat_len lc_len kids; rw [h] at this; simp at this; omega
      have y0 := hcell _ _ (flat_get lc_len kids k 0 hlt (by omega))
      have y1 := hcell _ _ (flat_get lc_len kids k 1 hlt (by omega))
      have y2 := hcell _ _ (flat_get lc_len kids k 2 hlt (by omega))
      rw [Nat.add_zero] at y0
      rw [← Nat.add_assoc] at y1 y2
      have hbl : ba < wr.heap.size := World.block_lt_of_cell? wr _ y0
      have ht : ((kids.take (k + 1)).map (·.many)).sum = ((kids.take k).map (·.many)).sum + kids[k].many := by
        rw [List.take_succ_eq_append_getElem hlt, List.map_append, List.sum_append]; simp
      have ho : (kids.take (k + 1)).all linkOk = ((kids.take k).all linkOk && linkOk kids[k]) := by
        rw [List.take_succ_eq_append_getElem hlt, List.all_append]; simp
      rw [← HZ.out] at ht
      rw [HO.out] at ho
      have HMEM := Lib.hid (List.getElem_mem hlt)
      have hprev : ∀ j (hj : k = j + 1), ∃ pr : ByteArray, wr.cell? ⟨ba, o + j * 3, none⟩ = some (.string pr) ∧ (ltS pr kids[k].last = true → risesN (kids.map (·.last)) k = true) ∧ (ltS pr kids[k].last = false → rightBranch level kids = false) := by
        intro j hj
        have hjl : j < kids.length := by omega
        have z0 := hcell _ _ (flat_get lc_len kids j 0 hjl (by omega))
        rw [Nat.add_zero] at z0
        have g1 : (kids.map (·.last)).getD j ByteArray.empty = kids[j].last := by simp [List.getD, hjl]
        have g2 : (kids.map (·.last)).getD (j + 1) ByteArray.empty = kids[k].last := by subst hj; simp [List.getD, hlt]
        have hsn := risesN_succ (kids.map (·.last)) j
        have hst := @rises_stop (kids.map (·.last)) j (by simp; omega)
        rw [g1, g2] at hsn hst
        have hu := HU.out
        rw [show k - 1 = j by omega] at hu
        rw [hu, Bool.true_and] at hsn
        refine ⟨kids[j].last, z0, fun h => ?_, fun h => ?_⟩
        · rw [hj, hsn]; exact h
        · unfold rightBranch; rw [hst h]; simp
      generalize kids[k] = p at *
      have HT := Lib.hid ht
      have HOO := Lib.hid ho
      have HPR := Lib.hid hprev
      obtain ⟨bk, hbk⟩ : ∃ bk, inR (p.last.size : Int) 1 64 = bk := ⟨_, rfl⟩
      obtain ⟨bi, hbi⟩ : ∃ bi, decide (p.id.size = 32) = bi := ⟨_, rfl⟩
      have hI := isKey_calls p.last
      have hI2 := isId_calls p.id
      rw [hbk] at hI
      rw [hbi] at hI2
      have HI := Lib.hid hI
      have HI2 := Lib.hid hI2
      have HBK := Lib.hid hbk
      have HBI := Lib.hid hbi
      clear hcell ht ho hI hI2 hbk hbi hprev
      go_wp2_with fail
      refine (HI.out _).mono ?_
      rintro e w1 ⟨rfl, hm1⟩
      have hk1 := (Has.new wr [.string p.last, .string p.id, .int .i64 p.many] 58).keep hm1 (fun h => h)
      have c1 := hk1.cell (o := 1) rfl
      have HK1 := Lib.hid hk1
      have HM1 := Lib.hid (Mod.trans ((Mod.refl (fun _ => False) wr).alloc (.cells #[.string p.last, .string p.id, .int .i64 p.many] 58)) hm1 (fun _ _ h => h))
      clear hk1 hm1
      go_wp2_with fail
      refine (HI2.out _).mono ?_
      rintro e w2 ⟨rfl, hm2⟩
      have hk2 := HK1.out.keep hm2 (fun h => h)
      have c0 := hk2.cell (o := 0) rfl
      have c2 := hk2.cell (o := 2) rfl
      have hM2 := Mod.trans HM1.out hm2 (fun _ _ h => h)
      have hx2 := HX.out.keep hM2 (fun h => h)
      have x1 := hx2.cell (o := 1) rfl
      have HX2 := Lib.hid hx2
      have HST := Lib.hid hM2
      have HM2 := Lib.hid (Mod.trans HM.out hM2 (fun _ _ h => h))
      clear hk2 hm2 hM2 hx2 c1 y0 y1 y2
      cases bk with
      | false =>
        have HF := Lib.hid (rightBranch_stop (level := level) (kids := kids) HMEM.out (by exact linkOk_key HBK.out))
        clear HOO HST
        go_wp2_with fail
        go_quiet (fail)
        go_wp2_with fail
        go_ret
        exact ⟨by rw [HF.out]; rfl, HM2.out.drewN _⟩
      | true =>
      cases bi with
      | false =>
        have HF := Lib.hid (rightBranch_stop (level := level) (kids := kids) HMEM.out (by exact linkOk_id HBI.out))
        clear HOO HST
        go_wp2_with fail
        go_quiet (fail)
        go_wp2_with fail
        go_ret
        exact ⟨by rw [HF.out]; rfl, HM2.out.drewN _⟩
      | true =>
      by_cases b3 : p.many < 1
      · have hv1 : decide (p.many < 1) = true := decide_eq_true b3
        have HF := Lib.hid (rightBranch_stop (level := level) (kids := kids) HMEM.out (by exact linkOk_small b3))
        clear HOO HST
        go_wp2_with fail
        go_quiet (fail)
        go_wp2_with fail
        go_ret
        exact ⟨by rw [HF.out]; rfl, HM2.out.drewN _⟩
      have hv1 : decide (p.many < 1) = false := decide_eq_false b3
      by_cases b4 : 4096 < p.many
      · have hv2 : decide (4096 < p.many) = true := decide_eq_true b4
        have HF := Lib.hid (rightBranch_stop (level := level) (kids := kids) HMEM.out (by exact linkOk_big b4))
        clear HOO HST
        go_wp2_with fail
        go_quiet (fail)
        go_wp2_with fail
        go_ret
        exact ⟨by rw [HF.out]; rfl, HM2.out.drewN _⟩
      have hv2 : decide (4096 < p.many) = false := decide_eq_false b4
      have hpo : linkOk p = true := by
        unfold linkOk; rw [HBK.out, HBI.out]; simp [inR]; omega
      have HPO := Lib.hid hpo
      have w1 : IntKind.i64.wrap (z + p.many) = z + p.many := by rw [IntKind.wrap_i64]; omega
      clear hpo
      by_cases hk0 : k = 0
      · subst hk0
        go_wp2_with fail
        go_quiet (fail)
        go_wp2_with fail
        go_roundw
        case rel => exact ⟨1, z + p.many, by go_num, rfl, by omega, by omega, by omega, Lib.hid HT.out.symm, Lib.hid (by rw [HOO.out, HPO.out]; rfl), Lib.hid rfl, Lib.hid (HM2.out.drewN _), Lib.hid (HX2.out.drewN _)⟩
        case measure => simp [intOf]; omega
      · obtain ⟨j, hj⟩ : ∃ j, k = j + 1 := ⟨k - 1, by omega⟩
        obtain ⟨pr, z0, hyes, hno⟩ := HPR.out j hj
        have z0 := (HST.out.cell (p := ⟨ba, o + j * 3, none⟩) hbl (fun h => h)).trans z0
        have n0 : 0 < k := by omega
        have hw1 : IntKind.i64.wrap ((k : Int) - 1) = (j : Int) := by rw [IntKind.wrap_i64]; omega
        have j0 : (0 : Int) ≤ (j : Int) := by omega
        have j1 : (j : Int) < (kids.length : Int) := by omega
        obtain ⟨lt, hlts⟩ : ∃ lt, ltS pr p.last = lt := ⟨_, rfl⟩
        rw [hlts] at hyes hno
        have hlts2 : Go.Op.bytesLess pr.toList p.last.toList = lt := hlts
        have HY := Lib.hid hyes
        have HN := Lib.hid hno
        clear hk0 hj hlts hyes hno
        cases lt with
        | true =>
          go_wp2_with fail
          go_quiet (fail)
          go_wp2_with fail
          go_roundw
          case rel => exact ⟨k + 1, z + p.many, by go_num, rfl, by omega, by omega, by omega, Lib.hid HT.out.symm, Lib.hid (by rw [HOO.out, HPO.out]; rfl), Lib.hid (HY.out (by simp)), Lib.hid (HM2.out.drewN _), Lib.hid (HX2.out.drewN _)⟩
          case measure => simp [intOf]; omega
        | false =>
          have HF := Lib.hid (HN.out rfl)
          clear HOO HST
          go_wp2_with fail
          go_quiet (fail)
          go_wp2_with fail
          go_ret
          exact ⟨by rw [HF.out]; rfl, HM2.out.drewN _⟩
    · have hkl : k = kids.length := by omega
      have i1 : ¬ (k : Int) < (kids.length : Int) := by omega
      have hz := HZ.out
      have ho := HO.out
      have hu := HU.out
      rw [hkl, List.take_length] at hz ho
      have hr : rightBranch level kids = decide (z ≤ 4096) := by
        unfold rightBranch rises; rw [ho, ← hz, List.length_map, ← hkl, hu]
        have e1 : inR level 1 20 = true := by simp [inR]; omega
        have e2 : inR (k : Int) 1 64 = true := by simp [inR]; omega
        rw [e1, e2]; rfl
      have HR := Lib.hid hr
      clear hz ho hu hr
      go_wp2_with fail
      go_ret
      exact ⟨by rw [HR.out]; rfl, HM.out⟩
end Obj
end Go.Proofs.YtenamjldkaggcaaGreatDoor
/- The walk of the reference's Branch. -/
namespace Go.Proofs.YtenamjldkaggcaaGreatDoor
set_option linter.unusedVariables false
set_option linter.unusedSimpArgs false
open Go.RowKit K Wire
namespace Obj
def branchH (level : Int) (kids : List Link) : List UInt8 := 66 :: (enc level ++ enc (kids.length : Int))
def branchP (level : Int) (kids : List Link) (k : Nat) : List UInt8 := branchH level kids ++ (kids.take k).flatMap linkB
end Obj
end Go.Proofs.YtenamjldkaggcaaGreatDoor
