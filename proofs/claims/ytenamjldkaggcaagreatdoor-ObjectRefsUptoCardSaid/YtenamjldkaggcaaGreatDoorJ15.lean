/- Joined texts: ObjI, ObjJ, ObjK. -/
import Derived.Test.YtenamjldkaggcaaGreatDoorJ14
/- The walks of the reference's Right functions. -/
namespace Go.Proofs.YtenamjldkaggcaaGreatDoor
set_option linter.unusedVariables false
set_option linter.unusedSimpArgs false
open Go.RowKit K Wire
namespace Obj

theorem inR_no {n lo hi : Int} (h : n < lo ∨ hi < n) : inR n lo hi = false := by
  unfold inR
  rcases h with h | h
  · rw [decide_eq_false (by omega)]; rfl
  · rw [decide_eq_false (p := n ≤ hi) (by omega)]; simp
theorem partOk_id {p : Part} (h : ¬ p.id.size = 32) : partOk p = false := by unfold partOk; rw [decide_eq_false h]; rfl
theorem partOk_small {p : Part} (h : p.size < 1) : partOk p = false := by unfold partOk; rw [inR_no (.inl h)]; simp
theorem partOk_big {p : Part} (h : 262144 < p.size) : partOk p = false := by unfold partOk; rw [inR_no (.inr h)]; simp
theorem rightFan_stop {level : Int} {kids : List Part} {p : Part} (hp : p ∈ kids) (h : partOk p = false) : rightFan level kids = false := by
  have : kids.all partOk = false := by
    rw [List.all_eq_false]; exact ⟨p, hp, by rw [h]; decide⟩
  unfold rightFan; rw [this]; simp

set_option maxRecDepth 100000 in
set_option maxHeartbeats 1000000 in
theorem rightFan_calls (level : Int) (A : Option Addr) (c : Nat) (kids : List Part) (w : World) (hA : Cells w A (kids.flatMap pc)) (hc : kids.length ≤ 100000000) :
    Calls Tryz.prog 45 #[.agg #[.int .i64 level, .slice A kids.length c]] w fun e w' => e = .returned (.bool (rightFan level kids)) ∧ Mod (fun _ => False) w w' := by
  by_cases a1 : level < 1
  · have HF : Hid (rightFan level kids = false) := Lib.hid (by unfold rightFan; first | (rw [inR_no (n := level) (by omega)]; rfl) | (rw [inR_no (n := (kids.length : Int)) (by omega)]; simp))
    clear hA
    go_enter Tryz.func45, Tryz.ntmps45
    go_wp2_with fail
    go_ret
    exact ⟨by rw [HF.out]; rfl, by (repeat (first | with_reducible exact Mod.refl _ _ | with_reducible apply Mod.drew | with_reducible apply Mod.drewN | with_reducible apply Mod.alloc | refine Mod.set1 ?_ (by first | exact rfl | simp) _ _))⟩
  by_cases a2 : 20 < level
  · have HF : Hid (rightFan level kids = false) := Lib.hid (by unfold rightFan; first | (rw [inR_no (n := level) (by omega)]; rfl) | (rw [inR_no (n := (kids.length : Int)) (by omega)]; simp))
    clear hA
    go_enter Tryz.func45, Tryz.ntmps45
    go_wp2_with fail
    go_ret
    exact ⟨by rw [HF.out]; rfl, by (repeat (first | with_reducible exact Mod.refl _ _ | with_reducible apply Mod.drew | with_reducible apply Mod.drewN | with_reducible apply Mod.alloc | refine Mod.set1 ?_ (by first | exact rfl | simp) _ _))⟩
  by_cases a3 : (kids.length : Int) < 1
  · have HF : Hid (rightFan level kids = false) := Lib.hid (by unfold rightFan; first | (rw [inR_no (n := level) (by omega)]; rfl) | (rw [inR_no (n := (kids.length : Int)) (by omega)]; simp))
    clear hA
    go_enter Tryz.func45, Tryz.ntmps45
    go_wp2_with fail
    go_ret
    exact ⟨by rw [HF.out]; rfl, by (repeat (first | with_reducible exact Mod.refl _ _ | with_reducible apply Mod.drew | with_reducible apply Mod.drewN | with_reducible apply Mod.alloc | refine Mod.set1 ?_ (by first | exact rfl | simp) _ _))⟩
  by_cases a4 : 32 < (kids.length : Int)
  · have HF : Hid (rightFan level kids = false) := Lib.hid (by unfold rightFan; first | (rw [inR_no (n := level) (by omega)]; rfl) | (rw [inR_no (n := (kids.length : Int)) (by omega)]; simp))
    clear hA
    go_enter Tryz.func45, Tryz.ntmps45
    go_wp2_with fail
    go_ret
    exact ⟨by rw [HF.out]; rfl, by (repeat (first | with_reducible exact Mod.refl _ _ | with_reducible apply Mod.drew | with_reducible apply Mod.drewN | with_reducible apply Mod.alloc | refine Mod.set1 ?_ (by first | exact rfl | simp) _ _))⟩
  have hX := Has.new w [.int .i64 level, .slice A kids.length c] 46
  have hM0 := (Mod.refl (fun _ => False) w).alloc (.cells #[.int .i64 level, .slice A kids.length c] 46)
  have HX := Lib.hid hX
  have HA := Lib.hid hA
  have HM0 := Lib.hid hM0
  clear hX hM0 hA
  go_enter Tryz.func45, Tryz.ntmps45
  go_wp2_with fail
  go_loopw [3, 4] (fun s i wr => ∃ (k : Nat) (z : Int), i = .int .i64 k ∧ s = .int .i64 z ∧ k ≤ kids.length ∧ 0 ≤ z ∧ z ≤ 262144 * k ∧ Hid (z = ((kids.take k).map (·.size)).sum) ∧ Hid ((kids.take k).all partOk = true) ∧ Hid (Mod (fun _ => False) w wr) ∧ Hid (Has wr w.heap.size [.int .i64 level, .slice A kids.length c] 46)) (fun _ i _ => kids.length - (intOf i).toNat)
  case atStart => exact ⟨0, 0, by go_num, rfl, by omega, by omega, by omega, Lib.hid rfl, Lib.hid rfl, HM0, HX⟩
  case round =>
    obtain ⟨k, z, rfl, rfl, hk, hz0, hz1, HZ, HO, HM, HX⟩ := hrel
    have x1 := HX.out.cell (o := 1) rfl
    by_cases hlt : k < kids.length
    · have i1 : (k : Int) < (kids.length : Int) := by omega
      have i0 : (0 : Int) ≤ (k : Int) := by omega
      rcases HA.out.keep HM.out (fun _ _ h => h) with h | ⟨ba, o, rfl, hcell⟩
      · have := flat_len pc_len kids; rw [h] at this; simp at this; omega
      have y0 := hcell _ _ (flat_get pc_len kids k 0 hlt (by omega))
      have y1 := hcell _ _ (flat_get pc_len kids k 1 hlt (by omega))
      rw [Nat.add_zero] at y0
      rw [← Nat.add_assoc] at y1
      have hbl : ba < wr.heap.size := World.block_lt_of_cell? wr _ y0
      have ht : ((kids.take (k + 1)).map (·.size)).sum = ((kids.take k).map (·.size)).sum + kids[k].size := by
        rw [List.take_succ_eq_append_getElem hlt, List.map_append, List.sum_append]; simp
      have ho : (kids.take (k + 1)).all partOk = ((kids.take k).all partOk && partOk kids[k]) := by
        rw [List.take_succ_eq_append_getElem hlt, List.all_append]; simp
      rw [← HZ.out] at ht
      rw [HO.out] at ho
      obtain ⟨p, hP⟩ : ∃ p, kids[k] = p := ⟨_, rfl⟩
      rw [hP] at y0 y1 ht ho
      have HT := Lib.hid ht
      have HOO := Lib.hid ho
      have HI := Lib.hid (isId_calls p.id)
      clear hcell ht ho
      by_cases b1 : p.id.size = 32
      · have q1 : decide (p.id.size = 32) = true := by simpa using b1
        rw [q1] at HI
        by_cases b2 : p.size < 1
        · go_wp2_with fail
          refine (HI.out _).mono ?_
          rintro e w1 ⟨rfl, hm1⟩
          have x1 := (HX.out.keep hm1 (fun h => h)).cell (o := 1) rfl
          have y1 := (hm1.cell (p := ⟨ba, o + k * 2 + 1, none⟩) hbl (fun h => h)).trans y1
          have hf : rightFan level kids = false := rightFan_stop (List.getElem_mem hlt) (by rw [hP]; exact partOk_small b2)
          have HF := Lib.hid hf
          have HM2 := Lib.hid (Mod.trans HM.out hm1 (fun _ _ h => h))
          clear hf hm1
          go_wp2_with fail
          go_ret
          exact ⟨by rw [HF.out]; rfl, HM2.out⟩
        · by_cases b3 : 262144 < p.size
          · go_wp2_with fail
            refine (HI.out _).mono ?_
            rintro e w1 ⟨rfl, hm1⟩
            have x1 := (HX.out.keep hm1 (fun h => h)).cell (o := 1) rfl
            have y1 := (hm1.cell (p := ⟨ba, o + k * 2 + 1, none⟩) hbl (fun h => h)).trans y1
            have hf : rightFan level kids = false := rightFan_stop (List.getElem_mem hlt) (by rw [hP]; exact partOk_big b3)
            have HF := Lib.hid hf
            have HM2 := Lib.hid (Mod.trans HM.out hm1 (fun _ _ h => h))
            clear hf hm1
            go_wp2_with fail
            go_ret
            exact ⟨by rw [HF.out]; rfl, HM2.out⟩
          · go_wp2_with fail
            refine (HI.out _).mono ?_
            rintro e w1 ⟨rfl, hm1⟩
            have hx1 := HX.out.keep hm1 (fun h => h)
            have x1 := hx1.cell (o := 1) rfl
            have y1 := (hm1.cell (p := ⟨ba, o + k * 2 + 1, none⟩) hbl (fun h => h)).trans y1
            have HX1 := Lib.hid hx1
            have HM1 := Lib.hid (Mod.trans HM.out hm1 (fun _ _ h => h))
            have hpo : partOk p = true := by simp [partOk, inR, b1]; omega
            have HPO := Lib.hid hpo
            have w1 : IntKind.i64.wrap (z + p.size) = z + p.size := by rw [IntKind.wrap_i64]; omega
            clear hx1 hm1 hpo
            go_wp2_with fail
            go_roundw
            case rel => exact ⟨k + 1, z + p.size, by go_num, rfl, by omega, by omega, by omega, Lib.hid HT.out.symm, Lib.hid (by rw [HOO.out, HPO.out]; rfl), HM1, HX1⟩
            case measure => simp [intOf]; omega
      · have q1 : decide (p.id.size = 32) = false := by simpa using b1
        rw [q1] at HI
        go_wp2_with fail
        refine (HI.out _).mono ?_
        rintro e w1 ⟨rfl, hm1⟩
        have hf : rightFan level kids = false := rightFan_stop (List.getElem_mem hlt) (by rw [hP]; exact partOk_id b1)
        have HF := Lib.hid hf
        have HM2 := Lib.hid (Mod.trans HM.out hm1 (fun _ _ h => h))
        clear hf hm1
        go_wp2_with fail
        go_ret
        exact ⟨by rw [HF.out]; rfl, HM2.out⟩
    · have hkl : k = kids.length := by omega
      have i1 : ¬ (k : Int) < (kids.length : Int) := by omega
      have hz := HZ.out
      have ho := HO.out
      rw [hkl, List.take_length] at hz ho
      have hr : rightFan level kids = decide (z ≤ 262144) := by
        unfold rightFan; rw [ho, ← hz]
        have e1 : inR level 1 20 = true := by simp [inR]; omega
        have e2 : inR (kids.length : Int) 1 32 = true := by simp [inR]; omega
        rw [e1, e2]; rfl
      have HR := Lib.hid hr
      clear hz ho hr
      go_wp2_with fail
      go_ret
      exact ⟨by rw [HR.out]; rfl, HM.out⟩
end Obj
end Go.Proofs.YtenamjldkaggcaaGreatDoor
/- The walks of the reference's Of, put, Chunk. -/
namespace Go.Proofs.YtenamjldkaggcaaGreatDoor
set_option linter.unusedVariables false
set_option linter.unusedSimpArgs false
open Go.RowKit K Wire
namespace Obj
theorem blocks_len (v : Hash.V8) : (v.list.flatMap (Hash.be 4)).length = 32 := by simp [Hash.V8.list, Hash.be_len]
theorem sha_len (l : List UInt8) : (Hash.sha l).length = 32 := blocks_len _
def objW (H : List UInt8) (s : ByteArray) : Value := .agg #[.string ⟨H.toArray⟩, .string s]
set_option maxRecDepth 100000 in
set_option maxHeartbeats 1000000 in
theorem rOf_calls (s : ByteArray) (w : World) (hs : s.size ≤ 1048576) :
    Calls Tryz.prog 9 #[.string s] w fun e w' => e = .returned (.agg #[.string ⟨(Hash.sha s.data.toList).toArray⟩, .string s]) ∧ Mod (fun _ => False) w w' := by
  have hlen : s.data.toList.length = s.size := by simp
  obtain ⟨c1, w1, hE, hM1, hC1, hN1, hx1, hg1, hf1, hrow⟩ := to_bytes s (w.alloc (.cells #[.string ⟨#[]⟩, .string ⟨#[]⟩] 30)) (by unfold maxLen; omega)
  rw [size_alloc] at hE hC1
  have hS := Hash.refSum_calls (w.heap.size + 1) 0 c1 s.data.toList w1 (.inr ⟨_, 0, rfl, fun j u hj => by rw [Nat.zero_add]; exact hC1 j u hj⟩) (by omega)
  rw [hlen] at hS
  have hR := (Has.new w [.string ⟨#[]⟩, .string ⟨#[]⟩] 30).keep hM1 (fun h => h)
  have hm1 := Mod.trans ((Mod.refl (fun _ => False) w).alloc (.cells #[.string ⟨#[]⟩, .string ⟨#[]⟩] 30)) hM1 (fun _ _ h => h)
  have HS := Lib.hid hS
  have HR := Lib.hid hR
  have HM := Lib.hid hm1
  have hshl : (Hash.sha s.data.toList).length = 32 := sha_len _
  generalize Hash.sha s.data.toList = H at *
  clear hS hR hm1 hC1 hM1 hf1 hrow
  go_enter Tryz.func9, Tryz.ntmps9
  go_wp2_with fail
  refine HS.out.mono ?_
  rintro e w2 ⟨v, rfl, ho, hm2⟩
  rw [← hshl] at ho
  obtain ⟨A2, c2, rfl, _, hcl, _, _⟩ := own_cells ho
  have hcv := run_bytes (P := Tryz.prog) c2 hcl 28 9 5 Tryz.underlying28 Tryz.underlying5 Tryz.underlying9
  rw [hshl] at hcv
  have hR2 := HR.out.keep hm2 (fun h => h)
  have z0 := hR2.cell (o := 0) rfl
  have z1 := hR2.cell (o := 1) rfl
  have k0 := hR2.frozen 0
  have k1 := hR2.frozen 1
  have HM2 := Lib.hid (Mod.trans HM.out hm2 (fun _ _ h => h))
  clear ho hcl hR2 hm2
  go_wp2_with fail
  refine bodyPost_ret (v := objW H s) (by simp [results, Tryz.results9, go_sem, objW, z0, z1]) rfl ⟨rfl, ?_⟩
  exact (HM2.out.setCell (p := ⟨w.heap.size, 0, none⟩) (.inr (Nat.le_refl _)) _).setCell (p := ⟨w.heap.size, 1, none⟩) (.inr (Nat.le_refl _)) _

end Obj
end Go.Proofs.YtenamjldkaggcaaGreatDoor
/- The walks of the reference's Chunk, Fan. -/
namespace Go.Proofs.YtenamjldkaggcaaGreatDoor
set_option linter.unusedVariables false
set_option linter.unusedSimpArgs false
open Go.RowKit K Wire
namespace Obj

/-- bytes that were answered, as what an append reads -/
theorem own_news {w : World} {base n : Nat} {v : Value} {l : List UInt8} (h : w.ownsRow base 5 1 v n (bv l)) (hl : 1 ≤ l.length) : ∃ b o c, v = .slice (some ⟨b, o, none⟩) l.length c ∧ ∀ j u, (bv l)[j]? = some u → w.cell? ((⟨b, o, none⟩ : Addr).add j) = some u := by
  have hn : n = l.length := by have := h.1; rw [bv_length] at this; omega
  subst hn
  obtain ⟨A, c, rfl, _, hcl, _, _⟩ := own_cells h
  rcases hcl with h0 | ⟨b, o, rfl, hcell⟩
  · cases l with
    | nil => simp at hl
    | cons a l => simp [bv] at h0
  · exact ⟨b, o, c, rfl, fun j u hj => by rw [Addr.add_lit]; exact hcell j u hj⟩

def fanH (level : Int) (kids : List Part) : List UInt8 := 70 :: (enc level ++ enc (kids.length : Int))
def fanP (level : Int) (kids : List Part) (k : Nat) : List UInt8 := fanH level kids ++ (kids.take k).flatMap partB
end Obj
end Go.Proofs.YtenamjldkaggcaaGreatDoor
