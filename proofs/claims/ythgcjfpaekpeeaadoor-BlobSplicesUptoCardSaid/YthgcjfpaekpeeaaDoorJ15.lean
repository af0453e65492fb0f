/- Joined texts: ObjI, ObjJ, ObjK. -/
import Derived.Test.YthgcjfpaekpeeaaDoorJ14
/- The walks of the reference's Right functions. -/
namespace Go.Proofs.YthgcjfpaekpeeaaDoor
set_option linter.unusedVariables false
set_option linter.unusedSimpArgs false
open Go.RowKit K Wire
namespace Obj

theorem inR_no {n lo hi : Int} (h : n < lo ∨ hi < n) : inR n lo hi = false := by
  unfold inR
  rcases h with h | h
  · rw [decide_eq_false (by omega)]; rfl
  · rw [decide_eq_false (p := n ≤ hi) (by omega)]; simp
theorem partOk_id {p : Part} (h : ¬ p.id.size = 32) : partOk p = false := by unfold partOk; rw [decide_eq_false h]; rfl
theorem partOk_small {p : Part} (h : p.size < 1) : partOk p = false := by unfold partOk; rw [inR_no (.inl h)]; simp
theorem partOk_big {p : Part} (h : 262144 < p.size) : partOk p = false := by unfold partOk; rw [inR_no (.inr h)]; simp
theorem rightFan_stop {level : Int} {kids : List Part} {p : Part} (hp : p ∈ kids) (h : partOk p = false) : rightFan level kids = false := by
  have : kids.all partOk = false := by
    rw [List.all_eq_false]; exact ⟨p, hp, by rw [h]; decide⟩
  unfold rightFan; rw [this]; simp

set_option maxRecDepth 100000 in
set_option maxHeartbeats 1000000 in
theorem rightFan_calls (level : Int) (A : Option Addr) (c : Nat) (kids : List Part) (w : World) (hA : Cells w A (kids.flatMap pc)) (hc : kids.length ≤ 100000000) :
    Calls Tryd.prog 62 #[.agg #[.int .i64 level, .slice A kids.length c]] w fun e w' => e = .returned (.bool (rightFan level kids)) ∧ Mod (fun _ => False) w w' := by
  by_cases a1 : level < 1
  · have HF : Hid (rightFan level kids = false) := Lib.hid (by unfold rightFan; first | (rw [inR_no (n := level) (by omega)]; rfl) | (rw [inR_no (n := (kids.length : Int)) (by omega)]; simp))
    clear hA
    go_enter Tryd.func62, Tryd.ntmps62
    go_wp2_with fail
    go_ret
    exact ⟨by rw [HF.out]; rfl, by (repeat (first | with_reducible exact Mod.refl _ _ | with_reducible apply Mod.drew | with_reducible apply Mod.drewN | with_reducible apply Mod.alloc | refine Mod.set1 ?_ (by first | exact rfl | simp) _ _))⟩
  by_cases a2 : 20 < level
  · have HF : Hid (rightFan level kids = false) := Lib.hid (by unfold rightFan; first | (rw [inR_no (n := level) (by omega)]; rfl) | (rw [inR_no (n := (kids.length : Int)) (by omega)]; simp))
    clear hA
    go_enter Tryd.func62, Tryd.ntmps62
    go_wp2_with fail
    go_ret
    exact ⟨by rw [HF.out]; rfl, by (repeat (first | with_reducible exact Mod.refl _ _ | with_reducible apply Mod.drew | with_reducible apply Mod.drewN | with_reducible apply Mod.alloc | refine Mod.set1 ?_ (by first | exact rfl | simp) _ _))⟩
  by_cases a3 : (kids.length : Int) < 1
  · have HF : Hid (rightFan level kids = false) := Lib.hid (by unfold rightFan; first | (rw [inR_no (n := level) (by omega)]; rfl) | (rw [inR_no (n := (kids.length : Int)) (by omega)]; simp))
    clear hA
    go_enter Tryd.func62, Tryd.ntmps62
    go_wp2_with fail
    go_ret
    exact ⟨by rw [HF.out]; rfl, by (repeat (first | with_reducible exact Mod.refl _ _ | with_reducible apply Mod.drew | with_reducible apply Mod.drewN | with_reducible apply Mod.alloc | refine Mod.set1 ?_ (by first | exact rfl | simp) _ _))⟩
  by_cases a4 : 32 < (kids.length : Int)
  · have HF : Hid (rightFan level kids = false) := Lib.hid (by unfold rightFan; first | (rw [inR_no (n := level) (by omega)]; rfl) | (rw [inR_no (n := (kids.length : Int)) (by omega)]; simp))
    clear hA
    go_enter Tryd.func62, Tryd.ntmps62
    go_wp2_with fail
    go_ret
    exact ⟨by rw [HF.out]; rfl, by (repeat (first | with_reducible exact Mod.refl _ _ | with_reducible apply Mod.drew | with_reducible apply Mod.drewN | with_reducible apply Mod.alloc | refine Mod.set1 ?_ (by first | exact rfl | simp) _ _))⟩
  have hX := Has.new w [.int .i64 level, .slice A kids.length c] 96
  have hM0 := (Mod.refl (fun _ => False) w).alloc (.cells #[.int .i64 level, .slice A kids.length c] 96)
  have HX := Lib.hid hX
  have HA := Lib.hid hA
  have HM0 := Lib.hid hM0
  clear hX hM0 hA
  go_enter Tryd.func62, Tryd.ntmps62
  go_wp2_with fail
  go_loopw [3, 4] (fun s i wr => ∃ (k : Nat) (z : Int), i = .int .i64 k ∧ s = .int .i64 z ∧ k ≤ kids.length ∧ 0 ≤ z ∧ z ≤ 262144 * k ∧ Hid (z = ((kids.take k).map (·.size)).sum) ∧ Hid ((kids.take k).all partOk = true) ∧ Hid (Mod (fun _ => False) w wr) ∧ Hid (Has wr w.heap.size [.int .i64 level, .slice A kids.length c] 96)) (fun _ i _ => kids.length - (intOf i).toNat)
  case atStart => exact ⟨0, 0, by go_num, rfl, by omega, by omega, by omega, Lib.hid rfl, Lib.hid rfl, HM0, HX⟩
  case round =>
    obtain ⟨k, z, rfl, rfl, hk, hz0, hz1, HZ, HO, HM, HX⟩ := hrel
    have x1 := HX.out.cell (o := 1) rfl
    by_cases hlt : k < kids.length
    · have i1 : (k : Int) < (kids.length : Int) := by omega
      have i0 : (0 : Int) ≤ (k : Int) := by omega
      rcases HA.out.keep HM.out (fun _ _ h => h) with h | ⟨ba, o, rfl, hcell⟩
      · have := flat_len pc_len kids; rw [h] at this; simp at this; omega
      have y0 := hcell _ _ (flat_get pc_len kids k 0 hlt (by omega))
      have y1 := hcell _ _ (flat_get pc_len kids k 1 hlt (by omega))
      rw [Nat.add_zero] at y0
      rw [← Nat.add_assoc] at y1
      have hbl : ba < wr.heap.size := World.block_lt_of_cell? wr _ y0
      have ht : ((kids.take (k + 1)).map (·.size)).sum = ((kids.take k).map (·.size)).sum + kids[k].size := by
        rw [List.take_succ_eq_append_getElem hlt, List.map_append, List.sum_append]; simp
      have ho : (kids.take (k + 1)).all partOk = ((kids.take k).all partOk && partOk kids[k]) := by
        rw [List.take_succ_eq_append_getElem hlt, List.all_append]; simp
      rw [← HZ.out] at ht
      rw [HO.out] at ho
      obtain ⟨p, hP⟩ : ∃ p, kids[k] = p := ⟨_, rfl⟩
      rw [hP] at y0 y1 ht ho
      have HT := Lib.hid ht
      have HOO := Lib.hid ho
      have HI := Lib.hid (isId_calls p.id)
      clear hcell ht ho
      by_cases b1 : p.id.size = 32
      · have q1 : decide (p.id.size = 32) = true := by simpa using b1
        rw [q1] at HI
        by_cases b2 : p.size < 1
        · go_wp2_with fail
          refine (HI.out _).mono ?_
          rintro e w1 ⟨rfl, hm1⟩
          have x1 := (HX.out.keep hm1 (fun h => h)).cell (o := 1) rfl
          have y1 := (hm1.cell (p := ⟨ba, o + k * 2 + 1, none⟩) hbl (fun h => h)).trans y1
          have hf : rightFan level kids = false := rightFan_stop (List.getElem_mem hlt) (by rw [hP]; exact partOk_small b2)
          have HF := Lib.hid hf
          have HM2 := Lib.hid (Mod.trans HM.out hm1 (fun _ _ h => h))
          clear hf hm1
          go_wp2_with fail
          go_ret
          exact ⟨by rw [HF.out]; rfl, HM2.out⟩
        · by_cases b3 : 262144 < p.size
          · go_wp2_with fail
            refine (HI.out _).mono ?_
            rintro e w1 ⟨rfl, hm1⟩
            have x1 := (HX.out.keep hm1 (fun h => h)).cell (o := 1) rfl
            have y1 := (hm1.cell (p := ⟨ba, o + k * 2 + 1, none⟩) hbl (fun h => h)).trans y1
            have hf : rightFan level kids = false := rightFan_stop (List.getElem_mem hlt) (by rw [hP]; exact partOk_big b3)
            have HF := Lib.hid hf
            have HM2 := Lib.hid (Mod.trans HM.out hm1 (fun _ _ h => h))
            clear hf hm1
            go_wp2_with fail
            go_ret
            exact ⟨by rw [HF.out]; rfl, HM2.out⟩
          · go_wp2_with fail
            refine (HI.out _).mono ?_
            rintro e w1 ⟨rfl, hm1⟩
            have hx1 := HX.out.keep hm1 (fun h => h)
            have x1 := hx1.cell (o := 1) rfl
            have y1 := (hm1.cell (p := ⟨ba, o + k * 2 + 1, none⟩) hbl (fun h => h)).trans y1
            have HX1 := Lib.hid hx1
            have HM1 := Lib.hid (Mod.trans HM.out hm1 (fun _ _ h => h))
            have hpo : partOk p = true := by simp [partOk, inR, b1]; omega
            have HPO := Lib.hid hpo
            have w1 : IntKind.i64.wrap (z + p.size) = z + p.size := by rw [IntKind.wrap_i64]; omega
            clear hx1 hm1 hpo
            go_wp2_with fail
            go_roundw
            case rel => exact ⟨k + 1, z + p.size, by go_num, rfl, by omega, by omega, by omega, Lib.hid HT.out.symm, Lib.hid (by rw [HOO.out, HPO.out]; rfl), HM1, HX1⟩
            case measure => simp [intOf]; omega
      · have q1 : decide (p.id.size = 32) = false := by simpa using b1
        rw [q1] at HI
        go_wp2_with fail
        refine (HI.out _).mono ?_
        rintro e w1 ⟨rfl, hm1⟩
        have hf : rightFan level kids = false := rightFan_stop (List.getElem_mem hlt) (by rw [hP]; exact partOk_id b1)
        have HF := Lib.hid hf
        have HM2 := Lib.hid (Mod.trans HM.out hm1 (fun _ _ h => h))
        clear hf hm1
        go_wp2_with fail
        go_ret
        exact ⟨by rw [HF.out]; rfl, HM2.out⟩
    · have hkl : k = kids.length := by omega
      have i1 : ¬ (k : Int) < (kids.length : Int) := by omega
      have hz := HZ.out
      have ho := HO.out
      rw [hkl, List.take_length] at hz ho
      have hr : rightFan level kids = decide (z ≤ 262144) := by
        unfold rightFan; rw [ho, ← hz]
        have e1 : inR level 1 20 = true := by simp [inR]; omega
        have e2 : inR (kids.length : Int) 1 32 = true := by simp [inR]; omega
        rw [e1, e2]; rfl
      have HR := Lib.hid hr
      clear hz ho hr
      go_wp2_with fail
      go_ret
      exact ⟨by rw [HR.out]; rfl, HM.out⟩
end Obj
end Go.Proofs.YthgcjfpaekpeeaaDoor
/- The walks of the reference's Of, put, Chunk. -/
namespace Go.Proofs.YthgcjfpaekpeeaaDoor
set_option linter.unusedVariables false
set_option linter.unusedSimpArgs false
open Go.RowKit K Wire
namespace Obj
theorem blocks_len (v : Hash.V8) : (v.list.flatMap (Hash.be 4)).length = 32 := by simp [Hash.V8.list, Hash.be_len]
theorem sha_len (l : List UInt8) : (Hash.sha l).length = 32 := blocks_len _
def objW (H : List UInt8) (s : ByteArray) : Value := .agg #[.string ⟨H.toArray⟩, .string s]
set_option maxRecDepth 100000 in
set_option maxHeartbeats 1000000 in
theorem rOf_calls (s : ByteArray) (w : World) (hs : s.size ≤ 1048576) :
    Calls Tryd.prog 61 #[.string s] w fun e w' => e = .returned (.agg #[.string ⟨(Hash.sha s.data.toList).toArray⟩, .string s]) ∧ Mod (fun _ => False) w w' := by
  have hlen : s.data.toList.length = s.size := by simp
  obtain ⟨c1, w1, hE, hM1, hC1, hN1, hx1, hg1, hf1, hrow⟩ := to_bytes s (w.alloc (.cells #[.string ⟨#[]⟩, .string ⟨#[]⟩] 60)) (by unfold maxLen; omega)
  rw [size_alloc] at hE hC1
  have hS := Hash.refSum_calls (w.heap.size + 1) 0 c1 s.data.toList w1 (.inr ⟨_, 0, rfl, fun j u hj => by rw [Nat.zero_add]; exact hC1 j u hj⟩) (by omega)
  rw [hlen] at hS
  have hR := (Has.new w [.string ⟨#[]⟩, .string ⟨#[]⟩] 60).keep hM1 (fun h => h)
  have hm1 := Mod.trans ((Mod.refl (fun _ => False) w).alloc (.cells #[.string ⟨#[]⟩, .string ⟨#[]⟩] 60)) hM1 (fun _ _ h => h)
  have HS := Lib.hid hS
  have HR := Lib.hid hR
  have HM := Lib.hid hm1
  have hshl : (Hash.sha s.data.toList).length = 32 := sha_len _
  generalize Hash.sha s.data.toList = H at *
  clear hS hR hm1 hC1 hM1 hf1 hrow
  go_enter Tryd.func61, Tryd.ntmps61
  go_wp2_with fail
  refine HS.out.mono ?_
  rintro e w2 ⟨v, rfl, ho, hm2⟩
  rw [← hshl] at ho
  obtain ⟨A2, c2, rfl, _, hcl, _, _⟩ := own_cells ho
  have hcv := run_bytes (P := Tryd.prog) c2 hcl 72 9 5 Tryd.underlying72 Tryd.underlying5 Tryd.underlying9
  rw [hshl] at hcv
  have hR2 := HR.out.keep hm2 (fun h => h)
  have z0 := hR2.cell (o := 0) rfl
  have z1 := hR2.cell (o := 1) rfl
  have k0 := hR2.frozen 0
  have k1 := hR2.frozen 1
  have HM2 := Lib.hid (Mod.trans HM.out hm2 (fun _ _ h => h))
  clear ho hcl hR2 hm2
  go_wp2_with fail
  refine bodyPost_ret (v := objW H s) (by simp [results, Tryd.results61, go_sem, objW, z0, z1]) rfl ⟨rfl, ?_⟩
  exact (HM2.out.setCell (p := ⟨w.heap.size, 0, none⟩) (.inr (Nat.le_refl _)) _).setCell (p := ⟨w.heap.size, 1, none⟩) (.inr (Nat.le_refl _)) _

set_option maxRecDepth 100000 in
set_option maxHeartbeats 1000000 in
theorem put_calls (A : Option Addr) (c : Nat) (l : List UInt8) (ok : Bool) (w : World) (hA : Cells w A (bv l)) (hl : ok = true → l.length ≤ 1048576) :
    Calls Tryd.prog 46 #[.slice A l.length c, .bool ok] w fun e w' => e = .returned (putV l (!ok)) ∧ Mod (fun _ => False) w w' := by
  cases ok with
  | false =>
    clear hl hA
    go_enter Tryd.func46, Tryd.ntmps46
    go_wp2_with fail
    refine bodyPost_ret (v := putV l true) (by simp [results, Tryd.results46, go_sem, putV]) rfl ⟨rfl, ?_⟩
    (repeat (first | with_reducible exact Mod.refl _ _ | with_reducible apply Mod.drew | with_reducible apply Mod.drewN | with_reducible apply Mod.alloc | refine Mod.set1 ?_ (by first | exact rfl | simp) _ _))
  | true =>
    have hl := hl rfl
    have hcv := run_bytes (P := Tryd.prog) c (hA.alloc (.cells #[.string ⟨#[]⟩, .string ⟨#[]⟩] 60)) 72 9 5 Tryd.underlying72 Tryd.underlying5 Tryd.underlying9
    have hO := rOf_calls ⟨l.toArray⟩ (w.alloc (.cells #[.string ⟨#[]⟩, .string ⟨#[]⟩] 60)) hl
    have HO := Lib.hid hO
    clear hO hA hl
    go_enter Tryd.func46, Tryd.ntmps46
    go_wp2_with fail
    refine HO.out.mono ?_
    rintro e w1 ⟨rfl, hm1⟩
    have hO2 := (Has.new w [.string ⟨#[]⟩, .string ⟨#[]⟩] 60).keep hm1 (fun h => h)
    have z0 := hO2.cell (o := 0) rfl
    have z1 := hO2.cell (o := 1) rfl
    have y0 := hO2.frozen 0
    have y1 := hO2.frozen 1
    have HM := Lib.hid (Mod.trans ((Mod.refl (fun _ => False) w).alloc _) hm1 (fun _ _ h => h))
    clear hO2 hm1 HO
    go_wp2_with fail
    refine bodyPost_ret (v := putV l false) (by simp [results, Tryd.results46, go_sem, putV, objV, z0, z1]) rfl ⟨rfl, ?_⟩
    exact (HM.out.setCell (p := ⟨w.heap.size, 0, none⟩) (.inr (Nat.le_refl _)) _).setCell (p := ⟨w.heap.size, 1, none⟩) (.inr (Nat.le_refl _)) _
end Obj
end Go.Proofs.YthgcjfpaekpeeaaDoor
/- The walks of the reference's Chunk, Fan. -/
namespace Go.Proofs.YthgcjfpaekpeeaaDoor
set_option linter.unusedVariables false
set_option linter.unusedSimpArgs false
open Go.RowKit K Wire
namespace Obj

set_option maxRecDepth 100000 in
set_option maxHeartbeats 1000000 in
theorem rChunk_calls (s : ByteArray) (w : World) (hs : s.size ≤ 1048576) :
    Calls Tryd.prog 27 #[.string s] w fun e w' => e = .returned (putV (chunkB s.data.toList) (!decide (s.size ≤ 1024))) ∧ Mod (fun _ => False) w w' := by
  have hslen : s.data.toList.length = s.size := by simp
  have hR := (Has.new w [.string ⟨#[]⟩, .string ⟨#[]⟩] 60).alloc (.cells #[.int .u8 67] 5)
  have hM0 := ((Mod.refl (fun _ => False) w).alloc (.cells #[.string ⟨#[]⟩, .string ⟨#[]⟩] 60)).alloc (.cells #[.int .u8 67] 5)
  have hv := (own_lit (w := w.alloc (.cells #[.string ⟨#[]⟩, .string ⟨#[]⟩] 60)) (n := w.heap.size + 1) (m := 1) (cs := bv [67]) (e := 5) (base := w.heap.size + 1) (size := 1) (by simp) (Nat.le_refl _) (by unfold maxLen; omega) rfl)
  have HV := Lib.hid hv
  have HR := Lib.hid hR
  have HM0 := Lib.hid hM0
  clear hv hR hM0
  by_cases h1 : s.size ≤ 1024
  · have i1 : (s.size : Int) ≤ 1024 := by omega
    have HD := Lib.hid (show decide (s.size ≤ 1024) = true by simpa using h1)
    clear h1
    go_enter Tryd.func27, Tryd.ntmps27
    go_wp2_with (first
      | (at_builtin
         go_must (refine app_str (.tmp 4) (.tmp 5) obj_bytes_t (fun i z hi hz => by cases hi; cases hz; rfl) Tryd.underlying9 (w.heap.size + 1) (.slice (some ⟨w.heap.size + 1, 0, none⟩) 1 1) 1 (bv [67]) HV.out s rfl rfl rfl rfl (by unfold maxLen; omega) (by omega) (by simp only [size_alloc]; omega) ?_; intro v3 w3 ho hm3)
         have hM9 := Mod.trans HM0.out hm3 (fun i hi h => by have := h.1; omega)
         have hR9 := HR.out.keep hm3 (fun h => by have := h.1; omega)
         rw [← bv_append] at ho
         obtain ⟨A2, c2, rfl, _, hcl, _, _⟩ := own_cells ho
         have hP := put_calls A2 c2 (chunkB s.data.toList) (decide (s.size ≤ 1024)) w3 hcl (fun h => by simp at h; simp [chunkB]; omega)
         rw [show (chunkB s.data.toList).length = 1 + s.size by simp [chunkB]; omega] at hP
         have HP := Lib.hid hP
         have HR9 := Lib.hid hR9
         have HM9 := Lib.hid hM9
         clear hP hcl ho hm3 hM9 hR9))
    rw [HD.out] at HP
    refine HP.out.mono ?_
    rintro e w8 ⟨rfl, hm8⟩
    have hr8 := HR9.out.keep hm8 (fun h => h)
    have z0 := hr8.cell (o := 0) rfl
    have z1 := hr8.cell (o := 1) rfl
    have k0 := hr8.frozen 0
    have k1 := hr8.frozen 1
    have HM8 := Lib.hid (Mod.trans HM9.out hm8 (fun _ _ h => h))
    rw [Bool.not_true, putV_f]
    clear hr8 hm8
    go_wp2_with fail
    refine bodyPost_ret (v := putV (chunkB s.data.toList) false) (by simp [results, Tryd.results27, go_sem, putV_f, z0, z1]) rfl ⟨(HD.out ▸ rfl), ?_⟩
    exact (HM8.out.setCell (p := ⟨w.heap.size, 0, none⟩) (.inr (by simp)) _).setCell (p := ⟨w.heap.size, 1, none⟩) (.inr (by simp)) _
  · have i1 : ¬ (s.size : Int) ≤ 1024 := by omega
    have HD := Lib.hid (show decide (s.size ≤ 1024) = false by simpa using h1)
    clear h1
    go_enter Tryd.func27, Tryd.ntmps27
    go_wp2_with (first
      | (at_builtin
         go_must (refine app_str (.tmp 4) (.tmp 5) obj_bytes_t (fun i z hi hz => by cases hi; cases hz; rfl) Tryd.underlying9 (w.heap.size + 1) (.slice (some ⟨w.heap.size + 1, 0, none⟩) 1 1) 1 (bv [67]) HV.out s rfl rfl rfl rfl (by unfold maxLen; omega) (by omega) (by simp only [size_alloc]; omega) ?_; intro v3 w3 ho hm3)
         have hM9 := Mod.trans HM0.out hm3 (fun i hi h => by have := h.1; omega)
         have hR9 := HR.out.keep hm3 (fun h => by have := h.1; omega)
         rw [← bv_append] at ho
         obtain ⟨A2, c2, rfl, _, hcl, _, _⟩ := own_cells ho
         have hP := put_calls A2 c2 (chunkB s.data.toList) (decide (s.size ≤ 1024)) w3 hcl (fun h => by simp at h; simp [chunkB]; omega)
         rw [show (chunkB s.data.toList).length = 1 + s.size by simp [chunkB]; omega] at hP
         have HP := Lib.hid hP
         have HR9 := Lib.hid hR9
         have HM9 := Lib.hid hM9
         clear hP hcl ho hm3 hM9 hR9))
    rw [HD.out] at HP
    refine HP.out.mono ?_
    rintro e w8 ⟨rfl, hm8⟩
    have hr8 := HR9.out.keep hm8 (fun h => h)
    have z0 := hr8.cell (o := 0) rfl
    have z1 := hr8.cell (o := 1) rfl
    have k0 := hr8.frozen 0
    have k1 := hr8.frozen 1
    have HM8 := Lib.hid (Mod.trans HM9.out hm8 (fun _ _ h => h))
    rw [Bool.not_false, putV_t]
    clear hr8 hm8
    go_wp2_with fail
    refine bodyPost_ret (v := putV (chunkB s.data.toList) true) (by simp [results, Tryd.results27, go_sem, putV_t, z0, z1]) rfl ⟨(HD.out ▸ rfl), ?_⟩
    exact (HM8.out.setCell (p := ⟨w.heap.size, 0, none⟩) (.inr (by simp)) _).setCell (p := ⟨w.heap.size, 1, none⟩) (.inr (by simp)) _

/-- bytes that were answered, as what an append reads -/
theorem own_news {w : World} {base n : Nat} {v : Value} {l : List UInt8} (h : w.ownsRow base 5 1 v n (bv l)) (hl : 1 ≤ l.length) : ∃ b o c, v = .slice (some ⟨b, o, none⟩) l.length c ∧ ∀ j u, (bv l)[j]? = some u → w.cell? ((⟨b, o, none⟩ : Addr).add j) = some u := by
  have hn : n = l.length := by have := h.1; rw [bv_length] at this; omega
  subst hn
  obtain ⟨A, c, rfl, _, hcl, _, _⟩ := own_cells h
  rcases hcl with h0 | ⟨b, o, rfl, hcell⟩
  · cases l with
    | nil => simp at hl
    | cons a l => simp [bv] at h0
  · exact ⟨b, o, c, rfl, fun j u hj => by rw [Addr.add_lit]; exact hcell j u hj⟩

set_option maxRecDepth 100000 in
theorem put_false (A : Option Addr) (c : Nat) (l : List UInt8) (n : Nat) (w : World) :
    Calls Tryd.prog 46 #[.slice A n c, .bool false] w fun e w' => e = .returned (putV l (!false)) ∧ Mod (fun _ => False) w w' := by
  go_enter Tryd.func46, Tryd.ntmps46
  go_wp2_with fail
  refine bodyPost_ret (v := putV l true) (by simp [results, Tryd.results46, go_sem, putV]) rfl ⟨rfl, ?_⟩
  (repeat (first | with_reducible exact Mod.refl _ _ | with_reducible apply Mod.drew | with_reducible apply Mod.drewN | with_reducible apply Mod.alloc | refine Mod.set1 ?_ (by first | exact rfl | simp) _ _))

def fanH (level : Int) (kids : List Part) : List UInt8 := 70 :: (enc level ++ enc (kids.length : Int))
def fanP (level : Int) (kids : List Part) (k : Nat) : List UInt8 := fanH level kids ++ (kids.take k).flatMap partB
set_option maxRecDepth 100000 in
set_option maxHeartbeats 2000000 in
theorem rFan_calls (level : Int) (A : Option Addr) (c : Nat) (kids : List Part) (w : World) (hA : Cells w A (kids.flatMap pc)) (hc : kids.length ≤ 100000000) (hlv : In64 level) (hs : ∀ p ∈ kids, In64 p.size) (hl : (fanB level kids).length ≤ 100000000) :
    Calls Tryd.prog 48 #[.agg #[.int .i64 level, .slice A kids.length c]] w fun e w' => e = .returned (putV (fanB level kids) (!rightFan level kids)) ∧ Mod (fun _ => False) w w' := by
  have HL := Lib.hid hl
  have HS := Lib.hid hs
  have HLV := Lib.hid hlv
  have hX := (Has.new w [.int .i64 level, .slice A kids.length c] 96).alloc (.cells #[.string ⟨#[]⟩, .string ⟨#[]⟩] 60)
  have hR := (Has.new (w.alloc (.cells #[.int .i64 level, .slice A kids.length c] 96)) [.string ⟨#[]⟩, .string ⟨#[]⟩] 60)
  have hA0 := (hA.alloc (.cells #[.int .i64 level, .slice A kids.length c] 96)).alloc (.cells #[.string ⟨#[]⟩, .string ⟨#[]⟩] 60)
  have hM0 := ((Mod.refl (fun _ => False) w).alloc (.cells #[.int .i64 level, .slice A kids.length c] 96)).alloc (.cells #[.string ⟨#[]⟩, .string ⟨#[]⟩] 60)
  rw [size_alloc] at hR
  have hx0 := hX.cell (o := 0) rfl
  have hx1 := hX.cell (o := 1) rfl
  have HX := Lib.hid hX
  have HR := Lib.hid hR
  have HA0 := Lib.hid hA0
  have HM0 := Lib.hid hM0
  have hRC := rightFan_calls level A c kids _ hA0 hc
  have HRC := Lib.hid hRC
  clear hl hs hlv hX hR hA0 hM0 hA hRC
  go_enter Tryd.func48, Tryd.ntmps48
  go_wp2_with fail
  refine HRC.out.mono ?_
  rintro e w1 ⟨rfl, hm1⟩
  have hX1 := HX.out.keep hm1 (fun h => h)
  have hR1 := HR.out.keep hm1 (fun h => h)
  have hA1 := HA0.out.keep hm1 (fun _ _ h => h)
  have hsz1 : w.heap.size + 2 ≤ w1.heap.size := by have := hm1.size; simp only [size_alloc] at this; omega
  have hlt0 : w.heap.size < w1.heap.size := by omega
  have hM1 := Mod.trans HM0.out hm1 (fun _ _ h => h)
  have x0 := hX1.cell (o := 0) rfl
  have hv0 := (own_lit (w := w1) (n := w1.heap.size) (m := 1) (cs := bv [70]) (e := 5) (base := w1.heap.size) (size := 1) rfl (Nat.le_refl _) (by unfold maxLen; omega) rfl)
  have HX1 := Lib.hid hX1
  have HR1 := Lib.hid hR1
  have HA1 := Lib.hid hA1
  have HM1 := Lib.hid hM1
  have HV0 := Lib.hid hv0
  have hle := enc_len level HLV.out
  have hkn : In64 (kids.length : Int) := by unfold In64; omega
  have hke := enc_len _ hkn
  clear hX1 hR1 hA1 hM1 hv0 HX HR HA0 HM0 HRC hx0 hx1 hm1
  obtain ⟨ok, hok⟩ : ∃ ok, rightFan level kids = ok := ⟨_, rfl⟩
  rw [hok]
  have HOK := Lib.hid hok
  clear hok
  go_wp2_with fail
  refine (number_calls level _ HLV.out).mono ?_
  rintro e w2 ⟨v2, rfl, ho2, hm2⟩
  obtain ⟨b2, o2, c2, rfl, hn2⟩ := own_news ho2 (enc_pos level)
  have HV2 := Lib.hid (own_keep HV0.out hm2 (fun _ _ _ h => h))
  have HN2 := Lib.hid hn2
  have hM2 : Mod (fun _ => False) w1 w2 := Mod.trans ((Mod.refl (fun _ => False) w1).alloc _) hm2 (fun _ _ h => h)
  have hz2 := hM2.size
  have HM2 := Lib.hid hM2
  clear ho2 hm2 hM2 hn2 HV0
  go_wp2_with (first
    | (at_builtin
       go_must (refine app (.tmp 9) (.tmp 12) obj_bytes_t w1.heap.size (.slice (some ⟨w1.heap.size, 0, none⟩) 1 1) 1 (bv [70]) HV2.out ⟨b2, o2, none⟩ (enc level).length c2 (bv (enc level)) rfl rfl rfl rfl (by simp [bv]) HN2.out (bv_one _) (by omega) (by unfold maxLen; omega) (by omega) ?_; intro v3 w3 ho hm3)
       have hM3 := Mod.trans HM2.out hm3 (fun i hi h => by have := h.1; omega)
       have x1 := (HX1.out.keep hM3 (fun h => h)).cell (o := 1) rfl
       rw [← bv_append] at ho
       have HV3 := Lib.hid ho
       have HM3 := Lib.hid hM3
       clear hm3 hM3 ho))
  refine (number_calls (kids.length : Int) _ hkn).mono ?_
  rintro e w4 ⟨v4, rfl, ho4, hm4⟩
  obtain ⟨b4, o4, c4, rfl, hn4⟩ := own_news ho4 (enc_pos _)
  have HV4 := Lib.hid (own_keep HV3.out hm4 (fun _ _ _ h => h))
  have HN4 := Lib.hid hn4
  have hM4 : Mod (fun _ => False) w1 w4 := Mod.trans HM3.out hm4 (fun _ _ h => h)
  have hz4 := hM4.size
  have HM4 := Lib.hid hM4
  clear ho4 hm4 hM4 hn4 x0 x1
  go_wp2_with (first
    | (at_builtin
       go_must (refine app (.tmp 14) (.tmp 18) obj_bytes_t w1.heap.size v3 (1 + (enc level).length) (bv ([70] ++ enc level)) HV4.out ⟨b4, o4, none⟩ (enc (kids.length : Int)).length c4 (bv (enc (kids.length : Int))) rfl rfl rfl rfl (by simp [bv]) HN4.out (bv_one _) (by omega) (by unfold maxLen; omega) (by omega) ?_; intro v5 w5 ho hm5)
       have hM5 := Mod.trans HM4.out hm5 (fun i hi h => by have := h.1; omega)
       have hv5 : w5.ownsRow w1.heap.size 5 1 v5 (fanP level kids 0).length (bv (fanP level kids 0)) := by
         have e1 : fanP level kids 0 = [70] ++ enc level ++ enc (kids.length : Int) := by simp [fanP, fanH]
         have e2 : (fanP level kids 0).length = 1 + (enc level).length + (enc (kids.length : Int)).length := by rw [e1]; simp; omega
         rw [e2, e1, bv_append]; exact ho
       have HV5 := Lib.hid hv5
       have HM5 := Lib.hid hM5
       clear hm5 hM5 ho hv5))
  have hpre : ∀ k, (fanP level kids k).length ≤ 100000000 := fun k => by
    have h1 := HL.out
    have h2 := flatMap_take partB kids k
    simp only [fanB, fanP, fanH, List.length_append, List.length_cons] at h1 ⊢
    omega
  have hfull : fanP level kids kids.length = fanB level kids := by simp [fanP, fanH, fanB]
  have HP := Lib.hid hpre
  have HFU := Lib.hid hfull
  clear hpre hfull HV4 HV3 HV2 HN2 HN4 HM2 HM3 HM4 hz2 hz4 hle hke
  go_loopw [5, 6] (fun v i wr => ∃ (k : Nat), i = .int .i64 k ∧ k ≤ kids.length ∧ (ok = false → k = 0) ∧ Hid (wr.ownsRow w1.heap.size 5 1 v (fanP level kids k).length (bv (fanP level kids k))) ∧ Hid (Mod (fun _ => False) w1 wr)) (fun _ i _ => kids.length - (intOf i).toNat)
  case atStart => exact ⟨0, by go_num, by omega, fun _ => rfl, HV5, HM5⟩
  case round =>
    obtain ⟨k, rfl, hk, hk0, HV, HM⟩ := hrel
    have x1 := (HX1.out.keep HM.out (fun h => h)).cell (o := 1) rfl
    have hz := HM.out.size
    cases ok with
    | true =>
      by_cases hlt : k < kids.length
      · have i1 : (k : Int) < (kids.length : Int) := by omega
        have i0 : (0 : Int) ≤ (k : Int) := by omega
        rcases HA1.out.keep HM.out (fun _ _ h => h) with h | ⟨ba, o, rfl, hcell⟩
        · have := flat_len pc_len kids; rw [h] at this; simp at this; omega
        have hbl1 : ba < w1.heap.size := by
          rcases HA1.out with h | ⟨ba', o', hb', hcell1⟩
          · have := flat_len pc_len kids; rw [h] at this; simp at this; omega
          · obtain ⟨rfl, rfl⟩ : ba = ba' ∧ o = o' := by simpa using hb'
            exact World.block_lt_of_cell? w1 _ (hcell1 _ _ (flat_get pc_len kids k 0 hlt (by omega)))
        have y0 := hcell _ _ (flat_get pc_len kids k 0 hlt (by omega))
        have y1 := hcell _ _ (flat_get pc_len kids k 1 hlt (by omega))
        rw [Nat.add_zero] at y0
        rw [← Nat.add_assoc] at y1
        have hbl : ba < wr.heap.size := World.block_lt_of_cell? wr _ y0
        have hin := HS.out kids[k] (List.getElem_mem hlt)
        have hst : fanP level kids (k + 1) = fanP level kids k ++ partB kids[k] := by
          simp only [fanP]
          rw [List.take_succ_eq_append_getElem hlt, List.flatMap_append]
          simp
        have hpk := HP.out (k + 1)
        rw [hst] at hpk
        generalize kids[k] = p at *
        have HIN := Lib.hid hin
        have HST := Lib.hid hst
        have hpl : p.id.data.toList.length = p.id.size := by simp
        have hpk2 : (fanP level kids k).length + p.id.size + (enc p.size).length ≤ 100000000 := by
          simp only [partB, List.length_append] at hpk; omega
        generalize fanP level kids k = L at *
        clear hcell hin hst hpk HP
        go_wp2_with (first
          | (at_builtin
             go_must (refine app_str (.tmp 30) (.tmp 36) obj_bytes_t (fun i z hi hz => by cases hi; cases hz; rfl) Tryd.underlying9 w1.heap.size u5 L.length (bv L) HV.out p.id rfl rfl rfl rfl (by unfold maxLen; omega) (by omega) (by omega) ?_; intro v6 w6 ho hm6)
             have hM6 := Mod.trans HM.out hm6 (fun i hi h => by have := h.1; omega)
             have x1 := (HX1.out.keep hM6 (fun h => h)).cell (o := 1) rfl
             have y1 := (hm6.cell (p := ⟨ba, o + k * 2 + 1, none⟩) hbl (fun h => by have := h.1; dsimp only at this; omega)).trans y1
             rw [← bv_append] at ho
             have HV6 := Lib.hid ho
             have HM6 := Lib.hid hM6
             clear hm6 hM6 ho))
        refine (number_calls p.size _ HIN.out).mono ?_
        rintro e w7 ⟨v7, rfl, ho7, hm7⟩
        obtain ⟨b7, o7, c7, rfl, hn7⟩ := own_news ho7 (enc_pos _)
        have HV7 := Lib.hid (own_keep HV6.out hm7 (fun _ _ _ h => h))
        have HN7 := Lib.hid hn7
        have hM7 : Mod (fun _ => False) w1 w7 := Mod.trans HM6.out hm7 (fun _ _ h => h)
        have hz7 := hM7.size
        have HM7 := Lib.hid hM7
        clear ho7 hm7 hM7 hn7 x1 y1
        go_wp2_with (first
          | (at_builtin
             go_must (refine app (.tmp 38) (.tmp 45) obj_bytes_t w1.heap.size v6 (L.length + p.id.size) (bv (L ++ p.id.data.toList)) HV7.out ⟨b7, o7, none⟩ (enc p.size).length c7 (bv (enc p.size)) rfl rfl rfl rfl (by simp [bv]) HN7.out (bv_one _) (by omega) (by unfold maxLen; omega) (by omega) ?_; intro v8 w8 ho hm8)
             have hM8 := Mod.trans HM7.out hm8 (fun i hi h => by have := h.1; omega)
             have hv8 : w8.ownsRow w1.heap.size 5 1 v8 (fanP level kids (k + 1)).length (bv (fanP level kids (k + 1))) := by
               rw [HST.out]
               have e2 : (L ++ partB p).length = L.length + p.id.size + (enc p.size).length := by simp [partB]; omega
               have e3 : L ++ partB p = L ++ p.id.data.toList ++ enc p.size := by simp [partB]
               rw [e2, e3, bv_append]; exact ho
             have HV8 := Lib.hid hv8
             have HM8 := Lib.hid hM8
             clear hm8 hM8 ho hv8))
        go_roundw
        case rel => exact ⟨k + 1, by go_num, by omega, (fun h => by cases h), HV8, HM8⟩
        case measure => simp [intOf]; omega
      · have hkl : k = kids.length := by omega
        have i1 : ¬ (k : Int) < (kids.length : Int) := by omega
        have hv := HV.out
        rw [hkl, HFU.out] at hv
        obtain ⟨A2, c2', rfl, _, hcl, _, _⟩ := own_cells hv
        have hP := put_calls A2 c2' (fanB level kids) true wr hcl (fun _ => fan_len level kids HLV.out HS.out HOK.out)
        have HP9 := Lib.hid hP
        have HR9 := Lib.hid (HR1.out.keep HM.out (fun h => h))
        have HM9 := Lib.hid (Mod.trans HM1.out HM.out (fun _ _ h => h))
        clear hv hcl hP hkl
        go_wp2_with fail
        refine HP9.out.mono ?_
        rintro e w8 ⟨rfl, hm8⟩
        have hr8 := HR9.out.keep hm8 (fun h => h)
        have z0 := hr8.cell (o := 0) rfl
        have z1 := hr8.cell (o := 1) rfl
        have k0 := hr8.frozen 0
        have k1 := hr8.frozen 1
        have HM8 := Lib.hid (Mod.trans HM9.out hm8 (fun _ _ h => h))
        rw [Bool.not_true, putV_f]
        clear hr8 hm8
        go_wp2_with fail
        refine bodyPost_ret (v := putV (fanB level kids) false) (by simp [results, Tryd.results48, go_sem, putV_f, z0, z1]) rfl ⟨(HOK.out ▸ rfl), ?_⟩
        exact (HM8.out.setCell (p := ⟨w.heap.size + 1, 0, none⟩) (.inr (by simp)) _).setCell (p := ⟨w.heap.size + 1, 1, none⟩) (.inr (by simp)) _
    | false =>
      have hk00 := hk0 rfl
      subst hk00
      have hv := HV.out
      have hput : ∀ A2 c2' w', Calls Tryd.prog 46 #[.slice A2 (fanP level kids 0).length c2', .bool false] w' fun e w'' => e = .returned (putV (fanB level kids) (!false)) ∧ Mod (fun _ => False) w' w'' := fun A2 c2' w' => put_false A2 c2' (fanB level kids) _ w'
      obtain ⟨A2, c2', rfl, _, hcl, _, _⟩ := own_cells hv
      have HP9 := Lib.hid (hput A2 c2' wr)
      have HR9 := Lib.hid (HR1.out.keep HM.out (fun h => h))
      have HM9 := Lib.hid (Mod.trans HM1.out HM.out (fun _ _ h => h))
      clear hv hcl hput
      by_cases hlt : 0 < kids.length
      · have i1 : (0 : Int) < (kids.length : Int) := by omega
        go_wp2_with fail
        refine HP9.out.mono ?_
        rintro e w8 ⟨rfl, hm8⟩
        have hr8 := HR9.out.keep hm8 (fun h => h)
        have z0 := hr8.cell (o := 0) rfl
        have z1 := hr8.cell (o := 1) rfl
        have k0 := hr8.frozen 0
        have k1 := hr8.frozen 1
        have HM8 := Lib.hid (Mod.trans HM9.out hm8 (fun _ _ h => h))
        rw [Bool.not_false, putV_t]
        clear hr8 hm8
        go_wp2_with fail
        refine bodyPost_ret (v := putV (fanB level kids) true) (by simp [results, Tryd.results48, go_sem, putV_t, z0, z1]) rfl ⟨(HOK.out ▸ rfl), ?_⟩
        exact (HM8.out.setCell (p := ⟨w.heap.size + 1, 0, none⟩) (.inr (by simp)) _).setCell (p := ⟨w.heap.size + 1, 1, none⟩) (.inr (by simp)) _
      · have i1 : ¬ (0 : Int) < (kids.length : Int) := by omega
        go_wp2_with fail
        refine HP9.out.mono ?_
        rintro e w8 ⟨rfl, hm8⟩
        have hr8 := HR9.out.keep hm8 (fun h => h)
        have z0 := hr8.cell (o := 0) rfl
        have z1 := hr8.cell (o := 1) rfl
        have k0 := hr8.frozen 0
        have k1 := hr8.frozen 1
        have HM8 := Lib.hid (Mod.trans HM9.out hm8 (fun _ _ h => h))
        rw [Bool.not_false, putV_t]
        clear hr8 hm8
        go_wp2_with fail
        refine bodyPost_ret (v := putV (fanB level kids) true) (by simp [results, Tryd.results48, go_sem, putV_t, z0, z1]) rfl ⟨(HOK.out ▸ rfl), ?_⟩
        exact (HM8.out.setCell (p := ⟨w.heap.size + 1, 0, none⟩) (.inr (by simp)) _).setCell (p := ⟨w.heap.size + 1, 1, none⟩) (.inr (by simp)) _
end Obj
end Go.Proofs.YthgcjfpaekpeeaaDoor
