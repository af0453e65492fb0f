/- Joined texts: BlobJ. -/
import Derived.Test.YthgcjfpaekpeeaaDoorJ27
import Derived.OwnWalk
/- The reference's Kept: each id once. -/
namespace Go.Proofs.YthgcjfpaekpeeaaDoor
set_option linter.unusedVariables false
set_option linter.unusedSimpArgs false
open Go.RowKit K Wire Go.Maps
namespace Blob
open Go.Proofs.YthgcjfpaekpeeaaDoor.Obj

set_option maxRecDepth 100000 in
set_option maxHeartbeats 4000000 in
theorem rKept_calls (A : Option Addr) (c : Nat) (objs : List Ob) (w : World) (hA : Cells w A (objs.flatMap oc)) (hn : objs.length ≤ 1000000) :
    Calls Tryd.prog 29 #[.slice none 0 0, .slice A objs.length c] w fun e w' => ∃ v, e = .returned v ∧ w'.ownsRow w.heap.size 60 2 v (keptL objs).length ((keptL objs).flatMap oc) ∧ Mod (fun _ => False) w w' := by
  have HA := Lib.hid hA
  obtain ⟨ht, _, ti, tz, hi, hz, hsize, hby, _⟩ := objs_t
  have TT := Lib.hid (And.intro ht (And.intro hi (And.intro hz (And.intro hsize hby))))
  clear hA ht hi hz hsize hby
  go_enter Tryd.func29, Tryd.ntmps29
  go_wp2_with (first
    | (at_make; refine wpList_make_own _ rfl _ _ 26 rfl w.heap.size 60 ti tz 2 TT.out.1 TT.out.2.1 TT.out.2.2.1 TT.out.2.2.2.1 .i64 .i64 _ objs.length rfl rfl rfl (by rw [TT.out.2.2.2.2]; omega) (by unfold maxLen; omega) (Nat.le_refl _) ?_; intro w1 hown1 hg1)
    | (at_builtin; go_must (refine appG (.tmp 14) (.tmp 15) objs_t w.heap.size (.slice (some ⟨w.heap.size, 0, none⟩) 0 objs.length) 0 [] hown1 none 0 0 [] rfl rfl rfl rfl rfl (.inl rfl) (by simp) (by omega) (by unfold maxLen; omega) hg1.size ?_; intro v2 w2 ho2 hm2 hr2)))
  have hM1 : K.Mod (fun _ => False) w w1 := Mod.grown (Mod.refl _ _) hg1 (fun k hk _ => by cases hk)
  have hM2 : K.Mod (fun _ => False) w w2 := Mod.trans hM1 hm2 (fun i hi h => by simp only [Value.ownBlock] at h; injection h with h; omega)
  have HO2 := Lib.hid ho2
  have HM2 := Lib.hid hM2
  clear hM1 hM2 ho2 hm2 hr2 hown1 hg1
  go_loopw [5, 6] (fun out i wr => ∃ k : Nat, i = .int .i64 k ∧ k ≤ objs.length ∧ Hid (wr.ownsRow w.heap.size 60 2 out (keptL (objs.take k)).length ((keptL (objs.take k)).flatMap oc)) ∧ Hid (Mod (fun _ => False) w wr)) (fun _ i _ => objs.length - (intOf i).toNat)
  case atStart => exact ⟨0, by go_num, by omega, Lib.hid (by simpa [keptL] using HO2.out), HM2⟩
  case round =>
    obtain ⟨k, rfl, hk, HO, HM⟩ := hrel
    by_cases hlt : k < objs.length
    · have i1 : (k : Int) < (objs.length : Int) := by omega
      have i0 : (0 : Int) ≤ (k : Int) := by omega
      have hst : keptL (objs.take (k + 1)) = keepL (keptL (objs.take k)) objs[k] := by
        rw [List.take_succ_eq_append_getElem hlt]; exact keptL_snoc _ _
      have hln := keptL_len (objs.take k)
      rw [List.length_take] at hln
      have hcA := HA.out.keep HM.out (fun _ _ h => h)
      have y0 : ∀ b o, A = some ⟨b, o, none⟩ → wr.cell? ⟨b, o + k * 2, none⟩ = some (.string objs[k].id) ∧ wr.cell? ⟨b, o + k * 2 + 1, none⟩ = some (.string objs[k].bytes) := fun b o hb => by
        rcases hcA with h | ⟨b', o', hb', hc⟩
        · have := flat_len oc_len objs; rw [h] at this; simp at this; omega
        · rw [hb] at hb'
          injection hb' with hb'
          injection hb' with h1 h2
          subst h1; subst h2
          have z0 := hc _ _ (flat_get oc_len objs k 0 hlt (by omega))
          have z1 := hc _ _ (flat_get oc_len objs k 1 hlt (by omega))
          rw [Nat.add_zero] at z0
          rw [← Nat.add_assoc] at z1
          exact ⟨z0, z1⟩
      rcases HA.out with h | ⟨ba, bo, rfl, _⟩
      · have := flat_len oc_len objs; rw [h] at this; simp at this; omega
      obtain ⟨yk0, yk1⟩ := y0 ba bo rfl
      obtain ⟨A5, c5, rfl, _, hcl5, _, _⟩ := own_cells HO.out
      obtain ⟨ob, hob⟩ : ∃ ob, objs[k] = ob := ⟨_, rfl⟩
      rw [hob] at yk0 yk1 hst
      generalize keptL (objs.take k) = l at *
      have HST := Lib.hid hst
      have HC5 := Lib.hid hcl5
      clear hob hst hcA y0 hcl5
      go_wp2_with fail
      go_loopw [7, 8] (fun th i wq => ∃ (j : Nat) (b : Bool), i = .int .i64 j ∧ th = .bool b ∧ j ≤ l.length ∧ Hid (b = (l.take j).any (fun x => decide (x.id = ob.id))) ∧ Hid (Mod (fun _ => False) wr wq)) (fun _ i _ => l.length - (intOf i).toNat)
      case atStart => exact ⟨0, false, by go_num, rfl, by omega, Lib.hid (by simp), Lib.hid (Mod.refl _ _)⟩
      case round =>
        obtain ⟨j, b, rfl, rfl, hj, HB, HMQ⟩ := hrel
        by_cases hjl : j < l.length
        · have j1 : (j : Int) < (l.length : Int) := by omega
          have j0 : (0 : Int) ≤ (j : Int) := by omega
          have hany : (l.take (j + 1)).any (fun x => decide (x.id = ob.id)) = ((l.take j).any (fun x => decide (x.id = ob.id)) || decide (l[j].id = ob.id)) := by
            rw [List.take_succ_eq_append_getElem hjl, List.any_append]; simp
          rw [← HB.out] at hany
          cases b with
          | true =>
            have HAN := Lib.hid hany
            clear hany
            go_wp2_with fail
            refine region_m (by kernel_rfl) ?_
            simp only [List.length_cons, List.length_nil, List.replicate]
            refine take0 (v := ?v1) (oi := ?o1) 0 ?hi1 (by kernel_rfl) (by kernel_rfl) (by kernel_rfl) ?hq1 ?hy1 ?_
            case hi1 => (simp only [List.getElem?_toArray, List.getElem?_cons_zero, List.getElem?_cons_succ]; rfl)
            case hq1 => exact fun _ _ _ h => h
            case hy1 => first | (refine ry_not ?_; rfl) | (refine ry_run (by rfl) (fun w' hw' => ?_); go_simp; try rfl)
            simp only [Act.put, List.setIfInBounds_toArray, List.set_cons_zero, List.set_cons_succ]
            refine take0 (v := ?v2) (oi := ?o2) 1 ?hi2 (by kernel_rfl) (by kernel_rfl) (by kernel_rfl) ?hq2 ?hy2 ?_
            case hi2 => (simp only [List.getElem?_toArray, List.getElem?_cons_zero, List.getElem?_cons_succ]; rfl)
            case hq2 => exact fun _ _ _ h => h
            case hy2 => first | (refine ry_not ?_; rfl) | (refine ry_run (by rfl) (fun w' hw' => ?_); go_simp; try rfl)
            simp only [Act.put, List.setIfInBounds_toArray, List.set_cons_zero, List.set_cons_succ]
            refine take0 (v := ?v3) (oi := ?o3) 2 ?hi3 (by kernel_rfl) (by kernel_rfl) (by kernel_rfl) ?hq3 ?hy3 ?_
            case hi3 => (simp only [List.getElem?_toArray, List.getElem?_cons_zero, List.getElem?_cons_succ]; rfl)
            case hq3 => exact fun _ _ _ h => h
            case hy3 => first | (refine ry_not ?_; rfl) | (refine ry_run (by rfl) (fun w' hw' => ?_); go_simp; try rfl)
            simp only [Act.put, List.setIfInBounds_toArray, List.set_cons_zero, List.set_cons_succ]
            refine take0 (v := ?v4) (oi := ?o4) 3 ?hi4 (by kernel_rfl) (by kernel_rfl) (by kernel_rfl) ?hq4 ?hy4 ?_
            case hi4 => (simp only [List.getElem?_toArray, List.getElem?_cons_zero, List.getElem?_cons_succ]; rfl)
            case hq4 => exact fun _ _ _ h => h
            case hy4 => first | (refine ry_not ?_; rfl) | (refine ry_run (by rfl) (fun w' hw' => ?_); go_simp; try rfl)
            simp only [Act.put, List.setIfInBounds_toArray, List.set_cons_zero, List.set_cons_succ]
            refine take0 (v := ?v5) (oi := ?o5) 4 ?hi5 (by kernel_rfl) (by kernel_rfl) (by kernel_rfl) ?hq5 ?hy5 ?_
            case hi5 => (simp only [List.getElem?_toArray, List.getElem?_cons_zero, List.getElem?_cons_succ]; rfl)
            case hq5 => exact fun _ _ _ h => h
            case hy5 => first | (refine ry_not ?_; rfl) | (refine ry_run (by rfl) (fun w' hw' => ?_); go_simp; try rfl)
            simp only [Act.put, List.setIfInBounds_toArray, List.set_cons_zero, List.set_cons_succ]
            refine take0 (v := ?v6) (oi := ?o6) 5 ?hi6 (by kernel_rfl) (by kernel_rfl) (by kernel_rfl) ?hq6 ?hy6 ?_
            case hi6 => (simp only [List.getElem?_toArray, List.getElem?_cons_zero, List.getElem?_cons_succ]; rfl)
            case hq6 => exact fun _ _ _ h => h
            case hy6 => first | (refine ry_not ?_; rfl) | (refine ry_run (by rfl) (fun w' hw' => ?_); go_simp; try rfl)
            simp only [Act.put, List.setIfInBounds_toArray, List.set_cons_zero, List.set_cons_succ]
            refine take0 (v := ?v7) (oi := ?o7) 6 ?hi7 (by kernel_rfl) (by kernel_rfl) (by kernel_rfl) ?hq7 ?hy7 ?_
            case hi7 => (simp only [List.getElem?_toArray, List.getElem?_cons_zero, List.getElem?_cons_succ]; rfl)
            case hq7 => exact fun _ _ _ h => h
            case hy7 => first | (refine ry_not ?_; rfl) | (refine ry_run (by rfl) (fun w' hw' => ?_); go_simp; try rfl)
            simp only [Act.put, List.setIfInBounds_toArray, List.set_cons_zero, List.set_cons_succ]
            refine take0 (v := ?v8) (oi := ?o8) 7 ?hi8 (by kernel_rfl) (by kernel_rfl) (by kernel_rfl) ?hq8 ?hy8 ?_
            case hi8 => (simp only [List.getElem?_toArray, List.getElem?_cons_zero, List.getElem?_cons_succ]; rfl)
            case hq8 => exact fun _ _ _ h => h
            case hy8 => first | (refine ry_not ?_; rfl) | (refine ry_run (by rfl) (fun w' hw' => ?_); go_simp; try rfl)
            simp only [Act.put, List.setIfInBounds_toArray, List.set_cons_zero, List.set_cons_succ]
            refine take0 (v := ?v9) (oi := ?o9) 8 ?hi9 (by kernel_rfl) (by kernel_rfl) (by kernel_rfl) ?hq9 ?hy9 ?_
            case hi9 => (simp only [List.getElem?_toArray, List.getElem?_cons_zero, List.getElem?_cons_succ]; rfl)
            case hq9 => exact fun _ _ _ h => h
            case hy9 => first | (refine ry_not ?_; rfl) | (refine ry_run (by rfl) (fun w' hw' => ?_); go_simp; try rfl)
            simp only [Act.put, List.setIfInBounds_toArray, List.set_cons_zero, List.set_cons_succ]
            refine take0 (v := ?v10) (oi := ?o10) 9 ?hi10 (by kernel_rfl) (by kernel_rfl) (by kernel_rfl) ?hq10 ?hy10 ?_
            case hi10 => (simp only [List.getElem?_toArray, List.getElem?_cons_zero, List.getElem?_cons_succ]; rfl)
            case hq10 => exact fun _ _ _ h => h
            case hy10 => first | (refine ry_not ?_; rfl) | (refine ry_run (by rfl) (fun w' hw' => ?_); go_simp; try rfl)
            simp only [Act.put, List.setIfInBounds_toArray, List.set_cons_zero, List.set_cons_succ]
            refine take0 (v := ?v11) (oi := ?o11) 10 ?hi11 (by kernel_rfl) (by kernel_rfl) (by kernel_rfl) ?hq11 ?hy11 ?_
            case hi11 => (simp only [List.getElem?_toArray, List.getElem?_cons_zero, List.getElem?_cons_succ]; rfl)
            case hq11 => exact fun _ _ _ h => h
            case hy11 => first | (refine ry_not ?_; rfl) | (refine ry_run (by rfl) (fun w' hw' => ?_); go_simp; try rfl)
            simp only [Act.put, List.setIfInBounds_toArray, List.set_cons_zero, List.set_cons_succ]
            refine take0 (v := ?v12) (oi := ?o12) 11 ?hi12 (by kernel_rfl) (by kernel_rfl) (by kernel_rfl) ?hq12 ?hy12 ?_
            case hi12 => (simp only [List.getElem?_toArray, List.getElem?_cons_zero, List.getElem?_cons_succ]; rfl)
            case hq12 => exact fun _ _ _ h => h
            case hy12 => first | (refine ry_not ?_; rfl) | (refine ry_run (by rfl) (fun w' hw' => ?_); go_simp; try rfl)
            simp only [Act.put, List.setIfInBounds_toArray, List.set_cons_zero, List.set_cons_succ]
            refine take0 (v := ?v13) (oi := ?o13) 12 ?hi13 (by kernel_rfl) (by kernel_rfl) (by kernel_rfl) ?hq13 ?hy13 ?_
            case hi13 => (simp only [List.getElem?_toArray, List.getElem?_cons_zero, List.getElem?_cons_succ]; rfl)
            case hq13 => exact fun _ _ _ h => h
            case hy13 => first | (refine ry_not ?_; rfl) | (refine ry_run (by rfl) (fun w' hw' => ?_); go_simp; try rfl)
            simp only [Act.put, List.setIfInBounds_toArray, List.set_cons_zero, List.set_cons_succ]
            refine take0 (v := ?v14) (oi := ?o14) 13 ?hi14 (by kernel_rfl) (by kernel_rfl) (by kernel_rfl) ?hq14 ?hy14 ?_
            case hi14 => (simp only [List.getElem?_toArray, List.getElem?_cons_zero, List.getElem?_cons_succ]; rfl)
            case hq14 => exact fun _ _ _ h => h
            case hy14 => first | (refine ry_not ?_; rfl) | (refine ry_run (by rfl) (fun w' hw' => ?_); go_simp; try rfl)
            simp only [Act.put, List.setIfInBounds_toArray, List.set_cons_zero, List.set_cons_succ]
            refine take0 (v := ?v15) (oi := ?o15) 14 ?hi15 (by kernel_rfl) (by kernel_rfl) (by kernel_rfl) ?hq15 ?hy15 ?_
            case hi15 => (simp only [List.getElem?_toArray, List.getElem?_cons_zero, List.getElem?_cons_succ]; rfl)
            case hq15 => exact fun _ _ _ h => h
            case hy15 => first | (refine ry_not ?_; rfl) | (refine ry_run (by rfl) (fun w' hw' => ?_); go_simp; try rfl)
            simp only [Act.put, List.setIfInBounds_toArray, List.set_cons_zero, List.set_cons_succ]
            refine wpAnyM_done (by kernel_rfl) ?_
            go_wp2_with fail
            go_roundw
            case rel => exact ⟨j + 1, true, by go_num, rfl, by omega, Lib.hid (by rw [HAN.out]; rfl), Lib.hid (HMQ.out.drew)⟩
            case measure => simp [intOf]; omega
          | false =>
            have hyk := (HMQ.out.cell (p := ⟨ba, bo + k * 2, none⟩) (World.block_lt_of_cell? _ _ yk0) (fun h => h)).trans yk0
            rcases HC5.out.keep HMQ.out (fun _ _ h => h) with h | ⟨bb, b5, rfl, hc⟩
            · have := flat_len oc_len l; rw [h] at this; simp at this; omega
            have z0 := hc _ _ (flat_get oc_len l j 0 hjl (by omega))
            rw [Nat.add_zero] at z0
            obtain ⟨x, hx⟩ : ∃ x, l[j] = x := ⟨_, rfl⟩
            rw [hx] at z0 hany
            have fv0 := fun (w' : World) (mm : Mod0 wr.drew w') => ((Mod.of_drew_l mm).cell (p := ⟨bb, b5 + j * 2, none⟩) (World.block_lt_of_cell? _ _ z0) (fun h => h)).trans z0
            have fv1 := fun (w' : World) (mm : Mod0 wr.drew w') => ((Mod.of_drew_l mm).cell (p := ⟨ba, bo + k * 2, none⟩) (World.block_lt_of_cell? _ _ hyk) (fun h => h)).trans hyk
            have k1 : (k : Int) < (objs.length : Int) := i1
            by_cases he : x.id = ob.id
            · have heq : (x.id.toList == ob.id.toList) = true := (Lib.bytes_beq_iff _ _).2 he
              have HAN : Hid ((l.take (j + 1)).any (fun x => decide (x.id = ob.id)) = true) := Lib.hid (by rw [hany]; simp [he])
              clear hany hx he hc z0 hyk
              go_wp2_with fail
              refine region_m (by kernel_rfl) ?_
              simp only [List.length_cons, List.length_nil, List.replicate]
              refine take0 (v := ?v16) (oi := ?o16) 0 ?hi16 (by kernel_rfl) (by kernel_rfl) (by kernel_rfl) ?hq16 ?hy16 ?_
              case hi16 => (simp only [List.getElem?_toArray, List.getElem?_cons_zero, List.getElem?_cons_succ]; rfl)
              case hq16 => exact fun _ _ _ h => h
              case hy16 => first | (refine ry_not ?_; rfl) | (refine ry_run (by rfl) (fun w' hw' => ?_); go_simp; try rfl)
              simp only [Act.put, List.setIfInBounds_toArray, List.set_cons_zero, List.set_cons_succ]
              refine take0 (v := ?v17) (oi := ?o17) 1 ?hi17 (by kernel_rfl) (by kernel_rfl) (by kernel_rfl) ?hq17 ?hy17 ?_
              case hi17 => (simp only [List.getElem?_toArray, List.getElem?_cons_zero, List.getElem?_cons_succ]; rfl)
              case hq17 => exact fun _ _ _ h => h
              case hy17 => first | (refine ry_not ?_; rfl) | (refine ry_run (by rfl) (fun w' hw' => ?_); go_simp; try rfl)
              simp only [Act.put, List.setIfInBounds_toArray, List.set_cons_zero, List.set_cons_succ]
              refine take0 (v := ?v18) (oi := ?o18) 2 ?hi18 (by kernel_rfl) (by kernel_rfl) (by kernel_rfl) ?hq18 ?hy18 ?_
              case hi18 => (simp only [List.getElem?_toArray, List.getElem?_cons_zero, List.getElem?_cons_succ]; rfl)
              case hq18 => exact fun _ _ _ h => h
              case hy18 => first | (refine ry_not ?_; rfl) | (refine ry_run (by rfl) (fun w' hw' => ?_); go_simp; try rfl)
              simp only [Act.put, List.setIfInBounds_toArray, List.set_cons_zero, List.set_cons_succ]
              refine take0 (v := ?v19) (oi := ?o19) 3 ?hi19 (by kernel_rfl) (by kernel_rfl) (by kernel_rfl) ?hq19 ?hy19 ?_
              case hi19 => (simp only [List.getElem?_toArray, List.getElem?_cons_zero, List.getElem?_cons_succ]; rfl)
              case hq19 => exact fun _ _ _ h => h
              case hy19 => first | (refine ry_not ?_; rfl) | (refine ry_run (by rfl) (fun w' hw' => ?_); go_simp; try rfl)
              simp only [Act.put, List.setIfInBounds_toArray, List.set_cons_zero, List.set_cons_succ]
              refine take0 (v := ?v20) (oi := ?o20) 4 ?hi20 (by kernel_rfl) (by kernel_rfl) (by kernel_rfl) ?hq20 ?hy20 ?_
              case hi20 => (simp only [List.getElem?_toArray, List.getElem?_cons_zero, List.getElem?_cons_succ]; rfl)
              case hq20 => exact fun _ _ _ h => h
              case hy20 => first | (refine ry_not ?_; rfl) | (refine ry_run (by rfl) (fun w' hw' => ?_); go_simp; try rfl)
              simp only [Act.put, List.setIfInBounds_toArray, List.set_cons_zero, List.set_cons_succ]
              refine take0 (v := ?v21) (oi := ?o21) 5 ?hi21 (by kernel_rfl) (by kernel_rfl) (by kernel_rfl) ?hq21 ?hy21 ?_
              case hi21 => (simp only [List.getElem?_toArray, List.getElem?_cons_zero, List.getElem?_cons_succ]; rfl)
              case hq21 => exact fun _ _ _ h => h
              case hy21 => first | (refine ry_not ?_; rfl) | (refine ry_run (by rfl) (fun w' hw' => ?_); go_simp; try rfl)
              simp only [Act.put, List.setIfInBounds_toArray, List.set_cons_zero, List.set_cons_succ]
              refine take0 (v := ?v22) (oi := ?o22) 6 ?hi22 (by kernel_rfl) (by kernel_rfl) (by kernel_rfl) ?hq22 ?hy22 ?_
              case hi22 => (simp only [List.getElem?_toArray, List.getElem?_cons_zero, List.getElem?_cons_succ]; rfl)
              case hq22 => exact fun _ _ _ h => h
              case hy22 => first | (refine ry_not ?_; rfl) | (refine ry_run (by rfl) (fun w' hw' => ?_); go_simp; try rfl)
              simp only [Act.put, List.setIfInBounds_toArray, List.set_cons_zero, List.set_cons_succ]
              refine take0 (v := ?v23) (oi := ?o23) 7 ?hi23 (by kernel_rfl) (by kernel_rfl) (by kernel_rfl) ?hq23 ?hy23 ?_
              case hi23 => (simp only [List.getElem?_toArray, List.getElem?_cons_zero, List.getElem?_cons_succ]; rfl)
              case hq23 => exact fun _ _ _ h => h
              case hy23 => first | (refine ry_not ?_; rfl) | (refine ry_run (by rfl) (fun w' hw' => ?_); go_simp; try rfl)
              simp only [Act.put, List.setIfInBounds_toArray, List.set_cons_zero, List.set_cons_succ]
              refine take0 (v := ?v24) (oi := ?o24) 8 ?hi24 (by kernel_rfl) (by kernel_rfl) (by kernel_rfl) ?hq24 ?hy24 ?_
              case hi24 => (simp only [List.getElem?_toArray, List.getElem?_cons_zero, List.getElem?_cons_succ]; rfl)
              case hq24 => exact fun _ _ _ h => h
              case hy24 => first | (refine ry_not ?_; rfl) | (refine ry_run (by rfl) (fun w' hw' => ?_); go_simp; try rfl)
              simp only [Act.put, List.setIfInBounds_toArray, List.set_cons_zero, List.set_cons_succ]
              refine take0 (v := ?v25) (oi := ?o25) 9 ?hi25 (by kernel_rfl) (by kernel_rfl) (by kernel_rfl) ?hq25 ?hy25 ?_
              case hi25 => (simp only [List.getElem?_toArray, List.getElem?_cons_zero, List.getElem?_cons_succ]; rfl)
              case hq25 => exact fun _ _ _ h => h
              case hy25 => first | (refine ry_not ?_; rfl) | (refine ry_run (by rfl) (fun w' hw' => ?_); go_simp; try rfl)
              simp only [Act.put, List.setIfInBounds_toArray, List.set_cons_zero, List.set_cons_succ]
              refine take0 (v := ?v26) (oi := ?o26) 10 ?hi26 (by kernel_rfl) (by kernel_rfl) (by kernel_rfl) ?hq26 ?hy26 ?_
              case hi26 => (simp only [List.getElem?_toArray, List.getElem?_cons_zero, List.getElem?_cons_succ]; rfl)
              case hq26 => exact fun _ _ _ h => h
              case hy26 => first | (refine ry_not ?_; rfl) | (refine ry_run (by rfl) (fun w' hw' => ?_); go_simp; try rfl)
              simp only [Act.put, List.setIfInBounds_toArray, List.set_cons_zero, List.set_cons_succ]
              refine take0 (v := ?v27) (oi := ?o27) 11 ?hi27 (by kernel_rfl) (by kernel_rfl) (by kernel_rfl) ?hq27 ?hy27 ?_
              case hi27 => (simp only [List.getElem?_toArray, List.getElem?_cons_zero, List.getElem?_cons_succ]; rfl)
              case hq27 => exact fun _ _ _ h => h
              case hy27 => first | (refine ry_not ?_; rfl) | (refine ry_run (by rfl) (fun w' hw' => ?_); go_simp; try rfl)
              simp only [Act.put, List.setIfInBounds_toArray, List.set_cons_zero, List.set_cons_succ]
              refine take0 (v := ?v28) (oi := ?o28) 12 ?hi28 (by kernel_rfl) (by kernel_rfl) (by kernel_rfl) ?hq28 ?hy28 ?_
              case hi28 => (simp only [List.getElem?_toArray, List.getElem?_cons_zero, List.getElem?_cons_succ]; rfl)
              case hq28 => exact fun _ _ _ h => h
              case hy28 => first | (refine ry_not ?_; rfl) | (refine ry_run (by rfl) (fun w' hw' => ?_); go_simp; try rfl)
              simp only [Act.put, List.setIfInBounds_toArray, List.set_cons_zero, List.set_cons_succ]
              refine take0 (v := ?v29) (oi := ?o29) 13 ?hi29 (by kernel_rfl) (by kernel_rfl) (by kernel_rfl) ?hq29 ?hy29 ?_
              case hi29 => (simp only [List.getElem?_toArray, List.getElem?_cons_zero, List.getElem?_cons_succ]; rfl)
              case hq29 => exact fun _ _ _ h => h
              case hy29 => first | (refine ry_not ?_; rfl) | (refine ry_run (by rfl) (fun w' hw' => ?_); go_simp; try rfl)
              simp only [Act.put, List.setIfInBounds_toArray, List.set_cons_zero, List.set_cons_succ]
              refine take0 (v := ?v30) (oi := ?o30) 14 ?hi30 (by kernel_rfl) (by kernel_rfl) (by kernel_rfl) ?hq30 ?hy30 ?_
              case hi30 => (simp only [List.getElem?_toArray, List.getElem?_cons_zero, List.getElem?_cons_succ]; rfl)
              case hq30 => exact fun _ _ _ h => h
              case hy30 => first | (refine ry_not ?_; rfl) | (refine ry_run (by rfl) (fun w' hw' => ?_); go_simp; try rfl)
              simp only [Act.put, List.setIfInBounds_toArray, List.set_cons_zero, List.set_cons_succ]
              refine wpAnyM_done (by kernel_rfl) ?_
              clear fv0 fv1
              go_wp2_with fail
              go_roundw
              case rel => exact ⟨j + 1, true, by go_num, rfl, by omega, Lib.hid HAN.out.symm, Lib.hid (HMQ.out.drew)⟩
              case measure => simp [intOf]; omega
            · have heq : (x.id.toList == ob.id.toList) = false := (Lib.bytes_beq_false_iff _ _).2 he
              have HAN : Hid ((l.take (j + 1)).any (fun x => decide (x.id = ob.id)) = false) := Lib.hid (by rw [hany]; simp [he])
              clear hany hx he hc z0 hyk
              go_wp2_with fail
              refine region_m (by kernel_rfl) ?_
              simp only [List.length_cons, List.length_nil, List.replicate]
              refine take0 (v := ?v31) (oi := ?o31) 0 ?hi31 (by kernel_rfl) (by kernel_rfl) (by kernel_rfl) ?hq31 ?hy31 ?_
              case hi31 => (simp only [List.getElem?_toArray, List.getElem?_cons_zero, List.getElem?_cons_succ]; rfl)
              case hq31 => exact fun _ _ _ h => h
              case hy31 => first | (refine ry_not ?_; rfl) | (refine ry_run (by rfl) (fun w' hw' => ?_); go_simp; try rfl)
              simp only [Act.put, List.setIfInBounds_toArray, List.set_cons_zero, List.set_cons_succ]
              refine take0 (v := ?v32) (oi := ?o32) 1 ?hi32 (by kernel_rfl) (by kernel_rfl) (by kernel_rfl) ?hq32 ?hy32 ?_
              case hi32 => (simp only [List.getElem?_toArray, List.getElem?_cons_zero, List.getElem?_cons_succ]; rfl)
              case hq32 => exact fun _ _ _ h => h
              case hy32 => first | (refine ry_not ?_; rfl) | (refine ry_run (by rfl) (fun w' hw' => ?_); go_simp; try rfl)
              simp only [Act.put, List.setIfInBounds_toArray, List.set_cons_zero, List.set_cons_succ]
              refine take0 (v := ?v33) (oi := ?o33) 2 ?hi33 (by kernel_rfl) (by kernel_rfl) (by kernel_rfl) ?hq33 ?hy33 ?_
              case hi33 => (simp only [List.getElem?_toArray, List.getElem?_cons_zero, List.getElem?_cons_succ]; rfl)
              case hq33 => exact fun _ _ _ h => h
              case hy33 => first | (refine ry_not ?_; rfl) | (refine ry_run (by rfl) (fun w' hw' => ?_); go_simp; try rfl)
              simp only [Act.put, List.setIfInBounds_toArray, List.set_cons_zero, List.set_cons_succ]
              refine take0 (v := ?v34) (oi := ?o34) 3 ?hi34 (by kernel_rfl) (by kernel_rfl) (by kernel_rfl) ?hq34 ?hy34 ?_
              case hi34 => (simp only [List.getElem?_toArray, List.getElem?_cons_zero, List.getElem?_cons_succ]; rfl)
              case hq34 => exact fun _ _ _ h => h
              case hy34 => first | (refine ry_not ?_; rfl) | (refine ry_run (by rfl) (fun w' hw' => ?_); go_simp; try rfl)
              simp only [Act.put, List.setIfInBounds_toArray, List.set_cons_zero, List.set_cons_succ]
              refine take0 (v := ?v35) (oi := ?o35) 4 ?hi35 (by kernel_rfl) (by kernel_rfl) (by kernel_rfl) ?hq35 ?hy35 ?_
              case hi35 => (simp only [List.getElem?_toArray, List.getElem?_cons_zero, List.getElem?_cons_succ]; rfl)
              case hq35 => exact fun _ _ _ h => h
              case hy35 => first | (refine ry_not ?_; rfl) | (refine ry_run (by rfl) (fun w' hw' => ?_); go_simp; try rfl)
              simp only [Act.put, List.setIfInBounds_toArray, List.set_cons_zero, List.set_cons_succ]
              refine take0 (v := ?v36) (oi := ?o36) 5 ?hi36 (by kernel_rfl) (by kernel_rfl) (by kernel_rfl) ?hq36 ?hy36 ?_
              case hi36 => (simp only [List.getElem?_toArray, List.getElem?_cons_zero, List.getElem?_cons_succ]; rfl)
              case hq36 => exact fun _ _ _ h => h
              case hy36 => first | (refine ry_not ?_; rfl) | (refine ry_run (by rfl) (fun w' hw' => ?_); go_simp; try rfl)
              simp only [Act.put, List.setIfInBounds_toArray, List.set_cons_zero, List.set_cons_succ]
              refine take0 (v := ?v37) (oi := ?o37) 6 ?hi37 (by kernel_rfl) (by kernel_rfl) (by kernel_rfl) ?hq37 ?hy37 ?_
              case hi37 => (simp only [List.getElem?_toArray, List.getElem?_cons_zero, List.getElem?_cons_succ]; rfl)
              case hq37 => exact fun _ _ _ h => h
              case hy37 => first | (refine ry_not ?_; rfl) | (refine ry_run (by rfl) (fun w' hw' => ?_); go_simp; try rfl)
              simp only [Act.put, List.setIfInBounds_toArray, List.set_cons_zero, List.set_cons_succ]
              refine take0 (v := ?v38) (oi := ?o38) 7 ?hi38 (by kernel_rfl) (by kernel_rfl) (by kernel_rfl) ?hq38 ?hy38 ?_
              case hi38 => (simp only [List.getElem?_toArray, List.getElem?_cons_zero, List.getElem?_cons_succ]; rfl)
              case hq38 => exact fun _ _ _ h => h
              case hy38 => first | (refine ry_not ?_; rfl) | (refine ry_run (by rfl) (fun w' hw' => ?_); go_simp; try rfl)
              simp only [Act.put, List.setIfInBounds_toArray, List.set_cons_zero, List.set_cons_succ]
              refine take0 (v := ?v39) (oi := ?o39) 8 ?hi39 (by kernel_rfl) (by kernel_rfl) (by kernel_rfl) ?hq39 ?hy39 ?_
              case hi39 => (simp only [List.getElem?_toArray, List.getElem?_cons_zero, List.getElem?_cons_succ]; rfl)
              case hq39 => exact fun _ _ _ h => h
              case hy39 => first | (refine ry_not ?_; rfl) | (refine ry_run (by rfl) (fun w' hw' => ?_); go_simp; try rfl)
              simp only [Act.put, List.setIfInBounds_toArray, List.set_cons_zero, List.set_cons_succ]
              refine take0 (v := ?v40) (oi := ?o40) 9 ?hi40 (by kernel_rfl) (by kernel_rfl) (by kernel_rfl) ?hq40 ?hy40 ?_
              case hi40 => (simp only [List.getElem?_toArray, List.getElem?_cons_zero, List.getElem?_cons_succ]; rfl)
              case hq40 => exact fun _ _ _ h => h
              case hy40 => first | (refine ry_not ?_; rfl) | (refine ry_run (by rfl) (fun w' hw' => ?_); go_simp; try rfl)
              simp only [Act.put, List.setIfInBounds_toArray, List.set_cons_zero, List.set_cons_succ]
              refine take0 (v := ?v41) (oi := ?o41) 10 ?hi41 (by kernel_rfl) (by kernel_rfl) (by kernel_rfl) ?hq41 ?hy41 ?_
              case hi41 => (simp only [List.getElem?_toArray, List.getElem?_cons_zero, List.getElem?_cons_succ]; rfl)
              case hq41 => exact fun _ _ _ h => h
              case hy41 => first | (refine ry_not ?_; rfl) | (refine ry_run (by rfl) (fun w' hw' => ?_); go_simp; try rfl)
              simp only [Act.put, List.setIfInBounds_toArray, List.set_cons_zero, List.set_cons_succ]
              refine take0 (v := ?v42) (oi := ?o42) 11 ?hi42 (by kernel_rfl) (by kernel_rfl) (by kernel_rfl) ?hq42 ?hy42 ?_
              case hi42 => (simp only [List.getElem?_toArray, List.getElem?_cons_zero, List.getElem?_cons_succ]; rfl)
              case hq42 => exact fun _ _ _ h => h
              case hy42 => first | (refine ry_not ?_; rfl) | (refine ry_run (by rfl) (fun w' hw' => ?_); go_simp; try rfl)
              simp only [Act.put, List.setIfInBounds_toArray, List.set_cons_zero, List.set_cons_succ]
              refine take0 (v := ?v43) (oi := ?o43) 12 ?hi43 (by kernel_rfl) (by kernel_rfl) (by kernel_rfl) ?hq43 ?hy43 ?_
              case hi43 => (simp only [List.getElem?_toArray, List.getElem?_cons_zero, List.getElem?_cons_succ]; rfl)
              case hq43 => exact fun _ _ _ h => h
              case hy43 => first | (refine ry_not ?_; rfl) | (refine ry_run (by rfl) (fun w' hw' => ?_); go_simp; try rfl)
              simp only [Act.put, List.setIfInBounds_toArray, List.set_cons_zero, List.set_cons_succ]
              refine take0 (v := ?v44) (oi := ?o44) 13 ?hi44 (by kernel_rfl) (by kernel_rfl) (by kernel_rfl) ?hq44 ?hy44 ?_
              case hi44 => (simp only [List.getElem?_toArray, List.getElem?_cons_zero, List.getElem?_cons_succ]; rfl)
              case hq44 => exact fun _ _ _ h => h
              case hy44 => first | (refine ry_not ?_; rfl) | (refine ry_run (by rfl) (fun w' hw' => ?_); go_simp; try rfl)
              simp only [Act.put, List.setIfInBounds_toArray, List.set_cons_zero, List.set_cons_succ]
              refine take0 (v := ?v45) (oi := ?o45) 14 ?hi45 (by kernel_rfl) (by kernel_rfl) (by kernel_rfl) ?hq45 ?hy45 ?_
              case hi45 => (simp only [List.getElem?_toArray, List.getElem?_cons_zero, List.getElem?_cons_succ]; rfl)
              case hq45 => exact fun _ _ _ h => h
              case hy45 => first | (refine ry_not ?_; rfl) | (refine ry_run (by rfl) (fun w' hw' => ?_); go_simp; try rfl)
              simp only [Act.put, List.setIfInBounds_toArray, List.set_cons_zero, List.set_cons_succ]
              refine wpAnyM_done (by kernel_rfl) ?_
              clear fv0 fv1
              go_wp2_with fail
              go_roundw
              case rel => exact ⟨j + 1, false, by go_num, rfl, by omega, Lib.hid HAN.out.symm, Lib.hid (HMQ.out.drew)⟩
              case measure => simp [intOf]; omega
        · have hjl2 : j = l.length := by omega
          have j1 : ¬ (j : Int) < (l.length : Int) := by omega
          have hb := HB.out
          rw [hjl2, List.take_length] at hb
          have hov := own_keep HO.out HMQ.out (fun _ _ _ h => h)
          have hmv := Mod.trans HM.out HMQ.out (fun _ _ h => h)
          have hyk0 := (HMQ.out.cell (p := ⟨ba, bo + k * 2, none⟩) (World.block_lt_of_cell? _ _ yk0) (fun h => h)).trans yk0
          have hyk1 := (HMQ.out.cell (p := ⟨ba, bo + k * 2 + 1, none⟩) (World.block_lt_of_cell? _ _ yk1) (fun h => h)).trans yk1
          have HOV := Lib.hid hov
          have HMV := Lib.hid hmv
          clear hov hmv hjl2 yk0 yk1
          cases b with
          | true =>
            have hk2 : keptL (objs.take (k + 1)) = l := by rw [HST.out]; unfold keepL; rw [if_pos hb.symm]
            have HK2 := Lib.hid hk2
            clear hb hk2
            go_wp2_with fail
            go_roundw
            case rel => exact ⟨k + 1, by go_num, by omega, Lib.hid (by rw [HK2.out]; exact HOV.out), HMV⟩
            case measure => simp [intOf]; omega
          | false =>
            have hk2 : keptL (objs.take (k + 1)) = l ++ [ob] := by rw [HST.out]; unfold keepL; rw [if_neg (by rw [← hb]; decide)]
            have HK2 := Lib.hid hk2
            have hnew := cells_new wr [.string ob.id, .string ob.bytes] 60
            have hbw : w.heap.size ≤ (wr.alloc (.cells #[.string ob.id, .string ob.bytes] 60)).heap.size := by have := HMV.out.size; simp; omega
            clear hb hk2
            go_wp2_with (first
              | (at_builtin
                 go_must (refine app (.tmp 45) (.tmp 50) objs_t w.heap.size (.slice A5 l.length c5) l.length (l.flatMap oc) (HOV.out.alloc _) ⟨wr.heap.size, 0, none⟩ 1 1 [.string ob.id, .string ob.bytes] rfl rfl rfl rfl rfl hnew (by intro u hu; simp at hu; rcases hu with rfl | rfl <;> rfl) (by omega) (by unfold maxLen; omega) hbw ?_; intro v7 w7 ho7 hm7)
                 have HO7 := Lib.hid ho7
                 have HM7 := Lib.hid (Mod.trans (HMV.out.alloc (.cells #[.string ob.id, .string ob.bytes] 60)) hm7 (fun i hi h => by have := h.1; omega))
                 clear ho7 hm7))
            go_roundw
            case rel => exact ⟨k + 1, by go_num, by omega, Lib.hid (by rw [HK2.out, List.length_append, List.flatMap_append]; simpa [oc] using HO7.out), HM7⟩
            case measure => simp [intOf]; omega
    · have hkl : k = objs.length := by omega
      have i1 : ¬ (k : Int) < (objs.length : Int) := by omega
      have hv := HO.out
      rw [hkl, List.take_length] at hv
      have HV := Lib.hid hv
      clear hv hkl
      go_wp2_with fail
      go_ret
      exact ⟨_, rfl, HV.out, HM.out⟩
end Blob
end Go.Proofs.YthgcjfpaekpeeaaDoor
