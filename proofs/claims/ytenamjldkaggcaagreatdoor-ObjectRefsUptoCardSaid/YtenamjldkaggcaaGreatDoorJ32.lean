/- Joined texts: ObjR5. -/
import Derived.Test.YtenamjldkaggcaaGreatDoorJ31
/- The walk of the reference's Refs. -/
namespace Go.Proofs.YtenamjldkaggcaaGreatDoor
set_option linter.unusedVariables false
set_option linter.unusedSimpArgs false
open Go.RowKit K Wire
namespace Obj

set_option maxRecDepth 100000 in
set_option maxHeartbeats 8000000 in
theorem rRefs_calls (s : ByteArray) (w : World) (hs : s.size ≤ 100000000) : Calls Tryz.prog 6 #[.string s] w (NamesPost (refsL s) (namesL s).2 w) := by
  have p0 := fun h => refsL_of (namesL_chunk s h)
  have p1 := fun h => refsL_of (namesL_fan s h)
  have p2 := fun h => refsL_of (namesL_branch s h)
  have p3 := fun h => refsL_of (namesL_leaf s h)
  have p4 := fun h => refsL_of (namesL_commit s h)
  have p5 := fun h0 h1 h2 h3 h4 => And.intro (refsL_none (namesL_none s h0 h1 h2 h3 h4)) (namesL_none s h0 h1 h2 h3 h4)
  have c0 := fun w1 => refTakeChunk_calls s w1 hs
  have c1 := fun w1 => rTakeFan_calls s w1 hs
  have c2 := fun w1 => rTakeBranch_calls s w1 hs
  have c3 := fun w1 => rTakeLeaf_calls s w1 hs
  have c4 := fun w1 => rTakeCommit_calls s w1 hs
  simp only [← (fans_agree s.data.toList).1, ← (fans_agree s.data.toList).2] at c1
  simp only [← (branches_agree s.data.toList).1, ← (branches_agree s.data.toList).2] at c2
  simp only [← (leaves_agree s.data.toList).1, ← (leaves_agree s.data.toList).2] at c3
  simp only [← (commits_agree s.data.toList).1, ← (commits_agree s.data.toList).2] at c4
  have n1 := outFan_len s.data.toList
  have n2 := outBranch_len s.data.toList
  have n3 := outLeaf_len s.data.toList
  have n4 := outCommit_len s.data.toList
  have hks := outLeaf_sizes s.data.toList
  have z1 : okFan s.data.toList = false → (outFan s.data.toList).2 = [] := fun h => by unfold outFan; rw [h]; rfl
  have z2 : okBranch s.data.toList = false → (outBranch s.data.toList).2 = [] := fun h => by unfold outBranch; rw [h]; rfl
  have z3 : okLeaf s.data.toList = false → outLeaf s.data.toList = [] := fun h => by unfold outLeaf; rw [h]; rfl
  obtain ⟨q0, hq0⟩ : ∃ q, chunkT s = .tuple #[.string q, errV (okChunk s)] := ⟨_, rfl⟩
  simp only [hq0] at c0
  clear hq0 hs
  generalize refsL s = RL at *
  generalize (namesL s).2 = okA at *
  generalize okChunk s = ok0 at *
  generalize s.data.toList = L at *
  generalize outFan L = F1 at *
  generalize okFan L = ok1 at *
  generalize outBranch L = F2 at *
  generalize okBranch L = ok2 at *
  generalize outLeaf L = kids3 at *
  generalize okLeaf L = ok3 at *
  generalize outCommit L = C at *
  generalize okCommit L = ok4 at *
  obtain ⟨l1, kids1⟩ := F1
  obtain ⟨l2, kids2⟩ := F2
  obtain ⟨tree, pars, who, time, note⟩ := C
  unfold comV at c4
  dsimp only at *
  obtain ⟨fe1, hfe1⟩ := errV_ex ok1
  obtain ⟨fe2, hfe2⟩ := errV_ex ok2
  obtain ⟨fe3, hfe3⟩ := errV_ex ok3
  rw [hfe1] at c1
  rw [hfe2] at c2
  rw [hfe3] at c3
  have P0 := Lib.hid p0
  have P1 := Lib.hid p1
  have P2 := Lib.hid p2
  have P3 := Lib.hid p3
  have P4 := Lib.hid p4
  have P5 := Lib.hid p5
  have HC0 := Lib.hid c0
  have HC1 := Lib.hid c1
  have HC2 := Lib.hid c2
  have HC3 := Lib.hid c3
  have HC4 := Lib.hid c4
  have Z1 := Lib.hid z1
  have Z2 := Lib.hid z2
  have Z3 := Lib.hid z3
  have HFE1 := Lib.hid hfe1
  have HFE2 := Lib.hid hfe2
  have HFE3 := Lib.hid hfe3
  have HKS := Lib.hid hks
  clear p0 p1 p2 p3 p4 p5 c0 c1 c2 c3 c4 z1 z2 z3 hfe1 hfe2 hfe3 hks
  go_enter Tryz.func6, Tryz.ntmps6
  go_wp2_with fail
  cases ok0 with
  | true =>
    rw [show errV true = .int .i64 0 from rfl] at HC0
    refine (HC0.out _).mono ?_
    rintro e w1 ⟨rfl, hm⟩
    have HRA := Lib.hid (P0.out rfl)
    have HM1 := Lib.hid hm
    clear hm
    go_wp2_with fail
    refine bodyPost_ret (v := .tuple #[.slice none 0 0, .int .i64 0]) (by simp [results, Tryz.results6, go_sem]) rfl ⟨_, by rw [HRA.out.2]; rfl, by rw [HRA.out.1]; exact World.ownsRow_nil _ _ _ _, HM1.out⟩
  | false =>
    rw [show errV false = .int .i64 81 from rfl] at HC0
    refine (HC0.out _).mono ?_
    rintro e w1 ⟨rfl, hm⟩
    have HMA := Lib.hid hm
    clear hm HC0 P0
    go_wp2_with fail
    refine (HC1.out _).mono ?_
    rintro e wa ⟨v, rfl, ho, hm⟩
    obtain ⟨A1, cp1, rfl, _, hcl, _, _⟩ := own_cells ho
    have hM3 := (Mod.trans HMA.out hm (fun _ _ h => h)).alloc (.cells #[.int .i64 l1, .slice A1 kids1.length cp1] 46)
    have hB3 := Has.new wa [.int .i64 l1, .slice A1 kids1.length cp1] 46
    have hcl3 := hcl.alloc (.cells #[.int .i64 l1, .slice A1 kids1.length cp1] 46)
    obtain ⟨wb, hwb⟩ : ∃ wb, wa.alloc (.cells #[.int .i64 l1, .slice A1 kids1.length cp1] 46) = wb := ⟨_, rfl⟩
    rw [hwb] at hM3 hB3 hcl3
    have HB3 := Lib.hid hB3
    have HM3 := Lib.hid hM3
    have HCL3 := Lib.hid hcl3
    have HWB := Lib.hid hwb
    clear hm ho hcl hM3 hB3 hcl3 hwb HC1 HMA
    go_wp2_with fail
    rw [HWB.out]
    clear HWB
    go_loopw [4, 8] (fun v i wr => ∃ (k : Nat), i = .int .i64 k ∧ k ≤ kids1.length ∧ Hid (wr.ownsRow wb.heap.size 9 1 v (dedup ((kids1.take k).map (·.id))).length ((dedup ((kids1.take k).map (·.id))).map .string)) ∧ Hid (Mod (fun _ => False) wb wr) ∧ Hid (k = 0 → v = .slice none 0 0)) (fun _ i _ => kids1.length - (intOf i).toNat)
    case atStart => exact ⟨0, by go_num, by omega, Lib.hid (World.ownsRow_nil _ _ _ _), Lib.hid (Mod.refl _ _), Lib.hid (fun _ => rfl)⟩
    case round =>
      obtain ⟨k, rfl, hk, HV, HM, HN⟩ := hrel
      have x1 := (HB3.out.keep HM.out (fun h => h)).cell (o := 1) rfl
      by_cases hlt : k < kids1.length
      · have i1 : (k : Int) < (kids1.length : Int) := by omega
        have i0 : (0 : Int) ≤ (k : Int) := by omega
        rcases HCL3.out.keep HM.out (fun _ _ h => h) with h | ⟨ba, o, rfl, hcell⟩
        · have := flat_len pc_len kids1; rw [h] at this; simp at this; omega
        have y0 := hcell _ _ (flat_get pc_len kids1 k 0 hlt (by omega))
        rw [Nat.add_zero] at y0
        have hst : dedup ((kids1.take (k + 1)).map (·.id)) = dd (dedup ((kids1.take k).map (·.id))) kids1[k].id := by
          rw [List.take_succ_eq_append_getElem hlt, List.map_append]; exact dedup_snoc _ _
        have hln := dedup_len' ((kids1.take k).map (·.id))
        rw [List.length_map, List.length_take] at hln
        have hW := with_calls wb.heap.size u4 _ kids1[k].id wr HV.out HM.out.size (by omega)
        generalize kids1[k] = p at *
        generalize dedup ((kids1.take k).map (·.id)) = D at *
        have HW := Lib.hid hW
        have HST := Lib.hid hst
        clear hcell hst hW hln HV HN
        go_wp2_with fail
        refine HW.out.mono ?_
        rintro e w4 ⟨v', rfl, ho, hm⟩
        have HV4 := Lib.hid ho
        have HM4 := Lib.hid (Mod.trans HM.out hm (fun i hi h => by have := h.1; omega))
        clear ho hm HW
        go_wp2_with fail
        go_roundw
        case rel => exact ⟨k + 1, by go_num, by omega, Lib.hid (by rw [HST.out]; exact HV4.out), HM4, Lib.hid (fun h => by omega)⟩
        case measure => simp [intOf]; omega
      · have hkl : k = kids1.length := by omega
        have i1 : ¬ (k : Int) < (kids1.length : Int) := by omega
        cases ok1 with
        | true =>
          obtain rfl : fe1 = 0 := by have := HFE1.out; simp [errV] at this; exact this.symm
          have hv := HV.out
          rw [hkl, List.take_length] at hv
          have HV9 := Lib.hid (own_base hv HM3.out.size)
          have HM9 := Lib.hid (Mod.trans HM3.out HM.out (fun _ _ h => h))
          have HRA := Lib.hid (P1.out rfl)
          clear hv hkl HN
          go_wp2_with fail
          refine bodyPost_ret (v := .tuple #[u4, .int .i64 0]) (by simp [results, Tryz.results6, go_sem]) rfl ⟨u4, by rw [HRA.out.2]; rfl, by rw [HRA.out.1]; exact HV9.out, HM9.out⟩
        | false =>
          obtain rfl : fe1 = 81 := by have := HFE1.out; simp [errV] at this; exact this.symm
          have hkz : kids1 = [] := Z1.out rfl
          have hk0 : k = 0 := by rw [hkl, hkz]; rfl
          obtain rfl : u4 = .slice none 0 0 := HN.out hk0
          have HMA := Lib.hid (Mod.trans HM3.out HM.out (fun _ _ h => h))
          clear HV HN HM HM3 HCL3 HB3 HFE1 Z1 P1 hkz
          clear hkl hk0
          go_wp2_with fail
          refine (HC2.out _).mono ?_
          rintro e wa ⟨v, rfl, ho, hm⟩
          obtain ⟨A2, cp2, rfl, _, hcl, _, _⟩ := own_cells ho
          have hM3 := (Mod.trans HMA.out hm (fun _ _ h => h)).alloc (.cells #[.int .i64 l2, .slice A2 kids2.length cp2] 54)
          have hB3 := Has.new wa [.int .i64 l2, .slice A2 kids2.length cp2] 54
          have hcl3 := hcl.alloc (.cells #[.int .i64 l2, .slice A2 kids2.length cp2] 54)
          obtain ⟨wb, hwb⟩ : ∃ wb, wa.alloc (.cells #[.int .i64 l2, .slice A2 kids2.length cp2] 54) = wb := ⟨_, rfl⟩
          rw [hwb] at hM3 hB3 hcl3
          have HB3 := Lib.hid hB3
          have HM3 := Lib.hid hM3
          have HCL3 := Lib.hid hcl3
          have HWB := Lib.hid hwb
          clear hm ho hcl hM3 hB3 hcl3 hwb HC2 HMA
          go_wp2_with fail
          rw [HWB.out]
          clear HWB
          go_loopw [4, 10] (fun v i wr => ∃ (k : Nat), i = .int .i64 k ∧ k ≤ kids2.length ∧ Hid (wr.ownsRow wb.heap.size 9 1 v (dedup ((kids2.take k).map (·.id))).length ((dedup ((kids2.take k).map (·.id))).map .string)) ∧ Hid (Mod (fun _ => False) wb wr) ∧ Hid (k = 0 → v = .slice none 0 0)) (fun _ i _ => kids2.length - (intOf i).toNat)
          case atStart => exact ⟨0, by go_num, by omega, Lib.hid (World.ownsRow_nil _ _ _ _), Lib.hid (Mod.refl _ _), Lib.hid (fun _ => rfl)⟩
          case round =>
            obtain ⟨k, rfl, hk, HV, HM, HN⟩ := hrel
            have x1 := (HB3.out.keep HM.out (fun h => h)).cell (o := 1) rfl
            by_cases hlt : k < kids2.length
            · have i1 : (k : Int) < (kids2.length : Int) := by omega
              have i0 : (0 : Int) ≤ (k : Int) := by omega
              rcases HCL3.out.keep HM.out (fun _ _ h => h) with h | ⟨ba, o, rfl, hcell⟩
              · have := flat_len lc_len kids2; rw [h] at this; simp at this; omega
              have y0 := hcell _ _ (flat_get lc_len kids2 k 1 hlt (by omega))
              rw [← Nat.add_assoc] at y0
              have hst : dedup ((kids2.take (k + 1)).map (·.id)) = dd (dedup ((kids2.take k).map (·.id))) kids2[k].id := by
                rw [List.take_succ_eq_append_getElem hlt, List.map_append]; exact dedup_snoc _ _
              have hln := dedup_len' ((kids2.take k).map (·.id))
              rw [List.length_map, List.length_take] at hln
              have hW := with_calls wb.heap.size u4 _ kids2[k].id wr HV.out HM.out.size (by omega)
              generalize kids2[k] = p at *
              generalize dedup ((kids2.take k).map (·.id)) = D at *
              have HW := Lib.hid hW
              have HST := Lib.hid hst
              clear hcell hst hW hln HV HN
              go_wp2_with fail
              refine HW.out.mono ?_
              rintro e w4 ⟨v', rfl, ho, hm⟩
              have HV4 := Lib.hid ho
              have HM4 := Lib.hid (Mod.trans HM.out hm (fun i hi h => by have := h.1; omega))
              clear ho hm HW
              go_wp2_with fail
              go_roundw
              case rel => exact ⟨k + 1, by go_num, by omega, Lib.hid (by rw [HST.out]; exact HV4.out), HM4, Lib.hid (fun h => by omega)⟩
              case measure => simp [intOf]; omega
            · have hkl : k = kids2.length := by omega
              have i1 : ¬ (k : Int) < (kids2.length : Int) := by omega
              cases ok2 with
              | true =>
                obtain rfl : fe2 = 0 := by have := HFE2.out; simp [errV] at this; exact this.symm
                have hv := HV.out
                rw [hkl, List.take_length] at hv
                have HV9 := Lib.hid (own_base hv HM3.out.size)
                have HM9 := Lib.hid (Mod.trans HM3.out HM.out (fun _ _ h => h))
                have HRA := Lib.hid (P2.out rfl)
                clear hv hkl HN
                go_wp2_with fail
                refine bodyPost_ret (v := .tuple #[u4, .int .i64 0]) (by simp [results, Tryz.results6, go_sem]) rfl ⟨u4, by rw [HRA.out.2]; rfl, by rw [HRA.out.1]; exact HV9.out, HM9.out⟩
              | false =>
                obtain rfl : fe2 = 81 := by have := HFE2.out; simp [errV] at this; exact this.symm
                have hkz : kids2 = [] := Z2.out rfl
                have hk0 : k = 0 := by rw [hkl, hkz]; rfl
                obtain rfl : u4 = .slice none 0 0 := HN.out hk0
                have HMA := Lib.hid (Mod.trans HM3.out HM.out (fun _ _ h => h))
                clear HV HN HM HM3 HCL3 HB3 HFE2 Z2 P2 hkz
                clear hkl hk0
                go_wp2_with fail
                refine (HC3.out _).mono ?_
                rintro e wb ⟨v, rfl, ho, hm⟩
                obtain ⟨A3, cp3, rfl, _, hcl, _, _⟩ := own_cells ho
                have HM3 := Lib.hid (Mod.trans HMA.out hm (fun _ _ h => h))
                have HCL3 := Lib.hid hcl
                clear hm ho hcl HC3 HMA
                go_wp2_with fail
                go_loopw [4, 12] (fun v i wr => ∃ (k : Nat), i = .int .i64 k ∧ k ≤ kids3.length ∧ Hid (wr.ownsRow wb.heap.size 9 1 v (dedup (entIds (kids3.take k))).length ((dedup (entIds (kids3.take k))).map .string)) ∧ Hid (Mod (fun _ => False) wb wr) ∧ Hid (k = 0 → v = .slice none 0 0)) (fun _ i _ => kids3.length - (intOf i).toNat)
                case atStart => exact ⟨0, by go_num, by omega, Lib.hid (World.ownsRow_nil _ _ _ _), Lib.hid (Mod.refl _ _), Lib.hid (fun _ => rfl)⟩
                case round =>
                  obtain ⟨k, rfl, hk, HV, HM, HN⟩ := hrel
                  by_cases hlt : k < kids3.length
                  · have i1 : (k : Int) < (kids3.length : Int) := by omega
                    have i0 : (0 : Int) ≤ (k : Int) := by omega
                    rcases HCL3.out.keep HM.out (fun _ _ h => h) with h | ⟨ba, o, rfl, hcell⟩
                    · have := flat_len kc_len kids3; rw [h] at this; simp at this; omega
                    have y0 := hcell _ _ (flat_get kc_len kids3 k 0 hlt (by omega))
                    have y1 := hcell _ _ (flat_get kc_len kids3 k 1 hlt (by omega))
                    rw [Nat.add_zero] at y0
                    rw [← Nat.add_assoc] at y1
                    have hst : entIds (kids3.take (k + 1)) = entIds (kids3.take k) ++ (if okEntry kids3[k].key kids3[k].val.data.toList then [(outEntry kids3[k].key kids3[k].val.data.toList).id] else []) := by
                      unfold entIds; rw [List.take_succ_eq_append_getElem hlt, List.flatMap_append]; simp
                    have hln := dedup_len' (entIds (kids3.take k))
                    have hln2 := entIds_len (kids3.take k)
                    rw [List.length_take] at hln2
                    have hsz := HKS.out kids3[k] (List.getElem_mem hlt)
                    generalize kids3[k] = p at *
                    have hT := fun w' => rTakeEntry_calls p.key p.val w' (by omega) (by omega)
                    simp only [← (entries_agree p.key p.val.data.toList).1, ← (entries_agree p.key p.val.data.toList).2] at hT
                    generalize outEntry p.key p.val.data.toList = E at *
                    obtain ⟨name, kind, id, size⟩ := E
                    unfold entC at hT
                    dsimp only at hT hst
                    obtain ⟨ok, hok⟩ : ∃ ok, okEntry p.key p.val.data.toList = ok := ⟨_, rfl⟩
                    rw [hok] at hT hst
                    obtain ⟨fe, hfe⟩ := errV_ex ok
                    rw [hfe] at hT
                    have HFE := Lib.hid hfe
                    have hW := fun wx hv hb => with_calls wb.heap.size u4 (dedup (entIds (kids3.take k))) id wx hv hb (by omega)
                    have hst2 : dedup (entIds (kids3.take (k + 1))) = if ok then dd (dedup (entIds (kids3.take k))) id else dedup (entIds (kids3.take k)) := by
                      rw [hst]
                      cases ok with
                      | true => exact dedup_snoc _ _
                      | false => simp
                    generalize dedup (entIds (kids3.take k)) = D at *
                    have HST := Lib.hid hst2
                    have HT2 := Lib.hid hT
                    have HW := Lib.hid hW
                    have hbl := World.block_lt_of_cell? wr _ y0
                    have fv0 := fun (w' : World) (h : Mod (fun k => wr.heap.size ≤ k) wr.drew w') => (h.cell (p := ⟨ba, o + k * 2, none⟩) hbl (by show ¬ wr.heap.size ≤ ba; exact Nat.not_le.2 hbl)).trans y0
                    have fv1 := fun (w' : World) (h : Mod (fun k => wr.heap.size ≤ k) wr.drew w') => (h.cell (p := ⟨ba, o + k * 2 + 1, none⟩) hbl (by show ¬ wr.heap.size ≤ ba; exact Nat.not_le.2 hbl)).trans y1
                    clear hcell hst hst2 hT hfe hok hW hln hln2 hsz HN
                    go_wp2_with fail
                    refine region_mS (fun k => wr.heap.size ≤ k) (by kernel_rfl) ?_
                    simp only [List.length_cons, List.length_nil, List.replicate]
                    refine take0S (v := ?v1) (oi := ?o1) 0 ?hi1 (by kernel_rfl) (by kernel_rfl) (by kernel_rfl) ?hq1 ?hy1 ?_
                    case hi1 => (simp only [List.getElem?_toArray, List.getElem?_cons_zero, List.getElem?_cons_succ]; rfl)
                    case hq1 => exact fun _ _ _ h => h
                    case hy1 => first | (refine ry_notS ?_; rfl) | (refine ry_runS (by rfl) (fun w' hw' => ?_); go_simp; try rfl)
                    simp only [Act.put, List.setIfInBounds_toArray, List.set_cons_zero, List.set_cons_succ]
                    refine take0S (v := ?v2) (oi := ?o2) 1 ?hi2 (by kernel_rfl) (by kernel_rfl) (by kernel_rfl) ?hq2 ?hy2 ?_
                    case hi2 => (simp only [List.getElem?_toArray, List.getElem?_cons_zero, List.getElem?_cons_succ]; rfl)
                    case hq2 => exact fun _ _ _ h => h
                    case hy2 => first | (refine ry_notS ?_; rfl) | (refine ry_runS (by rfl) (fun w' hw' => ?_); go_simp; try rfl)
                    simp only [Act.put, List.setIfInBounds_toArray, List.set_cons_zero, List.set_cons_succ]
                    refine take0S (v := ?v3) (oi := ?o3) 2 ?hi3 (by kernel_rfl) (by kernel_rfl) (by kernel_rfl) ?hq3 ?hy3 ?_
                    case hi3 => (simp only [List.getElem?_toArray, List.getElem?_cons_zero, List.getElem?_cons_succ]; rfl)
                    case hq3 => exact fun _ _ _ h => h
                    case hy3 => first | (refine ry_notS ?_; rfl) | (refine ry_runS (by rfl) (fun w' hw' => ?_); go_simp; try rfl)
                    simp only [Act.put, List.setIfInBounds_toArray, List.set_cons_zero, List.set_cons_succ]
                    refine take0S (v := ?v4) (oi := ?o4) 3 ?hi4 (by kernel_rfl) (by kernel_rfl) (by kernel_rfl) ?hq4 ?hy4 ?_
                    case hi4 => (simp only [List.getElem?_toArray, List.getElem?_cons_zero, List.getElem?_cons_succ]; rfl)
                    case hq4 => exact fun _ _ _ h => h
                    case hy4 => first | (refine ry_notS ?_; rfl) | (refine ry_runS (by rfl) (fun w' hw' => ?_); go_simp; try rfl)
                    simp only [Act.put, List.setIfInBounds_toArray, List.set_cons_zero, List.set_cons_succ]
                    refine take0S (v := ?v5) (oi := ?o5) 4 ?hi5 (by kernel_rfl) (by kernel_rfl) (by kernel_rfl) ?hq5 ?hy5 ?_
                    case hi5 => (simp only [List.getElem?_toArray, List.getElem?_cons_zero, List.getElem?_cons_succ]; rfl)
                    case hq5 => exact fun _ _ _ h => h
                    case hy5 => first | (refine ry_notS ?_; rfl) | (refine ry_runS (by rfl) (fun w' hw' => ?_); go_simp; try rfl)
                    simp only [Act.put, List.setIfInBounds_toArray, List.set_cons_zero, List.set_cons_succ]
                    refine take0S (v := ?v6) (oi := ?o6) 5 ?hi6 (by kernel_rfl) (by kernel_rfl) (by kernel_rfl) ?hq6 ?hy6 ?_
                    case hi6 => (simp only [List.getElem?_toArray, List.getElem?_cons_zero, List.getElem?_cons_succ]; rfl)
                    case hq6 => exact fun _ _ _ h => h
                    case hy6 => first | (refine ry_notS ?_; rfl) | (refine ry_runS (by rfl) (fun w' hw' => ?_); go_simp; try rfl)
                    simp only [Act.put, List.setIfInBounds_toArray, List.set_cons_zero, List.set_cons_succ]
                    refine take0S (v := ?v7) (oi := ?o7) 6 ?hi7 (by kernel_rfl) (by kernel_rfl) (by kernel_rfl) ?hq7 ?hy7 ?_
                    case hi7 => (simp only [List.getElem?_toArray, List.getElem?_cons_zero, List.getElem?_cons_succ]; rfl)
                    case hq7 => exact fun _ _ _ h => h
                    case hy7 => first | (refine ry_notS ?_; rfl) | (refine ry_runS (by rfl) (fun w' hw' => ?_); go_simp; try rfl)
                    simp only [Act.put, List.setIfInBounds_toArray, List.set_cons_zero, List.set_cons_succ]
                    refine take0S (v := ?v8) (oi := ?o8) 7 ?hi8 (by kernel_rfl) (by kernel_rfl) (by kernel_rfl) ?hq8 ?hy8 ?_
                    case hi8 => (simp only [List.getElem?_toArray, List.getElem?_cons_zero, List.getElem?_cons_succ]; rfl)
                    case hq8 => exact fun _ _ _ h => h
                    case hy8 => first | (refine ry_notS ?_; rfl) | (refine ry_runS (by rfl) (fun w' hw' => ?_); go_simp; try rfl)
                    simp only [Act.put, List.setIfInBounds_toArray, List.set_cons_zero, List.set_cons_succ]
                    refine take0S (v := ?v9) (oi := ?o9) 8 ?hi9 (by kernel_rfl) (by kernel_rfl) (by kernel_rfl) ?hq9 ?hy9 ?_
                    case hi9 => (simp only [List.getElem?_toArray, List.getElem?_cons_zero, List.getElem?_cons_succ]; rfl)
                    case hq9 => exact fun _ _ _ h => h
                    case hy9 => first | (refine ry_notS ?_; rfl) | (refine ry_runS (by rfl) (fun w' hw' => ?_); go_simp; try rfl)
                    simp only [Act.put, List.setIfInBounds_toArray, List.set_cons_zero, List.set_cons_succ]
                    refine take0S (v := ?v10) (oi := ?o10) 9 ?hi10 (by kernel_rfl) (by kernel_rfl) (by kernel_rfl) ?hq10 ?hy10 ?_
                    case hi10 => (simp only [List.getElem?_toArray, List.getElem?_cons_zero, List.getElem?_cons_succ]; rfl)
                    case hq10 => exact fun _ _ _ h => h
                    case hy10 => first | (refine ry_notS ?_; rfl) | (refine ry_runS (by rfl) (fun w' hw' => ?_); go_simp; try rfl)
                    simp only [Act.put, List.setIfInBounds_toArray, List.set_cons_zero, List.set_cons_succ]
                    refine two0S (oi := ?o11) (oj := ?p11) 10 14 (by kernel_rfl) ?hi11 ?hj11 ?hw11 ?hx11 ?way11 ?yaw11
                    case hi11 => (simp only [List.getElem?_toArray, List.getElem?_cons_zero, List.getElem?_cons_succ]; rfl)
                    case hj11 => (simp only [List.getElem?_toArray, List.getElem?_cons_zero, List.getElem?_cons_succ]; rfl)
                    case hw11 => rfl
                    case hx11 => rfl
                    case way11 =>
                      go_simp
                      refine (HT2.out _).mono ?_
                      rintro e w3 ⟨rfl, hm3⟩
                      refine ⟨.inl (hm3.mono fun _ _ h => h.elim), ?_⟩
                      have HMR0 := Lib.hid (Mod.of_drew_l hm3)
                      clear hm3
                      refine take0S (v := ?v12) (oi := ?o12) 11 ?hi12 (by kernel_rfl) (by kernel_rfl) (by kernel_rfl) ?hq12 ?hy12 ?_
                      case hi12 => (simp only [List.getElem?_toArray, List.getElem?_cons_zero, List.getElem?_cons_succ]; rfl)
                      case hq12 => exact fun _ _ _ h => h
                      case hy12 => first | (refine ry_notS ?_; rfl) | (refine ry_runS (by rfl) (fun w' hw' => ?_); go_simp; try rfl)
                      simp only [Act.put, List.setIfInBounds_toArray, List.set_cons_zero, List.set_cons_succ]
                      refine take0S (v := ?v13) (oi := ?o13) 12 ?hi13 (by kernel_rfl) (by kernel_rfl) (by kernel_rfl) ?hq13 ?hy13 ?_
                      case hi13 => (simp only [List.getElem?_toArray, List.getElem?_cons_zero, List.getElem?_cons_succ]; rfl)
                      case hq13 => exact fun _ _ _ h => h
                      case hy13 => first | (refine ry_notS ?_; rfl) | (refine ry_runS (by rfl) (fun w' hw' => ?_); go_simp; try rfl)
                      simp only [Act.put, List.setIfInBounds_toArray, List.set_cons_zero, List.set_cons_succ]
                      refine take0S (v := ?v14) (oi := ?o14) 13 ?hi14 (by kernel_rfl) (by kernel_rfl) (by kernel_rfl) ?hq14 ?hy14 ?_
                      case hi14 => (simp only [List.getElem?_toArray, List.getElem?_cons_zero, List.getElem?_cons_succ]; rfl)
                      case hq14 => exact fun _ _ _ h => h
                      case hy14 => first | (refine ry_notS ?_; rfl) | (refine ry_runS (by rfl) (fun w' hw' => ?_); go_simp; try rfl)
                      simp only [Act.put, List.setIfInBounds_toArray, List.set_cons_zero, List.set_cons_succ]
                      refine step0S (o := ?o15) 14 (by kernel_rfl) ?hi15 ?hw15 ?_
                      case hi15 => (simp only [List.getElem?_toArray, List.getElem?_cons_zero, List.getElem?_cons_succ]; rfl)
                      case hw15 => rfl
                      go_simp
                      refine ⟨.inl (Mod.alloc (Mod.refl _ _) _), ?_⟩
                      have hB := Has.new w3 [.string ⟨#[]⟩, .int .i64 0, .string ⟨#[]⟩, .int .i64 0] 60
                      have k0 := hB.frozen 0
                      have q0 := hB.cell (o := 0) rfl
                      have k1 := hB.frozen 1
                      have q1 := hB.cell (o := 1) rfl
                      have k2 := hB.frozen 2
                      have q2 := hB.cell (o := 2) rfl
                      have k3 := hB.frozen 3
                      have q3 := hB.cell (o := 3) rfl
                      have HG : Hid (wr.heap.size ≤ w3.heap.size) := Lib.hid HMR0.out.size
                      have HMR := Lib.hid (HMR0.out.alloc (.cells #[.string ⟨#[]⟩, .int .i64 0, .string ⟨#[]⟩, .int .i64 0] 60))
                      have HM4 := Lib.hid (Mod.trans HM.out HMR.out (fun _ _ h => h))
                      refine step0S (o := ?o16) 15 (by kernel_rfl) ?hi16 ?hw16 ?_
                      case hi16 => (simp only [List.getElem?_toArray, List.getElem?_cons_zero, List.getElem?_cons_succ]; rfl)
                      case hw16 => rfl
                      go_simp
                      refine ⟨.inl (mod_realloc HG.out), ?_⟩
                      have hB4 := Has.new w3 [.string name, .int .i64 kind, .string id, .int .i64 size] 60
                      have x2 := hB4.cell (o := 2) rfl
                      have hMr := HMR0.out.alloc (.cells #[.string name, .int .i64 kind, .string id, .int .i64 size] 60)
                      have hM5 := Mod.trans HM.out hMr (fun _ _ h => h)
                      have hv5 := own_keep HV.out hMr (fun _ _ _ h => h)
                      have HM5 := Lib.hid hM5
                      have HV5 := Lib.hid hv5
                      clear hM5 hMr hv5 hB4 hB
                      refine take0S (v := ?v17) (oi := ?o17) 16 ?hi17 (by kernel_rfl) (by kernel_rfl) (by kernel_rfl) ?hq17 ?hy17 ?_
                      case hi17 => (simp only [List.getElem?_toArray, List.getElem?_cons_zero, List.getElem?_cons_succ]; rfl)
                      case hq17 => exact fun _ _ _ h => h
                      case hy17 => first | (refine ry_notS ?_; rfl) | (refine ry_runS (by rfl) (fun w' hw' => ?_); go_simp; try rfl)
                      simp only [Act.put, List.setIfInBounds_toArray, List.set_cons_zero, List.set_cons_succ]
                      refine wpAnyM_done (by kernel_rfl) ?_
                      cases ok with
                      | false =>
                        obtain rfl : fe = 81 := by have := HFE.out; simp [errV] at this; exact this.symm
                        go_wp2_with fail
                        go_roundw
                        case rel => exact ⟨k + 1, by go_num, by omega, Lib.hid (by rw [HST.out]; simpa using HV5.out), HM5, Lib.hid (fun h => by omega)⟩
                        case measure => simp [intOf]; omega
                      | true =>
                        obtain rfl : fe = 0 := by have := HFE.out; simp [errV] at this; exact this.symm
                        go_wp2_with fail
                        refine (HW.out _ HV5.out HM5.out.size).mono ?_
                        rintro e w4 ⟨v', rfl, ho, hm⟩
                        have HV6 := Lib.hid ho
                        have HM6 := Lib.hid (Mod.trans HM5.out hm (fun i hi h => by have := h.1; omega))
                        clear ho hm
                        go_wp2_with fail
                        go_roundw
                        case rel => exact ⟨k + 1, by go_num, by omega, Lib.hid (by rw [HST.out]; simpa using HV6.out), HM6, Lib.hid (fun h => by omega)⟩
                        case measure => simp [intOf]; omega
                    case yaw11 =>
                      go_simp
                      refine ⟨.inl (Mod.alloc (Mod.refl _ _) _), ?_⟩
                      refine step0S (o := ?o18) 10 (by kernel_rfl) ?hi18 ?hw18 ?_
                      case hi18 => (simp only [List.getElem?_toArray, List.getElem?_cons_zero, List.getElem?_cons_succ]; rfl)
                      case hw18 => rfl
                      go_simp
                      refine (HT2.out _).mono ?_
                      rintro e w3 ⟨rfl, hm3⟩
                      refine ⟨.inl (hm3.mono fun _ _ h => h.elim), ?_⟩
                      have hB := (Has.new wr.drew [.string ⟨#[]⟩, .int .i64 0, .string ⟨#[]⟩, .int .i64 0] 60).keep hm3 (fun h => h)
                      change Has w3 wr.heap.size _ _ at hB
                      have k0 := hB.frozen 0
                      have q0 := hB.cell (o := 0) rfl
                      have k1 := hB.frozen 1
                      have q1 := hB.cell (o := 1) rfl
                      have k2 := hB.frozen 2
                      have q2 := hB.cell (o := 2) rfl
                      have k3 := hB.frozen 3
                      have q3 := hB.cell (o := 3) rfl
                      have HG : Hid (wr.heap.size ≤ wr.heap.size) := Lib.hid (Nat.le_refl _)
                      have HMR := Lib.hid (Mod.trans ((Mod.refl (fun _ => False) wr).drew.alloc (.cells #[.string ⟨#[]⟩, .int .i64 0, .string ⟨#[]⟩, .int .i64 0] 60)) hm3 (fun _ _ h => h))
                      have HM4 := Lib.hid (Mod.trans HM.out HMR.out (fun _ _ h => h))
                      clear hm3
                      refine take0S (v := ?v19) (oi := ?o19) 11 ?hi19 (by kernel_rfl) (by kernel_rfl) (by kernel_rfl) ?hq19 ?hy19 ?_
                      case hi19 => (simp only [List.getElem?_toArray, List.getElem?_cons_zero, List.getElem?_cons_succ]; rfl)
                      case hq19 => exact fun _ _ _ h => h
                      case hy19 => first | (refine ry_notS ?_; rfl) | (refine ry_runS (by rfl) (fun w' hw' => ?_); go_simp; try rfl)
                      simp only [Act.put, List.setIfInBounds_toArray, List.set_cons_zero, List.set_cons_succ]
                      refine take0S (v := ?v20) (oi := ?o20) 12 ?hi20 (by kernel_rfl) (by kernel_rfl) (by kernel_rfl) ?hq20 ?hy20 ?_
                      case hi20 => (simp only [List.getElem?_toArray, List.getElem?_cons_zero, List.getElem?_cons_succ]; rfl)
                      case hq20 => exact fun _ _ _ h => h
                      case hy20 => first | (refine ry_notS ?_; rfl) | (refine ry_runS (by rfl) (fun w' hw' => ?_); go_simp; try rfl)
                      simp only [Act.put, List.setIfInBounds_toArray, List.set_cons_zero, List.set_cons_succ]
                      refine take0S (v := ?v21) (oi := ?o21) 13 ?hi21 (by kernel_rfl) (by kernel_rfl) (by kernel_rfl) ?hq21 ?hy21 ?_
                      case hi21 => (simp only [List.getElem?_toArray, List.getElem?_cons_zero, List.getElem?_cons_succ]; rfl)
                      case hq21 => exact fun _ _ _ h => h
                      case hy21 => first | (refine ry_notS ?_; rfl) | (refine ry_runS (by rfl) (fun w' hw' => ?_); go_simp; try rfl)
                      simp only [Act.put, List.setIfInBounds_toArray, List.set_cons_zero, List.set_cons_succ]
                      refine step0S (o := ?o22) 15 (by kernel_rfl) ?hi22 ?hw22 ?_
                      case hi22 => (simp only [List.getElem?_toArray, List.getElem?_cons_zero, List.getElem?_cons_succ]; rfl)
                      case hw22 => rfl
                      go_simp
                      refine ⟨.inl (mod_set4 (Mod.refl _ _) (.inl HG.out) _ _ _ _), ?_⟩
                      have hB4 := ((((hB.set 0 (.string name)).set 1 (.int .i64 kind)).set 2 (.string id)).set 3 (.int .i64 size))
                      have x2 := hB4.cell (o := 2) rfl
                      have hM5 := mod_set4 HM4.out (.inr (Nat.le_trans HM.out.size HG.out)) (.string name) (.int .i64 kind) (.string id) (.int .i64 size)
                      have hMr := mod_set4 HMR.out (.inr HG.out) (.string name) (.int .i64 kind) (.string id) (.int .i64 size)
                      have hv5 := own_keep HV.out hMr (fun _ _ _ h => h)
                      have HM5 := Lib.hid hM5
                      have HV5 := Lib.hid hv5
                      clear hM5 hMr hv5 hB4 hB
                      refine take0S (v := ?v23) (oi := ?o23) 16 ?hi23 (by kernel_rfl) (by kernel_rfl) (by kernel_rfl) ?hq23 ?hy23 ?_
                      case hi23 => (simp only [List.getElem?_toArray, List.getElem?_cons_zero, List.getElem?_cons_succ]; rfl)
                      case hq23 => exact fun _ _ _ h => h
                      case hy23 => first | (refine ry_notS ?_; rfl) | (refine ry_runS (by rfl) (fun w' hw' => ?_); go_simp; try rfl)
                      simp only [Act.put, List.setIfInBounds_toArray, List.set_cons_zero, List.set_cons_succ]
                      refine wpAnyM_done (by kernel_rfl) ?_
                      cases ok with
                      | false =>
                        obtain rfl : fe = 81 := by have := HFE.out; simp [errV] at this; exact this.symm
                        go_wp2_with fail
                        go_roundw
                        case rel => exact ⟨k + 1, by go_num, by omega, Lib.hid (by rw [HST.out]; simpa using HV5.out), HM5, Lib.hid (fun h => by omega)⟩
                        case measure => simp [intOf]; omega
                      | true =>
                        obtain rfl : fe = 0 := by have := HFE.out; simp [errV] at this; exact this.symm
                        go_wp2_with fail
                        refine (HW.out _ HV5.out HM5.out.size).mono ?_
                        rintro e w4 ⟨v', rfl, ho, hm⟩
                        have HV6 := Lib.hid ho
                        have HM6 := Lib.hid (Mod.trans HM5.out hm (fun i hi h => by have := h.1; omega))
                        clear ho hm
                        go_wp2_with fail
                        go_roundw
                        case rel => exact ⟨k + 1, by go_num, by omega, Lib.hid (by rw [HST.out]; simpa using HV6.out), HM6, Lib.hid (fun h => by omega)⟩
                        case measure => simp [intOf]; omega
                  · have hkl : k = kids3.length := by omega
                    have i1 : ¬ (k : Int) < (kids3.length : Int) := by omega
                    cases ok3 with
                    | true =>
                      obtain rfl : fe3 = 0 := by have := HFE3.out; simp [errV] at this; exact this.symm
                      have hv := HV.out
                      rw [hkl, List.take_length] at hv
                      have HV9 := Lib.hid (own_base hv HM3.out.size)
                      have HM9 := Lib.hid (Mod.trans HM3.out HM.out (fun _ _ h => h))
                      have HRA := Lib.hid (P3.out rfl)
                      clear hv hkl HN
                      go_wp2_with fail
                      refine bodyPost_ret (v := .tuple #[u4, .int .i64 0]) (by simp [results, Tryz.results6, go_sem]) rfl ⟨u4, by rw [HRA.out.2]; rfl, by rw [HRA.out.1]; exact HV9.out, HM9.out⟩
                    | false =>
                      obtain rfl : fe3 = 81 := by have := HFE3.out; simp [errV] at this; exact this.symm
                      have hkz : kids3 = [] := Z3.out rfl
                      have hk0 : k = 0 := by rw [hkl, hkz]; rfl
                      obtain rfl : u4 = .slice none 0 0 := HN.out hk0
                      have HMA := Lib.hid (Mod.trans HM3.out HM.out (fun _ _ h => h))
                      clear HV HN HM HM3 HCL3 HFE3 Z3 P3 hkz
                      clear hkl hk0
                      go_wp2_with fail
                      cases ok4 with
                      | false =>
                        rw [show errV false = .int .i64 81 from rfl] at HC4
                        refine (HC4.out _).mono ?_
                        rintro e wa ⟨v, rfl, ho, hm⟩
                        obtain ⟨A4, cp4, rfl, _, _, _, _⟩ := own_cells ho
                        have HM9 := Lib.hid ((Mod.trans HMA.out hm (fun _ _ h => h)).alloc (.cells #[.string tree, .slice A4 pars.length cp4, .string who, .int .i64 time, .string note] 64))
                        have HRA := Lib.hid (P5.out (by first | rfl | trivial) (by first | rfl | trivial) (by first | rfl | trivial) (by first | rfl | trivial) (by first | rfl | trivial))
                        clear ho hm
                        go_wp2_with fail
                        refine bodyPost_ret (v := .tuple #[.slice none 0 0, .int .i64 81]) (by simp [results, Tryz.results6, go_sem]) rfl ⟨_, by rw [HRA.out.2]; rfl, by rw [HRA.out.1]; exact World.ownsRow_nil _ _ _ _, HM9.out⟩
                      | true =>
                        rw [show errV true = .int .i64 0 from rfl] at HC4
                        refine (HC4.out _).mono ?_
                        rintro e wa ⟨v, rfl, ho, hm⟩
                        obtain ⟨A4, cp4, rfl, _, hcl, _, _⟩ := own_cells ho
                        have hM3 := (Mod.trans HMA.out hm (fun _ _ h => h)).alloc (.cells #[.string tree, .slice A4 pars.length cp4, .string who, .int .i64 time, .string note] 64)
                        have hB3 := Has.new wa [.string tree, .slice A4 pars.length cp4, .string who, .int .i64 time, .string note] 64
                        have hcl3 := hcl.alloc (.cells #[.string tree, .slice A4 pars.length cp4, .string who, .int .i64 time, .string note] 64)
                        obtain ⟨wb, hwb⟩ : ∃ wb, wa.alloc (.cells #[.string tree, .slice A4 pars.length cp4, .string who, .int .i64 time, .string note] 64) = wb := ⟨_, rfl⟩
                        rw [hwb] at hM3 hB3 hcl3
                        have x0 := hB3.cell (o := 0) rfl
                        rw [← hwb] at x0
                        have hWT := with_calls wb.heap.size (.slice none 0 0) [] tree wb (World.ownsRow_nil _ _ _ _) (Nat.le_refl _) (by simp)
                        have HWT := Lib.hid hWT
                        have HB3 := Lib.hid hB3
                        have HM3 := Lib.hid hM3
                        have HCL3 := Lib.hid hcl3
                        have HWB := Lib.hid hwb
                        have HRA := Lib.hid (P4.out rfl)
                        clear hm ho hcl hM3 hB3 hcl3 HC4 HMA hWT hwb
                        go_wp2_with fail
                        rw [HWB.out]
                        refine HWT.out.mono ?_
                        rintro e w4 ⟨v', rfl, ho, hm⟩
                        have HM4 := Lib.hid (Mod.trans (Mod.refl (fun _ => False) wb) hm (fun i hi h => by have := h.1; omega))
                        have HV4 := Lib.hid ho
                        clear ho hm HWT x0 HWB
                        go_wp2_with fail
                        go_loopw [4, 16] (fun v i wr => ∃ (k : Nat), i = .int .i64 k ∧ k ≤ pars.length ∧ Hid (wr.ownsRow wb.heap.size 9 1 v (dedup (tree :: pars.take k)).length ((dedup (tree :: pars.take k)).map .string)) ∧ Hid (Mod (fun _ => False) wb wr)) (fun _ i _ => pars.length - (intOf i).toNat)
                        case atStart => exact ⟨0, by go_num, by omega, HV4, HM4⟩
                        case round =>
                          obtain ⟨k, rfl, hk, HV, HM⟩ := hrel
                          have x1 := (HB3.out.keep HM.out (fun h => h)).cell (o := 1) rfl
                          by_cases hlt : k < pars.length
                          · have i1 : (k : Int) < (pars.length : Int) := by omega
                            have i0 : (0 : Int) ≤ (k : Int) := by omega
                            rcases HCL3.out.keep HM.out (fun _ _ h => h) with h | ⟨ba, o, rfl, hcell⟩
                            · have : pars = [] := by simpa using h
                              subst this; simp at hlt
                            have y0 := str_cell hcell k hlt
                            have hst : dedup (tree :: pars.take (k + 1)) = dd (dedup (tree :: pars.take k)) pars[k] := by
                              rw [List.take_succ_eq_append_getElem hlt, ← List.cons_append]; exact dedup_snoc _ _
                            have hln := dedup_len' (tree :: pars.take k)
                            rw [List.length_cons, List.length_take] at hln
                            have hW := with_calls wb.heap.size u4 _ pars[k] wr HV.out HM.out.size (by omega)
                            generalize pars[k] = p at *
                            generalize dedup (tree :: pars.take k) = D at *
                            have HW := Lib.hid hW
                            have HST := Lib.hid hst
                            clear hcell hst hW hln HV
                            go_wp2_with fail
                            refine HW.out.mono ?_
                            rintro e w5 ⟨v5, rfl, ho, hm⟩
                            have HV5 := Lib.hid ho
                            have HM5 := Lib.hid (Mod.trans HM.out hm (fun i hi h => by have := h.1; omega))
                            clear ho hm HW
                            go_wp2_with fail
                            go_roundw
                            case rel => exact ⟨k + 1, by go_num, by omega, Lib.hid (by rw [HST.out]; exact HV5.out), HM5⟩
                            case measure => simp [intOf]; omega
                          · have hkl : k = pars.length := by omega
                            have i1 : ¬ (k : Int) < (pars.length : Int) := by omega
                            have hv := HV.out
                            rw [hkl, List.take_length] at hv
                            have HV9 := Lib.hid (own_base hv HM3.out.size)
                            have HM9 := Lib.hid (Mod.trans HM3.out HM.out (fun _ _ h => h))
                            clear hv hkl
                            go_wp2_with fail
                            refine bodyPost_ret (v := .tuple #[u4, .int .i64 0]) (by simp [results, Tryz.results6, go_sem]) rfl ⟨u4, by rw [HRA.out.2]; rfl, by rw [HRA.out.1]; exact HV9.out, HM9.out⟩
end Obj
end Go.Proofs.YtenamjldkaggcaaGreatDoor
