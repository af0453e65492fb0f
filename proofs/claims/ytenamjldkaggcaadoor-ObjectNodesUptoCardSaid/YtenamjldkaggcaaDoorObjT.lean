/- The walks of object's rising. -/
import Derived.Test.YtenamjldkaggcaaDoorObjS
namespace Go.Proofs.YtenamjldkaggcaaDoor
set_option linter.unusedVariables false
set_option linter.unusedSimpArgs false
open Go.RowKit K Wire
namespace Obj

/-- Go's '<' of texts -/
def ltS (a b : ByteArray) : Bool := Go.Op.bytesLess a.toList b.toList
/-- do the first keys rise? -/
def risesN (L : List ByteArray) (n : Nat) : Bool := (List.range n).all fun i => ltS (L.getD i ByteArray.empty) (L.getD (i + 1) ByteArray.empty)
def rises (L : List ByteArray) : Bool := risesN L (L.length - 1)
theorem risesN_succ (L : List ByteArray) (n : Nat) : risesN L (n + 1) = (risesN L n && ltS (L.getD n ByteArray.empty) (L.getD (n + 1) ByteArray.empty)) := by
  unfold risesN; rw [List.range_succ, List.all_append]; simp only [List.all_cons, List.all_nil, Bool.and_true]

set_option maxRecDepth 100000 in
set_option maxHeartbeats 1000000 in
theorem risingP_calls (b T : Nat) (v : Value) (bad : Bool) (rest : List Value) (A : Option Addr) (c : Nat) (l : List Pair) (w : World) (h : Has w b (v :: .bool bad :: rest) T) (hA : Cells w A (l.flatMap kc)) (hAb : ∀ a, A = some a → l ≠ [] → a.block ≠ b) (hc : l.length ≤ 100000000) :
    Calls Tryd.prog 51 #[.pointer (some ⟨b, 0, none⟩), .slice A l.length c, .func (.func 52) #[] #[]] w fun e w' =>
      e = .returned (.tuple #[]) ∧ Has w' b (v :: .bool (bad || !rises (l.map (·.key))) :: rest) T ∧ Mod (fun k => k = b) w w' := by
  have HH := Lib.hid h
  have HA := Lib.hid hA
  have HAB := Lib.hid hAb
  clear h hA hAb
  go_enter Tryd.func51, Tryd.ntmps51
  go_wp2_with fail
  go_loopw [6] (fun i wr => ∃ (j : Nat) (bd : Bool), i = .int .i64 ((j : Int) + 1) ∧ j ≤ l.length - 1 ∧ Hid (bd = (bad || !risesN (l.map (·.key)) j)) ∧ Hid (Has wr b (v :: .bool bd :: rest) T) ∧ Hid (Mod (fun k => k = b) w wr)) (fun i _ => l.length - (intOf i).toNat)
  case atStart => exact ⟨0, bad, by go_num, by omega, Lib.hid (by simp [risesN]), HH, Lib.hid (Mod.refl _ _)⟩
  case round =>
    obtain ⟨j, bd, rfl, hj, HB, HW, HM⟩ := hrel
    by_cases hlt : j + 1 < l.length
    · have i1 : (j : Int) + 1 < (l.length : Int) := by omega
      rcases HA.out.keep HM.out (fun a ha h => HAB.out a ha (fun he => by rw [he] at hlt; simp at hlt) h) with h | ⟨ba, o, rfl, hcell⟩
      · have := flat_len kc_len l; rw [h] at this; simp at this; omega
      have x0 := hcell _ _ (flat_get kc_len l j 0 (by omega) (by omega))
      have x1 := hcell _ _ (flat_get kc_len l j 1 (by omega) (by omega))
      have y0 := hcell _ _ (flat_get kc_len l (j + 1) 0 hlt (by omega))
      have y1 := hcell _ _ (flat_get kc_len l (j + 1) 1 hlt (by omega))
      rw [Nat.add_zero] at x0 y0
      rw [← Nat.add_assoc] at x1 y1
      have hbl : ba < wr.heap.size := World.block_lt_of_cell? wr _ x0
      have hba : ¬ ba = b := fun h => HAB.out _ rfl (fun he => by rw [he] at hlt; simp at hlt) h
      have fx0 := fun (w' : World) (h : Mod (fun k => k = b) wr.drew w') => (h.cell (p := ⟨ba, _, none⟩) hbl (fun h => hba h)).trans x0
      have fx1 := fun (w' : World) (h : Mod (fun k => k = b) wr.drew w') => (h.cell (p := ⟨ba, _, none⟩) hbl (fun h => hba h)).trans x1
      have fy0 := fun (w' : World) (h : Mod (fun k => k = b) wr.drew w') => (h.cell (p := ⟨ba, _, none⟩) hbl (fun h => hba h)).trans y0
      have fy1 := fun (w' : World) (h : Mod (fun k => k = b) wr.drew w') => (h.cell (p := ⟨ba, _, none⟩) hbl (fun h => hba h)).trans y1
      have w1 : IntKind.i64.wrap (j : Int) = (j : Int) := by rw [IntKind.wrap_i64]; omega
      have w2 : IntKind.i64.wrap ((j : Int) + 1) = (j : Int) + 1 := by rw [IntKind.wrap_i64]; omega
      have j0 : (0 : Int) ≤ (j : Int) := by omega
      have j1 : (j : Int) < (l.length : Int) := by omega
      have j2 : (0 : Int) ≤ (j : Int) + 1 := by omega
      have j3 : ((j : Int) + 1).toNat = j + 1 := by omega
      have hsn := risesN_succ (l.map (·.key)) j
      have g1 : (l.map (·.key)).getD j ByteArray.empty = l[j].key := by simp [List.getD, show j < l.length by omega]
      have g2 : (l.map (·.key)).getD (j + 1) ByteArray.empty = l[j + 1].key := by simp [List.getD, hlt]
      rw [g1, g2] at hsn
      clear g1 g2
      generalize l[j] = p at *
      generalize l[j + 1] = q at *
      obtain ⟨lt, hlts⟩ : ∃ lt, ltS p.key q.key = lt := ⟨_, rfl⟩
      rw [hlts] at hsn
      have hlts2 : Go.Op.bytesLess p.key.toList q.key.toList = lt := hlts
      have HSN := Lib.hid hsn
      have HP := Lib.hid (keyOf_calls p)
      have HQ := Lib.hid (keyOf_calls q)
      have HAK := Lib.hid (fun wx (hx : Has wx b (v :: .bool bd :: rest) T) => ask_calls b T v bd lt rest wx hx)
      clear hcell hsn hlts
      go_wp2_with fail
      refine region_mS (fun k => k = b) (by kernel_rfl) ?_
      simp only [List.length_cons, List.length_nil, List.replicate]
      refine take0S (v := ?v1) (oi := ?o1) 0 ?hi1 (by kernel_rfl) (by kernel_rfl) (by kernel_rfl) ?hq1 ?hy1 ?_
      case hi1 => (simp only [List.getElem?_toArray, List.getElem?_cons_zero, List.getElem?_cons_succ]; rfl)
      case hq1 => exact fun _ _ _ h => h
      case hy1 => first | (refine ry_notS ?_; rfl) | (refine ry_runS (by rfl) (fun w' hw' => ?_); go_simp; try rfl)
      simp only [Act.put, List.setIfInBounds_toArray, List.set_cons_zero, List.set_cons_succ]
      refine take0S (v := ?v2) (oi := ?o2) 1 ?hi2 (by kernel_rfl) (by kernel_rfl) (by kernel_rfl) ?hq2 ?hy2 ?_
      case hi2 => (simp only [List.getElem?_toArray, List.getElem?_cons_zero, List.getElem?_cons_succ]; rfl)
      case hq2 => exact fun _ _ _ h => h
      case hy2 => first | (refine ry_notS ?_; rfl) | (refine ry_runS (by rfl) (fun w' hw' => ?_); go_simp; try rfl)
      simp only [Act.put, List.setIfInBounds_toArray, List.set_cons_zero, List.set_cons_succ]
      refine take0S (v := ?v3) (oi := ?o3) 2 ?hi3 (by kernel_rfl) (by kernel_rfl) (by kernel_rfl) ?hq3 ?hy3 ?_
      case hi3 => (simp only [List.getElem?_toArray, List.getElem?_cons_zero, List.getElem?_cons_succ]; rfl)
      case hq3 => exact fun _ _ _ h => h
      case hy3 => first | (refine ry_notS ?_; rfl) | (refine ry_runS (by rfl) (fun w' hw' => ?_); go_simp; try rfl)
      simp only [Act.put, List.setIfInBounds_toArray, List.set_cons_zero, List.set_cons_succ]
      refine take0S (v := ?v4) (oi := ?o4) 3 ?hi4 (by kernel_rfl) (by kernel_rfl) (by kernel_rfl) ?hq4 ?hy4 ?_
      case hi4 => (simp only [List.getElem?_toArray, List.getElem?_cons_zero, List.getElem?_cons_succ]; rfl)
      case hq4 => exact fun _ _ _ h => h
      case hy4 => first | (refine ry_notS ?_; rfl) | (refine ry_runS (by rfl) (fun w' hw' => ?_); go_simp; try rfl)
      simp only [Act.put, List.setIfInBounds_toArray, List.set_cons_zero, List.set_cons_succ]
      refine take0S (v := ?v5) (oi := ?o5) 4 ?hi5 (by kernel_rfl) (by kernel_rfl) (by kernel_rfl) ?hq5 ?hy5 ?_
      case hi5 => (simp only [List.getElem?_toArray, List.getElem?_cons_zero, List.getElem?_cons_succ]; rfl)
      case hq5 => exact fun _ _ _ h => h
      case hy5 => first | (refine ry_notS ?_; rfl) | (refine ry_runS (by rfl) (fun w' hw' => ?_); go_simp; try rfl)
      simp only [Act.put, List.setIfInBounds_toArray, List.set_cons_zero, List.set_cons_succ]
      refine take0S (v := ?v6) (oi := ?o6) 5 ?hi6 (by kernel_rfl) (by kernel_rfl) (by kernel_rfl) ?hq6 ?hy6 ?_
      case hi6 => (simp only [List.getElem?_toArray, List.getElem?_cons_zero, List.getElem?_cons_succ]; rfl)
      case hq6 => exact fun _ _ _ h => h
      case hy6 => first | (refine ry_notS ?_; rfl) | (refine ry_runS (by rfl) (fun w' hw' => ?_); go_simp; try rfl)
      simp only [Act.put, List.setIfInBounds_toArray, List.set_cons_zero, List.set_cons_succ]
      refine take0S (v := ?v7) (oi := ?o7) 6 ?hi7 (by kernel_rfl) (by kernel_rfl) (by kernel_rfl) ?hq7 ?hy7 ?_
      case hi7 => (simp only [List.getElem?_toArray, List.getElem?_cons_zero, List.getElem?_cons_succ]; rfl)
      case hq7 => exact fun _ _ _ h => h
      case hy7 => first | (refine ry_notS ?_; rfl) | (refine ry_runS (by rfl) (fun w' hw' => ?_); go_simp; try rfl)
      simp only [Act.put, List.setIfInBounds_toArray, List.set_cons_zero, List.set_cons_succ]
      refine take0S (v := ?v8) (oi := ?o8) 8 ?hi8 (by kernel_rfl) (by kernel_rfl) (by kernel_rfl) ?hq8 ?hy8 ?_
      case hi8 => (simp only [List.getElem?_toArray, List.getElem?_cons_zero, List.getElem?_cons_succ]; rfl)
      case hq8 => exact fun _ _ _ h => h
      case hy8 => first | (refine ry_notS ?_; rfl) | (refine ry_runS (by rfl) (fun w' hw' => ?_); go_simp; try rfl)
      simp only [Act.put, List.setIfInBounds_toArray, List.set_cons_zero, List.set_cons_succ]
      refine take0S (v := ?v9) (oi := ?o9) 9 ?hi9 (by kernel_rfl) (by kernel_rfl) (by kernel_rfl) ?hq9 ?hy9 ?_
      case hi9 => (simp only [List.getElem?_toArray, List.getElem?_cons_zero, List.getElem?_cons_succ]; rfl)
      case hq9 => exact fun _ _ _ h => h
      case hy9 => first | (refine ry_notS ?_; rfl) | (refine ry_runS (by rfl) (fun w' hw' => ?_); go_simp; try rfl)
      simp only [Act.put, List.setIfInBounds_toArray, List.set_cons_zero, List.set_cons_succ]
      refine take0S (v := ?v10) (oi := ?o10) 10 ?hi10 (by kernel_rfl) (by kernel_rfl) (by kernel_rfl) ?hq10 ?hy10 ?_
      case hi10 => (simp only [List.getElem?_toArray, List.getElem?_cons_zero, List.getElem?_cons_succ]; rfl)
      case hq10 => exact fun _ _ _ h => h
      case hy10 => first | (refine ry_notS ?_; rfl) | (refine ry_runS (by rfl) (fun w' hw' => ?_); go_simp; try rfl)
      simp only [Act.put, List.setIfInBounds_toArray, List.set_cons_zero, List.set_cons_succ]
      refine take0S (v := ?v11) (oi := ?o11) 11 ?hi11 (by kernel_rfl) (by kernel_rfl) (by kernel_rfl) ?hq11 ?hy11 ?_
      case hi11 => (simp only [List.getElem?_toArray, List.getElem?_cons_zero, List.getElem?_cons_succ]; rfl)
      case hq11 => exact fun _ _ _ h => h
      case hy11 => first | (refine ry_notS ?_; rfl) | (refine ry_runS (by rfl) (fun w' hw' => ?_); go_simp; try rfl)
      simp only [Act.put, List.setIfInBounds_toArray, List.set_cons_zero, List.set_cons_succ]
      refine take0S (v := ?v12) (oi := ?o12) 12 ?hi12 (by kernel_rfl) (by kernel_rfl) (by kernel_rfl) ?hq12 ?hy12 ?_
      case hi12 => (simp only [List.getElem?_toArray, List.getElem?_cons_zero, List.getElem?_cons_succ]; rfl)
      case hq12 => exact fun _ _ _ h => h
      case hy12 => first | (refine ry_notS ?_; rfl) | (refine ry_runS (by rfl) (fun w' hw' => ?_); go_simp; try rfl)
      simp only [Act.put, List.setIfInBounds_toArray, List.set_cons_zero, List.set_cons_succ]
      refine step0S (o := ?o13) 7 (by kernel_rfl) ?hi13 ?hw13 ?_
      case hi13 => (simp only [List.getElem?_toArray, List.getElem?_cons_zero, List.getElem?_cons_succ]; rfl)
      case hw13 => rfl
      go_simp
      refine (HP.out _).mono ?_
      rintro e w1 ⟨rfl, hm1⟩
      refine ⟨.inl (hm1.mono fun _ _ h => h.elim), ?_⟩
      refine step0S (o := ?o14) 13 (by kernel_rfl) ?hi14 ?hw14 ?_
      case hi14 => (simp only [List.getElem?_toArray, List.getElem?_cons_zero, List.getElem?_cons_succ]; rfl)
      case hw14 => rfl
      go_simp
      refine (HQ.out _).mono ?_
      rintro e w2 ⟨rfl, hm2⟩
      refine ⟨.inl (hm2.mono fun _ _ h => h.elim), ?_⟩
      refine take0S (v := ?v15) (oi := ?o15) 14 ?hi15 (by kernel_rfl) (by kernel_rfl) (by kernel_rfl) ?hq15 ?hy15 ?_
      case hi15 => (simp only [List.getElem?_toArray, List.getElem?_cons_zero, List.getElem?_cons_succ]; rfl)
      case hq15 => exact fun _ _ _ h => h
      case hy15 => first | (refine ry_notS ?_; rfl) | (refine ry_runS (by rfl) (fun w' hw' => ?_); go_simp; try rfl)
      simp only [Act.put, List.setIfInBounds_toArray, List.set_cons_zero, List.set_cons_succ]
      refine step0S (o := ?o16) 15 (by kernel_rfl) ?hi16 ?hw16 ?_
      case hi16 => (simp only [List.getElem?_toArray, List.getElem?_cons_zero, List.getElem?_cons_succ]; rfl)
      case hw16 => rfl
      go_simp
      refine (HAK.out _ ((HW.out.drew.keep hm1 (fun h => h)).keep hm2 (fun h => h))).mono ?_
      rintro e w3 ⟨rfl, hh3, hm3⟩
      refine ⟨.inl hm3, ?_⟩
      refine wpAnyM_done (by kernel_rfl) ?_
      have HW3 := Lib.hid hh3
      have HM3 := Lib.hid (Mod.trans (Mod.trans (Mod.trans HM.out.drew hm1 (fun _ _ h => h.elim)) hm2 (fun _ _ h => h.elim)) hm3 (fun _ _ h => h))
      clear hh3 hm3 hm1 hm2 hlts2
      go_wp2_with fail
      go_roundw
      case rel => exact ⟨j + 1, bd || !lt, by go_num, by omega, Lib.hid (by rw [HSN.out, HB.out]; cases bad <;> cases lt <;> simp), HW3, HM3⟩
      case measure => simp [intOf]; omega
    · have i1 : ¬ (j : Int) + 1 < (l.length : Int) := by omega
      have hjl : j = l.length - 1 := by omega
      have hb := HB.out
      rw [hjl] at hb
      have HB2 : Hid (bd = (bad || !rises (l.map (·.key)))) := Lib.hid (by rw [hb]; unfold rises; rw [List.length_map])
      clear hb hjl
      go_wp2_with fail
      go_end0
      exact ⟨rfl, by rw [← HB2.out]; exact HW.out, HM.out⟩

set_option maxRecDepth 100000 in
set_option maxHeartbeats 1000000 in
theorem risingL_calls (b T : Nat) (v : Value) (bad : Bool) (rest : List Value) (A : Option Addr) (c : Nat) (l : List Link) (w : World) (h : Has w b (v :: .bool bad :: rest) T) (hA : Cells w A (l.flatMap lc)) (hAb : ∀ a, A = some a → l ≠ [] → a.block ≠ b) (hc : l.length ≤ 100000000) :
    Calls Tryd.prog 54 #[.pointer (some ⟨b, 0, none⟩), .slice A l.length c, .func (.func 55) #[] #[]] w fun e w' =>
      e = .returned (.tuple #[]) ∧ Has w' b (v :: .bool (bad || !rises (l.map (·.last))) :: rest) T ∧ Mod (fun k => k = b) w w' := by
  have HH := Lib.hid h
  have HA := Lib.hid hA
  have HAB := Lib.hid hAb
  clear h hA hAb
  go_enter Tryd.func54, Tryd.ntmps54
  go_wp2_with fail
  go_loopw [6] (fun i wr => ∃ (j : Nat) (bd : Bool), i = .int .i64 ((j : Int) + 1) ∧ j ≤ l.length - 1 ∧ Hid (bd = (bad || !risesN (l.map (·.last)) j)) ∧ Hid (Has wr b (v :: .bool bd :: rest) T) ∧ Hid (Mod (fun k => k = b) w wr)) (fun i _ => l.length - (intOf i).toNat)
  case atStart => exact ⟨0, bad, by go_num, by omega, Lib.hid (by simp [risesN]), HH, Lib.hid (Mod.refl _ _)⟩
  case round =>
    obtain ⟨j, bd, rfl, hj, HB, HW, HM⟩ := hrel
    by_cases hlt : j + 1 < l.length
    · have i1 : (j : Int) + 1 < (l.length : Int) := by omega
      rcases HA.out.keep HM.out (fun a ha h => HAB.out a ha (fun he => by rw [he] at hlt; simp at hlt) h) with h | ⟨ba, o, rfl, hcell⟩
      · have := flat_len lc_len l; rw [h] at this; simp at this; omega
      have x0 := hcell _ _ (flat_get lc_len l j 0 (by omega) (by omega))
      have x1 := hcell _ _ (flat_get lc_len l j 1 (by omega) (by omega))
      have x2 := hcell _ _ (flat_get lc_len l j 2 (by omega) (by omega))
      have y0 := hcell _ _ (flat_get lc_len l (j + 1) 0 hlt (by omega))
      have y1 := hcell _ _ (flat_get lc_len l (j + 1) 1 hlt (by omega))
      have y2 := hcell _ _ (flat_get lc_len l (j + 1) 2 hlt (by omega))
      rw [Nat.add_zero] at x0 y0
      rw [← Nat.add_assoc] at x1 y1 x2 y2
      have hbl : ba < wr.heap.size := World.block_lt_of_cell? wr _ x0
      have hba : ¬ ba = b := fun h => HAB.out _ rfl (fun he => by rw [he] at hlt; simp at hlt) h
      have fx0 := fun (w' : World) (h : Mod (fun k => k = b) wr.drew w') => (h.cell (p := ⟨ba, _, none⟩) hbl (fun h => hba h)).trans x0
      have fx1 := fun (w' : World) (h : Mod (fun k => k = b) wr.drew w') => (h.cell (p := ⟨ba, _, none⟩) hbl (fun h => hba h)).trans x1
      have fx2 := fun (w' : World) (h : Mod (fun k => k = b) wr.drew w') => (h.cell (p := ⟨ba, _, none⟩) hbl (fun h => hba h)).trans x2
      have fy0 := fun (w' : World) (h : Mod (fun k => k = b) wr.drew w') => (h.cell (p := ⟨ba, _, none⟩) hbl (fun h => hba h)).trans y0
      have fy1 := fun (w' : World) (h : Mod (fun k => k = b) wr.drew w') => (h.cell (p := ⟨ba, _, none⟩) hbl (fun h => hba h)).trans y1
      have fy2 := fun (w' : World) (h : Mod (fun k => k = b) wr.drew w') => (h.cell (p := ⟨ba, _, none⟩) hbl (fun h => hba h)).trans y2
      have w1 : IntKind.i64.wrap (j : Int) = (j : Int) := by rw [IntKind.wrap_i64]; omega
      have w2 : IntKind.i64.wrap ((j : Int) + 1) = (j : Int) + 1 := by rw [IntKind.wrap_i64]; omega
      have j0 : (0 : Int) ≤ (j : Int) := by omega
      have j1 : (j : Int) < (l.length : Int) := by omega
      have j2 : (0 : Int) ≤ (j : Int) + 1 := by omega
      have j3 : ((j : Int) + 1).toNat = j + 1 := by omega
      have hsn := risesN_succ (l.map (·.last)) j
      have g1 : (l.map (·.last)).getD j ByteArray.empty = l[j].last := by simp [List.getD, show j < l.length by omega]
      have g2 : (l.map (·.last)).getD (j + 1) ByteArray.empty = l[j + 1].last := by simp [List.getD, hlt]
      rw [g1, g2] at hsn
      clear g1 g2
      generalize l[j] = p at *
      generalize l[j + 1] = q at *
      obtain ⟨lt, hlts⟩ : ∃ lt, ltS p.last q.last = lt := ⟨_, rfl⟩
      rw [hlts] at hsn
      have hlts2 : Go.Op.bytesLess p.last.toList q.last.toList = lt := hlts
      have HSN := Lib.hid hsn
      have HP := Lib.hid (lastOf_calls p)
      have HQ := Lib.hid (lastOf_calls q)
      have HAK := Lib.hid (fun wx (hx : Has wx b (v :: .bool bd :: rest) T) => ask_calls b T v bd lt rest wx hx)
      clear hcell hsn hlts
      go_wp2_with fail
      refine region_mS (fun k => k = b) (by kernel_rfl) ?_
      simp only [List.length_cons, List.length_nil, List.replicate]
      refine take0S (v := ?v17) (oi := ?o17) 0 ?hi17 (by kernel_rfl) (by kernel_rfl) (by kernel_rfl) ?hq17 ?hy17 ?_
      case hi17 => (simp only [List.getElem?_toArray, List.getElem?_cons_zero, List.getElem?_cons_succ]; rfl)
      case hq17 => exact fun _ _ _ h => h
      case hy17 => first | (refine ry_notS ?_; rfl) | (refine ry_runS (by rfl) (fun w' hw' => ?_); go_simp; try rfl)
      simp only [Act.put, List.setIfInBounds_toArray, List.set_cons_zero, List.set_cons_succ]
      refine take0S (v := ?v18) (oi := ?o18) 1 ?hi18 (by kernel_rfl) (by kernel_rfl) (by kernel_rfl) ?hq18 ?hy18 ?_
      case hi18 => (simp only [List.getElem?_toArray, List.getElem?_cons_zero, List.getElem?_cons_succ]; rfl)
      case hq18 => exact fun _ _ _ h => h
      case hy18 => first | (refine ry_notS ?_; rfl) | (refine ry_runS (by rfl) (fun w' hw' => ?_); go_simp; try rfl)
      simp only [Act.put, List.setIfInBounds_toArray, List.set_cons_zero, List.set_cons_succ]
      refine take0S (v := ?v19) (oi := ?o19) 2 ?hi19 (by kernel_rfl) (by kernel_rfl) (by kernel_rfl) ?hq19 ?hy19 ?_
      case hi19 => (simp only [List.getElem?_toArray, List.getElem?_cons_zero, List.getElem?_cons_succ]; rfl)
      case hq19 => exact fun _ _ _ h => h
      case hy19 => first | (refine ry_notS ?_; rfl) | (refine ry_runS (by rfl) (fun w' hw' => ?_); go_simp; try rfl)
      simp only [Act.put, List.setIfInBounds_toArray, List.set_cons_zero, List.set_cons_succ]
      refine take0S (v := ?v20) (oi := ?o20) 3 ?hi20 (by kernel_rfl) (by kernel_rfl) (by kernel_rfl) ?hq20 ?hy20 ?_
      case hi20 => (simp only [List.getElem?_toArray, List.getElem?_cons_zero, List.getElem?_cons_succ]; rfl)
      case hq20 => exact fun _ _ _ h => h
      case hy20 => first | (refine ry_notS ?_; rfl) | (refine ry_runS (by rfl) (fun w' hw' => ?_); go_simp; try rfl)
      simp only [Act.put, List.setIfInBounds_toArray, List.set_cons_zero, List.set_cons_succ]
      refine take0S (v := ?v21) (oi := ?o21) 4 ?hi21 (by kernel_rfl) (by kernel_rfl) (by kernel_rfl) ?hq21 ?hy21 ?_
      case hi21 => (simp only [List.getElem?_toArray, List.getElem?_cons_zero, List.getElem?_cons_succ]; rfl)
      case hq21 => exact fun _ _ _ h => h
      case hy21 => first | (refine ry_notS ?_; rfl) | (refine ry_runS (by rfl) (fun w' hw' => ?_); go_simp; try rfl)
      simp only [Act.put, List.setIfInBounds_toArray, List.set_cons_zero, List.set_cons_succ]
      refine take0S (v := ?v22) (oi := ?o22) 5 ?hi22 (by kernel_rfl) (by kernel_rfl) (by kernel_rfl) ?hq22 ?hy22 ?_
      case hi22 => (simp only [List.getElem?_toArray, List.getElem?_cons_zero, List.getElem?_cons_succ]; rfl)
      case hq22 => exact fun _ _ _ h => h
      case hy22 => first | (refine ry_notS ?_; rfl) | (refine ry_runS (by rfl) (fun w' hw' => ?_); go_simp; try rfl)
      simp only [Act.put, List.setIfInBounds_toArray, List.set_cons_zero, List.set_cons_succ]
      refine take0S (v := ?v23) (oi := ?o23) 6 ?hi23 (by kernel_rfl) (by kernel_rfl) (by kernel_rfl) ?hq23 ?hy23 ?_
      case hi23 => (simp only [List.getElem?_toArray, List.getElem?_cons_zero, List.getElem?_cons_succ]; rfl)
      case hq23 => exact fun _ _ _ h => h
      case hy23 => first | (refine ry_notS ?_; rfl) | (refine ry_runS (by rfl) (fun w' hw' => ?_); go_simp; try rfl)
      simp only [Act.put, List.setIfInBounds_toArray, List.set_cons_zero, List.set_cons_succ]
      refine take0S (v := ?v24) (oi := ?o24) 8 ?hi24 (by kernel_rfl) (by kernel_rfl) (by kernel_rfl) ?hq24 ?hy24 ?_
      case hi24 => (simp only [List.getElem?_toArray, List.getElem?_cons_zero, List.getElem?_cons_succ]; rfl)
      case hq24 => exact fun _ _ _ h => h
      case hy24 => first | (refine ry_notS ?_; rfl) | (refine ry_runS (by rfl) (fun w' hw' => ?_); go_simp; try rfl)
      simp only [Act.put, List.setIfInBounds_toArray, List.set_cons_zero, List.set_cons_succ]
      refine take0S (v := ?v25) (oi := ?o25) 9 ?hi25 (by kernel_rfl) (by kernel_rfl) (by kernel_rfl) ?hq25 ?hy25 ?_
      case hi25 => (simp only [List.getElem?_toArray, List.getElem?_cons_zero, List.getElem?_cons_succ]; rfl)
      case hq25 => exact fun _ _ _ h => h
      case hy25 => first | (refine ry_notS ?_; rfl) | (refine ry_runS (by rfl) (fun w' hw' => ?_); go_simp; try rfl)
      simp only [Act.put, List.setIfInBounds_toArray, List.set_cons_zero, List.set_cons_succ]
      refine take0S (v := ?v26) (oi := ?o26) 10 ?hi26 (by kernel_rfl) (by kernel_rfl) (by kernel_rfl) ?hq26 ?hy26 ?_
      case hi26 => (simp only [List.getElem?_toArray, List.getElem?_cons_zero, List.getElem?_cons_succ]; rfl)
      case hq26 => exact fun _ _ _ h => h
      case hy26 => first | (refine ry_notS ?_; rfl) | (refine ry_runS (by rfl) (fun w' hw' => ?_); go_simp; try rfl)
      simp only [Act.put, List.setIfInBounds_toArray, List.set_cons_zero, List.set_cons_succ]
      refine take0S (v := ?v27) (oi := ?o27) 11 ?hi27 (by kernel_rfl) (by kernel_rfl) (by kernel_rfl) ?hq27 ?hy27 ?_
      case hi27 => (simp only [List.getElem?_toArray, List.getElem?_cons_zero, List.getElem?_cons_succ]; rfl)
      case hq27 => exact fun _ _ _ h => h
      case hy27 => first | (refine ry_notS ?_; rfl) | (refine ry_runS (by rfl) (fun w' hw' => ?_); go_simp; try rfl)
      simp only [Act.put, List.setIfInBounds_toArray, List.set_cons_zero, List.set_cons_succ]
      refine take0S (v := ?v28) (oi := ?o28) 12 ?hi28 (by kernel_rfl) (by kernel_rfl) (by kernel_rfl) ?hq28 ?hy28 ?_
      case hi28 => (simp only [List.getElem?_toArray, List.getElem?_cons_zero, List.getElem?_cons_succ]; rfl)
      case hq28 => exact fun _ _ _ h => h
      case hy28 => first | (refine ry_notS ?_; rfl) | (refine ry_runS (by rfl) (fun w' hw' => ?_); go_simp; try rfl)
      simp only [Act.put, List.setIfInBounds_toArray, List.set_cons_zero, List.set_cons_succ]
      refine step0S (o := ?o29) 7 (by kernel_rfl) ?hi29 ?hw29 ?_
      case hi29 => (simp only [List.getElem?_toArray, List.getElem?_cons_zero, List.getElem?_cons_succ]; rfl)
      case hw29 => rfl
      go_simp
      refine (HP.out _).mono ?_
      rintro e w1 ⟨rfl, hm1⟩
      refine ⟨.inl (hm1.mono fun _ _ h => h.elim), ?_⟩
      refine step0S (o := ?o30) 13 (by kernel_rfl) ?hi30 ?hw30 ?_
      case hi30 => (simp only [List.getElem?_toArray, List.getElem?_cons_zero, List.getElem?_cons_succ]; rfl)
      case hw30 => rfl
      go_simp
      refine (HQ.out _).mono ?_
      rintro e w2 ⟨rfl, hm2⟩
      refine ⟨.inl (hm2.mono fun _ _ h => h.elim), ?_⟩
      refine take0S (v := ?v31) (oi := ?o31) 14 ?hi31 (by kernel_rfl) (by kernel_rfl) (by kernel_rfl) ?hq31 ?hy31 ?_
      case hi31 => (simp only [List.getElem?_toArray, List.getElem?_cons_zero, List.getElem?_cons_succ]; rfl)
      case hq31 => exact fun _ _ _ h => h
      case hy31 => first | (refine ry_notS ?_; rfl) | (refine ry_runS (by rfl) (fun w' hw' => ?_); go_simp; try rfl)
      simp only [Act.put, List.setIfInBounds_toArray, List.set_cons_zero, List.set_cons_succ]
      refine step0S (o := ?o32) 15 (by kernel_rfl) ?hi32 ?hw32 ?_
      case hi32 => (simp only [List.getElem?_toArray, List.getElem?_cons_zero, List.getElem?_cons_succ]; rfl)
      case hw32 => rfl
      go_simp
      refine (HAK.out _ ((HW.out.drew.keep hm1 (fun h => h)).keep hm2 (fun h => h))).mono ?_
      rintro e w3 ⟨rfl, hh3, hm3⟩
      refine ⟨.inl hm3, ?_⟩
      refine wpAnyM_done (by kernel_rfl) ?_
      have HW3 := Lib.hid hh3
      have HM3 := Lib.hid (Mod.trans (Mod.trans (Mod.trans HM.out.drew hm1 (fun _ _ h => h.elim)) hm2 (fun _ _ h => h.elim)) hm3 (fun _ _ h => h))
      clear hh3 hm3 hm1 hm2 hlts2
      go_wp2_with fail
      go_roundw
      case rel => exact ⟨j + 1, bd || !lt, by go_num, by omega, Lib.hid (by rw [HSN.out, HB.out]; cases bad <;> cases lt <;> simp), HW3, HM3⟩
      case measure => simp [intOf]; omega
    · have i1 : ¬ (j : Int) + 1 < (l.length : Int) := by omega
      have hjl : j = l.length - 1 := by omega
      have hb := HB.out
      rw [hjl] at hb
      have HB2 : Hid (bd = (bad || !rises (l.map (·.last)))) := Lib.hid (by rw [hb]; unfold rises; rw [List.length_map])
      clear hb hjl
      go_wp2_with fail
      go_end0
      exact ⟨rfl, by rw [← HB2.out]; exact HW.out, HM.out⟩
end Obj
end Go.Proofs.YtenamjldkaggcaaDoor
