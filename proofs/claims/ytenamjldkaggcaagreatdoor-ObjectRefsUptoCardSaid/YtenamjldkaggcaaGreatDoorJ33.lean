/- Joined texts: ObjectRefsL. -/
import Derived.Test.YtenamjldkaggcaaGreatDoorJ32
import Derived.Test.YtenamjldkaggcaaGreatDoorJ15
import Derived.Test.YtenamjldkaggcaaGreatDoorJ9
import Derived.Test.YtenamjldkaggcaaGreatDoorJ16
import Derived.Test.YtenamjldkaggcaaGreatDoorJ1
/- The walk of the law ObjectRefs. -/
namespace Go.Proofs.YtenamjldkaggcaaGreatDoor
set_option linter.unusedVariables false
set_option linter.unusedSimpArgs false
open Go.RowKit K Wire
namespace Obj

/-- parts that came in -/
structure PartsIn (w : World) (A : Option Addr) (c : Nat) (ps : List ByteArray) : Prop where
  row : Cells w A (ps.map .string)
  cap : ps.length ≤ c
  len : ps.length ≤ 1048576
  sum : (Hash.flat ps).length ≤ 1048576
theorem flat_take (ps : List ByteArray) (k : Nat) (h : k < ps.length) : Hash.flat (ps.take (k + 1)) = Hash.flat (ps.take k) ++ ps[k].data.toList := by
  unfold Hash.flat
  rw [List.take_succ_eq_append_getElem h, List.flatMap_append]; simp
theorem flat_take_le (ps : List ByteArray) (k : Nat) : (Hash.flat (ps.take k)).length ≤ (Hash.flat ps).length := by
  unfold Hash.flat
  conv => rhs; rw [← List.take_append_drop k ps, List.flatMap_append, List.length_append]
  omega
theorem own_has {w : World} {base e n : Nat} {v : Value} {xs : List Value} (h : w.ownsRow base e 1 v n xs) (hx : 0 < n) :
    ∃ g cap cs, v = .slice (some ⟨g, 0, none⟩) n cap ∧ base ≤ g ∧ g < w.heap.size ∧ Has w g cs e ∧ n ≤ cs.length := by
  obtain ⟨h1, ⟨hv, hn⟩ | ⟨g, cap, cur, hv, hg, hh, hc, hm, hs, ht⟩⟩ := h
  · omega
  · have hH : Has w g cur.toList e := by unfold Has; rw [hh]
    exact ⟨g, cap, cur.toList, hv, hg, hH.lt, hH, by simp; omega⟩

set_option maxRecDepth 100000 in
set_option maxHeartbeats 8000000 in
theorem refsLaw_calls (s : ByteArray) (A : Option Addr) (c : Nat) (ps : List ByteArray) (w : World) (hK : Hash.Keys w) (hs : s.size ≤ 1048576) (hA : PartsIn w A c ps) :
    Calls Tryz.prog 3 #[.string s, .slice A ps.length c] w fun e w' => e = .returned (.bool true) ∧ Below w.heap.size w w' := by
  have HSH := Lib.hid (fun (w1 : World) (m : Mod (fun _ => False) w w1) => shown_calls w1 (hK.keep m (fun h => h)))
  have cR := fun w1 => refs_calls s w1 (by omega)
  have cQ := fun w1 => rRefs_calls s w1 (by omega)
  unfold NamesPost at cR cQ
  have hlen := refsL_len s
  obtain ⟨fe, hfe⟩ := errV_ex (namesL s).2
  rw [hfe] at cR cQ
  have hln : (⟨(Hash.flat ps).toArray⟩ : ByteArray).size ≤ 1048576 := by simpa [ByteArray.size] using hA.sum
  have cO := fun w1 (m : Mod (fun _ => False) w w1) => of_calls A c ps w1 (hK.keep m (fun h => h)) (hA.row.keep m (fun _ _ h => h)) hA.cap hA.len hA.sum
  have cP := fun w1 => rOf_calls ⟨(Hash.flat ps).toArray⟩ w1 hln
  unfold objV at cO
  rw [show (⟨(Hash.flat ps).toArray⟩ : ByteArray).data.toList = Hash.flat ps from rfl] at cP
  have hsum := hA.sum
  have hlp := hA.len
  generalize Hash.sha (Hash.flat ps) = S at *
  generalize refsL s = RL at *
  have HR := Lib.hid cR
  have HQ := Lib.hid cQ
  have HO := Lib.hid cO
  have HP := Lib.hid cP
  have HA := Lib.hid hA.row
  clear cR cQ cO cP hfe hln hA hK
  go_enter Tryz.func3, Tryz.ntmps3
  go_wp2_with fail
  refine (HSH.out _ (Mod.refl _ _)).mono ?_
  rintro e w1 ⟨rfl, hm⟩
  have HM1 := Lib.hid hm
  clear hm HSH
  go_wp2_with fail
  refine (HR.out _).mono ?_
  rintro e w2 ⟨v, rfl, ho1, hm2⟩
  obtain ⟨A1, c1, rfl, _, hcl1, _, _⟩ := own_cells ho1
  have HM2 := Lib.hid (Mod.trans HM1.out hm2 (fun _ _ h => h))
  have HO1 := Lib.hid ho1
  have HC1 := Lib.hid hcl1
  clear hm2 ho1 hcl1
  go_wp2_with fail
  refine (HQ.out _).mono ?_
  rintro e w3 ⟨v, rfl, ho2, hm3⟩
  obtain ⟨A2, c2, rfl, _, hcl2, _, _⟩ := own_cells ho2
  have HM3 := Lib.hid (Mod.trans HM2.out hm3 (fun _ _ h => h))
  have HS := Lib.hid (same_calls A1 A2 c1 c2 RL w3 (HC1.out.keep hm3 (fun _ _ h => h)) hcl2 (by omega))
  have HO13 := Lib.hid (own_keep HO1.out hm3 (fun _ _ _ h => h))
  have hr : 0 < RL.length → ∃ g cs, A1 = some ⟨g, 0, none⟩ ∧ w1.heap.size ≤ g ∧ g < w2.heap.size ∧ Has w3 g cs 9 ∧ RL.length ≤ cs.length := fun h => by
    obtain ⟨g, cap, cs, hv, h1, h2, h3, h4⟩ := own_has HO1.out h
    exact ⟨g, cs, by simpa using (by injection hv : A1 = some ⟨g, 0, none⟩), h1, h2, h3.keep hm3 (fun h => h), h4⟩
  have HW3 := Lib.hid hr
  have HO2 := Lib.hid ho2
  clear hm3 ho2 hcl2 hr HQ HC1 HO1 HO13
  go_wp2_with fail
  refine HS.out.mono ?_
  rintro e w4 ⟨rfl, hm4⟩
  have HM4 := Lib.hid (Mod.trans HM3.out hm4 (fun _ _ h => h))
  have hr : 0 < RL.length → ∃ g cs, A1 = some ⟨g, 0, none⟩ ∧ w1.heap.size ≤ g ∧ g < w2.heap.size ∧ Has w4 g cs 9 ∧ RL.length ≤ cs.length := fun h => by
    obtain ⟨g, cs, h0, h1, h2, h3, h4⟩ := HW3.out h
    exact ⟨g, cs, h0, h1, h2, h3.keep hm4 (fun h => h), h4⟩
  have HW4 := Lib.hid hr
  have HO24 := Lib.hid (own_keep HO2.out hm4 (fun _ _ _ h => h))
  clear hm4 hr HW3 HS HO2
  go_wp2_with fail
  go_loopw [11] (fun i wr => ∃ k : Nat, i = .int .i64 k ∧ k ≤ RL.length ∧ Hid (Mod (fun k => w1.heap.size ≤ k ∧ k < w2.heap.size) w4 wr) ∧ Hid (0 < RL.length → ∃ g cs, A1 = some ⟨g, 0, none⟩ ∧ w1.heap.size ≤ g ∧ g < w2.heap.size ∧ Has wr g cs 9 ∧ RL.length ≤ cs.length)) (fun i _ => RL.length - (intOf i).toNat)
  case atStart => exact ⟨0, by go_num, Nat.zero_le _, Lib.hid (Mod.refl _ _), HW4⟩
  case round =>
    obtain ⟨k, rfl, hk, HM, HW⟩ := hrel
    by_cases hlt : k < RL.length
    · have i1 : (k : Int) < (RL.length : Int) := by omega
      have i0 : (0 : Int) ≤ (k : Int) := by omega
      obtain ⟨g, cs, rfl, hg1, hg2, hh, hcs⟩ := HW.out (by omega)
      obtain ⟨u, hu⟩ : ∃ u, cs[k]? = some u := ⟨_, List.getElem?_eq_getElem (by omega)⟩
      have x0 := hh.cell hu
      have f0 := hh.frozen k
      have HH := Lib.hid hh
      have HG := Lib.hid (And.intro hg1 hg2)
      clear hu hh hg1 hg2
      go_wp2_with fail
      go_roundw
      case rel => exact ⟨k + 1, by go_num, by omega, Lib.hid (HM.out.setCell (p := ⟨g, k, none⟩) (.inl HG.out) _), Lib.hid (fun _ => ⟨g, cs.set k _, rfl, HG.out.1, HG.out.2, HH.out.set k _, by simpa using hcs⟩)⟩
      case measure => simp [intOf]; omega
    · have i1 : ¬ (k : Int) < (RL.length : Int) := by omega
      have HM5 := Lib.hid (Mod.trans HM4.out HM.out (fun i hi h => by have := h.1; have := HM1.out.size; omega))
      have HO25 := Lib.hid (own_keep HO24.out HM.out (fun k hk _ h => by have := h.2; omega))
      clear HM HW HO24 HW4
      go_wp2_with fail
      refine (HR.out _).mono ?_
      rintro e w6 ⟨v, rfl, ho3, hm6⟩
      obtain ⟨A3, c3, rfl, _, hcl3, _, _⟩ := own_cells ho3
      obtain ⟨A2', c2', he2, _, hcl2, _, _⟩ := own_cells (own_keep HO25.out hm6 (fun _ _ _ h => h))
      obtain ⟨rfl, rfl⟩ : A2 = A2' ∧ c2 = c2' := by simpa using he2
      have HM6 := Lib.hid (Mod.trans HM5.out hm6 (fun _ _ h => h))
      have HC3 := Lib.hid hcl3
      have HC2 := Lib.hid hcl2
      clear hm6 ho3 hcl3 he2 hcl2 HO25 HM5
      go_wp2_with fail
      go_loopw [14, 15] (fun out i w' => ∃ (k : Nat) (acc : List UInt8), i = .int .i64 k ∧ k ≤ ps.length ∧ Hid (acc = Hash.flat (ps.take k)) ∧ w'.ownsRow w6.heap.size 5 1 out acc.length (bv acc) ∧ Hid (Mod (fun _ => False) w6 w')) (fun _ i _ => ps.length - (intOf i).toNat)
      case atStart => exact ⟨0, [], by go_num, by omega, Lib.hid rfl, World.ownsRow_nil _ _ _ _, Lib.hid (Mod.refl _ _)⟩
      case round =>
        obtain ⟨j, acc, rfl, hj, HX, hown, HM⟩ := hrel
        by_cases hjlt : j < ps.length
        · rcases HA.out with h | ⟨ab, ao, rfl, hcell⟩
          · simp at h; subst h; simp at hjlt
          obtain ⟨p, hp⟩ : ∃ p, ps[j] = p := ⟨_, rfl⟩
          have x1 := hcell j (.string p) (by rw [List.getElem?_map, List.getElem?_eq_getElem hjlt, hp]; rfl)
          rw [← (Mod.trans HM6.out HM.out (fun _ _ h => h)).cell (World.block_lt_of_cell? w _ x1) (fun h => h)] at x1
          have hft := flat_take ps j hjlt
          have hle := flat_take_le ps (j + 1)
          rw [hft, List.length_append, ← HX.out, hp] at hle
          rw [hp, ← HX.out] at hft
          have hpz : p.data.toList.length = p.size := by simp
          have j1 : (j : Int) < (ps.length : Int) := by omega
          have j0 : (0 : Int) ≤ (j : Int) := by omega
          have HFT := Lib.hid hft
          have hsz := HM.out.size
          clear hcell hp hft
          go_wp2_with (first
            | fail
            | (at_builtin; go_must (refine app_str (.tmp 50) (.tmp 54) bytes_t (fun i z hi hz => by cases hi; cases hz; rfl) Tryz.underlying9 w6.heap.size _ acc.length (bv acc) hown p rfl rfl rfl rfl (by unfold maxLen; omega) (by omega) hsz ?_; intro v2 w7 hown2 hm2)))
          go_roundw
          case rel => exact ⟨j + 1, acc ++ p.data.toList, by go_num, by omega, Lib.hid HFT.out.symm, by rw [bv_append, List.length_append, hpz]; exact hown2, Lib.hid (Mod.trans HM.out hm2 (fun i hi ⟨h, _⟩ => absurd h (by omega)))⟩
          case measure => simp [intOf]; omega
        · have j1 : ¬ (j : Int) < (ps.length : Int) := by omega
          obtain rfl : j = ps.length := by omega
          have hX := HX.out
          rw [List.take_of_length_le (Nat.le_refl _)] at hX
          obtain ⟨A9, c9, rfl, hc9, hA9, -, -⟩ := own_cells hown
          have HSM := Lib.hid (same_calls A3 A2 c3 c2 RL wr.drew (HC3.out.keep HM.out.drew (fun _ _ h => h)) (HC2.out.keep HM.out.drew (fun _ _ h => h)) (by omega))
          have HM7 := Lib.hid (Mod.trans HM6.out HM.out (fun _ _ h => h))
          rw [← hX] at HO HP
          have HA9 := Lib.hid hA9
          clear hown hA9 HX hX HC3 HC2 HM HM6 HR HA
          go_wp2_with fail
          refine region_m (by kernel_rfl) ?_
          simp only [List.length_cons, List.length_nil, List.replicate]
          refine take0 (v := ?v1) (oi := ?o1) 0 ?hi1 (by kernel_rfl) (by kernel_rfl) (by kernel_rfl) ?hq1 ?hy1 ?_
          case hi1 => (simp only [List.getElem?_toArray, List.getElem?_cons_zero, List.getElem?_cons_succ]; rfl)
          case hq1 => exact fun _ _ _ h => h
          case hy1 => first | (refine ry_not ?_; rfl) | (refine ry_run (by rfl) (fun w' hw' => ?_); go_simp; try rfl)
          simp only [Act.put, List.setIfInBounds_toArray, List.set_cons_zero, List.set_cons_succ]
          refine take0 (v := ?v2) (oi := ?o2) 1 ?hi2 (by kernel_rfl) (by kernel_rfl) (by kernel_rfl) ?hq2 ?hy2 ?_
          case hi2 => (simp only [List.getElem?_toArray, List.getElem?_cons_zero, List.getElem?_cons_succ]; rfl)
          case hq2 => exact fun _ _ _ h => h
          case hy2 => first | (refine ry_not ?_; rfl) | (refine ry_run (by rfl) (fun w' hw' => ?_); go_simp; try rfl)
          simp only [Act.put, List.setIfInBounds_toArray, List.set_cons_zero, List.set_cons_succ]
          refine take0 (v := ?v3) (oi := ?o3) 2 ?hi3 (by kernel_rfl) (by kernel_rfl) (by kernel_rfl) ?hq3 ?hy3 ?_
          case hi3 => (simp only [List.getElem?_toArray, List.getElem?_cons_zero, List.getElem?_cons_succ]; rfl)
          case hq3 => exact fun _ _ _ h => h
          case hy3 => first | (refine ry_not ?_; rfl) | (refine ry_run (by rfl) (fun w' hw' => ?_); go_simp; try rfl)
          simp only [Act.put, List.setIfInBounds_toArray, List.set_cons_zero, List.set_cons_succ]
          refine take0 (v := ?v4) (oi := ?o4) 3 ?hi4 (by kernel_rfl) (by kernel_rfl) (by kernel_rfl) ?hq4 ?hy4 ?_
          case hi4 => (simp only [List.getElem?_toArray, List.getElem?_cons_zero, List.getElem?_cons_succ]; rfl)
          case hq4 => exact fun _ _ _ h => h
          case hy4 => first | (refine ry_not ?_; rfl) | (refine ry_run (by rfl) (fun w' hw' => ?_); go_simp; try rfl)
          simp only [Act.put, List.setIfInBounds_toArray, List.set_cons_zero, List.set_cons_succ]
          refine take0 (v := ?v5) (oi := ?o5) 4 ?hi5 (by kernel_rfl) (by kernel_rfl) (by kernel_rfl) ?hq5 ?hy5 ?_
          case hi5 => (simp only [List.getElem?_toArray, List.getElem?_cons_zero, List.getElem?_cons_succ]; rfl)
          case hq5 => exact fun _ _ _ h => h
          case hy5 => first | (refine ry_not ?_; rfl) | (refine ry_run (by rfl) (fun w' hw' => ?_); go_simp; try rfl)
          simp only [Act.put, List.setIfInBounds_toArray, List.set_cons_zero, List.set_cons_succ]
          refine take0 (v := ?v6) (oi := ?o6) 5 ?hi6 (by kernel_rfl) (by kernel_rfl) (by kernel_rfl) ?hq6 ?hy6 ?_
          case hi6 => (simp only [List.getElem?_toArray, List.getElem?_cons_zero, List.getElem?_cons_succ]; rfl)
          case hq6 => exact fun _ _ _ h => h
          case hy6 => first | (refine ry_not ?_; rfl) | (refine ry_run (by rfl) (fun w' hw' => ?_); go_simp; try rfl)
          simp only [Act.put, List.setIfInBounds_toArray, List.set_cons_zero, List.set_cons_succ]
          refine take0 (v := ?v7) (oi := ?o7) 6 ?hi7 (by kernel_rfl) (by kernel_rfl) (by kernel_rfl) ?hq7 ?hy7 ?_
          case hi7 => (simp only [List.getElem?_toArray, List.getElem?_cons_zero, List.getElem?_cons_succ]; rfl)
          case hq7 => exact fun _ _ _ h => h
          case hy7 => first | (refine ry_not ?_; rfl) | (refine ry_run (by rfl) (fun w' hw' => ?_); go_simp; try rfl)
          simp only [Act.put, List.setIfInBounds_toArray, List.set_cons_zero, List.set_cons_succ]
          refine take0 (v := ?v8) (oi := ?o8) 7 ?hi8 (by kernel_rfl) (by kernel_rfl) (by kernel_rfl) ?hq8 ?hy8 ?_
          case hi8 => (simp only [List.getElem?_toArray, List.getElem?_cons_zero, List.getElem?_cons_succ]; rfl)
          case hq8 => exact fun _ _ _ h => h
          case hy8 => first | (refine ry_not ?_; rfl) | (refine ry_run (by rfl) (fun w' hw' => ?_); go_simp; try rfl)
          simp only [Act.put, List.setIfInBounds_toArray, List.set_cons_zero, List.set_cons_succ]
          refine take0 (v := ?v9) (oi := ?o9) 8 ?hi9 (by kernel_rfl) (by kernel_rfl) (by kernel_rfl) ?hq9 ?hy9 ?_
          case hi9 => (simp only [List.getElem?_toArray, List.getElem?_cons_zero, List.getElem?_cons_succ]; rfl)
          case hq9 => exact fun _ _ _ h => h
          case hy9 => first | (refine ry_not ?_; rfl) | (refine ry_run (by rfl) (fun w' hw' => ?_); go_simp; try rfl)
          simp only [Act.put, List.setIfInBounds_toArray, List.set_cons_zero, List.set_cons_succ]
          refine take0 (v := ?v10) (oi := ?o10) 9 ?hi10 (by kernel_rfl) (by kernel_rfl) (by kernel_rfl) ?hq10 ?hy10 ?_
          case hi10 => (simp only [List.getElem?_toArray, List.getElem?_cons_zero, List.getElem?_cons_succ]; rfl)
          case hq10 => exact fun _ _ _ h => h
          case hy10 => first | (refine ry_not ?_; rfl) | (refine ry_run (by rfl) (fun w' hw' => ?_); go_simp; try rfl)
          simp only [Act.put, List.setIfInBounds_toArray, List.set_cons_zero, List.set_cons_succ]
          refine take0 (v := ?v11) (oi := ?o11) 10 ?hi11 (by kernel_rfl) (by kernel_rfl) (by kernel_rfl) ?hq11 ?hy11 ?_
          case hi11 => (simp only [List.getElem?_toArray, List.getElem?_cons_zero, List.getElem?_cons_succ]; rfl)
          case hq11 => exact fun _ _ _ h => h
          case hy11 => first | (refine ry_not ?_; rfl) | (refine ry_run (by rfl) (fun w' hw' => ?_); go_simp; try rfl)
          simp only [Act.put, List.setIfInBounds_toArray, List.set_cons_zero, List.set_cons_succ]
          refine take0 (v := ?v12) (oi := ?o12) 11 ?hi12 (by kernel_rfl) (by kernel_rfl) (by kernel_rfl) ?hq12 ?hy12 ?_
          case hi12 => (simp only [List.getElem?_toArray, List.getElem?_cons_zero, List.getElem?_cons_succ]; rfl)
          case hq12 => exact fun _ _ _ h => h
          case hy12 => first | (refine ry_not ?_; rfl) | (refine ry_run (by rfl) (fun w' hw' => ?_); go_simp; try rfl)
          simp only [Act.put, List.setIfInBounds_toArray, List.set_cons_zero, List.set_cons_succ]
          refine step0 (o := ?o13) 12 (by kernel_rfl) ?hi13 ?hw13 ?_
          case hi13 => (simp only [List.getElem?_toArray, List.getElem?_cons_zero, List.getElem?_cons_succ]; rfl)
          case hw13 => rfl
          go_simp
          refine HSM.out.mono ?_
          rintro e w8 ⟨rfl, hm8⟩
          refine ⟨.inl hm8, ?_⟩
          have HM8 := Lib.hid (Mod.trans HM7.out (Mod.of_drew_l hm8) (fun _ _ h => h))
          have hA8 := HA9.out.keep (Mod.of_drew_l hm8) (fun _ _ h => h)
          have hcv : ∀ w', Mod0 w8 w' → (convert 28 9 (.slice A9 acc.length c9)).run Tryz.prog w' = .ok (.string ⟨acc.toArray⟩) w' := fun w' h => run_bytes c9 (Cells.keep hA8 h (fun _ _ h => h)) _ _ 5 Tryz.underlying28 Tryz.underlying5 Tryz.underlying9
          refine take0 (v := ?v14) (oi := ?o14) 13 ?hi14 (by kernel_rfl) (by kernel_rfl) (by kernel_rfl) ?hq14 ?hy14 ?_
          case hi14 => (simp only [List.getElem?_toArray, List.getElem?_cons_zero, List.getElem?_cons_succ]; rfl)
          case hq14 => exact fun _ _ _ h => h
          case hy14 => first | (refine ry_not ?_; rfl) | (refine ry_run (by rfl) (fun w' hw' => ?_); go_simp; try rfl)
          simp only [Act.put, List.setIfInBounds_toArray, List.set_cons_zero, List.set_cons_succ]
          refine take0 (v := ?v15) (oi := ?o15) 14 ?hi15 (by kernel_rfl) (by kernel_rfl) (by kernel_rfl) ?hq15 ?hy15 ?_
          case hi15 => (simp only [List.getElem?_toArray, List.getElem?_cons_zero, List.getElem?_cons_succ]; rfl)
          case hq15 => exact fun _ _ _ h => h
          case hy15 => first | (refine ry_not ?_; rfl) | (refine ry_run (by rfl) (fun w' hw' => ?_); go_simp; try rfl)
          simp only [Act.put, List.setIfInBounds_toArray, List.set_cons_zero, List.set_cons_succ]
          refine take0 (v := ?v16) (oi := ?o16) 15 ?hi16 (by kernel_rfl) (by kernel_rfl) (by kernel_rfl) ?hq16 ?hy16 ?_
          case hi16 => (simp only [List.getElem?_toArray, List.getElem?_cons_zero, List.getElem?_cons_succ]; rfl)
          case hq16 => exact fun _ _ _ h => h
          case hy16 => first | (refine ry_not ?_; rfl) | (refine ry_run (by rfl) (fun w' hw' => ?_); go_simp; try rfl)
          simp only [Act.put, List.setIfInBounds_toArray, List.set_cons_zero, List.set_cons_succ]
          refine take0 (v := ?v17) (oi := ?o17) 17 ?hi17 (by kernel_rfl) (by kernel_rfl) (by kernel_rfl) ?hq17 ?hy17 ?_
          case hi17 => (simp only [List.getElem?_toArray, List.getElem?_cons_zero, List.getElem?_cons_succ]; rfl)
          case hq17 => exact fun _ _ _ h => h
          case hy17 => first | (refine ry_not ?_; rfl) | (refine ry_run (by rfl) (fun w' hw' => ?_); go_simp; try rfl)
          simp only [Act.put, List.setIfInBounds_toArray, List.set_cons_zero, List.set_cons_succ]
          refine take0 (v := ?v18) (oi := ?o18) 18 ?hi18 (by kernel_rfl) (by kernel_rfl) (by kernel_rfl) ?hq18 ?hy18 ?_
          case hi18 => (simp only [List.getElem?_toArray, List.getElem?_cons_zero, List.getElem?_cons_succ]; rfl)
          case hq18 => exact fun _ _ _ h => h
          case hy18 => first | (refine ry_not ?_; rfl) | (refine ry_run (by rfl) (fun w' hw' => ?_); go_simp; try rfl)
          simp only [Act.put, List.setIfInBounds_toArray, List.set_cons_zero, List.set_cons_succ]
          refine step0 (o := ?o19) 16 (by kernel_rfl) ?hi19 ?hw19 ?_
          case hi19 => (simp only [List.getElem?_toArray, List.getElem?_cons_zero, List.getElem?_cons_succ]; rfl)
          case hw19 => rfl
          go_simp
          refine (HO.out _ HM8.out).mono ?_
          rintro e w9 ⟨rfl, hm9⟩
          refine ⟨.inl hm9, ?_⟩
          refine step0 (o := ?o20) 19 (by kernel_rfl) ?hi20 ?hw20 ?_
          case hi20 => (simp only [List.getElem?_toArray, List.getElem?_cons_zero, List.getElem?_cons_succ]; rfl)
          case hw20 => rfl
          go_simp
          refine (HP.out _).mono ?_
          rintro e w10 ⟨rfl, hm10⟩
          refine ⟨.inl hm10, ?_⟩
          refine take0 (v := ?v21) (oi := ?o21) 20 ?hi21 (by kernel_rfl) (by kernel_rfl) (by kernel_rfl) ?hq21 ?hy21 ?_
          case hi21 => (simp only [List.getElem?_toArray, List.getElem?_cons_zero, List.getElem?_cons_succ]; rfl)
          case hq21 => exact fun _ _ _ h => h
          case hy21 => first | (refine ry_not ?_; rfl) | (refine ry_run (by rfl) (fun w' hw' => ?_); go_simp; try rfl)
          simp only [Act.put, List.setIfInBounds_toArray, List.set_cons_zero, List.set_cons_succ]
          refine take0 (v := ?v22) (oi := ?o22) 21 ?hi22 (by kernel_rfl) (by kernel_rfl) (by kernel_rfl) ?hq22 ?hy22 ?_
          case hi22 => (simp only [List.getElem?_toArray, List.getElem?_cons_zero, List.getElem?_cons_succ]; rfl)
          case hq22 => exact fun _ _ _ h => h
          case hy22 => first | (refine ry_not ?_; rfl) | (refine ry_run (by rfl) (fun w' hw' => ?_); go_simp; try rfl)
          simp only [Act.put, List.setIfInBounds_toArray, List.set_cons_zero, List.set_cons_succ]
          refine take0 (v := ?v23) (oi := ?o23) 22 ?hi23 (by kernel_rfl) (by kernel_rfl) (by kernel_rfl) ?hq23 ?hy23 ?_
          case hi23 => (simp only [List.getElem?_toArray, List.getElem?_cons_zero, List.getElem?_cons_succ]; rfl)
          case hq23 => exact fun _ _ _ h => h
          case hy23 => first | (refine ry_not ?_; rfl) | (refine ry_run (by rfl) (fun w' hw' => ?_); go_simp; try rfl)
          simp only [Act.put, List.setIfInBounds_toArray, List.set_cons_zero, List.set_cons_succ]
          refine wpAnyM_done (by kernel_rfl) ?_
          have HM10 := Lib.hid (Mod.trans (Mod.trans HM8.out hm9 (fun _ _ h => h)) hm10 (fun _ _ h => h))
          clear hm8 hm9 hm10 hA8 hcv
          go_simp
          go_wp2_with fail
          go_ret
          exact ⟨rfl, HM10.out.below (fun _ _ h => h)⟩
end Obj
end Go.Proofs.YtenamjldkaggcaaGreatDoor
