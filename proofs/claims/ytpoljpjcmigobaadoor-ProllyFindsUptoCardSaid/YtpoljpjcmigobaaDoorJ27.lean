/- Joined texts: ProS, ProT, ProV. -/
import Derived.Test.YtpoljpjcmigobaaDoorJ26
import Derived.Test.YtpoljpjcmigobaaDoorJ12
import Derived.Test.YtpoljpjcmigobaaDoorJ6
import Derived.Deep.QuietTactic
import Derived.BigQuiet
/- The document's example: a map of two pairs; the walks of prolly's turns, groups, right, Build there. -/
namespace Go.Proofs.YtpoljpjcmigobaaDoor
set_option linter.unusedVariables false
set_option linter.unusedSimpArgs false
open Go.RowKit K Wire
namespace Prolly
open Go.Proofs.YtpoljpjcmigobaaDoor.Obj Go.Proofs.YtpoljpjcmigobaaDoor.Blob

def pA : Pair := ⟨⟨#[97]⟩, ⟨#[49]⟩⟩
def pB : Pair := ⟨⟨#[98]⟩, ⟨#[50]⟩⟩
def ps2 : List Pair := [pA, pB]
set_option maxRecDepth 1000000 in
theorem sha_a : ((Hash.sha [97]).getD 31 0).toNat % 16 = 11 := by decide +kernel
set_option maxRecDepth 1000000 in
theorem right_ps2 : rightLeaf ps2 = true := by decide +kernel
def ob2 : Ob := ⟨shaS (leafB ps2), ⟨(leafB ps2).toArray⟩⟩
theorem idx_s (s : ByteArray) (i : Nat) (h : i < s.size) (w : World) : (Instr.index 9 (.string s) (.int .i64 (i : Int))).run Tryd.prog w = .ok (.int .u8 ((s.data.toList.getD i 0).toNat : Int)) w := by
  rw [run_index_string w 9 _ .i64 (i : Int) Tryd.underlying9, dif_pos ⟨by omega, by omega⟩]
  have e : s[((i : Int)).toNat]'(by omega) = s.data.toList.getD i 0 := by
    simp only [Int.toNat_natCast]
    rw [List.getD_eq_getElem?_getD, List.getElem?_eq_getElem (by simpa using h)]
    rfl
  rw [e]
set_option maxRecDepth 100000 in
theorem keyOf_calls (p : Pair) (w : World) : Calls Tryd.prog 26 #[.agg #[.string p.key, .string p.val]] w fun e w' => e = .returned (.string p.key) ∧ Mod (fun _ => False) w w' := by
  go_enter Tryd.func26, Tryd.ntmps26
  go_wp2_with fail
  go_ret
  exact ⟨rfl, by (repeat (first | with_reducible exact Mod.refl _ _ | with_reducible apply Mod.drew | with_reducible apply Mod.drewN | with_reducible apply Mod.alloc | refine Mod.set1 ?_ (by first | exact rfl | simp) _ _))⟩
set_option maxRecDepth 100000 in
theorem turns_calls (w : World) (hK : Hash.Keys w) : Calls Tryd.prog 54 #[.string pA.key, .int .i64 0] w fun e w' => e = .returned (.bool false) ∧ Mod (fun _ => False) w w' := by
  have hm := (Mod.refl (fun _ => False) w).alloc (.cells #[.string pA.key] 9)
  have hs := Hash.sum_calls (some ⟨w.heap.size, 0, none⟩) 1 [pA.key] _ (hK.keep hm (fun h => h)) (cells_lit (cs := [.string pA.key]) rfl) (by simp) (by simp) (by decide)
  rw [show Hash.flat [pA.key] = [97] from rfl] at hs
  have h31 := idx_s ⟨(Hash.sha [97]).toArray⟩ 31 (by have := sha_len [97]; simpa [ByteArray.size] using (by omega : 31 < (Hash.sha [97]).length))
  have h11 := sha_a
  have hlen : (31 : Int) < ((Hash.sha [97]).length : Int) := by rw [sha_len]; decide
  generalize Hash.sha [97] = SH at *
  have HS := Lib.hid hs
  have HM := Lib.hid hm
  clear hs hm hK
  go_enter Tryd.func54, Tryd.ntmps54
  go_wp2_with fail
  refine HS.out.mono ?_
  rintro e w1 ⟨rfl, hm1⟩
  have HM1 := Lib.hid (Mod.trans HM.out hm1 (fun _ _ h => h))
  clear hm1
  go_wp2_with fail
  go_ret
  refine ⟨?_, HM1.out⟩
  have hx : ∀ h : 31 < (⟨SH.toArray⟩ : ByteArray).size, (((⟨SH.toArray⟩ : ByteArray)[31]'h).toNat : Int) % 16 = 11 := fun h => by
    have e : (⟨SH.toArray⟩ : ByteArray)[31]'h = SH.getD 31 0 := by
      rw [List.getD_eq_getElem?_getD, List.getElem?_eq_getElem (by simpa [ByteArray.size] using h)]
      rfl
    rw [e]
    omega
  simp [hx]
set_option maxRecDepth 100000 in
set_option maxHeartbeats 4000000 in
theorem right_calls (A : Option Addr) (c : Nat) (l : List Pair) (w : World) (hA : Cells w A (l.flatMap kc)) (hl : l.length ≤ 64) (hok : ∀ p ∈ l, 1 ≤ p.key.size ∧ p.key.size ≤ 64 ∧ p.val.size ≤ 128) (hr : rises (l.map (·.key)) = true) :
    Calls Tryd.prog 23 #[.slice A l.length c] w fun e w' => e = .returned (.bool true) ∧ Mod (fun _ => False) w w' := by
  have HA := Lib.hid hA
  have HO := Lib.hid hok
  have HR := Lib.hid hr
  clear hA hok hr
  go_enter Tryd.func23, Tryd.ntmps23
  go_wp2_with fail
  go_loopw [7] (fun i wr => ∃ k : Nat, i = .int .i64 k ∧ k ≤ l.length ∧ Hid (Mod (fun _ => False) w wr)) (fun i _ => l.length - (intOf i).toNat)
  case atStart => exact ⟨0, by go_num, by omega, Lib.hid (Mod.refl _ _)⟩
  case round =>
    obtain ⟨k, rfl, hk, HM⟩ := hrel
    by_cases hlt : k < l.length
    · have i1 : (k : Int) < (l.length : Int) := by omega
      rcases HA.out.keep HM.out (fun _ _ h => h) with h | ⟨ba, o, rfl, hcell⟩
      · have := flat_len kc_len l; rw [h] at this; simp at this; omega
      have x0 := hcell _ _ (flat_get kc_len l k 0 hlt (by omega))
      have x1 := hcell _ _ (flat_get kc_len l k 1 hlt (by omega))
      rw [Nat.add_zero] at x0
      rw [← Nat.add_assoc] at x1
      have hp := HO.out _ (List.getElem_mem hlt)
      have k0 : (0 : Int) ≤ (k : Int) := by omega
      by_cases hz : k = 0
      · subst hz
        obtain ⟨P, hP⟩ : ∃ P, l[0] = P := ⟨_, rfl⟩
        rw [hP] at x0 x1 hp
        have x0 : wr.cell? ⟨ba, o, none⟩ = some (.string P.key) := x0
        have x1 : wr.cell? ⟨ba, o + 1, none⟩ = some (.string P.val) := x1
        have e1 := str_full P.key (by omega)
        have e2 : ¬ (64 : Int) < (P.key.size : Int) := by omega
        have e3 : ¬ (128 : Int) < (P.val.size : Int) := by omega
        have d2 : decide ((64 : Int) < (P.key.size : Int)) = false := decide_eq_false e2
        have d3 : decide ((128 : Int) < (P.val.size : Int)) = false := decide_eq_false e3
        clear hcell hP hp
        have hb := Has.new wr [.string P.key, .string P.val] 48
        have hma := (Mod.refl (fun _ => False) wr).alloc (.cells #[.string P.key, .string P.val] 48)
        have g0 := fun (w' : World) (m : Mod0 (wr.alloc (.cells #[.string P.key, .string P.val] 48)).drew w') => ((Mod.of_drew_l m).cell (p := ⟨wr.heap.size, 0, none⟩) hb.lt (fun h => h)).trans (hb.cell (o := 0) rfl)
        have g1 := fun (w' : World) (m : Mod0 (wr.alloc (.cells #[.string P.key, .string P.val] 48)).drew w') => ((Mod.of_drew_l m).cell (p := ⟨wr.heap.size, 1, none⟩) hb.lt (fun h => h)).trans (hb.cell (o := 1) rfl)
        have HM2 := Lib.hid ((HM.out.alloc (.cells #[.string P.key, .string P.val] 48)).drew)
        clear hb hma
        go_wp2_with fail
        refine region_m (by kernel_rfl) ?_
        simp only [List.length_cons, List.length_nil, List.replicate]
        refine take0 (v := ?v1) (oi := ?o1) 0 ?hi1 (by kernel_rfl) (by kernel_rfl) (by kernel_rfl) ?hq1 ?hy1 ?_
        case hi1 => (simp only [List.getElem?_toArray, List.getElem?_cons_zero, List.getElem?_cons_succ]; rfl)
        case hq1 => exact fun _ _ _ h => h
        case hy1 => first | (refine ry_not ?_; rfl) | (refine ry_run (by rfl) (fun w' hw' => ?_); go_simp; try rfl)
        simp only [Act.put, List.setIfInBounds_toArray, List.set_cons_zero, List.set_cons_succ]
        refine take0 (v := ?v2) (oi := ?o2) 1 ?hi2 (by kernel_rfl) (by kernel_rfl) (by kernel_rfl) ?hq2 ?hy2 ?_
        case hi2 => (simp only [List.getElem?_toArray, List.getElem?_cons_zero, List.getElem?_cons_succ]; rfl)
        case hq2 => exact fun _ _ _ h => h
        case hy2 => first | (refine ry_not ?_; rfl) | (refine ry_run (by rfl) (fun w' hw' => ?_); go_simp; try rfl)
        simp only [Act.put, List.setIfInBounds_toArray, List.set_cons_zero, List.set_cons_succ]
        refine take0 (v := ?v3) (oi := ?o3) 2 ?hi3 (by kernel_rfl) (by kernel_rfl) (by kernel_rfl) ?hq3 ?hy3 ?_
        case hi3 => (simp only [List.getElem?_toArray, List.getElem?_cons_zero, List.getElem?_cons_succ]; rfl)
        case hq3 => exact fun _ _ _ h => h
        case hy3 => first | (refine ry_not ?_; rfl) | (refine ry_run (by rfl) (fun w' hw' => ?_); go_simp; try rfl)
        simp only [Act.put, List.setIfInBounds_toArray, List.set_cons_zero, List.set_cons_succ]
        refine take0 (v := ?v4) (oi := ?o4) 3 ?hi4 (by kernel_rfl) (by kernel_rfl) (by kernel_rfl) ?hq4 ?hy4 ?_
        case hi4 => (simp only [List.getElem?_toArray, List.getElem?_cons_zero, List.getElem?_cons_succ]; rfl)
        case hq4 => exact fun _ _ _ h => h
        case hy4 => first | (refine ry_not ?_; rfl) | (refine ry_run (by rfl) (fun w' hw' => ?_); go_simp; try rfl)
        simp only [Act.put, List.setIfInBounds_toArray, List.set_cons_zero, List.set_cons_succ]
        refine take0 (v := ?v5) (oi := ?o5) 4 ?hi5 (by kernel_rfl) (by kernel_rfl) (by kernel_rfl) ?hq5 ?hy5 ?_
        case hi5 => (simp only [List.getElem?_toArray, List.getElem?_cons_zero, List.getElem?_cons_succ]; rfl)
        case hq5 => exact fun _ _ _ h => h
        case hy5 => first | (refine ry_not ?_; rfl) | (refine ry_run (by rfl) (fun w' hw' => ?_); go_simp; try rfl)
        simp only [Act.put, List.setIfInBounds_toArray, List.set_cons_zero, List.set_cons_succ]
        refine take0 (v := ?v6) (oi := ?o6) 5 ?hi6 (by kernel_rfl) (by kernel_rfl) (by kernel_rfl) ?hq6 ?hy6 ?_
        case hi6 => (simp only [List.getElem?_toArray, List.getElem?_cons_zero, List.getElem?_cons_succ]; rfl)
        case hq6 => exact fun _ _ _ h => h
        case hy6 => first | (refine ry_not ?_; rfl) | (refine ry_run (by rfl) (fun w' hw' => ?_); go_simp; try rfl)
        simp only [Act.put, List.setIfInBounds_toArray, List.set_cons_zero, List.set_cons_succ]
        refine take0 (v := ?v7) (oi := ?o7) 6 ?hi7 (by kernel_rfl) (by kernel_rfl) (by kernel_rfl) ?hq7 ?hy7 ?_
        case hi7 => (simp only [List.getElem?_toArray, List.getElem?_cons_zero, List.getElem?_cons_succ]; rfl)
        case hq7 => exact fun _ _ _ h => h
        case hy7 => first | (refine ry_not ?_; rfl) | (refine ry_run (by rfl) (fun w' hw' => ?_); go_simp; try rfl)
        simp only [Act.put, List.setIfInBounds_toArray, List.set_cons_zero, List.set_cons_succ]
        refine take0 (v := ?v8) (oi := ?o8) 7 ?hi8 (by kernel_rfl) (by kernel_rfl) (by kernel_rfl) ?hq8 ?hy8 ?_
        case hi8 => (simp only [List.getElem?_toArray, List.getElem?_cons_zero, List.getElem?_cons_succ]; rfl)
        case hq8 => exact fun _ _ _ h => h
        case hy8 => first | (refine ry_not ?_; rfl) | (refine ry_run (by rfl) (fun w' hw' => ?_); go_simp; try rfl)
        simp only [Act.put, List.setIfInBounds_toArray, List.set_cons_zero, List.set_cons_succ]
        refine take0 (v := ?v9) (oi := ?o9) 8 ?hi9 (by kernel_rfl) (by kernel_rfl) (by kernel_rfl) ?hq9 ?hy9 ?_
        case hi9 => (simp only [List.getElem?_toArray, List.getElem?_cons_zero, List.getElem?_cons_succ]; rfl)
        case hq9 => exact fun _ _ _ h => h
        case hy9 => first | (refine ry_not ?_; rfl) | (refine ry_run (by rfl) (fun w' hw' => ?_); go_simp; try rfl)
        simp only [Act.put, List.setIfInBounds_toArray, List.set_cons_zero, List.set_cons_succ]
        refine take0 (v := ?v10) (oi := ?o10) 9 ?hi10 (by kernel_rfl) (by kernel_rfl) (by kernel_rfl) ?hq10 ?hy10 ?_
        case hi10 => (simp only [List.getElem?_toArray, List.getElem?_cons_zero, List.getElem?_cons_succ]; rfl)
        case hq10 => exact fun _ _ _ h => h
        case hy10 => first | (refine ry_not ?_; rfl) | (refine ry_run (by rfl) (fun w' hw' => ?_); go_simp; try rfl)
        simp only [Act.put, List.setIfInBounds_toArray, List.set_cons_zero, List.set_cons_succ]
        refine take0 (v := ?v11) (oi := ?o11) 10 ?hi11 (by kernel_rfl) (by kernel_rfl) (by kernel_rfl) ?hq11 ?hy11 ?_
        case hi11 => (simp only [List.getElem?_toArray, List.getElem?_cons_zero, List.getElem?_cons_succ]; rfl)
        case hq11 => exact fun _ _ _ h => h
        case hy11 => first | (refine ry_not ?_; rfl) | (refine ry_run (by rfl) (fun w' hw' => ?_); go_simp; try rfl)
        simp only [Act.put, List.setIfInBounds_toArray, List.set_cons_zero, List.set_cons_succ]
        refine take0 (v := ?v12) (oi := ?o12) 11 ?hi12 (by kernel_rfl) (by kernel_rfl) (by kernel_rfl) ?hq12 ?hy12 ?_
        case hi12 => (simp only [List.getElem?_toArray, List.getElem?_cons_zero, List.getElem?_cons_succ]; rfl)
        case hq12 => exact fun _ _ _ h => h
        case hy12 => first | (refine ry_not ?_; rfl) | (refine ry_run (by rfl) (fun w' hw' => ?_); go_simp; try rfl)
        simp only [Act.put, List.setIfInBounds_toArray, List.set_cons_zero, List.set_cons_succ]
        refine take0 (v := ?v13) (oi := ?o13) 12 ?hi13 (by kernel_rfl) (by kernel_rfl) (by kernel_rfl) ?hq13 ?hy13 ?_
        case hi13 => (simp only [List.getElem?_toArray, List.getElem?_cons_zero, List.getElem?_cons_succ]; rfl)
        case hq13 => exact fun _ _ _ h => h
        case hy13 => first | (refine ry_not ?_; rfl) | (refine ry_run (by rfl) (fun w' hw' => ?_); go_simp; try rfl)
        simp only [Act.put, List.setIfInBounds_toArray, List.set_cons_zero, List.set_cons_succ]
        refine take0 (v := ?v14) (oi := ?o14) 13 ?hi14 (by kernel_rfl) (by kernel_rfl) (by kernel_rfl) ?hq14 ?hy14 ?_
        case hi14 => (simp only [List.getElem?_toArray, List.getElem?_cons_zero, List.getElem?_cons_succ]; rfl)
        case hq14 => exact fun _ _ _ h => h
        case hy14 => first | (refine ry_not ?_; rfl) | (refine ry_run (by rfl) (fun w' hw' => ?_); go_simp; try rfl)
        simp only [Act.put, List.setIfInBounds_toArray, List.set_cons_zero, List.set_cons_succ]
        refine take0 (v := ?v15) (oi := ?o15) 14 ?hi15 (by kernel_rfl) (by kernel_rfl) (by kernel_rfl) ?hq15 ?hy15 ?_
        case hi15 => (simp only [List.getElem?_toArray, List.getElem?_cons_zero, List.getElem?_cons_succ]; rfl)
        case hq15 => exact fun _ _ _ h => h
        case hy15 => first | (refine ry_not ?_; rfl) | (refine ry_run (by rfl) (fun w' hw' => ?_); go_simp; try rfl)
        simp only [Act.put, List.setIfInBounds_toArray, List.set_cons_zero, List.set_cons_succ]
        refine take0 (v := ?v16) (oi := ?o16) 15 ?hi16 (by kernel_rfl) (by kernel_rfl) (by kernel_rfl) ?hq16 ?hy16 ?_
        case hi16 => (simp only [List.getElem?_toArray, List.getElem?_cons_zero, List.getElem?_cons_succ]; rfl)
        case hq16 => exact fun _ _ _ h => h
        case hy16 => first | (refine ry_not ?_; rfl) | (refine ry_run (by rfl) (fun w' hw' => ?_); go_simp; try rfl)
        simp only [Act.put, List.setIfInBounds_toArray, List.set_cons_zero, List.set_cons_succ]
        refine take0 (v := ?v17) (oi := ?o17) 16 ?hi17 (by kernel_rfl) (by kernel_rfl) (by kernel_rfl) ?hq17 ?hy17 ?_
        case hi17 => (simp only [List.getElem?_toArray, List.getElem?_cons_zero, List.getElem?_cons_succ]; rfl)
        case hq17 => exact fun _ _ _ h => h
        case hy17 => first | (refine ry_not ?_; rfl) | (refine ry_run (by rfl) (fun w' hw' => ?_); go_simp; try rfl)
        simp only [Act.put, List.setIfInBounds_toArray, List.set_cons_zero, List.set_cons_succ]
        refine take0 (v := ?v18) (oi := ?o18) 17 ?hi18 (by kernel_rfl) (by kernel_rfl) (by kernel_rfl) ?hq18 ?hy18 ?_
        case hi18 => (simp only [List.getElem?_toArray, List.getElem?_cons_zero, List.getElem?_cons_succ]; rfl)
        case hq18 => exact fun _ _ _ h => h
        case hy18 => first | (refine ry_not ?_; rfl) | (refine ry_run (by rfl) (fun w' hw' => ?_); go_simp; try rfl)
        simp only [Act.put, List.setIfInBounds_toArray, List.set_cons_zero, List.set_cons_succ]
        refine take0 (v := ?v19) (oi := ?o19) 18 ?hi19 (by kernel_rfl) (by kernel_rfl) (by kernel_rfl) ?hq19 ?hy19 ?_
        case hi19 => (simp only [List.getElem?_toArray, List.getElem?_cons_zero, List.getElem?_cons_succ]; rfl)
        case hq19 => exact fun _ _ _ h => h
        case hy19 => first | (refine ry_not ?_; rfl) | (refine ry_run (by rfl) (fun w' hw' => ?_); go_simp; try rfl)
        simp only [Act.put, List.setIfInBounds_toArray, List.set_cons_zero, List.set_cons_succ]
        refine take0 (v := ?v20) (oi := ?o20) 19 ?hi20 (by kernel_rfl) (by kernel_rfl) (by kernel_rfl) ?hq20 ?hy20 ?_
        case hi20 => (simp only [List.getElem?_toArray, List.getElem?_cons_zero, List.getElem?_cons_succ]; rfl)
        case hq20 => exact fun _ _ _ h => h
        case hy20 => first | (refine ry_not ?_; rfl) | (refine ry_run (by rfl) (fun w' hw' => ?_); go_simp; try rfl)
        simp only [Act.put, List.setIfInBounds_toArray, List.set_cons_zero, List.set_cons_succ]
        refine take0 (v := ?v21) (oi := ?o21) 20 ?hi21 (by kernel_rfl) (by kernel_rfl) (by kernel_rfl) ?hq21 ?hy21 ?_
        case hi21 => (simp only [List.getElem?_toArray, List.getElem?_cons_zero, List.getElem?_cons_succ]; rfl)
        case hq21 => exact fun _ _ _ h => h
        case hy21 => first | (refine ry_not ?_; rfl) | (refine ry_run (by rfl) (fun w' hw' => ?_); go_simp; try rfl)
        simp only [Act.put, List.setIfInBounds_toArray, List.set_cons_zero, List.set_cons_succ]
        refine take0 (v := ?v22) (oi := ?o22) 21 ?hi22 (by kernel_rfl) (by kernel_rfl) (by kernel_rfl) ?hq22 ?hy22 ?_
        case hi22 => (simp only [List.getElem?_toArray, List.getElem?_cons_zero, List.getElem?_cons_succ]; rfl)
        case hq22 => exact fun _ _ _ h => h
        case hy22 => first | (refine ry_not ?_; rfl) | (refine ry_run (by rfl) (fun w' hw' => ?_); go_simp; try rfl)
        simp only [Act.put, List.setIfInBounds_toArray, List.set_cons_zero, List.set_cons_succ]
        refine take0 (v := ?v23) (oi := ?o23) 22 ?hi23 (by kernel_rfl) (by kernel_rfl) (by kernel_rfl) ?hq23 ?hy23 ?_
        case hi23 => (simp only [List.getElem?_toArray, List.getElem?_cons_zero, List.getElem?_cons_succ]; rfl)
        case hq23 => exact fun _ _ _ h => h
        case hy23 => first | (refine ry_not ?_; rfl) | (refine ry_run (by rfl) (fun w' hw' => ?_); go_simp; try rfl)
        simp only [Act.put, List.setIfInBounds_toArray, List.set_cons_zero, List.set_cons_succ]
        refine take0 (v := ?v24) (oi := ?o24) 23 ?hi24 (by kernel_rfl) (by kernel_rfl) (by kernel_rfl) ?hq24 ?hy24 ?_
        case hi24 => (simp only [List.getElem?_toArray, List.getElem?_cons_zero, List.getElem?_cons_succ]; rfl)
        case hq24 => exact fun _ _ _ h => h
        case hy24 => first | (refine ry_not ?_; rfl) | (refine ry_run (by rfl) (fun w' hw' => ?_); go_simp; try rfl)
        simp only [Act.put, List.setIfInBounds_toArray, List.set_cons_zero, List.set_cons_succ]
        refine take0 (v := ?v25) (oi := ?o25) 24 ?hi25 (by kernel_rfl) (by kernel_rfl) (by kernel_rfl) ?hq25 ?hy25 ?_
        case hi25 => (simp only [List.getElem?_toArray, List.getElem?_cons_zero, List.getElem?_cons_succ]; rfl)
        case hq25 => exact fun _ _ _ h => h
        case hy25 => first | (refine ry_not ?_; rfl) | (refine ry_run (by rfl) (fun w' hw' => ?_); go_simp; try rfl)
        simp only [Act.put, List.setIfInBounds_toArray, List.set_cons_zero, List.set_cons_succ]
        refine take0 (v := ?v26) (oi := ?o26) 25 ?hi26 (by kernel_rfl) (by kernel_rfl) (by kernel_rfl) ?hq26 ?hy26 ?_
        case hi26 => (simp only [List.getElem?_toArray, List.getElem?_cons_zero, List.getElem?_cons_succ]; rfl)
        case hq26 => exact fun _ _ _ h => h
        case hy26 => first | (refine ry_not ?_; rfl) | (refine ry_run (by rfl) (fun w' hw' => ?_); go_simp; try rfl)
        simp only [Act.put, List.setIfInBounds_toArray, List.set_cons_zero, List.set_cons_succ]
        refine take0 (v := ?v27) (oi := ?o27) 26 ?hi27 (by kernel_rfl) (by kernel_rfl) (by kernel_rfl) ?hq27 ?hy27 ?_
        case hi27 => (simp only [List.getElem?_toArray, List.getElem?_cons_zero, List.getElem?_cons_succ]; rfl)
        case hq27 => exact fun _ _ _ h => h
        case hy27 => first | (refine ry_not ?_; rfl) | (refine ry_run (by rfl) (fun w' hw' => ?_); go_simp; try rfl)
        simp only [Act.put, List.setIfInBounds_toArray, List.set_cons_zero, List.set_cons_succ]
        refine take0 (v := ?v28) (oi := ?o28) 27 ?hi28 (by kernel_rfl) (by kernel_rfl) (by kernel_rfl) ?hq28 ?hy28 ?_
        case hi28 => (simp only [List.getElem?_toArray, List.getElem?_cons_zero, List.getElem?_cons_succ]; rfl)
        case hq28 => exact fun _ _ _ h => h
        case hy28 => first | (refine ry_not ?_; rfl) | (refine ry_run (by rfl) (fun w' hw' => ?_); go_simp; try rfl)
        simp only [Act.put, List.setIfInBounds_toArray, List.set_cons_zero, List.set_cons_succ]
        refine take0 (v := ?v29) (oi := ?o29) 28 ?hi29 (by kernel_rfl) (by kernel_rfl) (by kernel_rfl) ?hq29 ?hy29 ?_
        case hi29 => (simp only [List.getElem?_toArray, List.getElem?_cons_zero, List.getElem?_cons_succ]; rfl)
        case hq29 => exact fun _ _ _ h => h
        case hy29 => first | (refine ry_not ?_; rfl) | (refine ry_run (by rfl) (fun w' hw' => ?_); go_simp; try rfl)
        simp only [Act.put, List.setIfInBounds_toArray, List.set_cons_zero, List.set_cons_succ]
        refine take0 (v := ?v30) (oi := ?o30) 29 ?hi30 (by kernel_rfl) (by kernel_rfl) (by kernel_rfl) ?hq30 ?hy30 ?_
        case hi30 => (simp only [List.getElem?_toArray, List.getElem?_cons_zero, List.getElem?_cons_succ]; rfl)
        case hq30 => exact fun _ _ _ h => h
        case hy30 => first | (refine ry_not ?_; rfl) | (refine ry_run (by rfl) (fun w' hw' => ?_); go_simp; try rfl)
        simp only [Act.put, List.setIfInBounds_toArray, List.set_cons_zero, List.set_cons_succ]
        refine wpAnyM_done (by kernel_rfl) ?_
        go_wp2_with fail
        go_roundw
        case rel => exact ⟨1, by go_num, by omega, HM2⟩
        case measure => simp [intOf]; omega
      · obtain ⟨q, rfl⟩ : ∃ q, k = q + 1 := ⟨k - 1, by omega⟩
        have y0 := hcell _ _ (flat_get kc_len l q 0 (by omega) (by omega))
        rw [Nat.add_zero] at y0
        have hbl : ba < wr.heap.size := World.block_lt_of_cell? wr _ y0
        have hq := rises_lt2 HR.out (show q < q + 1 by omega) (by simpa using hlt)
        have g3 : (l.map (·.key)).getD q ByteArray.empty = l[q].key := by simp [List.getD, show q < l.length by omega]
        have g4 : (l.map (·.key)).getD (q + 1) ByteArray.empty = l[q + 1].key := by simp [List.getD, hlt]
        rw [g3, g4] at hq
        clear g3 g4
        obtain ⟨P, hP⟩ : ∃ P, l[q + 1] = P := ⟨_, rfl⟩
        obtain ⟨R, hRR⟩ : ∃ R, l[q] = R := ⟨_, rfl⟩
        rw [hP] at x0 x1 hp hq
        rw [hRR] at y0 hq
        have e0 : Go.Op.bytesLess R.key.toList P.key.toList = true := hq
        have e1 := str_full P.key (by omega)
        have e2 : ¬ (64 : Int) < (P.key.size : Int) := by omega
        have e3 : ¬ (128 : Int) < (P.val.size : Int) := by omega
        have d2 : decide ((64 : Int) < (P.key.size : Int)) = false := decide_eq_false e2
        have d3 : decide ((128 : Int) < (P.val.size : Int)) = false := decide_eq_false e3
        have w1 : IntKind.i64.wrap (q : Int) = (q : Int) := by rw [IntKind.wrap_i64]; omega
        have q0 : (0 : Int) ≤ (q : Int) := by omega
        have q1 : (q : Int) < (l.length : Int) := by omega
        have q2 : (0 : Int) < (q : Int) + 1 := by omega
        have d4 : decide ((0 : Int) < (q : Int) + 1) = true := decide_eq_true q2
        clear hcell hP hRR hp hq
        have hb := Has.new wr [.string P.key, .string P.val] 48
        have hma := (Mod.refl (fun _ => False) wr).alloc (.cells #[.string P.key, .string P.val] 48)
        have g0 := fun (w' : World) (m : Mod0 (wr.alloc (.cells #[.string P.key, .string P.val] 48)).drew w') => ((Mod.of_drew_l m).cell (p := ⟨wr.heap.size, 0, none⟩) hb.lt (fun h => h)).trans (hb.cell (o := 0) rfl)
        have g1 := fun (w' : World) (m : Mod0 (wr.alloc (.cells #[.string P.key, .string P.val] 48)).drew w') => ((Mod.of_drew_l m).cell (p := ⟨wr.heap.size, 1, none⟩) hb.lt (fun h => h)).trans (hb.cell (o := 1) rfl)
        have HM2 := Lib.hid ((HM.out.alloc (.cells #[.string P.key, .string P.val] 48)).drew)
        have g5 := fun (w' : World) (m : Mod0 (wr.alloc (.cells #[.string P.key, .string P.val] 48)).drew w') => ((Mod.trans hma (Mod.of_drew_l m) (fun _ _ h => h)).cell (p := ⟨ba, o + q * 2, none⟩) hbl (fun h => h)).trans y0
        clear hb hma
        go_wp2_with fail
        refine region_m (by kernel_rfl) ?_
        simp only [List.length_cons, List.length_nil, List.replicate]
        refine take0 (v := ?v31) (oi := ?o31) 0 ?hi31 (by kernel_rfl) (by kernel_rfl) (by kernel_rfl) ?hq31 ?hy31 ?_
        case hi31 => (simp only [List.getElem?_toArray, List.getElem?_cons_zero, List.getElem?_cons_succ]; rfl)
        case hq31 => exact fun _ _ _ h => h
        case hy31 => first | (refine ry_not ?_; rfl) | (refine ry_run (by rfl) (fun w' hw' => ?_); go_simp; try rfl)
        simp only [Act.put, List.setIfInBounds_toArray, List.set_cons_zero, List.set_cons_succ]
        refine take0 (v := ?v32) (oi := ?o32) 1 ?hi32 (by kernel_rfl) (by kernel_rfl) (by kernel_rfl) ?hq32 ?hy32 ?_
        case hi32 => (simp only [List.getElem?_toArray, List.getElem?_cons_zero, List.getElem?_cons_succ]; rfl)
        case hq32 => exact fun _ _ _ h => h
        case hy32 => first | (refine ry_not ?_; rfl) | (refine ry_run (by rfl) (fun w' hw' => ?_); go_simp; try rfl)
        simp only [Act.put, List.setIfInBounds_toArray, List.set_cons_zero, List.set_cons_succ]
        refine take0 (v := ?v33) (oi := ?o33) 2 ?hi33 (by kernel_rfl) (by kernel_rfl) (by kernel_rfl) ?hq33 ?hy33 ?_
        case hi33 => (simp only [List.getElem?_toArray, List.getElem?_cons_zero, List.getElem?_cons_succ]; rfl)
        case hq33 => exact fun _ _ _ h => h
        case hy33 => first | (refine ry_not ?_; rfl) | (refine ry_run (by rfl) (fun w' hw' => ?_); go_simp; try rfl)
        simp only [Act.put, List.setIfInBounds_toArray, List.set_cons_zero, List.set_cons_succ]
        refine take0 (v := ?v34) (oi := ?o34) 3 ?hi34 (by kernel_rfl) (by kernel_rfl) (by kernel_rfl) ?hq34 ?hy34 ?_
        case hi34 => (simp only [List.getElem?_toArray, List.getElem?_cons_zero, List.getElem?_cons_succ]; rfl)
        case hq34 => exact fun _ _ _ h => h
        case hy34 => first | (refine ry_not ?_; rfl) | (refine ry_run (by rfl) (fun w' hw' => ?_); go_simp; try rfl)
        simp only [Act.put, List.setIfInBounds_toArray, List.set_cons_zero, List.set_cons_succ]
        refine take0 (v := ?v35) (oi := ?o35) 4 ?hi35 (by kernel_rfl) (by kernel_rfl) (by kernel_rfl) ?hq35 ?hy35 ?_
        case hi35 => (simp only [List.getElem?_toArray, List.getElem?_cons_zero, List.getElem?_cons_succ]; rfl)
        case hq35 => exact fun _ _ _ h => h
        case hy35 => first | (refine ry_not ?_; rfl) | (refine ry_run (by rfl) (fun w' hw' => ?_); go_simp; try rfl)
        simp only [Act.put, List.setIfInBounds_toArray, List.set_cons_zero, List.set_cons_succ]
        refine take0 (v := ?v36) (oi := ?o36) 5 ?hi36 (by kernel_rfl) (by kernel_rfl) (by kernel_rfl) ?hq36 ?hy36 ?_
        case hi36 => (simp only [List.getElem?_toArray, List.getElem?_cons_zero, List.getElem?_cons_succ]; rfl)
        case hq36 => exact fun _ _ _ h => h
        case hy36 => first | (refine ry_not ?_; rfl) | (refine ry_run (by rfl) (fun w' hw' => ?_); go_simp; try rfl)
        simp only [Act.put, List.setIfInBounds_toArray, List.set_cons_zero, List.set_cons_succ]
        refine take0 (v := ?v37) (oi := ?o37) 6 ?hi37 (by kernel_rfl) (by kernel_rfl) (by kernel_rfl) ?hq37 ?hy37 ?_
        case hi37 => (simp only [List.getElem?_toArray, List.getElem?_cons_zero, List.getElem?_cons_succ]; rfl)
        case hq37 => exact fun _ _ _ h => h
        case hy37 => first | (refine ry_not ?_; rfl) | (refine ry_run (by rfl) (fun w' hw' => ?_); go_simp; try rfl)
        simp only [Act.put, List.setIfInBounds_toArray, List.set_cons_zero, List.set_cons_succ]
        refine take0 (v := ?v38) (oi := ?o38) 7 ?hi38 (by kernel_rfl) (by kernel_rfl) (by kernel_rfl) ?hq38 ?hy38 ?_
        case hi38 => (simp only [List.getElem?_toArray, List.getElem?_cons_zero, List.getElem?_cons_succ]; rfl)
        case hq38 => exact fun _ _ _ h => h
        case hy38 => first | (refine ry_not ?_; rfl) | (refine ry_run (by rfl) (fun w' hw' => ?_); go_simp; try rfl)
        simp only [Act.put, List.setIfInBounds_toArray, List.set_cons_zero, List.set_cons_succ]
        refine take0 (v := ?v39) (oi := ?o39) 8 ?hi39 (by kernel_rfl) (by kernel_rfl) (by kernel_rfl) ?hq39 ?hy39 ?_
        case hi39 => (simp only [List.getElem?_toArray, List.getElem?_cons_zero, List.getElem?_cons_succ]; rfl)
        case hq39 => exact fun _ _ _ h => h
        case hy39 => first | (refine ry_not ?_; rfl) | (refine ry_run (by rfl) (fun w' hw' => ?_); go_simp; try rfl)
        simp only [Act.put, List.setIfInBounds_toArray, List.set_cons_zero, List.set_cons_succ]
        refine take0 (v := ?v40) (oi := ?o40) 9 ?hi40 (by kernel_rfl) (by kernel_rfl) (by kernel_rfl) ?hq40 ?hy40 ?_
        case hi40 => (simp only [List.getElem?_toArray, List.getElem?_cons_zero, List.getElem?_cons_succ]; rfl)
        case hq40 => exact fun _ _ _ h => h
        case hy40 => first | (refine ry_not ?_; rfl) | (refine ry_run (by rfl) (fun w' hw' => ?_); go_simp; try rfl)
        simp only [Act.put, List.setIfInBounds_toArray, List.set_cons_zero, List.set_cons_succ]
        refine take0 (v := ?v41) (oi := ?o41) 10 ?hi41 (by kernel_rfl) (by kernel_rfl) (by kernel_rfl) ?hq41 ?hy41 ?_
        case hi41 => (simp only [List.getElem?_toArray, List.getElem?_cons_zero, List.getElem?_cons_succ]; rfl)
        case hq41 => exact fun _ _ _ h => h
        case hy41 => first | (refine ry_not ?_; rfl) | (refine ry_run (by rfl) (fun w' hw' => ?_); go_simp; try rfl)
        simp only [Act.put, List.setIfInBounds_toArray, List.set_cons_zero, List.set_cons_succ]
        refine take0 (v := ?v42) (oi := ?o42) 11 ?hi42 (by kernel_rfl) (by kernel_rfl) (by kernel_rfl) ?hq42 ?hy42 ?_
        case hi42 => (simp only [List.getElem?_toArray, List.getElem?_cons_zero, List.getElem?_cons_succ]; rfl)
        case hq42 => exact fun _ _ _ h => h
        case hy42 => first | (refine ry_not ?_; rfl) | (refine ry_run (by rfl) (fun w' hw' => ?_); go_simp; try rfl)
        simp only [Act.put, List.setIfInBounds_toArray, List.set_cons_zero, List.set_cons_succ]
        refine take0 (v := ?v43) (oi := ?o43) 12 ?hi43 (by kernel_rfl) (by kernel_rfl) (by kernel_rfl) ?hq43 ?hy43 ?_
        case hi43 => (simp only [List.getElem?_toArray, List.getElem?_cons_zero, List.getElem?_cons_succ]; rfl)
        case hq43 => exact fun _ _ _ h => h
        case hy43 => first | (refine ry_not ?_; rfl) | (refine ry_run (by rfl) (fun w' hw' => ?_); go_simp; try rfl)
        simp only [Act.put, List.setIfInBounds_toArray, List.set_cons_zero, List.set_cons_succ]
        refine take0 (v := ?v44) (oi := ?o44) 13 ?hi44 (by kernel_rfl) (by kernel_rfl) (by kernel_rfl) ?hq44 ?hy44 ?_
        case hi44 => (simp only [List.getElem?_toArray, List.getElem?_cons_zero, List.getElem?_cons_succ]; rfl)
        case hq44 => exact fun _ _ _ h => h
        case hy44 => first | (refine ry_not ?_; rfl) | (refine ry_run (by rfl) (fun w' hw' => ?_); go_simp; try rfl)
        simp only [Act.put, List.setIfInBounds_toArray, List.set_cons_zero, List.set_cons_succ]
        refine take0 (v := ?v45) (oi := ?o45) 14 ?hi45 (by kernel_rfl) (by kernel_rfl) (by kernel_rfl) ?hq45 ?hy45 ?_
        case hi45 => (simp only [List.getElem?_toArray, List.getElem?_cons_zero, List.getElem?_cons_succ]; rfl)
        case hq45 => exact fun _ _ _ h => h
        case hy45 => first | (refine ry_not ?_; rfl) | (refine ry_run (by rfl) (fun w' hw' => ?_); go_simp; try rfl)
        simp only [Act.put, List.setIfInBounds_toArray, List.set_cons_zero, List.set_cons_succ]
        refine take0 (v := ?v46) (oi := ?o46) 15 ?hi46 (by kernel_rfl) (by kernel_rfl) (by kernel_rfl) ?hq46 ?hy46 ?_
        case hi46 => (simp only [List.getElem?_toArray, List.getElem?_cons_zero, List.getElem?_cons_succ]; rfl)
        case hq46 => exact fun _ _ _ h => h
        case hy46 => first | (refine ry_not ?_; rfl) | (refine ry_run (by rfl) (fun w' hw' => ?_); go_simp; try rfl)
        simp only [Act.put, List.setIfInBounds_toArray, List.set_cons_zero, List.set_cons_succ]
        refine take0 (v := ?v47) (oi := ?o47) 16 ?hi47 (by kernel_rfl) (by kernel_rfl) (by kernel_rfl) ?hq47 ?hy47 ?_
        case hi47 => (simp only [List.getElem?_toArray, List.getElem?_cons_zero, List.getElem?_cons_succ]; rfl)
        case hq47 => exact fun _ _ _ h => h
        case hy47 => first | (refine ry_not ?_; rfl) | (refine ry_run (by rfl) (fun w' hw' => ?_); go_simp; try rfl)
        simp only [Act.put, List.setIfInBounds_toArray, List.set_cons_zero, List.set_cons_succ]
        refine take0 (v := ?v48) (oi := ?o48) 17 ?hi48 (by kernel_rfl) (by kernel_rfl) (by kernel_rfl) ?hq48 ?hy48 ?_
        case hi48 => (simp only [List.getElem?_toArray, List.getElem?_cons_zero, List.getElem?_cons_succ]; rfl)
        case hq48 => exact fun _ _ _ h => h
        case hy48 => first | (refine ry_not ?_; rfl) | (refine ry_run (by rfl) (fun w' hw' => ?_); go_simp; try rfl)
        simp only [Act.put, List.setIfInBounds_toArray, List.set_cons_zero, List.set_cons_succ]
        refine take0 (v := ?v49) (oi := ?o49) 18 ?hi49 (by kernel_rfl) (by kernel_rfl) (by kernel_rfl) ?hq49 ?hy49 ?_
        case hi49 => (simp only [List.getElem?_toArray, List.getElem?_cons_zero, List.getElem?_cons_succ]; rfl)
        case hq49 => exact fun _ _ _ h => h
        case hy49 => first | (refine ry_not ?_; rfl) | (refine ry_run (by rfl) (fun w' hw' => ?_); go_simp; try rfl)
        simp only [Act.put, List.setIfInBounds_toArray, List.set_cons_zero, List.set_cons_succ]
        refine take0 (v := ?v50) (oi := ?o50) 19 ?hi50 (by kernel_rfl) (by kernel_rfl) (by kernel_rfl) ?hq50 ?hy50 ?_
        case hi50 => (simp only [List.getElem?_toArray, List.getElem?_cons_zero, List.getElem?_cons_succ]; rfl)
        case hq50 => exact fun _ _ _ h => h
        case hy50 => first | (refine ry_not ?_; rfl) | (refine ry_run (by rfl) (fun w' hw' => ?_); go_simp; try rfl)
        simp only [Act.put, List.setIfInBounds_toArray, List.set_cons_zero, List.set_cons_succ]
        refine take0 (v := ?v51) (oi := ?o51) 20 ?hi51 (by kernel_rfl) (by kernel_rfl) (by kernel_rfl) ?hq51 ?hy51 ?_
        case hi51 => (simp only [List.getElem?_toArray, List.getElem?_cons_zero, List.getElem?_cons_succ]; rfl)
        case hq51 => exact fun _ _ _ h => h
        case hy51 => first | (refine ry_not ?_; rfl) | (refine ry_run (by rfl) (fun w' hw' => ?_); go_simp; try rfl)
        simp only [Act.put, List.setIfInBounds_toArray, List.set_cons_zero, List.set_cons_succ]
        refine take0 (v := ?v52) (oi := ?o52) 21 ?hi52 (by kernel_rfl) (by kernel_rfl) (by kernel_rfl) ?hq52 ?hy52 ?_
        case hi52 => (simp only [List.getElem?_toArray, List.getElem?_cons_zero, List.getElem?_cons_succ]; rfl)
        case hq52 => exact fun _ _ _ h => h
        case hy52 => first | (refine ry_not ?_; rfl) | (refine ry_run (by rfl) (fun w' hw' => ?_); go_simp; try rfl)
        simp only [Act.put, List.setIfInBounds_toArray, List.set_cons_zero, List.set_cons_succ]
        refine take0 (v := ?v53) (oi := ?o53) 22 ?hi53 (by kernel_rfl) (by kernel_rfl) (by kernel_rfl) ?hq53 ?hy53 ?_
        case hi53 => (simp only [List.getElem?_toArray, List.getElem?_cons_zero, List.getElem?_cons_succ]; rfl)
        case hq53 => exact fun _ _ _ h => h
        case hy53 => first | (refine ry_not ?_; rfl) | (refine ry_run (by rfl) (fun w' hw' => ?_); go_simp; try rfl)
        simp only [Act.put, List.setIfInBounds_toArray, List.set_cons_zero, List.set_cons_succ]
        refine take0 (v := ?v54) (oi := ?o54) 23 ?hi54 (by kernel_rfl) (by kernel_rfl) (by kernel_rfl) ?hq54 ?hy54 ?_
        case hi54 => (simp only [List.getElem?_toArray, List.getElem?_cons_zero, List.getElem?_cons_succ]; rfl)
        case hq54 => exact fun _ _ _ h => h
        case hy54 => first | (refine ry_not ?_; rfl) | (refine ry_run (by rfl) (fun w' hw' => ?_); go_simp; try rfl)
        simp only [Act.put, List.setIfInBounds_toArray, List.set_cons_zero, List.set_cons_succ]
        refine take0 (v := ?v55) (oi := ?o55) 24 ?hi55 (by kernel_rfl) (by kernel_rfl) (by kernel_rfl) ?hq55 ?hy55 ?_
        case hi55 => (simp only [List.getElem?_toArray, List.getElem?_cons_zero, List.getElem?_cons_succ]; rfl)
        case hq55 => exact fun _ _ _ h => h
        case hy55 => first | (refine ry_not ?_; rfl) | (refine ry_run (by rfl) (fun w' hw' => ?_); go_simp; try rfl)
        simp only [Act.put, List.setIfInBounds_toArray, List.set_cons_zero, List.set_cons_succ]
        refine take0 (v := ?v56) (oi := ?o56) 25 ?hi56 (by kernel_rfl) (by kernel_rfl) (by kernel_rfl) ?hq56 ?hy56 ?_
        case hi56 => (simp only [List.getElem?_toArray, List.getElem?_cons_zero, List.getElem?_cons_succ]; rfl)
        case hq56 => exact fun _ _ _ h => h
        case hy56 => first | (refine ry_not ?_; rfl) | (refine ry_run (by rfl) (fun w' hw' => ?_); go_simp; try rfl)
        simp only [Act.put, List.setIfInBounds_toArray, List.set_cons_zero, List.set_cons_succ]
        refine take0 (v := ?v57) (oi := ?o57) 26 ?hi57 (by kernel_rfl) (by kernel_rfl) (by kernel_rfl) ?hq57 ?hy57 ?_
        case hi57 => (simp only [List.getElem?_toArray, List.getElem?_cons_zero, List.getElem?_cons_succ]; rfl)
        case hq57 => exact fun _ _ _ h => h
        case hy57 => first | (refine ry_not ?_; rfl) | (refine ry_run (by rfl) (fun w' hw' => ?_); go_simp; try rfl)
        simp only [Act.put, List.setIfInBounds_toArray, List.set_cons_zero, List.set_cons_succ]
        refine take0 (v := ?v58) (oi := ?o58) 27 ?hi58 (by kernel_rfl) (by kernel_rfl) (by kernel_rfl) ?hq58 ?hy58 ?_
        case hi58 => (simp only [List.getElem?_toArray, List.getElem?_cons_zero, List.getElem?_cons_succ]; rfl)
        case hq58 => exact fun _ _ _ h => h
        case hy58 => first | (refine ry_not ?_; rfl) | (refine ry_run (by rfl) (fun w' hw' => ?_); go_simp; try rfl)
        simp only [Act.put, List.setIfInBounds_toArray, List.set_cons_zero, List.set_cons_succ]
        refine take0 (v := ?v59) (oi := ?o59) 28 ?hi59 (by kernel_rfl) (by kernel_rfl) (by kernel_rfl) ?hq59 ?hy59 ?_
        case hi59 => (simp only [List.getElem?_toArray, List.getElem?_cons_zero, List.getElem?_cons_succ]; rfl)
        case hq59 => exact fun _ _ _ h => h
        case hy59 => first | (refine ry_not ?_; rfl) | (refine ry_run (by rfl) (fun w' hw' => ?_); go_simp; try rfl)
        simp only [Act.put, List.setIfInBounds_toArray, List.set_cons_zero, List.set_cons_succ]
        refine take0 (v := ?v60) (oi := ?o60) 29 ?hi60 (by kernel_rfl) (by kernel_rfl) (by kernel_rfl) ?hq60 ?hy60 ?_
        case hi60 => (simp only [List.getElem?_toArray, List.getElem?_cons_zero, List.getElem?_cons_succ]; rfl)
        case hq60 => exact fun _ _ _ h => h
        case hy60 => first | (refine ry_not ?_; rfl) | (refine ry_run (by rfl) (fun w' hw' => ?_); go_simp; try rfl)
        simp only [Act.put, List.setIfInBounds_toArray, List.set_cons_zero, List.set_cons_succ]
        refine wpAnyM_done (by kernel_rfl) ?_
        go_wp2_with fail
        go_roundw
        case rel => exact ⟨q + 1 + 1, by go_num, by omega, HM2⟩
        case measure => simp [intOf]; omega
    · have i1 : ¬ (k : Int) < (l.length : Int) := by omega
      go_wp2_with fail
      go_ret
      exact ⟨rfl, HM.out⟩
set_option maxRecDepth 100000 in
theorem ints_t : SliceT Tryd.prog 63 3 1 8 := ⟨Tryd.underlying63, by decide, _, .int .i64 0, rfl, rfl, rfl, rfl, rfl⟩
set_option maxRecDepth 100000 in
set_option maxHeartbeats 4000000 in
theorem groups_calls (A : Option Addr) (c : Nat) (w : World) (hA : Cells w A (ps2.flatMap kc)) (hK : Hash.Keys w) :
    Calls Tryd.prog 25 #[.slice A 2 c, .int .i64 0, .func (.func 26) #[] #[]] w fun e w' => ∃ v, e = .returned v ∧ w'.ownsRow w.heap.size 3 1 v 1 [.int .i64 2] ∧ Mod (fun _ => False) w w' := by
  have HA := Lib.hid hA
  have HK := Lib.hid hK
  clear hA hK
  go_enter Tryd.func25, Tryd.ntmps25
  go_wp2_with fail
  go_loopw [7, 8, 14] (fun ov fv iv wr => ∃ k : Nat, iv = .int .i64 k ∧ k ≤ 2 ∧ (k < 2 → ov = .slice none 0 0 ∧ fv = .int .i64 0) ∧ Hid (k = 2 → wr.ownsRow w.heap.size 3 1 ov 1 [.int .i64 2]) ∧ Hid (Mod (fun _ => False) w wr)) (fun _ _ i _ => 2 - (intOf i).toNat)
  case atStart => exact ⟨0, by go_num, by omega, fun _ => ⟨rfl, by go_num⟩, Lib.hid (fun h => by omega), Lib.hid (Mod.refl _ _)⟩
  case round =>
    obtain ⟨k, rfl, hk, h2, HV, HM⟩ := hrel
    rcases HA.out.keep HM.out (fun _ _ h => h) with h | ⟨ba, o, rfl, hcell⟩
    · cases h
    rcases (show k = 0 ∨ k = 1 ∨ k = 2 by omega) with rfl | rfl | rfl
    · obtain ⟨rfl, rfl⟩ := h2 (by omega)
      have x0 := hcell 0 (.string pA.key) rfl
      have x1 := hcell 1 (.string pA.val) rfl
      rw [Nat.add_zero] at x0
      have HP := Lib.hid (keyOf_calls pA)
      have HT := Lib.hid turns_calls
      clear hcell h2
      go_wp2_with fail
      refine (HP.out _).mono ?_
      rintro e w1 ⟨rfl, hm1⟩
      have hM1 := Mod.trans (HM.out.alloc _) hm1 (fun _ _ h => h)
      have HM1 := Lib.hid hM1
      clear hm1 hM1
      go_wp2_with fail
      refine (HT.out _ (HK.out.keep HM1.out (fun h => h))).mono ?_
      rintro e w2 ⟨rfl, hm2⟩
      have HM2 := Lib.hid (Mod.trans HM1.out hm2 (fun _ _ h => h))
      clear hm2
      go_wp2_with fail
      go_roundw
      case rel => exact ⟨1, by go_num, by omega, fun _ => ⟨rfl, by go_num⟩, Lib.hid (fun h => by omega), HM2⟩
      case measure => simp [intOf]
    · obtain ⟨rfl, rfl⟩ := h2 (by omega)
      have x0 := hcell 2 (.string pB.key) rfl
      have x1 := hcell 3 (.string pB.val) rfl
      clear hcell h2
      go_wp2_with (first
        | (at_builtin
           (refine appG (.tmp 47) (.tmp 50) ints_t w.heap.size (.slice none 0 0) 0 [] (World.ownsRow_nil _ _ _ _) (some ⟨wr.heap.size + 1, 0, none⟩) 1 1 [.int .i64 2] rfl rfl rfl (by simp [Act.eval]) rfl (cells_lit (by simp)) (by intro u hu; simp at hu; rcases hu with rfl; rfl) (by omega) (by unfold maxLen; omega) (by have := HM.out.size; simp; omega) ?_; intro v7 w7 ho7 hm7 hr7)
           have hM7 : Mod (fun _ => False) w w7 := Mod.trans ((HM.out.alloc _).alloc _) hm7 (fun i hi h => by cases h)
           have HM7 := Lib.hid hM7
           have HO7 := Lib.hid ho7
           clear hm7 hr7 ho7 hM7))
      go_roundw
      case rel => exact ⟨2, by go_num, by omega, fun h => by omega, Lib.hid (fun _ => by simpa using HO7.out), HM7⟩
      case measure => simp [intOf]
    · clear hcell h2
      go_wp2_with fail
      go_ret
      exact ⟨u7, rfl, HV.out trivial, HM.out⟩
end Prolly
end Go.Proofs.YtpoljpjcmigobaaDoor
/- The document's example: its map is built. -/
namespace Go.Proofs.YtpoljpjcmigobaaDoor
set_option linter.unusedVariables false
set_option linter.unusedSimpArgs false
open Go.RowKit K Wire
namespace Prolly
open Go.Proofs.YtpoljpjcmigobaaDoor.Obj Go.Proofs.YtpoljpjcmigobaaDoor.Blob

set_option maxRecDepth 100000 in
theorem obj_t : SliceT Tryd.prog 25 59 2 32 := ⟨Tryd.underlying25, by decide, _, .agg #[.string ByteArray.empty, .string ByteArray.empty], rfl, rfl, rfl, rfl, rfl⟩
set_option maxRecDepth 100000 in
theorem link_t : SliceT Tryd.prog 62 67 3 40 := ⟨Tryd.underlying62, by decide, _, .agg #[.string ByteArray.empty, .string ByteArray.empty, .int .i64 0], rfl, rfl, rfl, rfl, rfl⟩
set_option maxRecDepth 100000 in
theorem size_pair (w : World) : (sizeOf 48).run Tryd.prog w = .ok 2 w := by kernel_rfl
set_option maxRecDepth 100000 in
theorem slice_all (A : Option Addr) (c : Nat) (hc : 2 ≤ c) (w' : World) : (Instr.slice 22 (.slice A 2 c) (some (.int .i64 0)) (some (.int .i64 2)) none).run Tryd.prog w' = .ok (.slice A 2 c) w' := by
  have e2 : ¬ c = 0 := by omega
  simp only [Instr.slice, Instr.sliceBounds, Instr.sliceBound]
  simp [run_underlying Tryd.underlying22, asIntOf, size_pair, Result.andThen]
  rw [if_pos (by omega)]
  simp [e2]
  cases A with
  | none => rfl
  | some a => simp [Addr.add]
set_option maxRecDepth 100000 in
set_option maxHeartbeats 4000000 in
theorem build2_calls (A : Option Addr) (c : Nat) (w : World) (hA : Cells w A (ps2.flatMap kc)) (hK : Hash.Keys w) (hc : 2 ≤ c) :
    Calls Tryd.prog 9 #[.slice A 2 c] w fun e w' => ∃ v, e = .returned (.tuple #[.string ob2.id, v, .int .i64 0]) ∧ w'.ownsRow w.heap.size 59 2 v 1 (oc ob2) ∧ Mod (fun _ => False) w w' := by
  have HA := Lib.hid hA
  have HK := Lib.hid hK
  have HR := Lib.hid (right_calls A c ps2 w hA (by decide) (by decide) (by decide +kernel))
  have HG := Lib.hid (groups_calls A c)
  have HL := Lib.hid (fun w1 (h1 : Hash.Keys w1) (h2 : Cells w1 A (ps2.flatMap kc)) => leaf_calls A c ps2 w1 h1 h2 (by decide) (by decide +kernel))
  have hsl := slice_all A c hc
  rw [right_ps2] at HL
  rw [show ps2.length = 2 from rfl] at HR HL
  simp only [Bool.not_true, putV_f] at HL
  rw [show (⟨(Hash.sha (leafB ps2)).toArray⟩ : ByteArray) = ob2.id from rfl, show (⟨(leafB ps2).toArray⟩ : ByteArray) = ob2.bytes from rfl] at HL
  rw [show oc ob2 = [.string ob2.id, .string ob2.bytes] from rfl]
  generalize ob2.id = ID at *
  generalize ob2.bytes = BY at *
  clear hA hK
  go_enter Tryd.func9, Tryd.ntmps9
  go_wp2_with fail
  refine HR.out.mono ?_
  rintro e w1 ⟨rfl, hm1⟩
  have HM1 := Lib.hid hm1
  clear hm1 HR
  go_wp2_with fail
  refine (HG.out w1 (HA.out.keep HM1.out (fun _ _ h => h)) (HK.out.keep HM1.out (fun h => h))).mono ?_
  rintro e w2 ⟨vg, rfl, hvg, hm2⟩
  have hM2 := Mod.trans HM1.out hm2 (fun _ _ h => h)
  obtain ⟨Ag, cg, rfl, _, hcg, _, _⟩ := own_cells hvg
  have HM2 := Lib.hid hM2
  have HCG := Lib.hid hcg
  clear hm2 hM2 hvg hcg HM1 HG
  go_wp2_with fail
  go_loopw [5, 8, 9, 45] (fun ov lv fv iv wr => ∃ k : Nat, iv = .int .i64 k ∧ k ≤ 1 ∧ (k = 0 → ov = .slice none 0 0 ∧ lv = .slice none 0 0 ∧ fv = .int .i64 0) ∧ Hid (k = 1 → wr.ownsRow w.heap.size 59 2 ov 1 [.string ID, .string BY] ∧ wr.ownsRow w.heap.size 67 3 lv 1 [.string pB.key, .string ID, .int .i64 2]) ∧ Hid (Mod (fun _ => False) w2 wr)) (fun _ _ _ i _ => 1 - (intOf i).toNat)
  case atStart => exact ⟨0, by go_num, by omega, fun _ => ⟨rfl, rfl, by go_num⟩, Lib.hid (fun h => by omega), Lib.hid (Mod.refl _ _)⟩
  case round =>
    obtain ⟨k, rfl, hk, h2, HV, HM⟩ := hrel
    rcases (show k = 0 ∨ k = 1 by omega) with rfl | rfl
    · obtain ⟨rfl, rfl, rfl⟩ := h2 rfl
      rcases HCG.out.keep HM.out (fun _ _ h => h) with h | ⟨bg, og, rfl, hcg⟩
      · cases h
      have x0 : wr.cell? ⟨bg, og, none⟩ = some (.int .i64 2) := hcg 0 _ rfl
      have hMw := Mod.trans HM2.out HM.out (fun _ _ h => h)
      have HLL := Lib.hid (HL.out wr (HK.out.keep hMw (fun h => h)) (HA.out.keep hMw (fun _ _ h => h)))
      have HMW := Lib.hid hMw
      clear hcg hMw h2 HL
      go_wp2_with fail
      refine HLL.out.mono ?_
      rintro e w3 ⟨rfl, hm3⟩
      have hM3 := (Mod.trans HMW.out hm3 (fun _ _ h => h)).alloc (.cells #[.string ID, .string BY] 59)
      have hM3' := (Mod.trans HM.out hm3 (fun _ _ h => h)).alloc (.cells #[.string ID, .string BY] 59)
      have hbo := Has.new w3 [.string ID, .string BY] 59
      have z0 := hbo.cell (o := 0) rfl
      have z1 := hbo.cell (o := 1) rfl
      have HM3 := Lib.hid hM3
      have HM3' := Lib.hid hM3'
      have HBO := Lib.hid hbo
      clear hm3 hM3 hM3' hbo HLL
      go_wp2_with (first
        | (at_builtin
           (refine appG (.tmp 57) (.tmp 59) obj_t w.heap.size (.slice none 0 0) 0 [] (World.ownsRow_nil _ _ _ _) (some ⟨w3.heap.size + 1, 0, none⟩) 1 1 [.string ID, .string BY] rfl rfl rfl (by simp [Act.eval]) rfl (cells_lit (by simp)) (by intro u hu; simp at hu; rcases hu with rfl | rfl <;> rfl) (by omega) (by unfold maxLen; omega) (by have := HM3.out.size; simp at this ⊢; omega) ?_; intro v5 w5 ho5 hm5 hr5)
           have hM5 : Mod (fun _ => False) w w5 := Mod.trans (HM3.out.alloc (.cells #[.string ID, .string BY] 59)) hm5 (fun i hi h => by cases h)
           have hM5' : Mod (fun _ => False) w2 w5 := Mod.trans (HM3'.out.alloc (.cells #[.string ID, .string BY] 59)) hm5 (fun i hi h => by cases h)
           have hbo5 := (HBO.out.alloc (.cells #[.string ID, .string BY] 59)).keep hm5 (fun h => by cases h)
           have HM5 := Lib.hid hM5
           have HM5' := Lib.hid hM5'
           have HO5 : Hid (w5.ownsRow w.heap.size 59 2 v5 1 [.string ID, .string BY]) := Lib.hid (by simpa using ho5)
           have HBO5 := Lib.hid hbo5
           clear hm5 hr5 ho5 hM5 hM5' hbo5))
      obtain ⟨A5, c5, rfl, _, _, _, _⟩ := own_cells HO5.out
      rcases HA.out.keep HM5.out (fun _ _ h => h) with h | ⟨ba, o, rfl, hpc⟩
      · cases h
      have y0 : w5.cell? ⟨ba, o + 2, none⟩ = some (.string pB.key) := hpc 2 _ rfl
      have hbl : ba < w5.heap.size := World.block_lt_of_cell? w5 _ y0
      have fp := fun (w' : World) (m : Mod (fun _ => False) w5.drew w') => ((Mod.of_drew_l m).cell (p := ⟨ba, o + 2, none⟩) hbl (fun h => h)).trans y0
      have fo := fun (w' : World) (m : Mod (fun _ => False) w5.drew w') => ((Mod.of_drew_l m).cell (p := ⟨w3.heap.size, 0, none⟩) HBO5.out.lt (fun h => h)).trans (HBO5.out.cell (o := 0) rfl)
      have hw1 : IntKind.i64.wrap 1 = 1 := by decide
      have hw2 : IntKind.i64.wrap 2 = 2 := by decide
      clear hpc y0
      refine region_mT (fun _ => False) (by kernel_rfl) ?_
      simp only [List.length_cons, List.length_nil, List.replicate]
      refine take0T (v := ?v1) (oi := ?o1) 0 ?hi1 (by kernel_rfl) (by kernel_rfl) (by kernel_rfl) ?hq1 ?hy1 ?_
      case hi1 => (simp only [List.getElem?_toArray, List.getElem?_cons_zero, List.getElem?_cons_succ]; rfl)
      case hq1 => exact fun _ _ _ h => h
      case hy1 => first | (refine ry_notT ?_; rfl) | (refine ry_runF (by rfl) (by rfl) (fun w' => ?_); go_simp; try rfl) | (refine ry_runT (by rfl) (by rfl) (fun w' hw' => ?_); go_simp; try rfl)
      simp only [Act.put, List.setIfInBounds_toArray, List.set_cons_zero, List.set_cons_succ]
      refine take0T (v := ?v2) (oi := ?o2) 1 ?hi2 (by kernel_rfl) (by kernel_rfl) (by kernel_rfl) ?hq2 ?hy2 ?_
      case hi2 => (simp only [List.getElem?_toArray, List.getElem?_cons_zero, List.getElem?_cons_succ]; rfl)
      case hq2 => exact fun _ _ _ h => h
      case hy2 => first | (refine ry_notT ?_; rfl) | (refine ry_runF (by rfl) (by rfl) (fun w' => ?_); go_simp; try rfl) | (refine ry_runT (by rfl) (by rfl) (fun w' hw' => ?_); go_simp; try rfl)
      simp only [Act.put, List.setIfInBounds_toArray, List.set_cons_zero, List.set_cons_succ]
      refine take0T (v := ?v3) (oi := ?o3) 2 ?hi3 (by kernel_rfl) (by kernel_rfl) (by kernel_rfl) ?hq3 ?hy3 ?_
      case hi3 => (simp only [List.getElem?_toArray, List.getElem?_cons_zero, List.getElem?_cons_succ]; rfl)
      case hq3 => exact fun _ _ _ h => h
      case hy3 => first | (refine ry_notT ?_; rfl) | (refine ry_runF (by rfl) (by rfl) (fun w' => ?_); go_simp; try rfl) | (refine ry_runT (by rfl) (by rfl) (fun w' hw' => ?_); go_simp; try rfl)
      simp only [Act.put, List.setIfInBounds_toArray, List.set_cons_zero, List.set_cons_succ]
      refine take0T (v := ?v4) (oi := ?o4) 3 ?hi4 (by kernel_rfl) (by kernel_rfl) (by kernel_rfl) ?hq4 ?hy4 ?_
      case hi4 => (simp only [List.getElem?_toArray, List.getElem?_cons_zero, List.getElem?_cons_succ]; rfl)
      case hq4 => exact fun _ _ _ h => h
      case hy4 => first | (refine ry_notT ?_; rfl) | (refine ry_runF (by rfl) (by rfl) (fun w' => ?_); go_simp; try rfl) | (refine ry_runT (by rfl) (by rfl) (fun w' hw' => ?_); go_simp; try rfl)
      simp only [Act.put, List.setIfInBounds_toArray, List.set_cons_zero, List.set_cons_succ]
      refine take0T (v := ?v5) (oi := ?o5) 4 ?hi5 (by kernel_rfl) (by kernel_rfl) (by kernel_rfl) ?hq5 ?hy5 ?_
      case hi5 => (simp only [List.getElem?_toArray, List.getElem?_cons_zero, List.getElem?_cons_succ]; rfl)
      case hq5 => exact fun _ _ _ h => h
      case hy5 => first | (refine ry_notT ?_; rfl) | (refine ry_runF (by rfl) (by rfl) (fun w' => ?_); go_simp; try rfl) | (refine ry_runT (by rfl) (by rfl) (fun w' hw' => ?_); go_simp; try rfl)
      simp only [Act.put, List.setIfInBounds_toArray, List.set_cons_zero, List.set_cons_succ]
      refine take0T (v := ?v6) (oi := ?o6) 5 ?hi6 (by kernel_rfl) (by kernel_rfl) (by kernel_rfl) ?hq6 ?hy6 ?_
      case hi6 => (simp only [List.getElem?_toArray, List.getElem?_cons_zero, List.getElem?_cons_succ]; rfl)
      case hq6 => exact fun _ _ _ h => h
      case hy6 => first | (refine ry_notT ?_; rfl) | (refine ry_runF (by rfl) (by rfl) (fun w' => ?_); go_simp; try rfl) | (refine ry_runT (by rfl) (by rfl) (fun w' hw' => ?_); go_simp; try rfl)
      simp only [Act.put, List.setIfInBounds_toArray, List.set_cons_zero, List.set_cons_succ]
      refine take0T (v := ?v7) (oi := ?o7) 6 ?hi7 (by kernel_rfl) (by kernel_rfl) (by kernel_rfl) ?hq7 ?hy7 ?_
      case hi7 => (simp only [List.getElem?_toArray, List.getElem?_cons_zero, List.getElem?_cons_succ]; rfl)
      case hq7 => exact fun _ _ _ h => h
      case hy7 => first | (refine ry_notT ?_; rfl) | (refine ry_runF (by rfl) (by rfl) (fun w' => ?_); go_simp; try rfl) | (refine ry_runT (by rfl) (by rfl) (fun w' hw' => ?_); go_simp; try rfl)
      simp only [Act.put, List.setIfInBounds_toArray, List.set_cons_zero, List.set_cons_succ]
      refine take0T (v := ?v8) (oi := ?o8) 7 ?hi8 (by kernel_rfl) (by kernel_rfl) (by kernel_rfl) ?hq8 ?hy8 ?_
      case hi8 => (simp only [List.getElem?_toArray, List.getElem?_cons_zero, List.getElem?_cons_succ]; rfl)
      case hq8 => exact fun _ _ _ h => h
      case hy8 => first | (refine ry_notT ?_; rfl) | (refine ry_runF (by rfl) (by rfl) (fun w' => ?_); go_simp; try rfl) | (refine ry_runT (by rfl) (by rfl) (fun w' hw' => ?_); go_simp; try rfl)
      simp only [Act.put, List.setIfInBounds_toArray, List.set_cons_zero, List.set_cons_succ]
      refine take0T (v := ?v9) (oi := ?o9) 8 ?hi9 (by kernel_rfl) (by kernel_rfl) (by kernel_rfl) ?hq9 ?hy9 ?_
      case hi9 => (simp only [List.getElem?_toArray, List.getElem?_cons_zero, List.getElem?_cons_succ]; rfl)
      case hq9 => exact fun _ _ _ h => h
      case hy9 => first | (refine ry_notT ?_; rfl) | (refine ry_runF (by rfl) (by rfl) (fun w' => ?_); go_simp; try rfl) | (refine ry_runT (by rfl) (by rfl) (fun w' hw' => ?_); go_simp; try rfl)
      simp only [Act.put, List.setIfInBounds_toArray, List.set_cons_zero, List.set_cons_succ]
      refine take0T (v := ?v10) (oi := ?o10) 9 ?hi10 (by kernel_rfl) (by kernel_rfl) (by kernel_rfl) ?hq10 ?hy10 ?_
      case hi10 => (simp only [List.getElem?_toArray, List.getElem?_cons_zero, List.getElem?_cons_succ]; rfl)
      case hq10 => exact fun _ _ _ h => h
      case hy10 => first | (refine ry_notT ?_; rfl) | (refine ry_runF (by rfl) (by rfl) (fun w' => ?_); go_simp; try rfl) | (refine ry_runT (by rfl) (by rfl) (fun w' hw' => ?_); go_simp; try rfl)
      simp only [Act.put, List.setIfInBounds_toArray, List.set_cons_zero, List.set_cons_succ]
      refine take0T (v := ?v11) (oi := ?o11) 10 ?hi11 (by kernel_rfl) (by kernel_rfl) (by kernel_rfl) ?hq11 ?hy11 ?_
      case hi11 => (simp only [List.getElem?_toArray, List.getElem?_cons_zero, List.getElem?_cons_succ]; rfl)
      case hq11 => exact fun _ _ _ h => h
      case hy11 => first | (refine ry_notT ?_; rfl) | (refine ry_runF (by rfl) (by rfl) (fun w' => ?_); go_simp; try rfl) | (refine ry_runT (by rfl) (by rfl) (fun w' hw' => ?_); go_simp; try rfl)
      simp only [Act.put, List.setIfInBounds_toArray, List.set_cons_zero, List.set_cons_succ]
      refine take0T (v := ?v12) (oi := ?o12) 11 ?hi12 (by kernel_rfl) (by kernel_rfl) (by kernel_rfl) ?hq12 ?hy12 ?_
      case hi12 => (simp only [List.getElem?_toArray, List.getElem?_cons_zero, List.getElem?_cons_succ]; rfl)
      case hq12 => exact fun _ _ _ h => h
      case hy12 => first | (refine ry_notT ?_; rfl) | (refine ry_runF (by rfl) (by rfl) (fun w' => ?_); go_simp; try rfl) | (refine ry_runT (by rfl) (by rfl) (fun w' hw' => ?_); go_simp; try rfl)
      simp only [Act.put, List.setIfInBounds_toArray, List.set_cons_zero, List.set_cons_succ]
      refine take0T (v := ?v13) (oi := ?o13) 12 ?hi13 (by kernel_rfl) (by kernel_rfl) (by kernel_rfl) ?hq13 ?hy13 ?_
      case hi13 => (simp only [List.getElem?_toArray, List.getElem?_cons_zero, List.getElem?_cons_succ]; rfl)
      case hq13 => exact fun _ _ _ h => h
      case hy13 => first | (refine ry_notT ?_; rfl) | (refine ry_runF (by rfl) (by rfl) (fun w' => ?_); go_simp; try rfl) | (refine ry_runT (by rfl) (by rfl) (fun w' hw' => ?_); go_simp; try rfl)
      simp only [Act.put, List.setIfInBounds_toArray, List.set_cons_zero, List.set_cons_succ]
      refine step0T (o := ?o14) 13 (by kernel_rfl) ?hi14 ?hw14 ?_
      case hi14 => (simp only [List.getElem?_toArray, List.getElem?_cons_zero, List.getElem?_cons_succ]; rfl)
      case hw14 => rfl
      go_simp
      refine ⟨.inl (Mod.alloc (Mod.refl _ _) _), ?_⟩
      refine step0T (o := ?o15) 14 (by kernel_rfl) ?hi15 ?hw15 ?_
      case hi15 => (simp only [List.getElem?_toArray, List.getElem?_cons_zero, List.getElem?_cons_succ]; rfl)
      case hw15 => rfl
      refine appG_step (.tmp 61) (.tmp 74) link_t w.heap.size (.slice none 0 0) 0 [] (World.ownsRow_nil _ _ _ _) (some ⟨w5.heap.size, 0, none⟩) 1 1 [.string pB.key, .string ID, .int .i64 2] rfl rfl rfl rfl (cells_lit (w := w5.drew) rfl) (by intro u hu; simp at hu; rcases hu with rfl | rfl | rfl <;> rfl) (by omega) (by unfold maxLen; omega) (by have := HM5.out.size; simp; omega) ?_
      intro v6 w6 ho6 hm6 hr6
      refine ⟨.inl (hm6.mono fun _ _ h => by cases h), ?_⟩
      simp only [Act.put, List.setIfInBounds_toArray, List.set_cons_zero, List.set_cons_succ]
      refine take0T (v := ?v16) (oi := ?o16) 15 ?hi16 (by kernel_rfl) (by kernel_rfl) (by kernel_rfl) ?hq16 ?hy16 ?_
      case hi16 => (simp only [List.getElem?_toArray, List.getElem?_cons_zero, List.getElem?_cons_succ]; rfl)
      case hq16 => exact fun _ _ _ h => h
      case hy16 => first | (refine ry_notT ?_; rfl) | (refine ry_runF (by rfl) (by rfl) (fun w' => ?_); go_simp; try rfl) | (refine ry_runT (by rfl) (by rfl) (fun w' hw' => ?_); go_simp; try rfl)
      simp only [Act.put, List.setIfInBounds_toArray, List.set_cons_zero, List.set_cons_succ]
      refine wpAnyT_done (by kernel_rfl) ?_
      have hm56 : Mod (fun _ => False) w5 w6 := Mod.trans (((Mod.refl (fun _ => False) w5).drew).alloc (.cells #[.string pB.key, .string ID, .int .i64 2] 67)) hm6 (fun i hi h => by cases h)
      have hv1 : w6.ownsRow w.heap.size 59 2 (.slice A5 1 c5) 1 [.string ID, .string BY] := own_keep HO5.out hm56 (fun _ _ _ h => h)
      have hv2 : w6.ownsRow w.heap.size 67 3 v6 1 [.string pB.key, .string ID, .int .i64 2] := by simpa using ho6
      have HV1 := Lib.hid hv1
      have HV2 := Lib.hid hv2
      have HM6 := Lib.hid (Mod.trans HM5'.out hm56 (fun _ _ h => h))
      clear hm56 hv1 hv2 ho6 hm6 hr6 fp fo
      go_wp2_with fail
      go_roundw
      case rel => exact ⟨1, by go_num, by omega, fun h => by omega, Lib.hid (fun _ => ⟨HV1.out, HV2.out⟩), HM6⟩
      case measure => simp [intOf]
    · obtain ⟨hv1, hv2⟩ := HV.out rfl
      obtain ⟨A1, c1, rfl, _, hc1, _, _⟩ := own_cells hv1
      obtain ⟨A2, c2, rfl, _, hc2, _, _⟩ := own_cells hv2
      rcases hc2 with h | ⟨b2, o2, rfl, hl2⟩
      · cases h
      have x1 : wr.cell? ⟨b2, o2 + 1, none⟩ = some (.string ID) := hl2 1 _ rfl
      have HV1 := Lib.hid hv1
      have HMW := Lib.hid (Mod.trans HM2.out HM.out (fun _ _ h => h))
      clear hl2 hc1 hv1 hv2 HV h2
      go_wp2_with fail
      obtain ⟨W, hW⟩ : ∃ W, wr = W := ⟨_, rfl⟩
      rw [hW] at x1 HV1 HMW ⊢
      clear hW
      go_loopw [5, 8, 14] (fun ov kv lv wr => ov = .slice A1 1 c1 ∧ kv = .slice (some ⟨b2, o2, none⟩) 1 c2 ∧ lv = .int .i64 1 ∧ wr = W) (fun _ _ _ _ => 0)
      case atStart => exact ⟨rfl, rfl, by go_num, rfl⟩
      case round =>
        obtain ⟨rfl, rfl, rfl, rfl⟩ := hrel
        go_wp2_with fail
        refine bodyPost_ret (v := .tuple #[.string ID, .slice A1 1 c1, .int .i64 0]) (by simp [results, Tryd.results9, go_sem]) rfl ⟨_, rfl, HV1.out, HMW.out⟩
end Prolly
end Go.Proofs.YtpoljpjcmigobaaDoor
/- What the statements on maps have in common: who answers, the document's example. -/
namespace Go.Proofs.YtpoljpjcmigobaaDoor
set_option linter.unusedVariables false
set_option linter.unusedSimpArgs false
open Go.RowKit K Wire
namespace Prolly
open Go.Proofs.YtpoljpjcmigobaaDoor.Obj Go.Proofs.YtpoljpjcmigobaaDoor.Blob

set_option maxRecDepth 100000 in
theorem from_mk (A : Option Addr) (n c : Nat) (w : World) : Calls Tryd.prog 21 #[.slice A n c] w fun e w' => e = .returned (.func (.func 47) #[] #[.pointer (some ⟨w.heap.size, 0, none⟩)]) ∧ w' = w.alloc (.cells #[.slice A n c] 25) := by
  go_enter Tryd.func21, Tryd.ntmps21
  go_wp2_with fail
  go_ret
  exact ⟨rfl, rfl⟩
set_option maxRecDepth 100000 in
theorem asked_mk (A : Option Addr) (n c b0 : Nat) (w : World) : Calls Tryd.prog 13 #[.slice A n c, .pointer (some ⟨b0, 0, none⟩)] w fun e w' => e = .returned (.func (.func 42) #[] #[.pointer (some ⟨w.heap.size + 1, 0, none⟩), .pointer (some ⟨w.heap.size, 0, none⟩)]) ∧
    w' = (w.alloc (.cells #[.slice A n c] 25)).alloc (.cells #[.pointer (some ⟨b0, 0, none⟩)] 37) := by
  go_enter Tryd.func13, Tryd.ntmps13
  go_wp2_with fail
  go_ret
  exact ⟨rfl, rfl⟩
theorem text_cell {w : World} {ba o : Nat} {ss : List ByteArray} (h : ∀ j u, (ss.map Value.string)[j]? = some u → w.cell? ⟨ba, o + j, none⟩ = some u) (k : Nat) (hk : k < ss.length) : w.cell? ⟨ba, o + k, none⟩ = some (.string ss[k]) := h k _ (by simp [hk])
set_option maxRecDepth 100000 in
set_option maxHeartbeats 1000000 in
theorem sameTexts_calls (A A' : Option Addr) (c c' : Nat) (ss : List ByteArray) (w : World) (hA : Cells w A (ss.map .string)) (hA' : Cells w A' (ss.map .string)) (hc : ss.length ≤ 100000000) :
    Calls Tryd.prog 15 #[.slice A ss.length c, .slice A' ss.length c'] w fun e w' => e = .returned (.bool true) ∧ Mod (fun _ => False) w w' := by
  have HA := Lib.hid hA
  have HA' := Lib.hid hA'
  clear hA hA'
  go_enter Tryd.func15, Tryd.ntmps15
  go_wp2_with fail
  go_loopw [5] (fun i wr => ∃ (k : Nat), i = .int .i64 k ∧ k ≤ ss.length ∧ Hid (Mod (fun _ => False) w wr)) (fun i _ => ss.length - (intOf i).toNat)
  case atStart => exact ⟨0, by go_num, by omega, Lib.hid (Mod.refl _ _)⟩
  case round =>
    obtain ⟨k, rfl, hk, HM⟩ := hrel
    by_cases hlt : k < ss.length
    · have i1 : (k : Int) < (ss.length : Int) := by omega
      have i0 : (0 : Int) ≤ (k : Int) := by omega
      rcases HA.out.keep HM.out (fun _ _ h => h) with h | ⟨ba, o, rfl, hcell⟩
      · have : ss = [] := by simpa using h
        subst this; simp at hlt
      rcases HA'.out.keep HM.out (fun _ _ h => h) with h | ⟨ba', o', rfl, hcell'⟩
      · have : ss = [] := by simpa using h
        subst this; simp at hlt
      have a0 := text_cell hcell k hlt
      have b0 := text_cell hcell' k hlt
      generalize ss[k] = p at *
      clear hcell hcell'
      go_wp2_with fail
      go_quiet (fail)
      go_wp2_with fail
      go_roundw
      case rel => exact ⟨k + 1, by go_num, by omega, Lib.hid (HM.out.drewN _)⟩
      case measure => simp [intOf]; omega
    · have i1 : ¬ (k : Int) < (ss.length : Int) := by omega
      go_wp2_with fail
      go_ret
      exact ⟨rfl, HM.out⟩

theorem cells_low {w : World} {A : Option Addr} {xs : List Value} (h : Cells w A xs) (hne : xs ≠ []) : ∀ ad, A = some ad → ad.block < w.heap.size := fun ad ha => by
  rcases h with h | ⟨b, o, rfl, hc⟩
  · exact absurd h hne
  · injection ha with ha
    subst ha
    obtain ⟨u, hu⟩ : ∃ u, xs[0]? = some u := by
      cases xs with
      | nil => exact absurd rfl hne
      | cons u l => exact ⟨u, rfl⟩
    exact World.block_lt_of_cell? w _ (hc 0 u hu)
theorem node_ob2 : pnodeOf [ob2] (link0 ob2.id) (-1) = .leaf ps2 := by
  have hf : findL [ob2] (link0 ob2.id).id = some ob2.bytes := by
    unfold findL
    rw [if_pos (show ob2.id = (link0 ob2.id).id from rfl)]
  obtain ⟨h1, h2⟩ := leaf_complete ps2 right_ps2
  unfold pnodeOf
  rw [hf]
  show pnodeB ob2.bytes _ _ = _
  rw [pnodeB_eq]
  have e : ob2.bytes.data.toList = leafB ps2 := rfl
  rw [e, if_pos h1, h2, if_pos]
  rfl
set_option maxRecDepth 100000 in
theorem find_ob2 : findR [ob2] ob2.id ⟨#[98]⟩ = ⟨⟨#[50]⟩, true, [ob2.id], 0⟩ := by
  unfold findR
  rw [if_pos (by decide), node_ob2, fin_leaf _ _ _ _ _ (by omega)]
  have hv : valOf ps2 ⟨#[98]⟩ = some ⟨#[50]⟩ := by
    have hr : rises (ps2.map (·.key)) = true := by decide +kernel
    exact (valOf_hit hr (i := 1) (by decide) rfl).1
  rw [hv]
theorem obs_ob2 : ObsOk [ob2] := ⟨by decide, fun o ho => by obtain rfl := List.mem_singleton.1 ho; decide +kernel⟩
set_option maxRecDepth 100000 in
set_option maxHeartbeats 4000000 in
theorem shown_calls (w : World) (hK : Hash.Keys w) : Calls Tryd.prog 7 #[] w fun e w' => e = .returned (.bool true) ∧ Mod (fun _ => False) w w' := by
  have hm0 := (Mod.refl (fun _ => False) w).alloc (.cells #[.string pA.key, .string pA.val, .string pB.key, .string pB.val] 48)
  have hb := build2_calls (some ⟨w.heap.size, 0, none⟩) 2 _ (cells_lit (w := w) (cs := ps2.flatMap kc) (T := 48) rfl) (hK.keep hm0 (fun h => h)) (Nat.le_refl _)
  have hfd := fun (w2 : World) (b2 : Nat) (A : Option Addr) (c : Nat) (hG : Gs (fromF b2 b2 A c [ob2]) w2 (fun k => k < w2.heap.size) [] w2) => pFind_calls (fromF_ok b2 b2 A c [ob2]) obs_ob2 ob2.id ⟨#[98]⟩ w2 hG (Nat.le_refl _)
  unfold FindPost at hfd
  rw [find_ob2] at hfd
  dsimp only [fromF] at hfd
  have HB := Lib.hid hb
  have HFD := Lib.hid hfd
  have HM0 := Lib.hid hm0
  obtain ⟨OO, hOO⟩ : ∃ OO, ob2 = OO := ⟨_, rfl⟩
  rw [hOO] at HB HFD
  clear hb hfd hOO hm0 hK
  go_enter Tryd.func7, Tryd.ntmps7
  go_wp2_with fail
  refine HB.out.mono ?_
  rintro e w1 ⟨v, rfl, ho, hm⟩
  obtain ⟨A1, c1, rfl, _, hcl, _, _⟩ := own_cells ho
  have hM1 := Mod.trans HM0.out hm (fun _ _ h => h)
  have HM1 := Lib.hid hM1
  have HCL : Hid (Cells w1 A1 ([OO].flatMap oc)) := Lib.hid (by simpa using hcl)
  clear hm hM1 ho hcl HB HM0
  go_wp2_with fail
  refine (from_mk _ _ _ _).mono ?_
  rintro e w2 ⟨rfl, rfl⟩
  have hF : FromIs w1.heap.size w1.heap.size A1 c1 [OO] (w1.alloc (.cells #[.slice A1 1 c1] 25)) :=
    ⟨Has.lit rfl, HCL.out.alloc _, fun hne ad ha => cells_low HCL.out hne ad ha, by simp⟩
  have hG : Gs (fromF w1.heap.size w1.heap.size A1 c1 [OO]) (w1.alloc (.cells #[.slice A1 1 c1] 25)) (fun k => k < (w1.alloc (.cells #[.slice A1 1 c1] 25)).heap.size) [] (w1.alloc (.cells #[.slice A1 1 c1] 25)) :=
    ⟨⟨_, ⟨hF, rfl⟩, fun k hk => ⟨hk, fun h => h⟩⟩, fun k hk => (fromF_ok w1.heap.size w1.heap.size A1 c1 [OO]).lt [] _ _ k ⟨hF, rfl⟩ (.inr hk)⟩
  have HF := Lib.hid (HFD.out _ _ _ _ hG)
  clear hF hG HFD
  go_wp2_with fail
  refine HF.out.mono ?_
  rintro e w3 ⟨rfl, _, hm3⟩
  have HM3 := Lib.hid (Mod.trans (HM1.out.alloc (.cells #[.slice A1 1 c1] 25)) hm3 (fun i hi h => h (by have := HM1.out.size; simp; omega)))
  clear hm3
  go_wp2_with fail
  go_ret
  exact ⟨rfl, HM3.out⟩
end Prolly
end Go.Proofs.YtpoljpjcmigobaaDoor
