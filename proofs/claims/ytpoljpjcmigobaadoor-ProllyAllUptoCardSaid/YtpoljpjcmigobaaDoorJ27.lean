/- Joined texts: ProS, ProT, ProV. -/
import Derived.Test.YtpoljpjcmigobaaDoorJ26
import Derived.Test.YtpoljpjcmigobaaDoorJ12
import Derived.Test.YtpoljpjcmigobaaDoorJ6
import Derived.Deep.QuietTactic
import Derived.BigQuiet
/- The document's example: a map of two pairs; the walks of prolly's turns, groups, right, Build there. -/
namespace Go.Proofs.YtpoljpjcmigobaaDoor
set_option linter.unusedVariables false
set_option linter.unusedSimpArgs false
open Go.RowKit K Wire
namespace Prolly
open Go.Proofs.YtpoljpjcmigobaaDoor.Obj Go.Proofs.YtpoljpjcmigobaaDoor.Blob

def pA : Pair := ⟨⟨#[97]⟩, ⟨#[49]⟩⟩
def pB : Pair := ⟨⟨#[98]⟩, ⟨#[50]⟩⟩
def ps2 : List Pair := [pA, pB]
set_option maxRecDepth 1000000 in
theorem sha_a : ((Hash.sha [97]).getD 31 0).toNat % 16 = 11 := by decide +kernel
set_option maxRecDepth 1000000 in
theorem right_ps2 : rightLeaf ps2 = true := by decide +kernel
def ob2 : Ob := ⟨shaS (leafB ps2), ⟨(leafB ps2).toArray⟩⟩
theorem idx_s (s : ByteArray) (i : Nat) (h : i < s.size) (w : World) : (Instr.index 9 (.string s) (.int .i64 (i : Int))).run Tryd.prog w = .ok (.int .u8 ((s.data.toList.getD i 0).toNat : Int)) w := by
  rw [run_index_string w 9 _ .i64 (i : Int) Tryd.underlying9, dif_pos ⟨by omega, by omega⟩]
  have e : s[((i : Int)).toNat]'(by omega) = s.data.toList.getD i 0 := by
    simp only [Int.toNat_natCast]
    rw [List.getD_eq_getElem?_getD, List.getElem?_eq_getElem (by simpa using h)]
    rfl
  rw [e]
set_option maxRecDepth 100000 in
theorem keyOf_calls (p : Pair) (w : World) : Calls Tryd.prog 26 #[.agg #[.string p.key, .string p.val]] w fun e w' => e = .returned (.string p.key) ∧ Mod (fun _ => False) w w' := by
  go_enter Tryd.func26, Tryd.ntmps26
  go_wp2_with fail
  go_ret
  exact ⟨rfl, by (repeat (first | with_reducible exact Mod.refl _ _ | with_reducible apply Mod.drew | with_reducible apply Mod.drewN | with_reducible apply Mod.alloc | refine Mod.set1 ?_ (by first | exact rfl | simp) _ _))⟩
set_option maxRecDepth 100000 in
theorem turns_calls (w : World) (hK : Hash.Keys w) : Calls Tryd.prog 54 #[.string pA.key, .int .i64 0] w fun e w' => e = .returned (.bool false) ∧ Mod (fun _ => False) w w' := by
  have hm := (Mod.refl (fun _ => False) w).alloc (.cells #[.string pA.key] 9)
  have hs := Hash.sum_calls (some ⟨w.heap.size, 0, none⟩) 1 [pA.key] _ (hK.keep hm (fun h => h)) (cells_lit (cs := [.string pA.key]) rfl) (by simp) (by simp) (by decide)
  rw [show Hash.flat [pA.key] = [97] from rfl] at hs
  have h31 := idx_s ⟨(Hash.sha [97]).toArray⟩ 31 (by have := sha_len [97]; simpa [ByteArray.size] using (by omega : 31 < (Hash.sha [97]).length))
  have h11 := sha_a
  have hlen : (31 : Int) < ((Hash.sha [97]).length : Int) := by rw [sha_len]; decide
  generalize Hash.sha [97] = SH at *
  have HS := Lib.hid hs
  have HM := Lib.hid hm
  clear hs hm hK
  go_enter Tryd.func54, Tryd.ntmps54
  go_wp2_with fail
  refine HS.out.mono ?_
  rintro e w1 ⟨rfl, hm1⟩
  have HM1 := Lib.hid (Mod.trans HM.out hm1 (fun _ _ h => h))
  clear hm1
  go_wp2_with fail
  go_ret
  refine ⟨?_, HM1.out⟩
  have hx : ∀ h : 31 < (⟨SH.toArray⟩ : ByteArray).size, (((⟨SH.toArray⟩ : ByteArray)[31]'h).toNat : Int) % 16 = 11 := fun h => by
    have e : (⟨SH.toArray⟩ : ByteArray)[31]'h = SH.getD 31 0 := by
      rw [List.getD_eq_getElem?_getD, List.getElem?_eq_getElem (by simpa [ByteArray.size] using h)]
      rfl
    rw [e]
    omega
  simp [hx]
set_option maxRecDepth 100000 in
set_option maxHeartbeats 4000000 in
theorem right_calls (A : Option Addr) (c : Nat) (l : List Pair) (w : World) (hA : Cells w A (l.flatMap kc)) (hl : l.length ≤ 64) (hok : ∀ p ∈ l, 1 ≤ p.key.size ∧ p.key.size ≤ 64 ∧ p.val.size ≤ 128) (hr : rises (l.map (·.key)) = true) :
    Calls Tryd.prog 23 #[.slice A l.length c] w fun e w' => e = .returned (.bool true) ∧ Mod (fun _ => False) w w' := by
  have HA := Lib.hid hA
  have HO := Lib.hid hok
  have HR := Lib.hid hr
  clear hA hok hr
  go_enter Tryd.func23, Tryd.ntmps23
  go_wp2_with fail
  go_loopw [7] (fun i wr => ∃ k : Nat, i = .int .i64 k ∧ k ≤ l.length ∧ Hid (Mod (fun _ => False) w wr)) (fun i _ => l.length - (intOf i).toNat)
  case atStart => exact ⟨0, by go_num, by omega, Lib.hid (Mod.refl _ _)⟩
  case round =>
    obtain ⟨k, rfl, hk, HM⟩ := hrel
    by_cases hlt : k < l.length
    · have i1 : (k : Int) < (l.length : Int) := by omega
      rcases HA.out.keep HM.out (fun _ _ h => h) with h | ⟨ba, o, rfl, hcell⟩
      · have := flat_len kc_len l; rw [h] at this; simp at this; omega
      have x0 := hcell _ _ (flat_get kc_len l k 0 hlt (by omega))
      have x1 := hcell _ _ (flat_get kc_len l k 1 hlt (by omega))
      rw [Nat.add_zero] at x0
      rw [← Nat.add_assoc] at x1
      have hp := HO.out _ (List.getElem_mem hlt)
      have k0 : (0 : Int) ≤ (k : Int) := by omega
      by_cases hz : k = 0
      · subst hz
        obtain ⟨P, hP⟩ : ∃ P, l[0] = P := ⟨_, rfl⟩
        rw [hP] at x0 x1 hp
        have x0 : wr.cell? ⟨ba, o, none⟩ = some (.string P.key) := x0
        have x1 : wr.cell? ⟨ba, o + 1, none⟩ = some (.string P.val) := x1
        have e1 := str_full P.key (by omega)
        have e2 : ¬ (64 : Int) < (P.key.size : Int) := by omega
        have e3 : ¬ (128 : Int) < (P.val.size : Int) := by omega
        have d2 : decide ((64 : Int) < (P.key.size : Int)) = false := decide_eq_false e2
        have d3 : decide ((128 : Int) < (P.val.size : Int)) = false := decide_eq_false e3
        clear hcell hP hp
        have hb := Has.new wr [.string P.key, .string P.val] 48
        have hma := (Mod.refl (fun _ => False) wr).alloc (.cells #[.string P.key, .string P.val] 48)
        have g0 := fun (w' : World) (m : Mod0 (wr.alloc (.cells #[.string P.key, .string P.val] 48)).drew w') => ((Mod.of_drew_l m).cell (p := ⟨wr.heap.size, 0, none⟩) hb.lt (fun h => h)).trans (hb.cell (o := 0) rfl)
        have g1 := fun (w' : World) (m : Mod0 (wr.alloc (.cells #[.string P.key, .string P.val] 48)).drew w') => ((Mod.of_drew_l m).cell (p := ⟨wr.heap.size, 1, none⟩) hb.lt (fun h => h)).trans (hb.cell (o := 1) rfl)
        have HM2 := Lib.hid ((HM.out.alloc (.cells #[.string P.key, .string P.val] 48)).drew)
        clear hb hma
        go_wp2_with fail
        refine region_m (by kernel_rfl) ?_
        simp only [List.length_cons, List.length_nil, List.replicate]
        refine take1 0 ?_
        refine take1 1 ?_
        refine take1 2 ?_
        refine take1 3 ?_
        refine take1 4 ?_
        refine take1 5 ?_
        refine take1 6 ?_
        refine take1 7 ?_
        refine take1 8 ?_
        refine take1 9 ?_
        refine take1 10 ?_
        refine take1 11 ?_
        refine take1 12 ?_
        refine take1 13 ?_
        refine take1 14 ?_
        refine take1 15 ?_
        refine take1 16 ?_
        refine take1 17 ?_
        refine take1 18 ?_
        refine take1 19 ?_
        refine take1 20 ?_
        refine take1 21 ?_
        refine take1 22 ?_
        refine take1 23 ?_
        refine take1 24 ?_
        refine take1 25 ?_
        refine take1 26 ?_
        refine take1 27 ?_
        refine take1 28 ?_
        refine take1 29 ?_
        refine wpAnyM_done (by kernel_rfl) ?_
        go_wp2_with fail
        go_roundw
        case rel => exact ⟨1, by go_num, by omega, HM2⟩
        case measure => simp [intOf]; omega
      · obtain ⟨q, rfl⟩ : ∃ q, k = q + 1 := ⟨k - 1, by omega⟩
        have y0 := hcell _ _ (flat_get kc_len l q 0 (by omega) (by omega))
        rw [Nat.add_zero] at y0
        have hbl : ba < wr.heap.size := World.block_lt_of_cell? wr _ y0
        have hq := rises_lt2 HR.out (show q < q + 1 by omega) (by simpa using hlt)
        have g3 : (l.map (·.key)).getD q ByteArray.empty = l[q].key := by simp [List.getD, show q < l.length by omega]
        have g4 : (l.map (·.key)).getD (q + 1) ByteArray.empty = l[q + 1].key := by simp [List.getD, hlt]
        rw [g3, g4] at hq
        clear g3 g4
        obtain ⟨P, hP⟩ : ∃ P, l[q + 1] = P := ⟨_, rfl⟩
        obtain ⟨R, hRR⟩ : ∃ R, l[q] = R := ⟨_, rfl⟩
        rw [hP] at x0 x1 hp hq
        rw [hRR] at y0 hq
        have e0 : Go.Op.bytesLess R.key.toList P.key.toList = true := hq
        have e1 := str_full P.key (by omega)
        have e2 : ¬ (64 : Int) < (P.key.size : Int) := by omega
        have e3 : ¬ (128 : Int) < (P.val.size : Int) := by omega
        have d2 : decide ((64 : Int) < (P.key.size : Int)) = false := decide_eq_false e2
        have d3 : decide ((128 : Int) < (P.val.size : Int)) = false := decide_eq_false e3
        have w1 : IntKind.i64.wrap (q : Int) = (q : Int) := by rw [IntKind.wrap_i64]; omega
        have q0 : (0 : Int) ≤ (q : Int) := by omega
        have q1 : (q : Int) < (l.length : Int) := by omega
        have q2 : (0 : Int) < (q : Int) + 1 := by omega
        have d4 : decide ((0 : Int) < (q : Int) + 1) = true := decide_eq_true q2
        clear hcell hP hRR hp hq
        have hb := Has.new wr [.string P.key, .string P.val] 48
        have hma := (Mod.refl (fun _ => False) wr).alloc (.cells #[.string P.key, .string P.val] 48)
        have g0 := fun (w' : World) (m : Mod0 (wr.alloc (.cells #[.string P.key, .string P.val] 48)).drew w') => ((Mod.of_drew_l m).cell (p := ⟨wr.heap.size, 0, none⟩) hb.lt (fun h => h)).trans (hb.cell (o := 0) rfl)
        have g1 := fun (w' : World) (m : Mod0 (wr.alloc (.cells #[.string P.key, .string P.val] 48)).drew w') => ((Mod.of_drew_l m).cell (p := ⟨wr.heap.size, 1, none⟩) hb.lt (fun h => h)).trans (hb.cell (o := 1) rfl)
        have HM2 := Lib.hid ((HM.out.alloc (.cells #[.string P.key, .string P.val] 48)).drew)
        have g5 := fun (w' : World) (m : Mod0 (wr.alloc (.cells #[.string P.key, .string P.val] 48)).drew w') => ((Mod.trans hma (Mod.of_drew_l m) (fun _ _ h => h)).cell (p := ⟨ba, o + q * 2, none⟩) hbl (fun h => h)).trans y0
        clear hb hma
        go_wp2_with fail
        refine region_m (by kernel_rfl) ?_
        simp only [List.length_cons, List.length_nil, List.replicate]
        refine take1 0 ?_
        refine take1 1 ?_
        refine take1 2 ?_
        refine take1 3 ?_
        refine take1 4 ?_
        refine take1 5 ?_
        refine take1 6 ?_
        refine take1 7 ?_
        refine take1 8 ?_
        refine take1 9 ?_
        refine take1 10 ?_
        refine take1 11 ?_
        refine take1 12 ?_
        refine take1 13 ?_
        refine take1 14 ?_
        refine take1 15 ?_
        refine take1 16 ?_
        refine take1 17 ?_
        refine take1 18 ?_
        refine take1 19 ?_
        refine take1 20 ?_
        refine take1 21 ?_
        refine take1 22 ?_
        refine take1 23 ?_
        refine take1 24 ?_
        refine take1 25 ?_
        refine take1 26 ?_
        refine take1 27 ?_
        refine take1 28 ?_
        refine take1 29 ?_
        refine wpAnyM_done (by kernel_rfl) ?_
        go_wp2_with fail
        go_roundw
        case rel => exact ⟨q + 1 + 1, by go_num, by omega, HM2⟩
        case measure => simp [intOf]; omega
    · have i1 : ¬ (k : Int) < (l.length : Int) := by omega
      go_wp2_with fail
      go_ret
      exact ⟨rfl, HM.out⟩
set_option maxRecDepth 100000 in
theorem ints_t : SliceT Tryd.prog 63 3 1 8 := ⟨Tryd.underlying63, by decide, _, .int .i64 0, rfl, rfl, rfl, rfl, rfl⟩
set_option maxRecDepth 100000 in
set_option maxHeartbeats 4000000 in
theorem groups_calls (A : Option Addr) (c : Nat) (w : World) (hA : Cells w A (ps2.flatMap kc)) (hK : Hash.Keys w) :
    Calls Tryd.prog 25 #[.slice A 2 c, .int .i64 0, .func (.func 26) #[] #[]] w fun e w' => ∃ v, e = .returned v ∧ w'.ownsRow w.heap.size 3 1 v 1 [.int .i64 2] ∧ Mod (fun _ => False) w w' := by
  have HA := Lib.hid hA
  have HK := Lib.hid hK
  clear hA hK
  go_enter Tryd.func25, Tryd.ntmps25
  go_wp2_with fail
  go_loopw [7, 8, 14] (fun ov fv iv wr => ∃ k : Nat, iv = .int .i64 k ∧ k ≤ 2 ∧ (k < 2 → ov = .slice none 0 0 ∧ fv = .int .i64 0) ∧ Hid (k = 2 → wr.ownsRow w.heap.size 3 1 ov 1 [.int .i64 2]) ∧ Hid (Mod (fun _ => False) w wr)) (fun _ _ i _ => 2 - (intOf i).toNat)
  case atStart => exact ⟨0, by go_num, by omega, fun _ => ⟨rfl, by go_num⟩, Lib.hid (fun h => by omega), Lib.hid (Mod.refl _ _)⟩
  case round =>
    obtain ⟨k, rfl, hk, h2, HV, HM⟩ := hrel
    rcases HA.out.keep HM.out (fun _ _ h => h) with h | ⟨ba, o, rfl, hcell⟩
    · cases h
    rcases (show k = 0 ∨ k = 1 ∨ k = 2 by omega) with rfl | rfl | rfl
    · obtain ⟨rfl, rfl⟩ := h2 (by omega)
      have x0 := hcell 0 (.string pA.key) rfl
      have x1 := hcell 1 (.string pA.val) rfl
      rw [Nat.add_zero] at x0
      have HP := Lib.hid (keyOf_calls pA)
      have HT := Lib.hid turns_calls
      clear hcell h2
      go_wp2_with fail
      refine (HP.out _).mono ?_
      rintro e w1 ⟨rfl, hm1⟩
      have hM1 := Mod.trans (HM.out.alloc _) hm1 (fun _ _ h => h)
      have HM1 := Lib.hid hM1
      clear hm1 hM1
      go_wp2_with fail
      refine (HT.out _ (HK.out.keep HM1.out (fun h => h))).mono ?_
      rintro e w2 ⟨rfl, hm2⟩
      have HM2 := Lib.hid (Mod.trans HM1.out hm2 (fun _ _ h => h))
      clear hm2
      go_wp2_with fail
      go_roundw
      case rel => exact ⟨1, by go_num, by omega, fun _ => ⟨rfl, by go_num⟩, Lib.hid (fun h => by omega), HM2⟩
      case measure => simp [intOf]
    · obtain ⟨rfl, rfl⟩ := h2 (by omega)
      have x0 := hcell 2 (.string pB.key) rfl
      have x1 := hcell 3 (.string pB.val) rfl
      clear hcell h2
      go_wp2_with (first
        | (at_builtin
           (refine appG (.tmp 47) (.tmp 50) ints_t w.heap.size (.slice none 0 0) 0 [] (World.ownsRow_nil _ _ _ _) (some ⟨wr.heap.size + 1, 0, none⟩) 1 1 [.int .i64 2] rfl rfl rfl (by simp [Act.eval]) rfl (cells_lit (by simp)) (by intro u hu; simp at hu; rcases hu with rfl; rfl) (by omega) (by unfold maxLen; omega) (by have := HM.out.size; simp; omega) ?_; intro v7 w7 ho7 hm7 hr7)
           have hM7 : Mod (fun _ => False) w w7 := Mod.trans ((HM.out.alloc _).alloc _) hm7 (fun i hi h => by cases h)
           have HM7 := Lib.hid hM7
           have HO7 := Lib.hid ho7
           clear hm7 hr7 ho7 hM7))
      go_roundw
      case rel => exact ⟨2, by go_num, by omega, fun h => by omega, Lib.hid (fun _ => by simpa using HO7.out), HM7⟩
      case measure => simp [intOf]
    · clear hcell h2
      go_wp2_with fail
      go_ret
      exact ⟨u7, rfl, HV.out trivial, HM.out⟩
end Prolly
end Go.Proofs.YtpoljpjcmigobaaDoor
/- The document's example: its map is built. -/
namespace Go.Proofs.YtpoljpjcmigobaaDoor
set_option linter.unusedVariables false
set_option linter.unusedSimpArgs false
open Go.RowKit K Wire
namespace Prolly
open Go.Proofs.YtpoljpjcmigobaaDoor.Obj Go.Proofs.YtpoljpjcmigobaaDoor.Blob

set_option maxRecDepth 100000 in
theorem obj_t : SliceT Tryd.prog 25 59 2 32 := ⟨Tryd.underlying25, by decide, _, .agg #[.string ByteArray.empty, .string ByteArray.empty], rfl, rfl, rfl, rfl, rfl⟩
set_option maxRecDepth 100000 in
theorem link_t : SliceT Tryd.prog 62 67 3 40 := ⟨Tryd.underlying62, by decide, _, .agg #[.string ByteArray.empty, .string ByteArray.empty, .int .i64 0], rfl, rfl, rfl, rfl, rfl⟩
set_option maxRecDepth 100000 in
theorem size_pair (w : World) : (sizeOf 48).run Tryd.prog w = .ok 2 w := by kernel_rfl
set_option maxRecDepth 100000 in
theorem slice_all (A : Option Addr) (c : Nat) (hc : 2 ≤ c) (w' : World) : (Instr.slice 22 (.slice A 2 c) (some (.int .i64 0)) (some (.int .i64 2)) none).run Tryd.prog w' = .ok (.slice A 2 c) w' := by
  have e2 : ¬ c = 0 := by omega
  simp only [Instr.slice, Instr.sliceBounds, Instr.sliceBound]
  simp [run_underlying Tryd.underlying22, asIntOf, size_pair, Result.andThen]
  rw [if_pos (by omega)]
  simp [e2]
  cases A with
  | none => rfl
  | some a => simp [Addr.add]
set_option maxRecDepth 100000 in
set_option maxHeartbeats 4000000 in
theorem build2_calls (A : Option Addr) (c : Nat) (w : World) (hA : Cells w A (ps2.flatMap kc)) (hK : Hash.Keys w) (hc : 2 ≤ c) :
    Calls Tryd.prog 9 #[.slice A 2 c] w fun e w' => ∃ v, e = .returned (.tuple #[.string ob2.id, v, .int .i64 0]) ∧ w'.ownsRow w.heap.size 59 2 v 1 (oc ob2) ∧ Mod (fun _ => False) w w' := by
  have HA := Lib.hid hA
  have HK := Lib.hid hK
  have HR := Lib.hid (right_calls A c ps2 w hA (by decide) (by decide) (by decide +kernel))
  have HG := Lib.hid (groups_calls A c)
  have HL := Lib.hid (fun w1 (h1 : Hash.Keys w1) (h2 : Cells w1 A (ps2.flatMap kc)) => leaf_calls A c ps2 w1 h1 h2 (by decide) (by decide +kernel))
  have hsl := slice_all A c hc
  rw [right_ps2] at HL
  rw [show ps2.length = 2 from rfl] at HR HL
  simp only [Bool.not_true, putV_f] at HL
  rw [show (⟨(Hash.sha (leafB ps2)).toArray⟩ : ByteArray) = ob2.id from rfl, show (⟨(leafB ps2).toArray⟩ : ByteArray) = ob2.bytes from rfl] at HL
  rw [show oc ob2 = [.string ob2.id, .string ob2.bytes] from rfl]
  generalize ob2.id = ID at *
  generalize ob2.bytes = BY at *
  clear hA hK
  go_enter Tryd.func9, Tryd.ntmps9
  go_wp2_with fail
  refine HR.out.mono ?_
  rintro e w1 ⟨rfl, hm1⟩
  have HM1 := Lib.hid hm1
  clear hm1 HR
  go_wp2_with fail
  refine (HG.out w1 (HA.out.keep HM1.out (fun _ _ h => h)) (HK.out.keep HM1.out (fun h => h))).mono ?_
  rintro e w2 ⟨vg, rfl, hvg, hm2⟩
  have hM2 := Mod.trans HM1.out hm2 (fun _ _ h => h)
  obtain ⟨Ag, cg, rfl, _, hcg, _, _⟩ := own_cells hvg
  have HM2 := Lib.hid hM2
  have HCG := Lib.hid hcg
  clear hm2 hM2 hvg hcg HM1 HG
  go_wp2_with fail
  go_loopw [5, 8, 9, 45] (fun ov lv fv iv wr => ∃ k : Nat, iv = .int .i64 k ∧ k ≤ 1 ∧ (k = 0 → ov = .slice none 0 0 ∧ lv = .slice none 0 0 ∧ fv = .int .i64 0) ∧ Hid (k = 1 → wr.ownsRow w.heap.size 59 2 ov 1 [.string ID, .string BY] ∧ wr.ownsRow w.heap.size 67 3 lv 1 [.string pB.key, .string ID, .int .i64 2]) ∧ Hid (Mod (fun _ => False) w2 wr)) (fun _ _ _ i _ => 1 - (intOf i).toNat)
  case atStart => exact ⟨0, by go_num, by omega, fun _ => ⟨rfl, rfl, by go_num⟩, Lib.hid (fun h => by omega), Lib.hid (Mod.refl _ _)⟩
  case round =>
    obtain ⟨k, rfl, hk, h2, HV, HM⟩ := hrel
    rcases (show k = 0 ∨ k = 1 by omega) with rfl | rfl
    · obtain ⟨rfl, rfl, rfl⟩ := h2 rfl
      rcases HCG.out.keep HM.out (fun _ _ h => h) with h | ⟨bg, og, rfl, hcg⟩
      · cases h
      have x0 : wr.cell? ⟨bg, og, none⟩ = some (.int .i64 2) := hcg 0 _ rfl
      have hMw := Mod.trans HM2.out HM.out (fun _ _ h => h)
      have HLL := Lib.hid (HL.out wr (HK.out.keep hMw (fun h => h)) (HA.out.keep hMw (fun _ _ h => h)))
      have HMW := Lib.hid hMw
      clear hcg hMw h2 HL
      go_wp2_with fail
      refine HLL.out.mono ?_
      rintro e w3 ⟨rfl, hm3⟩
      have hM3 := (Mod.trans HMW.out hm3 (fun _ _ h => h)).alloc (.cells #[.string ID, .string BY] 59)
      have hM3' := (Mod.trans HM.out hm3 (fun _ _ h => h)).alloc (.cells #[.string ID, .string BY] 59)
      have hbo := Has.new w3 [.string ID, .string BY] 59
      have z0 := hbo.cell (o := 0) rfl
      have z1 := hbo.cell (o := 1) rfl
      have HM3 := Lib.hid hM3
      have HM3' := Lib.hid hM3'
      have HBO := Lib.hid hbo
      clear hm3 hM3 hM3' hbo HLL
      go_wp2_with (first
        | (at_builtin
           (refine appG (.tmp 57) (.tmp 59) obj_t w.heap.size (.slice none 0 0) 0 [] (World.ownsRow_nil _ _ _ _) (some ⟨w3.heap.size + 1, 0, none⟩) 1 1 [.string ID, .string BY] rfl rfl rfl (by simp [Act.eval]) rfl (cells_lit (by simp)) (by intro u hu; simp at hu; rcases hu with rfl | rfl <;> rfl) (by omega) (by unfold maxLen; omega) (by have := HM3.out.size; simp at this ⊢; omega) ?_; intro v5 w5 ho5 hm5 hr5)
           have hM5 : Mod (fun _ => False) w w5 := Mod.trans (HM3.out.alloc (.cells #[.string ID, .string BY] 59)) hm5 (fun i hi h => by cases h)
           have hM5' : Mod (fun _ => False) w2 w5 := Mod.trans (HM3'.out.alloc (.cells #[.string ID, .string BY] 59)) hm5 (fun i hi h => by cases h)
           have hbo5 := (HBO.out.alloc (.cells #[.string ID, .string BY] 59)).keep hm5 (fun h => by cases h)
           have HM5 := Lib.hid hM5
           have HM5' := Lib.hid hM5'
           have HO5 : Hid (w5.ownsRow w.heap.size 59 2 v5 1 [.string ID, .string BY]) := Lib.hid (by simpa using ho5)
           have HBO5 := Lib.hid hbo5
           clear hm5 hr5 ho5 hM5 hM5' hbo5))
      obtain ⟨A5, c5, rfl, _, _, _, _⟩ := own_cells HO5.out
      rcases HA.out.keep HM5.out (fun _ _ h => h) with h | ⟨ba, o, rfl, hpc⟩
      · cases h
      have y0 : w5.cell? ⟨ba, o + 2, none⟩ = some (.string pB.key) := hpc 2 _ rfl
      have hbl : ba < w5.heap.size := World.block_lt_of_cell? w5 _ y0
      have fp := fun (w' : World) (m : Mod (fun _ => False) w5.drew w') => ((Mod.of_drew_l m).cell (p := ⟨ba, o + 2, none⟩) hbl (fun h => h)).trans y0
      have fo := fun (w' : World) (m : Mod (fun _ => False) w5.drew w') => ((Mod.of_drew_l m).cell (p := ⟨w3.heap.size, 0, none⟩) HBO5.out.lt (fun h => h)).trans (HBO5.out.cell (o := 0) rfl)
      have hw1 : IntKind.i64.wrap 1 = 1 := by decide
      have hw2 : IntKind.i64.wrap 2 = 2 := by decide
      clear hpc y0
      refine region_mT (fun _ => False) (by kernel_rfl) ?_
      simp only [List.length_cons, List.length_nil, List.replicate]
      refine take1T 0 ?_
      refine take1T 1 ?_
      refine take1T 2 ?_
      refine take1T 3 ?_
      refine take1T 4 ?_
      refine take1T 5 ?_
      refine take1T 6 ?_
      refine take1T 7 ?_
      refine take1T 8 ?_
      refine take1T 9 ?_
      refine take1T 10 ?_
      refine take1T 11 ?_
      refine take1T 12 ?_
      refine step1T 13 ?_
      go_simp
      refine ⟨.inl (Mod.alloc (Mod.refl _ _) _), ?_⟩
      refine step1T 14 ?_
      refine appG_step (.tmp 61) (.tmp 74) link_t w.heap.size (.slice none 0 0) 0 [] (World.ownsRow_nil _ _ _ _) (some ⟨w5.heap.size, 0, none⟩) 1 1 [.string pB.key, .string ID, .int .i64 2] rfl rfl rfl rfl (cells_lit (w := w5.drew) rfl) (by intro u hu; simp at hu; rcases hu with rfl | rfl | rfl <;> rfl) (by omega) (by unfold maxLen; omega) (by have := HM5.out.size; simp; omega) ?_
      intro v6 w6 ho6 hm6 hr6
      refine ⟨.inl (hm6.mono fun _ _ h => by cases h), ?_⟩
      simp only [Act.put, List.setIfInBounds_toArray, List.set_cons_zero, List.set_cons_succ]
      refine take1T 15 ?_
      refine wpAnyT_done (by kernel_rfl) ?_
      have hm56 : Mod (fun _ => False) w5 w6 := Mod.trans (((Mod.refl (fun _ => False) w5).drew).alloc (.cells #[.string pB.key, .string ID, .int .i64 2] 67)) hm6 (fun i hi h => by cases h)
      have hv1 : w6.ownsRow w.heap.size 59 2 (.slice A5 1 c5) 1 [.string ID, .string BY] := own_keep HO5.out hm56 (fun _ _ _ h => h)
      have hv2 : w6.ownsRow w.heap.size 67 3 v6 1 [.string pB.key, .string ID, .int .i64 2] := by simpa using ho6
      have HV1 := Lib.hid hv1
      have HV2 := Lib.hid hv2
      have HM6 := Lib.hid (Mod.trans HM5'.out hm56 (fun _ _ h => h))
      clear hm56 hv1 hv2 ho6 hm6 hr6 fp fo
      go_wp2_with fail
      go_roundw
      case rel => exact ⟨1, by go_num, by omega, fun h => by omega, Lib.hid (fun _ => ⟨HV1.out, HV2.out⟩), HM6⟩
      case measure => simp [intOf]
    · obtain ⟨hv1, hv2⟩ := HV.out rfl
      obtain ⟨A1, c1, rfl, _, hc1, _, _⟩ := own_cells hv1
      obtain ⟨A2, c2, rfl, _, hc2, _, _⟩ := own_cells hv2
      rcases hc2 with h | ⟨b2, o2, rfl, hl2⟩
      · cases h
      have x1 : wr.cell? ⟨b2, o2 + 1, none⟩ = some (.string ID) := hl2 1 _ rfl
      have HV1 := Lib.hid hv1
      have HMW := Lib.hid (Mod.trans HM2.out HM.out (fun _ _ h => h))
      clear hl2 hc1 hv1 hv2 HV h2
      go_wp2_with fail
      obtain ⟨W, hW⟩ : ∃ W, wr = W := ⟨_, rfl⟩
      rw [hW] at x1 HV1 HMW ⊢
      clear hW
      go_loopw [5, 8, 14] (fun ov kv lv wr => ov = .slice A1 1 c1 ∧ kv = .slice (some ⟨b2, o2, none⟩) 1 c2 ∧ lv = .int .i64 1 ∧ wr = W) (fun _ _ _ _ => 0)
      case atStart => exact ⟨rfl, rfl, by go_num, rfl⟩
      case round =>
        obtain ⟨rfl, rfl, rfl, rfl⟩ := hrel
        go_wp2_with fail
        refine bodyPost_ret (v := .tuple #[.string ID, .slice A1 1 c1, .int .i64 0]) (by simp [results, Tryd.results9, go_sem]) rfl ⟨_, rfl, HV1.out, HMW.out⟩
end Prolly
end Go.Proofs.YtpoljpjcmigobaaDoor
/- What the statements on maps have in common: who answers, the document's example. -/
namespace Go.Proofs.YtpoljpjcmigobaaDoor
set_option linter.unusedVariables false
set_option linter.unusedSimpArgs false
open Go.RowKit K Wire
namespace Prolly
open Go.Proofs.YtpoljpjcmigobaaDoor.Obj Go.Proofs.YtpoljpjcmigobaaDoor.Blob

set_option maxRecDepth 100000 in
theorem from_mk (A : Option Addr) (n c : Nat) (w : World) : Calls Tryd.prog 21 #[.slice A n c] w fun e w' => e = .returned (.func (.func 47) #[] #[.pointer (some ⟨w.heap.size, 0, none⟩)]) ∧ w' = w.alloc (.cells #[.slice A n c] 25) := by
  go_enter Tryd.func21, Tryd.ntmps21
  go_wp2_with fail
  go_ret
  exact ⟨rfl, rfl⟩
set_option maxRecDepth 100000 in
theorem asked_mk (A : Option Addr) (n c b0 : Nat) (w : World) : Calls Tryd.prog 13 #[.slice A n c, .pointer (some ⟨b0, 0, none⟩)] w fun e w' => e = .returned (.func (.func 42) #[] #[.pointer (some ⟨w.heap.size + 1, 0, none⟩), .pointer (some ⟨w.heap.size, 0, none⟩)]) ∧
    w' = (w.alloc (.cells #[.slice A n c] 25)).alloc (.cells #[.pointer (some ⟨b0, 0, none⟩)] 37) := by
  go_enter Tryd.func13, Tryd.ntmps13
  go_wp2_with fail
  go_ret
  exact ⟨rfl, rfl⟩
theorem text_cell {w : World} {ba o : Nat} {ss : List ByteArray} (h : ∀ j u, (ss.map Value.string)[j]? = some u → w.cell? ⟨ba, o + j, none⟩ = some u) (k : Nat) (hk : k < ss.length) : w.cell? ⟨ba, o + k, none⟩ = some (.string ss[k]) := h k _ (by simp [hk])
set_option maxRecDepth 100000 in
set_option maxHeartbeats 1000000 in
theorem sameTexts_calls (A A' : Option Addr) (c c' : Nat) (ss : List ByteArray) (w : World) (hA : Cells w A (ss.map .string)) (hA' : Cells w A' (ss.map .string)) (hc : ss.length ≤ 100000000) :
    Calls Tryd.prog 15 #[.slice A ss.length c, .slice A' ss.length c'] w fun e w' => e = .returned (.bool true) ∧ Mod (fun _ => False) w w' := by
  have HA := Lib.hid hA
  have HA' := Lib.hid hA'
  clear hA hA'
  go_enter Tryd.func15, Tryd.ntmps15
  go_wp2_with fail
  go_loopw [5] (fun i wr => ∃ (k : Nat), i = .int .i64 k ∧ k ≤ ss.length ∧ Hid (Mod (fun _ => False) w wr)) (fun i _ => ss.length - (intOf i).toNat)
  case atStart => exact ⟨0, by go_num, by omega, Lib.hid (Mod.refl _ _)⟩
  case round =>
    obtain ⟨k, rfl, hk, HM⟩ := hrel
    by_cases hlt : k < ss.length
    · have i1 : (k : Int) < (ss.length : Int) := by omega
      have i0 : (0 : Int) ≤ (k : Int) := by omega
      rcases HA.out.keep HM.out (fun _ _ h => h) with h | ⟨ba, o, rfl, hcell⟩
      · have : ss = [] := by simpa using h
        subst this; simp at hlt
      rcases HA'.out.keep HM.out (fun _ _ h => h) with h | ⟨ba', o', rfl, hcell'⟩
      · have : ss = [] := by simpa using h
        subst this; simp at hlt
      have a0 := text_cell hcell k hlt
      have b0 := text_cell hcell' k hlt
      generalize ss[k] = p at *
      clear hcell hcell'
      go_wp2_with fail
      go_quiet (fail)
      go_wp2_with fail
      go_roundw
      case rel => exact ⟨k + 1, by go_num, by omega, Lib.hid (HM.out.drewN _)⟩
      case measure => simp [intOf]; omega
    · have i1 : ¬ (k : Int) < (ss.length : Int) := by omega
      go_wp2_with fail
      go_ret
      exact ⟨rfl, HM.out⟩

theorem cells_low {w : World} {A : Option Addr} {xs : List Value} (h : Cells w A xs) (hne : xs ≠ []) : ∀ ad, A = some ad → ad.block < w.heap.size := fun ad ha => by
  rcases h with h | ⟨b, o, rfl, hc⟩
  · exact absurd h hne
  · injection ha with ha
    subst ha
    obtain ⟨u, hu⟩ : ∃ u, xs[0]? = some u := by
      cases xs with
      | nil => exact absurd rfl hne
      | cons u l => exact ⟨u, rfl⟩
    exact World.block_lt_of_cell? w _ (hc 0 u hu)
theorem node_ob2 : pnodeOf [ob2] (link0 ob2.id) (-1) = .leaf ps2 := by
  have hf : findL [ob2] (link0 ob2.id).id = some ob2.bytes := by
    unfold findL
    rw [if_pos (show ob2.id = (link0 ob2.id).id from rfl)]
  obtain ⟨h1, h2⟩ := leaf_complete ps2 right_ps2
  unfold pnodeOf
  rw [hf]
  show pnodeB ob2.bytes _ _ = _
  rw [pnodeB_eq]
  have e : ob2.bytes.data.toList = leafB ps2 := rfl
  rw [e, if_pos h1, h2, if_pos]
  rfl
set_option maxRecDepth 100000 in
theorem find_ob2 : findR [ob2] ob2.id ⟨#[98]⟩ = ⟨⟨#[50]⟩, true, [ob2.id], 0⟩ := by
  unfold findR
  rw [if_pos (by decide), node_ob2, fin_leaf _ _ _ _ _ (by omega)]
  have hv : valOf ps2 ⟨#[98]⟩ = some ⟨#[50]⟩ := by
    have hr : rises (ps2.map (·.key)) = true := by decide +kernel
    exact (valOf_hit hr (i := 1) (by decide) rfl).1
  rw [hv]
theorem obs_ob2 : ObsOk [ob2] := ⟨by decide, fun o ho => by obtain rfl := List.mem_singleton.1 ho; decide +kernel⟩
set_option maxRecDepth 100000 in
set_option maxHeartbeats 4000000 in
theorem shown_calls (w : World) (hK : Hash.Keys w) : Calls Tryd.prog 7 #[] w fun e w' => e = .returned (.bool true) ∧ Mod (fun _ => False) w w' := by
  have hm0 := (Mod.refl (fun _ => False) w).alloc (.cells #[.string pA.key, .string pA.val, .string pB.key, .string pB.val] 48)
  have hb := build2_calls (some ⟨w.heap.size, 0, none⟩) 2 _ (cells_lit (w := w) (cs := ps2.flatMap kc) (T := 48) rfl) (hK.keep hm0 (fun h => h)) (Nat.le_refl _)
  have hfd := fun (w2 : World) (b2 : Nat) (A : Option Addr) (c : Nat) (hG : Gs (fromF b2 b2 A c [ob2]) w2 (fun k => k < w2.heap.size) [] w2) => pFind_calls (fromF_ok b2 b2 A c [ob2]) obs_ob2 ob2.id ⟨#[98]⟩ w2 hG (Nat.le_refl _)
  unfold FindPost at hfd
  rw [find_ob2] at hfd
  dsimp only [fromF] at hfd
  have HB := Lib.hid hb
  have HFD := Lib.hid hfd
  have HM0 := Lib.hid hm0
  obtain ⟨OO, hOO⟩ : ∃ OO, ob2 = OO := ⟨_, rfl⟩
  rw [hOO] at HB HFD
  clear hb hfd hOO hm0 hK
  go_enter Tryd.func7, Tryd.ntmps7
  go_wp2_with fail
  refine HB.out.mono ?_
  rintro e w1 ⟨v, rfl, ho, hm⟩
  obtain ⟨A1, c1, rfl, _, hcl, _, _⟩ := own_cells ho
  have hM1 := Mod.trans HM0.out hm (fun _ _ h => h)
  have HM1 := Lib.hid hM1
  have HCL : Hid (Cells w1 A1 ([OO].flatMap oc)) := Lib.hid (by simpa using hcl)
  clear hm hM1 ho hcl HB HM0
  go_wp2_with fail
  refine (from_mk _ _ _ _).mono ?_
  rintro e w2 ⟨rfl, rfl⟩
  have hF : FromIs w1.heap.size w1.heap.size A1 c1 [OO] (w1.alloc (.cells #[.slice A1 1 c1] 25)) :=
    ⟨Has.lit rfl, HCL.out.alloc _, fun hne ad ha => cells_low HCL.out hne ad ha, by simp⟩
  have hG : Gs (fromF w1.heap.size w1.heap.size A1 c1 [OO]) (w1.alloc (.cells #[.slice A1 1 c1] 25)) (fun k => k < (w1.alloc (.cells #[.slice A1 1 c1] 25)).heap.size) [] (w1.alloc (.cells #[.slice A1 1 c1] 25)) :=
    ⟨⟨_, ⟨hF, rfl⟩, fun k hk => ⟨hk, fun h => h⟩⟩, fun k hk => (fromF_ok w1.heap.size w1.heap.size A1 c1 [OO]).lt [] _ _ k ⟨hF, rfl⟩ (.inr hk)⟩
  have HF := Lib.hid (HFD.out _ _ _ _ hG)
  clear hF hG HFD
  go_wp2_with fail
  refine HF.out.mono ?_
  rintro e w3 ⟨rfl, _, hm3⟩
  have HM3 := Lib.hid (Mod.trans (HM1.out.alloc (.cells #[.slice A1 1 c1] 25)) hm3 (fun i hi h => h (by have := HM1.out.size; simp; omega)))
  clear hm3
  go_wp2_with fail
  go_ret
  exact ⟨rfl, HM3.out⟩
end Prolly
end Go.Proofs.YtpoljpjcmigobaaDoor
