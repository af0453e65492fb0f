/- Joined texts: BlobX. -/
import Derived.Test.YthgcjfpaekpeeaaDoorJ40
/- The walk of the reference's Read. -/
namespace Go.Proofs.YthgcjfpaekpeeaaDoor
set_option linter.unusedVariables false
set_option linter.unusedSimpArgs false
open Go.RowKit K Wire Go.Maps
namespace Blob
open Go.Proofs.YthgcjfpaekpeeaaDoor.Obj

theorem goes_calls {B0 bw : Nat} {A : Option Addr} {c : Nat} {objs : List Ob} (hob : ObsOk objs) {lo hi : Int} (hlo : 0 ≤ lo ∧ lo ≤ hi ∧ hi ≤ 262144) : ∀ (l : Nat), l ≤ 20 → ∀ (p : Part) (at_ : Int) (x : BS) (va vd vp : Value) (parts : List Part) (w : World), Nums (l : Int) p at_ x → WkIs B0 bw A c objs va vd vp x.asked x.data parts x.bad w →
    Calls Tryd.prog 35 #[.pointer (some ⟨bw, 0, none⟩), .agg #[.string p.id, .int .i64 p.size], .int .i64 at_, .int .i64 lo, .int .i64 hi, .int .i64 (l : Int)] w (GoPost B0 bw A c objs vp (rdS objs lo hi l p at_ x) w)
  | 0, _, p, at_, x, va, vd, vp, parts, w, hn, h => by
    rw [rdS_eq]
    exact goes_step hob hlo _ (by omega) (fun L h1 h2 h3 => by omega) p at_ x va vd vp parts w hn h
  | l + 1, hl, p, at_, x, va, vd, vp, parts, w, hn, h => by
    rw [rdS_eq]
    refine goes_step hob hlo _ (by omega) (fun L h1 h2 h3 p' a' x' va' vd' vp' parts' w' hn' h' => ?_) p at_ x va vd vp parts w hn h
    have e : L - 1 = (l : Int) := by omega
    rw [e] at hn' ⊢
    rw [show ((l : Int)).toNat = l by omega]
    exact goes_calls hob hlo l (by omega) p' a' x' va' vd' vp' parts' w' hn' h'
theorem goesR_calls {B0 bw : Nat} {A : Option Addr} {c : Nat} {objs : List Ob} (hob : ObsOk objs) {lo hi : Int} (hlo : 0 ≤ lo ∧ lo ≤ hi ∧ hi ≤ 262144) (p : Part) (x : BS) (va vd vp : Value) (parts : List Part) (w : World) (hn : Nums (-1) p 0 x) (h : WkIs B0 bw A c objs va vd vp x.asked x.data parts x.bad w)
    (hm : x.bad = 0 ∧ 0 < hi ∧ lo < p.size) :
    Calls Tryd.prog 35 #[.pointer (some ⟨bw, 0, none⟩), .agg #[.string p.id, .int .i64 p.size], .int .i64 0, .int .i64 lo, .int .i64 hi, .int .i64 (-1)] w (GoPost B0 bw A c objs vp (rdR objs lo hi p x) w) := by
  rw [← rdR_eq objs lo hi p x hm.1 hm.2]
  refine goes_step hob hlo (-1) (by omega) (fun L h1 h2 _ p' a' x' va' vd' vp' parts' w' hn' h' => ?_) p 0 x va vd vp parts w hn h
  have e : L - 1 = ((L - 1).toNat : Int) := by omega
  have := goes_calls hob hlo (L - 1).toNat (by omega) p' a' x' va' vd' vp' parts' w' (by rw [← e]; exact hn') h'
  rw [← e] at this
  exact this
def RReadPost (r : List UInt8 × List ByteArray × Int) (w : World) (e : Ending) (w' : World) : Prop :=
  ∃ v, e = .returned (.tuple #[.string ⟨r.1.toArray⟩, v, .int .i64 r.2.2]) ∧ w'.ownsRow w.heap.size 9 1 v r.2.1.length (r.2.1.map .string) ∧ Mod (fun _ => False) w w'

set_option maxRecDepth 100000 in
set_option maxHeartbeats 8000000 in
theorem rRead_calls (A : Option Addr) (c : Nat) {objs : List Ob} (hob : ObsOk objs) (root : Part) (from_ n : Int) (w : World) (hA : Cells w A (objs.flatMap oc)) (hlow : objs.flatMap oc ≠ [] → ∀ ad, A = some ad → ad.block < w.heap.size) (hf : In64 from_) (hn : In64 n) :
    Calls Tryd.prog 14 #[.slice A objs.length c, .agg #[.string root.id, .int .i64 root.size], .int .i64 from_, .int .i64 n] w (RReadPost (readL objs root from_ n) w) := by
  have hm1 := (Mod.refl (fun _ => False) w).alloc (.cells #[.string root.id, .int .i64 root.size] 25)
  have hb1 := Has.new w [.string root.id, .int .i64 root.size] 25
  have x0 := hb1.cell (o := 0) rfl
  have x1 := hb1.cell (o := 1) rfl
  obtain ⟨r, hr⟩ : ∃ r, readL objs root from_ n = r := ⟨_, rfl⟩
  rw [hr]
  unfold readL at hr
  unfold In64 at hf hn
  by_cases h1 : rightP root = true
  · have HRP := Lib.hid h1
    by_cases h2 : 0 ≤ from_
    · by_cases h3 : 0 ≤ n
      · rw [if_pos ⟨h1, h2, h3⟩] at hr
        have h2' : ¬ from_ < 0 := by omega
        have h3' : ¬ n < 0 := by omega
        have hrp := rightP_spec h1
        go_enter Tryd.func14, Tryd.ntmps14
        go_wp2_with fail
        refine (rRight_calls root _).mono ?_
        rintro e w2 ⟨rfl, hm2⟩
        have hb2 := hb1.keep hm2 (fun h => h)
        have hm := Mod.trans hm1 hm2 (fun _ _ h => h)
        rw [h1]
        have y0 := hb2.cell (o := 0) rfl
        have y1 := hb2.cell (o := 1) rfl
        have hwk : WkIs w.heap.size w2.heap.size A c objs (.slice none 0 0) (.slice none 0 0) (.slice none 0 0) [] [] [] 0 (w2.alloc (.cells #[.slice A objs.length c, .slice none 0 0, .slice none 0 0, .slice none 0 0, .int .i64 0] 79)) :=
          ⟨Has.new w2 [.slice A objs.length c, .slice none 0 0, .slice none 0 0, .slice none 0 0, .int .i64 0] _, World.ownsRow_nil _ _ _ _, World.ownsRow_nil _ _ _ _, World.ownsRow_nil _ _ _ _, hA.keep (hm.alloc _) (fun _ _ h => h), hlow, hm.size, by simp⟩
        have HWK := Lib.hid hwk
        have HMK := Lib.hid (hm.alloc (.cells #[.slice A objs.length c, .slice none 0 0, .slice none 0 0, .slice none 0 0, .int .i64 0] 79))
        have hzw := hb2.lt
        clear hb2 hm hm2 hm1 hb1 x0 x1 h1 hA hlow hwk
        by_cases h4 : from_ < root.size
        · have h4' : ¬ root.size ≤ from_ := by omega
          have hw1 : IntKind.i64.wrap (root.size - from_) = root.size - from_ := by rw [IntKind.wrap_i64]; omega
          by_cases h5 : n = 0
          · rw [if_neg (fun h => h.2 h5)] at hr
            have h6 : n < root.size - from_ := by omega
            have hw2 : IntKind.i64.wrap (from_ + n) = from_ + n := by rw [IntKind.wrap_i64]; omega
            have h7 : ¬ from_ < from_ + n := by omega
            clear h5
            subst hr
            have hwk := HWK.out
            have q4 := hwk.box.cell (o := 4) rfl
            have fv0 := fun (w' : World) (mm : Mod0 (w2.alloc (.cells #[.slice A objs.length c, .slice none 0 0, .slice none 0 0, .slice none 0 0, .int .i64 0] 79)).drew w') => (hwk.keep0 (Mod.of_drew_l mm)).box.cell (o := 1) rfl
            have fv2 := fun (w' : World) (mm : Mod0 (w2.alloc (.cells #[.slice A objs.length c, .slice none 0 0, .slice none 0 0, .slice none 0 0, .int .i64 0] 79)).drew w') => (hwk.keep0 (Mod.of_drew_l mm)).box.cell (o := 2) rfl
            have hcv := fun (w' : World) => run_bytes (P := Tryd.prog) (w := w') (A := none) (l := []) 0 (.inl rfl) 72 9 5 Tryd.underlying72 Tryd.underlying5 Tryd.underlying9
            simp only [List.length_nil] at hcv
            clear hwk
            go_wp2_with fail
            refine region_m (by kernel_rfl) ?_
            simp only [List.length_cons, List.length_nil, List.replicate]
            refine take0 (v := ?v1) (oi := ?o1) 0 ?hi1 (by kernel_rfl) (by kernel_rfl) (by kernel_rfl) ?hq1 ?hy1 ?_
            case hi1 => (simp only [List.getElem?_toArray, List.getElem?_cons_zero, List.getElem?_cons_succ]; rfl)
            case hq1 => exact fun _ _ _ h => h
            case hy1 => first | (refine ry_not ?_; rfl) | (refine ry_run (by rfl) (fun w' hw' => ?_); go_simp; try rfl)
            simp only [Act.put, List.setIfInBounds_toArray, List.set_cons_zero, List.set_cons_succ]
            refine take0 (v := ?v2) (oi := ?o2) 1 ?hi2 (by kernel_rfl) (by kernel_rfl) (by kernel_rfl) ?hq2 ?hy2 ?_
            case hi2 => (simp only [List.getElem?_toArray, List.getElem?_cons_zero, List.getElem?_cons_succ]; rfl)
            case hq2 => exact fun _ _ _ h => h
            case hy2 => first | (refine ry_not ?_; rfl) | (refine ry_run (by rfl) (fun w' hw' => ?_); go_simp; try rfl)
            simp only [Act.put, List.setIfInBounds_toArray, List.set_cons_zero, List.set_cons_succ]
            refine take0 (v := ?v3) (oi := ?o3) 2 ?hi3 (by kernel_rfl) (by kernel_rfl) (by kernel_rfl) ?hq3 ?hy3 ?_
            case hi3 => (simp only [List.getElem?_toArray, List.getElem?_cons_zero, List.getElem?_cons_succ]; rfl)
            case hq3 => exact fun _ _ _ h => h
            case hy3 => first | (refine ry_not ?_; rfl) | (refine ry_run (by rfl) (fun w' hw' => ?_); go_simp; try rfl)
            simp only [Act.put, List.setIfInBounds_toArray, List.set_cons_zero, List.set_cons_succ]
            refine take0 (v := ?v4) (oi := ?o4) 3 ?hi4 (by kernel_rfl) (by kernel_rfl) (by kernel_rfl) ?hq4 ?hy4 ?_
            case hi4 => (simp only [List.getElem?_toArray, List.getElem?_cons_zero, List.getElem?_cons_succ]; rfl)
            case hq4 => exact fun _ _ _ h => h
            case hy4 => first | (refine ry_not ?_; rfl) | (refine ry_run (by rfl) (fun w' hw' => ?_); go_simp; try rfl)
            simp only [Act.put, List.setIfInBounds_toArray, List.set_cons_zero, List.set_cons_succ]
            refine take0 (v := ?v5) (oi := ?o5) 4 ?hi5 (by kernel_rfl) (by kernel_rfl) (by kernel_rfl) ?hq5 ?hy5 ?_
            case hi5 => (simp only [List.getElem?_toArray, List.getElem?_cons_zero, List.getElem?_cons_succ]; rfl)
            case hq5 => exact fun _ _ _ h => h
            case hy5 => first | (refine ry_not ?_; rfl) | (refine ry_run (by rfl) (fun w' hw' => ?_); go_simp; try rfl)
            simp only [Act.put, List.setIfInBounds_toArray, List.set_cons_zero, List.set_cons_succ]
            refine take0 (v := ?v6) (oi := ?o6) 5 ?hi6 (by kernel_rfl) (by kernel_rfl) (by kernel_rfl) ?hq6 ?hy6 ?_
            case hi6 => (simp only [List.getElem?_toArray, List.getElem?_cons_zero, List.getElem?_cons_succ]; rfl)
            case hq6 => exact fun _ _ _ h => h
            case hy6 => first | (refine ry_not ?_; rfl) | (refine ry_run (by rfl) (fun w' hw' => ?_); go_simp; try rfl)
            simp only [Act.put, List.setIfInBounds_toArray, List.set_cons_zero, List.set_cons_succ]
            refine take0 (v := ?v7) (oi := ?o7) 6 ?hi7 (by kernel_rfl) (by kernel_rfl) (by kernel_rfl) ?hq7 ?hy7 ?_
            case hi7 => (simp only [List.getElem?_toArray, List.getElem?_cons_zero, List.getElem?_cons_succ]; rfl)
            case hq7 => exact fun _ _ _ h => h
            case hy7 => first | (refine ry_not ?_; rfl) | (refine ry_run (by rfl) (fun w' hw' => ?_); go_simp; try rfl)
            simp only [Act.put, List.setIfInBounds_toArray, List.set_cons_zero, List.set_cons_succ]
            refine take0 (v := ?v8) (oi := ?o8) 7 ?hi8 (by kernel_rfl) (by kernel_rfl) (by kernel_rfl) ?hq8 ?hy8 ?_
            case hi8 => (simp only [List.getElem?_toArray, List.getElem?_cons_zero, List.getElem?_cons_succ]; rfl)
            case hq8 => exact fun _ _ _ h => h
            case hy8 => first | (refine ry_not ?_; rfl) | (refine ry_run (by rfl) (fun w' hw' => ?_); go_simp; try rfl)
            simp only [Act.put, List.setIfInBounds_toArray, List.set_cons_zero, List.set_cons_succ]
            refine take0 (v := ?v9) (oi := ?o9) 8 ?hi9 (by kernel_rfl) (by kernel_rfl) (by kernel_rfl) ?hq9 ?hy9 ?_
            case hi9 => (simp only [List.getElem?_toArray, List.getElem?_cons_zero, List.getElem?_cons_succ]; rfl)
            case hq9 => exact fun _ _ _ h => h
            case hy9 => first | (refine ry_not ?_; rfl) | (refine ry_run (by rfl) (fun w' hw' => ?_); go_simp; try rfl)
            simp only [Act.put, List.setIfInBounds_toArray, List.set_cons_zero, List.set_cons_succ]
            refine take0 (v := ?v10) (oi := ?o10) 9 ?hi10 (by kernel_rfl) (by kernel_rfl) (by kernel_rfl) ?hq10 ?hy10 ?_
            case hi10 => (simp only [List.getElem?_toArray, List.getElem?_cons_zero, List.getElem?_cons_succ]; rfl)
            case hq10 => exact fun _ _ _ h => h
            case hy10 => first | (refine ry_not ?_; rfl) | (refine ry_run (by rfl) (fun w' hw' => ?_); go_simp; try rfl)
            simp only [Act.put, List.setIfInBounds_toArray, List.set_cons_zero, List.set_cons_succ]
            refine take0 (v := ?v11) (oi := ?o11) 10 ?hi11 (by kernel_rfl) (by kernel_rfl) (by kernel_rfl) ?hq11 ?hy11 ?_
            case hi11 => (simp only [List.getElem?_toArray, List.getElem?_cons_zero, List.getElem?_cons_succ]; rfl)
            case hq11 => exact fun _ _ _ h => h
            case hy11 => first | (refine ry_not ?_; rfl) | (refine ry_run (by rfl) (fun w' hw' => ?_); go_simp; try rfl)
            simp only [Act.put, List.setIfInBounds_toArray, List.set_cons_zero, List.set_cons_succ]
            refine take0 (v := ?v12) (oi := ?o12) 11 ?hi12 (by kernel_rfl) (by kernel_rfl) (by kernel_rfl) ?hq12 ?hy12 ?_
            case hi12 => (simp only [List.getElem?_toArray, List.getElem?_cons_zero, List.getElem?_cons_succ]; rfl)
            case hq12 => exact fun _ _ _ h => h
            case hy12 => first | (refine ry_not ?_; rfl) | (refine ry_run (by rfl) (fun w' hw' => ?_); go_simp; try rfl)
            simp only [Act.put, List.setIfInBounds_toArray, List.set_cons_zero, List.set_cons_succ]
            refine wpAnyM_done (by kernel_rfl) ?_
            go_wp2_with fail
            refine bodyPost_ret (v := .tuple #[.string ⟨#[]⟩, .slice none 0 0, .int .i64 0]) (by simp [results, Tryd.results14, go_sem]) rfl ?_
            unfold RReadPost
            exact ⟨_, rfl, World.ownsRow_nil _ _ _ _, HMK.out.drew⟩
          · have b5 : (n == 0) = false := by simpa using h5
            rw [if_pos ⟨h4, h5⟩] at hr
            by_cases h6 : n < root.size - from_
            · simp only [if_pos h6] at hr
              have hw2 : IntKind.i64.wrap (from_ + n) = from_ + n := by rw [IntKind.wrap_i64]; omega
              have h7 : from_ < from_ + n := by omega
              have HRL := Lib.hid hr
              clear hr
              go_wp2_with fail
              refine (goesR_calls hob (by omega) root ⟨[], [], [], 0⟩ (.slice none 0 0) (.slice none 0 0) (.slice none 0 0) [] _ ⟨by omega, by omega, by omega, by unfold Need; simp; omega, by simp; omega⟩ HWK.out ⟨rfl, by omega, by omega⟩).mono ?_
              unfold GoPost
              rintro e w5 ⟨rfl, va5, vd5, vp5, parts5, hwk5, hm5, _⟩
              have hrl := HRL.out
              obtain ⟨y, hy⟩ : ∃ y, rdR objs from_ (from_ + n) root ⟨[], [], [], 0⟩ = y := ⟨_, rfl⟩
              simp only [hy] at hwk5 hrl
              have HM5 := Lib.hid (Mod.trans HMK.out hm5 (fun i hi h => by
                rcases h with h | h
                · exact Nat.not_le.2 hi h.1
                · cases h))
              have HO5 := Lib.hid hwk5.oa
              have q4 := hwk5.box.cell (o := 4) rfl
              have q1 := hwk5.box.cell (o := 1) rfl
              have q2 := hwk5.box.cell (o := 2) rfl
              have fv0 := fun (w' : World) (mm : Mod0 w5.drew w') => (hwk5.keep0 (Mod.of_drew_l mm)).box.cell (o := 1) rfl
              have fv1 := fun (w' : World) (mm : Mod0 w5.drew w') => (hwk5.keep0 (Mod.of_drew_l mm)).box.cell (o := 4) rfl
              have fv2 := fun (w' : World) (mm : Mod0 w5.drew w') => (hwk5.keep0 (Mod.of_drew_l mm)).box.cell (o := 2) rfl
              obtain ⟨A5, c5, rfl, _, hcl5, _, _⟩ := own_cells hwk5.od
              have hcv := fun (w' : World) (mm : Mod0 w5.drew w') => run_bytes (P := Tryd.prog) c5 (hcl5.keep (Mod.of_drew_l mm) (fun _ _ h => h)) 72 9 5 Tryd.underlying72 Tryd.underlying5 Tryd.underlying9
              clear hwk5 hm5 hy hcl5
              by_cases hb0 : y.bad = 0
              · have b1 : (y.bad != 0) = false := by simpa using hb0
                rw [if_neg (fun h => h hb0)] at hrl
                subst hrl
                clear hb0
                go_wp2_with fail
                refine region_m (by kernel_rfl) ?_
                simp only [List.length_cons, List.length_nil, List.replicate]
                refine take0 (v := ?v13) (oi := ?o13) 0 ?hi13 (by kernel_rfl) (by kernel_rfl) (by kernel_rfl) ?hq13 ?hy13 ?_
                case hi13 => (simp only [List.getElem?_toArray, List.getElem?_cons_zero, List.getElem?_cons_succ]; rfl)
                case hq13 => exact fun _ _ _ h => h
                case hy13 => first | (refine ry_not ?_; rfl) | (refine ry_run (by rfl) (fun w' hw' => ?_); go_simp; try rfl)
                simp only [Act.put, List.setIfInBounds_toArray, List.set_cons_zero, List.set_cons_succ]
                refine take0 (v := ?v14) (oi := ?o14) 1 ?hi14 (by kernel_rfl) (by kernel_rfl) (by kernel_rfl) ?hq14 ?hy14 ?_
                case hi14 => (simp only [List.getElem?_toArray, List.getElem?_cons_zero, List.getElem?_cons_succ]; rfl)
                case hq14 => exact fun _ _ _ h => h
                case hy14 => first | (refine ry_not ?_; rfl) | (refine ry_run (by rfl) (fun w' hw' => ?_); go_simp; try rfl)
                simp only [Act.put, List.setIfInBounds_toArray, List.set_cons_zero, List.set_cons_succ]
                refine take0 (v := ?v15) (oi := ?o15) 2 ?hi15 (by kernel_rfl) (by kernel_rfl) (by kernel_rfl) ?hq15 ?hy15 ?_
                case hi15 => (simp only [List.getElem?_toArray, List.getElem?_cons_zero, List.getElem?_cons_succ]; rfl)
                case hq15 => exact fun _ _ _ h => h
                case hy15 => first | (refine ry_not ?_; rfl) | (refine ry_run (by rfl) (fun w' hw' => ?_); go_simp; try rfl)
                simp only [Act.put, List.setIfInBounds_toArray, List.set_cons_zero, List.set_cons_succ]
                refine take0 (v := ?v16) (oi := ?o16) 3 ?hi16 (by kernel_rfl) (by kernel_rfl) (by kernel_rfl) ?hq16 ?hy16 ?_
                case hi16 => (simp only [List.getElem?_toArray, List.getElem?_cons_zero, List.getElem?_cons_succ]; rfl)
                case hq16 => exact fun _ _ _ h => h
                case hy16 => first | (refine ry_not ?_; rfl) | (refine ry_run (by rfl) (fun w' hw' => ?_); go_simp; try rfl)
                simp only [Act.put, List.setIfInBounds_toArray, List.set_cons_zero, List.set_cons_succ]
                refine take0 (v := ?v17) (oi := ?o17) 4 ?hi17 (by kernel_rfl) (by kernel_rfl) (by kernel_rfl) ?hq17 ?hy17 ?_
                case hi17 => (simp only [List.getElem?_toArray, List.getElem?_cons_zero, List.getElem?_cons_succ]; rfl)
                case hq17 => exact fun _ _ _ h => h
                case hy17 => first | (refine ry_not ?_; rfl) | (refine ry_run (by rfl) (fun w' hw' => ?_); go_simp; try rfl)
                simp only [Act.put, List.setIfInBounds_toArray, List.set_cons_zero, List.set_cons_succ]
                refine take0 (v := ?v18) (oi := ?o18) 5 ?hi18 (by kernel_rfl) (by kernel_rfl) (by kernel_rfl) ?hq18 ?hy18 ?_
                case hi18 => (simp only [List.getElem?_toArray, List.getElem?_cons_zero, List.getElem?_cons_succ]; rfl)
                case hq18 => exact fun _ _ _ h => h
                case hy18 => first | (refine ry_not ?_; rfl) | (refine ry_run (by rfl) (fun w' hw' => ?_); go_simp; try rfl)
                simp only [Act.put, List.setIfInBounds_toArray, List.set_cons_zero, List.set_cons_succ]
                refine take0 (v := ?v19) (oi := ?o19) 6 ?hi19 (by kernel_rfl) (by kernel_rfl) (by kernel_rfl) ?hq19 ?hy19 ?_
                case hi19 => (simp only [List.getElem?_toArray, List.getElem?_cons_zero, List.getElem?_cons_succ]; rfl)
                case hq19 => exact fun _ _ _ h => h
                case hy19 => first | (refine ry_not ?_; rfl) | (refine ry_run (by rfl) (fun w' hw' => ?_); go_simp; try rfl)
                simp only [Act.put, List.setIfInBounds_toArray, List.set_cons_zero, List.set_cons_succ]
                refine take0 (v := ?v20) (oi := ?o20) 7 ?hi20 (by kernel_rfl) (by kernel_rfl) (by kernel_rfl) ?hq20 ?hy20 ?_
                case hi20 => (simp only [List.getElem?_toArray, List.getElem?_cons_zero, List.getElem?_cons_succ]; rfl)
                case hq20 => exact fun _ _ _ h => h
                case hy20 => first | (refine ry_not ?_; rfl) | (refine ry_run (by rfl) (fun w' hw' => ?_); go_simp; try rfl)
                simp only [Act.put, List.setIfInBounds_toArray, List.set_cons_zero, List.set_cons_succ]
                refine take0 (v := ?v21) (oi := ?o21) 8 ?hi21 (by kernel_rfl) (by kernel_rfl) (by kernel_rfl) ?hq21 ?hy21 ?_
                case hi21 => (simp only [List.getElem?_toArray, List.getElem?_cons_zero, List.getElem?_cons_succ]; rfl)
                case hq21 => exact fun _ _ _ h => h
                case hy21 => first | (refine ry_not ?_; rfl) | (refine ry_run (by rfl) (fun w' hw' => ?_); go_simp; try rfl)
                simp only [Act.put, List.setIfInBounds_toArray, List.set_cons_zero, List.set_cons_succ]
                refine take0 (v := ?v22) (oi := ?o22) 9 ?hi22 (by kernel_rfl) (by kernel_rfl) (by kernel_rfl) ?hq22 ?hy22 ?_
                case hi22 => (simp only [List.getElem?_toArray, List.getElem?_cons_zero, List.getElem?_cons_succ]; rfl)
                case hq22 => exact fun _ _ _ h => h
                case hy22 => first | (refine ry_not ?_; rfl) | (refine ry_run (by rfl) (fun w' hw' => ?_); go_simp; try rfl)
                simp only [Act.put, List.setIfInBounds_toArray, List.set_cons_zero, List.set_cons_succ]
                refine take0 (v := ?v23) (oi := ?o23) 10 ?hi23 (by kernel_rfl) (by kernel_rfl) (by kernel_rfl) ?hq23 ?hy23 ?_
                case hi23 => (simp only [List.getElem?_toArray, List.getElem?_cons_zero, List.getElem?_cons_succ]; rfl)
                case hq23 => exact fun _ _ _ h => h
                case hy23 => first | (refine ry_not ?_; rfl) | (refine ry_run (by rfl) (fun w' hw' => ?_); go_simp; try rfl)
                simp only [Act.put, List.setIfInBounds_toArray, List.set_cons_zero, List.set_cons_succ]
                refine take0 (v := ?v24) (oi := ?o24) 11 ?hi24 (by kernel_rfl) (by kernel_rfl) (by kernel_rfl) ?hq24 ?hy24 ?_
                case hi24 => (simp only [List.getElem?_toArray, List.getElem?_cons_zero, List.getElem?_cons_succ]; rfl)
                case hq24 => exact fun _ _ _ h => h
                case hy24 => first | (refine ry_not ?_; rfl) | (refine ry_run (by rfl) (fun w' hw' => ?_); go_simp; try rfl)
                simp only [Act.put, List.setIfInBounds_toArray, List.set_cons_zero, List.set_cons_succ]
                refine wpAnyM_done (by kernel_rfl) ?_
                go_wp2_with fail
                refine bodyPost_ret (v := .tuple #[.string ⟨y.data.toArray⟩, va5, .int .i64 0]) (by simp [results, Tryd.results14, go_sem]) rfl ?_
                unfold RReadPost
                exact ⟨_, rfl, own_keep HO5.out ((Mod.refl (fun _ => False) w5).drew) (fun _ _ _ h => h), HM5.out.drew⟩
              · have b1 : (y.bad != 0) = true := by simpa using hb0
                rw [if_pos hb0] at hrl
                subst hrl
                clear hb0
                go_wp2_with fail
                refine region_m (by kernel_rfl) ?_
                simp only [List.length_cons, List.length_nil, List.replicate]
                refine take0 (v := ?v25) (oi := ?o25) 0 ?hi25 (by kernel_rfl) (by kernel_rfl) (by kernel_rfl) ?hq25 ?hy25 ?_
                case hi25 => (simp only [List.getElem?_toArray, List.getElem?_cons_zero, List.getElem?_cons_succ]; rfl)
                case hq25 => exact fun _ _ _ h => h
                case hy25 => first | (refine ry_not ?_; rfl) | (refine ry_run (by rfl) (fun w' hw' => ?_); go_simp; try rfl)
                simp only [Act.put, List.setIfInBounds_toArray, List.set_cons_zero, List.set_cons_succ]
                refine take0 (v := ?v26) (oi := ?o26) 1 ?hi26 (by kernel_rfl) (by kernel_rfl) (by kernel_rfl) ?hq26 ?hy26 ?_
                case hi26 => (simp only [List.getElem?_toArray, List.getElem?_cons_zero, List.getElem?_cons_succ]; rfl)
                case hq26 => exact fun _ _ _ h => h
                case hy26 => first | (refine ry_not ?_; rfl) | (refine ry_run (by rfl) (fun w' hw' => ?_); go_simp; try rfl)
                simp only [Act.put, List.setIfInBounds_toArray, List.set_cons_zero, List.set_cons_succ]
                refine take0 (v := ?v27) (oi := ?o27) 2 ?hi27 (by kernel_rfl) (by kernel_rfl) (by kernel_rfl) ?hq27 ?hy27 ?_
                case hi27 => (simp only [List.getElem?_toArray, List.getElem?_cons_zero, List.getElem?_cons_succ]; rfl)
                case hq27 => exact fun _ _ _ h => h
                case hy27 => first | (refine ry_not ?_; rfl) | (refine ry_run (by rfl) (fun w' hw' => ?_); go_simp; try rfl)
                simp only [Act.put, List.setIfInBounds_toArray, List.set_cons_zero, List.set_cons_succ]
                refine take0 (v := ?v28) (oi := ?o28) 3 ?hi28 (by kernel_rfl) (by kernel_rfl) (by kernel_rfl) ?hq28 ?hy28 ?_
                case hi28 => (simp only [List.getElem?_toArray, List.getElem?_cons_zero, List.getElem?_cons_succ]; rfl)
                case hq28 => exact fun _ _ _ h => h
                case hy28 => first | (refine ry_not ?_; rfl) | (refine ry_run (by rfl) (fun w' hw' => ?_); go_simp; try rfl)
                simp only [Act.put, List.setIfInBounds_toArray, List.set_cons_zero, List.set_cons_succ]
                refine take0 (v := ?v29) (oi := ?o29) 4 ?hi29 (by kernel_rfl) (by kernel_rfl) (by kernel_rfl) ?hq29 ?hy29 ?_
                case hi29 => (simp only [List.getElem?_toArray, List.getElem?_cons_zero, List.getElem?_cons_succ]; rfl)
                case hq29 => exact fun _ _ _ h => h
                case hy29 => first | (refine ry_not ?_; rfl) | (refine ry_run (by rfl) (fun w' hw' => ?_); go_simp; try rfl)
                simp only [Act.put, List.setIfInBounds_toArray, List.set_cons_zero, List.set_cons_succ]
                refine take0 (v := ?v30) (oi := ?o30) 5 ?hi30 (by kernel_rfl) (by kernel_rfl) (by kernel_rfl) ?hq30 ?hy30 ?_
                case hi30 => (simp only [List.getElem?_toArray, List.getElem?_cons_zero, List.getElem?_cons_succ]; rfl)
                case hq30 => exact fun _ _ _ h => h
                case hy30 => first | (refine ry_not ?_; rfl) | (refine ry_run (by rfl) (fun w' hw' => ?_); go_simp; try rfl)
                simp only [Act.put, List.setIfInBounds_toArray, List.set_cons_zero, List.set_cons_succ]
                refine take0 (v := ?v31) (oi := ?o31) 6 ?hi31 (by kernel_rfl) (by kernel_rfl) (by kernel_rfl) ?hq31 ?hy31 ?_
                case hi31 => (simp only [List.getElem?_toArray, List.getElem?_cons_zero, List.getElem?_cons_succ]; rfl)
                case hq31 => exact fun _ _ _ h => h
                case hy31 => first | (refine ry_not ?_; rfl) | (refine ry_run (by rfl) (fun w' hw' => ?_); go_simp; try rfl)
                simp only [Act.put, List.setIfInBounds_toArray, List.set_cons_zero, List.set_cons_succ]
                refine take0 (v := ?v32) (oi := ?o32) 7 ?hi32 (by kernel_rfl) (by kernel_rfl) (by kernel_rfl) ?hq32 ?hy32 ?_
                case hi32 => (simp only [List.getElem?_toArray, List.getElem?_cons_zero, List.getElem?_cons_succ]; rfl)
                case hq32 => exact fun _ _ _ h => h
                case hy32 => first | (refine ry_not ?_; rfl) | (refine ry_run (by rfl) (fun w' hw' => ?_); go_simp; try rfl)
                simp only [Act.put, List.setIfInBounds_toArray, List.set_cons_zero, List.set_cons_succ]
                refine take0 (v := ?v33) (oi := ?o33) 8 ?hi33 (by kernel_rfl) (by kernel_rfl) (by kernel_rfl) ?hq33 ?hy33 ?_
                case hi33 => (simp only [List.getElem?_toArray, List.getElem?_cons_zero, List.getElem?_cons_succ]; rfl)
                case hq33 => exact fun _ _ _ h => h
                case hy33 => first | (refine ry_not ?_; rfl) | (refine ry_run (by rfl) (fun w' hw' => ?_); go_simp; try rfl)
                simp only [Act.put, List.setIfInBounds_toArray, List.set_cons_zero, List.set_cons_succ]
                refine take0 (v := ?v34) (oi := ?o34) 9 ?hi34 (by kernel_rfl) (by kernel_rfl) (by kernel_rfl) ?hq34 ?hy34 ?_
                case hi34 => (simp only [List.getElem?_toArray, List.getElem?_cons_zero, List.getElem?_cons_succ]; rfl)
                case hq34 => exact fun _ _ _ h => h
                case hy34 => first | (refine ry_not ?_; rfl) | (refine ry_run (by rfl) (fun w' hw' => ?_); go_simp; try rfl)
                simp only [Act.put, List.setIfInBounds_toArray, List.set_cons_zero, List.set_cons_succ]
                refine take0 (v := ?v35) (oi := ?o35) 10 ?hi35 (by kernel_rfl) (by kernel_rfl) (by kernel_rfl) ?hq35 ?hy35 ?_
                case hi35 => (simp only [List.getElem?_toArray, List.getElem?_cons_zero, List.getElem?_cons_succ]; rfl)
                case hq35 => exact fun _ _ _ h => h
                case hy35 => first | (refine ry_not ?_; rfl) | (refine ry_run (by rfl) (fun w' hw' => ?_); go_simp; try rfl)
                simp only [Act.put, List.setIfInBounds_toArray, List.set_cons_zero, List.set_cons_succ]
                refine wpAnyM_done (by kernel_rfl) ?_
                go_wp2_with fail
                refine bodyPost_ret (v := .tuple #[.string ⟨#[]⟩, va5, .int .i64 y.bad]) (by simp [results, Tryd.results14, go_sem]) rfl ?_
                unfold RReadPost
                exact ⟨_, rfl, own_keep HO5.out ((Mod.refl (fun _ => False) w5).drew) (fun _ _ _ h => h), HM5.out.drew⟩
            · simp only [if_neg h6] at hr
              have HRL := Lib.hid hr
              clear hr
              go_wp2_with fail
              refine (goesR_calls hob (by omega) root ⟨[], [], [], 0⟩ (.slice none 0 0) (.slice none 0 0) (.slice none 0 0) [] _ ⟨by omega, by omega, by omega, by unfold Need; simp; omega, by simp; omega⟩ HWK.out ⟨rfl, by omega, by omega⟩).mono ?_
              unfold GoPost
              rintro e w5 ⟨rfl, va5, vd5, vp5, parts5, hwk5, hm5, _⟩
              have hrl := HRL.out
              obtain ⟨y, hy⟩ : ∃ y, rdR objs from_ (root.size) root ⟨[], [], [], 0⟩ = y := ⟨_, rfl⟩
              simp only [hy] at hwk5 hrl
              have HM5 := Lib.hid (Mod.trans HMK.out hm5 (fun i hi h => by
                rcases h with h | h
                · exact Nat.not_le.2 hi h.1
                · cases h))
              have HO5 := Lib.hid hwk5.oa
              have q4 := hwk5.box.cell (o := 4) rfl
              have q1 := hwk5.box.cell (o := 1) rfl
              have q2 := hwk5.box.cell (o := 2) rfl
              have fv0 := fun (w' : World) (mm : Mod0 w5.drew w') => (hwk5.keep0 (Mod.of_drew_l mm)).box.cell (o := 1) rfl
              have fv1 := fun (w' : World) (mm : Mod0 w5.drew w') => (hwk5.keep0 (Mod.of_drew_l mm)).box.cell (o := 4) rfl
              have fv2 := fun (w' : World) (mm : Mod0 w5.drew w') => (hwk5.keep0 (Mod.of_drew_l mm)).box.cell (o := 2) rfl
              obtain ⟨A5, c5, rfl, _, hcl5, _, _⟩ := own_cells hwk5.od
              have hcv := fun (w' : World) (mm : Mod0 w5.drew w') => run_bytes (P := Tryd.prog) c5 (hcl5.keep (Mod.of_drew_l mm) (fun _ _ h => h)) 72 9 5 Tryd.underlying72 Tryd.underlying5 Tryd.underlying9
              clear hwk5 hm5 hy hcl5
              by_cases hb0 : y.bad = 0
              · have b1 : (y.bad != 0) = false := by simpa using hb0
                rw [if_neg (fun h => h hb0)] at hrl
                subst hrl
                clear hb0
                go_wp2_with fail
                refine region_m (by kernel_rfl) ?_
                simp only [List.length_cons, List.length_nil, List.replicate]
                refine take0 (v := ?v36) (oi := ?o36) 0 ?hi36 (by kernel_rfl) (by kernel_rfl) (by kernel_rfl) ?hq36 ?hy36 ?_
                case hi36 => (simp only [List.getElem?_toArray, List.getElem?_cons_zero, List.getElem?_cons_succ]; rfl)
                case hq36 => exact fun _ _ _ h => h
                case hy36 => first | (refine ry_not ?_; rfl) | (refine ry_run (by rfl) (fun w' hw' => ?_); go_simp; try rfl)
                simp only [Act.put, List.setIfInBounds_toArray, List.set_cons_zero, List.set_cons_succ]
                refine take0 (v := ?v37) (oi := ?o37) 1 ?hi37 (by kernel_rfl) (by kernel_rfl) (by kernel_rfl) ?hq37 ?hy37 ?_
                case hi37 => (simp only [List.getElem?_toArray, List.getElem?_cons_zero, List.getElem?_cons_succ]; rfl)
                case hq37 => exact fun _ _ _ h => h
                case hy37 => first | (refine ry_not ?_; rfl) | (refine ry_run (by rfl) (fun w' hw' => ?_); go_simp; try rfl)
                simp only [Act.put, List.setIfInBounds_toArray, List.set_cons_zero, List.set_cons_succ]
                refine take0 (v := ?v38) (oi := ?o38) 2 ?hi38 (by kernel_rfl) (by kernel_rfl) (by kernel_rfl) ?hq38 ?hy38 ?_
                case hi38 => (simp only [List.getElem?_toArray, List.getElem?_cons_zero, List.getElem?_cons_succ]; rfl)
                case hq38 => exact fun _ _ _ h => h
                case hy38 => first | (refine ry_not ?_; rfl) | (refine ry_run (by rfl) (fun w' hw' => ?_); go_simp; try rfl)
                simp only [Act.put, List.setIfInBounds_toArray, List.set_cons_zero, List.set_cons_succ]
                refine take0 (v := ?v39) (oi := ?o39) 3 ?hi39 (by kernel_rfl) (by kernel_rfl) (by kernel_rfl) ?hq39 ?hy39 ?_
                case hi39 => (simp only [List.getElem?_toArray, List.getElem?_cons_zero, List.getElem?_cons_succ]; rfl)
                case hq39 => exact fun _ _ _ h => h
                case hy39 => first | (refine ry_not ?_; rfl) | (refine ry_run (by rfl) (fun w' hw' => ?_); go_simp; try rfl)
                simp only [Act.put, List.setIfInBounds_toArray, List.set_cons_zero, List.set_cons_succ]
                refine take0 (v := ?v40) (oi := ?o40) 4 ?hi40 (by kernel_rfl) (by kernel_rfl) (by kernel_rfl) ?hq40 ?hy40 ?_
                case hi40 => (simp only [List.getElem?_toArray, List.getElem?_cons_zero, List.getElem?_cons_succ]; rfl)
                case hq40 => exact fun _ _ _ h => h
                case hy40 => first | (refine ry_not ?_; rfl) | (refine ry_run (by rfl) (fun w' hw' => ?_); go_simp; try rfl)
                simp only [Act.put, List.setIfInBounds_toArray, List.set_cons_zero, List.set_cons_succ]
                refine take0 (v := ?v41) (oi := ?o41) 5 ?hi41 (by kernel_rfl) (by kernel_rfl) (by kernel_rfl) ?hq41 ?hy41 ?_
                case hi41 => (simp only [List.getElem?_toArray, List.getElem?_cons_zero, List.getElem?_cons_succ]; rfl)
                case hq41 => exact fun _ _ _ h => h
                case hy41 => first | (refine ry_not ?_; rfl) | (refine ry_run (by rfl) (fun w' hw' => ?_); go_simp; try rfl)
                simp only [Act.put, List.setIfInBounds_toArray, List.set_cons_zero, List.set_cons_succ]
                refine take0 (v := ?v42) (oi := ?o42) 6 ?hi42 (by kernel_rfl) (by kernel_rfl) (by kernel_rfl) ?hq42 ?hy42 ?_
                case hi42 => (simp only [List.getElem?_toArray, List.getElem?_cons_zero, List.getElem?_cons_succ]; rfl)
                case hq42 => exact fun _ _ _ h => h
                case hy42 => first | (refine ry_not ?_; rfl) | (refine ry_run (by rfl) (fun w' hw' => ?_); go_simp; try rfl)
                simp only [Act.put, List.setIfInBounds_toArray, List.set_cons_zero, List.set_cons_succ]
                refine take0 (v := ?v43) (oi := ?o43) 7 ?hi43 (by kernel_rfl) (by kernel_rfl) (by kernel_rfl) ?hq43 ?hy43 ?_
                case hi43 => (simp only [List.getElem?_toArray, List.getElem?_cons_zero, List.getElem?_cons_succ]; rfl)
                case hq43 => exact fun _ _ _ h => h
                case hy43 => first | (refine ry_not ?_; rfl) | (refine ry_run (by rfl) (fun w' hw' => ?_); go_simp; try rfl)
                simp only [Act.put, List.setIfInBounds_toArray, List.set_cons_zero, List.set_cons_succ]
                refine take0 (v := ?v44) (oi := ?o44) 8 ?hi44 (by kernel_rfl) (by kernel_rfl) (by kernel_rfl) ?hq44 ?hy44 ?_
                case hi44 => (simp only [List.getElem?_toArray, List.getElem?_cons_zero, List.getElem?_cons_succ]; rfl)
                case hq44 => exact fun _ _ _ h => h
                case hy44 => first | (refine ry_not ?_; rfl) | (refine ry_run (by rfl) (fun w' hw' => ?_); go_simp; try rfl)
                simp only [Act.put, List.setIfInBounds_toArray, List.set_cons_zero, List.set_cons_succ]
                refine take0 (v := ?v45) (oi := ?o45) 9 ?hi45 (by kernel_rfl) (by kernel_rfl) (by kernel_rfl) ?hq45 ?hy45 ?_
                case hi45 => (simp only [List.getElem?_toArray, List.getElem?_cons_zero, List.getElem?_cons_succ]; rfl)
                case hq45 => exact fun _ _ _ h => h
                case hy45 => first | (refine ry_not ?_; rfl) | (refine ry_run (by rfl) (fun w' hw' => ?_); go_simp; try rfl)
                simp only [Act.put, List.setIfInBounds_toArray, List.set_cons_zero, List.set_cons_succ]
                refine take0 (v := ?v46) (oi := ?o46) 10 ?hi46 (by kernel_rfl) (by kernel_rfl) (by kernel_rfl) ?hq46 ?hy46 ?_
                case hi46 => (simp only [List.getElem?_toArray, List.getElem?_cons_zero, List.getElem?_cons_succ]; rfl)
                case hq46 => exact fun _ _ _ h => h
                case hy46 => first | (refine ry_not ?_; rfl) | (refine ry_run (by rfl) (fun w' hw' => ?_); go_simp; try rfl)
                simp only [Act.put, List.setIfInBounds_toArray, List.set_cons_zero, List.set_cons_succ]
                refine take0 (v := ?v47) (oi := ?o47) 11 ?hi47 (by kernel_rfl) (by kernel_rfl) (by kernel_rfl) ?hq47 ?hy47 ?_
                case hi47 => (simp only [List.getElem?_toArray, List.getElem?_cons_zero, List.getElem?_cons_succ]; rfl)
                case hq47 => exact fun _ _ _ h => h
                case hy47 => first | (refine ry_not ?_; rfl) | (refine ry_run (by rfl) (fun w' hw' => ?_); go_simp; try rfl)
                simp only [Act.put, List.setIfInBounds_toArray, List.set_cons_zero, List.set_cons_succ]
                refine wpAnyM_done (by kernel_rfl) ?_
                go_wp2_with fail
                refine bodyPost_ret (v := .tuple #[.string ⟨y.data.toArray⟩, va5, .int .i64 0]) (by simp [results, Tryd.results14, go_sem]) rfl ?_
                unfold RReadPost
                exact ⟨_, rfl, own_keep HO5.out ((Mod.refl (fun _ => False) w5).drew) (fun _ _ _ h => h), HM5.out.drew⟩
              · have b1 : (y.bad != 0) = true := by simpa using hb0
                rw [if_pos hb0] at hrl
                subst hrl
                clear hb0
                go_wp2_with fail
                refine region_m (by kernel_rfl) ?_
                simp only [List.length_cons, List.length_nil, List.replicate]
                refine take0 (v := ?v48) (oi := ?o48) 0 ?hi48 (by kernel_rfl) (by kernel_rfl) (by kernel_rfl) ?hq48 ?hy48 ?_
                case hi48 => (simp only [List.getElem?_toArray, List.getElem?_cons_zero, List.getElem?_cons_succ]; rfl)
                case hq48 => exact fun _ _ _ h => h
                case hy48 => first | (refine ry_not ?_; rfl) | (refine ry_run (by rfl) (fun w' hw' => ?_); go_simp; try rfl)
                simp only [Act.put, List.setIfInBounds_toArray, List.set_cons_zero, List.set_cons_succ]
                refine take0 (v := ?v49) (oi := ?o49) 1 ?hi49 (by kernel_rfl) (by kernel_rfl) (by kernel_rfl) ?hq49 ?hy49 ?_
                case hi49 => (simp only [List.getElem?_toArray, List.getElem?_cons_zero, List.getElem?_cons_succ]; rfl)
                case hq49 => exact fun _ _ _ h => h
                case hy49 => first | (refine ry_not ?_; rfl) | (refine ry_run (by rfl) (fun w' hw' => ?_); go_simp; try rfl)
                simp only [Act.put, List.setIfInBounds_toArray, List.set_cons_zero, List.set_cons_succ]
                refine take0 (v := ?v50) (oi := ?o50) 2 ?hi50 (by kernel_rfl) (by kernel_rfl) (by kernel_rfl) ?hq50 ?hy50 ?_
                case hi50 => (simp only [List.getElem?_toArray, List.getElem?_cons_zero, List.getElem?_cons_succ]; rfl)
                case hq50 => exact fun _ _ _ h => h
                case hy50 => first | (refine ry_not ?_; rfl) | (refine ry_run (by rfl) (fun w' hw' => ?_); go_simp; try rfl)
                simp only [Act.put, List.setIfInBounds_toArray, List.set_cons_zero, List.set_cons_succ]
                refine take0 (v := ?v51) (oi := ?o51) 3 ?hi51 (by kernel_rfl) (by kernel_rfl) (by kernel_rfl) ?hq51 ?hy51 ?_
                case hi51 => (simp only [List.getElem?_toArray, List.getElem?_cons_zero, List.getElem?_cons_succ]; rfl)
                case hq51 => exact fun _ _ _ h => h
                case hy51 => first | (refine ry_not ?_; rfl) | (refine ry_run (by rfl) (fun w' hw' => ?_); go_simp; try rfl)
                simp only [Act.put, List.setIfInBounds_toArray, List.set_cons_zero, List.set_cons_succ]
                refine take0 (v := ?v52) (oi := ?o52) 4 ?hi52 (by kernel_rfl) (by kernel_rfl) (by kernel_rfl) ?hq52 ?hy52 ?_
                case hi52 => (simp only [List.getElem?_toArray, List.getElem?_cons_zero, List.getElem?_cons_succ]; rfl)
                case hq52 => exact fun _ _ _ h => h
                case hy52 => first | (refine ry_not ?_; rfl) | (refine ry_run (by rfl) (fun w' hw' => ?_); go_simp; try rfl)
                simp only [Act.put, List.setIfInBounds_toArray, List.set_cons_zero, List.set_cons_succ]
                refine take0 (v := ?v53) (oi := ?o53) 5 ?hi53 (by kernel_rfl) (by kernel_rfl) (by kernel_rfl) ?hq53 ?hy53 ?_
                case hi53 => (simp only [List.getElem?_toArray, List.getElem?_cons_zero, List.getElem?_cons_succ]; rfl)
                case hq53 => exact fun _ _ _ h => h
                case hy53 => first | (refine ry_not ?_; rfl) | (refine ry_run (by rfl) (fun w' hw' => ?_); go_simp; try rfl)
                simp only [Act.put, List.setIfInBounds_toArray, List.set_cons_zero, List.set_cons_succ]
                refine take0 (v := ?v54) (oi := ?o54) 6 ?hi54 (by kernel_rfl) (by kernel_rfl) (by kernel_rfl) ?hq54 ?hy54 ?_
                case hi54 => (simp only [List.getElem?_toArray, List.getElem?_cons_zero, List.getElem?_cons_succ]; rfl)
                case hq54 => exact fun _ _ _ h => h
                case hy54 => first | (refine ry_not ?_; rfl) | (refine ry_run (by rfl) (fun w' hw' => ?_); go_simp; try rfl)
                simp only [Act.put, List.setIfInBounds_toArray, List.set_cons_zero, List.set_cons_succ]
                refine take0 (v := ?v55) (oi := ?o55) 7 ?hi55 (by kernel_rfl) (by kernel_rfl) (by kernel_rfl) ?hq55 ?hy55 ?_
                case hi55 => (simp only [List.getElem?_toArray, List.getElem?_cons_zero, List.getElem?_cons_succ]; rfl)
                case hq55 => exact fun _ _ _ h => h
                case hy55 => first | (refine ry_not ?_; rfl) | (refine ry_run (by rfl) (fun w' hw' => ?_); go_simp; try rfl)
                simp only [Act.put, List.setIfInBounds_toArray, List.set_cons_zero, List.set_cons_succ]
                refine take0 (v := ?v56) (oi := ?o56) 8 ?hi56 (by kernel_rfl) (by kernel_rfl) (by kernel_rfl) ?hq56 ?hy56 ?_
                case hi56 => (simp only [List.getElem?_toArray, List.getElem?_cons_zero, List.getElem?_cons_succ]; rfl)
                case hq56 => exact fun _ _ _ h => h
                case hy56 => first | (refine ry_not ?_; rfl) | (refine ry_run (by rfl) (fun w' hw' => ?_); go_simp; try rfl)
                simp only [Act.put, List.setIfInBounds_toArray, List.set_cons_zero, List.set_cons_succ]
                refine take0 (v := ?v57) (oi := ?o57) 9 ?hi57 (by kernel_rfl) (by kernel_rfl) (by kernel_rfl) ?hq57 ?hy57 ?_
                case hi57 => (simp only [List.getElem?_toArray, List.getElem?_cons_zero, List.getElem?_cons_succ]; rfl)
                case hq57 => exact fun _ _ _ h => h
                case hy57 => first | (refine ry_not ?_; rfl) | (refine ry_run (by rfl) (fun w' hw' => ?_); go_simp; try rfl)
                simp only [Act.put, List.setIfInBounds_toArray, List.set_cons_zero, List.set_cons_succ]
                refine take0 (v := ?v58) (oi := ?o58) 10 ?hi58 (by kernel_rfl) (by kernel_rfl) (by kernel_rfl) ?hq58 ?hy58 ?_
                case hi58 => (simp only [List.getElem?_toArray, List.getElem?_cons_zero, List.getElem?_cons_succ]; rfl)
                case hq58 => exact fun _ _ _ h => h
                case hy58 => first | (refine ry_not ?_; rfl) | (refine ry_run (by rfl) (fun w' hw' => ?_); go_simp; try rfl)
                simp only [Act.put, List.setIfInBounds_toArray, List.set_cons_zero, List.set_cons_succ]
                refine wpAnyM_done (by kernel_rfl) ?_
                go_wp2_with fail
                refine bodyPost_ret (v := .tuple #[.string ⟨#[]⟩, va5, .int .i64 y.bad]) (by simp [results, Tryd.results14, go_sem]) rfl ?_
                unfold RReadPost
                exact ⟨_, rfl, own_keep HO5.out ((Mod.refl (fun _ => False) w5).drew) (fun _ _ _ h => h), HM5.out.drew⟩
        · have h4' : root.size ≤ from_ := by omega
          rw [if_neg (fun h => h4 h.1)] at hr
          subst hr
          have hwk := HWK.out
          have q4 := hwk.box.cell (o := 4) rfl
          have fv0 := fun (w' : World) (mm : Mod0 (w2.alloc (.cells #[.slice A objs.length c, .slice none 0 0, .slice none 0 0, .slice none 0 0, .int .i64 0] 79)).drew w') => (hwk.keep0 (Mod.of_drew_l mm)).box.cell (o := 1) rfl
          have fv2 := fun (w' : World) (mm : Mod0 (w2.alloc (.cells #[.slice A objs.length c, .slice none 0 0, .slice none 0 0, .slice none 0 0, .int .i64 0] 79)).drew w') => (hwk.keep0 (Mod.of_drew_l mm)).box.cell (o := 2) rfl
          have hcv := fun (w' : World) => run_bytes (P := Tryd.prog) (w := w') (A := none) (l := []) 0 (.inl rfl) 72 9 5 Tryd.underlying72 Tryd.underlying5 Tryd.underlying9
          simp only [List.length_nil] at hcv
          clear hwk
          go_wp2_with fail
          refine region_m (by kernel_rfl) ?_
          simp only [List.length_cons, List.length_nil, List.replicate]
          refine take0 (v := ?v59) (oi := ?o59) 0 ?hi59 (by kernel_rfl) (by kernel_rfl) (by kernel_rfl) ?hq59 ?hy59 ?_
          case hi59 => (simp only [List.getElem?_toArray, List.getElem?_cons_zero, List.getElem?_cons_succ]; rfl)
          case hq59 => exact fun _ _ _ h => h
          case hy59 => first | (refine ry_not ?_; rfl) | (refine ry_run (by rfl) (fun w' hw' => ?_); go_simp; try rfl)
          simp only [Act.put, List.setIfInBounds_toArray, List.set_cons_zero, List.set_cons_succ]
          refine take0 (v := ?v60) (oi := ?o60) 1 ?hi60 (by kernel_rfl) (by kernel_rfl) (by kernel_rfl) ?hq60 ?hy60 ?_
          case hi60 => (simp only [List.getElem?_toArray, List.getElem?_cons_zero, List.getElem?_cons_succ]; rfl)
          case hq60 => exact fun _ _ _ h => h
          case hy60 => first | (refine ry_not ?_; rfl) | (refine ry_run (by rfl) (fun w' hw' => ?_); go_simp; try rfl)
          simp only [Act.put, List.setIfInBounds_toArray, List.set_cons_zero, List.set_cons_succ]
          refine take0 (v := ?v61) (oi := ?o61) 2 ?hi61 (by kernel_rfl) (by kernel_rfl) (by kernel_rfl) ?hq61 ?hy61 ?_
          case hi61 => (simp only [List.getElem?_toArray, List.getElem?_cons_zero, List.getElem?_cons_succ]; rfl)
          case hq61 => exact fun _ _ _ h => h
          case hy61 => first | (refine ry_not ?_; rfl) | (refine ry_run (by rfl) (fun w' hw' => ?_); go_simp; try rfl)
          simp only [Act.put, List.setIfInBounds_toArray, List.set_cons_zero, List.set_cons_succ]
          refine take0 (v := ?v62) (oi := ?o62) 3 ?hi62 (by kernel_rfl) (by kernel_rfl) (by kernel_rfl) ?hq62 ?hy62 ?_
          case hi62 => (simp only [List.getElem?_toArray, List.getElem?_cons_zero, List.getElem?_cons_succ]; rfl)
          case hq62 => exact fun _ _ _ h => h
          case hy62 => first | (refine ry_not ?_; rfl) | (refine ry_run (by rfl) (fun w' hw' => ?_); go_simp; try rfl)
          simp only [Act.put, List.setIfInBounds_toArray, List.set_cons_zero, List.set_cons_succ]
          refine take0 (v := ?v63) (oi := ?o63) 4 ?hi63 (by kernel_rfl) (by kernel_rfl) (by kernel_rfl) ?hq63 ?hy63 ?_
          case hi63 => (simp only [List.getElem?_toArray, List.getElem?_cons_zero, List.getElem?_cons_succ]; rfl)
          case hq63 => exact fun _ _ _ h => h
          case hy63 => first | (refine ry_not ?_; rfl) | (refine ry_run (by rfl) (fun w' hw' => ?_); go_simp; try rfl)
          simp only [Act.put, List.setIfInBounds_toArray, List.set_cons_zero, List.set_cons_succ]
          refine take0 (v := ?v64) (oi := ?o64) 5 ?hi64 (by kernel_rfl) (by kernel_rfl) (by kernel_rfl) ?hq64 ?hy64 ?_
          case hi64 => (simp only [List.getElem?_toArray, List.getElem?_cons_zero, List.getElem?_cons_succ]; rfl)
          case hq64 => exact fun _ _ _ h => h
          case hy64 => first | (refine ry_not ?_; rfl) | (refine ry_run (by rfl) (fun w' hw' => ?_); go_simp; try rfl)
          simp only [Act.put, List.setIfInBounds_toArray, List.set_cons_zero, List.set_cons_succ]
          refine take0 (v := ?v65) (oi := ?o65) 6 ?hi65 (by kernel_rfl) (by kernel_rfl) (by kernel_rfl) ?hq65 ?hy65 ?_
          case hi65 => (simp only [List.getElem?_toArray, List.getElem?_cons_zero, List.getElem?_cons_succ]; rfl)
          case hq65 => exact fun _ _ _ h => h
          case hy65 => first | (refine ry_not ?_; rfl) | (refine ry_run (by rfl) (fun w' hw' => ?_); go_simp; try rfl)
          simp only [Act.put, List.setIfInBounds_toArray, List.set_cons_zero, List.set_cons_succ]
          refine take0 (v := ?v66) (oi := ?o66) 7 ?hi66 (by kernel_rfl) (by kernel_rfl) (by kernel_rfl) ?hq66 ?hy66 ?_
          case hi66 => (simp only [List.getElem?_toArray, List.getElem?_cons_zero, List.getElem?_cons_succ]; rfl)
          case hq66 => exact fun _ _ _ h => h
          case hy66 => first | (refine ry_not ?_; rfl) | (refine ry_run (by rfl) (fun w' hw' => ?_); go_simp; try rfl)
          simp only [Act.put, List.setIfInBounds_toArray, List.set_cons_zero, List.set_cons_succ]
          refine take0 (v := ?v67) (oi := ?o67) 8 ?hi67 (by kernel_rfl) (by kernel_rfl) (by kernel_rfl) ?hq67 ?hy67 ?_
          case hi67 => (simp only [List.getElem?_toArray, List.getElem?_cons_zero, List.getElem?_cons_succ]; rfl)
          case hq67 => exact fun _ _ _ h => h
          case hy67 => first | (refine ry_not ?_; rfl) | (refine ry_run (by rfl) (fun w' hw' => ?_); go_simp; try rfl)
          simp only [Act.put, List.setIfInBounds_toArray, List.set_cons_zero, List.set_cons_succ]
          refine take0 (v := ?v68) (oi := ?o68) 9 ?hi68 (by kernel_rfl) (by kernel_rfl) (by kernel_rfl) ?hq68 ?hy68 ?_
          case hi68 => (simp only [List.getElem?_toArray, List.getElem?_cons_zero, List.getElem?_cons_succ]; rfl)
          case hq68 => exact fun _ _ _ h => h
          case hy68 => first | (refine ry_not ?_; rfl) | (refine ry_run (by rfl) (fun w' hw' => ?_); go_simp; try rfl)
          simp only [Act.put, List.setIfInBounds_toArray, List.set_cons_zero, List.set_cons_succ]
          refine take0 (v := ?v69) (oi := ?o69) 10 ?hi69 (by kernel_rfl) (by kernel_rfl) (by kernel_rfl) ?hq69 ?hy69 ?_
          case hi69 => (simp only [List.getElem?_toArray, List.getElem?_cons_zero, List.getElem?_cons_succ]; rfl)
          case hq69 => exact fun _ _ _ h => h
          case hy69 => first | (refine ry_not ?_; rfl) | (refine ry_run (by rfl) (fun w' hw' => ?_); go_simp; try rfl)
          simp only [Act.put, List.setIfInBounds_toArray, List.set_cons_zero, List.set_cons_succ]
          refine take0 (v := ?v70) (oi := ?o70) 11 ?hi70 (by kernel_rfl) (by kernel_rfl) (by kernel_rfl) ?hq70 ?hy70 ?_
          case hi70 => (simp only [List.getElem?_toArray, List.getElem?_cons_zero, List.getElem?_cons_succ]; rfl)
          case hq70 => exact fun _ _ _ h => h
          case hy70 => first | (refine ry_not ?_; rfl) | (refine ry_run (by rfl) (fun w' hw' => ?_); go_simp; try rfl)
          simp only [Act.put, List.setIfInBounds_toArray, List.set_cons_zero, List.set_cons_succ]
          refine wpAnyM_done (by kernel_rfl) ?_
          go_wp2_with fail
          refine bodyPost_ret (v := .tuple #[.string ⟨#[]⟩, .slice none 0 0, .int .i64 0]) (by simp [results, Tryd.results14, go_sem]) rfl ?_
          unfold RReadPost
          exact ⟨_, rfl, World.ownsRow_nil _ _ _ _, HMK.out.drew⟩
      · rw [if_neg (fun h => h3 h.2.2)] at hr
        subst hr
        have h2' : ¬ from_ < 0 := by omega
        have h3' : n < 0 := by omega
        go_enter Tryd.func14, Tryd.ntmps14
        go_wp2_with fail
        refine (rRight_calls root _).mono ?_
        rintro e w2 ⟨rfl, hm2⟩
        have HM := Lib.hid (Mod.trans hm1 hm2 (fun _ _ h => h))
        rw [HRP.out]
        clear hm2
        go_wp2_with fail
        refine bodyPost_ret (v := .tuple #[.string ⟨#[]⟩, .slice none 0 0, .int .i64 2]) (by simp [results, Tryd.results14, go_sem]) rfl ?_
        unfold RReadPost
        exact ⟨_, rfl, World.ownsRow_nil _ _ _ _, HM.out⟩
    · rw [if_neg (fun h => h2 h.2.1)] at hr
      subst hr
      have h2' : from_ < 0 := by omega
      go_enter Tryd.func14, Tryd.ntmps14
      go_wp2_with fail
      refine (rRight_calls root _).mono ?_
      rintro e w2 ⟨rfl, hm2⟩
      have HM := Lib.hid (Mod.trans hm1 hm2 (fun _ _ h => h))
      rw [HRP.out]
      clear hm2
      go_wp2_with fail
      refine bodyPost_ret (v := .tuple #[.string ⟨#[]⟩, .slice none 0 0, .int .i64 2]) (by simp [results, Tryd.results14, go_sem]) rfl ?_
      unfold RReadPost
      exact ⟨_, rfl, World.ownsRow_nil _ _ _ _, HM.out⟩
  · rw [if_neg (fun h => h1 h.1)] at hr
    subst hr
    have h1' : rightP root = false := by simpa using h1
    have HRP := Lib.hid h1'
    clear h1 h1'
    go_enter Tryd.func14, Tryd.ntmps14
    go_wp2_with fail
    refine (rRight_calls root _).mono ?_
    rintro e w2 ⟨rfl, hm2⟩
    have HM := Lib.hid (Mod.trans hm1 hm2 (fun _ _ h => h))
    rw [HRP.out]
    clear hm2
    go_wp2_with fail
    refine bodyPost_ret (v := .tuple #[.string ⟨#[]⟩, .slice none 0 0, .int .i64 2]) (by simp [results, Tryd.results14, go_sem]) rfl ?_
    unfold RReadPost
    exact ⟨_, rfl, World.ownsRow_nil _ _ _ _, HM.out⟩
end Blob
end Go.Proofs.YthgcjfpaekpeeaaDoor
