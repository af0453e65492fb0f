/- Joined texts: ProG. -/
import Derived.Test.YtpoljpjcmigobaaDoorJ25
import Derived.Test.YtpoljpjcmigobaaDoorJ20
/- The walk of the reference's node. -/
namespace Go.Proofs.YtpoljpjcmigobaaDoor
set_option linter.unusedVariables false
set_option linter.unusedSimpArgs false
open Go.RowKit K Wire
namespace Prolly
open Go.Proofs.YtpoljpjcmigobaaDoor.Obj Go.Proofs.YtpoljpjcmigobaaDoor.Blob

def NodePost (n : PNode) (w : World) (e : Ending) (w' : World) : Prop :=
  ∃ vp vk, e = .returned (.tuple #[.agg #[vp, .int .i64 (pnL n), vk], .int .i64 (pnE n)]) ∧ w'.ownsRow w.heap.size 48 2 vp (pnP n).length ((pnP n).flatMap kc) ∧ w'.ownsRow w.heap.size 67 3 vk (pnK n).length ((pnK n).flatMap lc) ∧ Mod (fun _ => False) w w'
theorem pB_leaf (b : ByteArray) (k : Link) (level : Int) (ps : List Pair) (h : okLeaf b.data.toList = true) (ho : outLeaf b.data.toList = ps) :
    pnodeB b k level = if level < 0 ∨ (level = 0 ∧ 0 < ps.length ∧ (ps.length : Int) = k.many ∧ lastK ps = k.last) then .leaf ps else .bad 122 := by
  unfold pnodeB; rw [if_pos h, ho]
theorem pB_branch (b : ByteArray) (k : Link) (level : Int) (L : Int) (kids : List Link) (OB : Bool) (h : okLeaf b.data.toList = false) (ho : outBranch b.data.toList = (L, kids)) (hb : okBranch b.data.toList = OB) :
    pnodeB b k level = if OB = true ∧ (level < 0 ∨ (L = level ∧ manyL kids = k.many ∧ lastL kids = k.last)) then .branch L kids else .bad 122 := by
  unfold pnodeB; rw [if_neg (by rw [h]; decide), ho, hb]

set_option maxRecDepth 100000 in
set_option maxHeartbeats 8000000 in
theorem rNode_calls (A : Option Addr) (c : Nat) (objs : List Ob) (hob : ObsOk objs) (k : Link) (level : Int) (w : World) (hA : Cells w A (objs.flatMap oc)) (hkm : In64 k.many) :
    Calls Tryd.prog 44 #[.slice A objs.length c, .agg #[.string k.last, .string k.id, .int .i64 k.many], .int .i64 level] w (NodePost (pnodeOf objs k level) w) := by
  have hm2 := ((Mod.refl (fun _ => False) w).alloc (.cells #[.string k.last, .string k.id, .int .i64 k.many] 67)).alloc (.cells #[.slice none 0 0, .int .i64 0, .slice none 0 0] 92)
  have hbk : Has ((w.alloc (.cells #[.string k.last, .string k.id, .int .i64 k.many] 67)).alloc (.cells #[.slice none 0 0, .int .i64 0, .slice none 0 0] 92)) w.heap.size [.string k.last, .string k.id, .int .i64 k.many] 67 := (Has.new w _ _).alloc _
  have hbr : Has ((w.alloc (.cells #[.string k.last, .string k.id, .int .i64 k.many] 67)).alloc (.cells #[.slice none 0 0, .int .i64 0, .slice none 0 0] 92)) (w.heap.size + 1) [.slice none 0 0, .int .i64 0, .slice none 0 0] 92 := Has.lit (by simp)
  have HF := Lib.hid (find_calls A c objs k.id _ (hA.keep hm2 (fun _ _ h => h)) hob.many)
  have x1 := hbk.cell (o := 1) rfl
  obtain ⟨NN, hNN⟩ : ∃ NN, pnodeOf objs k level = NN := ⟨_, rfl⟩
  rw [hNN]
  have HNN := Lib.hid hNN
  unfold NodePost
  obtain ⟨W2, hW2⟩ : ∃ W2, (w.alloc (.cells #[.string k.last, .string k.id, .int .i64 k.many] 67)).alloc (.cells #[.slice none 0 0, .int .i64 0, .slice none 0 0] 92) = W2 := ⟨_, rfl⟩
  have hsz : W2.heap.size = w.heap.size + 2 := by rw [← hW2]; simp
  rw [hW2] at hm2 hbk hbr
  have HBK := Lib.hid hbk
  have HBR := Lib.hid hbr
  have HM2 := Lib.hid hm2
  have HW2 := Lib.hid hW2
  clear hA hm2 hbk hbr hNN hW2
  go_enter Tryd.func44, Tryd.ntmps44
  go_wp2_with fail
  refine HF.out.mono ?_
  rintro e w3 ⟨rfl, rfl⟩
  rw [HW2.out]
  clear x1 HF
  cases hf : findL objs k.id with
  | none =>
    have hn : NN = .bad 3 := by rw [← HNN.out]; unfold pnodeOf; rw [hf]
    subst hn
    simp only [show gotE none = 3 from rfl, show gotB none = ⟨#[]⟩ from rfl]
    have hbR := HBR.out
    have hmE := (((Mod.refl (fun g => g = w.heap.size + 1) W2).set1 rfl 0 (.slice none 0 0)).set1 rfl 1 (.int .i64 (0))).set1 rfl 2 (.slice none 0 0)
    have hb2 := ((hbR.set 0 (.slice none 0 0)).set 1 (.int .i64 (0))).set 2 (.slice none 0 0)
    have z0 := hb2.cell (o := 0) rfl
    have z1 := hb2.cell (o := 1) rfl
    have z2 := hb2.cell (o := 2) rfl
    have hbY := HBR.out
    have y0z := (hbY.set 0 (.slice none 0 0)).cell (o := 0) rfl
    have y1z := ((hbY.set 0 (.slice none 0 0)).set 1 (.int .i64 (0))).cell (o := 1) rfl
    have y2z := (((hbY.set 0 (.slice none 0 0)).set 1 (.int .i64 (0))).set 2 (.slice none 0 0)).cell (o := 2) rfl
    have f0 := hbY.frozen 0
    have f1 := hbY.frozen 1
    have f2 := hbY.frozen 2
    have c0 := hbY.cell (o := 0) rfl
    have c1 := hbY.cell (o := 1) rfl
    have c2 := hbY.cell (o := 2) rfl
    have HME := Lib.hid (Mod.trans HM2.out hmE (fun i hi e => by omega))
    have HMEE := Lib.hid hmE
    clear hbY hbR hmE hb2
    go_wp2_with fail
    skip
    refine bodyPost_ret (v := .tuple #[.agg #[.slice none 0 0, .int .i64 (0), .slice none 0 0], .int .i64 3]) (by simp [results, Tryd.results44, go_sem, z0, z1, z2, y0z, y1z, y2z]) rfl ⟨_, _, rfl, World.ownsRow_nil _ _ _ _, World.ownsRow_nil _ _ _ _, HME.out⟩
  | some b =>
    have hbs : b.size ≤ 100000000 := by obtain ⟨o, ho, hb⟩ := findL_mem hf; rw [← hb]; exact hob.small o ho
    have hn : NN = pnodeB b k level := by rw [← HNN.out]; unfold pnodeOf; rw [hf]
    simp only [show gotE (some b) = 0 from rfl, show gotB (some b) = b from rfl]
    have HTL := Lib.hid (fun w1 => rTakeLeaf_calls b w1 hbs)
    have HTB := Lib.hid (fun w1 => rTakeBranch_calls b w1 hbs)
    have hla := leaves_agree b.data.toList
    have hba := branches_agree b.data.toList
    rw [← hla.1, ← hla.2] at HTL
    rw [← hba.1, ← hba.2] at HTB
    clear HNN hla hba
    go_wp2_with fail
    refine (HTL.out _).mono ?_
    rintro e w4 ⟨vp, rfl, hvp, hm4⟩
    have hof := outLeaf_facts b.data.toList
    have hbr := outBranch_facts b.data.toList
    obtain ⟨ps, hps⟩ : ∃ ps, outLeaf b.data.toList = ps := ⟨_, rfl⟩
    rw [hps] at hvp hof
    obtain ⟨Ap, cp, rfl, _, hcp, _, _⟩ := own_cells hvp
    have hbk4 := HBK.out.keep hm4 (fun h => h)
    have hbr4 := HBR.out.keep hm4 (fun h => h)
    have hM4 := Mod.trans HM2.out hm4 (fun _ _ h => h)
    have hvp4 : w4.ownsRow w.heap.size 48 2 (.slice Ap ps.length cp) ps.length (ps.flatMap kc) := own_base hvp (by omega)
    have hz4 : w.heap.size + 2 ≤ w4.heap.size := by have := hm4.size; omega
    have HBK4 := Lib.hid hbk4
    have HBR4 := Lib.hid hbr4
    have HM4 := Lib.hid hM4
    have HVP4 := Lib.hid hvp4
    have HCP4 := Lib.hid hcp
    have HBF := Lib.hid hbr
    clear hbk4 hbr4 hM4 hvp4 hcp hvp hm4 HTL HBK HBR HM2 hbr
    cases hl : okLeaf b.data.toList with
    | true =>
      rw [pB_leaf b k level ps hl hps] at hn
      simp only [show errV true = Value.int .i64 0 from rfl]
      obtain ⟨np, hnp⟩ : ∃ np, ps.length = np := ⟨_, rfl⟩
      have HNP := Lib.hid hnp
      have hpl := hof.1
      rw [hnp] at hn hpl HVP4
      simp only [hnp]
      have fk0 := fun (w' : World) (mm : Mod0 w4.drew w') => ((Mod.of_drew_l mm).cell (p := ⟨w.heap.size, 0, none⟩) HBK4.out.lt (fun h => h)).trans (HBK4.out.cell (o := 0) rfl)
      have fk2 := fun (w' : World) (mm : Mod0 w4.drew w') => ((Mod.of_drew_l mm).cell (p := ⟨w.heap.size, 2, none⟩) HBK4.out.lt (fun h => h)).trans (HBK4.out.cell (o := 2) rfl)
      clear hps hf HTB HBF hnp
      have HBR4d := Lib.hid (HBR4.out.drew)
      have HM4d := Lib.hid (HM4.out.drew)
      have HVP4d := Lib.hid (own_keep HVP4.out ((Mod.refl (fun _ => False) w4).drew) (fun _ _ _ h => h))
      by_cases hl0 : level = 0
      · subst hl0
        by_cases hm : (np : Int) = k.many
        · have b1 : ((np : Int) == k.many) = true := by simpa using hm
          have b1' : ((np : Int) != k.many) = false := by simpa using hm
          by_cases hz : np = 0
          · rw [if_neg (fun h => by rcases h with h | h; omega; omega)] at hn
            subst hn
            subst hz
            have hk0 : k.many = 0 := by omega
            clear hm hof HCP4 HNP b1 b1'
            go_wp2_with fail
            refine region_m (by kernel_rfl) ?_
            simp only [List.length_cons, List.length_nil, List.replicate]
            refine take0 (v := ?v1) (oi := ?o1) 0 ?hi1 (by kernel_rfl) (by kernel_rfl) (by kernel_rfl) ?hq1 ?hy1 ?_
            case hi1 => (simp only [List.getElem?_toArray, List.getElem?_cons_zero, List.getElem?_cons_succ]; rfl)
            case hq1 => exact fun _ _ _ h => h
            case hy1 => first | (refine ry_not ?_; rfl) | (refine ry_run (by rfl) (fun w' hw' => ?_); go_simp; try rfl)
            simp only [Act.put, List.setIfInBounds_toArray, List.set_cons_zero, List.set_cons_succ]
            refine take0 (v := ?v2) (oi := ?o2) 1 ?hi2 (by kernel_rfl) (by kernel_rfl) (by kernel_rfl) ?hq2 ?hy2 ?_
            case hi2 => (simp only [List.getElem?_toArray, List.getElem?_cons_zero, List.getElem?_cons_succ]; rfl)
            case hq2 => exact fun _ _ _ h => h
            case hy2 => first | (refine ry_not ?_; rfl) | (refine ry_run (by rfl) (fun w' hw' => ?_); go_simp; try rfl)
            simp only [Act.put, List.setIfInBounds_toArray, List.set_cons_zero, List.set_cons_succ]
            refine take0 (v := ?v3) (oi := ?o3) 2 ?hi3 (by kernel_rfl) (by kernel_rfl) (by kernel_rfl) ?hq3 ?hy3 ?_
            case hi3 => (simp only [List.getElem?_toArray, List.getElem?_cons_zero, List.getElem?_cons_succ]; rfl)
            case hq3 => exact fun _ _ _ h => h
            case hy3 => first | (refine ry_not ?_; rfl) | (refine ry_run (by rfl) (fun w' hw' => ?_); go_simp; try rfl)
            simp only [Act.put, List.setIfInBounds_toArray, List.set_cons_zero, List.set_cons_succ]
            refine take0 (v := ?v4) (oi := ?o4) 3 ?hi4 (by kernel_rfl) (by kernel_rfl) (by kernel_rfl) ?hq4 ?hy4 ?_
            case hi4 => (simp only [List.getElem?_toArray, List.getElem?_cons_zero, List.getElem?_cons_succ]; rfl)
            case hq4 => exact fun _ _ _ h => h
            case hy4 => first | (refine ry_not ?_; rfl) | (refine ry_run (by rfl) (fun w' hw' => ?_); go_simp; try rfl)
            simp only [Act.put, List.setIfInBounds_toArray, List.set_cons_zero, List.set_cons_succ]
            refine take0 (v := ?v5) (oi := ?o5) 4 ?hi5 (by kernel_rfl) (by kernel_rfl) (by kernel_rfl) ?hq5 ?hy5 ?_
            case hi5 => (simp only [List.getElem?_toArray, List.getElem?_cons_zero, List.getElem?_cons_succ]; rfl)
            case hq5 => exact fun _ _ _ h => h
            case hy5 => first | (refine ry_not ?_; rfl) | (refine ry_run (by rfl) (fun w' hw' => ?_); go_simp; try rfl)
            simp only [Act.put, List.setIfInBounds_toArray, List.set_cons_zero, List.set_cons_succ]
            refine take0 (v := ?v6) (oi := ?o6) 5 ?hi6 (by kernel_rfl) (by kernel_rfl) (by kernel_rfl) ?hq6 ?hy6 ?_
            case hi6 => (simp only [List.getElem?_toArray, List.getElem?_cons_zero, List.getElem?_cons_succ]; rfl)
            case hq6 => exact fun _ _ _ h => h
            case hy6 => first | (refine ry_not ?_; rfl) | (refine ry_run (by rfl) (fun w' hw' => ?_); go_simp; try rfl)
            simp only [Act.put, List.setIfInBounds_toArray, List.set_cons_zero, List.set_cons_succ]
            refine take0 (v := ?v7) (oi := ?o7) 6 ?hi7 (by kernel_rfl) (by kernel_rfl) (by kernel_rfl) ?hq7 ?hy7 ?_
            case hi7 => (simp only [List.getElem?_toArray, List.getElem?_cons_zero, List.getElem?_cons_succ]; rfl)
            case hq7 => exact fun _ _ _ h => h
            case hy7 => first | (refine ry_not ?_; rfl) | (refine ry_run (by rfl) (fun w' hw' => ?_); go_simp; try rfl)
            simp only [Act.put, List.setIfInBounds_toArray, List.set_cons_zero, List.set_cons_succ]
            refine take0 (v := ?v8) (oi := ?o8) 7 ?hi8 (by kernel_rfl) (by kernel_rfl) (by kernel_rfl) ?hq8 ?hy8 ?_
            case hi8 => (simp only [List.getElem?_toArray, List.getElem?_cons_zero, List.getElem?_cons_succ]; rfl)
            case hq8 => exact fun _ _ _ h => h
            case hy8 => first | (refine ry_not ?_; rfl) | (refine ry_run (by rfl) (fun w' hw' => ?_); go_simp; try rfl)
            simp only [Act.put, List.setIfInBounds_toArray, List.set_cons_zero, List.set_cons_succ]
            refine take0 (v := ?v9) (oi := ?o9) 8 ?hi9 (by kernel_rfl) (by kernel_rfl) (by kernel_rfl) ?hq9 ?hy9 ?_
            case hi9 => (simp only [List.getElem?_toArray, List.getElem?_cons_zero, List.getElem?_cons_succ]; rfl)
            case hq9 => exact fun _ _ _ h => h
            case hy9 => first | (refine ry_not ?_; rfl) | (refine ry_run (by rfl) (fun w' hw' => ?_); go_simp; try rfl)
            simp only [Act.put, List.setIfInBounds_toArray, List.set_cons_zero, List.set_cons_succ]
            refine take0 (v := ?v10) (oi := ?o10) 9 ?hi10 (by kernel_rfl) (by kernel_rfl) (by kernel_rfl) ?hq10 ?hy10 ?_
            case hi10 => (simp only [List.getElem?_toArray, List.getElem?_cons_zero, List.getElem?_cons_succ]; rfl)
            case hq10 => exact fun _ _ _ h => h
            case hy10 => first | (refine ry_not ?_; rfl) | (refine ry_run (by rfl) (fun w' hw' => ?_); go_simp; try rfl)
            simp only [Act.put, List.setIfInBounds_toArray, List.set_cons_zero, List.set_cons_succ]
            refine take0 (v := ?v11) (oi := ?o11) 10 ?hi11 (by kernel_rfl) (by kernel_rfl) (by kernel_rfl) ?hq11 ?hy11 ?_
            case hi11 => (simp only [List.getElem?_toArray, List.getElem?_cons_zero, List.getElem?_cons_succ]; rfl)
            case hq11 => exact fun _ _ _ h => h
            case hy11 => first | (refine ry_not ?_; rfl) | (refine ry_run (by rfl) (fun w' hw' => ?_); go_simp; try rfl)
            simp only [Act.put, List.setIfInBounds_toArray, List.set_cons_zero, List.set_cons_succ]
            refine take0 (v := ?v12) (oi := ?o12) 11 ?hi12 (by kernel_rfl) (by kernel_rfl) (by kernel_rfl) ?hq12 ?hy12 ?_
            case hi12 => (simp only [List.getElem?_toArray, List.getElem?_cons_zero, List.getElem?_cons_succ]; rfl)
            case hq12 => exact fun _ _ _ h => h
            case hy12 => first | (refine ry_not ?_; rfl) | (refine ry_run (by rfl) (fun w' hw' => ?_); go_simp; try rfl)
            simp only [Act.put, List.setIfInBounds_toArray, List.set_cons_zero, List.set_cons_succ]
            refine take0 (v := ?v13) (oi := ?o13) 12 ?hi13 (by kernel_rfl) (by kernel_rfl) (by kernel_rfl) ?hq13 ?hy13 ?_
            case hi13 => (simp only [List.getElem?_toArray, List.getElem?_cons_zero, List.getElem?_cons_succ]; rfl)
            case hq13 => exact fun _ _ _ h => h
            case hy13 => first | (refine ry_not ?_; rfl) | (refine ry_run (by rfl) (fun w' hw' => ?_); go_simp; try rfl)
            simp only [Act.put, List.setIfInBounds_toArray, List.set_cons_zero, List.set_cons_succ]
            refine take0 (v := ?v14) (oi := ?o14) 13 ?hi14 (by kernel_rfl) (by kernel_rfl) (by kernel_rfl) ?hq14 ?hy14 ?_
            case hi14 => (simp only [List.getElem?_toArray, List.getElem?_cons_zero, List.getElem?_cons_succ]; rfl)
            case hq14 => exact fun _ _ _ h => h
            case hy14 => first | (refine ry_not ?_; rfl) | (refine ry_run (by rfl) (fun w' hw' => ?_); go_simp; try rfl)
            simp only [Act.put, List.setIfInBounds_toArray, List.set_cons_zero, List.set_cons_succ]
            refine take0 (v := ?v15) (oi := ?o15) 14 ?hi15 (by kernel_rfl) (by kernel_rfl) (by kernel_rfl) ?hq15 ?hy15 ?_
            case hi15 => (simp only [List.getElem?_toArray, List.getElem?_cons_zero, List.getElem?_cons_succ]; rfl)
            case hq15 => exact fun _ _ _ h => h
            case hy15 => first | (refine ry_not ?_; rfl) | (refine ry_run (by rfl) (fun w' hw' => ?_); go_simp; try rfl)
            simp only [Act.put, List.setIfInBounds_toArray, List.set_cons_zero, List.set_cons_succ]
            refine take0 (v := ?v16) (oi := ?o16) 15 ?hi16 (by kernel_rfl) (by kernel_rfl) (by kernel_rfl) ?hq16 ?hy16 ?_
            case hi16 => (simp only [List.getElem?_toArray, List.getElem?_cons_zero, List.getElem?_cons_succ]; rfl)
            case hq16 => exact fun _ _ _ h => h
            case hy16 => first | (refine ry_not ?_; rfl) | (refine ry_run (by rfl) (fun w' hw' => ?_); go_simp; try rfl)
            simp only [Act.put, List.setIfInBounds_toArray, List.set_cons_zero, List.set_cons_succ]
            refine take0 (v := ?v17) (oi := ?o17) 16 ?hi17 (by kernel_rfl) (by kernel_rfl) (by kernel_rfl) ?hq17 ?hy17 ?_
            case hi17 => (simp only [List.getElem?_toArray, List.getElem?_cons_zero, List.getElem?_cons_succ]; rfl)
            case hq17 => exact fun _ _ _ h => h
            case hy17 => first | (refine ry_not ?_; rfl) | (refine ry_run (by rfl) (fun w' hw' => ?_); go_simp; try rfl)
            simp only [Act.put, List.setIfInBounds_toArray, List.set_cons_zero, List.set_cons_succ]
            refine take0 (v := ?v18) (oi := ?o18) 17 ?hi18 (by kernel_rfl) (by kernel_rfl) (by kernel_rfl) ?hq18 ?hy18 ?_
            case hi18 => (simp only [List.getElem?_toArray, List.getElem?_cons_zero, List.getElem?_cons_succ]; rfl)
            case hq18 => exact fun _ _ _ h => h
            case hy18 => first | (refine ry_not ?_; rfl) | (refine ry_run (by rfl) (fun w' hw' => ?_); go_simp; try rfl)
            simp only [Act.put, List.setIfInBounds_toArray, List.set_cons_zero, List.set_cons_succ]
            refine take0 (v := ?v19) (oi := ?o19) 18 ?hi19 (by kernel_rfl) (by kernel_rfl) (by kernel_rfl) ?hq19 ?hy19 ?_
            case hi19 => (simp only [List.getElem?_toArray, List.getElem?_cons_zero, List.getElem?_cons_succ]; rfl)
            case hq19 => exact fun _ _ _ h => h
            case hy19 => first | (refine ry_not ?_; rfl) | (refine ry_run (by rfl) (fun w' hw' => ?_); go_simp; try rfl)
            simp only [Act.put, List.setIfInBounds_toArray, List.set_cons_zero, List.set_cons_succ]
            refine take0 (v := ?v20) (oi := ?o20) 19 ?hi20 (by kernel_rfl) (by kernel_rfl) (by kernel_rfl) ?hq20 ?hy20 ?_
            case hi20 => (simp only [List.getElem?_toArray, List.getElem?_cons_zero, List.getElem?_cons_succ]; rfl)
            case hq20 => exact fun _ _ _ h => h
            case hy20 => first | (refine ry_not ?_; rfl) | (refine ry_run (by rfl) (fun w' hw' => ?_); go_simp; try rfl)
            simp only [Act.put, List.setIfInBounds_toArray, List.set_cons_zero, List.set_cons_succ]
            refine take0 (v := ?v21) (oi := ?o21) 20 ?hi21 (by kernel_rfl) (by kernel_rfl) (by kernel_rfl) ?hq21 ?hy21 ?_
            case hi21 => (simp only [List.getElem?_toArray, List.getElem?_cons_zero, List.getElem?_cons_succ]; rfl)
            case hq21 => exact fun _ _ _ h => h
            case hy21 => first | (refine ry_not ?_; rfl) | (refine ry_run (by rfl) (fun w' hw' => ?_); go_simp; try rfl)
            simp only [Act.put, List.setIfInBounds_toArray, List.set_cons_zero, List.set_cons_succ]
            refine take0 (v := ?v22) (oi := ?o22) 21 ?hi22 (by kernel_rfl) (by kernel_rfl) (by kernel_rfl) ?hq22 ?hy22 ?_
            case hi22 => (simp only [List.getElem?_toArray, List.getElem?_cons_zero, List.getElem?_cons_succ]; rfl)
            case hq22 => exact fun _ _ _ h => h
            case hy22 => first | (refine ry_not ?_; rfl) | (refine ry_run (by rfl) (fun w' hw' => ?_); go_simp; try rfl)
            simp only [Act.put, List.setIfInBounds_toArray, List.set_cons_zero, List.set_cons_succ]
            refine take0 (v := ?v23) (oi := ?o23) 22 ?hi23 (by kernel_rfl) (by kernel_rfl) (by kernel_rfl) ?hq23 ?hy23 ?_
            case hi23 => (simp only [List.getElem?_toArray, List.getElem?_cons_zero, List.getElem?_cons_succ]; rfl)
            case hq23 => exact fun _ _ _ h => h
            case hy23 => first | (refine ry_not ?_; rfl) | (refine ry_run (by rfl) (fun w' hw' => ?_); go_simp; try rfl)
            simp only [Act.put, List.setIfInBounds_toArray, List.set_cons_zero, List.set_cons_succ]
            refine take0 (v := ?v24) (oi := ?o24) 23 ?hi24 (by kernel_rfl) (by kernel_rfl) (by kernel_rfl) ?hq24 ?hy24 ?_
            case hi24 => (simp only [List.getElem?_toArray, List.getElem?_cons_zero, List.getElem?_cons_succ]; rfl)
            case hq24 => exact fun _ _ _ h => h
            case hy24 => first | (refine ry_not ?_; rfl) | (refine ry_run (by rfl) (fun w' hw' => ?_); go_simp; try rfl)
            simp only [Act.put, List.setIfInBounds_toArray, List.set_cons_zero, List.set_cons_succ]
            refine take0 (v := ?v25) (oi := ?o25) 24 ?hi25 (by kernel_rfl) (by kernel_rfl) (by kernel_rfl) ?hq25 ?hy25 ?_
            case hi25 => (simp only [List.getElem?_toArray, List.getElem?_cons_zero, List.getElem?_cons_succ]; rfl)
            case hq25 => exact fun _ _ _ h => h
            case hy25 => first | (refine ry_not ?_; rfl) | (refine ry_run (by rfl) (fun w' hw' => ?_); go_simp; try rfl)
            simp only [Act.put, List.setIfInBounds_toArray, List.set_cons_zero, List.set_cons_succ]
            refine take0 (v := ?v26) (oi := ?o26) 25 ?hi26 (by kernel_rfl) (by kernel_rfl) (by kernel_rfl) ?hq26 ?hy26 ?_
            case hi26 => (simp only [List.getElem?_toArray, List.getElem?_cons_zero, List.getElem?_cons_succ]; rfl)
            case hq26 => exact fun _ _ _ h => h
            case hy26 => first | (refine ry_not ?_; rfl) | (refine ry_run (by rfl) (fun w' hw' => ?_); go_simp; try rfl)
            simp only [Act.put, List.setIfInBounds_toArray, List.set_cons_zero, List.set_cons_succ]
            refine take0 (v := ?v27) (oi := ?o27) 26 ?hi27 (by kernel_rfl) (by kernel_rfl) (by kernel_rfl) ?hq27 ?hy27 ?_
            case hi27 => (simp only [List.getElem?_toArray, List.getElem?_cons_zero, List.getElem?_cons_succ]; rfl)
            case hq27 => exact fun _ _ _ h => h
            case hy27 => first | (refine ry_not ?_; rfl) | (refine ry_run (by rfl) (fun w' hw' => ?_); go_simp; try rfl)
            simp only [Act.put, List.setIfInBounds_toArray, List.set_cons_zero, List.set_cons_succ]
            refine take0 (v := ?v28) (oi := ?o28) 27 ?hi28 (by kernel_rfl) (by kernel_rfl) (by kernel_rfl) ?hq28 ?hy28 ?_
            case hi28 => (simp only [List.getElem?_toArray, List.getElem?_cons_zero, List.getElem?_cons_succ]; rfl)
            case hq28 => exact fun _ _ _ h => h
            case hy28 => first | (refine ry_not ?_; rfl) | (refine ry_run (by rfl) (fun w' hw' => ?_); go_simp; try rfl)
            simp only [Act.put, List.setIfInBounds_toArray, List.set_cons_zero, List.set_cons_succ]
            refine take0 (v := ?v29) (oi := ?o29) 28 ?hi29 (by kernel_rfl) (by kernel_rfl) (by kernel_rfl) ?hq29 ?hy29 ?_
            case hi29 => (simp only [List.getElem?_toArray, List.getElem?_cons_zero, List.getElem?_cons_succ]; rfl)
            case hq29 => exact fun _ _ _ h => h
            case hy29 => first | (refine ry_not ?_; rfl) | (refine ry_run (by rfl) (fun w' hw' => ?_); go_simp; try rfl)
            simp only [Act.put, List.setIfInBounds_toArray, List.set_cons_zero, List.set_cons_succ]
            refine take0 (v := ?v30) (oi := ?o30) 29 ?hi30 (by kernel_rfl) (by kernel_rfl) (by kernel_rfl) ?hq30 ?hy30 ?_
            case hi30 => (simp only [List.getElem?_toArray, List.getElem?_cons_zero, List.getElem?_cons_succ]; rfl)
            case hq30 => exact fun _ _ _ h => h
            case hy30 => first | (refine ry_not ?_; rfl) | (refine ry_run (by rfl) (fun w' hw' => ?_); go_simp; try rfl)
            simp only [Act.put, List.setIfInBounds_toArray, List.set_cons_zero, List.set_cons_succ]
            refine wpAnyM_done (by kernel_rfl) ?_
            have hbR := HBR4d.out
            have hmE := (((Mod.refl (fun g => g = w.heap.size + 1) w4.drew).set1 rfl 0 (.slice none 0 0)).set1 rfl 1 (.int .i64 (0))).set1 rfl 2 (.slice none 0 0)
            have hb2 := ((hbR.set 0 (.slice none 0 0)).set 1 (.int .i64 (0))).set 2 (.slice none 0 0)
            have z0 := hb2.cell (o := 0) rfl
            have z1 := hb2.cell (o := 1) rfl
            have z2 := hb2.cell (o := 2) rfl
            have hbY := HBR4.out
            have y0z := (hbY.set 0 (.slice none 0 0)).cell (o := 0) rfl
            have y1z := ((hbY.set 0 (.slice none 0 0)).set 1 (.int .i64 (0))).cell (o := 1) rfl
            have y2z := (((hbY.set 0 (.slice none 0 0)).set 1 (.int .i64 (0))).set 2 (.slice none 0 0)).cell (o := 2) rfl
            have f0 := hbY.frozen 0
            have f1 := hbY.frozen 1
            have f2 := hbY.frozen 2
            have c0 := hbY.cell (o := 0) rfl
            have c1 := hbY.cell (o := 1) rfl
            have c2 := hbY.cell (o := 2) rfl
            have HME := Lib.hid (Mod.trans HM4d.out hmE (fun i hi e => by omega))
            have HMEE := Lib.hid hmE
            clear hbY hbR hmE hb2
            go_wp2_with fail
            skip
            refine bodyPost_ret (v := .tuple #[.agg #[.slice none 0 0, .int .i64 (0), .slice none 0 0], .int .i64 122]) (by simp [results, Tryd.results44, go_sem, z0, z1, z2, y0z, y1z, y2z]) rfl ⟨_, _, rfl, World.ownsRow_nil _ _ _ _, World.ownsRow_nil _ _ _ _, HME.out⟩
          · obtain ⟨n, rfl⟩ : ∃ n, np = n + 1 := ⟨np - 1, by omega⟩
            have hpz : 0 < ps.length := by have := HNP.out; omega
            have hlk := lastK_at hpz
            rcases HCP4.out with h | ⟨ba, o, rfl, hcell⟩
            · have := flat_len kc_len ps; rw [h] at this; simp at this; omega
            have y0 := hcell _ _ (flat_get kc_len ps (ps.length - 1) 0 (by omega) (by omega))
            obtain ⟨P, hP⟩ : ∃ P, ps[ps.length - 1] = P := ⟨_, rfl⟩
            rw [hP] at y0 hlk
            rw [HNP.out, Nat.add_zero, show n + 1 - 1 = n by omega] at y0
            have hbl : ba < w4.heap.size := World.block_lt_of_cell? w4 _ y0
            have fp0 := fun (w' : World) (mm : Mod0 w4.drew w') => ((Mod.of_drew_l mm).cell (p := ⟨ba, o + n * 2, none⟩) hbl (fun h => h)).trans y0
            have w1 : IntKind.i64.wrap (n : Int) = (n : Int) := by rw [IntKind.wrap_i64]; omega
            have n0 : (0 : Int) ≤ (n : Int) := by omega
            have n1 : (n : Int) < (n : Int) + 1 := by omega
            have n2 : ¬ (n : Int) + 1 = 0 := by omega
            have n3 : ((n : Int) + 1 == 0) = false := by simp; omega
            have c1 : ((n : Int) + 1 == k.many) = true := by simpa using hm
            have c1' : ((n : Int) + 1 != k.many) = false := by simpa using hm
            rw [hlk] at hn
            clear hcell hP y0 hof hlk b1 b1' hpz
            by_cases he : P.key = k.last
            · have e1 : (P.key.toList == k.last.toList) = true := (Lib.bytes_beq_iff _ _).2 he
              rw [if_pos (.inr ⟨rfl, by omega, hm, he⟩)] at hn
              subst hn
              have HVP4e : Hid (w4.drew.ownsRow w.heap.size 48 2 (.slice (some ⟨ba, o, none⟩) (n + 1) cp) ps.length (ps.flatMap kc)) := by rw [HNP.out]; exact HVP4d
              clear hm he
              go_wp2_with fail
              refine region_m (by kernel_rfl) ?_
              simp only [List.length_cons, List.length_nil, List.replicate]
              refine take0 (v := ?v31) (oi := ?o31) 0 ?hi31 (by kernel_rfl) (by kernel_rfl) (by kernel_rfl) ?hq31 ?hy31 ?_
              case hi31 => (simp only [List.getElem?_toArray, List.getElem?_cons_zero, List.getElem?_cons_succ]; rfl)
              case hq31 => exact fun _ _ _ h => h
              case hy31 => first | (refine ry_not ?_; rfl) | (refine ry_run (by rfl) (fun w' hw' => ?_); go_simp; try rfl)
              simp only [Act.put, List.setIfInBounds_toArray, List.set_cons_zero, List.set_cons_succ]
              refine take0 (v := ?v32) (oi := ?o32) 1 ?hi32 (by kernel_rfl) (by kernel_rfl) (by kernel_rfl) ?hq32 ?hy32 ?_
              case hi32 => (simp only [List.getElem?_toArray, List.getElem?_cons_zero, List.getElem?_cons_succ]; rfl)
              case hq32 => exact fun _ _ _ h => h
              case hy32 => first | (refine ry_not ?_; rfl) | (refine ry_run (by rfl) (fun w' hw' => ?_); go_simp; try rfl)
              simp only [Act.put, List.setIfInBounds_toArray, List.set_cons_zero, List.set_cons_succ]
              refine take0 (v := ?v33) (oi := ?o33) 2 ?hi33 (by kernel_rfl) (by kernel_rfl) (by kernel_rfl) ?hq33 ?hy33 ?_
              case hi33 => (simp only [List.getElem?_toArray, List.getElem?_cons_zero, List.getElem?_cons_succ]; rfl)
              case hq33 => exact fun _ _ _ h => h
              case hy33 => first | (refine ry_not ?_; rfl) | (refine ry_run (by rfl) (fun w' hw' => ?_); go_simp; try rfl)
              simp only [Act.put, List.setIfInBounds_toArray, List.set_cons_zero, List.set_cons_succ]
              refine take0 (v := ?v34) (oi := ?o34) 3 ?hi34 (by kernel_rfl) (by kernel_rfl) (by kernel_rfl) ?hq34 ?hy34 ?_
              case hi34 => (simp only [List.getElem?_toArray, List.getElem?_cons_zero, List.getElem?_cons_succ]; rfl)
              case hq34 => exact fun _ _ _ h => h
              case hy34 => first | (refine ry_not ?_; rfl) | (refine ry_run (by rfl) (fun w' hw' => ?_); go_simp; try rfl)
              simp only [Act.put, List.setIfInBounds_toArray, List.set_cons_zero, List.set_cons_succ]
              refine take0 (v := ?v35) (oi := ?o35) 4 ?hi35 (by kernel_rfl) (by kernel_rfl) (by kernel_rfl) ?hq35 ?hy35 ?_
              case hi35 => (simp only [List.getElem?_toArray, List.getElem?_cons_zero, List.getElem?_cons_succ]; rfl)
              case hq35 => exact fun _ _ _ h => h
              case hy35 => first | (refine ry_not ?_; rfl) | (refine ry_run (by rfl) (fun w' hw' => ?_); go_simp; try rfl)
              simp only [Act.put, List.setIfInBounds_toArray, List.set_cons_zero, List.set_cons_succ]
              refine take0 (v := ?v36) (oi := ?o36) 5 ?hi36 (by kernel_rfl) (by kernel_rfl) (by kernel_rfl) ?hq36 ?hy36 ?_
              case hi36 => (simp only [List.getElem?_toArray, List.getElem?_cons_zero, List.getElem?_cons_succ]; rfl)
              case hq36 => exact fun _ _ _ h => h
              case hy36 => first | (refine ry_not ?_; rfl) | (refine ry_run (by rfl) (fun w' hw' => ?_); go_simp; try rfl)
              simp only [Act.put, List.setIfInBounds_toArray, List.set_cons_zero, List.set_cons_succ]
              refine take0 (v := ?v37) (oi := ?o37) 6 ?hi37 (by kernel_rfl) (by kernel_rfl) (by kernel_rfl) ?hq37 ?hy37 ?_
              case hi37 => (simp only [List.getElem?_toArray, List.getElem?_cons_zero, List.getElem?_cons_succ]; rfl)
              case hq37 => exact fun _ _ _ h => h
              case hy37 => first | (refine ry_not ?_; rfl) | (refine ry_run (by rfl) (fun w' hw' => ?_); go_simp; try rfl)
              simp only [Act.put, List.setIfInBounds_toArray, List.set_cons_zero, List.set_cons_succ]
              refine take0 (v := ?v38) (oi := ?o38) 7 ?hi38 (by kernel_rfl) (by kernel_rfl) (by kernel_rfl) ?hq38 ?hy38 ?_
              case hi38 => (simp only [List.getElem?_toArray, List.getElem?_cons_zero, List.getElem?_cons_succ]; rfl)
              case hq38 => exact fun _ _ _ h => h
              case hy38 => first | (refine ry_not ?_; rfl) | (refine ry_run (by rfl) (fun w' hw' => ?_); go_simp; try rfl)
              simp only [Act.put, List.setIfInBounds_toArray, List.set_cons_zero, List.set_cons_succ]
              refine take0 (v := ?v39) (oi := ?o39) 8 ?hi39 (by kernel_rfl) (by kernel_rfl) (by kernel_rfl) ?hq39 ?hy39 ?_
              case hi39 => (simp only [List.getElem?_toArray, List.getElem?_cons_zero, List.getElem?_cons_succ]; rfl)
              case hq39 => exact fun _ _ _ h => h
              case hy39 => first | (refine ry_not ?_; rfl) | (refine ry_run (by rfl) (fun w' hw' => ?_); go_simp; try rfl)
              simp only [Act.put, List.setIfInBounds_toArray, List.set_cons_zero, List.set_cons_succ]
              refine take0 (v := ?v40) (oi := ?o40) 9 ?hi40 (by kernel_rfl) (by kernel_rfl) (by kernel_rfl) ?hq40 ?hy40 ?_
              case hi40 => (simp only [List.getElem?_toArray, List.getElem?_cons_zero, List.getElem?_cons_succ]; rfl)
              case hq40 => exact fun _ _ _ h => h
              case hy40 => first | (refine ry_not ?_; rfl) | (refine ry_run (by rfl) (fun w' hw' => ?_); go_simp; try rfl)
              simp only [Act.put, List.setIfInBounds_toArray, List.set_cons_zero, List.set_cons_succ]
              refine take0 (v := ?v41) (oi := ?o41) 10 ?hi41 (by kernel_rfl) (by kernel_rfl) (by kernel_rfl) ?hq41 ?hy41 ?_
              case hi41 => (simp only [List.getElem?_toArray, List.getElem?_cons_zero, List.getElem?_cons_succ]; rfl)
              case hq41 => exact fun _ _ _ h => h
              case hy41 => first | (refine ry_not ?_; rfl) | (refine ry_run (by rfl) (fun w' hw' => ?_); go_simp; try rfl)
              simp only [Act.put, List.setIfInBounds_toArray, List.set_cons_zero, List.set_cons_succ]
              refine take0 (v := ?v42) (oi := ?o42) 11 ?hi42 (by kernel_rfl) (by kernel_rfl) (by kernel_rfl) ?hq42 ?hy42 ?_
              case hi42 => (simp only [List.getElem?_toArray, List.getElem?_cons_zero, List.getElem?_cons_succ]; rfl)
              case hq42 => exact fun _ _ _ h => h
              case hy42 => first | (refine ry_not ?_; rfl) | (refine ry_run (by rfl) (fun w' hw' => ?_); go_simp; try rfl)
              simp only [Act.put, List.setIfInBounds_toArray, List.set_cons_zero, List.set_cons_succ]
              refine take0 (v := ?v43) (oi := ?o43) 12 ?hi43 (by kernel_rfl) (by kernel_rfl) (by kernel_rfl) ?hq43 ?hy43 ?_
              case hi43 => (simp only [List.getElem?_toArray, List.getElem?_cons_zero, List.getElem?_cons_succ]; rfl)
              case hq43 => exact fun _ _ _ h => h
              case hy43 => first | (refine ry_not ?_; rfl) | (refine ry_run (by rfl) (fun w' hw' => ?_); go_simp; try rfl)
              simp only [Act.put, List.setIfInBounds_toArray, List.set_cons_zero, List.set_cons_succ]
              refine take0 (v := ?v44) (oi := ?o44) 13 ?hi44 (by kernel_rfl) (by kernel_rfl) (by kernel_rfl) ?hq44 ?hy44 ?_
              case hi44 => (simp only [List.getElem?_toArray, List.getElem?_cons_zero, List.getElem?_cons_succ]; rfl)
              case hq44 => exact fun _ _ _ h => h
              case hy44 => first | (refine ry_not ?_; rfl) | (refine ry_run (by rfl) (fun w' hw' => ?_); go_simp; try rfl)
              simp only [Act.put, List.setIfInBounds_toArray, List.set_cons_zero, List.set_cons_succ]
              refine take0 (v := ?v45) (oi := ?o45) 14 ?hi45 (by kernel_rfl) (by kernel_rfl) (by kernel_rfl) ?hq45 ?hy45 ?_
              case hi45 => (simp only [List.getElem?_toArray, List.getElem?_cons_zero, List.getElem?_cons_succ]; rfl)
              case hq45 => exact fun _ _ _ h => h
              case hy45 => first | (refine ry_not ?_; rfl) | (refine ry_run (by rfl) (fun w' hw' => ?_); go_simp; try rfl)
              simp only [Act.put, List.setIfInBounds_toArray, List.set_cons_zero, List.set_cons_succ]
              refine take0 (v := ?v46) (oi := ?o46) 15 ?hi46 (by kernel_rfl) (by kernel_rfl) (by kernel_rfl) ?hq46 ?hy46 ?_
              case hi46 => (simp only [List.getElem?_toArray, List.getElem?_cons_zero, List.getElem?_cons_succ]; rfl)
              case hq46 => exact fun _ _ _ h => h
              case hy46 => first | (refine ry_not ?_; rfl) | (refine ry_run (by rfl) (fun w' hw' => ?_); go_simp; try rfl)
              simp only [Act.put, List.setIfInBounds_toArray, List.set_cons_zero, List.set_cons_succ]
              refine take0 (v := ?v47) (oi := ?o47) 16 ?hi47 (by kernel_rfl) (by kernel_rfl) (by kernel_rfl) ?hq47 ?hy47 ?_
              case hi47 => (simp only [List.getElem?_toArray, List.getElem?_cons_zero, List.getElem?_cons_succ]; rfl)
              case hq47 => exact fun _ _ _ h => h
              case hy47 => first | (refine ry_not ?_; rfl) | (refine ry_run (by rfl) (fun w' hw' => ?_); go_simp; try rfl)
              simp only [Act.put, List.setIfInBounds_toArray, List.set_cons_zero, List.set_cons_succ]
              refine take0 (v := ?v48) (oi := ?o48) 17 ?hi48 (by kernel_rfl) (by kernel_rfl) (by kernel_rfl) ?hq48 ?hy48 ?_
              case hi48 => (simp only [List.getElem?_toArray, List.getElem?_cons_zero, List.getElem?_cons_succ]; rfl)
              case hq48 => exact fun _ _ _ h => h
              case hy48 => first | (refine ry_not ?_; rfl) | (refine ry_run (by rfl) (fun w' hw' => ?_); go_simp; try rfl)
              simp only [Act.put, List.setIfInBounds_toArray, List.set_cons_zero, List.set_cons_succ]
              refine take0 (v := ?v49) (oi := ?o49) 18 ?hi49 (by kernel_rfl) (by kernel_rfl) (by kernel_rfl) ?hq49 ?hy49 ?_
              case hi49 => (simp only [List.getElem?_toArray, List.getElem?_cons_zero, List.getElem?_cons_succ]; rfl)
              case hq49 => exact fun _ _ _ h => h
              case hy49 => first | (refine ry_not ?_; rfl) | (refine ry_run (by rfl) (fun w' hw' => ?_); go_simp; try rfl)
              simp only [Act.put, List.setIfInBounds_toArray, List.set_cons_zero, List.set_cons_succ]
              refine take0 (v := ?v50) (oi := ?o50) 19 ?hi50 (by kernel_rfl) (by kernel_rfl) (by kernel_rfl) ?hq50 ?hy50 ?_
              case hi50 => (simp only [List.getElem?_toArray, List.getElem?_cons_zero, List.getElem?_cons_succ]; rfl)
              case hq50 => exact fun _ _ _ h => h
              case hy50 => first | (refine ry_not ?_; rfl) | (refine ry_run (by rfl) (fun w' hw' => ?_); go_simp; try rfl)
              simp only [Act.put, List.setIfInBounds_toArray, List.set_cons_zero, List.set_cons_succ]
              refine take0 (v := ?v51) (oi := ?o51) 20 ?hi51 (by kernel_rfl) (by kernel_rfl) (by kernel_rfl) ?hq51 ?hy51 ?_
              case hi51 => (simp only [List.getElem?_toArray, List.getElem?_cons_zero, List.getElem?_cons_succ]; rfl)
              case hq51 => exact fun _ _ _ h => h
              case hy51 => first | (refine ry_not ?_; rfl) | (refine ry_run (by rfl) (fun w' hw' => ?_); go_simp; try rfl)
              simp only [Act.put, List.setIfInBounds_toArray, List.set_cons_zero, List.set_cons_succ]
              refine take0 (v := ?v52) (oi := ?o52) 21 ?hi52 (by kernel_rfl) (by kernel_rfl) (by kernel_rfl) ?hq52 ?hy52 ?_
              case hi52 => (simp only [List.getElem?_toArray, List.getElem?_cons_zero, List.getElem?_cons_succ]; rfl)
              case hq52 => exact fun _ _ _ h => h
              case hy52 => first | (refine ry_not ?_; rfl) | (refine ry_run (by rfl) (fun w' hw' => ?_); go_simp; try rfl)
              simp only [Act.put, List.setIfInBounds_toArray, List.set_cons_zero, List.set_cons_succ]
              refine take0 (v := ?v53) (oi := ?o53) 22 ?hi53 (by kernel_rfl) (by kernel_rfl) (by kernel_rfl) ?hq53 ?hy53 ?_
              case hi53 => (simp only [List.getElem?_toArray, List.getElem?_cons_zero, List.getElem?_cons_succ]; rfl)
              case hq53 => exact fun _ _ _ h => h
              case hy53 => first | (refine ry_not ?_; rfl) | (refine ry_run (by rfl) (fun w' hw' => ?_); go_simp; try rfl)
              simp only [Act.put, List.setIfInBounds_toArray, List.set_cons_zero, List.set_cons_succ]
              refine take0 (v := ?v54) (oi := ?o54) 23 ?hi54 (by kernel_rfl) (by kernel_rfl) (by kernel_rfl) ?hq54 ?hy54 ?_
              case hi54 => (simp only [List.getElem?_toArray, List.getElem?_cons_zero, List.getElem?_cons_succ]; rfl)
              case hq54 => exact fun _ _ _ h => h
              case hy54 => first | (refine ry_not ?_; rfl) | (refine ry_run (by rfl) (fun w' hw' => ?_); go_simp; try rfl)
              simp only [Act.put, List.setIfInBounds_toArray, List.set_cons_zero, List.set_cons_succ]
              refine take0 (v := ?v55) (oi := ?o55) 24 ?hi55 (by kernel_rfl) (by kernel_rfl) (by kernel_rfl) ?hq55 ?hy55 ?_
              case hi55 => (simp only [List.getElem?_toArray, List.getElem?_cons_zero, List.getElem?_cons_succ]; rfl)
              case hq55 => exact fun _ _ _ h => h
              case hy55 => first | (refine ry_not ?_; rfl) | (refine ry_run (by rfl) (fun w' hw' => ?_); go_simp; try rfl)
              simp only [Act.put, List.setIfInBounds_toArray, List.set_cons_zero, List.set_cons_succ]
              refine take0 (v := ?v56) (oi := ?o56) 25 ?hi56 (by kernel_rfl) (by kernel_rfl) (by kernel_rfl) ?hq56 ?hy56 ?_
              case hi56 => (simp only [List.getElem?_toArray, List.getElem?_cons_zero, List.getElem?_cons_succ]; rfl)
              case hq56 => exact fun _ _ _ h => h
              case hy56 => first | (refine ry_not ?_; rfl) | (refine ry_run (by rfl) (fun w' hw' => ?_); go_simp; try rfl)
              simp only [Act.put, List.setIfInBounds_toArray, List.set_cons_zero, List.set_cons_succ]
              refine take0 (v := ?v57) (oi := ?o57) 26 ?hi57 (by kernel_rfl) (by kernel_rfl) (by kernel_rfl) ?hq57 ?hy57 ?_
              case hi57 => (simp only [List.getElem?_toArray, List.getElem?_cons_zero, List.getElem?_cons_succ]; rfl)
              case hq57 => exact fun _ _ _ h => h
              case hy57 => first | (refine ry_not ?_; rfl) | (refine ry_run (by rfl) (fun w' hw' => ?_); go_simp; try rfl)
              simp only [Act.put, List.setIfInBounds_toArray, List.set_cons_zero, List.set_cons_succ]
              refine take0 (v := ?v58) (oi := ?o58) 27 ?hi58 (by kernel_rfl) (by kernel_rfl) (by kernel_rfl) ?hq58 ?hy58 ?_
              case hi58 => (simp only [List.getElem?_toArray, List.getElem?_cons_zero, List.getElem?_cons_succ]; rfl)
              case hq58 => exact fun _ _ _ h => h
              case hy58 => first | (refine ry_not ?_; rfl) | (refine ry_run (by rfl) (fun w' hw' => ?_); go_simp; try rfl)
              simp only [Act.put, List.setIfInBounds_toArray, List.set_cons_zero, List.set_cons_succ]
              refine take0 (v := ?v59) (oi := ?o59) 28 ?hi59 (by kernel_rfl) (by kernel_rfl) (by kernel_rfl) ?hq59 ?hy59 ?_
              case hi59 => (simp only [List.getElem?_toArray, List.getElem?_cons_zero, List.getElem?_cons_succ]; rfl)
              case hq59 => exact fun _ _ _ h => h
              case hy59 => first | (refine ry_not ?_; rfl) | (refine ry_run (by rfl) (fun w' hw' => ?_); go_simp; try rfl)
              simp only [Act.put, List.setIfInBounds_toArray, List.set_cons_zero, List.set_cons_succ]
              refine take0 (v := ?v60) (oi := ?o60) 29 ?hi60 (by kernel_rfl) (by kernel_rfl) (by kernel_rfl) ?hq60 ?hy60 ?_
              case hi60 => (simp only [List.getElem?_toArray, List.getElem?_cons_zero, List.getElem?_cons_succ]; rfl)
              case hq60 => exact fun _ _ _ h => h
              case hy60 => first | (refine ry_not ?_; rfl) | (refine ry_run (by rfl) (fun w' hw' => ?_); go_simp; try rfl)
              simp only [Act.put, List.setIfInBounds_toArray, List.set_cons_zero, List.set_cons_succ]
              refine wpAnyM_done (by kernel_rfl) ?_
              have hbR := HBR4d.out
              have hmE := (((Mod.refl (fun g => g = w.heap.size + 1) w4.drew).set1 rfl 0 (.slice (some ⟨ba, o, none⟩) (n + 1) cp)).set1 rfl 1 (.int .i64 (0))).set1 rfl 2 (.slice none 0 0)
              have hb2 := ((hbR.set 0 (.slice (some ⟨ba, o, none⟩) (n + 1) cp)).set 1 (.int .i64 (0))).set 2 (.slice none 0 0)
              have z0 := hb2.cell (o := 0) rfl
              have z1 := hb2.cell (o := 1) rfl
              have z2 := hb2.cell (o := 2) rfl
              have hbY := HBR4.out
              have y0z := (hbY.set 0 (.slice (some ⟨ba, o, none⟩) (n + 1) cp)).cell (o := 0) rfl
              have y1z := ((hbY.set 0 (.slice (some ⟨ba, o, none⟩) (n + 1) cp)).set 1 (.int .i64 (0))).cell (o := 1) rfl
              have y2z := (((hbY.set 0 (.slice (some ⟨ba, o, none⟩) (n + 1) cp)).set 1 (.int .i64 (0))).set 2 (.slice none 0 0)).cell (o := 2) rfl
              have f0 := hbY.frozen 0
              have f1 := hbY.frozen 1
              have f2 := hbY.frozen 2
              have c0 := hbY.cell (o := 0) rfl
              have c1 := hbY.cell (o := 1) rfl
              have c2 := hbY.cell (o := 2) rfl
              have HME := Lib.hid (Mod.trans HM4d.out hmE (fun i hi e => by omega))
              have HMEE := Lib.hid hmE
              clear hbY hbR hmE hb2
              go_wp2_with fail
              skip
              refine bodyPost_ret (v := .tuple #[.agg #[.slice (some ⟨ba, o, none⟩) (n + 1) cp, .int .i64 (0), .slice none 0 0], .int .i64 0]) (by simp [results, Tryd.results44, go_sem, z0, z1, z2, y0z, y1z, y2z]) rfl ⟨_, _, rfl, own_other HVP4e.out HBR4d.out (by decide) HMEE.out, World.ownsRow_nil _ _ _ _, HME.out⟩
            · have e1 : (P.key.toList == k.last.toList) = false := (Lib.bytes_beq_false_iff _ _).2 he
              rw [if_neg (fun h => by rcases h with h | h; omega; exact he h.2.2.2)] at hn
              subst hn
              clear hm he
              go_wp2_with fail
              refine region_m (by kernel_rfl) ?_
              simp only [List.length_cons, List.length_nil, List.replicate]
              refine take0 (v := ?v61) (oi := ?o61) 0 ?hi61 (by kernel_rfl) (by kernel_rfl) (by kernel_rfl) ?hq61 ?hy61 ?_
              case hi61 => (simp only [List.getElem?_toArray, List.getElem?_cons_zero, List.getElem?_cons_succ]; rfl)
              case hq61 => exact fun _ _ _ h => h
              case hy61 => first | (refine ry_not ?_; rfl) | (refine ry_run (by rfl) (fun w' hw' => ?_); go_simp; try rfl)
              simp only [Act.put, List.setIfInBounds_toArray, List.set_cons_zero, List.set_cons_succ]
              refine take0 (v := ?v62) (oi := ?o62) 1 ?hi62 (by kernel_rfl) (by kernel_rfl) (by kernel_rfl) ?hq62 ?hy62 ?_
              case hi62 => (simp only [List.getElem?_toArray, List.getElem?_cons_zero, List.getElem?_cons_succ]; rfl)
              case hq62 => exact fun _ _ _ h => h
              case hy62 => first | (refine ry_not ?_; rfl) | (refine ry_run (by rfl) (fun w' hw' => ?_); go_simp; try rfl)
              simp only [Act.put, List.setIfInBounds_toArray, List.set_cons_zero, List.set_cons_succ]
              refine take0 (v := ?v63) (oi := ?o63) 2 ?hi63 (by kernel_rfl) (by kernel_rfl) (by kernel_rfl) ?hq63 ?hy63 ?_
              case hi63 => (simp only [List.getElem?_toArray, List.getElem?_cons_zero, List.getElem?_cons_succ]; rfl)
              case hq63 => exact fun _ _ _ h => h
              case hy63 => first | (refine ry_not ?_; rfl) | (refine ry_run (by rfl) (fun w' hw' => ?_); go_simp; try rfl)
              simp only [Act.put, List.setIfInBounds_toArray, List.set_cons_zero, List.set_cons_succ]
              refine take0 (v := ?v64) (oi := ?o64) 3 ?hi64 (by kernel_rfl) (by kernel_rfl) (by kernel_rfl) ?hq64 ?hy64 ?_
              case hi64 => (simp only [List.getElem?_toArray, List.getElem?_cons_zero, List.getElem?_cons_succ]; rfl)
              case hq64 => exact fun _ _ _ h => h
              case hy64 => first | (refine ry_not ?_; rfl) | (refine ry_run (by rfl) (fun w' hw' => ?_); go_simp; try rfl)
              simp only [Act.put, List.setIfInBounds_toArray, List.set_cons_zero, List.set_cons_succ]
              refine take0 (v := ?v65) (oi := ?o65) 4 ?hi65 (by kernel_rfl) (by kernel_rfl) (by kernel_rfl) ?hq65 ?hy65 ?_
              case hi65 => (simp only [List.getElem?_toArray, List.getElem?_cons_zero, List.getElem?_cons_succ]; rfl)
              case hq65 => exact fun _ _ _ h => h
              case hy65 => first | (refine ry_not ?_; rfl) | (refine ry_run (by rfl) (fun w' hw' => ?_); go_simp; try rfl)
              simp only [Act.put, List.setIfInBounds_toArray, List.set_cons_zero, List.set_cons_succ]
              refine take0 (v := ?v66) (oi := ?o66) 5 ?hi66 (by kernel_rfl) (by kernel_rfl) (by kernel_rfl) ?hq66 ?hy66 ?_
              case hi66 => (simp only [List.getElem?_toArray, List.getElem?_cons_zero, List.getElem?_cons_succ]; rfl)
              case hq66 => exact fun _ _ _ h => h
              case hy66 => first | (refine ry_not ?_; rfl) | (refine ry_run (by rfl) (fun w' hw' => ?_); go_simp; try rfl)
              simp only [Act.put, List.setIfInBounds_toArray, List.set_cons_zero, List.set_cons_succ]
              refine take0 (v := ?v67) (oi := ?o67) 6 ?hi67 (by kernel_rfl) (by kernel_rfl) (by kernel_rfl) ?hq67 ?hy67 ?_
              case hi67 => (simp only [List.getElem?_toArray, List.getElem?_cons_zero, List.getElem?_cons_succ]; rfl)
              case hq67 => exact fun _ _ _ h => h
              case hy67 => first | (refine ry_not ?_; rfl) | (refine ry_run (by rfl) (fun w' hw' => ?_); go_simp; try rfl)
              simp only [Act.put, List.setIfInBounds_toArray, List.set_cons_zero, List.set_cons_succ]
              refine take0 (v := ?v68) (oi := ?o68) 7 ?hi68 (by kernel_rfl) (by kernel_rfl) (by kernel_rfl) ?hq68 ?hy68 ?_
              case hi68 => (simp only [List.getElem?_toArray, List.getElem?_cons_zero, List.getElem?_cons_succ]; rfl)
              case hq68 => exact fun _ _ _ h => h
              case hy68 => first | (refine ry_not ?_; rfl) | (refine ry_run (by rfl) (fun w' hw' => ?_); go_simp; try rfl)
              simp only [Act.put, List.setIfInBounds_toArray, List.set_cons_zero, List.set_cons_succ]
              refine take0 (v := ?v69) (oi := ?o69) 8 ?hi69 (by kernel_rfl) (by kernel_rfl) (by kernel_rfl) ?hq69 ?hy69 ?_
              case hi69 => (simp only [List.getElem?_toArray, List.getElem?_cons_zero, List.getElem?_cons_succ]; rfl)
              case hq69 => exact fun _ _ _ h => h
              case hy69 => first | (refine ry_not ?_; rfl) | (refine ry_run (by rfl) (fun w' hw' => ?_); go_simp; try rfl)
              simp only [Act.put, List.setIfInBounds_toArray, List.set_cons_zero, List.set_cons_succ]
              refine take0 (v := ?v70) (oi := ?o70) 9 ?hi70 (by kernel_rfl) (by kernel_rfl) (by kernel_rfl) ?hq70 ?hy70 ?_
              case hi70 => (simp only [List.getElem?_toArray, List.getElem?_cons_zero, List.getElem?_cons_succ]; rfl)
              case hq70 => exact fun _ _ _ h => h
              case hy70 => first | (refine ry_not ?_; rfl) | (refine ry_run (by rfl) (fun w' hw' => ?_); go_simp; try rfl)
              simp only [Act.put, List.setIfInBounds_toArray, List.set_cons_zero, List.set_cons_succ]
              refine take0 (v := ?v71) (oi := ?o71) 10 ?hi71 (by kernel_rfl) (by kernel_rfl) (by kernel_rfl) ?hq71 ?hy71 ?_
              case hi71 => (simp only [List.getElem?_toArray, List.getElem?_cons_zero, List.getElem?_cons_succ]; rfl)
              case hq71 => exact fun _ _ _ h => h
              case hy71 => first | (refine ry_not ?_; rfl) | (refine ry_run (by rfl) (fun w' hw' => ?_); go_simp; try rfl)
              simp only [Act.put, List.setIfInBounds_toArray, List.set_cons_zero, List.set_cons_succ]
              refine take0 (v := ?v72) (oi := ?o72) 11 ?hi72 (by kernel_rfl) (by kernel_rfl) (by kernel_rfl) ?hq72 ?hy72 ?_
              case hi72 => (simp only [List.getElem?_toArray, List.getElem?_cons_zero, List.getElem?_cons_succ]; rfl)
              case hq72 => exact fun _ _ _ h => h
              case hy72 => first | (refine ry_not ?_; rfl) | (refine ry_run (by rfl) (fun w' hw' => ?_); go_simp; try rfl)
              simp only [Act.put, List.setIfInBounds_toArray, List.set_cons_zero, List.set_cons_succ]
              refine take0 (v := ?v73) (oi := ?o73) 12 ?hi73 (by kernel_rfl) (by kernel_rfl) (by kernel_rfl) ?hq73 ?hy73 ?_
              case hi73 => (simp only [List.getElem?_toArray, List.getElem?_cons_zero, List.getElem?_cons_succ]; rfl)
              case hq73 => exact fun _ _ _ h => h
              case hy73 => first | (refine ry_not ?_; rfl) | (refine ry_run (by rfl) (fun w' hw' => ?_); go_simp; try rfl)
              simp only [Act.put, List.setIfInBounds_toArray, List.set_cons_zero, List.set_cons_succ]
              refine take0 (v := ?v74) (oi := ?o74) 13 ?hi74 (by kernel_rfl) (by kernel_rfl) (by kernel_rfl) ?hq74 ?hy74 ?_
              case hi74 => (simp only [List.getElem?_toArray, List.getElem?_cons_zero, List.getElem?_cons_succ]; rfl)
              case hq74 => exact fun _ _ _ h => h
              case hy74 => first | (refine ry_not ?_; rfl) | (refine ry_run (by rfl) (fun w' hw' => ?_); go_simp; try rfl)
              simp only [Act.put, List.setIfInBounds_toArray, List.set_cons_zero, List.set_cons_succ]
              refine take0 (v := ?v75) (oi := ?o75) 14 ?hi75 (by kernel_rfl) (by kernel_rfl) (by kernel_rfl) ?hq75 ?hy75 ?_
              case hi75 => (simp only [List.getElem?_toArray, List.getElem?_cons_zero, List.getElem?_cons_succ]; rfl)
              case hq75 => exact fun _ _ _ h => h
              case hy75 => first | (refine ry_not ?_; rfl) | (refine ry_run (by rfl) (fun w' hw' => ?_); go_simp; try rfl)
              simp only [Act.put, List.setIfInBounds_toArray, List.set_cons_zero, List.set_cons_succ]
              refine take0 (v := ?v76) (oi := ?o76) 15 ?hi76 (by kernel_rfl) (by kernel_rfl) (by kernel_rfl) ?hq76 ?hy76 ?_
              case hi76 => (simp only [List.getElem?_toArray, List.getElem?_cons_zero, List.getElem?_cons_succ]; rfl)
              case hq76 => exact fun _ _ _ h => h
              case hy76 => first | (refine ry_not ?_; rfl) | (refine ry_run (by rfl) (fun w' hw' => ?_); go_simp; try rfl)
              simp only [Act.put, List.setIfInBounds_toArray, List.set_cons_zero, List.set_cons_succ]
              refine take0 (v := ?v77) (oi := ?o77) 16 ?hi77 (by kernel_rfl) (by kernel_rfl) (by kernel_rfl) ?hq77 ?hy77 ?_
              case hi77 => (simp only [List.getElem?_toArray, List.getElem?_cons_zero, List.getElem?_cons_succ]; rfl)
              case hq77 => exact fun _ _ _ h => h
              case hy77 => first | (refine ry_not ?_; rfl) | (refine ry_run (by rfl) (fun w' hw' => ?_); go_simp; try rfl)
              simp only [Act.put, List.setIfInBounds_toArray, List.set_cons_zero, List.set_cons_succ]
              refine take0 (v := ?v78) (oi := ?o78) 17 ?hi78 (by kernel_rfl) (by kernel_rfl) (by kernel_rfl) ?hq78 ?hy78 ?_
              case hi78 => (simp only [List.getElem?_toArray, List.getElem?_cons_zero, List.getElem?_cons_succ]; rfl)
              case hq78 => exact fun _ _ _ h => h
              case hy78 => first | (refine ry_not ?_; rfl) | (refine ry_run (by rfl) (fun w' hw' => ?_); go_simp; try rfl)
              simp only [Act.put, List.setIfInBounds_toArray, List.set_cons_zero, List.set_cons_succ]
              refine take0 (v := ?v79) (oi := ?o79) 18 ?hi79 (by kernel_rfl) (by kernel_rfl) (by kernel_rfl) ?hq79 ?hy79 ?_
              case hi79 => (simp only [List.getElem?_toArray, List.getElem?_cons_zero, List.getElem?_cons_succ]; rfl)
              case hq79 => exact fun _ _ _ h => h
              case hy79 => first | (refine ry_not ?_; rfl) | (refine ry_run (by rfl) (fun w' hw' => ?_); go_simp; try rfl)
              simp only [Act.put, List.setIfInBounds_toArray, List.set_cons_zero, List.set_cons_succ]
              refine take0 (v := ?v80) (oi := ?o80) 19 ?hi80 (by kernel_rfl) (by kernel_rfl) (by kernel_rfl) ?hq80 ?hy80 ?_
              case hi80 => (simp only [List.getElem?_toArray, List.getElem?_cons_zero, List.getElem?_cons_succ]; rfl)
              case hq80 => exact fun _ _ _ h => h
              case hy80 => first | (refine ry_not ?_; rfl) | (refine ry_run (by rfl) (fun w' hw' => ?_); go_simp; try rfl)
              simp only [Act.put, List.setIfInBounds_toArray, List.set_cons_zero, List.set_cons_succ]
              refine take0 (v := ?v81) (oi := ?o81) 20 ?hi81 (by kernel_rfl) (by kernel_rfl) (by kernel_rfl) ?hq81 ?hy81 ?_
              case hi81 => (simp only [List.getElem?_toArray, List.getElem?_cons_zero, List.getElem?_cons_succ]; rfl)
              case hq81 => exact fun _ _ _ h => h
              case hy81 => first | (refine ry_not ?_; rfl) | (refine ry_run (by rfl) (fun w' hw' => ?_); go_simp; try rfl)
              simp only [Act.put, List.setIfInBounds_toArray, List.set_cons_zero, List.set_cons_succ]
              refine take0 (v := ?v82) (oi := ?o82) 21 ?hi82 (by kernel_rfl) (by kernel_rfl) (by kernel_rfl) ?hq82 ?hy82 ?_
              case hi82 => (simp only [List.getElem?_toArray, List.getElem?_cons_zero, List.getElem?_cons_succ]; rfl)
              case hq82 => exact fun _ _ _ h => h
              case hy82 => first | (refine ry_not ?_; rfl) | (refine ry_run (by rfl) (fun w' hw' => ?_); go_simp; try rfl)
              simp only [Act.put, List.setIfInBounds_toArray, List.set_cons_zero, List.set_cons_succ]
              refine take0 (v := ?v83) (oi := ?o83) 22 ?hi83 (by kernel_rfl) (by kernel_rfl) (by kernel_rfl) ?hq83 ?hy83 ?_
              case hi83 => (simp only [List.getElem?_toArray, List.getElem?_cons_zero, List.getElem?_cons_succ]; rfl)
              case hq83 => exact fun _ _ _ h => h
              case hy83 => first | (refine ry_not ?_; rfl) | (refine ry_run (by rfl) (fun w' hw' => ?_); go_simp; try rfl)
              simp only [Act.put, List.setIfInBounds_toArray, List.set_cons_zero, List.set_cons_succ]
              refine take0 (v := ?v84) (oi := ?o84) 23 ?hi84 (by kernel_rfl) (by kernel_rfl) (by kernel_rfl) ?hq84 ?hy84 ?_
              case hi84 => (simp only [List.getElem?_toArray, List.getElem?_cons_zero, List.getElem?_cons_succ]; rfl)
              case hq84 => exact fun _ _ _ h => h
              case hy84 => first | (refine ry_not ?_; rfl) | (refine ry_run (by rfl) (fun w' hw' => ?_); go_simp; try rfl)
              simp only [Act.put, List.setIfInBounds_toArray, List.set_cons_zero, List.set_cons_succ]
              refine take0 (v := ?v85) (oi := ?o85) 24 ?hi85 (by kernel_rfl) (by kernel_rfl) (by kernel_rfl) ?hq85 ?hy85 ?_
              case hi85 => (simp only [List.getElem?_toArray, List.getElem?_cons_zero, List.getElem?_cons_succ]; rfl)
              case hq85 => exact fun _ _ _ h => h
              case hy85 => first | (refine ry_not ?_; rfl) | (refine ry_run (by rfl) (fun w' hw' => ?_); go_simp; try rfl)
              simp only [Act.put, List.setIfInBounds_toArray, List.set_cons_zero, List.set_cons_succ]
              refine take0 (v := ?v86) (oi := ?o86) 25 ?hi86 (by kernel_rfl) (by kernel_rfl) (by kernel_rfl) ?hq86 ?hy86 ?_
              case hi86 => (simp only [List.getElem?_toArray, List.getElem?_cons_zero, List.getElem?_cons_succ]; rfl)
              case hq86 => exact fun _ _ _ h => h
              case hy86 => first | (refine ry_not ?_; rfl) | (refine ry_run (by rfl) (fun w' hw' => ?_); go_simp; try rfl)
              simp only [Act.put, List.setIfInBounds_toArray, List.set_cons_zero, List.set_cons_succ]
              refine take0 (v := ?v87) (oi := ?o87) 26 ?hi87 (by kernel_rfl) (by kernel_rfl) (by kernel_rfl) ?hq87 ?hy87 ?_
              case hi87 => (simp only [List.getElem?_toArray, List.getElem?_cons_zero, List.getElem?_cons_succ]; rfl)
              case hq87 => exact fun _ _ _ h => h
              case hy87 => first | (refine ry_not ?_; rfl) | (refine ry_run (by rfl) (fun w' hw' => ?_); go_simp; try rfl)
              simp only [Act.put, List.setIfInBounds_toArray, List.set_cons_zero, List.set_cons_succ]
              refine take0 (v := ?v88) (oi := ?o88) 27 ?hi88 (by kernel_rfl) (by kernel_rfl) (by kernel_rfl) ?hq88 ?hy88 ?_
              case hi88 => (simp only [List.getElem?_toArray, List.getElem?_cons_zero, List.getElem?_cons_succ]; rfl)
              case hq88 => exact fun _ _ _ h => h
              case hy88 => first | (refine ry_not ?_; rfl) | (refine ry_run (by rfl) (fun w' hw' => ?_); go_simp; try rfl)
              simp only [Act.put, List.setIfInBounds_toArray, List.set_cons_zero, List.set_cons_succ]
              refine take0 (v := ?v89) (oi := ?o89) 28 ?hi89 (by kernel_rfl) (by kernel_rfl) (by kernel_rfl) ?hq89 ?hy89 ?_
              case hi89 => (simp only [List.getElem?_toArray, List.getElem?_cons_zero, List.getElem?_cons_succ]; rfl)
              case hq89 => exact fun _ _ _ h => h
              case hy89 => first | (refine ry_not ?_; rfl) | (refine ry_run (by rfl) (fun w' hw' => ?_); go_simp; try rfl)
              simp only [Act.put, List.setIfInBounds_toArray, List.set_cons_zero, List.set_cons_succ]
              refine take0 (v := ?v90) (oi := ?o90) 29 ?hi90 (by kernel_rfl) (by kernel_rfl) (by kernel_rfl) ?hq90 ?hy90 ?_
              case hi90 => (simp only [List.getElem?_toArray, List.getElem?_cons_zero, List.getElem?_cons_succ]; rfl)
              case hq90 => exact fun _ _ _ h => h
              case hy90 => first | (refine ry_not ?_; rfl) | (refine ry_run (by rfl) (fun w' hw' => ?_); go_simp; try rfl)
              simp only [Act.put, List.setIfInBounds_toArray, List.set_cons_zero, List.set_cons_succ]
              refine wpAnyM_done (by kernel_rfl) ?_
              have hbR := HBR4d.out
              have hmE := (((Mod.refl (fun g => g = w.heap.size + 1) w4.drew).set1 rfl 0 (.slice none 0 0)).set1 rfl 1 (.int .i64 (0))).set1 rfl 2 (.slice none 0 0)
              have hb2 := ((hbR.set 0 (.slice none 0 0)).set 1 (.int .i64 (0))).set 2 (.slice none 0 0)
              have z0 := hb2.cell (o := 0) rfl
              have z1 := hb2.cell (o := 1) rfl
              have z2 := hb2.cell (o := 2) rfl
              have hbY := HBR4.out
              have y0z := (hbY.set 0 (.slice none 0 0)).cell (o := 0) rfl
              have y1z := ((hbY.set 0 (.slice none 0 0)).set 1 (.int .i64 (0))).cell (o := 1) rfl
              have y2z := (((hbY.set 0 (.slice none 0 0)).set 1 (.int .i64 (0))).set 2 (.slice none 0 0)).cell (o := 2) rfl
              have f0 := hbY.frozen 0
              have f1 := hbY.frozen 1
              have f2 := hbY.frozen 2
              have c0 := hbY.cell (o := 0) rfl
              have c1 := hbY.cell (o := 1) rfl
              have c2 := hbY.cell (o := 2) rfl
              have HME := Lib.hid (Mod.trans HM4d.out hmE (fun i hi e => by omega))
              have HMEE := Lib.hid hmE
              clear hbY hbR hmE hb2
              go_wp2_with fail
              skip
              refine bodyPost_ret (v := .tuple #[.agg #[.slice none 0 0, .int .i64 (0), .slice none 0 0], .int .i64 122]) (by simp [results, Tryd.results44, go_sem, z0, z1, z2, y0z, y1z, y2z]) rfl ⟨_, _, rfl, World.ownsRow_nil _ _ _ _, World.ownsRow_nil _ _ _ _, HME.out⟩
        · have b1 : ((np : Int) == k.many) = false := by simpa using hm
          have b1' : ((np : Int) != k.many) = true := by simpa using hm
          rw [if_neg (fun h => by rcases h with h | h; omega; exact hm h.2.2.1)] at hn
          subst hn
          clear hm hof HCP4 HNP
          go_wp2_with fail
          refine region_m (by kernel_rfl) ?_
          simp only [List.length_cons, List.length_nil, List.replicate]
          refine take0 (v := ?v91) (oi := ?o91) 0 ?hi91 (by kernel_rfl) (by kernel_rfl) (by kernel_rfl) ?hq91 ?hy91 ?_
          case hi91 => (simp only [List.getElem?_toArray, List.getElem?_cons_zero, List.getElem?_cons_succ]; rfl)
          case hq91 => exact fun _ _ _ h => h
          case hy91 => first | (refine ry_not ?_; rfl) | (refine ry_run (by rfl) (fun w' hw' => ?_); go_simp; try rfl)
          simp only [Act.put, List.setIfInBounds_toArray, List.set_cons_zero, List.set_cons_succ]
          refine take0 (v := ?v92) (oi := ?o92) 1 ?hi92 (by kernel_rfl) (by kernel_rfl) (by kernel_rfl) ?hq92 ?hy92 ?_
          case hi92 => (simp only [List.getElem?_toArray, List.getElem?_cons_zero, List.getElem?_cons_succ]; rfl)
          case hq92 => exact fun _ _ _ h => h
          case hy92 => first | (refine ry_not ?_; rfl) | (refine ry_run (by rfl) (fun w' hw' => ?_); go_simp; try rfl)
          simp only [Act.put, List.setIfInBounds_toArray, List.set_cons_zero, List.set_cons_succ]
          refine take0 (v := ?v93) (oi := ?o93) 2 ?hi93 (by kernel_rfl) (by kernel_rfl) (by kernel_rfl) ?hq93 ?hy93 ?_
          case hi93 => (simp only [List.getElem?_toArray, List.getElem?_cons_zero, List.getElem?_cons_succ]; rfl)
          case hq93 => exact fun _ _ _ h => h
          case hy93 => first | (refine ry_not ?_; rfl) | (refine ry_run (by rfl) (fun w' hw' => ?_); go_simp; try rfl)
          simp only [Act.put, List.setIfInBounds_toArray, List.set_cons_zero, List.set_cons_succ]
          refine take0 (v := ?v94) (oi := ?o94) 3 ?hi94 (by kernel_rfl) (by kernel_rfl) (by kernel_rfl) ?hq94 ?hy94 ?_
          case hi94 => (simp only [List.getElem?_toArray, List.getElem?_cons_zero, List.getElem?_cons_succ]; rfl)
          case hq94 => exact fun _ _ _ h => h
          case hy94 => first | (refine ry_not ?_; rfl) | (refine ry_run (by rfl) (fun w' hw' => ?_); go_simp; try rfl)
          simp only [Act.put, List.setIfInBounds_toArray, List.set_cons_zero, List.set_cons_succ]
          refine take0 (v := ?v95) (oi := ?o95) 4 ?hi95 (by kernel_rfl) (by kernel_rfl) (by kernel_rfl) ?hq95 ?hy95 ?_
          case hi95 => (simp only [List.getElem?_toArray, List.getElem?_cons_zero, List.getElem?_cons_succ]; rfl)
          case hq95 => exact fun _ _ _ h => h
          case hy95 => first | (refine ry_not ?_; rfl) | (refine ry_run (by rfl) (fun w' hw' => ?_); go_simp; try rfl)
          simp only [Act.put, List.setIfInBounds_toArray, List.set_cons_zero, List.set_cons_succ]
          refine take0 (v := ?v96) (oi := ?o96) 5 ?hi96 (by kernel_rfl) (by kernel_rfl) (by kernel_rfl) ?hq96 ?hy96 ?_
          case hi96 => (simp only [List.getElem?_toArray, List.getElem?_cons_zero, List.getElem?_cons_succ]; rfl)
          case hq96 => exact fun _ _ _ h => h
          case hy96 => first | (refine ry_not ?_; rfl) | (refine ry_run (by rfl) (fun w' hw' => ?_); go_simp; try rfl)
          simp only [Act.put, List.setIfInBounds_toArray, List.set_cons_zero, List.set_cons_succ]
          refine take0 (v := ?v97) (oi := ?o97) 6 ?hi97 (by kernel_rfl) (by kernel_rfl) (by kernel_rfl) ?hq97 ?hy97 ?_
          case hi97 => (simp only [List.getElem?_toArray, List.getElem?_cons_zero, List.getElem?_cons_succ]; rfl)
          case hq97 => exact fun _ _ _ h => h
          case hy97 => first | (refine ry_not ?_; rfl) | (refine ry_run (by rfl) (fun w' hw' => ?_); go_simp; try rfl)
          simp only [Act.put, List.setIfInBounds_toArray, List.set_cons_zero, List.set_cons_succ]
          refine take0 (v := ?v98) (oi := ?o98) 7 ?hi98 (by kernel_rfl) (by kernel_rfl) (by kernel_rfl) ?hq98 ?hy98 ?_
          case hi98 => (simp only [List.getElem?_toArray, List.getElem?_cons_zero, List.getElem?_cons_succ]; rfl)
          case hq98 => exact fun _ _ _ h => h
          case hy98 => first | (refine ry_not ?_; rfl) | (refine ry_run (by rfl) (fun w' hw' => ?_); go_simp; try rfl)
          simp only [Act.put, List.setIfInBounds_toArray, List.set_cons_zero, List.set_cons_succ]
          refine take0 (v := ?v99) (oi := ?o99) 8 ?hi99 (by kernel_rfl) (by kernel_rfl) (by kernel_rfl) ?hq99 ?hy99 ?_
          case hi99 => (simp only [List.getElem?_toArray, List.getElem?_cons_zero, List.getElem?_cons_succ]; rfl)
          case hq99 => exact fun _ _ _ h => h
          case hy99 => first | (refine ry_not ?_; rfl) | (refine ry_run (by rfl) (fun w' hw' => ?_); go_simp; try rfl)
          simp only [Act.put, List.setIfInBounds_toArray, List.set_cons_zero, List.set_cons_succ]
          refine take0 (v := ?v100) (oi := ?o100) 9 ?hi100 (by kernel_rfl) (by kernel_rfl) (by kernel_rfl) ?hq100 ?hy100 ?_
          case hi100 => (simp only [List.getElem?_toArray, List.getElem?_cons_zero, List.getElem?_cons_succ]; rfl)
          case hq100 => exact fun _ _ _ h => h
          case hy100 => first | (refine ry_not ?_; rfl) | (refine ry_run (by rfl) (fun w' hw' => ?_); go_simp; try rfl)
          simp only [Act.put, List.setIfInBounds_toArray, List.set_cons_zero, List.set_cons_succ]
          refine take0 (v := ?v101) (oi := ?o101) 10 ?hi101 (by kernel_rfl) (by kernel_rfl) (by kernel_rfl) ?hq101 ?hy101 ?_
          case hi101 => (simp only [List.getElem?_toArray, List.getElem?_cons_zero, List.getElem?_cons_succ]; rfl)
          case hq101 => exact fun _ _ _ h => h
          case hy101 => first | (refine ry_not ?_; rfl) | (refine ry_run (by rfl) (fun w' hw' => ?_); go_simp; try rfl)
          simp only [Act.put, List.setIfInBounds_toArray, List.set_cons_zero, List.set_cons_succ]
          refine take0 (v := ?v102) (oi := ?o102) 11 ?hi102 (by kernel_rfl) (by kernel_rfl) (by kernel_rfl) ?hq102 ?hy102 ?_
          case hi102 => (simp only [List.getElem?_toArray, List.getElem?_cons_zero, List.getElem?_cons_succ]; rfl)
          case hq102 => exact fun _ _ _ h => h
          case hy102 => first | (refine ry_not ?_; rfl) | (refine ry_run (by rfl) (fun w' hw' => ?_); go_simp; try rfl)
          simp only [Act.put, List.setIfInBounds_toArray, List.set_cons_zero, List.set_cons_succ]
          refine take0 (v := ?v103) (oi := ?o103) 12 ?hi103 (by kernel_rfl) (by kernel_rfl) (by kernel_rfl) ?hq103 ?hy103 ?_
          case hi103 => (simp only [List.getElem?_toArray, List.getElem?_cons_zero, List.getElem?_cons_succ]; rfl)
          case hq103 => exact fun _ _ _ h => h
          case hy103 => first | (refine ry_not ?_; rfl) | (refine ry_run (by rfl) (fun w' hw' => ?_); go_simp; try rfl)
          simp only [Act.put, List.setIfInBounds_toArray, List.set_cons_zero, List.set_cons_succ]
          refine take0 (v := ?v104) (oi := ?o104) 13 ?hi104 (by kernel_rfl) (by kernel_rfl) (by kernel_rfl) ?hq104 ?hy104 ?_
          case hi104 => (simp only [List.getElem?_toArray, List.getElem?_cons_zero, List.getElem?_cons_succ]; rfl)
          case hq104 => exact fun _ _ _ h => h
          case hy104 => first | (refine ry_not ?_; rfl) | (refine ry_run (by rfl) (fun w' hw' => ?_); go_simp; try rfl)
          simp only [Act.put, List.setIfInBounds_toArray, List.set_cons_zero, List.set_cons_succ]
          refine take0 (v := ?v105) (oi := ?o105) 14 ?hi105 (by kernel_rfl) (by kernel_rfl) (by kernel_rfl) ?hq105 ?hy105 ?_
          case hi105 => (simp only [List.getElem?_toArray, List.getElem?_cons_zero, List.getElem?_cons_succ]; rfl)
          case hq105 => exact fun _ _ _ h => h
          case hy105 => first | (refine ry_not ?_; rfl) | (refine ry_run (by rfl) (fun w' hw' => ?_); go_simp; try rfl)
          simp only [Act.put, List.setIfInBounds_toArray, List.set_cons_zero, List.set_cons_succ]
          refine take0 (v := ?v106) (oi := ?o106) 15 ?hi106 (by kernel_rfl) (by kernel_rfl) (by kernel_rfl) ?hq106 ?hy106 ?_
          case hi106 => (simp only [List.getElem?_toArray, List.getElem?_cons_zero, List.getElem?_cons_succ]; rfl)
          case hq106 => exact fun _ _ _ h => h
          case hy106 => first | (refine ry_not ?_; rfl) | (refine ry_run (by rfl) (fun w' hw' => ?_); go_simp; try rfl)
          simp only [Act.put, List.setIfInBounds_toArray, List.set_cons_zero, List.set_cons_succ]
          refine take0 (v := ?v107) (oi := ?o107) 16 ?hi107 (by kernel_rfl) (by kernel_rfl) (by kernel_rfl) ?hq107 ?hy107 ?_
          case hi107 => (simp only [List.getElem?_toArray, List.getElem?_cons_zero, List.getElem?_cons_succ]; rfl)
          case hq107 => exact fun _ _ _ h => h
          case hy107 => first | (refine ry_not ?_; rfl) | (refine ry_run (by rfl) (fun w' hw' => ?_); go_simp; try rfl)
          simp only [Act.put, List.setIfInBounds_toArray, List.set_cons_zero, List.set_cons_succ]
          refine take0 (v := ?v108) (oi := ?o108) 17 ?hi108 (by kernel_rfl) (by kernel_rfl) (by kernel_rfl) ?hq108 ?hy108 ?_
          case hi108 => (simp only [List.getElem?_toArray, List.getElem?_cons_zero, List.getElem?_cons_succ]; rfl)
          case hq108 => exact fun _ _ _ h => h
          case hy108 => first | (refine ry_not ?_; rfl) | (refine ry_run (by rfl) (fun w' hw' => ?_); go_simp; try rfl)
          simp only [Act.put, List.setIfInBounds_toArray, List.set_cons_zero, List.set_cons_succ]
          refine take0 (v := ?v109) (oi := ?o109) 18 ?hi109 (by kernel_rfl) (by kernel_rfl) (by kernel_rfl) ?hq109 ?hy109 ?_
          case hi109 => (simp only [List.getElem?_toArray, List.getElem?_cons_zero, List.getElem?_cons_succ]; rfl)
          case hq109 => exact fun _ _ _ h => h
          case hy109 => first | (refine ry_not ?_; rfl) | (refine ry_run (by rfl) (fun w' hw' => ?_); go_simp; try rfl)
          simp only [Act.put, List.setIfInBounds_toArray, List.set_cons_zero, List.set_cons_succ]
          refine take0 (v := ?v110) (oi := ?o110) 19 ?hi110 (by kernel_rfl) (by kernel_rfl) (by kernel_rfl) ?hq110 ?hy110 ?_
          case hi110 => (simp only [List.getElem?_toArray, List.getElem?_cons_zero, List.getElem?_cons_succ]; rfl)
          case hq110 => exact fun _ _ _ h => h
          case hy110 => first | (refine ry_not ?_; rfl) | (refine ry_run (by rfl) (fun w' hw' => ?_); go_simp; try rfl)
          simp only [Act.put, List.setIfInBounds_toArray, List.set_cons_zero, List.set_cons_succ]
          refine take0 (v := ?v111) (oi := ?o111) 20 ?hi111 (by kernel_rfl) (by kernel_rfl) (by kernel_rfl) ?hq111 ?hy111 ?_
          case hi111 => (simp only [List.getElem?_toArray, List.getElem?_cons_zero, List.getElem?_cons_succ]; rfl)
          case hq111 => exact fun _ _ _ h => h
          case hy111 => first | (refine ry_not ?_; rfl) | (refine ry_run (by rfl) (fun w' hw' => ?_); go_simp; try rfl)
          simp only [Act.put, List.setIfInBounds_toArray, List.set_cons_zero, List.set_cons_succ]
          refine take0 (v := ?v112) (oi := ?o112) 21 ?hi112 (by kernel_rfl) (by kernel_rfl) (by kernel_rfl) ?hq112 ?hy112 ?_
          case hi112 => (simp only [List.getElem?_toArray, List.getElem?_cons_zero, List.getElem?_cons_succ]; rfl)
          case hq112 => exact fun _ _ _ h => h
          case hy112 => first | (refine ry_not ?_; rfl) | (refine ry_run (by rfl) (fun w' hw' => ?_); go_simp; try rfl)
          simp only [Act.put, List.setIfInBounds_toArray, List.set_cons_zero, List.set_cons_succ]
          refine take0 (v := ?v113) (oi := ?o113) 22 ?hi113 (by kernel_rfl) (by kernel_rfl) (by kernel_rfl) ?hq113 ?hy113 ?_
          case hi113 => (simp only [List.getElem?_toArray, List.getElem?_cons_zero, List.getElem?_cons_succ]; rfl)
          case hq113 => exact fun _ _ _ h => h
          case hy113 => first | (refine ry_not ?_; rfl) | (refine ry_run (by rfl) (fun w' hw' => ?_); go_simp; try rfl)
          simp only [Act.put, List.setIfInBounds_toArray, List.set_cons_zero, List.set_cons_succ]
          refine take0 (v := ?v114) (oi := ?o114) 23 ?hi114 (by kernel_rfl) (by kernel_rfl) (by kernel_rfl) ?hq114 ?hy114 ?_
          case hi114 => (simp only [List.getElem?_toArray, List.getElem?_cons_zero, List.getElem?_cons_succ]; rfl)
          case hq114 => exact fun _ _ _ h => h
          case hy114 => first | (refine ry_not ?_; rfl) | (refine ry_run (by rfl) (fun w' hw' => ?_); go_simp; try rfl)
          simp only [Act.put, List.setIfInBounds_toArray, List.set_cons_zero, List.set_cons_succ]
          refine take0 (v := ?v115) (oi := ?o115) 24 ?hi115 (by kernel_rfl) (by kernel_rfl) (by kernel_rfl) ?hq115 ?hy115 ?_
          case hi115 => (simp only [List.getElem?_toArray, List.getElem?_cons_zero, List.getElem?_cons_succ]; rfl)
          case hq115 => exact fun _ _ _ h => h
          case hy115 => first | (refine ry_not ?_; rfl) | (refine ry_run (by rfl) (fun w' hw' => ?_); go_simp; try rfl)
          simp only [Act.put, List.setIfInBounds_toArray, List.set_cons_zero, List.set_cons_succ]
          refine take0 (v := ?v116) (oi := ?o116) 25 ?hi116 (by kernel_rfl) (by kernel_rfl) (by kernel_rfl) ?hq116 ?hy116 ?_
          case hi116 => (simp only [List.getElem?_toArray, List.getElem?_cons_zero, List.getElem?_cons_succ]; rfl)
          case hq116 => exact fun _ _ _ h => h
          case hy116 => first | (refine ry_not ?_; rfl) | (refine ry_run (by rfl) (fun w' hw' => ?_); go_simp; try rfl)
          simp only [Act.put, List.setIfInBounds_toArray, List.set_cons_zero, List.set_cons_succ]
          refine take0 (v := ?v117) (oi := ?o117) 26 ?hi117 (by kernel_rfl) (by kernel_rfl) (by kernel_rfl) ?hq117 ?hy117 ?_
          case hi117 => (simp only [List.getElem?_toArray, List.getElem?_cons_zero, List.getElem?_cons_succ]; rfl)
          case hq117 => exact fun _ _ _ h => h
          case hy117 => first | (refine ry_not ?_; rfl) | (refine ry_run (by rfl) (fun w' hw' => ?_); go_simp; try rfl)
          simp only [Act.put, List.setIfInBounds_toArray, List.set_cons_zero, List.set_cons_succ]
          refine take0 (v := ?v118) (oi := ?o118) 27 ?hi118 (by kernel_rfl) (by kernel_rfl) (by kernel_rfl) ?hq118 ?hy118 ?_
          case hi118 => (simp only [List.getElem?_toArray, List.getElem?_cons_zero, List.getElem?_cons_succ]; rfl)
          case hq118 => exact fun _ _ _ h => h
          case hy118 => first | (refine ry_not ?_; rfl) | (refine ry_run (by rfl) (fun w' hw' => ?_); go_simp; try rfl)
          simp only [Act.put, List.setIfInBounds_toArray, List.set_cons_zero, List.set_cons_succ]
          refine take0 (v := ?v119) (oi := ?o119) 28 ?hi119 (by kernel_rfl) (by kernel_rfl) (by kernel_rfl) ?hq119 ?hy119 ?_
          case hi119 => (simp only [List.getElem?_toArray, List.getElem?_cons_zero, List.getElem?_cons_succ]; rfl)
          case hq119 => exact fun _ _ _ h => h
          case hy119 => first | (refine ry_not ?_; rfl) | (refine ry_run (by rfl) (fun w' hw' => ?_); go_simp; try rfl)
          simp only [Act.put, List.setIfInBounds_toArray, List.set_cons_zero, List.set_cons_succ]
          refine take0 (v := ?v120) (oi := ?o120) 29 ?hi120 (by kernel_rfl) (by kernel_rfl) (by kernel_rfl) ?hq120 ?hy120 ?_
          case hi120 => (simp only [List.getElem?_toArray, List.getElem?_cons_zero, List.getElem?_cons_succ]; rfl)
          case hq120 => exact fun _ _ _ h => h
          case hy120 => first | (refine ry_not ?_; rfl) | (refine ry_run (by rfl) (fun w' hw' => ?_); go_simp; try rfl)
          simp only [Act.put, List.setIfInBounds_toArray, List.set_cons_zero, List.set_cons_succ]
          refine wpAnyM_done (by kernel_rfl) ?_
          have hbR := HBR4d.out
          have hmE := (((Mod.refl (fun g => g = w.heap.size + 1) w4.drew).set1 rfl 0 (.slice none 0 0)).set1 rfl 1 (.int .i64 (0))).set1 rfl 2 (.slice none 0 0)
          have hb2 := ((hbR.set 0 (.slice none 0 0)).set 1 (.int .i64 (0))).set 2 (.slice none 0 0)
          have z0 := hb2.cell (o := 0) rfl
          have z1 := hb2.cell (o := 1) rfl
          have z2 := hb2.cell (o := 2) rfl
          have hbY := HBR4.out
          have y0z := (hbY.set 0 (.slice none 0 0)).cell (o := 0) rfl
          have y1z := ((hbY.set 0 (.slice none 0 0)).set 1 (.int .i64 (0))).cell (o := 1) rfl
          have y2z := (((hbY.set 0 (.slice none 0 0)).set 1 (.int .i64 (0))).set 2 (.slice none 0 0)).cell (o := 2) rfl
          have f0 := hbY.frozen 0
          have f1 := hbY.frozen 1
          have f2 := hbY.frozen 2
          have c0 := hbY.cell (o := 0) rfl
          have c1 := hbY.cell (o := 1) rfl
          have c2 := hbY.cell (o := 2) rfl
          have HME := Lib.hid (Mod.trans HM4d.out hmE (fun i hi e => by omega))
          have HMEE := Lib.hid hmE
          clear hbY hbR hmE hb2
          go_wp2_with fail
          skip
          refine bodyPost_ret (v := .tuple #[.agg #[.slice none 0 0, .int .i64 (0), .slice none 0 0], .int .i64 122]) (by simp [results, Tryd.results44, go_sem, z0, z1, z2, y0z, y1z, y2z]) rfl ⟨_, _, rfl, World.ownsRow_nil _ _ _ _, World.ownsRow_nil _ _ _ _, HME.out⟩
      · have l0 : (level == 0) = false := by simpa using hl0
        by_cases hlp : 0 < level
        · rw [if_neg (fun h => by rcases h with h | h; omega; omega)] at hn
          subst hn
          have d0 : decide (0 < level) = true := decide_eq_true hlp
          clear hof HCP4 HNP
          go_wp2_with fail
          refine region_m (by kernel_rfl) ?_
          simp only [List.length_cons, List.length_nil, List.replicate]
          refine take0 (v := ?v121) (oi := ?o121) 0 ?hi121 (by kernel_rfl) (by kernel_rfl) (by kernel_rfl) ?hq121 ?hy121 ?_
          case hi121 => (simp only [List.getElem?_toArray, List.getElem?_cons_zero, List.getElem?_cons_succ]; rfl)
          case hq121 => exact fun _ _ _ h => h
          case hy121 => first | (refine ry_not ?_; rfl) | (refine ry_run (by rfl) (fun w' hw' => ?_); go_simp; try rfl)
          simp only [Act.put, List.setIfInBounds_toArray, List.set_cons_zero, List.set_cons_succ]
          refine take0 (v := ?v122) (oi := ?o122) 1 ?hi122 (by kernel_rfl) (by kernel_rfl) (by kernel_rfl) ?hq122 ?hy122 ?_
          case hi122 => (simp only [List.getElem?_toArray, List.getElem?_cons_zero, List.getElem?_cons_succ]; rfl)
          case hq122 => exact fun _ _ _ h => h
          case hy122 => first | (refine ry_not ?_; rfl) | (refine ry_run (by rfl) (fun w' hw' => ?_); go_simp; try rfl)
          simp only [Act.put, List.setIfInBounds_toArray, List.set_cons_zero, List.set_cons_succ]
          refine take0 (v := ?v123) (oi := ?o123) 2 ?hi123 (by kernel_rfl) (by kernel_rfl) (by kernel_rfl) ?hq123 ?hy123 ?_
          case hi123 => (simp only [List.getElem?_toArray, List.getElem?_cons_zero, List.getElem?_cons_succ]; rfl)
          case hq123 => exact fun _ _ _ h => h
          case hy123 => first | (refine ry_not ?_; rfl) | (refine ry_run (by rfl) (fun w' hw' => ?_); go_simp; try rfl)
          simp only [Act.put, List.setIfInBounds_toArray, List.set_cons_zero, List.set_cons_succ]
          refine take0 (v := ?v124) (oi := ?o124) 3 ?hi124 (by kernel_rfl) (by kernel_rfl) (by kernel_rfl) ?hq124 ?hy124 ?_
          case hi124 => (simp only [List.getElem?_toArray, List.getElem?_cons_zero, List.getElem?_cons_succ]; rfl)
          case hq124 => exact fun _ _ _ h => h
          case hy124 => first | (refine ry_not ?_; rfl) | (refine ry_run (by rfl) (fun w' hw' => ?_); go_simp; try rfl)
          simp only [Act.put, List.setIfInBounds_toArray, List.set_cons_zero, List.set_cons_succ]
          refine take0 (v := ?v125) (oi := ?o125) 4 ?hi125 (by kernel_rfl) (by kernel_rfl) (by kernel_rfl) ?hq125 ?hy125 ?_
          case hi125 => (simp only [List.getElem?_toArray, List.getElem?_cons_zero, List.getElem?_cons_succ]; rfl)
          case hq125 => exact fun _ _ _ h => h
          case hy125 => first | (refine ry_not ?_; rfl) | (refine ry_run (by rfl) (fun w' hw' => ?_); go_simp; try rfl)
          simp only [Act.put, List.setIfInBounds_toArray, List.set_cons_zero, List.set_cons_succ]
          refine take0 (v := ?v126) (oi := ?o126) 5 ?hi126 (by kernel_rfl) (by kernel_rfl) (by kernel_rfl) ?hq126 ?hy126 ?_
          case hi126 => (simp only [List.getElem?_toArray, List.getElem?_cons_zero, List.getElem?_cons_succ]; rfl)
          case hq126 => exact fun _ _ _ h => h
          case hy126 => first | (refine ry_not ?_; rfl) | (refine ry_run (by rfl) (fun w' hw' => ?_); go_simp; try rfl)
          simp only [Act.put, List.setIfInBounds_toArray, List.set_cons_zero, List.set_cons_succ]
          refine take0 (v := ?v127) (oi := ?o127) 6 ?hi127 (by kernel_rfl) (by kernel_rfl) (by kernel_rfl) ?hq127 ?hy127 ?_
          case hi127 => (simp only [List.getElem?_toArray, List.getElem?_cons_zero, List.getElem?_cons_succ]; rfl)
          case hq127 => exact fun _ _ _ h => h
          case hy127 => first | (refine ry_not ?_; rfl) | (refine ry_run (by rfl) (fun w' hw' => ?_); go_simp; try rfl)
          simp only [Act.put, List.setIfInBounds_toArray, List.set_cons_zero, List.set_cons_succ]
          refine take0 (v := ?v128) (oi := ?o128) 7 ?hi128 (by kernel_rfl) (by kernel_rfl) (by kernel_rfl) ?hq128 ?hy128 ?_
          case hi128 => (simp only [List.getElem?_toArray, List.getElem?_cons_zero, List.getElem?_cons_succ]; rfl)
          case hq128 => exact fun _ _ _ h => h
          case hy128 => first | (refine ry_not ?_; rfl) | (refine ry_run (by rfl) (fun w' hw' => ?_); go_simp; try rfl)
          simp only [Act.put, List.setIfInBounds_toArray, List.set_cons_zero, List.set_cons_succ]
          refine take0 (v := ?v129) (oi := ?o129) 8 ?hi129 (by kernel_rfl) (by kernel_rfl) (by kernel_rfl) ?hq129 ?hy129 ?_
          case hi129 => (simp only [List.getElem?_toArray, List.getElem?_cons_zero, List.getElem?_cons_succ]; rfl)
          case hq129 => exact fun _ _ _ h => h
          case hy129 => first | (refine ry_not ?_; rfl) | (refine ry_run (by rfl) (fun w' hw' => ?_); go_simp; try rfl)
          simp only [Act.put, List.setIfInBounds_toArray, List.set_cons_zero, List.set_cons_succ]
          refine take0 (v := ?v130) (oi := ?o130) 9 ?hi130 (by kernel_rfl) (by kernel_rfl) (by kernel_rfl) ?hq130 ?hy130 ?_
          case hi130 => (simp only [List.getElem?_toArray, List.getElem?_cons_zero, List.getElem?_cons_succ]; rfl)
          case hq130 => exact fun _ _ _ h => h
          case hy130 => first | (refine ry_not ?_; rfl) | (refine ry_run (by rfl) (fun w' hw' => ?_); go_simp; try rfl)
          simp only [Act.put, List.setIfInBounds_toArray, List.set_cons_zero, List.set_cons_succ]
          refine take0 (v := ?v131) (oi := ?o131) 10 ?hi131 (by kernel_rfl) (by kernel_rfl) (by kernel_rfl) ?hq131 ?hy131 ?_
          case hi131 => (simp only [List.getElem?_toArray, List.getElem?_cons_zero, List.getElem?_cons_succ]; rfl)
          case hq131 => exact fun _ _ _ h => h
          case hy131 => first | (refine ry_not ?_; rfl) | (refine ry_run (by rfl) (fun w' hw' => ?_); go_simp; try rfl)
          simp only [Act.put, List.setIfInBounds_toArray, List.set_cons_zero, List.set_cons_succ]
          refine take0 (v := ?v132) (oi := ?o132) 11 ?hi132 (by kernel_rfl) (by kernel_rfl) (by kernel_rfl) ?hq132 ?hy132 ?_
          case hi132 => (simp only [List.getElem?_toArray, List.getElem?_cons_zero, List.getElem?_cons_succ]; rfl)
          case hq132 => exact fun _ _ _ h => h
          case hy132 => first | (refine ry_not ?_; rfl) | (refine ry_run (by rfl) (fun w' hw' => ?_); go_simp; try rfl)
          simp only [Act.put, List.setIfInBounds_toArray, List.set_cons_zero, List.set_cons_succ]
          refine take0 (v := ?v133) (oi := ?o133) 12 ?hi133 (by kernel_rfl) (by kernel_rfl) (by kernel_rfl) ?hq133 ?hy133 ?_
          case hi133 => (simp only [List.getElem?_toArray, List.getElem?_cons_zero, List.getElem?_cons_succ]; rfl)
          case hq133 => exact fun _ _ _ h => h
          case hy133 => first | (refine ry_not ?_; rfl) | (refine ry_run (by rfl) (fun w' hw' => ?_); go_simp; try rfl)
          simp only [Act.put, List.setIfInBounds_toArray, List.set_cons_zero, List.set_cons_succ]
          refine take0 (v := ?v134) (oi := ?o134) 13 ?hi134 (by kernel_rfl) (by kernel_rfl) (by kernel_rfl) ?hq134 ?hy134 ?_
          case hi134 => (simp only [List.getElem?_toArray, List.getElem?_cons_zero, List.getElem?_cons_succ]; rfl)
          case hq134 => exact fun _ _ _ h => h
          case hy134 => first | (refine ry_not ?_; rfl) | (refine ry_run (by rfl) (fun w' hw' => ?_); go_simp; try rfl)
          simp only [Act.put, List.setIfInBounds_toArray, List.set_cons_zero, List.set_cons_succ]
          refine take0 (v := ?v135) (oi := ?o135) 14 ?hi135 (by kernel_rfl) (by kernel_rfl) (by kernel_rfl) ?hq135 ?hy135 ?_
          case hi135 => (simp only [List.getElem?_toArray, List.getElem?_cons_zero, List.getElem?_cons_succ]; rfl)
          case hq135 => exact fun _ _ _ h => h
          case hy135 => first | (refine ry_not ?_; rfl) | (refine ry_run (by rfl) (fun w' hw' => ?_); go_simp; try rfl)
          simp only [Act.put, List.setIfInBounds_toArray, List.set_cons_zero, List.set_cons_succ]
          refine take0 (v := ?v136) (oi := ?o136) 15 ?hi136 (by kernel_rfl) (by kernel_rfl) (by kernel_rfl) ?hq136 ?hy136 ?_
          case hi136 => (simp only [List.getElem?_toArray, List.getElem?_cons_zero, List.getElem?_cons_succ]; rfl)
          case hq136 => exact fun _ _ _ h => h
          case hy136 => first | (refine ry_not ?_; rfl) | (refine ry_run (by rfl) (fun w' hw' => ?_); go_simp; try rfl)
          simp only [Act.put, List.setIfInBounds_toArray, List.set_cons_zero, List.set_cons_succ]
          refine take0 (v := ?v137) (oi := ?o137) 16 ?hi137 (by kernel_rfl) (by kernel_rfl) (by kernel_rfl) ?hq137 ?hy137 ?_
          case hi137 => (simp only [List.getElem?_toArray, List.getElem?_cons_zero, List.getElem?_cons_succ]; rfl)
          case hq137 => exact fun _ _ _ h => h
          case hy137 => first | (refine ry_not ?_; rfl) | (refine ry_run (by rfl) (fun w' hw' => ?_); go_simp; try rfl)
          simp only [Act.put, List.setIfInBounds_toArray, List.set_cons_zero, List.set_cons_succ]
          refine take0 (v := ?v138) (oi := ?o138) 17 ?hi138 (by kernel_rfl) (by kernel_rfl) (by kernel_rfl) ?hq138 ?hy138 ?_
          case hi138 => (simp only [List.getElem?_toArray, List.getElem?_cons_zero, List.getElem?_cons_succ]; rfl)
          case hq138 => exact fun _ _ _ h => h
          case hy138 => first | (refine ry_not ?_; rfl) | (refine ry_run (by rfl) (fun w' hw' => ?_); go_simp; try rfl)
          simp only [Act.put, List.setIfInBounds_toArray, List.set_cons_zero, List.set_cons_succ]
          refine take0 (v := ?v139) (oi := ?o139) 18 ?hi139 (by kernel_rfl) (by kernel_rfl) (by kernel_rfl) ?hq139 ?hy139 ?_
          case hi139 => (simp only [List.getElem?_toArray, List.getElem?_cons_zero, List.getElem?_cons_succ]; rfl)
          case hq139 => exact fun _ _ _ h => h
          case hy139 => first | (refine ry_not ?_; rfl) | (refine ry_run (by rfl) (fun w' hw' => ?_); go_simp; try rfl)
          simp only [Act.put, List.setIfInBounds_toArray, List.set_cons_zero, List.set_cons_succ]
          refine take0 (v := ?v140) (oi := ?o140) 19 ?hi140 (by kernel_rfl) (by kernel_rfl) (by kernel_rfl) ?hq140 ?hy140 ?_
          case hi140 => (simp only [List.getElem?_toArray, List.getElem?_cons_zero, List.getElem?_cons_succ]; rfl)
          case hq140 => exact fun _ _ _ h => h
          case hy140 => first | (refine ry_not ?_; rfl) | (refine ry_run (by rfl) (fun w' hw' => ?_); go_simp; try rfl)
          simp only [Act.put, List.setIfInBounds_toArray, List.set_cons_zero, List.set_cons_succ]
          refine take0 (v := ?v141) (oi := ?o141) 20 ?hi141 (by kernel_rfl) (by kernel_rfl) (by kernel_rfl) ?hq141 ?hy141 ?_
          case hi141 => (simp only [List.getElem?_toArray, List.getElem?_cons_zero, List.getElem?_cons_succ]; rfl)
          case hq141 => exact fun _ _ _ h => h
          case hy141 => first | (refine ry_not ?_; rfl) | (refine ry_run (by rfl) (fun w' hw' => ?_); go_simp; try rfl)
          simp only [Act.put, List.setIfInBounds_toArray, List.set_cons_zero, List.set_cons_succ]
          refine take0 (v := ?v142) (oi := ?o142) 21 ?hi142 (by kernel_rfl) (by kernel_rfl) (by kernel_rfl) ?hq142 ?hy142 ?_
          case hi142 => (simp only [List.getElem?_toArray, List.getElem?_cons_zero, List.getElem?_cons_succ]; rfl)
          case hq142 => exact fun _ _ _ h => h
          case hy142 => first | (refine ry_not ?_; rfl) | (refine ry_run (by rfl) (fun w' hw' => ?_); go_simp; try rfl)
          simp only [Act.put, List.setIfInBounds_toArray, List.set_cons_zero, List.set_cons_succ]
          refine take0 (v := ?v143) (oi := ?o143) 22 ?hi143 (by kernel_rfl) (by kernel_rfl) (by kernel_rfl) ?hq143 ?hy143 ?_
          case hi143 => (simp only [List.getElem?_toArray, List.getElem?_cons_zero, List.getElem?_cons_succ]; rfl)
          case hq143 => exact fun _ _ _ h => h
          case hy143 => first | (refine ry_not ?_; rfl) | (refine ry_run (by rfl) (fun w' hw' => ?_); go_simp; try rfl)
          simp only [Act.put, List.setIfInBounds_toArray, List.set_cons_zero, List.set_cons_succ]
          refine take0 (v := ?v144) (oi := ?o144) 23 ?hi144 (by kernel_rfl) (by kernel_rfl) (by kernel_rfl) ?hq144 ?hy144 ?_
          case hi144 => (simp only [List.getElem?_toArray, List.getElem?_cons_zero, List.getElem?_cons_succ]; rfl)
          case hq144 => exact fun _ _ _ h => h
          case hy144 => first | (refine ry_not ?_; rfl) | (refine ry_run (by rfl) (fun w' hw' => ?_); go_simp; try rfl)
          simp only [Act.put, List.setIfInBounds_toArray, List.set_cons_zero, List.set_cons_succ]
          refine take0 (v := ?v145) (oi := ?o145) 24 ?hi145 (by kernel_rfl) (by kernel_rfl) (by kernel_rfl) ?hq145 ?hy145 ?_
          case hi145 => (simp only [List.getElem?_toArray, List.getElem?_cons_zero, List.getElem?_cons_succ]; rfl)
          case hq145 => exact fun _ _ _ h => h
          case hy145 => first | (refine ry_not ?_; rfl) | (refine ry_run (by rfl) (fun w' hw' => ?_); go_simp; try rfl)
          simp only [Act.put, List.setIfInBounds_toArray, List.set_cons_zero, List.set_cons_succ]
          refine take0 (v := ?v146) (oi := ?o146) 25 ?hi146 (by kernel_rfl) (by kernel_rfl) (by kernel_rfl) ?hq146 ?hy146 ?_
          case hi146 => (simp only [List.getElem?_toArray, List.getElem?_cons_zero, List.getElem?_cons_succ]; rfl)
          case hq146 => exact fun _ _ _ h => h
          case hy146 => first | (refine ry_not ?_; rfl) | (refine ry_run (by rfl) (fun w' hw' => ?_); go_simp; try rfl)
          simp only [Act.put, List.setIfInBounds_toArray, List.set_cons_zero, List.set_cons_succ]
          refine take0 (v := ?v147) (oi := ?o147) 26 ?hi147 (by kernel_rfl) (by kernel_rfl) (by kernel_rfl) ?hq147 ?hy147 ?_
          case hi147 => (simp only [List.getElem?_toArray, List.getElem?_cons_zero, List.getElem?_cons_succ]; rfl)
          case hq147 => exact fun _ _ _ h => h
          case hy147 => first | (refine ry_not ?_; rfl) | (refine ry_run (by rfl) (fun w' hw' => ?_); go_simp; try rfl)
          simp only [Act.put, List.setIfInBounds_toArray, List.set_cons_zero, List.set_cons_succ]
          refine take0 (v := ?v148) (oi := ?o148) 27 ?hi148 (by kernel_rfl) (by kernel_rfl) (by kernel_rfl) ?hq148 ?hy148 ?_
          case hi148 => (simp only [List.getElem?_toArray, List.getElem?_cons_zero, List.getElem?_cons_succ]; rfl)
          case hq148 => exact fun _ _ _ h => h
          case hy148 => first | (refine ry_not ?_; rfl) | (refine ry_run (by rfl) (fun w' hw' => ?_); go_simp; try rfl)
          simp only [Act.put, List.setIfInBounds_toArray, List.set_cons_zero, List.set_cons_succ]
          refine take0 (v := ?v149) (oi := ?o149) 28 ?hi149 (by kernel_rfl) (by kernel_rfl) (by kernel_rfl) ?hq149 ?hy149 ?_
          case hi149 => (simp only [List.getElem?_toArray, List.getElem?_cons_zero, List.getElem?_cons_succ]; rfl)
          case hq149 => exact fun _ _ _ h => h
          case hy149 => first | (refine ry_not ?_; rfl) | (refine ry_run (by rfl) (fun w' hw' => ?_); go_simp; try rfl)
          simp only [Act.put, List.setIfInBounds_toArray, List.set_cons_zero, List.set_cons_succ]
          refine take0 (v := ?v150) (oi := ?o150) 29 ?hi150 (by kernel_rfl) (by kernel_rfl) (by kernel_rfl) ?hq150 ?hy150 ?_
          case hi150 => (simp only [List.getElem?_toArray, List.getElem?_cons_zero, List.getElem?_cons_succ]; rfl)
          case hq150 => exact fun _ _ _ h => h
          case hy150 => first | (refine ry_not ?_; rfl) | (refine ry_run (by rfl) (fun w' hw' => ?_); go_simp; try rfl)
          simp only [Act.put, List.setIfInBounds_toArray, List.set_cons_zero, List.set_cons_succ]
          refine wpAnyM_done (by kernel_rfl) ?_
          have hbR := HBR4d.out
          have hmE := (((Mod.refl (fun g => g = w.heap.size + 1) w4.drew).set1 rfl 0 (.slice none 0 0)).set1 rfl 1 (.int .i64 (0))).set1 rfl 2 (.slice none 0 0)
          have hb2 := ((hbR.set 0 (.slice none 0 0)).set 1 (.int .i64 (0))).set 2 (.slice none 0 0)
          have z0 := hb2.cell (o := 0) rfl
          have z1 := hb2.cell (o := 1) rfl
          have z2 := hb2.cell (o := 2) rfl
          have hbY := HBR4.out
          have y0z := (hbY.set 0 (.slice none 0 0)).cell (o := 0) rfl
          have y1z := ((hbY.set 0 (.slice none 0 0)).set 1 (.int .i64 (0))).cell (o := 1) rfl
          have y2z := (((hbY.set 0 (.slice none 0 0)).set 1 (.int .i64 (0))).set 2 (.slice none 0 0)).cell (o := 2) rfl
          have f0 := hbY.frozen 0
          have f1 := hbY.frozen 1
          have f2 := hbY.frozen 2
          have c0 := hbY.cell (o := 0) rfl
          have c1 := hbY.cell (o := 1) rfl
          have c2 := hbY.cell (o := 2) rfl
          have HME := Lib.hid (Mod.trans HM4d.out hmE (fun i hi e => by omega))
          have HMEE := Lib.hid hmE
          clear hbY hbR hmE hb2
          go_wp2_with fail
          skip
          refine bodyPost_ret (v := .tuple #[.agg #[.slice none 0 0, .int .i64 (0), .slice none 0 0], .int .i64 122]) (by simp [results, Tryd.results44, go_sem, z0, z1, z2, y0z, y1z, y2z]) rfl ⟨_, _, rfl, World.ownsRow_nil _ _ _ _, World.ownsRow_nil _ _ _ _, HME.out⟩
        · rw [if_pos (.inl (by omega))] at hn
          subst hn
          have d0 : decide (0 < level) = false := decide_eq_false hlp
          have HVP4e : Hid (w4.drew.ownsRow w.heap.size 48 2 (.slice Ap np cp) ps.length (ps.flatMap kc)) := by rw [HNP.out]; exact HVP4d
          clear hof HCP4
          go_wp2_with fail
          refine region_m (by kernel_rfl) ?_
          simp only [List.length_cons, List.length_nil, List.replicate]
          refine take0 (v := ?v151) (oi := ?o151) 0 ?hi151 (by kernel_rfl) (by kernel_rfl) (by kernel_rfl) ?hq151 ?hy151 ?_
          case hi151 => (simp only [List.getElem?_toArray, List.getElem?_cons_zero, List.getElem?_cons_succ]; rfl)
          case hq151 => exact fun _ _ _ h => h
          case hy151 => first | (refine ry_not ?_; rfl) | (refine ry_run (by rfl) (fun w' hw' => ?_); go_simp; try rfl)
          simp only [Act.put, List.setIfInBounds_toArray, List.set_cons_zero, List.set_cons_succ]
          refine take0 (v := ?v152) (oi := ?o152) 1 ?hi152 (by kernel_rfl) (by kernel_rfl) (by kernel_rfl) ?hq152 ?hy152 ?_
          case hi152 => (simp only [List.getElem?_toArray, List.getElem?_cons_zero, List.getElem?_cons_succ]; rfl)
          case hq152 => exact fun _ _ _ h => h
          case hy152 => first | (refine ry_not ?_; rfl) | (refine ry_run (by rfl) (fun w' hw' => ?_); go_simp; try rfl)
          simp only [Act.put, List.setIfInBounds_toArray, List.set_cons_zero, List.set_cons_succ]
          refine take0 (v := ?v153) (oi := ?o153) 2 ?hi153 (by kernel_rfl) (by kernel_rfl) (by kernel_rfl) ?hq153 ?hy153 ?_
          case hi153 => (simp only [List.getElem?_toArray, List.getElem?_cons_zero, List.getElem?_cons_succ]; rfl)
          case hq153 => exact fun _ _ _ h => h
          case hy153 => first | (refine ry_not ?_; rfl) | (refine ry_run (by rfl) (fun w' hw' => ?_); go_simp; try rfl)
          simp only [Act.put, List.setIfInBounds_toArray, List.set_cons_zero, List.set_cons_succ]
          refine take0 (v := ?v154) (oi := ?o154) 3 ?hi154 (by kernel_rfl) (by kernel_rfl) (by kernel_rfl) ?hq154 ?hy154 ?_
          case hi154 => (simp only [List.getElem?_toArray, List.getElem?_cons_zero, List.getElem?_cons_succ]; rfl)
          case hq154 => exact fun _ _ _ h => h
          case hy154 => first | (refine ry_not ?_; rfl) | (refine ry_run (by rfl) (fun w' hw' => ?_); go_simp; try rfl)
          simp only [Act.put, List.setIfInBounds_toArray, List.set_cons_zero, List.set_cons_succ]
          refine take0 (v := ?v155) (oi := ?o155) 4 ?hi155 (by kernel_rfl) (by kernel_rfl) (by kernel_rfl) ?hq155 ?hy155 ?_
          case hi155 => (simp only [List.getElem?_toArray, List.getElem?_cons_zero, List.getElem?_cons_succ]; rfl)
          case hq155 => exact fun _ _ _ h => h
          case hy155 => first | (refine ry_not ?_; rfl) | (refine ry_run (by rfl) (fun w' hw' => ?_); go_simp; try rfl)
          simp only [Act.put, List.setIfInBounds_toArray, List.set_cons_zero, List.set_cons_succ]
          refine take0 (v := ?v156) (oi := ?o156) 5 ?hi156 (by kernel_rfl) (by kernel_rfl) (by kernel_rfl) ?hq156 ?hy156 ?_
          case hi156 => (simp only [List.getElem?_toArray, List.getElem?_cons_zero, List.getElem?_cons_succ]; rfl)
          case hq156 => exact fun _ _ _ h => h
          case hy156 => first | (refine ry_not ?_; rfl) | (refine ry_run (by rfl) (fun w' hw' => ?_); go_simp; try rfl)
          simp only [Act.put, List.setIfInBounds_toArray, List.set_cons_zero, List.set_cons_succ]
          refine take0 (v := ?v157) (oi := ?o157) 6 ?hi157 (by kernel_rfl) (by kernel_rfl) (by kernel_rfl) ?hq157 ?hy157 ?_
          case hi157 => (simp only [List.getElem?_toArray, List.getElem?_cons_zero, List.getElem?_cons_succ]; rfl)
          case hq157 => exact fun _ _ _ h => h
          case hy157 => first | (refine ry_not ?_; rfl) | (refine ry_run (by rfl) (fun w' hw' => ?_); go_simp; try rfl)
          simp only [Act.put, List.setIfInBounds_toArray, List.set_cons_zero, List.set_cons_succ]
          refine take0 (v := ?v158) (oi := ?o158) 7 ?hi158 (by kernel_rfl) (by kernel_rfl) (by kernel_rfl) ?hq158 ?hy158 ?_
          case hi158 => (simp only [List.getElem?_toArray, List.getElem?_cons_zero, List.getElem?_cons_succ]; rfl)
          case hq158 => exact fun _ _ _ h => h
          case hy158 => first | (refine ry_not ?_; rfl) | (refine ry_run (by rfl) (fun w' hw' => ?_); go_simp; try rfl)
          simp only [Act.put, List.setIfInBounds_toArray, List.set_cons_zero, List.set_cons_succ]
          refine take0 (v := ?v159) (oi := ?o159) 8 ?hi159 (by kernel_rfl) (by kernel_rfl) (by kernel_rfl) ?hq159 ?hy159 ?_
          case hi159 => (simp only [List.getElem?_toArray, List.getElem?_cons_zero, List.getElem?_cons_succ]; rfl)
          case hq159 => exact fun _ _ _ h => h
          case hy159 => first | (refine ry_not ?_; rfl) | (refine ry_run (by rfl) (fun w' hw' => ?_); go_simp; try rfl)
          simp only [Act.put, List.setIfInBounds_toArray, List.set_cons_zero, List.set_cons_succ]
          refine take0 (v := ?v160) (oi := ?o160) 9 ?hi160 (by kernel_rfl) (by kernel_rfl) (by kernel_rfl) ?hq160 ?hy160 ?_
          case hi160 => (simp only [List.getElem?_toArray, List.getElem?_cons_zero, List.getElem?_cons_succ]; rfl)
          case hq160 => exact fun _ _ _ h => h
          case hy160 => first | (refine ry_not ?_; rfl) | (refine ry_run (by rfl) (fun w' hw' => ?_); go_simp; try rfl)
          simp only [Act.put, List.setIfInBounds_toArray, List.set_cons_zero, List.set_cons_succ]
          refine take0 (v := ?v161) (oi := ?o161) 10 ?hi161 (by kernel_rfl) (by kernel_rfl) (by kernel_rfl) ?hq161 ?hy161 ?_
          case hi161 => (simp only [List.getElem?_toArray, List.getElem?_cons_zero, List.getElem?_cons_succ]; rfl)
          case hq161 => exact fun _ _ _ h => h
          case hy161 => first | (refine ry_not ?_; rfl) | (refine ry_run (by rfl) (fun w' hw' => ?_); go_simp; try rfl)
          simp only [Act.put, List.setIfInBounds_toArray, List.set_cons_zero, List.set_cons_succ]
          refine take0 (v := ?v162) (oi := ?o162) 11 ?hi162 (by kernel_rfl) (by kernel_rfl) (by kernel_rfl) ?hq162 ?hy162 ?_
          case hi162 => (simp only [List.getElem?_toArray, List.getElem?_cons_zero, List.getElem?_cons_succ]; rfl)
          case hq162 => exact fun _ _ _ h => h
          case hy162 => first | (refine ry_not ?_; rfl) | (refine ry_run (by rfl) (fun w' hw' => ?_); go_simp; try rfl)
          simp only [Act.put, List.setIfInBounds_toArray, List.set_cons_zero, List.set_cons_succ]
          refine take0 (v := ?v163) (oi := ?o163) 12 ?hi163 (by kernel_rfl) (by kernel_rfl) (by kernel_rfl) ?hq163 ?hy163 ?_
          case hi163 => (simp only [List.getElem?_toArray, List.getElem?_cons_zero, List.getElem?_cons_succ]; rfl)
          case hq163 => exact fun _ _ _ h => h
          case hy163 => first | (refine ry_not ?_; rfl) | (refine ry_run (by rfl) (fun w' hw' => ?_); go_simp; try rfl)
          simp only [Act.put, List.setIfInBounds_toArray, List.set_cons_zero, List.set_cons_succ]
          refine take0 (v := ?v164) (oi := ?o164) 13 ?hi164 (by kernel_rfl) (by kernel_rfl) (by kernel_rfl) ?hq164 ?hy164 ?_
          case hi164 => (simp only [List.getElem?_toArray, List.getElem?_cons_zero, List.getElem?_cons_succ]; rfl)
          case hq164 => exact fun _ _ _ h => h
          case hy164 => first | (refine ry_not ?_; rfl) | (refine ry_run (by rfl) (fun w' hw' => ?_); go_simp; try rfl)
          simp only [Act.put, List.setIfInBounds_toArray, List.set_cons_zero, List.set_cons_succ]
          refine take0 (v := ?v165) (oi := ?o165) 14 ?hi165 (by kernel_rfl) (by kernel_rfl) (by kernel_rfl) ?hq165 ?hy165 ?_
          case hi165 => (simp only [List.getElem?_toArray, List.getElem?_cons_zero, List.getElem?_cons_succ]; rfl)
          case hq165 => exact fun _ _ _ h => h
          case hy165 => first | (refine ry_not ?_; rfl) | (refine ry_run (by rfl) (fun w' hw' => ?_); go_simp; try rfl)
          simp only [Act.put, List.setIfInBounds_toArray, List.set_cons_zero, List.set_cons_succ]
          refine take0 (v := ?v166) (oi := ?o166) 15 ?hi166 (by kernel_rfl) (by kernel_rfl) (by kernel_rfl) ?hq166 ?hy166 ?_
          case hi166 => (simp only [List.getElem?_toArray, List.getElem?_cons_zero, List.getElem?_cons_succ]; rfl)
          case hq166 => exact fun _ _ _ h => h
          case hy166 => first | (refine ry_not ?_; rfl) | (refine ry_run (by rfl) (fun w' hw' => ?_); go_simp; try rfl)
          simp only [Act.put, List.setIfInBounds_toArray, List.set_cons_zero, List.set_cons_succ]
          refine take0 (v := ?v167) (oi := ?o167) 16 ?hi167 (by kernel_rfl) (by kernel_rfl) (by kernel_rfl) ?hq167 ?hy167 ?_
          case hi167 => (simp only [List.getElem?_toArray, List.getElem?_cons_zero, List.getElem?_cons_succ]; rfl)
          case hq167 => exact fun _ _ _ h => h
          case hy167 => first | (refine ry_not ?_; rfl) | (refine ry_run (by rfl) (fun w' hw' => ?_); go_simp; try rfl)
          simp only [Act.put, List.setIfInBounds_toArray, List.set_cons_zero, List.set_cons_succ]
          refine take0 (v := ?v168) (oi := ?o168) 17 ?hi168 (by kernel_rfl) (by kernel_rfl) (by kernel_rfl) ?hq168 ?hy168 ?_
          case hi168 => (simp only [List.getElem?_toArray, List.getElem?_cons_zero, List.getElem?_cons_succ]; rfl)
          case hq168 => exact fun _ _ _ h => h
          case hy168 => first | (refine ry_not ?_; rfl) | (refine ry_run (by rfl) (fun w' hw' => ?_); go_simp; try rfl)
          simp only [Act.put, List.setIfInBounds_toArray, List.set_cons_zero, List.set_cons_succ]
          refine take0 (v := ?v169) (oi := ?o169) 18 ?hi169 (by kernel_rfl) (by kernel_rfl) (by kernel_rfl) ?hq169 ?hy169 ?_
          case hi169 => (simp only [List.getElem?_toArray, List.getElem?_cons_zero, List.getElem?_cons_succ]; rfl)
          case hq169 => exact fun _ _ _ h => h
          case hy169 => first | (refine ry_not ?_; rfl) | (refine ry_run (by rfl) (fun w' hw' => ?_); go_simp; try rfl)
          simp only [Act.put, List.setIfInBounds_toArray, List.set_cons_zero, List.set_cons_succ]
          refine take0 (v := ?v170) (oi := ?o170) 19 ?hi170 (by kernel_rfl) (by kernel_rfl) (by kernel_rfl) ?hq170 ?hy170 ?_
          case hi170 => (simp only [List.getElem?_toArray, List.getElem?_cons_zero, List.getElem?_cons_succ]; rfl)
          case hq170 => exact fun _ _ _ h => h
          case hy170 => first | (refine ry_not ?_; rfl) | (refine ry_run (by rfl) (fun w' hw' => ?_); go_simp; try rfl)
          simp only [Act.put, List.setIfInBounds_toArray, List.set_cons_zero, List.set_cons_succ]
          refine take0 (v := ?v171) (oi := ?o171) 20 ?hi171 (by kernel_rfl) (by kernel_rfl) (by kernel_rfl) ?hq171 ?hy171 ?_
          case hi171 => (simp only [List.getElem?_toArray, List.getElem?_cons_zero, List.getElem?_cons_succ]; rfl)
          case hq171 => exact fun _ _ _ h => h
          case hy171 => first | (refine ry_not ?_; rfl) | (refine ry_run (by rfl) (fun w' hw' => ?_); go_simp; try rfl)
          simp only [Act.put, List.setIfInBounds_toArray, List.set_cons_zero, List.set_cons_succ]
          refine take0 (v := ?v172) (oi := ?o172) 21 ?hi172 (by kernel_rfl) (by kernel_rfl) (by kernel_rfl) ?hq172 ?hy172 ?_
          case hi172 => (simp only [List.getElem?_toArray, List.getElem?_cons_zero, List.getElem?_cons_succ]; rfl)
          case hq172 => exact fun _ _ _ h => h
          case hy172 => first | (refine ry_not ?_; rfl) | (refine ry_run (by rfl) (fun w' hw' => ?_); go_simp; try rfl)
          simp only [Act.put, List.setIfInBounds_toArray, List.set_cons_zero, List.set_cons_succ]
          refine take0 (v := ?v173) (oi := ?o173) 22 ?hi173 (by kernel_rfl) (by kernel_rfl) (by kernel_rfl) ?hq173 ?hy173 ?_
          case hi173 => (simp only [List.getElem?_toArray, List.getElem?_cons_zero, List.getElem?_cons_succ]; rfl)
          case hq173 => exact fun _ _ _ h => h
          case hy173 => first | (refine ry_not ?_; rfl) | (refine ry_run (by rfl) (fun w' hw' => ?_); go_simp; try rfl)
          simp only [Act.put, List.setIfInBounds_toArray, List.set_cons_zero, List.set_cons_succ]
          refine take0 (v := ?v174) (oi := ?o174) 23 ?hi174 (by kernel_rfl) (by kernel_rfl) (by kernel_rfl) ?hq174 ?hy174 ?_
          case hi174 => (simp only [List.getElem?_toArray, List.getElem?_cons_zero, List.getElem?_cons_succ]; rfl)
          case hq174 => exact fun _ _ _ h => h
          case hy174 => first | (refine ry_not ?_; rfl) | (refine ry_run (by rfl) (fun w' hw' => ?_); go_simp; try rfl)
          simp only [Act.put, List.setIfInBounds_toArray, List.set_cons_zero, List.set_cons_succ]
          refine take0 (v := ?v175) (oi := ?o175) 24 ?hi175 (by kernel_rfl) (by kernel_rfl) (by kernel_rfl) ?hq175 ?hy175 ?_
          case hi175 => (simp only [List.getElem?_toArray, List.getElem?_cons_zero, List.getElem?_cons_succ]; rfl)
          case hq175 => exact fun _ _ _ h => h
          case hy175 => first | (refine ry_not ?_; rfl) | (refine ry_run (by rfl) (fun w' hw' => ?_); go_simp; try rfl)
          simp only [Act.put, List.setIfInBounds_toArray, List.set_cons_zero, List.set_cons_succ]
          refine take0 (v := ?v176) (oi := ?o176) 25 ?hi176 (by kernel_rfl) (by kernel_rfl) (by kernel_rfl) ?hq176 ?hy176 ?_
          case hi176 => (simp only [List.getElem?_toArray, List.getElem?_cons_zero, List.getElem?_cons_succ]; rfl)
          case hq176 => exact fun _ _ _ h => h
          case hy176 => first | (refine ry_not ?_; rfl) | (refine ry_run (by rfl) (fun w' hw' => ?_); go_simp; try rfl)
          simp only [Act.put, List.setIfInBounds_toArray, List.set_cons_zero, List.set_cons_succ]
          refine take0 (v := ?v177) (oi := ?o177) 26 ?hi177 (by kernel_rfl) (by kernel_rfl) (by kernel_rfl) ?hq177 ?hy177 ?_
          case hi177 => (simp only [List.getElem?_toArray, List.getElem?_cons_zero, List.getElem?_cons_succ]; rfl)
          case hq177 => exact fun _ _ _ h => h
          case hy177 => first | (refine ry_not ?_; rfl) | (refine ry_run (by rfl) (fun w' hw' => ?_); go_simp; try rfl)
          simp only [Act.put, List.setIfInBounds_toArray, List.set_cons_zero, List.set_cons_succ]
          refine take0 (v := ?v178) (oi := ?o178) 27 ?hi178 (by kernel_rfl) (by kernel_rfl) (by kernel_rfl) ?hq178 ?hy178 ?_
          case hi178 => (simp only [List.getElem?_toArray, List.getElem?_cons_zero, List.getElem?_cons_succ]; rfl)
          case hq178 => exact fun _ _ _ h => h
          case hy178 => first | (refine ry_not ?_; rfl) | (refine ry_run (by rfl) (fun w' hw' => ?_); go_simp; try rfl)
          simp only [Act.put, List.setIfInBounds_toArray, List.set_cons_zero, List.set_cons_succ]
          refine take0 (v := ?v179) (oi := ?o179) 28 ?hi179 (by kernel_rfl) (by kernel_rfl) (by kernel_rfl) ?hq179 ?hy179 ?_
          case hi179 => (simp only [List.getElem?_toArray, List.getElem?_cons_zero, List.getElem?_cons_succ]; rfl)
          case hq179 => exact fun _ _ _ h => h
          case hy179 => first | (refine ry_not ?_; rfl) | (refine ry_run (by rfl) (fun w' hw' => ?_); go_simp; try rfl)
          simp only [Act.put, List.setIfInBounds_toArray, List.set_cons_zero, List.set_cons_succ]
          refine take0 (v := ?v180) (oi := ?o180) 29 ?hi180 (by kernel_rfl) (by kernel_rfl) (by kernel_rfl) ?hq180 ?hy180 ?_
          case hi180 => (simp only [List.getElem?_toArray, List.getElem?_cons_zero, List.getElem?_cons_succ]; rfl)
          case hq180 => exact fun _ _ _ h => h
          case hy180 => first | (refine ry_not ?_; rfl) | (refine ry_run (by rfl) (fun w' hw' => ?_); go_simp; try rfl)
          simp only [Act.put, List.setIfInBounds_toArray, List.set_cons_zero, List.set_cons_succ]
          refine wpAnyM_done (by kernel_rfl) ?_
          have hbR := HBR4d.out
          have hmE := (((Mod.refl (fun g => g = w.heap.size + 1) w4.drew).set1 rfl 0 (.slice Ap np cp)).set1 rfl 1 (.int .i64 (0))).set1 rfl 2 (.slice none 0 0)
          have hb2 := ((hbR.set 0 (.slice Ap np cp)).set 1 (.int .i64 (0))).set 2 (.slice none 0 0)
          have z0 := hb2.cell (o := 0) rfl
          have z1 := hb2.cell (o := 1) rfl
          have z2 := hb2.cell (o := 2) rfl
          have hbY := HBR4.out
          have y0z := (hbY.set 0 (.slice Ap np cp)).cell (o := 0) rfl
          have y1z := ((hbY.set 0 (.slice Ap np cp)).set 1 (.int .i64 (0))).cell (o := 1) rfl
          have y2z := (((hbY.set 0 (.slice Ap np cp)).set 1 (.int .i64 (0))).set 2 (.slice none 0 0)).cell (o := 2) rfl
          have f0 := hbY.frozen 0
          have f1 := hbY.frozen 1
          have f2 := hbY.frozen 2
          have c0 := hbY.cell (o := 0) rfl
          have c1 := hbY.cell (o := 1) rfl
          have c2 := hbY.cell (o := 2) rfl
          have HME := Lib.hid (Mod.trans HM4d.out hmE (fun i hi e => by omega))
          have HMEE := Lib.hid hmE
          clear hbY hbR hmE hb2
          go_wp2_with fail
          skip
          refine bodyPost_ret (v := .tuple #[.agg #[.slice Ap np cp, .int .i64 (0), .slice none 0 0], .int .i64 0]) (by simp [results, Tryd.results44, go_sem, z0, z1, z2, y0z, y1z, y2z]) rfl ⟨_, _, rfl, own_other HVP4e.out HBR4d.out (by decide) HMEE.out, World.ownsRow_nil _ _ _ _, HME.out⟩
    | false =>
      obtain ⟨O, hO⟩ : ∃ O, outBranch b.data.toList = O := ⟨_, rfl⟩
      obtain ⟨OB, hOB⟩ : ∃ OB, okBranch b.data.toList = OB := ⟨_, rfl⟩
      obtain ⟨L, kids⟩ := O
      rw [pB_branch b k level L kids OB hl hO hOB] at hn
      have hbf := HBF.out
      simp only [hO, hOB] at hbf HTB
      simp only [show errV false = Value.int .i64 81 from rfl]
      have HBF2 := Lib.hid hbf
      clear hps hf HBF hl hof HCP4 HVP4 hbf hO hOB
      go_wp2_with fail
      refine (HTB.out _).mono ?_
      rintro e w5 ⟨vk, rfl, hvk, hm5⟩
      obtain ⟨Ak, ck, rfl, _, hck, _, _⟩ := own_cells hvk
      obtain ⟨E, hE⟩ : ∃ E : Int, (if OB = true then 0 else 81) = E := ⟨_, rfl⟩
      have hE2 : errV OB = .int .i64 E := by rw [← hE]; rfl
      rw [hE2]
      have HE := Lib.hid hE
      have hma := (Mod.refl (fun _ => False) w5).alloc (.cells #[.int .i64 L, .slice Ak kids.length ck] 72)
      have hbb := Has.new w5 [.int .i64 L, .slice Ak kids.length ck] 72
      have hbk6 := (HBK4.out.keep hm5 (fun h => h)).keep hma (fun h => h)
      have hbr6 := (HBR4.out.keep hm5 (fun h => h)).keep hma (fun h => h)
      have hM6 := Mod.trans (Mod.trans HM4.out hm5 (fun _ _ h => h)) hma (fun _ _ h => h)
      have hvk6 := own_base (own_keep hvk hma (fun _ _ _ h => h)) (show w.heap.size ≤ w4.heap.size by omega)
      have hck6 := hck.keep hma (fun _ _ h => h)
      obtain ⟨W6, hW6⟩ : ∃ W6, w5.alloc (.cells #[.int .i64 L, .slice Ak kids.length ck] 72) = W6 := ⟨_, rfl⟩
      have HW6 := Lib.hid hW6
      have hbb' := hbb
      rw [hW6] at hbb' hbk6 hbr6 hM6 hvk6 hck6
      have HBB := Lib.hid hbb'
      have HBK6 := Lib.hid hbk6
      have HBR6 := Lib.hid hbr6
      have HM6 := Lib.hid hM6
      have HVK6 := Lib.hid hvk6
      have HCK6 := Lib.hid hck6
      clear hE hE2 hma hbb hbb' hbk6 hbr6 hM6 hvk6 hck6 hvk hck hm5 HTB HBK4 HBR4 HM4 hW6
      go_wp2_with fail
      rw [HW6.out]
      go_loopw [12, 13] (fun n i wr => ∃ (j : Nat) (z : Int), i = .int .i64 j ∧ n = .int .i64 z ∧ j ≤ kids.length ∧ Hid (z = manyL (kids.take j)) ∧ Hid (Mod (fun _ => False) W6 wr)) (fun _ i _ => kids.length - (intOf i).toNat)
      case atStart => exact ⟨0, 0, by go_num, rfl, by omega, Lib.hid (by simp [manyL]), Lib.hid (Mod.refl _ _)⟩
      case round =>
        obtain ⟨j, z, rfl, rfl, hj, HZ, HMR⟩ := hrel
        have q1 := (HBB.out.keep HMR.out (fun h => h)).cell (o := 1) rfl
        by_cases hjl : j < kids.length
        · have j1 : (j : Int) < (kids.length : Int) := by omega
          have j0 : (0 : Int) ≤ (j : Int) := by omega
          rcases HCK6.out.keep HMR.out (fun _ _ h => h) with h | ⟨ba, o, rfl, hcell⟩
          · have := flat_len lc_len kids; rw [h] at this; simp at this; omega
          have y2 := hcell _ _ (flat_get lc_len kids j 2 hjl (by omega))
          rw [← Nat.add_assoc] at y2
          have hst := many_snoc hjl
          have hkk : ∀ q ∈ kids, 1 ≤ q.many ∧ q.many ≤ 4096 := fun q hq => ⟨(HBF2.out.2.2.2.1 q hq).1, (HBF2.out.2.2.2.1 q hq).2.1⟩
          have h0 := many_take hkk j
          have h1 := many_take hkk (j + 1)
          have hkl := HBF2.out.1
          rw [hst] at h1
          rw [← HZ.out] at hst h0 h1
          generalize kids[j] = p at *
          have HT := Lib.hid hst
          clear hcell hst hkk
          go_wp2_with fail
          go_roundw
          case rel => exact ⟨j + 1, z + p.many, by go_num, rfl, by omega, Lib.hid HT.out.symm, HMR⟩
          case measure => simp [intOf]; omega
        · have hjk : j = kids.length := by omega
          have j1 : ¬ (j : Int) < (kids.length : Int) := by omega
          have hz := HZ.out
          rw [hjk, List.take_length] at hz
          have hbb := HBB.out.keep HMR.out (fun h => h)
          have hbk := HBK6.out.keep HMR.out (fun h => h)
          have hbr := HBR6.out.keep HMR.out (fun h => h)
          have q0 := hbb.cell (o := 0) rfl
          have fb0 := fun (w' : World) (mm : Mod0 wr.drew w') => ((Mod.of_drew_l mm).cell (p := ⟨w5.heap.size, 0, none⟩) hbb.lt (fun h => h)).trans q0
          have fb1 := fun (w' : World) (mm : Mod0 wr.drew w') => ((Mod.of_drew_l mm).cell (p := ⟨w5.heap.size, 1, none⟩) hbb.lt (fun h => h)).trans q1
          have fk0 := fun (w' : World) (mm : Mod0 wr.drew w') => ((Mod.of_drew_l mm).cell (p := ⟨w.heap.size, 0, none⟩) hbk.lt (fun h => h)).trans (hbk.cell (o := 0) rfl)
          have fk2 := fun (w' : World) (mm : Mod0 wr.drew w') => ((Mod.of_drew_l mm).cell (p := ⟨w.heap.size, 2, none⟩) hbk.lt (fun h => h)).trans (hbk.cell (o := 2) rfl)
          have HBRy := Lib.hid hbr
          have HBRd := Lib.hid hbr.drew
          have HMd := Lib.hid ((Mod.trans HM6.out HMR.out (fun _ _ h => h)).drew)
          have HVKd := Lib.hid (own_keep (own_keep HVK6.out HMR.out (fun _ _ _ h => h)) ((Mod.refl (fun _ => False) wr).drew) (fun _ _ _ h => h))
          subst hz
          clear hbb hbk hbr HZ HBB HBK6 HBR6 HM6 HVK6
          cases OB with
          | false =>
            obtain rfl : E = 81 := HE.out.symm
            rw [if_neg (fun h => by cases h.1)] at hn
            subst hn
            clear HCK6 HMR HBF2
            go_wp2_with fail
            refine region_m (by kernel_rfl) ?_
            simp only [List.length_cons, List.length_nil, List.replicate]
            refine take0 (v := ?v181) (oi := ?o181) 0 ?hi181 (by kernel_rfl) (by kernel_rfl) (by kernel_rfl) ?hq181 ?hy181 ?_
            case hi181 => (simp only [List.getElem?_toArray, List.getElem?_cons_zero, List.getElem?_cons_succ]; rfl)
            case hq181 => exact fun _ _ _ h => h
            case hy181 => first | (refine ry_not ?_; rfl) | (refine ry_run (by rfl) (fun w' hw' => ?_); go_simp; try rfl)
            simp only [Act.put, List.setIfInBounds_toArray, List.set_cons_zero, List.set_cons_succ]
            refine take0 (v := ?v182) (oi := ?o182) 1 ?hi182 (by kernel_rfl) (by kernel_rfl) (by kernel_rfl) ?hq182 ?hy182 ?_
            case hi182 => (simp only [List.getElem?_toArray, List.getElem?_cons_zero, List.getElem?_cons_succ]; rfl)
            case hq182 => exact fun _ _ _ h => h
            case hy182 => first | (refine ry_not ?_; rfl) | (refine ry_run (by rfl) (fun w' hw' => ?_); go_simp; try rfl)
            simp only [Act.put, List.setIfInBounds_toArray, List.set_cons_zero, List.set_cons_succ]
            refine take0 (v := ?v183) (oi := ?o183) 2 ?hi183 (by kernel_rfl) (by kernel_rfl) (by kernel_rfl) ?hq183 ?hy183 ?_
            case hi183 => (simp only [List.getElem?_toArray, List.getElem?_cons_zero, List.getElem?_cons_succ]; rfl)
            case hq183 => exact fun _ _ _ h => h
            case hy183 => first | (refine ry_not ?_; rfl) | (refine ry_run (by rfl) (fun w' hw' => ?_); go_simp; try rfl)
            simp only [Act.put, List.setIfInBounds_toArray, List.set_cons_zero, List.set_cons_succ]
            refine take0 (v := ?v184) (oi := ?o184) 3 ?hi184 (by kernel_rfl) (by kernel_rfl) (by kernel_rfl) ?hq184 ?hy184 ?_
            case hi184 => (simp only [List.getElem?_toArray, List.getElem?_cons_zero, List.getElem?_cons_succ]; rfl)
            case hq184 => exact fun _ _ _ h => h
            case hy184 => first | (refine ry_not ?_; rfl) | (refine ry_run (by rfl) (fun w' hw' => ?_); go_simp; try rfl)
            simp only [Act.put, List.setIfInBounds_toArray, List.set_cons_zero, List.set_cons_succ]
            refine take0 (v := ?v185) (oi := ?o185) 4 ?hi185 (by kernel_rfl) (by kernel_rfl) (by kernel_rfl) ?hq185 ?hy185 ?_
            case hi185 => (simp only [List.getElem?_toArray, List.getElem?_cons_zero, List.getElem?_cons_succ]; rfl)
            case hq185 => exact fun _ _ _ h => h
            case hy185 => first | (refine ry_not ?_; rfl) | (refine ry_run (by rfl) (fun w' hw' => ?_); go_simp; try rfl)
            simp only [Act.put, List.setIfInBounds_toArray, List.set_cons_zero, List.set_cons_succ]
            refine take0 (v := ?v186) (oi := ?o186) 5 ?hi186 (by kernel_rfl) (by kernel_rfl) (by kernel_rfl) ?hq186 ?hy186 ?_
            case hi186 => (simp only [List.getElem?_toArray, List.getElem?_cons_zero, List.getElem?_cons_succ]; rfl)
            case hq186 => exact fun _ _ _ h => h
            case hy186 => first | (refine ry_not ?_; rfl) | (refine ry_run (by rfl) (fun w' hw' => ?_); go_simp; try rfl)
            simp only [Act.put, List.setIfInBounds_toArray, List.set_cons_zero, List.set_cons_succ]
            refine take0 (v := ?v187) (oi := ?o187) 6 ?hi187 (by kernel_rfl) (by kernel_rfl) (by kernel_rfl) ?hq187 ?hy187 ?_
            case hi187 => (simp only [List.getElem?_toArray, List.getElem?_cons_zero, List.getElem?_cons_succ]; rfl)
            case hq187 => exact fun _ _ _ h => h
            case hy187 => first | (refine ry_not ?_; rfl) | (refine ry_run (by rfl) (fun w' hw' => ?_); go_simp; try rfl)
            simp only [Act.put, List.setIfInBounds_toArray, List.set_cons_zero, List.set_cons_succ]
            refine take0 (v := ?v188) (oi := ?o188) 7 ?hi188 (by kernel_rfl) (by kernel_rfl) (by kernel_rfl) ?hq188 ?hy188 ?_
            case hi188 => (simp only [List.getElem?_toArray, List.getElem?_cons_zero, List.getElem?_cons_succ]; rfl)
            case hq188 => exact fun _ _ _ h => h
            case hy188 => first | (refine ry_not ?_; rfl) | (refine ry_run (by rfl) (fun w' hw' => ?_); go_simp; try rfl)
            simp only [Act.put, List.setIfInBounds_toArray, List.set_cons_zero, List.set_cons_succ]
            refine take0 (v := ?v189) (oi := ?o189) 8 ?hi189 (by kernel_rfl) (by kernel_rfl) (by kernel_rfl) ?hq189 ?hy189 ?_
            case hi189 => (simp only [List.getElem?_toArray, List.getElem?_cons_zero, List.getElem?_cons_succ]; rfl)
            case hq189 => exact fun _ _ _ h => h
            case hy189 => first | (refine ry_not ?_; rfl) | (refine ry_run (by rfl) (fun w' hw' => ?_); go_simp; try rfl)
            simp only [Act.put, List.setIfInBounds_toArray, List.set_cons_zero, List.set_cons_succ]
            refine take0 (v := ?v190) (oi := ?o190) 9 ?hi190 (by kernel_rfl) (by kernel_rfl) (by kernel_rfl) ?hq190 ?hy190 ?_
            case hi190 => (simp only [List.getElem?_toArray, List.getElem?_cons_zero, List.getElem?_cons_succ]; rfl)
            case hq190 => exact fun _ _ _ h => h
            case hy190 => first | (refine ry_not ?_; rfl) | (refine ry_run (by rfl) (fun w' hw' => ?_); go_simp; try rfl)
            simp only [Act.put, List.setIfInBounds_toArray, List.set_cons_zero, List.set_cons_succ]
            refine take0 (v := ?v191) (oi := ?o191) 10 ?hi191 (by kernel_rfl) (by kernel_rfl) (by kernel_rfl) ?hq191 ?hy191 ?_
            case hi191 => (simp only [List.getElem?_toArray, List.getElem?_cons_zero, List.getElem?_cons_succ]; rfl)
            case hq191 => exact fun _ _ _ h => h
            case hy191 => first | (refine ry_not ?_; rfl) | (refine ry_run (by rfl) (fun w' hw' => ?_); go_simp; try rfl)
            simp only [Act.put, List.setIfInBounds_toArray, List.set_cons_zero, List.set_cons_succ]
            refine take0 (v := ?v192) (oi := ?o192) 11 ?hi192 (by kernel_rfl) (by kernel_rfl) (by kernel_rfl) ?hq192 ?hy192 ?_
            case hi192 => (simp only [List.getElem?_toArray, List.getElem?_cons_zero, List.getElem?_cons_succ]; rfl)
            case hq192 => exact fun _ _ _ h => h
            case hy192 => first | (refine ry_not ?_; rfl) | (refine ry_run (by rfl) (fun w' hw' => ?_); go_simp; try rfl)
            simp only [Act.put, List.setIfInBounds_toArray, List.set_cons_zero, List.set_cons_succ]
            refine take0 (v := ?v193) (oi := ?o193) 12 ?hi193 (by kernel_rfl) (by kernel_rfl) (by kernel_rfl) ?hq193 ?hy193 ?_
            case hi193 => (simp only [List.getElem?_toArray, List.getElem?_cons_zero, List.getElem?_cons_succ]; rfl)
            case hq193 => exact fun _ _ _ h => h
            case hy193 => first | (refine ry_not ?_; rfl) | (refine ry_run (by rfl) (fun w' hw' => ?_); go_simp; try rfl)
            simp only [Act.put, List.setIfInBounds_toArray, List.set_cons_zero, List.set_cons_succ]
            refine take0 (v := ?v194) (oi := ?o194) 13 ?hi194 (by kernel_rfl) (by kernel_rfl) (by kernel_rfl) ?hq194 ?hy194 ?_
            case hi194 => (simp only [List.getElem?_toArray, List.getElem?_cons_zero, List.getElem?_cons_succ]; rfl)
            case hq194 => exact fun _ _ _ h => h
            case hy194 => first | (refine ry_not ?_; rfl) | (refine ry_run (by rfl) (fun w' hw' => ?_); go_simp; try rfl)
            simp only [Act.put, List.setIfInBounds_toArray, List.set_cons_zero, List.set_cons_succ]
            refine take0 (v := ?v195) (oi := ?o195) 14 ?hi195 (by kernel_rfl) (by kernel_rfl) (by kernel_rfl) ?hq195 ?hy195 ?_
            case hi195 => (simp only [List.getElem?_toArray, List.getElem?_cons_zero, List.getElem?_cons_succ]; rfl)
            case hq195 => exact fun _ _ _ h => h
            case hy195 => first | (refine ry_not ?_; rfl) | (refine ry_run (by rfl) (fun w' hw' => ?_); go_simp; try rfl)
            simp only [Act.put, List.setIfInBounds_toArray, List.set_cons_zero, List.set_cons_succ]
            refine take0 (v := ?v196) (oi := ?o196) 15 ?hi196 (by kernel_rfl) (by kernel_rfl) (by kernel_rfl) ?hq196 ?hy196 ?_
            case hi196 => (simp only [List.getElem?_toArray, List.getElem?_cons_zero, List.getElem?_cons_succ]; rfl)
            case hq196 => exact fun _ _ _ h => h
            case hy196 => first | (refine ry_not ?_; rfl) | (refine ry_run (by rfl) (fun w' hw' => ?_); go_simp; try rfl)
            simp only [Act.put, List.setIfInBounds_toArray, List.set_cons_zero, List.set_cons_succ]
            refine take0 (v := ?v197) (oi := ?o197) 16 ?hi197 (by kernel_rfl) (by kernel_rfl) (by kernel_rfl) ?hq197 ?hy197 ?_
            case hi197 => (simp only [List.getElem?_toArray, List.getElem?_cons_zero, List.getElem?_cons_succ]; rfl)
            case hq197 => exact fun _ _ _ h => h
            case hy197 => first | (refine ry_not ?_; rfl) | (refine ry_run (by rfl) (fun w' hw' => ?_); go_simp; try rfl)
            simp only [Act.put, List.setIfInBounds_toArray, List.set_cons_zero, List.set_cons_succ]
            refine take0 (v := ?v198) (oi := ?o198) 17 ?hi198 (by kernel_rfl) (by kernel_rfl) (by kernel_rfl) ?hq198 ?hy198 ?_
            case hi198 => (simp only [List.getElem?_toArray, List.getElem?_cons_zero, List.getElem?_cons_succ]; rfl)
            case hq198 => exact fun _ _ _ h => h
            case hy198 => first | (refine ry_not ?_; rfl) | (refine ry_run (by rfl) (fun w' hw' => ?_); go_simp; try rfl)
            simp only [Act.put, List.setIfInBounds_toArray, List.set_cons_zero, List.set_cons_succ]
            refine take0 (v := ?v199) (oi := ?o199) 18 ?hi199 (by kernel_rfl) (by kernel_rfl) (by kernel_rfl) ?hq199 ?hy199 ?_
            case hi199 => (simp only [List.getElem?_toArray, List.getElem?_cons_zero, List.getElem?_cons_succ]; rfl)
            case hq199 => exact fun _ _ _ h => h
            case hy199 => first | (refine ry_not ?_; rfl) | (refine ry_run (by rfl) (fun w' hw' => ?_); go_simp; try rfl)
            simp only [Act.put, List.setIfInBounds_toArray, List.set_cons_zero, List.set_cons_succ]
            refine take0 (v := ?v200) (oi := ?o200) 19 ?hi200 (by kernel_rfl) (by kernel_rfl) (by kernel_rfl) ?hq200 ?hy200 ?_
            case hi200 => (simp only [List.getElem?_toArray, List.getElem?_cons_zero, List.getElem?_cons_succ]; rfl)
            case hq200 => exact fun _ _ _ h => h
            case hy200 => first | (refine ry_not ?_; rfl) | (refine ry_run (by rfl) (fun w' hw' => ?_); go_simp; try rfl)
            simp only [Act.put, List.setIfInBounds_toArray, List.set_cons_zero, List.set_cons_succ]
            refine take0 (v := ?v201) (oi := ?o201) 20 ?hi201 (by kernel_rfl) (by kernel_rfl) (by kernel_rfl) ?hq201 ?hy201 ?_
            case hi201 => (simp only [List.getElem?_toArray, List.getElem?_cons_zero, List.getElem?_cons_succ]; rfl)
            case hq201 => exact fun _ _ _ h => h
            case hy201 => first | (refine ry_not ?_; rfl) | (refine ry_run (by rfl) (fun w' hw' => ?_); go_simp; try rfl)
            simp only [Act.put, List.setIfInBounds_toArray, List.set_cons_zero, List.set_cons_succ]
            refine take0 (v := ?v202) (oi := ?o202) 21 ?hi202 (by kernel_rfl) (by kernel_rfl) (by kernel_rfl) ?hq202 ?hy202 ?_
            case hi202 => (simp only [List.getElem?_toArray, List.getElem?_cons_zero, List.getElem?_cons_succ]; rfl)
            case hq202 => exact fun _ _ _ h => h
            case hy202 => first | (refine ry_not ?_; rfl) | (refine ry_run (by rfl) (fun w' hw' => ?_); go_simp; try rfl)
            simp only [Act.put, List.setIfInBounds_toArray, List.set_cons_zero, List.set_cons_succ]
            refine take0 (v := ?v203) (oi := ?o203) 22 ?hi203 (by kernel_rfl) (by kernel_rfl) (by kernel_rfl) ?hq203 ?hy203 ?_
            case hi203 => (simp only [List.getElem?_toArray, List.getElem?_cons_zero, List.getElem?_cons_succ]; rfl)
            case hq203 => exact fun _ _ _ h => h
            case hy203 => first | (refine ry_not ?_; rfl) | (refine ry_run (by rfl) (fun w' hw' => ?_); go_simp; try rfl)
            simp only [Act.put, List.setIfInBounds_toArray, List.set_cons_zero, List.set_cons_succ]
            refine take0 (v := ?v204) (oi := ?o204) 23 ?hi204 (by kernel_rfl) (by kernel_rfl) (by kernel_rfl) ?hq204 ?hy204 ?_
            case hi204 => (simp only [List.getElem?_toArray, List.getElem?_cons_zero, List.getElem?_cons_succ]; rfl)
            case hq204 => exact fun _ _ _ h => h
            case hy204 => first | (refine ry_not ?_; rfl) | (refine ry_run (by rfl) (fun w' hw' => ?_); go_simp; try rfl)
            simp only [Act.put, List.setIfInBounds_toArray, List.set_cons_zero, List.set_cons_succ]
            refine take0 (v := ?v205) (oi := ?o205) 24 ?hi205 (by kernel_rfl) (by kernel_rfl) (by kernel_rfl) ?hq205 ?hy205 ?_
            case hi205 => (simp only [List.getElem?_toArray, List.getElem?_cons_zero, List.getElem?_cons_succ]; rfl)
            case hq205 => exact fun _ _ _ h => h
            case hy205 => first | (refine ry_not ?_; rfl) | (refine ry_run (by rfl) (fun w' hw' => ?_); go_simp; try rfl)
            simp only [Act.put, List.setIfInBounds_toArray, List.set_cons_zero, List.set_cons_succ]
            refine take0 (v := ?v206) (oi := ?o206) 25 ?hi206 (by kernel_rfl) (by kernel_rfl) (by kernel_rfl) ?hq206 ?hy206 ?_
            case hi206 => (simp only [List.getElem?_toArray, List.getElem?_cons_zero, List.getElem?_cons_succ]; rfl)
            case hq206 => exact fun _ _ _ h => h
            case hy206 => first | (refine ry_not ?_; rfl) | (refine ry_run (by rfl) (fun w' hw' => ?_); go_simp; try rfl)
            simp only [Act.put, List.setIfInBounds_toArray, List.set_cons_zero, List.set_cons_succ]
            refine take0 (v := ?v207) (oi := ?o207) 26 ?hi207 (by kernel_rfl) (by kernel_rfl) (by kernel_rfl) ?hq207 ?hy207 ?_
            case hi207 => (simp only [List.getElem?_toArray, List.getElem?_cons_zero, List.getElem?_cons_succ]; rfl)
            case hq207 => exact fun _ _ _ h => h
            case hy207 => first | (refine ry_not ?_; rfl) | (refine ry_run (by rfl) (fun w' hw' => ?_); go_simp; try rfl)
            simp only [Act.put, List.setIfInBounds_toArray, List.set_cons_zero, List.set_cons_succ]
            refine take0 (v := ?v208) (oi := ?o208) 27 ?hi208 (by kernel_rfl) (by kernel_rfl) (by kernel_rfl) ?hq208 ?hy208 ?_
            case hi208 => (simp only [List.getElem?_toArray, List.getElem?_cons_zero, List.getElem?_cons_succ]; rfl)
            case hq208 => exact fun _ _ _ h => h
            case hy208 => first | (refine ry_not ?_; rfl) | (refine ry_run (by rfl) (fun w' hw' => ?_); go_simp; try rfl)
            simp only [Act.put, List.setIfInBounds_toArray, List.set_cons_zero, List.set_cons_succ]
            refine take0 (v := ?v209) (oi := ?o209) 28 ?hi209 (by kernel_rfl) (by kernel_rfl) (by kernel_rfl) ?hq209 ?hy209 ?_
            case hi209 => (simp only [List.getElem?_toArray, List.getElem?_cons_zero, List.getElem?_cons_succ]; rfl)
            case hq209 => exact fun _ _ _ h => h
            case hy209 => first | (refine ry_not ?_; rfl) | (refine ry_run (by rfl) (fun w' hw' => ?_); go_simp; try rfl)
            simp only [Act.put, List.setIfInBounds_toArray, List.set_cons_zero, List.set_cons_succ]
            refine take0 (v := ?v210) (oi := ?o210) 29 ?hi210 (by kernel_rfl) (by kernel_rfl) (by kernel_rfl) ?hq210 ?hy210 ?_
            case hi210 => (simp only [List.getElem?_toArray, List.getElem?_cons_zero, List.getElem?_cons_succ]; rfl)
            case hq210 => exact fun _ _ _ h => h
            case hy210 => first | (refine ry_not ?_; rfl) | (refine ry_run (by rfl) (fun w' hw' => ?_); go_simp; try rfl)
            simp only [Act.put, List.setIfInBounds_toArray, List.set_cons_zero, List.set_cons_succ]
            refine take0 (v := ?v211) (oi := ?o211) 30 ?hi211 (by kernel_rfl) (by kernel_rfl) (by kernel_rfl) ?hq211 ?hy211 ?_
            case hi211 => (simp only [List.getElem?_toArray, List.getElem?_cons_zero, List.getElem?_cons_succ]; rfl)
            case hq211 => exact fun _ _ _ h => h
            case hy211 => first | (refine ry_not ?_; rfl) | (refine ry_run (by rfl) (fun w' hw' => ?_); go_simp; try rfl)
            simp only [Act.put, List.setIfInBounds_toArray, List.set_cons_zero, List.set_cons_succ]
            refine take0 (v := ?v212) (oi := ?o212) 31 ?hi212 (by kernel_rfl) (by kernel_rfl) (by kernel_rfl) ?hq212 ?hy212 ?_
            case hi212 => (simp only [List.getElem?_toArray, List.getElem?_cons_zero, List.getElem?_cons_succ]; rfl)
            case hq212 => exact fun _ _ _ h => h
            case hy212 => first | (refine ry_not ?_; rfl) | (refine ry_run (by rfl) (fun w' hw' => ?_); go_simp; try rfl)
            simp only [Act.put, List.setIfInBounds_toArray, List.set_cons_zero, List.set_cons_succ]
            refine wpAnyM_done (by kernel_rfl) ?_
            have hbR := HBRd.out
            have hmE := (((Mod.refl (fun g => g = w.heap.size + 1) wr.drew).set1 rfl 0 (.slice none 0 0)).set1 rfl 1 (.int .i64 (0))).set1 rfl 2 (.slice none 0 0)
            have hb2 := ((hbR.set 0 (.slice none 0 0)).set 1 (.int .i64 (0))).set 2 (.slice none 0 0)
            have z0 := hb2.cell (o := 0) rfl
            have z1 := hb2.cell (o := 1) rfl
            have z2 := hb2.cell (o := 2) rfl
            have hbY := HBRy.out
            have y0z := (hbY.set 0 (.slice none 0 0)).cell (o := 0) rfl
            have y1z := ((hbY.set 0 (.slice none 0 0)).set 1 (.int .i64 (0))).cell (o := 1) rfl
            have y2z := (((hbY.set 0 (.slice none 0 0)).set 1 (.int .i64 (0))).set 2 (.slice none 0 0)).cell (o := 2) rfl
            have f0 := hbY.frozen 0
            have f1 := hbY.frozen 1
            have f2 := hbY.frozen 2
            have c0 := hbY.cell (o := 0) rfl
            have c1 := hbY.cell (o := 1) rfl
            have c2 := hbY.cell (o := 2) rfl
            have HME := Lib.hid (Mod.trans HMd.out hmE (fun i hi e => by omega))
            have HMEE := Lib.hid hmE
            clear hbY hbR hmE hb2
            go_wp2_with fail
            skip
            refine bodyPost_ret (v := .tuple #[.agg #[.slice none 0 0, .int .i64 (0), .slice none 0 0], .int .i64 122]) (by simp [results, Tryd.results44, go_sem, z0, z1, z2, y0z, y1z, y2z]) rfl ⟨_, _, rfl, World.ownsRow_nil _ _ _ _, World.ownsRow_nil _ _ _ _, HME.out⟩
          | true =>
            obtain rfl : E = 0 := HE.out.symm
            by_cases hl1 : level < 0
            · have d0 : decide (0 ≤ level) = false := decide_eq_false (by omega)
              have d1 : ¬ 0 ≤ level := by omega
              rw [if_pos ⟨rfl, .inl hl1⟩] at hn
              subst hn
              clear HCK6 HMR HBF2
              go_wp2_with fail
              refine region_m (by kernel_rfl) ?_
              simp only [List.length_cons, List.length_nil, List.replicate]
              refine take0 (v := ?v213) (oi := ?o213) 0 ?hi213 (by kernel_rfl) (by kernel_rfl) (by kernel_rfl) ?hq213 ?hy213 ?_
              case hi213 => (simp only [List.getElem?_toArray, List.getElem?_cons_zero, List.getElem?_cons_succ]; rfl)
              case hq213 => exact fun _ _ _ h => h
              case hy213 => first | (refine ry_not ?_; rfl) | (refine ry_run (by rfl) (fun w' hw' => ?_); go_simp; try rfl)
              simp only [Act.put, List.setIfInBounds_toArray, List.set_cons_zero, List.set_cons_succ]
              refine take0 (v := ?v214) (oi := ?o214) 1 ?hi214 (by kernel_rfl) (by kernel_rfl) (by kernel_rfl) ?hq214 ?hy214 ?_
              case hi214 => (simp only [List.getElem?_toArray, List.getElem?_cons_zero, List.getElem?_cons_succ]; rfl)
              case hq214 => exact fun _ _ _ h => h
              case hy214 => first | (refine ry_not ?_; rfl) | (refine ry_run (by rfl) (fun w' hw' => ?_); go_simp; try rfl)
              simp only [Act.put, List.setIfInBounds_toArray, List.set_cons_zero, List.set_cons_succ]
              refine take0 (v := ?v215) (oi := ?o215) 2 ?hi215 (by kernel_rfl) (by kernel_rfl) (by kernel_rfl) ?hq215 ?hy215 ?_
              case hi215 => (simp only [List.getElem?_toArray, List.getElem?_cons_zero, List.getElem?_cons_succ]; rfl)
              case hq215 => exact fun _ _ _ h => h
              case hy215 => first | (refine ry_not ?_; rfl) | (refine ry_run (by rfl) (fun w' hw' => ?_); go_simp; try rfl)
              simp only [Act.put, List.setIfInBounds_toArray, List.set_cons_zero, List.set_cons_succ]
              refine take0 (v := ?v216) (oi := ?o216) 3 ?hi216 (by kernel_rfl) (by kernel_rfl) (by kernel_rfl) ?hq216 ?hy216 ?_
              case hi216 => (simp only [List.getElem?_toArray, List.getElem?_cons_zero, List.getElem?_cons_succ]; rfl)
              case hq216 => exact fun _ _ _ h => h
              case hy216 => first | (refine ry_not ?_; rfl) | (refine ry_run (by rfl) (fun w' hw' => ?_); go_simp; try rfl)
              simp only [Act.put, List.setIfInBounds_toArray, List.set_cons_zero, List.set_cons_succ]
              refine take0 (v := ?v217) (oi := ?o217) 4 ?hi217 (by kernel_rfl) (by kernel_rfl) (by kernel_rfl) ?hq217 ?hy217 ?_
              case hi217 => (simp only [List.getElem?_toArray, List.getElem?_cons_zero, List.getElem?_cons_succ]; rfl)
              case hq217 => exact fun _ _ _ h => h
              case hy217 => first | (refine ry_not ?_; rfl) | (refine ry_run (by rfl) (fun w' hw' => ?_); go_simp; try rfl)
              simp only [Act.put, List.setIfInBounds_toArray, List.set_cons_zero, List.set_cons_succ]
              refine take0 (v := ?v218) (oi := ?o218) 5 ?hi218 (by kernel_rfl) (by kernel_rfl) (by kernel_rfl) ?hq218 ?hy218 ?_
              case hi218 => (simp only [List.getElem?_toArray, List.getElem?_cons_zero, List.getElem?_cons_succ]; rfl)
              case hq218 => exact fun _ _ _ h => h
              case hy218 => first | (refine ry_not ?_; rfl) | (refine ry_run (by rfl) (fun w' hw' => ?_); go_simp; try rfl)
              simp only [Act.put, List.setIfInBounds_toArray, List.set_cons_zero, List.set_cons_succ]
              refine take0 (v := ?v219) (oi := ?o219) 6 ?hi219 (by kernel_rfl) (by kernel_rfl) (by kernel_rfl) ?hq219 ?hy219 ?_
              case hi219 => (simp only [List.getElem?_toArray, List.getElem?_cons_zero, List.getElem?_cons_succ]; rfl)
              case hq219 => exact fun _ _ _ h => h
              case hy219 => first | (refine ry_not ?_; rfl) | (refine ry_run (by rfl) (fun w' hw' => ?_); go_simp; try rfl)
              simp only [Act.put, List.setIfInBounds_toArray, List.set_cons_zero, List.set_cons_succ]
              refine take0 (v := ?v220) (oi := ?o220) 7 ?hi220 (by kernel_rfl) (by kernel_rfl) (by kernel_rfl) ?hq220 ?hy220 ?_
              case hi220 => (simp only [List.getElem?_toArray, List.getElem?_cons_zero, List.getElem?_cons_succ]; rfl)
              case hq220 => exact fun _ _ _ h => h
              case hy220 => first | (refine ry_not ?_; rfl) | (refine ry_run (by rfl) (fun w' hw' => ?_); go_simp; try rfl)
              simp only [Act.put, List.setIfInBounds_toArray, List.set_cons_zero, List.set_cons_succ]
              refine take0 (v := ?v221) (oi := ?o221) 8 ?hi221 (by kernel_rfl) (by kernel_rfl) (by kernel_rfl) ?hq221 ?hy221 ?_
              case hi221 => (simp only [List.getElem?_toArray, List.getElem?_cons_zero, List.getElem?_cons_succ]; rfl)
              case hq221 => exact fun _ _ _ h => h
              case hy221 => first | (refine ry_not ?_; rfl) | (refine ry_run (by rfl) (fun w' hw' => ?_); go_simp; try rfl)
              simp only [Act.put, List.setIfInBounds_toArray, List.set_cons_zero, List.set_cons_succ]
              refine take0 (v := ?v222) (oi := ?o222) 9 ?hi222 (by kernel_rfl) (by kernel_rfl) (by kernel_rfl) ?hq222 ?hy222 ?_
              case hi222 => (simp only [List.getElem?_toArray, List.getElem?_cons_zero, List.getElem?_cons_succ]; rfl)
              case hq222 => exact fun _ _ _ h => h
              case hy222 => first | (refine ry_not ?_; rfl) | (refine ry_run (by rfl) (fun w' hw' => ?_); go_simp; try rfl)
              simp only [Act.put, List.setIfInBounds_toArray, List.set_cons_zero, List.set_cons_succ]
              refine take0 (v := ?v223) (oi := ?o223) 10 ?hi223 (by kernel_rfl) (by kernel_rfl) (by kernel_rfl) ?hq223 ?hy223 ?_
              case hi223 => (simp only [List.getElem?_toArray, List.getElem?_cons_zero, List.getElem?_cons_succ]; rfl)
              case hq223 => exact fun _ _ _ h => h
              case hy223 => first | (refine ry_not ?_; rfl) | (refine ry_run (by rfl) (fun w' hw' => ?_); go_simp; try rfl)
              simp only [Act.put, List.setIfInBounds_toArray, List.set_cons_zero, List.set_cons_succ]
              refine take0 (v := ?v224) (oi := ?o224) 11 ?hi224 (by kernel_rfl) (by kernel_rfl) (by kernel_rfl) ?hq224 ?hy224 ?_
              case hi224 => (simp only [List.getElem?_toArray, List.getElem?_cons_zero, List.getElem?_cons_succ]; rfl)
              case hq224 => exact fun _ _ _ h => h
              case hy224 => first | (refine ry_not ?_; rfl) | (refine ry_run (by rfl) (fun w' hw' => ?_); go_simp; try rfl)
              simp only [Act.put, List.setIfInBounds_toArray, List.set_cons_zero, List.set_cons_succ]
              refine take0 (v := ?v225) (oi := ?o225) 12 ?hi225 (by kernel_rfl) (by kernel_rfl) (by kernel_rfl) ?hq225 ?hy225 ?_
              case hi225 => (simp only [List.getElem?_toArray, List.getElem?_cons_zero, List.getElem?_cons_succ]; rfl)
              case hq225 => exact fun _ _ _ h => h
              case hy225 => first | (refine ry_not ?_; rfl) | (refine ry_run (by rfl) (fun w' hw' => ?_); go_simp; try rfl)
              simp only [Act.put, List.setIfInBounds_toArray, List.set_cons_zero, List.set_cons_succ]
              refine take0 (v := ?v226) (oi := ?o226) 13 ?hi226 (by kernel_rfl) (by kernel_rfl) (by kernel_rfl) ?hq226 ?hy226 ?_
              case hi226 => (simp only [List.getElem?_toArray, List.getElem?_cons_zero, List.getElem?_cons_succ]; rfl)
              case hq226 => exact fun _ _ _ h => h
              case hy226 => first | (refine ry_not ?_; rfl) | (refine ry_run (by rfl) (fun w' hw' => ?_); go_simp; try rfl)
              simp only [Act.put, List.setIfInBounds_toArray, List.set_cons_zero, List.set_cons_succ]
              refine take0 (v := ?v227) (oi := ?o227) 14 ?hi227 (by kernel_rfl) (by kernel_rfl) (by kernel_rfl) ?hq227 ?hy227 ?_
              case hi227 => (simp only [List.getElem?_toArray, List.getElem?_cons_zero, List.getElem?_cons_succ]; rfl)
              case hq227 => exact fun _ _ _ h => h
              case hy227 => first | (refine ry_not ?_; rfl) | (refine ry_run (by rfl) (fun w' hw' => ?_); go_simp; try rfl)
              simp only [Act.put, List.setIfInBounds_toArray, List.set_cons_zero, List.set_cons_succ]
              refine take0 (v := ?v228) (oi := ?o228) 15 ?hi228 (by kernel_rfl) (by kernel_rfl) (by kernel_rfl) ?hq228 ?hy228 ?_
              case hi228 => (simp only [List.getElem?_toArray, List.getElem?_cons_zero, List.getElem?_cons_succ]; rfl)
              case hq228 => exact fun _ _ _ h => h
              case hy228 => first | (refine ry_not ?_; rfl) | (refine ry_run (by rfl) (fun w' hw' => ?_); go_simp; try rfl)
              simp only [Act.put, List.setIfInBounds_toArray, List.set_cons_zero, List.set_cons_succ]
              refine take0 (v := ?v229) (oi := ?o229) 16 ?hi229 (by kernel_rfl) (by kernel_rfl) (by kernel_rfl) ?hq229 ?hy229 ?_
              case hi229 => (simp only [List.getElem?_toArray, List.getElem?_cons_zero, List.getElem?_cons_succ]; rfl)
              case hq229 => exact fun _ _ _ h => h
              case hy229 => first | (refine ry_not ?_; rfl) | (refine ry_run (by rfl) (fun w' hw' => ?_); go_simp; try rfl)
              simp only [Act.put, List.setIfInBounds_toArray, List.set_cons_zero, List.set_cons_succ]
              refine take0 (v := ?v230) (oi := ?o230) 17 ?hi230 (by kernel_rfl) (by kernel_rfl) (by kernel_rfl) ?hq230 ?hy230 ?_
              case hi230 => (simp only [List.getElem?_toArray, List.getElem?_cons_zero, List.getElem?_cons_succ]; rfl)
              case hq230 => exact fun _ _ _ h => h
              case hy230 => first | (refine ry_not ?_; rfl) | (refine ry_run (by rfl) (fun w' hw' => ?_); go_simp; try rfl)
              simp only [Act.put, List.setIfInBounds_toArray, List.set_cons_zero, List.set_cons_succ]
              refine take0 (v := ?v231) (oi := ?o231) 18 ?hi231 (by kernel_rfl) (by kernel_rfl) (by kernel_rfl) ?hq231 ?hy231 ?_
              case hi231 => (simp only [List.getElem?_toArray, List.getElem?_cons_zero, List.getElem?_cons_succ]; rfl)
              case hq231 => exact fun _ _ _ h => h
              case hy231 => first | (refine ry_not ?_; rfl) | (refine ry_run (by rfl) (fun w' hw' => ?_); go_simp; try rfl)
              simp only [Act.put, List.setIfInBounds_toArray, List.set_cons_zero, List.set_cons_succ]
              refine take0 (v := ?v232) (oi := ?o232) 19 ?hi232 (by kernel_rfl) (by kernel_rfl) (by kernel_rfl) ?hq232 ?hy232 ?_
              case hi232 => (simp only [List.getElem?_toArray, List.getElem?_cons_zero, List.getElem?_cons_succ]; rfl)
              case hq232 => exact fun _ _ _ h => h
              case hy232 => first | (refine ry_not ?_; rfl) | (refine ry_run (by rfl) (fun w' hw' => ?_); go_simp; try rfl)
              simp only [Act.put, List.setIfInBounds_toArray, List.set_cons_zero, List.set_cons_succ]
              refine take0 (v := ?v233) (oi := ?o233) 20 ?hi233 (by kernel_rfl) (by kernel_rfl) (by kernel_rfl) ?hq233 ?hy233 ?_
              case hi233 => (simp only [List.getElem?_toArray, List.getElem?_cons_zero, List.getElem?_cons_succ]; rfl)
              case hq233 => exact fun _ _ _ h => h
              case hy233 => first | (refine ry_not ?_; rfl) | (refine ry_run (by rfl) (fun w' hw' => ?_); go_simp; try rfl)
              simp only [Act.put, List.setIfInBounds_toArray, List.set_cons_zero, List.set_cons_succ]
              refine take0 (v := ?v234) (oi := ?o234) 21 ?hi234 (by kernel_rfl) (by kernel_rfl) (by kernel_rfl) ?hq234 ?hy234 ?_
              case hi234 => (simp only [List.getElem?_toArray, List.getElem?_cons_zero, List.getElem?_cons_succ]; rfl)
              case hq234 => exact fun _ _ _ h => h
              case hy234 => first | (refine ry_not ?_; rfl) | (refine ry_run (by rfl) (fun w' hw' => ?_); go_simp; try rfl)
              simp only [Act.put, List.setIfInBounds_toArray, List.set_cons_zero, List.set_cons_succ]
              refine take0 (v := ?v235) (oi := ?o235) 22 ?hi235 (by kernel_rfl) (by kernel_rfl) (by kernel_rfl) ?hq235 ?hy235 ?_
              case hi235 => (simp only [List.getElem?_toArray, List.getElem?_cons_zero, List.getElem?_cons_succ]; rfl)
              case hq235 => exact fun _ _ _ h => h
              case hy235 => first | (refine ry_not ?_; rfl) | (refine ry_run (by rfl) (fun w' hw' => ?_); go_simp; try rfl)
              simp only [Act.put, List.setIfInBounds_toArray, List.set_cons_zero, List.set_cons_succ]
              refine take0 (v := ?v236) (oi := ?o236) 23 ?hi236 (by kernel_rfl) (by kernel_rfl) (by kernel_rfl) ?hq236 ?hy236 ?_
              case hi236 => (simp only [List.getElem?_toArray, List.getElem?_cons_zero, List.getElem?_cons_succ]; rfl)
              case hq236 => exact fun _ _ _ h => h
              case hy236 => first | (refine ry_not ?_; rfl) | (refine ry_run (by rfl) (fun w' hw' => ?_); go_simp; try rfl)
              simp only [Act.put, List.setIfInBounds_toArray, List.set_cons_zero, List.set_cons_succ]
              refine take0 (v := ?v237) (oi := ?o237) 24 ?hi237 (by kernel_rfl) (by kernel_rfl) (by kernel_rfl) ?hq237 ?hy237 ?_
              case hi237 => (simp only [List.getElem?_toArray, List.getElem?_cons_zero, List.getElem?_cons_succ]; rfl)
              case hq237 => exact fun _ _ _ h => h
              case hy237 => first | (refine ry_not ?_; rfl) | (refine ry_run (by rfl) (fun w' hw' => ?_); go_simp; try rfl)
              simp only [Act.put, List.setIfInBounds_toArray, List.set_cons_zero, List.set_cons_succ]
              refine take0 (v := ?v238) (oi := ?o238) 25 ?hi238 (by kernel_rfl) (by kernel_rfl) (by kernel_rfl) ?hq238 ?hy238 ?_
              case hi238 => (simp only [List.getElem?_toArray, List.getElem?_cons_zero, List.getElem?_cons_succ]; rfl)
              case hq238 => exact fun _ _ _ h => h
              case hy238 => first | (refine ry_not ?_; rfl) | (refine ry_run (by rfl) (fun w' hw' => ?_); go_simp; try rfl)
              simp only [Act.put, List.setIfInBounds_toArray, List.set_cons_zero, List.set_cons_succ]
              refine take0 (v := ?v239) (oi := ?o239) 26 ?hi239 (by kernel_rfl) (by kernel_rfl) (by kernel_rfl) ?hq239 ?hy239 ?_
              case hi239 => (simp only [List.getElem?_toArray, List.getElem?_cons_zero, List.getElem?_cons_succ]; rfl)
              case hq239 => exact fun _ _ _ h => h
              case hy239 => first | (refine ry_not ?_; rfl) | (refine ry_run (by rfl) (fun w' hw' => ?_); go_simp; try rfl)
              simp only [Act.put, List.setIfInBounds_toArray, List.set_cons_zero, List.set_cons_succ]
              refine take0 (v := ?v240) (oi := ?o240) 27 ?hi240 (by kernel_rfl) (by kernel_rfl) (by kernel_rfl) ?hq240 ?hy240 ?_
              case hi240 => (simp only [List.getElem?_toArray, List.getElem?_cons_zero, List.getElem?_cons_succ]; rfl)
              case hq240 => exact fun _ _ _ h => h
              case hy240 => first | (refine ry_not ?_; rfl) | (refine ry_run (by rfl) (fun w' hw' => ?_); go_simp; try rfl)
              simp only [Act.put, List.setIfInBounds_toArray, List.set_cons_zero, List.set_cons_succ]
              refine take0 (v := ?v241) (oi := ?o241) 28 ?hi241 (by kernel_rfl) (by kernel_rfl) (by kernel_rfl) ?hq241 ?hy241 ?_
              case hi241 => (simp only [List.getElem?_toArray, List.getElem?_cons_zero, List.getElem?_cons_succ]; rfl)
              case hq241 => exact fun _ _ _ h => h
              case hy241 => first | (refine ry_not ?_; rfl) | (refine ry_run (by rfl) (fun w' hw' => ?_); go_simp; try rfl)
              simp only [Act.put, List.setIfInBounds_toArray, List.set_cons_zero, List.set_cons_succ]
              refine take0 (v := ?v242) (oi := ?o242) 29 ?hi242 (by kernel_rfl) (by kernel_rfl) (by kernel_rfl) ?hq242 ?hy242 ?_
              case hi242 => (simp only [List.getElem?_toArray, List.getElem?_cons_zero, List.getElem?_cons_succ]; rfl)
              case hq242 => exact fun _ _ _ h => h
              case hy242 => first | (refine ry_not ?_; rfl) | (refine ry_run (by rfl) (fun w' hw' => ?_); go_simp; try rfl)
              simp only [Act.put, List.setIfInBounds_toArray, List.set_cons_zero, List.set_cons_succ]
              refine take0 (v := ?v243) (oi := ?o243) 30 ?hi243 (by kernel_rfl) (by kernel_rfl) (by kernel_rfl) ?hq243 ?hy243 ?_
              case hi243 => (simp only [List.getElem?_toArray, List.getElem?_cons_zero, List.getElem?_cons_succ]; rfl)
              case hq243 => exact fun _ _ _ h => h
              case hy243 => first | (refine ry_not ?_; rfl) | (refine ry_run (by rfl) (fun w' hw' => ?_); go_simp; try rfl)
              simp only [Act.put, List.setIfInBounds_toArray, List.set_cons_zero, List.set_cons_succ]
              refine take0 (v := ?v244) (oi := ?o244) 31 ?hi244 (by kernel_rfl) (by kernel_rfl) (by kernel_rfl) ?hq244 ?hy244 ?_
              case hi244 => (simp only [List.getElem?_toArray, List.getElem?_cons_zero, List.getElem?_cons_succ]; rfl)
              case hq244 => exact fun _ _ _ h => h
              case hy244 => first | (refine ry_not ?_; rfl) | (refine ry_run (by rfl) (fun w' hw' => ?_); go_simp; try rfl)
              simp only [Act.put, List.setIfInBounds_toArray, List.set_cons_zero, List.set_cons_succ]
              refine wpAnyM_done (by kernel_rfl) ?_
              have hbR := HBRd.out
              have hmE := (((Mod.refl (fun g => g = w.heap.size + 1) wr.drew).set1 rfl 0 (.slice none 0 0)).set1 rfl 1 (.int .i64 (L))).set1 rfl 2 (.slice Ak kids.length ck)
              have hb2 := ((hbR.set 0 (.slice none 0 0)).set 1 (.int .i64 (L))).set 2 (.slice Ak kids.length ck)
              have z0 := hb2.cell (o := 0) rfl
              have z1 := hb2.cell (o := 1) rfl
              have z2 := hb2.cell (o := 2) rfl
              have hbY := HBRy.out
              have y0z := (hbY.set 0 (.slice none 0 0)).cell (o := 0) rfl
              have y1z := ((hbY.set 0 (.slice none 0 0)).set 1 (.int .i64 (L))).cell (o := 1) rfl
              have y2z := (((hbY.set 0 (.slice none 0 0)).set 1 (.int .i64 (L))).set 2 (.slice Ak kids.length ck)).cell (o := 2) rfl
              have f0 := hbY.frozen 0
              have f1 := hbY.frozen 1
              have f2 := hbY.frozen 2
              have c0 := hbY.cell (o := 0) rfl
              have c1 := hbY.cell (o := 1) rfl
              have c2 := hbY.cell (o := 2) rfl
              have HME := Lib.hid (Mod.trans HMd.out hmE (fun i hi e => by omega))
              have HMEE := Lib.hid hmE
              clear hbY hbR hmE hb2
              go_wp2_with fail
              skip
              refine bodyPost_ret (v := .tuple #[.agg #[.slice none 0 0, .int .i64 (L), .slice Ak kids.length ck], .int .i64 0]) (by simp [results, Tryd.results44, go_sem, z0, z1, z2, y0z, y1z, y2z]) rfl ⟨_, _, rfl, World.ownsRow_nil _ _ _ _, own_other HVKd.out HBRd.out (by decide) HMEE.out, HME.out⟩
            · have d0 : decide (0 ≤ level) = true := decide_eq_true (by omega)
              have d1 : 0 ≤ level := by omega
              by_cases hLl : L = level
              · subst hLl
                have b1 : (L != L) = false := by simp
                by_cases hm : manyL kids = k.many
                · have b2 : (manyL kids != k.many) = false := by simpa using hm
                  have b3 : (manyL kids == k.many) = true := by simpa using hm
                  have hkz : 0 < kids.length := by have := (HBF2.out.2.2.2.2.1 rfl).2.2; omega
                  have hll := lastL_at hkz
                  rcases HCK6.out.keep HMR.out (fun _ _ h => h) with h | ⟨ba, o, rfl, hcell⟩
                  · have := flat_len lc_len kids; rw [h] at this; simp at this; omega
                  have y0 := hcell _ _ (flat_get lc_len kids (kids.length - 1) 0 (by omega) (by omega))
                  obtain ⟨P, hP⟩ : ∃ P, kids[kids.length - 1] = P := ⟨_, rfl⟩
                  rw [hP] at y0 hll
                  rw [Nat.add_zero] at y0
                  have hbl : ba < wr.heap.size := World.block_lt_of_cell? wr _ y0
                  have fp0 := fun (w' : World) (mm : Mod0 wr.drew w') => ((Mod.of_drew_l mm).cell (p := ⟨ba, o + (kids.length - 1) * 3, none⟩) hbl (fun h => h)).trans y0
                  have hkl := HBF2.out.1
                  have w1 : IntKind.i64.wrap ((kids.length : Int) - 1) = (kids.length : Int) - 1 := by rw [IntKind.wrap_i64]; omega
                  have n0 : (0 : Int) ≤ (kids.length : Int) - 1 := by omega
                  have n1 : (kids.length : Int) - 1 < (kids.length : Int) := by omega
                  have n2 : ((kids.length : Int) - 1).toNat = kids.length - 1 := by omega
                  have n4 : (1 : Int) ≤ (kids.length : Int) := by omega
                  rw [hll] at hn
                  clear hcell hP y0 hll HCK6 HMR
                  by_cases he : P.last = k.last
                  · have e1 : (P.last.toList == k.last.toList) = true := (Lib.bytes_beq_iff _ _).2 he
                    rw [if_pos ⟨rfl, .inr ⟨rfl, hm, he⟩⟩] at hn
                    subst hn
                    clear hm he HBF2
                    go_wp2_with fail
                    refine region_m (by kernel_rfl) ?_
                    simp only [List.length_cons, List.length_nil, List.replicate]
                    refine take0 (v := ?v245) (oi := ?o245) 0 ?hi245 (by kernel_rfl) (by kernel_rfl) (by kernel_rfl) ?hq245 ?hy245 ?_
                    case hi245 => (simp only [List.getElem?_toArray, List.getElem?_cons_zero, List.getElem?_cons_succ]; rfl)
                    case hq245 => exact fun _ _ _ h => h
                    case hy245 => first | (refine ry_not ?_; rfl) | (refine ry_run (by rfl) (fun w' hw' => ?_); go_simp; try rfl)
                    simp only [Act.put, List.setIfInBounds_toArray, List.set_cons_zero, List.set_cons_succ]
                    refine take0 (v := ?v246) (oi := ?o246) 1 ?hi246 (by kernel_rfl) (by kernel_rfl) (by kernel_rfl) ?hq246 ?hy246 ?_
                    case hi246 => (simp only [List.getElem?_toArray, List.getElem?_cons_zero, List.getElem?_cons_succ]; rfl)
                    case hq246 => exact fun _ _ _ h => h
                    case hy246 => first | (refine ry_not ?_; rfl) | (refine ry_run (by rfl) (fun w' hw' => ?_); go_simp; try rfl)
                    simp only [Act.put, List.setIfInBounds_toArray, List.set_cons_zero, List.set_cons_succ]
                    refine take0 (v := ?v247) (oi := ?o247) 2 ?hi247 (by kernel_rfl) (by kernel_rfl) (by kernel_rfl) ?hq247 ?hy247 ?_
                    case hi247 => (simp only [List.getElem?_toArray, List.getElem?_cons_zero, List.getElem?_cons_succ]; rfl)
                    case hq247 => exact fun _ _ _ h => h
                    case hy247 => first | (refine ry_not ?_; rfl) | (refine ry_run (by rfl) (fun w' hw' => ?_); go_simp; try rfl)
                    simp only [Act.put, List.setIfInBounds_toArray, List.set_cons_zero, List.set_cons_succ]
                    refine take0 (v := ?v248) (oi := ?o248) 3 ?hi248 (by kernel_rfl) (by kernel_rfl) (by kernel_rfl) ?hq248 ?hy248 ?_
                    case hi248 => (simp only [List.getElem?_toArray, List.getElem?_cons_zero, List.getElem?_cons_succ]; rfl)
                    case hq248 => exact fun _ _ _ h => h
                    case hy248 => first | (refine ry_not ?_; rfl) | (refine ry_run (by rfl) (fun w' hw' => ?_); go_simp; try rfl)
                    simp only [Act.put, List.setIfInBounds_toArray, List.set_cons_zero, List.set_cons_succ]
                    refine take0 (v := ?v249) (oi := ?o249) 4 ?hi249 (by kernel_rfl) (by kernel_rfl) (by kernel_rfl) ?hq249 ?hy249 ?_
                    case hi249 => (simp only [List.getElem?_toArray, List.getElem?_cons_zero, List.getElem?_cons_succ]; rfl)
                    case hq249 => exact fun _ _ _ h => h
                    case hy249 => first | (refine ry_not ?_; rfl) | (refine ry_run (by rfl) (fun w' hw' => ?_); go_simp; try rfl)
                    simp only [Act.put, List.setIfInBounds_toArray, List.set_cons_zero, List.set_cons_succ]
                    refine take0 (v := ?v250) (oi := ?o250) 5 ?hi250 (by kernel_rfl) (by kernel_rfl) (by kernel_rfl) ?hq250 ?hy250 ?_
                    case hi250 => (simp only [List.getElem?_toArray, List.getElem?_cons_zero, List.getElem?_cons_succ]; rfl)
                    case hq250 => exact fun _ _ _ h => h
                    case hy250 => first | (refine ry_not ?_; rfl) | (refine ry_run (by rfl) (fun w' hw' => ?_); go_simp; try rfl)
                    simp only [Act.put, List.setIfInBounds_toArray, List.set_cons_zero, List.set_cons_succ]
                    refine take0 (v := ?v251) (oi := ?o251) 6 ?hi251 (by kernel_rfl) (by kernel_rfl) (by kernel_rfl) ?hq251 ?hy251 ?_
                    case hi251 => (simp only [List.getElem?_toArray, List.getElem?_cons_zero, List.getElem?_cons_succ]; rfl)
                    case hq251 => exact fun _ _ _ h => h
                    case hy251 => first | (refine ry_not ?_; rfl) | (refine ry_run (by rfl) (fun w' hw' => ?_); go_simp; try rfl)
                    simp only [Act.put, List.setIfInBounds_toArray, List.set_cons_zero, List.set_cons_succ]
                    refine take0 (v := ?v252) (oi := ?o252) 7 ?hi252 (by kernel_rfl) (by kernel_rfl) (by kernel_rfl) ?hq252 ?hy252 ?_
                    case hi252 => (simp only [List.getElem?_toArray, List.getElem?_cons_zero, List.getElem?_cons_succ]; rfl)
                    case hq252 => exact fun _ _ _ h => h
                    case hy252 => first | (refine ry_not ?_; rfl) | (refine ry_run (by rfl) (fun w' hw' => ?_); go_simp; try rfl)
                    simp only [Act.put, List.setIfInBounds_toArray, List.set_cons_zero, List.set_cons_succ]
                    refine take0 (v := ?v253) (oi := ?o253) 8 ?hi253 (by kernel_rfl) (by kernel_rfl) (by kernel_rfl) ?hq253 ?hy253 ?_
                    case hi253 => (simp only [List.getElem?_toArray, List.getElem?_cons_zero, List.getElem?_cons_succ]; rfl)
                    case hq253 => exact fun _ _ _ h => h
                    case hy253 => first | (refine ry_not ?_; rfl) | (refine ry_run (by rfl) (fun w' hw' => ?_); go_simp; try rfl)
                    simp only [Act.put, List.setIfInBounds_toArray, List.set_cons_zero, List.set_cons_succ]
                    refine take0 (v := ?v254) (oi := ?o254) 9 ?hi254 (by kernel_rfl) (by kernel_rfl) (by kernel_rfl) ?hq254 ?hy254 ?_
                    case hi254 => (simp only [List.getElem?_toArray, List.getElem?_cons_zero, List.getElem?_cons_succ]; rfl)
                    case hq254 => exact fun _ _ _ h => h
                    case hy254 => first | (refine ry_not ?_; rfl) | (refine ry_run (by rfl) (fun w' hw' => ?_); go_simp; try rfl)
                    simp only [Act.put, List.setIfInBounds_toArray, List.set_cons_zero, List.set_cons_succ]
                    refine take0 (v := ?v255) (oi := ?o255) 10 ?hi255 (by kernel_rfl) (by kernel_rfl) (by kernel_rfl) ?hq255 ?hy255 ?_
                    case hi255 => (simp only [List.getElem?_toArray, List.getElem?_cons_zero, List.getElem?_cons_succ]; rfl)
                    case hq255 => exact fun _ _ _ h => h
                    case hy255 => first | (refine ry_not ?_; rfl) | (refine ry_run (by rfl) (fun w' hw' => ?_); go_simp; try rfl)
                    simp only [Act.put, List.setIfInBounds_toArray, List.set_cons_zero, List.set_cons_succ]
                    refine take0 (v := ?v256) (oi := ?o256) 11 ?hi256 (by kernel_rfl) (by kernel_rfl) (by kernel_rfl) ?hq256 ?hy256 ?_
                    case hi256 => (simp only [List.getElem?_toArray, List.getElem?_cons_zero, List.getElem?_cons_succ]; rfl)
                    case hq256 => exact fun _ _ _ h => h
                    case hy256 => first | (refine ry_not ?_; rfl) | (refine ry_run (by rfl) (fun w' hw' => ?_); go_simp; try rfl)
                    simp only [Act.put, List.setIfInBounds_toArray, List.set_cons_zero, List.set_cons_succ]
                    refine take0 (v := ?v257) (oi := ?o257) 12 ?hi257 (by kernel_rfl) (by kernel_rfl) (by kernel_rfl) ?hq257 ?hy257 ?_
                    case hi257 => (simp only [List.getElem?_toArray, List.getElem?_cons_zero, List.getElem?_cons_succ]; rfl)
                    case hq257 => exact fun _ _ _ h => h
                    case hy257 => first | (refine ry_not ?_; rfl) | (refine ry_run (by rfl) (fun w' hw' => ?_); go_simp; try rfl)
                    simp only [Act.put, List.setIfInBounds_toArray, List.set_cons_zero, List.set_cons_succ]
                    refine take0 (v := ?v258) (oi := ?o258) 13 ?hi258 (by kernel_rfl) (by kernel_rfl) (by kernel_rfl) ?hq258 ?hy258 ?_
                    case hi258 => (simp only [List.getElem?_toArray, List.getElem?_cons_zero, List.getElem?_cons_succ]; rfl)
                    case hq258 => exact fun _ _ _ h => h
                    case hy258 => first | (refine ry_not ?_; rfl) | (refine ry_run (by rfl) (fun w' hw' => ?_); go_simp; try rfl)
                    simp only [Act.put, List.setIfInBounds_toArray, List.set_cons_zero, List.set_cons_succ]
                    refine take0 (v := ?v259) (oi := ?o259) 14 ?hi259 (by kernel_rfl) (by kernel_rfl) (by kernel_rfl) ?hq259 ?hy259 ?_
                    case hi259 => (simp only [List.getElem?_toArray, List.getElem?_cons_zero, List.getElem?_cons_succ]; rfl)
                    case hq259 => exact fun _ _ _ h => h
                    case hy259 => first | (refine ry_not ?_; rfl) | (refine ry_run (by rfl) (fun w' hw' => ?_); go_simp; try rfl)
                    simp only [Act.put, List.setIfInBounds_toArray, List.set_cons_zero, List.set_cons_succ]
                    refine take0 (v := ?v260) (oi := ?o260) 15 ?hi260 (by kernel_rfl) (by kernel_rfl) (by kernel_rfl) ?hq260 ?hy260 ?_
                    case hi260 => (simp only [List.getElem?_toArray, List.getElem?_cons_zero, List.getElem?_cons_succ]; rfl)
                    case hq260 => exact fun _ _ _ h => h
                    case hy260 => first | (refine ry_not ?_; rfl) | (refine ry_run (by rfl) (fun w' hw' => ?_); go_simp; try rfl)
                    simp only [Act.put, List.setIfInBounds_toArray, List.set_cons_zero, List.set_cons_succ]
                    refine take0 (v := ?v261) (oi := ?o261) 16 ?hi261 (by kernel_rfl) (by kernel_rfl) (by kernel_rfl) ?hq261 ?hy261 ?_
                    case hi261 => (simp only [List.getElem?_toArray, List.getElem?_cons_zero, List.getElem?_cons_succ]; rfl)
                    case hq261 => exact fun _ _ _ h => h
                    case hy261 => first | (refine ry_not ?_; rfl) | (refine ry_run (by rfl) (fun w' hw' => ?_); go_simp; try rfl)
                    simp only [Act.put, List.setIfInBounds_toArray, List.set_cons_zero, List.set_cons_succ]
                    refine take0 (v := ?v262) (oi := ?o262) 17 ?hi262 (by kernel_rfl) (by kernel_rfl) (by kernel_rfl) ?hq262 ?hy262 ?_
                    case hi262 => (simp only [List.getElem?_toArray, List.getElem?_cons_zero, List.getElem?_cons_succ]; rfl)
                    case hq262 => exact fun _ _ _ h => h
                    case hy262 => first | (refine ry_not ?_; rfl) | (refine ry_run (by rfl) (fun w' hw' => ?_); go_simp; try rfl)
                    simp only [Act.put, List.setIfInBounds_toArray, List.set_cons_zero, List.set_cons_succ]
                    refine take0 (v := ?v263) (oi := ?o263) 18 ?hi263 (by kernel_rfl) (by kernel_rfl) (by kernel_rfl) ?hq263 ?hy263 ?_
                    case hi263 => (simp only [List.getElem?_toArray, List.getElem?_cons_zero, List.getElem?_cons_succ]; rfl)
                    case hq263 => exact fun _ _ _ h => h
                    case hy263 => first | (refine ry_not ?_; rfl) | (refine ry_run (by rfl) (fun w' hw' => ?_); go_simp; try rfl)
                    simp only [Act.put, List.setIfInBounds_toArray, List.set_cons_zero, List.set_cons_succ]
                    refine take0 (v := ?v264) (oi := ?o264) 19 ?hi264 (by kernel_rfl) (by kernel_rfl) (by kernel_rfl) ?hq264 ?hy264 ?_
                    case hi264 => (simp only [List.getElem?_toArray, List.getElem?_cons_zero, List.getElem?_cons_succ]; rfl)
                    case hq264 => exact fun _ _ _ h => h
                    case hy264 => first | (refine ry_not ?_; rfl) | (refine ry_run (by rfl) (fun w' hw' => ?_); go_simp; try rfl)
                    simp only [Act.put, List.setIfInBounds_toArray, List.set_cons_zero, List.set_cons_succ]
                    refine take0 (v := ?v265) (oi := ?o265) 20 ?hi265 (by kernel_rfl) (by kernel_rfl) (by kernel_rfl) ?hq265 ?hy265 ?_
                    case hi265 => (simp only [List.getElem?_toArray, List.getElem?_cons_zero, List.getElem?_cons_succ]; rfl)
                    case hq265 => exact fun _ _ _ h => h
                    case hy265 => first | (refine ry_not ?_; rfl) | (refine ry_run (by rfl) (fun w' hw' => ?_); go_simp; try rfl)
                    simp only [Act.put, List.setIfInBounds_toArray, List.set_cons_zero, List.set_cons_succ]
                    refine take0 (v := ?v266) (oi := ?o266) 21 ?hi266 (by kernel_rfl) (by kernel_rfl) (by kernel_rfl) ?hq266 ?hy266 ?_
                    case hi266 => (simp only [List.getElem?_toArray, List.getElem?_cons_zero, List.getElem?_cons_succ]; rfl)
                    case hq266 => exact fun _ _ _ h => h
                    case hy266 => first | (refine ry_not ?_; rfl) | (refine ry_run (by rfl) (fun w' hw' => ?_); go_simp; try rfl)
                    simp only [Act.put, List.setIfInBounds_toArray, List.set_cons_zero, List.set_cons_succ]
                    refine take0 (v := ?v267) (oi := ?o267) 22 ?hi267 (by kernel_rfl) (by kernel_rfl) (by kernel_rfl) ?hq267 ?hy267 ?_
                    case hi267 => (simp only [List.getElem?_toArray, List.getElem?_cons_zero, List.getElem?_cons_succ]; rfl)
                    case hq267 => exact fun _ _ _ h => h
                    case hy267 => first | (refine ry_not ?_; rfl) | (refine ry_run (by rfl) (fun w' hw' => ?_); go_simp; try rfl)
                    simp only [Act.put, List.setIfInBounds_toArray, List.set_cons_zero, List.set_cons_succ]
                    refine take0 (v := ?v268) (oi := ?o268) 23 ?hi268 (by kernel_rfl) (by kernel_rfl) (by kernel_rfl) ?hq268 ?hy268 ?_
                    case hi268 => (simp only [List.getElem?_toArray, List.getElem?_cons_zero, List.getElem?_cons_succ]; rfl)
                    case hq268 => exact fun _ _ _ h => h
                    case hy268 => first | (refine ry_not ?_; rfl) | (refine ry_run (by rfl) (fun w' hw' => ?_); go_simp; try rfl)
                    simp only [Act.put, List.setIfInBounds_toArray, List.set_cons_zero, List.set_cons_succ]
                    refine take0 (v := ?v269) (oi := ?o269) 24 ?hi269 (by kernel_rfl) (by kernel_rfl) (by kernel_rfl) ?hq269 ?hy269 ?_
                    case hi269 => (simp only [List.getElem?_toArray, List.getElem?_cons_zero, List.getElem?_cons_succ]; rfl)
                    case hq269 => exact fun _ _ _ h => h
                    case hy269 => first | (refine ry_not ?_; rfl) | (refine ry_run (by rfl) (fun w' hw' => ?_); go_simp; try rfl)
                    simp only [Act.put, List.setIfInBounds_toArray, List.set_cons_zero, List.set_cons_succ]
                    refine take0 (v := ?v270) (oi := ?o270) 25 ?hi270 (by kernel_rfl) (by kernel_rfl) (by kernel_rfl) ?hq270 ?hy270 ?_
                    case hi270 => (simp only [List.getElem?_toArray, List.getElem?_cons_zero, List.getElem?_cons_succ]; rfl)
                    case hq270 => exact fun _ _ _ h => h
                    case hy270 => first | (refine ry_not ?_; rfl) | (refine ry_run (by rfl) (fun w' hw' => ?_); go_simp; try rfl)
                    simp only [Act.put, List.setIfInBounds_toArray, List.set_cons_zero, List.set_cons_succ]
                    refine take0 (v := ?v271) (oi := ?o271) 26 ?hi271 (by kernel_rfl) (by kernel_rfl) (by kernel_rfl) ?hq271 ?hy271 ?_
                    case hi271 => (simp only [List.getElem?_toArray, List.getElem?_cons_zero, List.getElem?_cons_succ]; rfl)
                    case hq271 => exact fun _ _ _ h => h
                    case hy271 => first | (refine ry_not ?_; rfl) | (refine ry_run (by rfl) (fun w' hw' => ?_); go_simp; try rfl)
                    simp only [Act.put, List.setIfInBounds_toArray, List.set_cons_zero, List.set_cons_succ]
                    refine take0 (v := ?v272) (oi := ?o272) 27 ?hi272 (by kernel_rfl) (by kernel_rfl) (by kernel_rfl) ?hq272 ?hy272 ?_
                    case hi272 => (simp only [List.getElem?_toArray, List.getElem?_cons_zero, List.getElem?_cons_succ]; rfl)
                    case hq272 => exact fun _ _ _ h => h
                    case hy272 => first | (refine ry_not ?_; rfl) | (refine ry_run (by rfl) (fun w' hw' => ?_); go_simp; try rfl)
                    simp only [Act.put, List.setIfInBounds_toArray, List.set_cons_zero, List.set_cons_succ]
                    refine take0 (v := ?v273) (oi := ?o273) 28 ?hi273 (by kernel_rfl) (by kernel_rfl) (by kernel_rfl) ?hq273 ?hy273 ?_
                    case hi273 => (simp only [List.getElem?_toArray, List.getElem?_cons_zero, List.getElem?_cons_succ]; rfl)
                    case hq273 => exact fun _ _ _ h => h
                    case hy273 => first | (refine ry_not ?_; rfl) | (refine ry_run (by rfl) (fun w' hw' => ?_); go_simp; try rfl)
                    simp only [Act.put, List.setIfInBounds_toArray, List.set_cons_zero, List.set_cons_succ]
                    refine take0 (v := ?v274) (oi := ?o274) 29 ?hi274 (by kernel_rfl) (by kernel_rfl) (by kernel_rfl) ?hq274 ?hy274 ?_
                    case hi274 => (simp only [List.getElem?_toArray, List.getElem?_cons_zero, List.getElem?_cons_succ]; rfl)
                    case hq274 => exact fun _ _ _ h => h
                    case hy274 => first | (refine ry_not ?_; rfl) | (refine ry_run (by rfl) (fun w' hw' => ?_); go_simp; try rfl)
                    simp only [Act.put, List.setIfInBounds_toArray, List.set_cons_zero, List.set_cons_succ]
                    refine take0 (v := ?v275) (oi := ?o275) 30 ?hi275 (by kernel_rfl) (by kernel_rfl) (by kernel_rfl) ?hq275 ?hy275 ?_
                    case hi275 => (simp only [List.getElem?_toArray, List.getElem?_cons_zero, List.getElem?_cons_succ]; rfl)
                    case hq275 => exact fun _ _ _ h => h
                    case hy275 => first | (refine ry_not ?_; rfl) | (refine ry_run (by rfl) (fun w' hw' => ?_); go_simp; try rfl)
                    simp only [Act.put, List.setIfInBounds_toArray, List.set_cons_zero, List.set_cons_succ]
                    refine take0 (v := ?v276) (oi := ?o276) 31 ?hi276 (by kernel_rfl) (by kernel_rfl) (by kernel_rfl) ?hq276 ?hy276 ?_
                    case hi276 => (simp only [List.getElem?_toArray, List.getElem?_cons_zero, List.getElem?_cons_succ]; rfl)
                    case hq276 => exact fun _ _ _ h => h
                    case hy276 => first | (refine ry_not ?_; rfl) | (refine ry_run (by rfl) (fun w' hw' => ?_); go_simp; try rfl)
                    simp only [Act.put, List.setIfInBounds_toArray, List.set_cons_zero, List.set_cons_succ]
                    refine wpAnyM_done (by kernel_rfl) ?_
                    have hbR := HBRd.out
                    have hmE := (((Mod.refl (fun g => g = w.heap.size + 1) wr.drew).set1 rfl 0 (.slice none 0 0)).set1 rfl 1 (.int .i64 (L))).set1 rfl 2 (.slice (some ⟨ba, o, none⟩) kids.length ck)
                    have hb2 := ((hbR.set 0 (.slice none 0 0)).set 1 (.int .i64 (L))).set 2 (.slice (some ⟨ba, o, none⟩) kids.length ck)
                    have z0 := hb2.cell (o := 0) rfl
                    have z1 := hb2.cell (o := 1) rfl
                    have z2 := hb2.cell (o := 2) rfl
                    have hbY := HBRy.out
                    have y0z := (hbY.set 0 (.slice none 0 0)).cell (o := 0) rfl
                    have y1z := ((hbY.set 0 (.slice none 0 0)).set 1 (.int .i64 (L))).cell (o := 1) rfl
                    have y2z := (((hbY.set 0 (.slice none 0 0)).set 1 (.int .i64 (L))).set 2 (.slice (some ⟨ba, o, none⟩) kids.length ck)).cell (o := 2) rfl
                    have f0 := hbY.frozen 0
                    have f1 := hbY.frozen 1
                    have f2 := hbY.frozen 2
                    have c0 := hbY.cell (o := 0) rfl
                    have c1 := hbY.cell (o := 1) rfl
                    have c2 := hbY.cell (o := 2) rfl
                    have HME := Lib.hid (Mod.trans HMd.out hmE (fun i hi e => by omega))
                    have HMEE := Lib.hid hmE
                    clear hbY hbR hmE hb2
                    go_wp2_with fail
                    skip
                    refine bodyPost_ret (v := .tuple #[.agg #[.slice none 0 0, .int .i64 (L), .slice (some ⟨ba, o, none⟩) kids.length ck], .int .i64 0]) (by simp [results, Tryd.results44, go_sem, z0, z1, z2, y0z, y1z, y2z]) rfl ⟨_, _, rfl, World.ownsRow_nil _ _ _ _, own_other HVKd.out HBRd.out (by decide) HMEE.out, HME.out⟩
                  · have e1 : (P.last.toList == k.last.toList) = false := (Lib.bytes_beq_false_iff _ _).2 he
                    rw [if_neg (fun h => by rcases h.2 with h | h; omega; exact he h.2.2)] at hn
                    subst hn
                    clear hm he HBF2
                    go_wp2_with fail
                    refine region_m (by kernel_rfl) ?_
                    simp only [List.length_cons, List.length_nil, List.replicate]
                    refine take0 (v := ?v277) (oi := ?o277) 0 ?hi277 (by kernel_rfl) (by kernel_rfl) (by kernel_rfl) ?hq277 ?hy277 ?_
                    case hi277 => (simp only [List.getElem?_toArray, List.getElem?_cons_zero, List.getElem?_cons_succ]; rfl)
                    case hq277 => exact fun _ _ _ h => h
                    case hy277 => first | (refine ry_not ?_; rfl) | (refine ry_run (by rfl) (fun w' hw' => ?_); go_simp; try rfl)
                    simp only [Act.put, List.setIfInBounds_toArray, List.set_cons_zero, List.set_cons_succ]
                    refine take0 (v := ?v278) (oi := ?o278) 1 ?hi278 (by kernel_rfl) (by kernel_rfl) (by kernel_rfl) ?hq278 ?hy278 ?_
                    case hi278 => (simp only [List.getElem?_toArray, List.getElem?_cons_zero, List.getElem?_cons_succ]; rfl)
                    case hq278 => exact fun _ _ _ h => h
                    case hy278 => first | (refine ry_not ?_; rfl) | (refine ry_run (by rfl) (fun w' hw' => ?_); go_simp; try rfl)
                    simp only [Act.put, List.setIfInBounds_toArray, List.set_cons_zero, List.set_cons_succ]
                    refine take0 (v := ?v279) (oi := ?o279) 2 ?hi279 (by kernel_rfl) (by kernel_rfl) (by kernel_rfl) ?hq279 ?hy279 ?_
                    case hi279 => (simp only [List.getElem?_toArray, List.getElem?_cons_zero, List.getElem?_cons_succ]; rfl)
                    case hq279 => exact fun _ _ _ h => h
                    case hy279 => first | (refine ry_not ?_; rfl) | (refine ry_run (by rfl) (fun w' hw' => ?_); go_simp; try rfl)
                    simp only [Act.put, List.setIfInBounds_toArray, List.set_cons_zero, List.set_cons_succ]
                    refine take0 (v := ?v280) (oi := ?o280) 3 ?hi280 (by kernel_rfl) (by kernel_rfl) (by kernel_rfl) ?hq280 ?hy280 ?_
                    case hi280 => (simp only [List.getElem?_toArray, List.getElem?_cons_zero, List.getElem?_cons_succ]; rfl)
                    case hq280 => exact fun _ _ _ h => h
                    case hy280 => first | (refine ry_not ?_; rfl) | (refine ry_run (by rfl) (fun w' hw' => ?_); go_simp; try rfl)
                    simp only [Act.put, List.setIfInBounds_toArray, List.set_cons_zero, List.set_cons_succ]
                    refine take0 (v := ?v281) (oi := ?o281) 4 ?hi281 (by kernel_rfl) (by kernel_rfl) (by kernel_rfl) ?hq281 ?hy281 ?_
                    case hi281 => (simp only [List.getElem?_toArray, List.getElem?_cons_zero, List.getElem?_cons_succ]; rfl)
                    case hq281 => exact fun _ _ _ h => h
                    case hy281 => first | (refine ry_not ?_; rfl) | (refine ry_run (by rfl) (fun w' hw' => ?_); go_simp; try rfl)
                    simp only [Act.put, List.setIfInBounds_toArray, List.set_cons_zero, List.set_cons_succ]
                    refine take0 (v := ?v282) (oi := ?o282) 5 ?hi282 (by kernel_rfl) (by kernel_rfl) (by kernel_rfl) ?hq282 ?hy282 ?_
                    case hi282 => (simp only [List.getElem?_toArray, List.getElem?_cons_zero, List.getElem?_cons_succ]; rfl)
                    case hq282 => exact fun _ _ _ h => h
                    case hy282 => first | (refine ry_not ?_; rfl) | (refine ry_run (by rfl) (fun w' hw' => ?_); go_simp; try rfl)
                    simp only [Act.put, List.setIfInBounds_toArray, List.set_cons_zero, List.set_cons_succ]
                    refine take0 (v := ?v283) (oi := ?o283) 6 ?hi283 (by kernel_rfl) (by kernel_rfl) (by kernel_rfl) ?hq283 ?hy283 ?_
                    case hi283 => (simp only [List.getElem?_toArray, List.getElem?_cons_zero, List.getElem?_cons_succ]; rfl)
                    case hq283 => exact fun _ _ _ h => h
                    case hy283 => first | (refine ry_not ?_; rfl) | (refine ry_run (by rfl) (fun w' hw' => ?_); go_simp; try rfl)
                    simp only [Act.put, List.setIfInBounds_toArray, List.set_cons_zero, List.set_cons_succ]
                    refine take0 (v := ?v284) (oi := ?o284) 7 ?hi284 (by kernel_rfl) (by kernel_rfl) (by kernel_rfl) ?hq284 ?hy284 ?_
                    case hi284 => (simp only [List.getElem?_toArray, List.getElem?_cons_zero, List.getElem?_cons_succ]; rfl)
                    case hq284 => exact fun _ _ _ h => h
                    case hy284 => first | (refine ry_not ?_; rfl) | (refine ry_run (by rfl) (fun w' hw' => ?_); go_simp; try rfl)
                    simp only [Act.put, List.setIfInBounds_toArray, List.set_cons_zero, List.set_cons_succ]
                    refine take0 (v := ?v285) (oi := ?o285) 8 ?hi285 (by kernel_rfl) (by kernel_rfl) (by kernel_rfl) ?hq285 ?hy285 ?_
                    case hi285 => (simp only [List.getElem?_toArray, List.getElem?_cons_zero, List.getElem?_cons_succ]; rfl)
                    case hq285 => exact fun _ _ _ h => h
                    case hy285 => first | (refine ry_not ?_; rfl) | (refine ry_run (by rfl) (fun w' hw' => ?_); go_simp; try rfl)
                    simp only [Act.put, List.setIfInBounds_toArray, List.set_cons_zero, List.set_cons_succ]
                    refine take0 (v := ?v286) (oi := ?o286) 9 ?hi286 (by kernel_rfl) (by kernel_rfl) (by kernel_rfl) ?hq286 ?hy286 ?_
                    case hi286 => (simp only [List.getElem?_toArray, List.getElem?_cons_zero, List.getElem?_cons_succ]; rfl)
                    case hq286 => exact fun _ _ _ h => h
                    case hy286 => first | (refine ry_not ?_; rfl) | (refine ry_run (by rfl) (fun w' hw' => ?_); go_simp; try rfl)
                    simp only [Act.put, List.setIfInBounds_toArray, List.set_cons_zero, List.set_cons_succ]
                    refine take0 (v := ?v287) (oi := ?o287) 10 ?hi287 (by kernel_rfl) (by kernel_rfl) (by kernel_rfl) ?hq287 ?hy287 ?_
                    case hi287 => (simp only [List.getElem?_toArray, List.getElem?_cons_zero, List.getElem?_cons_succ]; rfl)
                    case hq287 => exact fun _ _ _ h => h
                    case hy287 => first | (refine ry_not ?_; rfl) | (refine ry_run (by rfl) (fun w' hw' => ?_); go_simp; try rfl)
                    simp only [Act.put, List.setIfInBounds_toArray, List.set_cons_zero, List.set_cons_succ]
                    refine take0 (v := ?v288) (oi := ?o288) 11 ?hi288 (by kernel_rfl) (by kernel_rfl) (by kernel_rfl) ?hq288 ?hy288 ?_
                    case hi288 => (simp only [List.getElem?_toArray, List.getElem?_cons_zero, List.getElem?_cons_succ]; rfl)
                    case hq288 => exact fun _ _ _ h => h
                    case hy288 => first | (refine ry_not ?_; rfl) | (refine ry_run (by rfl) (fun w' hw' => ?_); go_simp; try rfl)
                    simp only [Act.put, List.setIfInBounds_toArray, List.set_cons_zero, List.set_cons_succ]
                    refine take0 (v := ?v289) (oi := ?o289) 12 ?hi289 (by kernel_rfl) (by kernel_rfl) (by kernel_rfl) ?hq289 ?hy289 ?_
                    case hi289 => (simp only [List.getElem?_toArray, List.getElem?_cons_zero, List.getElem?_cons_succ]; rfl)
                    case hq289 => exact fun _ _ _ h => h
                    case hy289 => first | (refine ry_not ?_; rfl) | (refine ry_run (by rfl) (fun w' hw' => ?_); go_simp; try rfl)
                    simp only [Act.put, List.setIfInBounds_toArray, List.set_cons_zero, List.set_cons_succ]
                    refine take0 (v := ?v290) (oi := ?o290) 13 ?hi290 (by kernel_rfl) (by kernel_rfl) (by kernel_rfl) ?hq290 ?hy290 ?_
                    case hi290 => (simp only [List.getElem?_toArray, List.getElem?_cons_zero, List.getElem?_cons_succ]; rfl)
                    case hq290 => exact fun _ _ _ h => h
                    case hy290 => first | (refine ry_not ?_; rfl) | (refine ry_run (by rfl) (fun w' hw' => ?_); go_simp; try rfl)
                    simp only [Act.put, List.setIfInBounds_toArray, List.set_cons_zero, List.set_cons_succ]
                    refine take0 (v := ?v291) (oi := ?o291) 14 ?hi291 (by kernel_rfl) (by kernel_rfl) (by kernel_rfl) ?hq291 ?hy291 ?_
                    case hi291 => (simp only [List.getElem?_toArray, List.getElem?_cons_zero, List.getElem?_cons_succ]; rfl)
                    case hq291 => exact fun _ _ _ h => h
                    case hy291 => first | (refine ry_not ?_; rfl) | (refine ry_run (by rfl) (fun w' hw' => ?_); go_simp; try rfl)
                    simp only [Act.put, List.setIfInBounds_toArray, List.set_cons_zero, List.set_cons_succ]
                    refine take0 (v := ?v292) (oi := ?o292) 15 ?hi292 (by kernel_rfl) (by kernel_rfl) (by kernel_rfl) ?hq292 ?hy292 ?_
                    case hi292 => (simp only [List.getElem?_toArray, List.getElem?_cons_zero, List.getElem?_cons_succ]; rfl)
                    case hq292 => exact fun _ _ _ h => h
                    case hy292 => first | (refine ry_not ?_; rfl) | (refine ry_run (by rfl) (fun w' hw' => ?_); go_simp; try rfl)
                    simp only [Act.put, List.setIfInBounds_toArray, List.set_cons_zero, List.set_cons_succ]
                    refine take0 (v := ?v293) (oi := ?o293) 16 ?hi293 (by kernel_rfl) (by kernel_rfl) (by kernel_rfl) ?hq293 ?hy293 ?_
                    case hi293 => (simp only [List.getElem?_toArray, List.getElem?_cons_zero, List.getElem?_cons_succ]; rfl)
                    case hq293 => exact fun _ _ _ h => h
                    case hy293 => first | (refine ry_not ?_; rfl) | (refine ry_run (by rfl) (fun w' hw' => ?_); go_simp; try rfl)
                    simp only [Act.put, List.setIfInBounds_toArray, List.set_cons_zero, List.set_cons_succ]
                    refine take0 (v := ?v294) (oi := ?o294) 17 ?hi294 (by kernel_rfl) (by kernel_rfl) (by kernel_rfl) ?hq294 ?hy294 ?_
                    case hi294 => (simp only [List.getElem?_toArray, List.getElem?_cons_zero, List.getElem?_cons_succ]; rfl)
                    case hq294 => exact fun _ _ _ h => h
                    case hy294 => first | (refine ry_not ?_; rfl) | (refine ry_run (by rfl) (fun w' hw' => ?_); go_simp; try rfl)
                    simp only [Act.put, List.setIfInBounds_toArray, List.set_cons_zero, List.set_cons_succ]
                    refine take0 (v := ?v295) (oi := ?o295) 18 ?hi295 (by kernel_rfl) (by kernel_rfl) (by kernel_rfl) ?hq295 ?hy295 ?_
                    case hi295 => (simp only [List.getElem?_toArray, List.getElem?_cons_zero, List.getElem?_cons_succ]; rfl)
                    case hq295 => exact fun _ _ _ h => h
                    case hy295 => first | (refine ry_not ?_; rfl) | (refine ry_run (by rfl) (fun w' hw' => ?_); go_simp; try rfl)
                    simp only [Act.put, List.setIfInBounds_toArray, List.set_cons_zero, List.set_cons_succ]
                    refine take0 (v := ?v296) (oi := ?o296) 19 ?hi296 (by kernel_rfl) (by kernel_rfl) (by kernel_rfl) ?hq296 ?hy296 ?_
                    case hi296 => (simp only [List.getElem?_toArray, List.getElem?_cons_zero, List.getElem?_cons_succ]; rfl)
                    case hq296 => exact fun _ _ _ h => h
                    case hy296 => first | (refine ry_not ?_; rfl) | (refine ry_run (by rfl) (fun w' hw' => ?_); go_simp; try rfl)
                    simp only [Act.put, List.setIfInBounds_toArray, List.set_cons_zero, List.set_cons_succ]
                    refine take0 (v := ?v297) (oi := ?o297) 20 ?hi297 (by kernel_rfl) (by kernel_rfl) (by kernel_rfl) ?hq297 ?hy297 ?_
                    case hi297 => (simp only [List.getElem?_toArray, List.getElem?_cons_zero, List.getElem?_cons_succ]; rfl)
                    case hq297 => exact fun _ _ _ h => h
                    case hy297 => first | (refine ry_not ?_; rfl) | (refine ry_run (by rfl) (fun w' hw' => ?_); go_simp; try rfl)
                    simp only [Act.put, List.setIfInBounds_toArray, List.set_cons_zero, List.set_cons_succ]
                    refine take0 (v := ?v298) (oi := ?o298) 21 ?hi298 (by kernel_rfl) (by kernel_rfl) (by kernel_rfl) ?hq298 ?hy298 ?_
                    case hi298 => (simp only [List.getElem?_toArray, List.getElem?_cons_zero, List.getElem?_cons_succ]; rfl)
                    case hq298 => exact fun _ _ _ h => h
                    case hy298 => first | (refine ry_not ?_; rfl) | (refine ry_run (by rfl) (fun w' hw' => ?_); go_simp; try rfl)
                    simp only [Act.put, List.setIfInBounds_toArray, List.set_cons_zero, List.set_cons_succ]
                    refine take0 (v := ?v299) (oi := ?o299) 22 ?hi299 (by kernel_rfl) (by kernel_rfl) (by kernel_rfl) ?hq299 ?hy299 ?_
                    case hi299 => (simp only [List.getElem?_toArray, List.getElem?_cons_zero, List.getElem?_cons_succ]; rfl)
                    case hq299 => exact fun _ _ _ h => h
                    case hy299 => first | (refine ry_not ?_; rfl) | (refine ry_run (by rfl) (fun w' hw' => ?_); go_simp; try rfl)
                    simp only [Act.put, List.setIfInBounds_toArray, List.set_cons_zero, List.set_cons_succ]
                    refine take0 (v := ?v300) (oi := ?o300) 23 ?hi300 (by kernel_rfl) (by kernel_rfl) (by kernel_rfl) ?hq300 ?hy300 ?_
                    case hi300 => (simp only [List.getElem?_toArray, List.getElem?_cons_zero, List.getElem?_cons_succ]; rfl)
                    case hq300 => exact fun _ _ _ h => h
                    case hy300 => first | (refine ry_not ?_; rfl) | (refine ry_run (by rfl) (fun w' hw' => ?_); go_simp; try rfl)
                    simp only [Act.put, List.setIfInBounds_toArray, List.set_cons_zero, List.set_cons_succ]
                    refine take0 (v := ?v301) (oi := ?o301) 24 ?hi301 (by kernel_rfl) (by kernel_rfl) (by kernel_rfl) ?hq301 ?hy301 ?_
                    case hi301 => (simp only [List.getElem?_toArray, List.getElem?_cons_zero, List.getElem?_cons_succ]; rfl)
                    case hq301 => exact fun _ _ _ h => h
                    case hy301 => first | (refine ry_not ?_; rfl) | (refine ry_run (by rfl) (fun w' hw' => ?_); go_simp; try rfl)
                    simp only [Act.put, List.setIfInBounds_toArray, List.set_cons_zero, List.set_cons_succ]
                    refine take0 (v := ?v302) (oi := ?o302) 25 ?hi302 (by kernel_rfl) (by kernel_rfl) (by kernel_rfl) ?hq302 ?hy302 ?_
                    case hi302 => (simp only [List.getElem?_toArray, List.getElem?_cons_zero, List.getElem?_cons_succ]; rfl)
                    case hq302 => exact fun _ _ _ h => h
                    case hy302 => first | (refine ry_not ?_; rfl) | (refine ry_run (by rfl) (fun w' hw' => ?_); go_simp; try rfl)
                    simp only [Act.put, List.setIfInBounds_toArray, List.set_cons_zero, List.set_cons_succ]
                    refine take0 (v := ?v303) (oi := ?o303) 26 ?hi303 (by kernel_rfl) (by kernel_rfl) (by kernel_rfl) ?hq303 ?hy303 ?_
                    case hi303 => (simp only [List.getElem?_toArray, List.getElem?_cons_zero, List.getElem?_cons_succ]; rfl)
                    case hq303 => exact fun _ _ _ h => h
                    case hy303 => first | (refine ry_not ?_; rfl) | (refine ry_run (by rfl) (fun w' hw' => ?_); go_simp; try rfl)
                    simp only [Act.put, List.setIfInBounds_toArray, List.set_cons_zero, List.set_cons_succ]
                    refine take0 (v := ?v304) (oi := ?o304) 27 ?hi304 (by kernel_rfl) (by kernel_rfl) (by kernel_rfl) ?hq304 ?hy304 ?_
                    case hi304 => (simp only [List.getElem?_toArray, List.getElem?_cons_zero, List.getElem?_cons_succ]; rfl)
                    case hq304 => exact fun _ _ _ h => h
                    case hy304 => first | (refine ry_not ?_; rfl) | (refine ry_run (by rfl) (fun w' hw' => ?_); go_simp; try rfl)
                    simp only [Act.put, List.setIfInBounds_toArray, List.set_cons_zero, List.set_cons_succ]
                    refine take0 (v := ?v305) (oi := ?o305) 28 ?hi305 (by kernel_rfl) (by kernel_rfl) (by kernel_rfl) ?hq305 ?hy305 ?_
                    case hi305 => (simp only [List.getElem?_toArray, List.getElem?_cons_zero, List.getElem?_cons_succ]; rfl)
                    case hq305 => exact fun _ _ _ h => h
                    case hy305 => first | (refine ry_not ?_; rfl) | (refine ry_run (by rfl) (fun w' hw' => ?_); go_simp; try rfl)
                    simp only [Act.put, List.setIfInBounds_toArray, List.set_cons_zero, List.set_cons_succ]
                    refine take0 (v := ?v306) (oi := ?o306) 29 ?hi306 (by kernel_rfl) (by kernel_rfl) (by kernel_rfl) ?hq306 ?hy306 ?_
                    case hi306 => (simp only [List.getElem?_toArray, List.getElem?_cons_zero, List.getElem?_cons_succ]; rfl)
                    case hq306 => exact fun _ _ _ h => h
                    case hy306 => first | (refine ry_not ?_; rfl) | (refine ry_run (by rfl) (fun w' hw' => ?_); go_simp; try rfl)
                    simp only [Act.put, List.setIfInBounds_toArray, List.set_cons_zero, List.set_cons_succ]
                    refine take0 (v := ?v307) (oi := ?o307) 30 ?hi307 (by kernel_rfl) (by kernel_rfl) (by kernel_rfl) ?hq307 ?hy307 ?_
                    case hi307 => (simp only [List.getElem?_toArray, List.getElem?_cons_zero, List.getElem?_cons_succ]; rfl)
                    case hq307 => exact fun _ _ _ h => h
                    case hy307 => first | (refine ry_not ?_; rfl) | (refine ry_run (by rfl) (fun w' hw' => ?_); go_simp; try rfl)
                    simp only [Act.put, List.setIfInBounds_toArray, List.set_cons_zero, List.set_cons_succ]
                    refine take0 (v := ?v308) (oi := ?o308) 31 ?hi308 (by kernel_rfl) (by kernel_rfl) (by kernel_rfl) ?hq308 ?hy308 ?_
                    case hi308 => (simp only [List.getElem?_toArray, List.getElem?_cons_zero, List.getElem?_cons_succ]; rfl)
                    case hq308 => exact fun _ _ _ h => h
                    case hy308 => first | (refine ry_not ?_; rfl) | (refine ry_run (by rfl) (fun w' hw' => ?_); go_simp; try rfl)
                    simp only [Act.put, List.setIfInBounds_toArray, List.set_cons_zero, List.set_cons_succ]
                    refine wpAnyM_done (by kernel_rfl) ?_
                    have hbR := HBRd.out
                    have hmE := (((Mod.refl (fun g => g = w.heap.size + 1) wr.drew).set1 rfl 0 (.slice none 0 0)).set1 rfl 1 (.int .i64 (0))).set1 rfl 2 (.slice none 0 0)
                    have hb2 := ((hbR.set 0 (.slice none 0 0)).set 1 (.int .i64 (0))).set 2 (.slice none 0 0)
                    have z0 := hb2.cell (o := 0) rfl
                    have z1 := hb2.cell (o := 1) rfl
                    have z2 := hb2.cell (o := 2) rfl
                    have hbY := HBRy.out
                    have y0z := (hbY.set 0 (.slice none 0 0)).cell (o := 0) rfl
                    have y1z := ((hbY.set 0 (.slice none 0 0)).set 1 (.int .i64 (0))).cell (o := 1) rfl
                    have y2z := (((hbY.set 0 (.slice none 0 0)).set 1 (.int .i64 (0))).set 2 (.slice none 0 0)).cell (o := 2) rfl
                    have f0 := hbY.frozen 0
                    have f1 := hbY.frozen 1
                    have f2 := hbY.frozen 2
                    have c0 := hbY.cell (o := 0) rfl
                    have c1 := hbY.cell (o := 1) rfl
                    have c2 := hbY.cell (o := 2) rfl
                    have HME := Lib.hid (Mod.trans HMd.out hmE (fun i hi e => by omega))
                    have HMEE := Lib.hid hmE
                    clear hbY hbR hmE hb2
                    go_wp2_with fail
                    skip
                    refine bodyPost_ret (v := .tuple #[.agg #[.slice none 0 0, .int .i64 (0), .slice none 0 0], .int .i64 122]) (by simp [results, Tryd.results44, go_sem, z0, z1, z2, y0z, y1z, y2z]) rfl ⟨_, _, rfl, World.ownsRow_nil _ _ _ _, World.ownsRow_nil _ _ _ _, HME.out⟩
                · have b2 : (manyL kids != k.many) = true := by simpa using hm
                  have b3 : (manyL kids == k.many) = false := by simpa using hm
                  rw [if_neg (fun h => by rcases h.2 with h | h; omega; exact hm h.2.1)] at hn
                  subst hn
                  clear hm HCK6 HMR HBF2
                  go_wp2_with fail
                  refine region_m (by kernel_rfl) ?_
                  simp only [List.length_cons, List.length_nil, List.replicate]
                  refine take0 (v := ?v309) (oi := ?o309) 0 ?hi309 (by kernel_rfl) (by kernel_rfl) (by kernel_rfl) ?hq309 ?hy309 ?_
                  case hi309 => (simp only [List.getElem?_toArray, List.getElem?_cons_zero, List.getElem?_cons_succ]; rfl)
                  case hq309 => exact fun _ _ _ h => h
                  case hy309 => first | (refine ry_not ?_; rfl) | (refine ry_run (by rfl) (fun w' hw' => ?_); go_simp; try rfl)
                  simp only [Act.put, List.setIfInBounds_toArray, List.set_cons_zero, List.set_cons_succ]
                  refine take0 (v := ?v310) (oi := ?o310) 1 ?hi310 (by kernel_rfl) (by kernel_rfl) (by kernel_rfl) ?hq310 ?hy310 ?_
                  case hi310 => (simp only [List.getElem?_toArray, List.getElem?_cons_zero, List.getElem?_cons_succ]; rfl)
                  case hq310 => exact fun _ _ _ h => h
                  case hy310 => first | (refine ry_not ?_; rfl) | (refine ry_run (by rfl) (fun w' hw' => ?_); go_simp; try rfl)
                  simp only [Act.put, List.setIfInBounds_toArray, List.set_cons_zero, List.set_cons_succ]
                  refine take0 (v := ?v311) (oi := ?o311) 2 ?hi311 (by kernel_rfl) (by kernel_rfl) (by kernel_rfl) ?hq311 ?hy311 ?_
                  case hi311 => (simp only [List.getElem?_toArray, List.getElem?_cons_zero, List.getElem?_cons_succ]; rfl)
                  case hq311 => exact fun _ _ _ h => h
                  case hy311 => first | (refine ry_not ?_; rfl) | (refine ry_run (by rfl) (fun w' hw' => ?_); go_simp; try rfl)
                  simp only [Act.put, List.setIfInBounds_toArray, List.set_cons_zero, List.set_cons_succ]
                  refine take0 (v := ?v312) (oi := ?o312) 3 ?hi312 (by kernel_rfl) (by kernel_rfl) (by kernel_rfl) ?hq312 ?hy312 ?_
                  case hi312 => (simp only [List.getElem?_toArray, List.getElem?_cons_zero, List.getElem?_cons_succ]; rfl)
                  case hq312 => exact fun _ _ _ h => h
                  case hy312 => first | (refine ry_not ?_; rfl) | (refine ry_run (by rfl) (fun w' hw' => ?_); go_simp; try rfl)
                  simp only [Act.put, List.setIfInBounds_toArray, List.set_cons_zero, List.set_cons_succ]
                  refine take0 (v := ?v313) (oi := ?o313) 4 ?hi313 (by kernel_rfl) (by kernel_rfl) (by kernel_rfl) ?hq313 ?hy313 ?_
                  case hi313 => (simp only [List.getElem?_toArray, List.getElem?_cons_zero, List.getElem?_cons_succ]; rfl)
                  case hq313 => exact fun _ _ _ h => h
                  case hy313 => first | (refine ry_not ?_; rfl) | (refine ry_run (by rfl) (fun w' hw' => ?_); go_simp; try rfl)
                  simp only [Act.put, List.setIfInBounds_toArray, List.set_cons_zero, List.set_cons_succ]
                  refine take0 (v := ?v314) (oi := ?o314) 5 ?hi314 (by kernel_rfl) (by kernel_rfl) (by kernel_rfl) ?hq314 ?hy314 ?_
                  case hi314 => (simp only [List.getElem?_toArray, List.getElem?_cons_zero, List.getElem?_cons_succ]; rfl)
                  case hq314 => exact fun _ _ _ h => h
                  case hy314 => first | (refine ry_not ?_; rfl) | (refine ry_run (by rfl) (fun w' hw' => ?_); go_simp; try rfl)
                  simp only [Act.put, List.setIfInBounds_toArray, List.set_cons_zero, List.set_cons_succ]
                  refine take0 (v := ?v315) (oi := ?o315) 6 ?hi315 (by kernel_rfl) (by kernel_rfl) (by kernel_rfl) ?hq315 ?hy315 ?_
                  case hi315 => (simp only [List.getElem?_toArray, List.getElem?_cons_zero, List.getElem?_cons_succ]; rfl)
                  case hq315 => exact fun _ _ _ h => h
                  case hy315 => first | (refine ry_not ?_; rfl) | (refine ry_run (by rfl) (fun w' hw' => ?_); go_simp; try rfl)
                  simp only [Act.put, List.setIfInBounds_toArray, List.set_cons_zero, List.set_cons_succ]
                  refine take0 (v := ?v316) (oi := ?o316) 7 ?hi316 (by kernel_rfl) (by kernel_rfl) (by kernel_rfl) ?hq316 ?hy316 ?_
                  case hi316 => (simp only [List.getElem?_toArray, List.getElem?_cons_zero, List.getElem?_cons_succ]; rfl)
                  case hq316 => exact fun _ _ _ h => h
                  case hy316 => first | (refine ry_not ?_; rfl) | (refine ry_run (by rfl) (fun w' hw' => ?_); go_simp; try rfl)
                  simp only [Act.put, List.setIfInBounds_toArray, List.set_cons_zero, List.set_cons_succ]
                  refine take0 (v := ?v317) (oi := ?o317) 8 ?hi317 (by kernel_rfl) (by kernel_rfl) (by kernel_rfl) ?hq317 ?hy317 ?_
                  case hi317 => (simp only [List.getElem?_toArray, List.getElem?_cons_zero, List.getElem?_cons_succ]; rfl)
                  case hq317 => exact fun _ _ _ h => h
                  case hy317 => first | (refine ry_not ?_; rfl) | (refine ry_run (by rfl) (fun w' hw' => ?_); go_simp; try rfl)
                  simp only [Act.put, List.setIfInBounds_toArray, List.set_cons_zero, List.set_cons_succ]
                  refine take0 (v := ?v318) (oi := ?o318) 9 ?hi318 (by kernel_rfl) (by kernel_rfl) (by kernel_rfl) ?hq318 ?hy318 ?_
                  case hi318 => (simp only [List.getElem?_toArray, List.getElem?_cons_zero, List.getElem?_cons_succ]; rfl)
                  case hq318 => exact fun _ _ _ h => h
                  case hy318 => first | (refine ry_not ?_; rfl) | (refine ry_run (by rfl) (fun w' hw' => ?_); go_simp; try rfl)
                  simp only [Act.put, List.setIfInBounds_toArray, List.set_cons_zero, List.set_cons_succ]
                  refine take0 (v := ?v319) (oi := ?o319) 10 ?hi319 (by kernel_rfl) (by kernel_rfl) (by kernel_rfl) ?hq319 ?hy319 ?_
                  case hi319 => (simp only [List.getElem?_toArray, List.getElem?_cons_zero, List.getElem?_cons_succ]; rfl)
                  case hq319 => exact fun _ _ _ h => h
                  case hy319 => first | (refine ry_not ?_; rfl) | (refine ry_run (by rfl) (fun w' hw' => ?_); go_simp; try rfl)
                  simp only [Act.put, List.setIfInBounds_toArray, List.set_cons_zero, List.set_cons_succ]
                  refine take0 (v := ?v320) (oi := ?o320) 11 ?hi320 (by kernel_rfl) (by kernel_rfl) (by kernel_rfl) ?hq320 ?hy320 ?_
                  case hi320 => (simp only [List.getElem?_toArray, List.getElem?_cons_zero, List.getElem?_cons_succ]; rfl)
                  case hq320 => exact fun _ _ _ h => h
                  case hy320 => first | (refine ry_not ?_; rfl) | (refine ry_run (by rfl) (fun w' hw' => ?_); go_simp; try rfl)
                  simp only [Act.put, List.setIfInBounds_toArray, List.set_cons_zero, List.set_cons_succ]
                  refine take0 (v := ?v321) (oi := ?o321) 12 ?hi321 (by kernel_rfl) (by kernel_rfl) (by kernel_rfl) ?hq321 ?hy321 ?_
                  case hi321 => (simp only [List.getElem?_toArray, List.getElem?_cons_zero, List.getElem?_cons_succ]; rfl)
                  case hq321 => exact fun _ _ _ h => h
                  case hy321 => first | (refine ry_not ?_; rfl) | (refine ry_run (by rfl) (fun w' hw' => ?_); go_simp; try rfl)
                  simp only [Act.put, List.setIfInBounds_toArray, List.set_cons_zero, List.set_cons_succ]
                  refine take0 (v := ?v322) (oi := ?o322) 13 ?hi322 (by kernel_rfl) (by kernel_rfl) (by kernel_rfl) ?hq322 ?hy322 ?_
                  case hi322 => (simp only [List.getElem?_toArray, List.getElem?_cons_zero, List.getElem?_cons_succ]; rfl)
                  case hq322 => exact fun _ _ _ h => h
                  case hy322 => first | (refine ry_not ?_; rfl) | (refine ry_run (by rfl) (fun w' hw' => ?_); go_simp; try rfl)
                  simp only [Act.put, List.setIfInBounds_toArray, List.set_cons_zero, List.set_cons_succ]
                  refine take0 (v := ?v323) (oi := ?o323) 14 ?hi323 (by kernel_rfl) (by kernel_rfl) (by kernel_rfl) ?hq323 ?hy323 ?_
                  case hi323 => (simp only [List.getElem?_toArray, List.getElem?_cons_zero, List.getElem?_cons_succ]; rfl)
                  case hq323 => exact fun _ _ _ h => h
                  case hy323 => first | (refine ry_not ?_; rfl) | (refine ry_run (by rfl) (fun w' hw' => ?_); go_simp; try rfl)
                  simp only [Act.put, List.setIfInBounds_toArray, List.set_cons_zero, List.set_cons_succ]
                  refine take0 (v := ?v324) (oi := ?o324) 15 ?hi324 (by kernel_rfl) (by kernel_rfl) (by kernel_rfl) ?hq324 ?hy324 ?_
                  case hi324 => (simp only [List.getElem?_toArray, List.getElem?_cons_zero, List.getElem?_cons_succ]; rfl)
                  case hq324 => exact fun _ _ _ h => h
                  case hy324 => first | (refine ry_not ?_; rfl) | (refine ry_run (by rfl) (fun w' hw' => ?_); go_simp; try rfl)
                  simp only [Act.put, List.setIfInBounds_toArray, List.set_cons_zero, List.set_cons_succ]
                  refine take0 (v := ?v325) (oi := ?o325) 16 ?hi325 (by kernel_rfl) (by kernel_rfl) (by kernel_rfl) ?hq325 ?hy325 ?_
                  case hi325 => (simp only [List.getElem?_toArray, List.getElem?_cons_zero, List.getElem?_cons_succ]; rfl)
                  case hq325 => exact fun _ _ _ h => h
                  case hy325 => first | (refine ry_not ?_; rfl) | (refine ry_run (by rfl) (fun w' hw' => ?_); go_simp; try rfl)
                  simp only [Act.put, List.setIfInBounds_toArray, List.set_cons_zero, List.set_cons_succ]
                  refine take0 (v := ?v326) (oi := ?o326) 17 ?hi326 (by kernel_rfl) (by kernel_rfl) (by kernel_rfl) ?hq326 ?hy326 ?_
                  case hi326 => (simp only [List.getElem?_toArray, List.getElem?_cons_zero, List.getElem?_cons_succ]; rfl)
                  case hq326 => exact fun _ _ _ h => h
                  case hy326 => first | (refine ry_not ?_; rfl) | (refine ry_run (by rfl) (fun w' hw' => ?_); go_simp; try rfl)
                  simp only [Act.put, List.setIfInBounds_toArray, List.set_cons_zero, List.set_cons_succ]
                  refine take0 (v := ?v327) (oi := ?o327) 18 ?hi327 (by kernel_rfl) (by kernel_rfl) (by kernel_rfl) ?hq327 ?hy327 ?_
                  case hi327 => (simp only [List.getElem?_toArray, List.getElem?_cons_zero, List.getElem?_cons_succ]; rfl)
                  case hq327 => exact fun _ _ _ h => h
                  case hy327 => first | (refine ry_not ?_; rfl) | (refine ry_run (by rfl) (fun w' hw' => ?_); go_simp; try rfl)
                  simp only [Act.put, List.setIfInBounds_toArray, List.set_cons_zero, List.set_cons_succ]
                  refine take0 (v := ?v328) (oi := ?o328) 19 ?hi328 (by kernel_rfl) (by kernel_rfl) (by kernel_rfl) ?hq328 ?hy328 ?_
                  case hi328 => (simp only [List.getElem?_toArray, List.getElem?_cons_zero, List.getElem?_cons_succ]; rfl)
                  case hq328 => exact fun _ _ _ h => h
                  case hy328 => first | (refine ry_not ?_; rfl) | (refine ry_run (by rfl) (fun w' hw' => ?_); go_simp; try rfl)
                  simp only [Act.put, List.setIfInBounds_toArray, List.set_cons_zero, List.set_cons_succ]
                  refine take0 (v := ?v329) (oi := ?o329) 20 ?hi329 (by kernel_rfl) (by kernel_rfl) (by kernel_rfl) ?hq329 ?hy329 ?_
                  case hi329 => (simp only [List.getElem?_toArray, List.getElem?_cons_zero, List.getElem?_cons_succ]; rfl)
                  case hq329 => exact fun _ _ _ h => h
                  case hy329 => first | (refine ry_not ?_; rfl) | (refine ry_run (by rfl) (fun w' hw' => ?_); go_simp; try rfl)
                  simp only [Act.put, List.setIfInBounds_toArray, List.set_cons_zero, List.set_cons_succ]
                  refine take0 (v := ?v330) (oi := ?o330) 21 ?hi330 (by kernel_rfl) (by kernel_rfl) (by kernel_rfl) ?hq330 ?hy330 ?_
                  case hi330 => (simp only [List.getElem?_toArray, List.getElem?_cons_zero, List.getElem?_cons_succ]; rfl)
                  case hq330 => exact fun _ _ _ h => h
                  case hy330 => first | (refine ry_not ?_; rfl) | (refine ry_run (by rfl) (fun w' hw' => ?_); go_simp; try rfl)
                  simp only [Act.put, List.setIfInBounds_toArray, List.set_cons_zero, List.set_cons_succ]
                  refine take0 (v := ?v331) (oi := ?o331) 22 ?hi331 (by kernel_rfl) (by kernel_rfl) (by kernel_rfl) ?hq331 ?hy331 ?_
                  case hi331 => (simp only [List.getElem?_toArray, List.getElem?_cons_zero, List.getElem?_cons_succ]; rfl)
                  case hq331 => exact fun _ _ _ h => h
                  case hy331 => first | (refine ry_not ?_; rfl) | (refine ry_run (by rfl) (fun w' hw' => ?_); go_simp; try rfl)
                  simp only [Act.put, List.setIfInBounds_toArray, List.set_cons_zero, List.set_cons_succ]
                  refine take0 (v := ?v332) (oi := ?o332) 23 ?hi332 (by kernel_rfl) (by kernel_rfl) (by kernel_rfl) ?hq332 ?hy332 ?_
                  case hi332 => (simp only [List.getElem?_toArray, List.getElem?_cons_zero, List.getElem?_cons_succ]; rfl)
                  case hq332 => exact fun _ _ _ h => h
                  case hy332 => first | (refine ry_not ?_; rfl) | (refine ry_run (by rfl) (fun w' hw' => ?_); go_simp; try rfl)
                  simp only [Act.put, List.setIfInBounds_toArray, List.set_cons_zero, List.set_cons_succ]
                  refine take0 (v := ?v333) (oi := ?o333) 24 ?hi333 (by kernel_rfl) (by kernel_rfl) (by kernel_rfl) ?hq333 ?hy333 ?_
                  case hi333 => (simp only [List.getElem?_toArray, List.getElem?_cons_zero, List.getElem?_cons_succ]; rfl)
                  case hq333 => exact fun _ _ _ h => h
                  case hy333 => first | (refine ry_not ?_; rfl) | (refine ry_run (by rfl) (fun w' hw' => ?_); go_simp; try rfl)
                  simp only [Act.put, List.setIfInBounds_toArray, List.set_cons_zero, List.set_cons_succ]
                  refine take0 (v := ?v334) (oi := ?o334) 25 ?hi334 (by kernel_rfl) (by kernel_rfl) (by kernel_rfl) ?hq334 ?hy334 ?_
                  case hi334 => (simp only [List.getElem?_toArray, List.getElem?_cons_zero, List.getElem?_cons_succ]; rfl)
                  case hq334 => exact fun _ _ _ h => h
                  case hy334 => first | (refine ry_not ?_; rfl) | (refine ry_run (by rfl) (fun w' hw' => ?_); go_simp; try rfl)
                  simp only [Act.put, List.setIfInBounds_toArray, List.set_cons_zero, List.set_cons_succ]
                  refine take0 (v := ?v335) (oi := ?o335) 26 ?hi335 (by kernel_rfl) (by kernel_rfl) (by kernel_rfl) ?hq335 ?hy335 ?_
                  case hi335 => (simp only [List.getElem?_toArray, List.getElem?_cons_zero, List.getElem?_cons_succ]; rfl)
                  case hq335 => exact fun _ _ _ h => h
                  case hy335 => first | (refine ry_not ?_; rfl) | (refine ry_run (by rfl) (fun w' hw' => ?_); go_simp; try rfl)
                  simp only [Act.put, List.setIfInBounds_toArray, List.set_cons_zero, List.set_cons_succ]
                  refine take0 (v := ?v336) (oi := ?o336) 27 ?hi336 (by kernel_rfl) (by kernel_rfl) (by kernel_rfl) ?hq336 ?hy336 ?_
                  case hi336 => (simp only [List.getElem?_toArray, List.getElem?_cons_zero, List.getElem?_cons_succ]; rfl)
                  case hq336 => exact fun _ _ _ h => h
                  case hy336 => first | (refine ry_not ?_; rfl) | (refine ry_run (by rfl) (fun w' hw' => ?_); go_simp; try rfl)
                  simp only [Act.put, List.setIfInBounds_toArray, List.set_cons_zero, List.set_cons_succ]
                  refine take0 (v := ?v337) (oi := ?o337) 28 ?hi337 (by kernel_rfl) (by kernel_rfl) (by kernel_rfl) ?hq337 ?hy337 ?_
                  case hi337 => (simp only [List.getElem?_toArray, List.getElem?_cons_zero, List.getElem?_cons_succ]; rfl)
                  case hq337 => exact fun _ _ _ h => h
                  case hy337 => first | (refine ry_not ?_; rfl) | (refine ry_run (by rfl) (fun w' hw' => ?_); go_simp; try rfl)
                  simp only [Act.put, List.setIfInBounds_toArray, List.set_cons_zero, List.set_cons_succ]
                  refine take0 (v := ?v338) (oi := ?o338) 29 ?hi338 (by kernel_rfl) (by kernel_rfl) (by kernel_rfl) ?hq338 ?hy338 ?_
                  case hi338 => (simp only [List.getElem?_toArray, List.getElem?_cons_zero, List.getElem?_cons_succ]; rfl)
                  case hq338 => exact fun _ _ _ h => h
                  case hy338 => first | (refine ry_not ?_; rfl) | (refine ry_run (by rfl) (fun w' hw' => ?_); go_simp; try rfl)
                  simp only [Act.put, List.setIfInBounds_toArray, List.set_cons_zero, List.set_cons_succ]
                  refine take0 (v := ?v339) (oi := ?o339) 30 ?hi339 (by kernel_rfl) (by kernel_rfl) (by kernel_rfl) ?hq339 ?hy339 ?_
                  case hi339 => (simp only [List.getElem?_toArray, List.getElem?_cons_zero, List.getElem?_cons_succ]; rfl)
                  case hq339 => exact fun _ _ _ h => h
                  case hy339 => first | (refine ry_not ?_; rfl) | (refine ry_run (by rfl) (fun w' hw' => ?_); go_simp; try rfl)
                  simp only [Act.put, List.setIfInBounds_toArray, List.set_cons_zero, List.set_cons_succ]
                  refine take0 (v := ?v340) (oi := ?o340) 31 ?hi340 (by kernel_rfl) (by kernel_rfl) (by kernel_rfl) ?hq340 ?hy340 ?_
                  case hi340 => (simp only [List.getElem?_toArray, List.getElem?_cons_zero, List.getElem?_cons_succ]; rfl)
                  case hq340 => exact fun _ _ _ h => h
                  case hy340 => first | (refine ry_not ?_; rfl) | (refine ry_run (by rfl) (fun w' hw' => ?_); go_simp; try rfl)
                  simp only [Act.put, List.setIfInBounds_toArray, List.set_cons_zero, List.set_cons_succ]
                  refine wpAnyM_done (by kernel_rfl) ?_
                  have hbR := HBRd.out
                  have hmE := (((Mod.refl (fun g => g = w.heap.size + 1) wr.drew).set1 rfl 0 (.slice none 0 0)).set1 rfl 1 (.int .i64 (0))).set1 rfl 2 (.slice none 0 0)
                  have hb2 := ((hbR.set 0 (.slice none 0 0)).set 1 (.int .i64 (0))).set 2 (.slice none 0 0)
                  have z0 := hb2.cell (o := 0) rfl
                  have z1 := hb2.cell (o := 1) rfl
                  have z2 := hb2.cell (o := 2) rfl
                  have hbY := HBRy.out
                  have y0z := (hbY.set 0 (.slice none 0 0)).cell (o := 0) rfl
                  have y1z := ((hbY.set 0 (.slice none 0 0)).set 1 (.int .i64 (0))).cell (o := 1) rfl
                  have y2z := (((hbY.set 0 (.slice none 0 0)).set 1 (.int .i64 (0))).set 2 (.slice none 0 0)).cell (o := 2) rfl
                  have f0 := hbY.frozen 0
                  have f1 := hbY.frozen 1
                  have f2 := hbY.frozen 2
                  have c0 := hbY.cell (o := 0) rfl
                  have c1 := hbY.cell (o := 1) rfl
                  have c2 := hbY.cell (o := 2) rfl
                  have HME := Lib.hid (Mod.trans HMd.out hmE (fun i hi e => by omega))
                  have HMEE := Lib.hid hmE
                  clear hbY hbR hmE hb2
                  go_wp2_with fail
                  skip
                  refine bodyPost_ret (v := .tuple #[.agg #[.slice none 0 0, .int .i64 (0), .slice none 0 0], .int .i64 122]) (by simp [results, Tryd.results44, go_sem, z0, z1, z2, y0z, y1z, y2z]) rfl ⟨_, _, rfl, World.ownsRow_nil _ _ _ _, World.ownsRow_nil _ _ _ _, HME.out⟩
              · have b1 : (L != level) = true := by simpa using hLl
                have b1' : (L == level) = false := by simpa using hLl
                rw [if_neg (fun h => by rcases h.2 with h | h; omega; exact hLl h.1)] at hn
                subst hn
                clear HCK6 HMR HBF2
                go_wp2_with fail
                refine region_m (by kernel_rfl) ?_
                simp only [List.length_cons, List.length_nil, List.replicate]
                refine take0 (v := ?v341) (oi := ?o341) 0 ?hi341 (by kernel_rfl) (by kernel_rfl) (by kernel_rfl) ?hq341 ?hy341 ?_
                case hi341 => (simp only [List.getElem?_toArray, List.getElem?_cons_zero, List.getElem?_cons_succ]; rfl)
                case hq341 => exact fun _ _ _ h => h
                case hy341 => first | (refine ry_not ?_; rfl) | (refine ry_run (by rfl) (fun w' hw' => ?_); go_simp; try rfl)
                simp only [Act.put, List.setIfInBounds_toArray, List.set_cons_zero, List.set_cons_succ]
                refine take0 (v := ?v342) (oi := ?o342) 1 ?hi342 (by kernel_rfl) (by kernel_rfl) (by kernel_rfl) ?hq342 ?hy342 ?_
                case hi342 => (simp only [List.getElem?_toArray, List.getElem?_cons_zero, List.getElem?_cons_succ]; rfl)
                case hq342 => exact fun _ _ _ h => h
                case hy342 => first | (refine ry_not ?_; rfl) | (refine ry_run (by rfl) (fun w' hw' => ?_); go_simp; try rfl)
                simp only [Act.put, List.setIfInBounds_toArray, List.set_cons_zero, List.set_cons_succ]
                refine take0 (v := ?v343) (oi := ?o343) 2 ?hi343 (by kernel_rfl) (by kernel_rfl) (by kernel_rfl) ?hq343 ?hy343 ?_
                case hi343 => (simp only [List.getElem?_toArray, List.getElem?_cons_zero, List.getElem?_cons_succ]; rfl)
                case hq343 => exact fun _ _ _ h => h
                case hy343 => first | (refine ry_not ?_; rfl) | (refine ry_run (by rfl) (fun w' hw' => ?_); go_simp; try rfl)
                simp only [Act.put, List.setIfInBounds_toArray, List.set_cons_zero, List.set_cons_succ]
                refine take0 (v := ?v344) (oi := ?o344) 3 ?hi344 (by kernel_rfl) (by kernel_rfl) (by kernel_rfl) ?hq344 ?hy344 ?_
                case hi344 => (simp only [List.getElem?_toArray, List.getElem?_cons_zero, List.getElem?_cons_succ]; rfl)
                case hq344 => exact fun _ _ _ h => h
                case hy344 => first | (refine ry_not ?_; rfl) | (refine ry_run (by rfl) (fun w' hw' => ?_); go_simp; try rfl)
                simp only [Act.put, List.setIfInBounds_toArray, List.set_cons_zero, List.set_cons_succ]
                refine take0 (v := ?v345) (oi := ?o345) 4 ?hi345 (by kernel_rfl) (by kernel_rfl) (by kernel_rfl) ?hq345 ?hy345 ?_
                case hi345 => (simp only [List.getElem?_toArray, List.getElem?_cons_zero, List.getElem?_cons_succ]; rfl)
                case hq345 => exact fun _ _ _ h => h
                case hy345 => first | (refine ry_not ?_; rfl) | (refine ry_run (by rfl) (fun w' hw' => ?_); go_simp; try rfl)
                simp only [Act.put, List.setIfInBounds_toArray, List.set_cons_zero, List.set_cons_succ]
                refine take0 (v := ?v346) (oi := ?o346) 5 ?hi346 (by kernel_rfl) (by kernel_rfl) (by kernel_rfl) ?hq346 ?hy346 ?_
                case hi346 => (simp only [List.getElem?_toArray, List.getElem?_cons_zero, List.getElem?_cons_succ]; rfl)
                case hq346 => exact fun _ _ _ h => h
                case hy346 => first | (refine ry_not ?_; rfl) | (refine ry_run (by rfl) (fun w' hw' => ?_); go_simp; try rfl)
                simp only [Act.put, List.setIfInBounds_toArray, List.set_cons_zero, List.set_cons_succ]
                refine take0 (v := ?v347) (oi := ?o347) 6 ?hi347 (by kernel_rfl) (by kernel_rfl) (by kernel_rfl) ?hq347 ?hy347 ?_
                case hi347 => (simp only [List.getElem?_toArray, List.getElem?_cons_zero, List.getElem?_cons_succ]; rfl)
                case hq347 => exact fun _ _ _ h => h
                case hy347 => first | (refine ry_not ?_; rfl) | (refine ry_run (by rfl) (fun w' hw' => ?_); go_simp; try rfl)
                simp only [Act.put, List.setIfInBounds_toArray, List.set_cons_zero, List.set_cons_succ]
                refine take0 (v := ?v348) (oi := ?o348) 7 ?hi348 (by kernel_rfl) (by kernel_rfl) (by kernel_rfl) ?hq348 ?hy348 ?_
                case hi348 => (simp only [List.getElem?_toArray, List.getElem?_cons_zero, List.getElem?_cons_succ]; rfl)
                case hq348 => exact fun _ _ _ h => h
                case hy348 => first | (refine ry_not ?_; rfl) | (refine ry_run (by rfl) (fun w' hw' => ?_); go_simp; try rfl)
                simp only [Act.put, List.setIfInBounds_toArray, List.set_cons_zero, List.set_cons_succ]
                refine take0 (v := ?v349) (oi := ?o349) 8 ?hi349 (by kernel_rfl) (by kernel_rfl) (by kernel_rfl) ?hq349 ?hy349 ?_
                case hi349 => (simp only [List.getElem?_toArray, List.getElem?_cons_zero, List.getElem?_cons_succ]; rfl)
                case hq349 => exact fun _ _ _ h => h
                case hy349 => first | (refine ry_not ?_; rfl) | (refine ry_run (by rfl) (fun w' hw' => ?_); go_simp; try rfl)
                simp only [Act.put, List.setIfInBounds_toArray, List.set_cons_zero, List.set_cons_succ]
                refine take0 (v := ?v350) (oi := ?o350) 9 ?hi350 (by kernel_rfl) (by kernel_rfl) (by kernel_rfl) ?hq350 ?hy350 ?_
                case hi350 => (simp only [List.getElem?_toArray, List.getElem?_cons_zero, List.getElem?_cons_succ]; rfl)
                case hq350 => exact fun _ _ _ h => h
                case hy350 => first | (refine ry_not ?_; rfl) | (refine ry_run (by rfl) (fun w' hw' => ?_); go_simp; try rfl)
                simp only [Act.put, List.setIfInBounds_toArray, List.set_cons_zero, List.set_cons_succ]
                refine take0 (v := ?v351) (oi := ?o351) 10 ?hi351 (by kernel_rfl) (by kernel_rfl) (by kernel_rfl) ?hq351 ?hy351 ?_
                case hi351 => (simp only [List.getElem?_toArray, List.getElem?_cons_zero, List.getElem?_cons_succ]; rfl)
                case hq351 => exact fun _ _ _ h => h
                case hy351 => first | (refine ry_not ?_; rfl) | (refine ry_run (by rfl) (fun w' hw' => ?_); go_simp; try rfl)
                simp only [Act.put, List.setIfInBounds_toArray, List.set_cons_zero, List.set_cons_succ]
                refine take0 (v := ?v352) (oi := ?o352) 11 ?hi352 (by kernel_rfl) (by kernel_rfl) (by kernel_rfl) ?hq352 ?hy352 ?_
                case hi352 => (simp only [List.getElem?_toArray, List.getElem?_cons_zero, List.getElem?_cons_succ]; rfl)
                case hq352 => exact fun _ _ _ h => h
                case hy352 => first | (refine ry_not ?_; rfl) | (refine ry_run (by rfl) (fun w' hw' => ?_); go_simp; try rfl)
                simp only [Act.put, List.setIfInBounds_toArray, List.set_cons_zero, List.set_cons_succ]
                refine take0 (v := ?v353) (oi := ?o353) 12 ?hi353 (by kernel_rfl) (by kernel_rfl) (by kernel_rfl) ?hq353 ?hy353 ?_
                case hi353 => (simp only [List.getElem?_toArray, List.getElem?_cons_zero, List.getElem?_cons_succ]; rfl)
                case hq353 => exact fun _ _ _ h => h
                case hy353 => first | (refine ry_not ?_; rfl) | (refine ry_run (by rfl) (fun w' hw' => ?_); go_simp; try rfl)
                simp only [Act.put, List.setIfInBounds_toArray, List.set_cons_zero, List.set_cons_succ]
                refine take0 (v := ?v354) (oi := ?o354) 13 ?hi354 (by kernel_rfl) (by kernel_rfl) (by kernel_rfl) ?hq354 ?hy354 ?_
                case hi354 => (simp only [List.getElem?_toArray, List.getElem?_cons_zero, List.getElem?_cons_succ]; rfl)
                case hq354 => exact fun _ _ _ h => h
                case hy354 => first | (refine ry_not ?_; rfl) | (refine ry_run (by rfl) (fun w' hw' => ?_); go_simp; try rfl)
                simp only [Act.put, List.setIfInBounds_toArray, List.set_cons_zero, List.set_cons_succ]
                refine take0 (v := ?v355) (oi := ?o355) 14 ?hi355 (by kernel_rfl) (by kernel_rfl) (by kernel_rfl) ?hq355 ?hy355 ?_
                case hi355 => (simp only [List.getElem?_toArray, List.getElem?_cons_zero, List.getElem?_cons_succ]; rfl)
                case hq355 => exact fun _ _ _ h => h
                case hy355 => first | (refine ry_not ?_; rfl) | (refine ry_run (by rfl) (fun w' hw' => ?_); go_simp; try rfl)
                simp only [Act.put, List.setIfInBounds_toArray, List.set_cons_zero, List.set_cons_succ]
                refine take0 (v := ?v356) (oi := ?o356) 15 ?hi356 (by kernel_rfl) (by kernel_rfl) (by kernel_rfl) ?hq356 ?hy356 ?_
                case hi356 => (simp only [List.getElem?_toArray, List.getElem?_cons_zero, List.getElem?_cons_succ]; rfl)
                case hq356 => exact fun _ _ _ h => h
                case hy356 => first | (refine ry_not ?_; rfl) | (refine ry_run (by rfl) (fun w' hw' => ?_); go_simp; try rfl)
                simp only [Act.put, List.setIfInBounds_toArray, List.set_cons_zero, List.set_cons_succ]
                refine take0 (v := ?v357) (oi := ?o357) 16 ?hi357 (by kernel_rfl) (by kernel_rfl) (by kernel_rfl) ?hq357 ?hy357 ?_
                case hi357 => (simp only [List.getElem?_toArray, List.getElem?_cons_zero, List.getElem?_cons_succ]; rfl)
                case hq357 => exact fun _ _ _ h => h
                case hy357 => first | (refine ry_not ?_; rfl) | (refine ry_run (by rfl) (fun w' hw' => ?_); go_simp; try rfl)
                simp only [Act.put, List.setIfInBounds_toArray, List.set_cons_zero, List.set_cons_succ]
                refine take0 (v := ?v358) (oi := ?o358) 17 ?hi358 (by kernel_rfl) (by kernel_rfl) (by kernel_rfl) ?hq358 ?hy358 ?_
                case hi358 => (simp only [List.getElem?_toArray, List.getElem?_cons_zero, List.getElem?_cons_succ]; rfl)
                case hq358 => exact fun _ _ _ h => h
                case hy358 => first | (refine ry_not ?_; rfl) | (refine ry_run (by rfl) (fun w' hw' => ?_); go_simp; try rfl)
                simp only [Act.put, List.setIfInBounds_toArray, List.set_cons_zero, List.set_cons_succ]
                refine take0 (v := ?v359) (oi := ?o359) 18 ?hi359 (by kernel_rfl) (by kernel_rfl) (by kernel_rfl) ?hq359 ?hy359 ?_
                case hi359 => (simp only [List.getElem?_toArray, List.getElem?_cons_zero, List.getElem?_cons_succ]; rfl)
                case hq359 => exact fun _ _ _ h => h
                case hy359 => first | (refine ry_not ?_; rfl) | (refine ry_run (by rfl) (fun w' hw' => ?_); go_simp; try rfl)
                simp only [Act.put, List.setIfInBounds_toArray, List.set_cons_zero, List.set_cons_succ]
                refine take0 (v := ?v360) (oi := ?o360) 19 ?hi360 (by kernel_rfl) (by kernel_rfl) (by kernel_rfl) ?hq360 ?hy360 ?_
                case hi360 => (simp only [List.getElem?_toArray, List.getElem?_cons_zero, List.getElem?_cons_succ]; rfl)
                case hq360 => exact fun _ _ _ h => h
                case hy360 => first | (refine ry_not ?_; rfl) | (refine ry_run (by rfl) (fun w' hw' => ?_); go_simp; try rfl)
                simp only [Act.put, List.setIfInBounds_toArray, List.set_cons_zero, List.set_cons_succ]
                refine take0 (v := ?v361) (oi := ?o361) 20 ?hi361 (by kernel_rfl) (by kernel_rfl) (by kernel_rfl) ?hq361 ?hy361 ?_
                case hi361 => (simp only [List.getElem?_toArray, List.getElem?_cons_zero, List.getElem?_cons_succ]; rfl)
                case hq361 => exact fun _ _ _ h => h
                case hy361 => first | (refine ry_not ?_; rfl) | (refine ry_run (by rfl) (fun w' hw' => ?_); go_simp; try rfl)
                simp only [Act.put, List.setIfInBounds_toArray, List.set_cons_zero, List.set_cons_succ]
                refine take0 (v := ?v362) (oi := ?o362) 21 ?hi362 (by kernel_rfl) (by kernel_rfl) (by kernel_rfl) ?hq362 ?hy362 ?_
                case hi362 => (simp only [List.getElem?_toArray, List.getElem?_cons_zero, List.getElem?_cons_succ]; rfl)
                case hq362 => exact fun _ _ _ h => h
                case hy362 => first | (refine ry_not ?_; rfl) | (refine ry_run (by rfl) (fun w' hw' => ?_); go_simp; try rfl)
                simp only [Act.put, List.setIfInBounds_toArray, List.set_cons_zero, List.set_cons_succ]
                refine take0 (v := ?v363) (oi := ?o363) 22 ?hi363 (by kernel_rfl) (by kernel_rfl) (by kernel_rfl) ?hq363 ?hy363 ?_
                case hi363 => (simp only [List.getElem?_toArray, List.getElem?_cons_zero, List.getElem?_cons_succ]; rfl)
                case hq363 => exact fun _ _ _ h => h
                case hy363 => first | (refine ry_not ?_; rfl) | (refine ry_run (by rfl) (fun w' hw' => ?_); go_simp; try rfl)
                simp only [Act.put, List.setIfInBounds_toArray, List.set_cons_zero, List.set_cons_succ]
                refine take0 (v := ?v364) (oi := ?o364) 23 ?hi364 (by kernel_rfl) (by kernel_rfl) (by kernel_rfl) ?hq364 ?hy364 ?_
                case hi364 => (simp only [List.getElem?_toArray, List.getElem?_cons_zero, List.getElem?_cons_succ]; rfl)
                case hq364 => exact fun _ _ _ h => h
                case hy364 => first | (refine ry_not ?_; rfl) | (refine ry_run (by rfl) (fun w' hw' => ?_); go_simp; try rfl)
                simp only [Act.put, List.setIfInBounds_toArray, List.set_cons_zero, List.set_cons_succ]
                refine take0 (v := ?v365) (oi := ?o365) 24 ?hi365 (by kernel_rfl) (by kernel_rfl) (by kernel_rfl) ?hq365 ?hy365 ?_
                case hi365 => (simp only [List.getElem?_toArray, List.getElem?_cons_zero, List.getElem?_cons_succ]; rfl)
                case hq365 => exact fun _ _ _ h => h
                case hy365 => first | (refine ry_not ?_; rfl) | (refine ry_run (by rfl) (fun w' hw' => ?_); go_simp; try rfl)
                simp only [Act.put, List.setIfInBounds_toArray, List.set_cons_zero, List.set_cons_succ]
                refine take0 (v := ?v366) (oi := ?o366) 25 ?hi366 (by kernel_rfl) (by kernel_rfl) (by kernel_rfl) ?hq366 ?hy366 ?_
                case hi366 => (simp only [List.getElem?_toArray, List.getElem?_cons_zero, List.getElem?_cons_succ]; rfl)
                case hq366 => exact fun _ _ _ h => h
                case hy366 => first | (refine ry_not ?_; rfl) | (refine ry_run (by rfl) (fun w' hw' => ?_); go_simp; try rfl)
                simp only [Act.put, List.setIfInBounds_toArray, List.set_cons_zero, List.set_cons_succ]
                refine take0 (v := ?v367) (oi := ?o367) 26 ?hi367 (by kernel_rfl) (by kernel_rfl) (by kernel_rfl) ?hq367 ?hy367 ?_
                case hi367 => (simp only [List.getElem?_toArray, List.getElem?_cons_zero, List.getElem?_cons_succ]; rfl)
                case hq367 => exact fun _ _ _ h => h
                case hy367 => first | (refine ry_not ?_; rfl) | (refine ry_run (by rfl) (fun w' hw' => ?_); go_simp; try rfl)
                simp only [Act.put, List.setIfInBounds_toArray, List.set_cons_zero, List.set_cons_succ]
                refine take0 (v := ?v368) (oi := ?o368) 27 ?hi368 (by kernel_rfl) (by kernel_rfl) (by kernel_rfl) ?hq368 ?hy368 ?_
                case hi368 => (simp only [List.getElem?_toArray, List.getElem?_cons_zero, List.getElem?_cons_succ]; rfl)
                case hq368 => exact fun _ _ _ h => h
                case hy368 => first | (refine ry_not ?_; rfl) | (refine ry_run (by rfl) (fun w' hw' => ?_); go_simp; try rfl)
                simp only [Act.put, List.setIfInBounds_toArray, List.set_cons_zero, List.set_cons_succ]
                refine take0 (v := ?v369) (oi := ?o369) 28 ?hi369 (by kernel_rfl) (by kernel_rfl) (by kernel_rfl) ?hq369 ?hy369 ?_
                case hi369 => (simp only [List.getElem?_toArray, List.getElem?_cons_zero, List.getElem?_cons_succ]; rfl)
                case hq369 => exact fun _ _ _ h => h
                case hy369 => first | (refine ry_not ?_; rfl) | (refine ry_run (by rfl) (fun w' hw' => ?_); go_simp; try rfl)
                simp only [Act.put, List.setIfInBounds_toArray, List.set_cons_zero, List.set_cons_succ]
                refine take0 (v := ?v370) (oi := ?o370) 29 ?hi370 (by kernel_rfl) (by kernel_rfl) (by kernel_rfl) ?hq370 ?hy370 ?_
                case hi370 => (simp only [List.getElem?_toArray, List.getElem?_cons_zero, List.getElem?_cons_succ]; rfl)
                case hq370 => exact fun _ _ _ h => h
                case hy370 => first | (refine ry_not ?_; rfl) | (refine ry_run (by rfl) (fun w' hw' => ?_); go_simp; try rfl)
                simp only [Act.put, List.setIfInBounds_toArray, List.set_cons_zero, List.set_cons_succ]
                refine take0 (v := ?v371) (oi := ?o371) 30 ?hi371 (by kernel_rfl) (by kernel_rfl) (by kernel_rfl) ?hq371 ?hy371 ?_
                case hi371 => (simp only [List.getElem?_toArray, List.getElem?_cons_zero, List.getElem?_cons_succ]; rfl)
                case hq371 => exact fun _ _ _ h => h
                case hy371 => first | (refine ry_not ?_; rfl) | (refine ry_run (by rfl) (fun w' hw' => ?_); go_simp; try rfl)
                simp only [Act.put, List.setIfInBounds_toArray, List.set_cons_zero, List.set_cons_succ]
                refine take0 (v := ?v372) (oi := ?o372) 31 ?hi372 (by kernel_rfl) (by kernel_rfl) (by kernel_rfl) ?hq372 ?hy372 ?_
                case hi372 => (simp only [List.getElem?_toArray, List.getElem?_cons_zero, List.getElem?_cons_succ]; rfl)
                case hq372 => exact fun _ _ _ h => h
                case hy372 => first | (refine ry_not ?_; rfl) | (refine ry_run (by rfl) (fun w' hw' => ?_); go_simp; try rfl)
                simp only [Act.put, List.setIfInBounds_toArray, List.set_cons_zero, List.set_cons_succ]
                refine wpAnyM_done (by kernel_rfl) ?_
                have hbR := HBRd.out
                have hmE := (((Mod.refl (fun g => g = w.heap.size + 1) wr.drew).set1 rfl 0 (.slice none 0 0)).set1 rfl 1 (.int .i64 (0))).set1 rfl 2 (.slice none 0 0)
                have hb2 := ((hbR.set 0 (.slice none 0 0)).set 1 (.int .i64 (0))).set 2 (.slice none 0 0)
                have z0 := hb2.cell (o := 0) rfl
                have z1 := hb2.cell (o := 1) rfl
                have z2 := hb2.cell (o := 2) rfl
                have hbY := HBRy.out
                have y0z := (hbY.set 0 (.slice none 0 0)).cell (o := 0) rfl
                have y1z := ((hbY.set 0 (.slice none 0 0)).set 1 (.int .i64 (0))).cell (o := 1) rfl
                have y2z := (((hbY.set 0 (.slice none 0 0)).set 1 (.int .i64 (0))).set 2 (.slice none 0 0)).cell (o := 2) rfl
                have f0 := hbY.frozen 0
                have f1 := hbY.frozen 1
                have f2 := hbY.frozen 2
                have c0 := hbY.cell (o := 0) rfl
                have c1 := hbY.cell (o := 1) rfl
                have c2 := hbY.cell (o := 2) rfl
                have HME := Lib.hid (Mod.trans HMd.out hmE (fun i hi e => by omega))
                have HMEE := Lib.hid hmE
                clear hbY hbR hmE hb2
                go_wp2_with fail
                skip
                refine bodyPost_ret (v := .tuple #[.agg #[.slice none 0 0, .int .i64 (0), .slice none 0 0], .int .i64 122]) (by simp [results, Tryd.results44, go_sem, z0, z1, z2, y0z, y1z, y2z]) rfl ⟨_, _, rfl, World.ownsRow_nil _ _ _ _, World.ownsRow_nil _ _ _ _, HME.out⟩
end Prolly
end Go.Proofs.YtpoljpjcmigobaaDoor
