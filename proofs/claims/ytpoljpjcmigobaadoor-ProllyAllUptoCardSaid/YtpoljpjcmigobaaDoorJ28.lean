/- Joined texts: ProG. -/
import Derived.Test.YtpoljpjcmigobaaDoorJ25
import Derived.Test.YtpoljpjcmigobaaDoorJ20
/- The walk of the reference's node. -/
namespace Go.Proofs.YtpoljpjcmigobaaDoor
set_option linter.unusedVariables false
set_option linter.unusedSimpArgs false
open Go.RowKit K Wire
namespace Prolly
open Go.Proofs.YtpoljpjcmigobaaDoor.Obj Go.Proofs.YtpoljpjcmigobaaDoor.Blob

def NodePost (n : PNode) (w : World) (e : Ending) (w' : World) : Prop :=
  ∃ vp vk, e = .returned (.tuple #[.agg #[vp, .int .i64 (pnL n), vk], .int .i64 (pnE n)]) ∧ w'.ownsRow w.heap.size 48 2 vp (pnP n).length ((pnP n).flatMap kc) ∧ w'.ownsRow w.heap.size 67 3 vk (pnK n).length ((pnK n).flatMap lc) ∧ Mod (fun _ => False) w w'
theorem pB_leaf (b : ByteArray) (k : Link) (level : Int) (ps : List Pair) (h : okLeaf b.data.toList = true) (ho : outLeaf b.data.toList = ps) :
    pnodeB b k level = if level < 0 ∨ (level = 0 ∧ 0 < ps.length ∧ (ps.length : Int) = k.many ∧ lastK ps = k.last) then .leaf ps else .bad 122 := by
  unfold pnodeB; rw [if_pos h, ho]
theorem pB_branch (b : ByteArray) (k : Link) (level : Int) (L : Int) (kids : List Link) (OB : Bool) (h : okLeaf b.data.toList = false) (ho : outBranch b.data.toList = (L, kids)) (hb : okBranch b.data.toList = OB) :
    pnodeB b k level = if OB = true ∧ (level < 0 ∨ (L = level ∧ manyL kids = k.many ∧ lastL kids = k.last)) then .branch L kids else .bad 122 := by
  unfold pnodeB; rw [if_neg (by rw [h]; decide), ho, hb]

set_option maxRecDepth 100000 in
set_option maxHeartbeats 8000000 in
theorem rNode_calls (A : Option Addr) (c : Nat) (objs : List Ob) (hob : ObsOk objs) (k : Link) (level : Int) (w : World) (hA : Cells w A (objs.flatMap oc)) (hkm : In64 k.many) :
    Calls Tryd.prog 44 #[.slice A objs.length c, .agg #[.string k.last, .string k.id, .int .i64 k.many], .int .i64 level] w (NodePost (pnodeOf objs k level) w) := by
  have hm2 := ((Mod.refl (fun _ => False) w).alloc (.cells #[.string k.last, .string k.id, .int .i64 k.many] 67)).alloc (.cells #[.slice none 0 0, .int .i64 0, .slice none 0 0] 92)
  have hbk : Has ((w.alloc (.cells #[.string k.last, .string k.id, .int .i64 k.many] 67)).alloc (.cells #[.slice none 0 0, .int .i64 0, .slice none 0 0] 92)) w.heap.size [.string k.last, .string k.id, .int .i64 k.many] 67 := (Has.new w _ _).alloc _
  have hbr : Has ((w.alloc (.cells #[.string k.last, .string k.id, .int .i64 k.many] 67)).alloc (.cells #[.slice none 0 0, .int .i64 0, .slice none 0 0] 92)) (w.heap.size + 1) [.slice none 0 0, .int .i64 0, .slice none 0 0] 92 := Has.lit (by simp)
  have HF := Lib.hid (find_calls A c objs k.id _ (hA.keep hm2 (fun _ _ h => h)) hob.many)
  have x1 := hbk.cell (o := 1) rfl
  obtain ⟨NN, hNN⟩ : ∃ NN, pnodeOf objs k level = NN := ⟨_, rfl⟩
  rw [hNN]
  have HNN := Lib.hid hNN
  unfold NodePost
  obtain ⟨W2, hW2⟩ : ∃ W2, (w.alloc (.cells #[.string k.last, .string k.id, .int .i64 k.many] 67)).alloc (.cells #[.slice none 0 0, .int .i64 0, .slice none 0 0] 92) = W2 := ⟨_, rfl⟩
  have hsz : W2.heap.size = w.heap.size + 2 := by rw [← hW2]; simp
  rw [hW2] at hm2 hbk hbr
  have HBK := Lib.hid hbk
  have HBR := Lib.hid hbr
  have HM2 := Lib.hid hm2
  have HW2 := Lib.hid hW2
  clear hA hm2 hbk hbr hNN hW2
  go_enter Tryd.func44, Tryd.ntmps44
  go_wp2_with fail
  refine HF.out.mono ?_
  rintro e w3 ⟨rfl, rfl⟩
  rw [HW2.out]
  clear x1 HF
  cases hf : findL objs k.id with
  | none =>
    have hn : NN = .bad 3 := by rw [← HNN.out]; unfold pnodeOf; rw [hf]
    subst hn
    simp only [show gotE none = 3 from rfl, show gotB none = ⟨#[]⟩ from rfl]
    have hbR := HBR.out
    have hmE := (((Mod.refl (fun g => g = w.heap.size + 1) W2).set1 rfl 0 (.slice none 0 0)).set1 rfl 1 (.int .i64 (0))).set1 rfl 2 (.slice none 0 0)
    have hb2 := ((hbR.set 0 (.slice none 0 0)).set 1 (.int .i64 (0))).set 2 (.slice none 0 0)
    have z0 := hb2.cell (o := 0) rfl
    have z1 := hb2.cell (o := 1) rfl
    have z2 := hb2.cell (o := 2) rfl
    have hbY := HBR.out
    have y0z := (hbY.set 0 (.slice none 0 0)).cell (o := 0) rfl
    have y1z := ((hbY.set 0 (.slice none 0 0)).set 1 (.int .i64 (0))).cell (o := 1) rfl
    have y2z := (((hbY.set 0 (.slice none 0 0)).set 1 (.int .i64 (0))).set 2 (.slice none 0 0)).cell (o := 2) rfl
    have f0 := hbY.frozen 0
    have f1 := hbY.frozen 1
    have f2 := hbY.frozen 2
    have c0 := hbY.cell (o := 0) rfl
    have c1 := hbY.cell (o := 1) rfl
    have c2 := hbY.cell (o := 2) rfl
    have HME := Lib.hid (Mod.trans HM2.out hmE (fun i hi e => by omega))
    have HMEE := Lib.hid hmE
    clear hbY hbR hmE hb2
    go_wp2_with fail
    skip
    refine bodyPost_ret (v := .tuple #[.agg #[.slice none 0 0, .int .i64 (0), .slice none 0 0], .int .i64 3]) (by simp [results, Tryd.results44, go_sem, z0, z1, z2, y0z, y1z, y2z]) rfl ⟨_, _, rfl, World.ownsRow_nil _ _ _ _, World.ownsRow_nil _ _ _ _, HME.out⟩
  | some b =>
    have hbs : b.size ≤ 100000000 := by obtain ⟨o, ho, hb⟩ := findL_mem hf; rw [← hb]; exact hob.small o ho
    have hn : NN = pnodeB b k level := by rw [← HNN.out]; unfold pnodeOf; rw [hf]
    simp only [show gotE (some b) = 0 from rfl, show gotB (some b) = b from rfl]
    have HTL := Lib.hid (fun w1 => rTakeLeaf_calls b w1 hbs)
    have HTB := Lib.hid (fun w1 => rTakeBranch_calls b w1 hbs)
    have hla := leaves_agree b.data.toList
    have hba := branches_agree b.data.toList
    rw [← hla.1, ← hla.2] at HTL
    rw [← hba.1, ← hba.2] at HTB
    clear HNN hla hba
    go_wp2_with fail
    refine (HTL.out _).mono ?_
    rintro e w4 ⟨vp, rfl, hvp, hm4⟩
    have hof := outLeaf_facts b.data.toList
    have hbr := outBranch_facts b.data.toList
    obtain ⟨ps, hps⟩ : ∃ ps, outLeaf b.data.toList = ps := ⟨_, rfl⟩
    rw [hps] at hvp hof
    obtain ⟨Ap, cp, rfl, _, hcp, _, _⟩ := own_cells hvp
    have hbk4 := HBK.out.keep hm4 (fun h => h)
    have hbr4 := HBR.out.keep hm4 (fun h => h)
    have hM4 := Mod.trans HM2.out hm4 (fun _ _ h => h)
    have hvp4 : w4.ownsRow w.heap.size 48 2 (.slice Ap ps.length cp) ps.length (ps.flatMap kc) := own_base hvp (by omega)
    have hz4 : w.heap.size + 2 ≤ w4.heap.size := by have := hm4.size; omega
    have HBK4 := Lib.hid hbk4
    have HBR4 := Lib.hid hbr4
    have HM4 := Lib.hid hM4
    have HVP4 := Lib.hid hvp4
    have HCP4 := Lib.hid hcp
    have HBF := Lib.hid hbr
    clear hbk4 hbr4 hM4 hvp4 hcp hvp hm4 HTL HBK HBR HM2 hbr
    cases hl : okLeaf b.data.toList with
    | true =>
      rw [pB_leaf b k level ps hl hps] at hn
      simp only [show errV true = Value.int .i64 0 from rfl]
      obtain ⟨np, hnp⟩ : ∃ np, ps.length = np := ⟨_, rfl⟩
      have HNP := Lib.hid hnp
      have hpl := hof.1
      rw [hnp] at hn hpl HVP4
      simp only [hnp]
      have fk0 := fun (w' : World) (mm : Mod0 w4.drew w') => ((Mod.of_drew_l mm).cell (p := ⟨w.heap.size, 0, none⟩) HBK4.out.lt (fun h => h)).trans (HBK4.out.cell (o := 0) rfl)
      have fk2 := fun (w' : World) (mm : Mod0 w4.drew w') => ((Mod.of_drew_l mm).cell (p := ⟨w.heap.size, 2, none⟩) HBK4.out.lt (fun h => h)).trans (HBK4.out.cell (o := 2) rfl)
      clear hps hf HTB HBF hnp
      have HBR4d := Lib.hid (HBR4.out.drew)
      have HM4d := Lib.hid (HM4.out.drew)
      have HVP4d := Lib.hid (own_keep HVP4.out ((Mod.refl (fun _ => False) w4).drew) (fun _ _ _ h => h))
      by_cases hl0 : level = 0
      · subst hl0
        by_cases hm : (np : Int) = k.many
        · have b1 : ((np : Int) == k.many) = true := by simpa using hm
          have b1' : ((np : Int) != k.many) = false := by simpa using hm
          by_cases hz : np = 0
          · rw [if_neg (fun h => by rcases h with h | h; omega; omega)] at hn
            subst hn
            subst hz
            have hk0 : k.many = 0 := by omega
            clear hm hof HCP4 HNP b1 b1'
            go_wp2_with fail
            refine region_m (by kernel_rfl) ?_
            simp only [List.length_cons, List.length_nil, List.replicate]
            refine take1 0 ?_
            refine take1 1 ?_
            refine take1 2 ?_
            refine take1 3 ?_
            refine take1 4 ?_
            refine take1 5 ?_
            refine take1 6 ?_
            refine take1 7 ?_
            refine take1 8 ?_
            refine take1 9 ?_
            refine take1 10 ?_
            refine take1 11 ?_
            refine take1 12 ?_
            refine take1 13 ?_
            refine take1 14 ?_
            refine take1 15 ?_
            refine take1 16 ?_
            refine take1 17 ?_
            refine take1 18 ?_
            refine take1 19 ?_
            refine take1 20 ?_
            refine take1 21 ?_
            refine take1 22 ?_
            refine take1 23 ?_
            refine take1 24 ?_
            refine take1 25 ?_
            refine take1 26 ?_
            refine take1 27 ?_
            refine take1 28 ?_
            refine take1 29 ?_
            refine wpAnyM_done (by kernel_rfl) ?_
            have hbR := HBR4d.out
            have hmE := (((Mod.refl (fun g => g = w.heap.size + 1) w4.drew).set1 rfl 0 (.slice none 0 0)).set1 rfl 1 (.int .i64 (0))).set1 rfl 2 (.slice none 0 0)
            have hb2 := ((hbR.set 0 (.slice none 0 0)).set 1 (.int .i64 (0))).set 2 (.slice none 0 0)
            have z0 := hb2.cell (o := 0) rfl
            have z1 := hb2.cell (o := 1) rfl
            have z2 := hb2.cell (o := 2) rfl
            have hbY := HBR4.out
            have y0z := (hbY.set 0 (.slice none 0 0)).cell (o := 0) rfl
            have y1z := ((hbY.set 0 (.slice none 0 0)).set 1 (.int .i64 (0))).cell (o := 1) rfl
            have y2z := (((hbY.set 0 (.slice none 0 0)).set 1 (.int .i64 (0))).set 2 (.slice none 0 0)).cell (o := 2) rfl
            have f0 := hbY.frozen 0
            have f1 := hbY.frozen 1
            have f2 := hbY.frozen 2
            have c0 := hbY.cell (o := 0) rfl
            have c1 := hbY.cell (o := 1) rfl
            have c2 := hbY.cell (o := 2) rfl
            have HME := Lib.hid (Mod.trans HM4d.out hmE (fun i hi e => by omega))
            have HMEE := Lib.hid hmE
            clear hbY hbR hmE hb2
            go_wp2_with fail
            skip
            refine bodyPost_ret (v := .tuple #[.agg #[.slice none 0 0, .int .i64 (0), .slice none 0 0], .int .i64 122]) (by simp [results, Tryd.results44, go_sem, z0, z1, z2, y0z, y1z, y2z]) rfl ⟨_, _, rfl, World.ownsRow_nil _ _ _ _, World.ownsRow_nil _ _ _ _, HME.out⟩
          · obtain ⟨n, rfl⟩ : ∃ n, np = n + 1 := ⟨np - 1, by omega⟩
            have hpz : 0 < ps.length := by have := HNP.out; omega
            have hlk := lastK_at hpz
            rcases HCP4.out with h | ⟨ba, o, rfl, hcell⟩
            · have := flat_len kc_len ps; rw [h] at this; simp at this; omega
            have y0 := hcell _ _ (flat_get kc_len ps (ps.length - 1) 0 (by omega) (by omega))
            obtain ⟨P, hP⟩ : ∃ P, ps[ps.length - 1] = P := ⟨_, rfl⟩
            rw [hP] at y0 hlk
            rw [HNP.out, Nat.add_zero, show n + 1 - 1 = n by omega] at y0
            have hbl : ba < w4.heap.size := World.block_lt_of_cell? w4 _ y0
            have fp0 := fun (w' : World) (mm : Mod0 w4.drew w') => ((Mod.of_drew_l mm).cell (p := ⟨ba, o + n * 2, none⟩) hbl (fun h => h)).trans y0
            have w1 : IntKind.i64.wrap (n : Int) = (n : Int) := by rw [IntKind.wrap_i64]; omega
            have n0 : (0 : Int) ≤ (n : Int) := by omega
            have n1 : (n : Int) < (n : Int) + 1 := by omega
            have n2 : ¬ (n : Int) + 1 = 0 := by omega
            have n3 : ((n : Int) + 1 == 0) = false := by simp; omega
            have c1 : ((n : Int) + 1 == k.many) = true := by simpa using hm
            have c1' : ((n : Int) + 1 != k.many) = false := by simpa using hm
            rw [hlk] at hn
            clear hcell hP y0 hof hlk b1 b1' hpz
            by_cases he : P.key = k.last
            · have e1 : (P.key.toList == k.last.toList) = true := (Lib.bytes_beq_iff _ _).2 he
              rw [if_pos (.inr ⟨rfl, by omega, hm, he⟩)] at hn
              subst hn
              have HVP4e : Hid (w4.drew.ownsRow w.heap.size 48 2 (.slice (some ⟨ba, o, none⟩) (n + 1) cp) ps.length (ps.flatMap kc)) := by rw [HNP.out]; exact HVP4d
              clear hm he
              go_wp2_with fail
              refine region_m (by kernel_rfl) ?_
              simp only [List.length_cons, List.length_nil, List.replicate]
              refine take1 0 ?_
              refine take1 1 ?_
              refine take1 2 ?_
              refine take1 3 ?_
              refine take1 4 ?_
              refine take1 5 ?_
              refine take1 6 ?_
              refine take1 7 ?_
              refine take1 8 ?_
              refine take1 9 ?_
              refine take1 10 ?_
              refine take1 11 ?_
              refine take1 12 ?_
              refine take1 13 ?_
              refine take1 14 ?_
              refine take1 15 ?_
              refine take1 16 ?_
              refine take1 17 ?_
              refine take1 18 ?_
              refine take1 19 ?_
              refine take1 20 ?_
              refine take1 21 ?_
              refine take1 22 ?_
              refine take1 23 ?_
              refine take1 24 ?_
              refine take1 25 ?_
              refine take1 26 ?_
              refine take1 27 ?_
              refine take1 28 ?_
              refine take1 29 ?_
              refine wpAnyM_done (by kernel_rfl) ?_
              have hbR := HBR4d.out
              have hmE := (((Mod.refl (fun g => g = w.heap.size + 1) w4.drew).set1 rfl 0 (.slice (some ⟨ba, o, none⟩) (n + 1) cp)).set1 rfl 1 (.int .i64 (0))).set1 rfl 2 (.slice none 0 0)
              have hb2 := ((hbR.set 0 (.slice (some ⟨ba, o, none⟩) (n + 1) cp)).set 1 (.int .i64 (0))).set 2 (.slice none 0 0)
              have z0 := hb2.cell (o := 0) rfl
              have z1 := hb2.cell (o := 1) rfl
              have z2 := hb2.cell (o := 2) rfl
              have hbY := HBR4.out
              have y0z := (hbY.set 0 (.slice (some ⟨ba, o, none⟩) (n + 1) cp)).cell (o := 0) rfl
              have y1z := ((hbY.set 0 (.slice (some ⟨ba, o, none⟩) (n + 1) cp)).set 1 (.int .i64 (0))).cell (o := 1) rfl
              have y2z := (((hbY.set 0 (.slice (some ⟨ba, o, none⟩) (n + 1) cp)).set 1 (.int .i64 (0))).set 2 (.slice none 0 0)).cell (o := 2) rfl
              have f0 := hbY.frozen 0
              have f1 := hbY.frozen 1
              have f2 := hbY.frozen 2
              have c0 := hbY.cell (o := 0) rfl
              have c1 := hbY.cell (o := 1) rfl
              have c2 := hbY.cell (o := 2) rfl
              have HME := Lib.hid (Mod.trans HM4d.out hmE (fun i hi e => by omega))
              have HMEE := Lib.hid hmE
              clear hbY hbR hmE hb2
              go_wp2_with fail
              skip
              refine bodyPost_ret (v := .tuple #[.agg #[.slice (some ⟨ba, o, none⟩) (n + 1) cp, .int .i64 (0), .slice none 0 0], .int .i64 0]) (by simp [results, Tryd.results44, go_sem, z0, z1, z2, y0z, y1z, y2z]) rfl ⟨_, _, rfl, own_other HVP4e.out HBR4d.out (by decide) HMEE.out, World.ownsRow_nil _ _ _ _, HME.out⟩
            · have e1 : (P.key.toList == k.last.toList) = false := (Lib.bytes_beq_false_iff _ _).2 he
              rw [if_neg (fun h => by rcases h with h | h; omega; exact he h.2.2.2)] at hn
              subst hn
              clear hm he
              go_wp2_with fail
              refine region_m (by kernel_rfl) ?_
              simp only [List.length_cons, List.length_nil, List.replicate]
              refine take1 0 ?_
              refine take1 1 ?_
              refine take1 2 ?_
              refine take1 3 ?_
              refine take1 4 ?_
              refine take1 5 ?_
              refine take1 6 ?_
              refine take1 7 ?_
              refine take1 8 ?_
              refine take1 9 ?_
              refine take1 10 ?_
              refine take1 11 ?_
              refine take1 12 ?_
              refine take1 13 ?_
              refine take1 14 ?_
              refine take1 15 ?_
              refine take1 16 ?_
              refine take1 17 ?_
              refine take1 18 ?_
              refine take1 19 ?_
              refine take1 20 ?_
              refine take1 21 ?_
              refine take1 22 ?_
              refine take1 23 ?_
              refine take1 24 ?_
              refine take1 25 ?_
              refine take1 26 ?_
              refine take1 27 ?_
              refine take1 28 ?_
              refine take1 29 ?_
              refine wpAnyM_done (by kernel_rfl) ?_
              have hbR := HBR4d.out
              have hmE := (((Mod.refl (fun g => g = w.heap.size + 1) w4.drew).set1 rfl 0 (.slice none 0 0)).set1 rfl 1 (.int .i64 (0))).set1 rfl 2 (.slice none 0 0)
              have hb2 := ((hbR.set 0 (.slice none 0 0)).set 1 (.int .i64 (0))).set 2 (.slice none 0 0)
              have z0 := hb2.cell (o := 0) rfl
              have z1 := hb2.cell (o := 1) rfl
              have z2 := hb2.cell (o := 2) rfl
              have hbY := HBR4.out
              have y0z := (hbY.set 0 (.slice none 0 0)).cell (o := 0) rfl
              have y1z := ((hbY.set 0 (.slice none 0 0)).set 1 (.int .i64 (0))).cell (o := 1) rfl
              have y2z := (((hbY.set 0 (.slice none 0 0)).set 1 (.int .i64 (0))).set 2 (.slice none 0 0)).cell (o := 2) rfl
              have f0 := hbY.frozen 0
              have f1 := hbY.frozen 1
              have f2 := hbY.frozen 2
              have c0 := hbY.cell (o := 0) rfl
              have c1 := hbY.cell (o := 1) rfl
              have c2 := hbY.cell (o := 2) rfl
              have HME := Lib.hid (Mod.trans HM4d.out hmE (fun i hi e => by omega))
              have HMEE := Lib.hid hmE
              clear hbY hbR hmE hb2
              go_wp2_with fail
              skip
              refine bodyPost_ret (v := .tuple #[.agg #[.slice none 0 0, .int .i64 (0), .slice none 0 0], .int .i64 122]) (by simp [results, Tryd.results44, go_sem, z0, z1, z2, y0z, y1z, y2z]) rfl ⟨_, _, rfl, World.ownsRow_nil _ _ _ _, World.ownsRow_nil _ _ _ _, HME.out⟩
        · have b1 : ((np : Int) == k.many) = false := by simpa using hm
          have b1' : ((np : Int) != k.many) = true := by simpa using hm
          rw [if_neg (fun h => by rcases h with h | h; omega; exact hm h.2.2.1)] at hn
          subst hn
          clear hm hof HCP4 HNP
          go_wp2_with fail
          refine region_m (by kernel_rfl) ?_
          simp only [List.length_cons, List.length_nil, List.replicate]
          refine take1 0 ?_
          refine take1 1 ?_
          refine take1 2 ?_
          refine take1 3 ?_
          refine take1 4 ?_
          refine take1 5 ?_
          refine take1 6 ?_
          refine take1 7 ?_
          refine take1 8 ?_
          refine take1 9 ?_
          refine take1 10 ?_
          refine take1 11 ?_
          refine take1 12 ?_
          refine take1 13 ?_
          refine take1 14 ?_
          refine take1 15 ?_
          refine take1 16 ?_
          refine take1 17 ?_
          refine take1 18 ?_
          refine take1 19 ?_
          refine take1 20 ?_
          refine take1 21 ?_
          refine take1 22 ?_
          refine take1 23 ?_
          refine take1 24 ?_
          refine take1 25 ?_
          refine take1 26 ?_
          refine take1 27 ?_
          refine take1 28 ?_
          refine take1 29 ?_
          refine wpAnyM_done (by kernel_rfl) ?_
          have hbR := HBR4d.out
          have hmE := (((Mod.refl (fun g => g = w.heap.size + 1) w4.drew).set1 rfl 0 (.slice none 0 0)).set1 rfl 1 (.int .i64 (0))).set1 rfl 2 (.slice none 0 0)
          have hb2 := ((hbR.set 0 (.slice none 0 0)).set 1 (.int .i64 (0))).set 2 (.slice none 0 0)
          have z0 := hb2.cell (o := 0) rfl
          have z1 := hb2.cell (o := 1) rfl
          have z2 := hb2.cell (o := 2) rfl
          have hbY := HBR4.out
          have y0z := (hbY.set 0 (.slice none 0 0)).cell (o := 0) rfl
          have y1z := ((hbY.set 0 (.slice none 0 0)).set 1 (.int .i64 (0))).cell (o := 1) rfl
          have y2z := (((hbY.set 0 (.slice none 0 0)).set 1 (.int .i64 (0))).set 2 (.slice none 0 0)).cell (o := 2) rfl
          have f0 := hbY.frozen 0
          have f1 := hbY.frozen 1
          have f2 := hbY.frozen 2
          have c0 := hbY.cell (o := 0) rfl
          have c1 := hbY.cell (o := 1) rfl
          have c2 := hbY.cell (o := 2) rfl
          have HME := Lib.hid (Mod.trans HM4d.out hmE (fun i hi e => by omega))
          have HMEE := Lib.hid hmE
          clear hbY hbR hmE hb2
          go_wp2_with fail
          skip
          refine bodyPost_ret (v := .tuple #[.agg #[.slice none 0 0, .int .i64 (0), .slice none 0 0], .int .i64 122]) (by simp [results, Tryd.results44, go_sem, z0, z1, z2, y0z, y1z, y2z]) rfl ⟨_, _, rfl, World.ownsRow_nil _ _ _ _, World.ownsRow_nil _ _ _ _, HME.out⟩
      · have l0 : (level == 0) = false := by simpa using hl0
        by_cases hlp : 0 < level
        · rw [if_neg (fun h => by rcases h with h | h; omega; omega)] at hn
          subst hn
          have d0 : decide (0 < level) = true := decide_eq_true hlp
          clear hof HCP4 HNP
          go_wp2_with fail
          refine region_m (by kernel_rfl) ?_
          simp only [List.length_cons, List.length_nil, List.replicate]
          refine take1 0 ?_
          refine take1 1 ?_
          refine take1 2 ?_
          refine take1 3 ?_
          refine take1 4 ?_
          refine take1 5 ?_
          refine take1 6 ?_
          refine take1 7 ?_
          refine take1 8 ?_
          refine take1 9 ?_
          refine take1 10 ?_
          refine take1 11 ?_
          refine take1 12 ?_
          refine take1 13 ?_
          refine take1 14 ?_
          refine take1 15 ?_
          refine take1 16 ?_
          refine take1 17 ?_
          refine take1 18 ?_
          refine take1 19 ?_
          refine take1 20 ?_
          refine take1 21 ?_
          refine take1 22 ?_
          refine take1 23 ?_
          refine take1 24 ?_
          refine take1 25 ?_
          refine take1 26 ?_
          refine take1 27 ?_
          refine take1 28 ?_
          refine take1 29 ?_
          refine wpAnyM_done (by kernel_rfl) ?_
          have hbR := HBR4d.out
          have hmE := (((Mod.refl (fun g => g = w.heap.size + 1) w4.drew).set1 rfl 0 (.slice none 0 0)).set1 rfl 1 (.int .i64 (0))).set1 rfl 2 (.slice none 0 0)
          have hb2 := ((hbR.set 0 (.slice none 0 0)).set 1 (.int .i64 (0))).set 2 (.slice none 0 0)
          have z0 := hb2.cell (o := 0) rfl
          have z1 := hb2.cell (o := 1) rfl
          have z2 := hb2.cell (o := 2) rfl
          have hbY := HBR4.out
          have y0z := (hbY.set 0 (.slice none 0 0)).cell (o := 0) rfl
          have y1z := ((hbY.set 0 (.slice none 0 0)).set 1 (.int .i64 (0))).cell (o := 1) rfl
          have y2z := (((hbY.set 0 (.slice none 0 0)).set 1 (.int .i64 (0))).set 2 (.slice none 0 0)).cell (o := 2) rfl
          have f0 := hbY.frozen 0
          have f1 := hbY.frozen 1
          have f2 := hbY.frozen 2
          have c0 := hbY.cell (o := 0) rfl
          have c1 := hbY.cell (o := 1) rfl
          have c2 := hbY.cell (o := 2) rfl
          have HME := Lib.hid (Mod.trans HM4d.out hmE (fun i hi e => by omega))
          have HMEE := Lib.hid hmE
          clear hbY hbR hmE hb2
          go_wp2_with fail
          skip
          refine bodyPost_ret (v := .tuple #[.agg #[.slice none 0 0, .int .i64 (0), .slice none 0 0], .int .i64 122]) (by simp [results, Tryd.results44, go_sem, z0, z1, z2, y0z, y1z, y2z]) rfl ⟨_, _, rfl, World.ownsRow_nil _ _ _ _, World.ownsRow_nil _ _ _ _, HME.out⟩
        · rw [if_pos (.inl (by omega))] at hn
          subst hn
          have d0 : decide (0 < level) = false := decide_eq_false hlp
          have HVP4e : Hid (w4.drew.ownsRow w.heap.size 48 2 (.slice Ap np cp) ps.length (ps.flatMap kc)) := by rw [HNP.out]; exact HVP4d
          clear hof HCP4
          go_wp2_with fail
          refine region_m (by kernel_rfl) ?_
          simp only [List.length_cons, List.length_nil, List.replicate]
          refine take1 0 ?_
          refine take1 1 ?_
          refine take1 2 ?_
          refine take1 3 ?_
          refine take1 4 ?_
          refine take1 5 ?_
          refine take1 6 ?_
          refine take1 7 ?_
          refine take1 8 ?_
          refine take1 9 ?_
          refine take1 10 ?_
          refine take1 11 ?_
          refine take1 12 ?_
          refine take1 13 ?_
          refine take1 14 ?_
          refine take1 15 ?_
          refine take1 16 ?_
          refine take1 17 ?_
          refine take1 18 ?_
          refine take1 19 ?_
          refine take1 20 ?_
          refine take1 21 ?_
          refine take1 22 ?_
          refine take1 23 ?_
          refine take1 24 ?_
          refine take1 25 ?_
          refine take1 26 ?_
          refine take1 27 ?_
          refine take1 28 ?_
          refine take1 29 ?_
          refine wpAnyM_done (by kernel_rfl) ?_
          have hbR := HBR4d.out
          have hmE := (((Mod.refl (fun g => g = w.heap.size + 1) w4.drew).set1 rfl 0 (.slice Ap np cp)).set1 rfl 1 (.int .i64 (0))).set1 rfl 2 (.slice none 0 0)
          have hb2 := ((hbR.set 0 (.slice Ap np cp)).set 1 (.int .i64 (0))).set 2 (.slice none 0 0)
          have z0 := hb2.cell (o := 0) rfl
          have z1 := hb2.cell (o := 1) rfl
          have z2 := hb2.cell (o := 2) rfl
          have hbY := HBR4.out
          have y0z := (hbY.set 0 (.slice Ap np cp)).cell (o := 0) rfl
          have y1z := ((hbY.set 0 (.slice Ap np cp)).set 1 (.int .i64 (0))).cell (o := 1) rfl
          have y2z := (((hbY.set 0 (.slice Ap np cp)).set 1 (.int .i64 (0))).set 2 (.slice none 0 0)).cell (o := 2) rfl
          have f0 := hbY.frozen 0
          have f1 := hbY.frozen 1
          have f2 := hbY.frozen 2
          have c0 := hbY.cell (o := 0) rfl
          have c1 := hbY.cell (o := 1) rfl
          have c2 := hbY.cell (o := 2) rfl
          have HME := Lib.hid (Mod.trans HM4d.out hmE (fun i hi e => by omega))
          have HMEE := Lib.hid hmE
          clear hbY hbR hmE hb2
          go_wp2_with fail
          skip
          refine bodyPost_ret (v := .tuple #[.agg #[.slice Ap np cp, .int .i64 (0), .slice none 0 0], .int .i64 0]) (by simp [results, Tryd.results44, go_sem, z0, z1, z2, y0z, y1z, y2z]) rfl ⟨_, _, rfl, own_other HVP4e.out HBR4d.out (by decide) HMEE.out, World.ownsRow_nil _ _ _ _, HME.out⟩
    | false =>
      obtain ⟨O, hO⟩ : ∃ O, outBranch b.data.toList = O := ⟨_, rfl⟩
      obtain ⟨OB, hOB⟩ : ∃ OB, okBranch b.data.toList = OB := ⟨_, rfl⟩
      obtain ⟨L, kids⟩ := O
      rw [pB_branch b k level L kids OB hl hO hOB] at hn
      have hbf := HBF.out
      simp only [hO, hOB] at hbf HTB
      simp only [show errV false = Value.int .i64 81 from rfl]
      have HBF2 := Lib.hid hbf
      clear hps hf HBF hl hof HCP4 HVP4 hbf hO hOB
      go_wp2_with fail
      refine (HTB.out _).mono ?_
      rintro e w5 ⟨vk, rfl, hvk, hm5⟩
      obtain ⟨Ak, ck, rfl, _, hck, _, _⟩ := own_cells hvk
      obtain ⟨E, hE⟩ : ∃ E : Int, (if OB = true then 0 else 81) = E := ⟨_, rfl⟩
      have hE2 : errV OB = .int .i64 E := by rw [← hE]; rfl
      rw [hE2]
      have HE := Lib.hid hE
      have hma := (Mod.refl (fun _ => False) w5).alloc (.cells #[.int .i64 L, .slice Ak kids.length ck] 72)
      have hbb := Has.new w5 [.int .i64 L, .slice Ak kids.length ck] 72
      have hbk6 := (HBK4.out.keep hm5 (fun h => h)).keep hma (fun h => h)
      have hbr6 := (HBR4.out.keep hm5 (fun h => h)).keep hma (fun h => h)
      have hM6 := Mod.trans (Mod.trans HM4.out hm5 (fun _ _ h => h)) hma (fun _ _ h => h)
      have hvk6 := own_base (own_keep hvk hma (fun _ _ _ h => h)) (show w.heap.size ≤ w4.heap.size by omega)
      have hck6 := hck.keep hma (fun _ _ h => h)
      obtain ⟨W6, hW6⟩ : ∃ W6, w5.alloc (.cells #[.int .i64 L, .slice Ak kids.length ck] 72) = W6 := ⟨_, rfl⟩
      have HW6 := Lib.hid hW6
      have hbb' := hbb
      rw [hW6] at hbb' hbk6 hbr6 hM6 hvk6 hck6
      have HBB := Lib.hid hbb'
      have HBK6 := Lib.hid hbk6
      have HBR6 := Lib.hid hbr6
      have HM6 := Lib.hid hM6
      have HVK6 := Lib.hid hvk6
      have HCK6 := Lib.hid hck6
      clear hE hE2 hma hbb hbb' hbk6 hbr6 hM6 hvk6 hck6 hvk hck hm5 HTB HBK4 HBR4 HM4 hW6
      go_wp2_with fail
      rw [HW6.out]
      go_loopw [12, 13] (fun n i wr => ∃ (j : Nat) (z : Int), i = .int .i64 j ∧ n = .int .i64 z ∧ j ≤ kids.length ∧ Hid (z = manyL (kids.take j)) ∧ Hid (Mod (fun _ => False) W6 wr)) (fun _ i _ => kids.length - (intOf i).toNat)
      case atStart => exact ⟨0, 0, by go_num, rfl, by omega, Lib.hid (by simp [manyL]), Lib.hid (Mod.refl _ _)⟩
      case round =>
        obtain ⟨j, z, rfl, rfl, hj, HZ, HMR⟩ := hrel
        have q1 := (HBB.out.keep HMR.out (fun h => h)).cell (o := 1) rfl
        by_cases hjl : j < kids.length
        · have j1 : (j : Int) < (kids.length : Int) := by omega
          have j0 : (0 : Int) ≤ (j : Int) := by omega
          rcases HCK6.out.keep HMR.out (fun _ _ h => h) with h | ⟨ba, o, rfl, hcell⟩
          · have := flat_len lc_len kids; rw [h] at this; simp at this; omega
          have y2 := hcell _ _ (flat_get lc_len kids j 2 hjl (by omega))
          rw [← Nat.add_assoc] at y2
          have hst := many_snoc hjl
          have hkk : ∀ q ∈ kids, 1 ≤ q.many ∧ q.many ≤ 4096 := fun q hq => ⟨(HBF2.out.2.2.2.1 q hq).1, (HBF2.out.2.2.2.1 q hq).2.1⟩
          have h0 := many_take hkk j
          have h1 := many_take hkk (j + 1)
          have hkl := HBF2.out.1
          rw [hst] at h1
          rw [← HZ.out] at hst h0 h1
          generalize kids[j] = p at *
          have HT := Lib.hid hst
          clear hcell hst hkk
          go_wp2_with fail
          go_roundw
          case rel => exact ⟨j + 1, z + p.many, by go_num, rfl, by omega, Lib.hid HT.out.symm, HMR⟩
          case measure => simp [intOf]; omega
        · have hjk : j = kids.length := by omega
          have j1 : ¬ (j : Int) < (kids.length : Int) := by omega
          have hz := HZ.out
          rw [hjk, List.take_length] at hz
          have hbb := HBB.out.keep HMR.out (fun h => h)
          have hbk := HBK6.out.keep HMR.out (fun h => h)
          have hbr := HBR6.out.keep HMR.out (fun h => h)
          have q0 := hbb.cell (o := 0) rfl
          have fb0 := fun (w' : World) (mm : Mod0 wr.drew w') => ((Mod.of_drew_l mm).cell (p := ⟨w5.heap.size, 0, none⟩) hbb.lt (fun h => h)).trans q0
          have fb1 := fun (w' : World) (mm : Mod0 wr.drew w') => ((Mod.of_drew_l mm).cell (p := ⟨w5.heap.size, 1, none⟩) hbb.lt (fun h => h)).trans q1
          have fk0 := fun (w' : World) (mm : Mod0 wr.drew w') => ((Mod.of_drew_l mm).cell (p := ⟨w.heap.size, 0, none⟩) hbk.lt (fun h => h)).trans (hbk.cell (o := 0) rfl)
          have fk2 := fun (w' : World) (mm : Mod0 wr.drew w') => ((Mod.of_drew_l mm).cell (p := ⟨w.heap.size, 2, none⟩) hbk.lt (fun h => h)).trans (hbk.cell (o := 2) rfl)
          have HBRy := Lib.hid hbr
          have HBRd := Lib.hid hbr.drew
          have HMd := Lib.hid ((Mod.trans HM6.out HMR.out (fun _ _ h => h)).drew)
          have HVKd := Lib.hid (own_keep (own_keep HVK6.out HMR.out (fun _ _ _ h => h)) ((Mod.refl (fun _ => False) wr).drew) (fun _ _ _ h => h))
          subst hz
          clear hbb hbk hbr HZ HBB HBK6 HBR6 HM6 HVK6
          cases OB with
          | false =>
            obtain rfl : E = 81 := HE.out.symm
            rw [if_neg (fun h => by cases h.1)] at hn
            subst hn
            clear HCK6 HMR HBF2
            go_wp2_with fail
            refine region_m (by kernel_rfl) ?_
            simp only [List.length_cons, List.length_nil, List.replicate]
            refine take1 0 ?_
            refine take1 1 ?_
            refine take1 2 ?_
            refine take1 3 ?_
            refine take1 4 ?_
            refine take1 5 ?_
            refine take1 6 ?_
            refine take1 7 ?_
            refine take1 8 ?_
            refine take1 9 ?_
            refine take1 10 ?_
            refine take1 11 ?_
            refine take1 12 ?_
            refine take1 13 ?_
            refine take1 14 ?_
            refine take1 15 ?_
            refine take1 16 ?_
            refine take1 17 ?_
            refine take1 18 ?_
            refine take1 19 ?_
            refine take1 20 ?_
            refine take1 21 ?_
            refine take1 22 ?_
            refine take1 23 ?_
            refine take1 24 ?_
            refine take1 25 ?_
            refine take1 26 ?_
            refine take1 27 ?_
            refine take1 28 ?_
            refine take1 29 ?_
            refine take1 30 ?_
            refine take1 31 ?_
            refine wpAnyM_done (by kernel_rfl) ?_
            have hbR := HBRd.out
            have hmE := (((Mod.refl (fun g => g = w.heap.size + 1) wr.drew).set1 rfl 0 (.slice none 0 0)).set1 rfl 1 (.int .i64 (0))).set1 rfl 2 (.slice none 0 0)
            have hb2 := ((hbR.set 0 (.slice none 0 0)).set 1 (.int .i64 (0))).set 2 (.slice none 0 0)
            have z0 := hb2.cell (o := 0) rfl
            have z1 := hb2.cell (o := 1) rfl
            have z2 := hb2.cell (o := 2) rfl
            have hbY := HBRy.out
            have y0z := (hbY.set 0 (.slice none 0 0)).cell (o := 0) rfl
            have y1z := ((hbY.set 0 (.slice none 0 0)).set 1 (.int .i64 (0))).cell (o := 1) rfl
            have y2z := (((hbY.set 0 (.slice none 0 0)).set 1 (.int .i64 (0))).set 2 (.slice none 0 0)).cell (o := 2) rfl
            have f0 := hbY.frozen 0
            have f1 := hbY.frozen 1
            have f2 := hbY.frozen 2
            have c0 := hbY.cell (o := 0) rfl
            have c1 := hbY.cell (o := 1) rfl
            have c2 := hbY.cell (o := 2) rfl
            have HME := Lib.hid (Mod.trans HMd.out hmE (fun i hi e => by omega))
            have HMEE := Lib.hid hmE
            clear hbY hbR hmE hb2
            go_wp2_with fail
            skip
            refine bodyPost_ret (v := .tuple #[.agg #[.slice none 0 0, .int .i64 (0), .slice none 0 0], .int .i64 122]) (by simp [results, Tryd.results44, go_sem, z0, z1, z2, y0z, y1z, y2z]) rfl ⟨_, _, rfl, World.ownsRow_nil _ _ _ _, World.ownsRow_nil _ _ _ _, HME.out⟩
          | true =>
            obtain rfl : E = 0 := HE.out.symm
            by_cases hl1 : level < 0
            · have d0 : decide (0 ≤ level) = false := decide_eq_false (by omega)
              have d1 : ¬ 0 ≤ level := by omega
              rw [if_pos ⟨rfl, .inl hl1⟩] at hn
              subst hn
              clear HCK6 HMR HBF2
              go_wp2_with fail
              refine region_m (by kernel_rfl) ?_
              simp only [List.length_cons, List.length_nil, List.replicate]
              refine take1 0 ?_
              refine take1 1 ?_
              refine take1 2 ?_
              refine take1 3 ?_
              refine take1 4 ?_
              refine take1 5 ?_
              refine take1 6 ?_
              refine take1 7 ?_
              refine take1 8 ?_
              refine take1 9 ?_
              refine take1 10 ?_
              refine take1 11 ?_
              refine take1 12 ?_
              refine take1 13 ?_
              refine take1 14 ?_
              refine take1 15 ?_
              refine take1 16 ?_
              refine take1 17 ?_
              refine take1 18 ?_
              refine take1 19 ?_
              refine take1 20 ?_
              refine take1 21 ?_
              refine take1 22 ?_
              refine take1 23 ?_
              refine take1 24 ?_
              refine take1 25 ?_
              refine take1 26 ?_
              refine take1 27 ?_
              refine take1 28 ?_
              refine take1 29 ?_
              refine take1 30 ?_
              refine take1 31 ?_
              refine wpAnyM_done (by kernel_rfl) ?_
              have hbR := HBRd.out
              have hmE := (((Mod.refl (fun g => g = w.heap.size + 1) wr.drew).set1 rfl 0 (.slice none 0 0)).set1 rfl 1 (.int .i64 (L))).set1 rfl 2 (.slice Ak kids.length ck)
              have hb2 := ((hbR.set 0 (.slice none 0 0)).set 1 (.int .i64 (L))).set 2 (.slice Ak kids.length ck)
              have z0 := hb2.cell (o := 0) rfl
              have z1 := hb2.cell (o := 1) rfl
              have z2 := hb2.cell (o := 2) rfl
              have hbY := HBRy.out
              have y0z := (hbY.set 0 (.slice none 0 0)).cell (o := 0) rfl
              have y1z := ((hbY.set 0 (.slice none 0 0)).set 1 (.int .i64 (L))).cell (o := 1) rfl
              have y2z := (((hbY.set 0 (.slice none 0 0)).set 1 (.int .i64 (L))).set 2 (.slice Ak kids.length ck)).cell (o := 2) rfl
              have f0 := hbY.frozen 0
              have f1 := hbY.frozen 1
              have f2 := hbY.frozen 2
              have c0 := hbY.cell (o := 0) rfl
              have c1 := hbY.cell (o := 1) rfl
              have c2 := hbY.cell (o := 2) rfl
              have HME := Lib.hid (Mod.trans HMd.out hmE (fun i hi e => by omega))
              have HMEE := Lib.hid hmE
              clear hbY hbR hmE hb2
              go_wp2_with fail
              skip
              refine bodyPost_ret (v := .tuple #[.agg #[.slice none 0 0, .int .i64 (L), .slice Ak kids.length ck], .int .i64 0]) (by simp [results, Tryd.results44, go_sem, z0, z1, z2, y0z, y1z, y2z]) rfl ⟨_, _, rfl, World.ownsRow_nil _ _ _ _, own_other HVKd.out HBRd.out (by decide) HMEE.out, HME.out⟩
            · have d0 : decide (0 ≤ level) = true := decide_eq_true (by omega)
              have d1 : 0 ≤ level := by omega
              by_cases hLl : L = level
              · subst hLl
                have b1 : (L != L) = false := by simp
                by_cases hm : manyL kids = k.many
                · have b2 : (manyL kids != k.many) = false := by simpa using hm
                  have b3 : (manyL kids == k.many) = true := by simpa using hm
                  have hkz : 0 < kids.length := by have := (HBF2.out.2.2.2.2.1 rfl).2.2; omega
                  have hll := lastL_at hkz
                  rcases HCK6.out.keep HMR.out (fun _ _ h => h) with h | ⟨ba, o, rfl, hcell⟩
                  · have := flat_len lc_len kids; rw [h] at this; simp at this; omega
                  have y0 := hcell _ _ (flat_get lc_len kids (kids.length - 1) 0 (by omega) (by omega))
                  obtain ⟨P, hP⟩ : ∃ P, kids[kids.length - 1] = P := ⟨_, rfl⟩
                  rw [hP] at y0 hll
                  rw [Nat.add_zero] at y0
                  have hbl : ba < wr.heap.size := World.block_lt_of_cell? wr _ y0
                  have fp0 := fun (w' : World) (mm : Mod0 wr.drew w') => ((Mod.of_drew_l mm).cell (p := ⟨ba, o + (kids.length - 1) * 3, none⟩) hbl (fun h => h)).trans y0
                  have hkl := HBF2.out.1
                  have w1 : IntKind.i64.wrap ((kids.length : Int) - 1) = (kids.length : Int) - 1 := by rw [IntKind.wrap_i64]; omega
                  have n0 : (0 : Int) ≤ (kids.length : Int) - 1 := by omega
                  have n1 : (kids.length : Int) - 1 < (kids.length : Int) := by omega
                  have n2 : ((kids.length : Int) - 1).toNat = kids.length - 1 := by omega
                  have n4 : (1 : Int) ≤ (kids.length : Int) := by omega
                  rw [hll] at hn
                  clear hcell hP y0 hll HCK6 HMR
                  by_cases he : P.last = k.last
                  · have e1 : (P.last.toList == k.last.toList) = true := (Lib.bytes_beq_iff _ _).2 he
                    rw [if_pos ⟨rfl, .inr ⟨rfl, hm, he⟩⟩] at hn
                    subst hn
                    clear hm he HBF2
                    go_wp2_with fail
                    refine region_m (by kernel_rfl) ?_
                    simp only [List.length_cons, List.length_nil, List.replicate]
                    refine take1 0 ?_
                    refine take1 1 ?_
                    refine take1 2 ?_
                    refine take1 3 ?_
                    refine take1 4 ?_
                    refine take1 5 ?_
                    refine take1 6 ?_
                    refine take1 7 ?_
                    refine take1 8 ?_
                    refine take1 9 ?_
                    refine take1 10 ?_
                    refine take1 11 ?_
                    refine take1 12 ?_
                    refine take1 13 ?_
                    refine take1 14 ?_
                    refine take1 15 ?_
                    refine take1 16 ?_
                    refine take1 17 ?_
                    refine take1 18 ?_
                    refine take1 19 ?_
                    refine take1 20 ?_
                    refine take1 21 ?_
                    refine take1 22 ?_
                    refine take1 23 ?_
                    refine take1 24 ?_
                    refine take1 25 ?_
                    refine take1 26 ?_
                    refine take1 27 ?_
                    refine take1 28 ?_
                    refine take1 29 ?_
                    refine take1 30 ?_
                    refine take1 31 ?_
                    refine wpAnyM_done (by kernel_rfl) ?_
                    have hbR := HBRd.out
                    have hmE := (((Mod.refl (fun g => g = w.heap.size + 1) wr.drew).set1 rfl 0 (.slice none 0 0)).set1 rfl 1 (.int .i64 (L))).set1 rfl 2 (.slice (some ⟨ba, o, none⟩) kids.length ck)
                    have hb2 := ((hbR.set 0 (.slice none 0 0)).set 1 (.int .i64 (L))).set 2 (.slice (some ⟨ba, o, none⟩) kids.length ck)
                    have z0 := hb2.cell (o := 0) rfl
                    have z1 := hb2.cell (o := 1) rfl
                    have z2 := hb2.cell (o := 2) rfl
                    have hbY := HBRy.out
                    have y0z := (hbY.set 0 (.slice none 0 0)).cell (o := 0) rfl
                    have y1z := ((hbY.set 0 (.slice none 0 0)).set 1 (.int .i64 (L))).cell (o := 1) rfl
                    have y2z := (((hbY.set 0 (.slice none 0 0)).set 1 (.int .i64 (L))).set 2 (.slice (some ⟨ba, o, none⟩) kids.length ck)).cell (o := 2) rfl
                    have f0 := hbY.frozen 0
                    have f1 := hbY.frozen 1
                    have f2 := hbY.frozen 2
                    have c0 := hbY.cell (o := 0) rfl
                    have c1 := hbY.cell (o := 1) rfl
                    have c2 := hbY.cell (o := 2) rfl
                    have HME := Lib.hid (Mod.trans HMd.out hmE (fun i hi e => by omega))
                    have HMEE := Lib.hid hmE
                    clear hbY hbR hmE hb2
                    go_wp2_with fail
                    skip
                    refine bodyPost_ret (v := .tuple #[.agg #[.slice none 0 0, .int .i64 (L), .slice (some ⟨ba, o, none⟩) kids.length ck], .int .i64 0]) (by simp [results, Tryd.results44, go_sem, z0, z1, z2, y0z, y1z, y2z]) rfl ⟨_, _, rfl, World.ownsRow_nil _ _ _ _, own_other HVKd.out HBRd.out (by decide) HMEE.out, HME.out⟩
                  · have e1 : (P.last.toList == k.last.toList) = false := (Lib.bytes_beq_false_iff _ _).2 he
                    rw [if_neg (fun h => by rcases h.2 with h | h; omega; exact he h.2.2)] at hn
                    subst hn
                    clear hm he HBF2
                    go_wp2_with fail
                    refine region_m (by kernel_rfl) ?_
                    simp only [List.length_cons, List.length_nil, List.replicate]
                    refine take1 0 ?_
                    refine take1 1 ?_
                    refine take1 2 ?_
                    refine take1 3 ?_
                    refine take1 4 ?_
                    refine take1 5 ?_
                    refine take1 6 ?_
                    refine take1 7 ?_
                    refine take1 8 ?_
                    refine take1 9 ?_
                    refine take1 10 ?_
                    refine take1 11 ?_
                    refine take1 12 ?_
                    refine take1 13 ?_
                    refine take1 14 ?_
                    refine take1 15 ?_
                    refine take1 16 ?_
                    refine take1 17 ?_
                    refine take1 18 ?_
                    refine take1 19 ?_
                    refine take1 20 ?_
                    refine take1 21 ?_
                    refine take1 22 ?_
                    refine take1 23 ?_
                    refine take1 24 ?_
                    refine take1 25 ?_
                    refine take1 26 ?_
                    refine take1 27 ?_
                    refine take1 28 ?_
                    refine take1 29 ?_
                    refine take1 30 ?_
                    refine take1 31 ?_
                    refine wpAnyM_done (by kernel_rfl) ?_
                    have hbR := HBRd.out
                    have hmE := (((Mod.refl (fun g => g = w.heap.size + 1) wr.drew).set1 rfl 0 (.slice none 0 0)).set1 rfl 1 (.int .i64 (0))).set1 rfl 2 (.slice none 0 0)
                    have hb2 := ((hbR.set 0 (.slice none 0 0)).set 1 (.int .i64 (0))).set 2 (.slice none 0 0)
                    have z0 := hb2.cell (o := 0) rfl
                    have z1 := hb2.cell (o := 1) rfl
                    have z2 := hb2.cell (o := 2) rfl
                    have hbY := HBRy.out
                    have y0z := (hbY.set 0 (.slice none 0 0)).cell (o := 0) rfl
                    have y1z := ((hbY.set 0 (.slice none 0 0)).set 1 (.int .i64 (0))).cell (o := 1) rfl
                    have y2z := (((hbY.set 0 (.slice none 0 0)).set 1 (.int .i64 (0))).set 2 (.slice none 0 0)).cell (o := 2) rfl
                    have f0 := hbY.frozen 0
                    have f1 := hbY.frozen 1
                    have f2 := hbY.frozen 2
                    have c0 := hbY.cell (o := 0) rfl
                    have c1 := hbY.cell (o := 1) rfl
                    have c2 := hbY.cell (o := 2) rfl
                    have HME := Lib.hid (Mod.trans HMd.out hmE (fun i hi e => by omega))
                    have HMEE := Lib.hid hmE
                    clear hbY hbR hmE hb2
                    go_wp2_with fail
                    skip
                    refine bodyPost_ret (v := .tuple #[.agg #[.slice none 0 0, .int .i64 (0), .slice none 0 0], .int .i64 122]) (by simp [results, Tryd.results44, go_sem, z0, z1, z2, y0z, y1z, y2z]) rfl ⟨_, _, rfl, World.ownsRow_nil _ _ _ _, World.ownsRow_nil _ _ _ _, HME.out⟩
                · have b2 : (manyL kids != k.many) = true := by simpa using hm
                  have b3 : (manyL kids == k.many) = false := by simpa using hm
                  rw [if_neg (fun h => by rcases h.2 with h | h; omega; exact hm h.2.1)] at hn
                  subst hn
                  clear hm HCK6 HMR HBF2
                  go_wp2_with fail
                  refine region_m (by kernel_rfl) ?_
                  simp only [List.length_cons, List.length_nil, List.replicate]
                  refine take1 0 ?_
                  refine take1 1 ?_
                  refine take1 2 ?_
                  refine take1 3 ?_
                  refine take1 4 ?_
                  refine take1 5 ?_
                  refine take1 6 ?_
                  refine take1 7 ?_
                  refine take1 8 ?_
                  refine take1 9 ?_
                  refine take1 10 ?_
                  refine take1 11 ?_
                  refine take1 12 ?_
                  refine take1 13 ?_
                  refine take1 14 ?_
                  refine take1 15 ?_
                  refine take1 16 ?_
                  refine take1 17 ?_
                  refine take1 18 ?_
                  refine take1 19 ?_
                  refine take1 20 ?_
                  refine take1 21 ?_
                  refine take1 22 ?_
                  refine take1 23 ?_
                  refine take1 24 ?_
                  refine take1 25 ?_
                  refine take1 26 ?_
                  refine take1 27 ?_
                  refine take1 28 ?_
                  refine take1 29 ?_
                  refine take1 30 ?_
                  refine take1 31 ?_
                  refine wpAnyM_done (by kernel_rfl) ?_
                  have hbR := HBRd.out
                  have hmE := (((Mod.refl (fun g => g = w.heap.size + 1) wr.drew).set1 rfl 0 (.slice none 0 0)).set1 rfl 1 (.int .i64 (0))).set1 rfl 2 (.slice none 0 0)
                  have hb2 := ((hbR.set 0 (.slice none 0 0)).set 1 (.int .i64 (0))).set 2 (.slice none 0 0)
                  have z0 := hb2.cell (o := 0) rfl
                  have z1 := hb2.cell (o := 1) rfl
                  have z2 := hb2.cell (o := 2) rfl
                  have hbY := HBRy.out
                  have y0z := (hbY.set 0 (.slice none 0 0)).cell (o := 0) rfl
                  have y1z := ((hbY.set 0 (.slice none 0 0)).set 1 (.int .i64 (0))).cell (o := 1) rfl
                  have y2z := (((hbY.set 0 (.slice none 0 0)).set 1 (.int .i64 (0))).set 2 (.slice none 0 0)).cell (o := 2) rfl
                  have f0 := hbY.frozen 0
                  have f1 := hbY.frozen 1
                  have f2 := hbY.frozen 2
                  have c0 := hbY.cell (o := 0) rfl
                  have c1 := hbY.cell (o := 1) rfl
                  have c2 := hbY.cell (o := 2) rfl
                  have HME := Lib.hid (Mod.trans HMd.out hmE (fun i hi e => by omega))
                  have HMEE := Lib.hid hmE
                  clear hbY hbR hmE hb2
                  go_wp2_with fail
                  skip
                  refine bodyPost_ret (v := .tuple #[.agg #[.slice none 0 0, .int .i64 (0), .slice none 0 0], .int .i64 122]) (by simp [results, Tryd.results44, go_sem, z0, z1, z2, y0z, y1z, y2z]) rfl ⟨_, _, rfl, World.ownsRow_nil _ _ _ _, World.ownsRow_nil _ _ _ _, HME.out⟩
              · have b1 : (L != level) = true := by simpa using hLl
                have b1' : (L == level) = false := by simpa using hLl
                rw [if_neg (fun h => by rcases h.2 with h | h; omega; exact hLl h.1)] at hn
                subst hn
                clear HCK6 HMR HBF2
                go_wp2_with fail
                refine region_m (by kernel_rfl) ?_
                simp only [List.length_cons, List.length_nil, List.replicate]
                refine take1 0 ?_
                refine take1 1 ?_
                refine take1 2 ?_
                refine take1 3 ?_
                refine take1 4 ?_
                refine take1 5 ?_
                refine take1 6 ?_
                refine take1 7 ?_
                refine take1 8 ?_
                refine take1 9 ?_
                refine take1 10 ?_
                refine take1 11 ?_
                refine take1 12 ?_
                refine take1 13 ?_
                refine take1 14 ?_
                refine take1 15 ?_
                refine take1 16 ?_
                refine take1 17 ?_
                refine take1 18 ?_
                refine take1 19 ?_
                refine take1 20 ?_
                refine take1 21 ?_
                refine take1 22 ?_
                refine take1 23 ?_
                refine take1 24 ?_
                refine take1 25 ?_
                refine take1 26 ?_
                refine take1 27 ?_
                refine take1 28 ?_
                refine take1 29 ?_
                refine take1 30 ?_
                refine take1 31 ?_
                refine wpAnyM_done (by kernel_rfl) ?_
                have hbR := HBRd.out
                have hmE := (((Mod.refl (fun g => g = w.heap.size + 1) wr.drew).set1 rfl 0 (.slice none 0 0)).set1 rfl 1 (.int .i64 (0))).set1 rfl 2 (.slice none 0 0)
                have hb2 := ((hbR.set 0 (.slice none 0 0)).set 1 (.int .i64 (0))).set 2 (.slice none 0 0)
                have z0 := hb2.cell (o := 0) rfl
                have z1 := hb2.cell (o := 1) rfl
                have z2 := hb2.cell (o := 2) rfl
                have hbY := HBRy.out
                have y0z := (hbY.set 0 (.slice none 0 0)).cell (o := 0) rfl
                have y1z := ((hbY.set 0 (.slice none 0 0)).set 1 (.int .i64 (0))).cell (o := 1) rfl
                have y2z := (((hbY.set 0 (.slice none 0 0)).set 1 (.int .i64 (0))).set 2 (.slice none 0 0)).cell (o := 2) rfl
                have f0 := hbY.frozen 0
                have f1 := hbY.frozen 1
                have f2 := hbY.frozen 2
                have c0 := hbY.cell (o := 0) rfl
                have c1 := hbY.cell (o := 1) rfl
                have c2 := hbY.cell (o := 2) rfl
                have HME := Lib.hid (Mod.trans HMd.out hmE (fun i hi e => by omega))
                have HMEE := Lib.hid hmE
                clear hbY hbR hmE hb2
                go_wp2_with fail
                skip
                refine bodyPost_ret (v := .tuple #[.agg #[.slice none 0 0, .int .i64 (0), .slice none 0 0], .int .i64 122]) (by simp [results, Tryd.results44, go_sem, z0, z1, z2, y0z, y1z, y2z]) rfl ⟨_, _, rfl, World.ownsRow_nil _ _ _ _, World.ownsRow_nil _ _ _ _, HME.out⟩
end Prolly
end Go.Proofs.YtpoljpjcmigobaaDoor
