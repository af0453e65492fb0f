/- Joined texts: ObjectBackL, ObjectBackM. -/
import Derived.Test.YtenamjldkaggcaaDoorJ25
import Derived.Test.YtenamjldkaggcaaDoorJ22
/- The walk of the law ObjectBack. -/
namespace Go.Proofs.YtenamjldkaggcaaDoor
set_option linter.unusedVariables false
set_option linter.unusedSimpArgs false
open Go.RowKit K Wire
namespace Obj

theorem back_list (l : List UInt8) : (⟨l.toArray⟩ : ByteArray).data.toList = l := rfl
theorem fan_back (level : Int) (kids : List Part) (h : rightFan level kids = true) (hl : (fanB level kids).length ≤ 100000000) (w : World) :
    Calls Tryd.prog 12 #[.string ⟨(fanB level kids).toArray⟩] w fun e w' => ∃ v, e = .returned (.tuple #[.agg #[.int .i64 level, v], .int .i64 0]) ∧ w'.ownsRow w.heap.size 86 2 v kids.length (kids.flatMap pc) ∧ Mod (fun _ => False) w w' := by
  have := takeFan_calls ⟨(fanB level kids).toArray⟩ w hl
  rw [back_list, (fan_complete level kids h).1, (fan_complete level kids h).2] at this
  exact this
theorem okFan_nil : okFan [] = false := by
  cases h : okFan [] with
  | false => rfl
  | true => exact absurd (fan_sound [] h).1 (by simp [fanB])
theorem fan_none (w : World) :
    Calls Tryd.prog 12 #[.string ⟨#[]⟩] w fun e w' => ∃ v, e = .returned (.tuple #[.agg #[.int .i64 0, v], .int .i64 81]) ∧ w'.ownsRow w.heap.size 86 2 v 0 [] ∧ Mod (fun _ => False) w w' := by
  have := takeFan_calls ⟨#[]⟩ w (by decide)
  rw [show (⟨#[]⟩ : ByteArray).data.toList = [] from rfl, okFan_nil, show outFan [] = (0, []) by unfold outFan; rw [okFan_nil]; rfl] at this
  exact this
theorem leaf_back (kids : List Pair) (h : rightLeaf kids = true) (hl : (leafB kids).length ≤ 100000000) (w : World) :
    Calls Tryd.prog 14 #[.string ⟨(leafB kids).toArray⟩] w fun e w' => ∃ v, e = .returned (.tuple #[v, .int .i64 0]) ∧ w'.ownsRow w.heap.size 71 2 v kids.length (kids.flatMap kc) ∧ Mod (fun _ => False) w w' := by
  have := takeLeaf_calls ⟨(leafB kids).toArray⟩ w hl
  rw [back_list, (leaf_complete kids h).1, (leaf_complete kids h).2] at this
  exact this
theorem okLeaf_nil : okLeaf [] = false := by
  cases h : okLeaf [] with
  | false => rfl
  | true => exact absurd (leaf_sound [] h).1 (by simp [leafB])
theorem leaf_none (w : World) :
    Calls Tryd.prog 14 #[.string ⟨#[]⟩] w fun e w' => ∃ v, e = .returned (.tuple #[v, .int .i64 81]) ∧ w'.ownsRow w.heap.size 71 2 v 0 [] ∧ Mod (fun _ => False) w w' := by
  have := takeLeaf_calls ⟨#[]⟩ w (by decide)
  rw [show (⟨#[]⟩ : ByteArray).data.toList = [] from rfl, okLeaf_nil, show outLeaf [] = [] by unfold outLeaf; rw [okLeaf_nil]; rfl] at this
  exact this
theorem branch_back (level : Int) (kids : List Link) (h : rightBranch level kids = true) (hl : (branchB level kids).length ≤ 100000000) (w : World) :
    Calls Tryd.prog 16 #[.string ⟨(branchB level kids).toArray⟩] w fun e w' => ∃ v, e = .returned (.tuple #[.agg #[.int .i64 level, v], .int .i64 0]) ∧ w'.ownsRow w.heap.size 96 3 v kids.length (kids.flatMap lc) ∧ Mod (fun _ => False) w w' := by
  have := takeBranch_calls ⟨(branchB level kids).toArray⟩ w hl
  rw [back_list, (branch_complete level kids h).1, (branch_complete level kids h).2] at this
  exact this
theorem okBranch_nil : okBranch [] = false := by
  cases h : okBranch [] with
  | false => rfl
  | true => exact absurd (branch_sound [] h).1 (by simp [branchB])
theorem branch_none (w : World) :
    Calls Tryd.prog 16 #[.string ⟨#[]⟩] w fun e w' => ∃ v, e = .returned (.tuple #[.agg #[.int .i64 0, v], .int .i64 81]) ∧ w'.ownsRow w.heap.size 96 3 v 0 [] ∧ Mod (fun _ => False) w w' := by
  have := takeBranch_calls ⟨#[]⟩ w (by decide)
  rw [show (⟨#[]⟩ : ByteArray).data.toList = [] from rfl, okBranch_nil, show outBranch [] = (0, []) by unfold outBranch; rw [okBranch_nil]; rfl] at this
  exact this
theorem commit_back (C : Com) (h : rightCommit C = true) (hl : (commitB C).length ≤ 100000000) (w : World) :
    Calls Tryd.prog 18 #[.string ⟨(commitB C).toArray⟩] w fun e w' => ∃ v, e = .returned (.tuple #[.agg (comV C v), .int .i64 0]) ∧ w'.ownsRow w.heap.size 9 1 v C.pars.length (C.pars.map .string) ∧ Mod (fun _ => False) w w' := by
  have := takeCommit_calls ⟨(commitB C).toArray⟩ w hl
  rw [back_list, (commit_complete C h).1, (commit_complete C h).2] at this
  exact this
theorem okCommit_nil : okCommit [] = false := by
  cases h : okCommit [] with
  | false => rfl
  | true => exact absurd (commit_sound [] h).1 (by simp [commitB])
theorem commit_none (w : World) :
    Calls Tryd.prog 18 #[.string ⟨#[]⟩] w fun e w' => ∃ v, e = .returned (.tuple #[.agg (comV com0 v), .int .i64 81]) ∧ w'.ownsRow w.heap.size 9 1 v 0 [] ∧ Mod (fun _ => False) w w' := by
  have := takeCommit_calls ⟨#[]⟩ w (by decide)
  rw [show (⟨#[]⟩ : ByteArray).data.toList = [] from rfl, okCommit_nil, show outCommit [] = com0 by unfold outCommit; rw [okCommit_nil]; rfl] at this
  exact this

set_option maxRecDepth 100000 in
set_option maxHeartbeats 16000000 in
theorem back_calls (level : Int) (A : Option Addr) (c : Nat) (kids : List Part) (AP : Option Addr) (cp : Nat) (prs : List Pair) (nlevel : Int) (AN : Option Addr) (cn : Nat) (nkids : List Link) (C : Com) (AC : Option Addr) (cc : Nat) (w : World) (hK : Hash.Keys w)
    (hA : Cells w A (kids.flatMap pc)) (hlv : In64 level) (hsz : ∀ p ∈ kids, In64 p.size) (hc : kids.length ≤ 100000000) (hl : (fanB level kids).length ≤ 100000000)
    (hAP : Cells w AP (prs.flatMap kc)) (hcp : prs.length ≤ 100000000) (hlp : (leafB prs).length ≤ 100000000)
    (hAN : Cells w AN (nkids.flatMap lc)) (hlvn : In64 nlevel) (hszn : ∀ p ∈ nkids, In64 p.many) (hcn : nkids.length ≤ 100000000) (hln : (branchB nlevel nkids).length ≤ 100000000)
    (hAC : Cells w AC (C.pars.map .string) ∧ Adr AC cc ∧ C.pars.length ≤ cc) (hti : In64 C.time) (hcc : C.pars.length ≤ 100000000) (hlc : (commitB C).length ≤ 100000000) :
    Calls Tryd.prog 7 #[.agg #[.int .i64 level, .slice A kids.length c], .slice AP prs.length cp, .agg #[.int .i64 nlevel, .slice AN nkids.length cn], .agg (comC C AC cc)] w fun e w' => e = .returned (.bool true) ∧ Below w.heap.size w w' := by
  obtain ⟨hAC, hAdc, hcapc⟩ := hAC
  obtain ⟨w0, hw0⟩ : ∃ w0, w0 = ((w.alloc (.cells #[.int .i64 level, .slice A kids.length c] 32)).alloc (.cells #[.int .i64 nlevel, .slice AN nkids.length cn] 42)).alloc (.cells (comC C AC cc) 48) := ⟨_, rfl⟩
  have hM0 : Mod (fun _ => False) w w0 := by rw [hw0]; exact (((Mod.refl _ _).alloc _).alloc _).alloc _
  have hBF : Has w0 w.heap.size [.int .i64 level, .slice A kids.length c] 32 := by rw [hw0]; exact ((Has.new _ _ _).alloc _).alloc _
  have hBN : Has w0 (w.heap.size + 1) [.int .i64 nlevel, .slice AN nkids.length cn] 42 := by
    rw [hw0]
    have := (Has.new (w.alloc (.cells #[.int .i64 level, .slice A kids.length c] 32)) [.int .i64 nlevel, .slice AN nkids.length cn] 42).alloc (.cells (comC C AC cc) 48)
    rw [size_alloc] at this
    exact this
  have hBC : Has w0 (w.heap.size + 2) (comC C AC cc).toList 48 := by
    rw [hw0]
    have := Has.new ((w.alloc (.cells #[.int .i64 level, .slice A kids.length c] 32)).alloc (.cells #[.int .i64 nlevel, .slice AN nkids.length cn] 42)) (comC C AC cc).toList 48
    rw [size_alloc, size_alloc] at this
    exact this
  have hK0 := hK.keep hM0 (fun h => h)
  have hA0 := hA.keep hM0 (fun _ _ h => h)
  have hAP0 := hAP.keep hM0 (fun _ _ h => h)
  have hAN0 := hAN.keep hM0 (fun _ _ h => h)
  have hAC0 := hAC.keep hM0 (fun _ _ h => h)
  have cSH := fun (w1 : World) (m : Mod (fun _ => False) w0 w1) => shown_calls w1 (hK0.keep m (fun h => h))
  have c0 := fun (w1 : World) (m : Mod (fun _ => False) w0 w1) => fan_calls level A c kids w1 (hK0.keep m (fun h => h)) (hA0.keep m (fun _ _ h => h)) hc hlv hsz hl
  have c1 := fun (w1 : World) (m : Mod (fun _ => False) w0 w1) => leaf_calls AP cp prs w1 (hK0.keep m (fun h => h)) (hAP0.keep m (fun _ _ h => h)) hcp hlp
  have c2 := fun (w1 : World) (m : Mod (fun _ => False) w0 w1) => branch_calls nlevel AN cn nkids w1 (hK0.keep m (fun h => h)) (hAN0.keep m (fun _ _ h => h)) hcn hlvn hszn hln
  have c3 := fun (w1 : World) (m : Mod (fun _ => False) w0 w1) => commit_calls C AC cc w1 (hK0.keep m (fun h => h)) (hAC0.keep m (fun _ _ h => h)) hAdc hcapc hcc hti hlc
  have s0 := fun (w1 : World) (m : Mod (fun _ => False) w0 w1) A8 c8 h8 => sameFan_calls level A A8 c c8 kids w1 (hA0.keep m (fun _ _ h => h)) h8 hc
  have s1 := fun (w1 : World) (m : Mod (fun _ => False) w0 w1) A8 c8 h8 => sameLeaf_calls A8 AP c8 cp prs w1 h8 (hAP0.keep m (fun _ _ h => h)) hcp
  have s2 := fun (w1 : World) (m : Mod (fun _ => False) w0 w1) A8 c8 h8 => sameBranch_calls nlevel A8 AN c8 cn nkids w1 h8 (hAN0.keep m (fun _ _ h => h)) hcn
  have s3 := fun (w1 : World) (m : Mod (fun _ => False) w0 w1) A8 c8 h8 => sameCommit_calls C AC A8 cc c8 w1 (hAC0.keep m (fun _ _ h => h)) h8 hcc
  have t0 := fun h (w1 : World) => fan_back level kids h hl w1
  have t1 := fun h (w1 : World) => leaf_back prs h hlp w1
  have t2 := fun h (w1 : World) => branch_back nlevel nkids h hln w1
  have t3 := fun h (w1 : World) => commit_back C h hlc w1
  generalize fanB level kids = B0 at *
  generalize leafB prs = B1 at *
  generalize branchB nlevel nkids = B2 at *
  generalize commitB C = B3 at *
  generalize rightFan level kids = r0 at *
  generalize rightLeaf prs = r1 at *
  generalize rightBranch nlevel nkids = r2 at *
  generalize rightCommit C = r3 at *
  have t3n := fun (w1 : World) => commit_none w1
  obtain ⟨tree, pars, who, time, note⟩ := C
  unfold com0 at t3n
  unfold comC comV at *
  dsimp only at *
  have HBF := Lib.hid hBF
  have HBN := Lib.hid hBN
  have HBC := Lib.hid hBC
  have HM0 := Lib.hid hM0
  have HSH := Lib.hid cSH
  have HC0 := Lib.hid c0
  have HC1 := Lib.hid c1
  have HC2 := Lib.hid c2
  have HC3 := Lib.hid c3
  have HS0 := Lib.hid s0
  have HS1 := Lib.hid s1
  have HS2 := Lib.hid s2
  have HS3 := Lib.hid s3
  have HT0 := Lib.hid t0
  have HT1 := Lib.hid t1
  have HT2 := Lib.hid t2
  have HT3 := Lib.hid t3
  have HT3N := Lib.hid t3n
  have HT0N := Lib.hid (fun (w1 : World) => fan_none w1)
  have HT1N := Lib.hid (fun (w1 : World) => leaf_none w1)
  have HT2N := Lib.hid (fun (w1 : World) => branch_none w1)
  have HW0 := Lib.hid hw0
  clear hBF hBN hBC hM0 cSH c0 c1 c2 c3 s0 s1 s2 s3 t0 t1 t2 t3 t3n hK hA hAP hAN hAC hK0 hA0 hAP0 hAN0 hAC0 hlv hsz hc hl hcp hlp hlvn hszn hcn hln hti hcc hlc hAdc hcapc hw0
  go_enter Tryd.func7, Tryd.ntmps7
  go_wp2_with fail
  rw [← HW0.out]
  refine (HSH.out _ (Mod.refl _ _)).mono ?_
  rintro e w1 ⟨rfl, hm⟩
  have hb := HBF.out.keep hm (fun h => h)
  have x0 := hb.cell (o := 0) rfl
  have x1 := hb.cell (o := 1) rfl
  have HM := Lib.hid hm
  clear hm hb HSH
  go_wp2_with fail
  cases r0 with
  | true =>
    rw [Bool.not_true, putV_f] at HC0
    generalize Hash.sha B0 = H0 at HC0
    refine (HC0.out _ HM.out).mono ?_
    rintro e w2 ⟨rfl, hm⟩
    have HM2 := Lib.hid (Mod.trans HM.out hm (fun _ _ h => h))
    have ha := Has.new w2 [.string ⟨H0.toArray⟩, .string ⟨B0.toArray⟩] 27
    have hz := HM2.out.size
    have HMS := Lib.hid (HM2.out.alloc (.cells #[.string ⟨H0.toArray⟩, .string ⟨B0.toArray⟩] 27))
    have HAS := Lib.hid ha
    have HBA := Lib.hid hz
    clear hm ha hz HM HC0
    go_wp2_with fail
    refine (HT0.out (by simp) _).mono ?_
    rintro e w3 ⟨v3, rfl, ho, hm⟩
    obtain ⟨A8, c8, rfl, _, hcl, _, _⟩ := own_cells ho
    have HL := Lib.hid hcl
    have HM3 := Lib.hid (Mod.trans HMS.out hm (fun _ _ h => h))
    have hA3 := HAS.out.keep hm (fun h => h)
    obtain ⟨ba, hba⟩ : ∃ ba, w2.heap.size = ba := ⟨_, rfl⟩
    rw [hba]
    rw [hba] at hA3 HBA
    have HA3 := Lib.hid hA3
    clear hm ho hcl hA3 HMS HAS HM2 hba HT0 HT0N
    have hb := HBF.out.keep HM3.out (fun h => h)
    have x0 := hb.cell (o := 0) rfl
    have x1 := hb.cell (o := 1) rfl
    have hbl := hb.lt
    clear hb
    go_wp2_with fail
    refine (HS0.out _ (HM3.out.alloc (.cells #[.int .i64 level, .slice A8 kids.length c8] 32)) A8 c8 (HL.out.alloc (.cells #[.int .i64 level, .slice A8 kids.length c8] 32))).mono ?_
    rintro e w5 ⟨rfl, hm⟩
    have HM := Lib.hid (Mod.trans (HM3.out.alloc (.cells #[.int .i64 level, .slice A8 kids.length c8] 32)) hm (fun _ _ h => h))
    have HA : Hid (Has w5 ba [.string ⟨H0.toArray⟩, .string ⟨B0.toArray⟩] 27) := Lib.hid ((HA3.out.alloc (.cells #[.int .i64 level, .slice A8 kids.length c8] 32)).keep hm (fun h => h))
    clear hm HS0 HL HA3 x0 x1 hbl
    go_wp2_with fail
    cases r1 with
    | true =>
      rw [Bool.not_true, putV_f] at HC1
      generalize Hash.sha B1 = H1 at HC1
      refine (HC1.out _ HM.out).mono ?_
      rintro e w2 ⟨rfl, hm⟩
      have HM2 := Lib.hid (Mod.trans HM.out hm (fun _ _ h => h))
      have ha := HA.out.keep hm (fun h => h)
      have ka0 := ha.frozen 0
      have ka1 := ha.frozen 1
      have ya0 := ha.cell (o := 0) rfl
      have ya1 := ha.cell (o := 1) rfl
      have HMS := Lib.hid ((HM2.out.setCell (p := ⟨ba, 0, none⟩) (.inr HBA.out) (.string ⟨H1.toArray⟩)).setCell (p := ⟨ba, 1, none⟩) (.inr HBA.out) (.string ⟨B1.toArray⟩))
      have HAS := Lib.hid ((ha.set 0 (.string ⟨H1.toArray⟩)).set 1 (.string ⟨B1.toArray⟩))
      have ya2 := HAS.out.cell (o := 1) rfl
      clear hm ha HM HC1
      go_wp2_with fail
      refine (HT1.out (by simp) _).mono ?_
      rintro e w3 ⟨v3, rfl, ho, hm⟩
      obtain ⟨A8, c8, rfl, _, hcl, _, _⟩ := own_cells ho
      have HL := Lib.hid hcl
      have HM3 := Lib.hid (Mod.trans HMS.out hm (fun _ _ h => h))
      have hA3 := HAS.out.keep hm (fun h => h)
      have HA3 := Lib.hid hA3
      clear hm ho hcl hA3 HMS HAS HM2 ka0 ka1 ya0 ya1 ya2 HT1 HT1N HA
      go_wp2_with fail
      refine (HS1.out _ HM3.out A8 c8 HL.out).mono ?_
      rintro e w5 ⟨rfl, hm⟩
      have HM := Lib.hid (Mod.trans HM3.out hm (fun _ _ h => h))
      have HA : Hid (Has w5 ba [.string ⟨H1.toArray⟩, .string ⟨B1.toArray⟩] 27) := Lib.hid (HA3.out.keep hm (fun h => h))
      clear hm HS1 HL HA3
      have hb := HBN.out.keep HM.out (fun h => h)
      have x0 := hb.cell (o := 0) rfl
      have x1 := hb.cell (o := 1) rfl
      have hbl := hb.lt
      clear hb
      go_wp2_with fail
      cases r2 with
      | true =>
        rw [Bool.not_true, putV_f] at HC2
        generalize Hash.sha B2 = H2 at HC2
        refine (HC2.out _ HM.out).mono ?_
        rintro e w2 ⟨rfl, hm⟩
        have HM2 := Lib.hid (Mod.trans HM.out hm (fun _ _ h => h))
        have ha := HA.out.keep hm (fun h => h)
        have ka0 := ha.frozen 0
        have ka1 := ha.frozen 1
        have ya0 := ha.cell (o := 0) rfl
        have ya1 := ha.cell (o := 1) rfl
        have HMS := Lib.hid ((HM2.out.setCell (p := ⟨ba, 0, none⟩) (.inr HBA.out) (.string ⟨H2.toArray⟩)).setCell (p := ⟨ba, 1, none⟩) (.inr HBA.out) (.string ⟨B2.toArray⟩))
        have HAS := Lib.hid ((ha.set 0 (.string ⟨H2.toArray⟩)).set 1 (.string ⟨B2.toArray⟩))
        have ya2 := HAS.out.cell (o := 1) rfl
        clear hm ha HM HC2
        go_wp2_with fail
        refine (HT2.out (by simp) _).mono ?_
        rintro e w3 ⟨v3, rfl, ho, hm⟩
        obtain ⟨A8, c8, rfl, _, hcl, _, _⟩ := own_cells ho
        have HL := Lib.hid hcl
        have HM3 := Lib.hid (Mod.trans HMS.out hm (fun _ _ h => h))
        have hA3 := HAS.out.keep hm (fun h => h)
        have HA3 := Lib.hid hA3
        clear hm ho hcl hA3 HMS HAS HM2 ka0 ka1 ya0 ya1 ya2 HT2 HT2N HA
        have hb := HBN.out.keep HM3.out (fun h => h)
        have x0 := hb.cell (o := 0) rfl
        have x1 := hb.cell (o := 1) rfl
        have hbl := hb.lt
        clear hb
        go_wp2_with fail
        refine (HS2.out _ (HM3.out.alloc (.cells #[.int .i64 nlevel, .slice A8 nkids.length c8] 42)) A8 c8 (HL.out.alloc (.cells #[.int .i64 nlevel, .slice A8 nkids.length c8] 42))).mono ?_
        rintro e w5 ⟨rfl, hm⟩
        have HM := Lib.hid (Mod.trans (HM3.out.alloc (.cells #[.int .i64 nlevel, .slice A8 nkids.length c8] 42)) hm (fun _ _ h => h))
        have HA : Hid (Has w5 ba [.string ⟨H2.toArray⟩, .string ⟨B2.toArray⟩] 27) := Lib.hid ((HA3.out.alloc (.cells #[.int .i64 nlevel, .slice A8 nkids.length c8] 42)).keep hm (fun h => h))
        clear hm HS2 HL HA3 x0 x1 hbl
        have hb := HBC.out.keep HM.out (fun h => h)
        have x0 := hb.cell (o := 0) rfl
        have x1 := hb.cell (o := 1) rfl
        have x2 := hb.cell (o := 2) rfl
        have x3 := hb.cell (o := 3) rfl
        have x4 := hb.cell (o := 4) rfl
        have hbl := hb.lt
        clear hb
        go_wp2_with fail
        cases r3 with
        | true =>
          rw [Bool.not_true, putV_f] at HC3
          generalize Hash.sha B3 = H3 at HC3
          refine (HC3.out _ HM.out).mono ?_
          rintro e w2 ⟨rfl, hm⟩
          have HM2 := Lib.hid (Mod.trans HM.out hm (fun _ _ h => h))
          have ha := HA.out.keep hm (fun h => h)
          have ka0 := ha.frozen 0
          have ka1 := ha.frozen 1
          have ya0 := ha.cell (o := 0) rfl
          have ya1 := ha.cell (o := 1) rfl
          have HMS := Lib.hid ((HM2.out.setCell (p := ⟨ba, 0, none⟩) (.inr HBA.out) (.string ⟨H3.toArray⟩)).setCell (p := ⟨ba, 1, none⟩) (.inr HBA.out) (.string ⟨B3.toArray⟩))
          have HAS := Lib.hid ((ha.set 0 (.string ⟨H3.toArray⟩)).set 1 (.string ⟨B3.toArray⟩))
          have ya2 := HAS.out.cell (o := 1) rfl
          clear hm ha HM HC3
          go_wp2_with fail
          refine (HT3.out (by simp) _).mono ?_
          rintro e w3 ⟨v3, rfl, ho, hm⟩
          obtain ⟨A8, c8, rfl, _, hcl, _, _⟩ := own_cells ho
          have HL := Lib.hid hcl
          have HM3 := Lib.hid (Mod.trans HMS.out hm (fun _ _ h => h))
          have hA3 := HAS.out.keep hm (fun h => h)
          have HA3 := Lib.hid hA3
          clear hm ho hcl hA3 HMS HAS HM2 ka0 ka1 ya0 ya1 ya2 HT3 HT3N HA
          have hb := HBC.out.keep HM3.out (fun h => h)
          have x0 := hb.cell (o := 0) rfl
          have x1 := hb.cell (o := 1) rfl
          have x2 := hb.cell (o := 2) rfl
          have x3 := hb.cell (o := 3) rfl
          have x4 := hb.cell (o := 4) rfl
          have hbl := hb.lt
          clear hb
          go_wp2_with fail
          refine (HS3.out _ (HM3.out.alloc (.cells #[.string tree, .slice A8 pars.length c8, .string who, .int .i64 time, .string note] 48)) A8 c8 (HL.out.alloc (.cells #[.string tree, .slice A8 pars.length c8, .string who, .int .i64 time, .string note] 48))).mono ?_
          rintro e w5 ⟨rfl, hm⟩
          have HM := Lib.hid (Mod.trans (HM3.out.alloc (.cells #[.string tree, .slice A8 pars.length c8, .string who, .int .i64 time, .string note] 48)) hm (fun _ _ h => h))
          have HA : Hid (Has w5 ba [.string ⟨H3.toArray⟩, .string ⟨B3.toArray⟩] 27) := Lib.hid ((HA3.out.alloc (.cells #[.string tree, .slice A8 pars.length c8, .string who, .int .i64 time, .string note] 48)).keep hm (fun h => h))
          clear hm HS3 HL HA3 x0 x1 x2 x3 x4 hbl
          go_wp2_with fail
          go_ret
          exact ⟨rfl, (Mod.trans HM0.out HM.out (fun _ _ h => h)).below (fun _ _ h => h)⟩
        | false =>
          rw [Bool.not_false, putV_t] at HC3
          refine (HC3.out _ HM.out).mono ?_
          rintro e w2 ⟨rfl, hm⟩
          have HM2 := Lib.hid (Mod.trans HM.out hm (fun _ _ h => h))
          have ha := HA.out.keep hm (fun h => h)
          have ka0 := ha.frozen 0
          have ka1 := ha.frozen 1
          have ya0 := ha.cell (o := 0) rfl
          have ya1 := ha.cell (o := 1) rfl
          have HMS := Lib.hid ((HM2.out.setCell (p := ⟨ba, 0, none⟩) (.inr HBA.out) (.string ⟨#[]⟩)).setCell (p := ⟨ba, 1, none⟩) (.inr HBA.out) (.string ⟨#[]⟩))
          have HAS := Lib.hid ((ha.set 0 (.string ⟨#[]⟩)).set 1 (.string ⟨#[]⟩))
          have ya2 := HAS.out.cell (o := 1) rfl
          clear hm ha HM HC3
          go_wp2_with fail
          refine (HT3N.out _).mono ?_
          rintro e w3 ⟨v3, rfl, ho, hm⟩
          obtain ⟨A8, c8, rfl, _, hcl, _, _⟩ := own_cells ho
          have HL := Lib.hid hcl
          have HM3 := Lib.hid (Mod.trans HMS.out hm (fun _ _ h => h))
          have hA3 := HAS.out.keep hm (fun h => h)
          have HA3 := Lib.hid hA3
          clear hm ho hcl hA3 HMS HAS HM2 ka0 ka1 ya0 ya1 ya2 HT3 HT3N HA
          have HM := Lib.hid (HM3.out.alloc (.cells #[.string ⟨#[]⟩, .slice A8 0 c8, .string ⟨#[]⟩, .int .i64 0, .string ⟨#[]⟩] 48))
          have HA : Hid (Has (w3.alloc (.cells #[.string ⟨#[]⟩, .slice A8 0 c8, .string ⟨#[]⟩, .int .i64 0, .string ⟨#[]⟩] 48)) ba [.string ⟨#[]⟩, .string ⟨#[]⟩] 27) := Lib.hid (HA3.out.alloc (.cells #[.string ⟨#[]⟩, .slice A8 0 c8, .string ⟨#[]⟩, .int .i64 0, .string ⟨#[]⟩] 48))
          clear HS3 HL HA3
          go_wp2_with fail
          go_ret
          exact ⟨rfl, (Mod.trans HM0.out HM.out (fun _ _ h => h)).below (fun _ _ h => h)⟩
      | false =>
        rw [Bool.not_false, putV_t] at HC2
        refine (HC2.out _ HM.out).mono ?_
        rintro e w2 ⟨rfl, hm⟩
        have HM2 := Lib.hid (Mod.trans HM.out hm (fun _ _ h => h))
        have ha := HA.out.keep hm (fun h => h)
        have ka0 := ha.frozen 0
        have ka1 := ha.frozen 1
        have ya0 := ha.cell (o := 0) rfl
        have ya1 := ha.cell (o := 1) rfl
        have HMS := Lib.hid ((HM2.out.setCell (p := ⟨ba, 0, none⟩) (.inr HBA.out) (.string ⟨#[]⟩)).setCell (p := ⟨ba, 1, none⟩) (.inr HBA.out) (.string ⟨#[]⟩))
        have HAS := Lib.hid ((ha.set 0 (.string ⟨#[]⟩)).set 1 (.string ⟨#[]⟩))
        have ya2 := HAS.out.cell (o := 1) rfl
        clear hm ha HM HC2
        go_wp2_with fail
        refine (HT2N.out _).mono ?_
        rintro e w3 ⟨v3, rfl, ho, hm⟩
        obtain ⟨A8, c8, rfl, _, hcl, _, _⟩ := own_cells ho
        have HL := Lib.hid hcl
        have HM3 := Lib.hid (Mod.trans HMS.out hm (fun _ _ h => h))
        have hA3 := HAS.out.keep hm (fun h => h)
        have HA3 := Lib.hid hA3
        clear hm ho hcl hA3 HMS HAS HM2 ka0 ka1 ya0 ya1 ya2 HT2 HT2N HA
        have HM := Lib.hid (HM3.out.alloc (.cells #[.int .i64 0, .slice A8 0 c8] 42))
        have HA : Hid (Has (w3.alloc (.cells #[.int .i64 0, .slice A8 0 c8] 42)) ba [.string ⟨#[]⟩, .string ⟨#[]⟩] 27) := Lib.hid (HA3.out.alloc (.cells #[.int .i64 0, .slice A8 0 c8] 42))
        clear HS2 HL HA3
        have hb := HBC.out.keep HM3.out (fun h => h)
        have x0 := hb.cell (o := 0) rfl
        have x1 := hb.cell (o := 1) rfl
        have x2 := hb.cell (o := 2) rfl
        have x3 := hb.cell (o := 3) rfl
        have x4 := hb.cell (o := 4) rfl
        have hbl := hb.lt
        clear hb
        go_wp2_with fail
        cases r3 with
        | true =>
          rw [Bool.not_true, putV_f] at HC3
          generalize Hash.sha B3 = H3 at HC3
          refine (HC3.out _ HM.out).mono ?_
          rintro e w2 ⟨rfl, hm⟩
          have HM2 := Lib.hid (Mod.trans HM.out hm (fun _ _ h => h))
          have ha := HA.out.keep hm (fun h => h)
          have ka0 := ha.frozen 0
          have ka1 := ha.frozen 1
          have ya0 := ha.cell (o := 0) rfl
          have ya1 := ha.cell (o := 1) rfl
          have HMS := Lib.hid ((HM2.out.setCell (p := ⟨ba, 0, none⟩) (.inr HBA.out) (.string ⟨H3.toArray⟩)).setCell (p := ⟨ba, 1, none⟩) (.inr HBA.out) (.string ⟨B3.toArray⟩))
          have HAS := Lib.hid ((ha.set 0 (.string ⟨H3.toArray⟩)).set 1 (.string ⟨B3.toArray⟩))
          have ya2 := HAS.out.cell (o := 1) rfl
          clear hm ha HM HC3
          go_wp2_with fail
          refine (HT3.out (by simp) _).mono ?_
          rintro e w3 ⟨v3, rfl, ho, hm⟩
          obtain ⟨A8, c8, rfl, _, hcl, _, _⟩ := own_cells ho
          have HL := Lib.hid hcl
          have HM3 := Lib.hid (Mod.trans HMS.out hm (fun _ _ h => h))
          have hA3 := HAS.out.keep hm (fun h => h)
          have HA3 := Lib.hid hA3
          clear hm ho hcl hA3 HMS HAS HM2 ka0 ka1 ya0 ya1 ya2 HT3 HT3N HA
          have hb := HBC.out.keep HM3.out (fun h => h)
          have x0 := hb.cell (o := 0) rfl
          have x1 := hb.cell (o := 1) rfl
          have x2 := hb.cell (o := 2) rfl
          have x3 := hb.cell (o := 3) rfl
          have x4 := hb.cell (o := 4) rfl
          have hbl := hb.lt
          clear hb
          go_wp2_with fail
          refine (HS3.out _ (HM3.out.alloc (.cells #[.string tree, .slice A8 pars.length c8, .string who, .int .i64 time, .string note] 48)) A8 c8 (HL.out.alloc (.cells #[.string tree, .slice A8 pars.length c8, .string who, .int .i64 time, .string note] 48))).mono ?_
          rintro e w5 ⟨rfl, hm⟩
          have HM := Lib.hid (Mod.trans (HM3.out.alloc (.cells #[.string tree, .slice A8 pars.length c8, .string who, .int .i64 time, .string note] 48)) hm (fun _ _ h => h))
          have HA : Hid (Has w5 ba [.string ⟨H3.toArray⟩, .string ⟨B3.toArray⟩] 27) := Lib.hid ((HA3.out.alloc (.cells #[.string tree, .slice A8 pars.length c8, .string who, .int .i64 time, .string note] 48)).keep hm (fun h => h))
          clear hm HS3 HL HA3 x0 x1 x2 x3 x4 hbl
          go_wp2_with fail
          go_ret
          exact ⟨rfl, (Mod.trans HM0.out HM.out (fun _ _ h => h)).below (fun _ _ h => h)⟩
        | false =>
          rw [Bool.not_false, putV_t] at HC3
          refine (HC3.out _ HM.out).mono ?_
          rintro e w2 ⟨rfl, hm⟩
          have HM2 := Lib.hid (Mod.trans HM.out hm (fun _ _ h => h))
          have ha := HA.out.keep hm (fun h => h)
          have ka0 := ha.frozen 0
          have ka1 := ha.frozen 1
          have ya0 := ha.cell (o := 0) rfl
          have ya1 := ha.cell (o := 1) rfl
          have HMS := Lib.hid ((HM2.out.setCell (p := ⟨ba, 0, none⟩) (.inr HBA.out) (.string ⟨#[]⟩)).setCell (p := ⟨ba, 1, none⟩) (.inr HBA.out) (.string ⟨#[]⟩))
          have HAS := Lib.hid ((ha.set 0 (.string ⟨#[]⟩)).set 1 (.string ⟨#[]⟩))
          have ya2 := HAS.out.cell (o := 1) rfl
          clear hm ha HM HC3
          go_wp2_with fail
          refine (HT3N.out _).mono ?_
          rintro e w3 ⟨v3, rfl, ho, hm⟩
          obtain ⟨A8, c8, rfl, _, hcl, _, _⟩ := own_cells ho
          have HL := Lib.hid hcl
          have HM3 := Lib.hid (Mod.trans HMS.out hm (fun _ _ h => h))
          have hA3 := HAS.out.keep hm (fun h => h)
          have HA3 := Lib.hid hA3
          clear hm ho hcl hA3 HMS HAS HM2 ka0 ka1 ya0 ya1 ya2 HT3 HT3N HA
          have HM := Lib.hid (HM3.out.alloc (.cells #[.string ⟨#[]⟩, .slice A8 0 c8, .string ⟨#[]⟩, .int .i64 0, .string ⟨#[]⟩] 48))
          have HA : Hid (Has (w3.alloc (.cells #[.string ⟨#[]⟩, .slice A8 0 c8, .string ⟨#[]⟩, .int .i64 0, .string ⟨#[]⟩] 48)) ba [.string ⟨#[]⟩, .string ⟨#[]⟩] 27) := Lib.hid (HA3.out.alloc (.cells #[.string ⟨#[]⟩, .slice A8 0 c8, .string ⟨#[]⟩, .int .i64 0, .string ⟨#[]⟩] 48))
          clear HS3 HL HA3
          go_wp2_with fail
          go_ret
          exact ⟨rfl, (Mod.trans HM0.out HM.out (fun _ _ h => h)).below (fun _ _ h => h)⟩
    | false =>
      rw [Bool.not_false, putV_t] at HC1
      refine (HC1.out _ HM.out).mono ?_
      rintro e w2 ⟨rfl, hm⟩
      have HM2 := Lib.hid (Mod.trans HM.out hm (fun _ _ h => h))
      have ha := HA.out.keep hm (fun h => h)
      have ka0 := ha.frozen 0
      have ka1 := ha.frozen 1
      have ya0 := ha.cell (o := 0) rfl
      have ya1 := ha.cell (o := 1) rfl
      have HMS := Lib.hid ((HM2.out.setCell (p := ⟨ba, 0, none⟩) (.inr HBA.out) (.string ⟨#[]⟩)).setCell (p := ⟨ba, 1, none⟩) (.inr HBA.out) (.string ⟨#[]⟩))
      have HAS := Lib.hid ((ha.set 0 (.string ⟨#[]⟩)).set 1 (.string ⟨#[]⟩))
      have ya2 := HAS.out.cell (o := 1) rfl
      clear hm ha HM HC1
      go_wp2_with fail
      refine (HT1N.out _).mono ?_
      rintro e w3 ⟨v3, rfl, ho, hm⟩
      obtain ⟨A8, c8, rfl, _, hcl, _, _⟩ := own_cells ho
      have HL := Lib.hid hcl
      have HM3 := Lib.hid (Mod.trans HMS.out hm (fun _ _ h => h))
      have hA3 := HAS.out.keep hm (fun h => h)
      have HA3 := Lib.hid hA3
      clear hm ho hcl hA3 HMS HAS HM2 ka0 ka1 ya0 ya1 ya2 HT1 HT1N HA
      have HM := Lib.hid HM3.out
      have HA : Hid (Has w3 ba [.string ⟨#[]⟩, .string ⟨#[]⟩] 27) := Lib.hid HA3.out
      clear HS1 HL HA3
      have hb := HBN.out.keep HM3.out (fun h => h)
      have x0 := hb.cell (o := 0) rfl
      have x1 := hb.cell (o := 1) rfl
      have hbl := hb.lt
      clear hb
      go_wp2_with fail
      cases r2 with
      | true =>
        rw [Bool.not_true, putV_f] at HC2
        generalize Hash.sha B2 = H2 at HC2
        refine (HC2.out _ HM.out).mono ?_
        rintro e w2 ⟨rfl, hm⟩
        have HM2 := Lib.hid (Mod.trans HM.out hm (fun _ _ h => h))
        have ha := HA.out.keep hm (fun h => h)
        have ka0 := ha.frozen 0
        have ka1 := ha.frozen 1
        have ya0 := ha.cell (o := 0) rfl
        have ya1 := ha.cell (o := 1) rfl
        have HMS := Lib.hid ((HM2.out.setCell (p := ⟨ba, 0, none⟩) (.inr HBA.out) (.string ⟨H2.toArray⟩)).setCell (p := ⟨ba, 1, none⟩) (.inr HBA.out) (.string ⟨B2.toArray⟩))
        have HAS := Lib.hid ((ha.set 0 (.string ⟨H2.toArray⟩)).set 1 (.string ⟨B2.toArray⟩))
        have ya2 := HAS.out.cell (o := 1) rfl
        clear hm ha HM HC2
        go_wp2_with fail
        refine (HT2.out (by simp) _).mono ?_
        rintro e w3 ⟨v3, rfl, ho, hm⟩
        obtain ⟨A8, c8, rfl, _, hcl, _, _⟩ := own_cells ho
        have HL := Lib.hid hcl
        have HM3 := Lib.hid (Mod.trans HMS.out hm (fun _ _ h => h))
        have hA3 := HAS.out.keep hm (fun h => h)
        have HA3 := Lib.hid hA3
        clear hm ho hcl hA3 HMS HAS HM2 ka0 ka1 ya0 ya1 ya2 HT2 HT2N HA
        have hb := HBN.out.keep HM3.out (fun h => h)
        have x0 := hb.cell (o := 0) rfl
        have x1 := hb.cell (o := 1) rfl
        have hbl := hb.lt
        clear hb
        go_wp2_with fail
        refine (HS2.out _ (HM3.out.alloc (.cells #[.int .i64 nlevel, .slice A8 nkids.length c8] 42)) A8 c8 (HL.out.alloc (.cells #[.int .i64 nlevel, .slice A8 nkids.length c8] 42))).mono ?_
        rintro e w5 ⟨rfl, hm⟩
        have HM := Lib.hid (Mod.trans (HM3.out.alloc (.cells #[.int .i64 nlevel, .slice A8 nkids.length c8] 42)) hm (fun _ _ h => h))
        have HA : Hid (Has w5 ba [.string ⟨H2.toArray⟩, .string ⟨B2.toArray⟩] 27) := Lib.hid ((HA3.out.alloc (.cells #[.int .i64 nlevel, .slice A8 nkids.length c8] 42)).keep hm (fun h => h))
        clear hm HS2 HL HA3 x0 x1 hbl
        have hb := HBC.out.keep HM.out (fun h => h)
        have x0 := hb.cell (o := 0) rfl
        have x1 := hb.cell (o := 1) rfl
        have x2 := hb.cell (o := 2) rfl
        have x3 := hb.cell (o := 3) rfl
        have x4 := hb.cell (o := 4) rfl
        have hbl := hb.lt
        clear hb
        go_wp2_with fail
        cases r3 with
        | true =>
          rw [Bool.not_true, putV_f] at HC3
          generalize Hash.sha B3 = H3 at HC3
          refine (HC3.out _ HM.out).mono ?_
          rintro e w2 ⟨rfl, hm⟩
          have HM2 := Lib.hid (Mod.trans HM.out hm (fun _ _ h => h))
          have ha := HA.out.keep hm (fun h => h)
          have ka0 := ha.frozen 0
          have ka1 := ha.frozen 1
          have ya0 := ha.cell (o := 0) rfl
          have ya1 := ha.cell (o := 1) rfl
          have HMS := Lib.hid ((HM2.out.setCell (p := ⟨ba, 0, none⟩) (.inr HBA.out) (.string ⟨H3.toArray⟩)).setCell (p := ⟨ba, 1, none⟩) (.inr HBA.out) (.string ⟨B3.toArray⟩))
          have HAS := Lib.hid ((ha.set 0 (.string ⟨H3.toArray⟩)).set 1 (.string ⟨B3.toArray⟩))
          have ya2 := HAS.out.cell (o := 1) rfl
          clear hm ha HM HC3
          go_wp2_with fail
          refine (HT3.out (by simp) _).mono ?_
          rintro e w3 ⟨v3, rfl, ho, hm⟩
          obtain ⟨A8, c8, rfl, _, hcl, _, _⟩ := own_cells ho
          have HL := Lib.hid hcl
          have HM3 := Lib.hid (Mod.trans HMS.out hm (fun _ _ h => h))
          have hA3 := HAS.out.keep hm (fun h => h)
          have HA3 := Lib.hid hA3
          clear hm ho hcl hA3 HMS HAS HM2 ka0 ka1 ya0 ya1 ya2 HT3 HT3N HA
          have hb := HBC.out.keep HM3.out (fun h => h)
          have x0 := hb.cell (o := 0) rfl
          have x1 := hb.cell (o := 1) rfl
          have x2 := hb.cell (o := 2) rfl
          have x3 := hb.cell (o := 3) rfl
          have x4 := hb.cell (o := 4) rfl
          have hbl := hb.lt
          clear hb
          go_wp2_with fail
          refine (HS3.out _ (HM3.out.alloc (.cells #[.string tree, .slice A8 pars.length c8, .string who, .int .i64 time, .string note] 48)) A8 c8 (HL.out.alloc (.cells #[.string tree, .slice A8 pars.length c8, .string who, .int .i64 time, .string note] 48))).mono ?_
          rintro e w5 ⟨rfl, hm⟩
          have HM := Lib.hid (Mod.trans (HM3.out.alloc (.cells #[.string tree, .slice A8 pars.length c8, .string who, .int .i64 time, .string note] 48)) hm (fun _ _ h => h))
          have HA : Hid (Has w5 ba [.string ⟨H3.toArray⟩, .string ⟨B3.toArray⟩] 27) := Lib.hid ((HA3.out.alloc (.cells #[.string tree, .slice A8 pars.length c8, .string who, .int .i64 time, .string note] 48)).keep hm (fun h => h))
          clear hm HS3 HL HA3 x0 x1 x2 x3 x4 hbl
          go_wp2_with fail
          go_ret
          exact ⟨rfl, (Mod.trans HM0.out HM.out (fun _ _ h => h)).below (fun _ _ h => h)⟩
        | false =>
          rw [Bool.not_false, putV_t] at HC3
          refine (HC3.out _ HM.out).mono ?_
          rintro e w2 ⟨rfl, hm⟩
          have HM2 := Lib.hid (Mod.trans HM.out hm (fun _ _ h => h))
          have ha := HA.out.keep hm (fun h => h)
          have ka0 := ha.frozen 0
          have ka1 := ha.frozen 1
          have ya0 := ha.cell (o := 0) rfl
          have ya1 := ha.cell (o := 1) rfl
          have HMS := Lib.hid ((HM2.out.setCell (p := ⟨ba, 0, none⟩) (.inr HBA.out) (.string ⟨#[]⟩)).setCell (p := ⟨ba, 1, none⟩) (.inr HBA.out) (.string ⟨#[]⟩))
          have HAS := Lib.hid ((ha.set 0 (.string ⟨#[]⟩)).set 1 (.string ⟨#[]⟩))
          have ya2 := HAS.out.cell (o := 1) rfl
          clear hm ha HM HC3
          go_wp2_with fail
          refine (HT3N.out _).mono ?_
          rintro e w3 ⟨v3, rfl, ho, hm⟩
          obtain ⟨A8, c8, rfl, _, hcl, _, _⟩ := own_cells ho
          have HL := Lib.hid hcl
          have HM3 := Lib.hid (Mod.trans HMS.out hm (fun _ _ h => h))
          have hA3 := HAS.out.keep hm (fun h => h)
          have HA3 := Lib.hid hA3
          clear hm ho hcl hA3 HMS HAS HM2 ka0 ka1 ya0 ya1 ya2 HT3 HT3N HA
          have HM := Lib.hid (HM3.out.alloc (.cells #[.string ⟨#[]⟩, .slice A8 0 c8, .string ⟨#[]⟩, .int .i64 0, .string ⟨#[]⟩] 48))
          have HA : Hid (Has (w3.alloc (.cells #[.string ⟨#[]⟩, .slice A8 0 c8, .string ⟨#[]⟩, .int .i64 0, .string ⟨#[]⟩] 48)) ba [.string ⟨#[]⟩, .string ⟨#[]⟩] 27) := Lib.hid (HA3.out.alloc (.cells #[.string ⟨#[]⟩, .slice A8 0 c8, .string ⟨#[]⟩, .int .i64 0, .string ⟨#[]⟩] 48))
          clear HS3 HL HA3
          go_wp2_with fail
          go_ret
          exact ⟨rfl, (Mod.trans HM0.out HM.out (fun _ _ h => h)).below (fun _ _ h => h)⟩
      | false =>
        rw [Bool.not_false, putV_t] at HC2
        refine (HC2.out _ HM.out).mono ?_
        rintro e w2 ⟨rfl, hm⟩
        have HM2 := Lib.hid (Mod.trans HM.out hm (fun _ _ h => h))
        have ha := HA.out.keep hm (fun h => h)
        have ka0 := ha.frozen 0
        have ka1 := ha.frozen 1
        have ya0 := ha.cell (o := 0) rfl
        have ya1 := ha.cell (o := 1) rfl
        have HMS := Lib.hid ((HM2.out.setCell (p := ⟨ba, 0, none⟩) (.inr HBA.out) (.string ⟨#[]⟩)).setCell (p := ⟨ba, 1, none⟩) (.inr HBA.out) (.string ⟨#[]⟩))
        have HAS := Lib.hid ((ha.set 0 (.string ⟨#[]⟩)).set 1 (.string ⟨#[]⟩))
        have ya2 := HAS.out.cell (o := 1) rfl
        clear hm ha HM HC2
        go_wp2_with fail
        refine (HT2N.out _).mono ?_
        rintro e w3 ⟨v3, rfl, ho, hm⟩
        obtain ⟨A8, c8, rfl, _, hcl, _, _⟩ := own_cells ho
        have HL := Lib.hid hcl
        have HM3 := Lib.hid (Mod.trans HMS.out hm (fun _ _ h => h))
        have hA3 := HAS.out.keep hm (fun h => h)
        have HA3 := Lib.hid hA3
        clear hm ho hcl hA3 HMS HAS HM2 ka0 ka1 ya0 ya1 ya2 HT2 HT2N HA
        have HM := Lib.hid (HM3.out.alloc (.cells #[.int .i64 0, .slice A8 0 c8] 42))
        have HA : Hid (Has (w3.alloc (.cells #[.int .i64 0, .slice A8 0 c8] 42)) ba [.string ⟨#[]⟩, .string ⟨#[]⟩] 27) := Lib.hid (HA3.out.alloc (.cells #[.int .i64 0, .slice A8 0 c8] 42))
        clear HS2 HL HA3
        have hb := HBC.out.keep HM3.out (fun h => h)
        have x0 := hb.cell (o := 0) rfl
        have x1 := hb.cell (o := 1) rfl
        have x2 := hb.cell (o := 2) rfl
        have x3 := hb.cell (o := 3) rfl
        have x4 := hb.cell (o := 4) rfl
        have hbl := hb.lt
        clear hb
        go_wp2_with fail
        cases r3 with
        | true =>
          rw [Bool.not_true, putV_f] at HC3
          generalize Hash.sha B3 = H3 at HC3
          refine (HC3.out _ HM.out).mono ?_
          rintro e w2 ⟨rfl, hm⟩
          have HM2 := Lib.hid (Mod.trans HM.out hm (fun _ _ h => h))
          have ha := HA.out.keep hm (fun h => h)
          have ka0 := ha.frozen 0
          have ka1 := ha.frozen 1
          have ya0 := ha.cell (o := 0) rfl
          have ya1 := ha.cell (o := 1) rfl
          have HMS := Lib.hid ((HM2.out.setCell (p := ⟨ba, 0, none⟩) (.inr HBA.out) (.string ⟨H3.toArray⟩)).setCell (p := ⟨ba, 1, none⟩) (.inr HBA.out) (.string ⟨B3.toArray⟩))
          have HAS := Lib.hid ((ha.set 0 (.string ⟨H3.toArray⟩)).set 1 (.string ⟨B3.toArray⟩))
          have ya2 := HAS.out.cell (o := 1) rfl
          clear hm ha HM HC3
          go_wp2_with fail
          refine (HT3.out (by simp) _).mono ?_
          rintro e w3 ⟨v3, rfl, ho, hm⟩
          obtain ⟨A8, c8, rfl, _, hcl, _, _⟩ := own_cells ho
          have HL := Lib.hid hcl
          have HM3 := Lib.hid (Mod.trans HMS.out hm (fun _ _ h => h))
          have hA3 := HAS.out.keep hm (fun h => h)
          have HA3 := Lib.hid hA3
          clear hm ho hcl hA3 HMS HAS HM2 ka0 ka1 ya0 ya1 ya2 HT3 HT3N HA
          have hb := HBC.out.keep HM3.out (fun h => h)
          have x0 := hb.cell (o := 0) rfl
          have x1 := hb.cell (o := 1) rfl
          have x2 := hb.cell (o := 2) rfl
          have x3 := hb.cell (o := 3) rfl
          have x4 := hb.cell (o := 4) rfl
          have hbl := hb.lt
          clear hb
          go_wp2_with fail
          refine (HS3.out _ (HM3.out.alloc (.cells #[.string tree, .slice A8 pars.length c8, .string who, .int .i64 time, .string note] 48)) A8 c8 (HL.out.alloc (.cells #[.string tree, .slice A8 pars.length c8, .string who, .int .i64 time, .string note] 48))).mono ?_
          rintro e w5 ⟨rfl, hm⟩
          have HM := Lib.hid (Mod.trans (HM3.out.alloc (.cells #[.string tree, .slice A8 pars.length c8, .string who, .int .i64 time, .string note] 48)) hm (fun _ _ h => h))
          have HA : Hid (Has w5 ba [.string ⟨H3.toArray⟩, .string ⟨B3.toArray⟩] 27) := Lib.hid ((HA3.out.alloc (.cells #[.string tree, .slice A8 pars.length c8, .string who, .int .i64 time, .string note] 48)).keep hm (fun h => h))
          clear hm HS3 HL HA3 x0 x1 x2 x3 x4 hbl
          go_wp2_with fail
          go_ret
          exact ⟨rfl, (Mod.trans HM0.out HM.out (fun _ _ h => h)).below (fun _ _ h => h)⟩
        | false =>
          rw [Bool.not_false, putV_t] at HC3
          refine (HC3.out _ HM.out).mono ?_
          rintro e w2 ⟨rfl, hm⟩
          have HM2 := Lib.hid (Mod.trans HM.out hm (fun _ _ h => h))
          have ha := HA.out.keep hm (fun h => h)
          have ka0 := ha.frozen 0
          have ka1 := ha.frozen 1
          have ya0 := ha.cell (o := 0) rfl
          have ya1 := ha.cell (o := 1) rfl
          have HMS := Lib.hid ((HM2.out.setCell (p := ⟨ba, 0, none⟩) (.inr HBA.out) (.string ⟨#[]⟩)).setCell (p := ⟨ba, 1, none⟩) (.inr HBA.out) (.string ⟨#[]⟩))
          have HAS := Lib.hid ((ha.set 0 (.string ⟨#[]⟩)).set 1 (.string ⟨#[]⟩))
          have ya2 := HAS.out.cell (o := 1) rfl
          clear hm ha HM HC3
          go_wp2_with fail
          refine (HT3N.out _).mono ?_
          rintro e w3 ⟨v3, rfl, ho, hm⟩
          obtain ⟨A8, c8, rfl, _, hcl, _, _⟩ := own_cells ho
          have HL := Lib.hid hcl
          have HM3 := Lib.hid (Mod.trans HMS.out hm (fun _ _ h => h))
          have hA3 := HAS.out.keep hm (fun h => h)
          have HA3 := Lib.hid hA3
          clear hm ho hcl hA3 HMS HAS HM2 ka0 ka1 ya0 ya1 ya2 HT3 HT3N HA
          have HM := Lib.hid (HM3.out.alloc (.cells #[.string ⟨#[]⟩, .slice A8 0 c8, .string ⟨#[]⟩, .int .i64 0, .string ⟨#[]⟩] 48))
          have HA : Hid (Has (w3.alloc (.cells #[.string ⟨#[]⟩, .slice A8 0 c8, .string ⟨#[]⟩, .int .i64 0, .string ⟨#[]⟩] 48)) ba [.string ⟨#[]⟩, .string ⟨#[]⟩] 27) := Lib.hid (HA3.out.alloc (.cells #[.string ⟨#[]⟩, .slice A8 0 c8, .string ⟨#[]⟩, .int .i64 0, .string ⟨#[]⟩] 48))
          clear HS3 HL HA3
          go_wp2_with fail
          go_ret
          exact ⟨rfl, (Mod.trans HM0.out HM.out (fun _ _ h => h)).below (fun _ _ h => h)⟩
  | false =>
    rw [Bool.not_false, putV_t] at HC0
    refine (HC0.out _ HM.out).mono ?_
    rintro e w2 ⟨rfl, hm⟩
    have HM2 := Lib.hid (Mod.trans HM.out hm (fun _ _ h => h))
    have ha := Has.new w2 [.string ⟨#[]⟩, .string ⟨#[]⟩] 27
    have hz := HM2.out.size
    have HMS := Lib.hid (HM2.out.alloc (.cells #[.string ⟨#[]⟩, .string ⟨#[]⟩] 27))
    have HAS := Lib.hid ha
    have HBA := Lib.hid hz
    clear hm ha hz HM HC0
    go_wp2_with fail
    refine (HT0N.out _).mono ?_
    rintro e w3 ⟨v3, rfl, ho, hm⟩
    obtain ⟨A8, c8, rfl, _, hcl, _, _⟩ := own_cells ho
    have HL := Lib.hid hcl
    have HM3 := Lib.hid (Mod.trans HMS.out hm (fun _ _ h => h))
    have hA3 := HAS.out.keep hm (fun h => h)
    obtain ⟨ba, hba⟩ : ∃ ba, w2.heap.size = ba := ⟨_, rfl⟩
    rw [hba]
    rw [hba] at hA3 HBA
    have HA3 := Lib.hid hA3
    clear hm ho hcl hA3 HMS HAS HM2 hba HT0 HT0N
    have HM := Lib.hid (HM3.out.alloc (.cells #[.int .i64 0, .slice A8 0 c8] 32))
    have HA : Hid (Has (w3.alloc (.cells #[.int .i64 0, .slice A8 0 c8] 32)) ba [.string ⟨#[]⟩, .string ⟨#[]⟩] 27) := Lib.hid (HA3.out.alloc (.cells #[.int .i64 0, .slice A8 0 c8] 32))
    clear HS0 HL HA3
    go_wp2_with fail
    cases r1 with
    | true =>
      rw [Bool.not_true, putV_f] at HC1
      generalize Hash.sha B1 = H1 at HC1
      refine (HC1.out _ HM.out).mono ?_
      rintro e w2 ⟨rfl, hm⟩
      have HM2 := Lib.hid (Mod.trans HM.out hm (fun _ _ h => h))
      have ha := HA.out.keep hm (fun h => h)
      have ka0 := ha.frozen 0
      have ka1 := ha.frozen 1
      have ya0 := ha.cell (o := 0) rfl
      have ya1 := ha.cell (o := 1) rfl
      have HMS := Lib.hid ((HM2.out.setCell (p := ⟨ba, 0, none⟩) (.inr HBA.out) (.string ⟨H1.toArray⟩)).setCell (p := ⟨ba, 1, none⟩) (.inr HBA.out) (.string ⟨B1.toArray⟩))
      have HAS := Lib.hid ((ha.set 0 (.string ⟨H1.toArray⟩)).set 1 (.string ⟨B1.toArray⟩))
      have ya2 := HAS.out.cell (o := 1) rfl
      clear hm ha HM HC1
      go_wp2_with fail
      refine (HT1.out (by simp) _).mono ?_
      rintro e w3 ⟨v3, rfl, ho, hm⟩
      obtain ⟨A8, c8, rfl, _, hcl, _, _⟩ := own_cells ho
      have HL := Lib.hid hcl
      have HM3 := Lib.hid (Mod.trans HMS.out hm (fun _ _ h => h))
      have hA3 := HAS.out.keep hm (fun h => h)
      have HA3 := Lib.hid hA3
      clear hm ho hcl hA3 HMS HAS HM2 ka0 ka1 ya0 ya1 ya2 HT1 HT1N HA
      go_wp2_with fail
      refine (HS1.out _ HM3.out A8 c8 HL.out).mono ?_
      rintro e w5 ⟨rfl, hm⟩
      have HM := Lib.hid (Mod.trans HM3.out hm (fun _ _ h => h))
      have HA : Hid (Has w5 ba [.string ⟨H1.toArray⟩, .string ⟨B1.toArray⟩] 27) := Lib.hid (HA3.out.keep hm (fun h => h))
      clear hm HS1 HL HA3
      have hb := HBN.out.keep HM.out (fun h => h)
      have x0 := hb.cell (o := 0) rfl
      have x1 := hb.cell (o := 1) rfl
      have hbl := hb.lt
      clear hb
      go_wp2_with fail
      cases r2 with
      | true =>
        rw [Bool.not_true, putV_f] at HC2
        generalize Hash.sha B2 = H2 at HC2
        refine (HC2.out _ HM.out).mono ?_
        rintro e w2 ⟨rfl, hm⟩
        have HM2 := Lib.hid (Mod.trans HM.out hm (fun _ _ h => h))
        have ha := HA.out.keep hm (fun h => h)
        have ka0 := ha.frozen 0
        have ka1 := ha.frozen 1
        have ya0 := ha.cell (o := 0) rfl
        have ya1 := ha.cell (o := 1) rfl
        have HMS := Lib.hid ((HM2.out.setCell (p := ⟨ba, 0, none⟩) (.inr HBA.out) (.string ⟨H2.toArray⟩)).setCell (p := ⟨ba, 1, none⟩) (.inr HBA.out) (.string ⟨B2.toArray⟩))
        have HAS := Lib.hid ((ha.set 0 (.string ⟨H2.toArray⟩)).set 1 (.string ⟨B2.toArray⟩))
        have ya2 := HAS.out.cell (o := 1) rfl
        clear hm ha HM HC2
        go_wp2_with fail
        refine (HT2.out (by simp) _).mono ?_
        rintro e w3 ⟨v3, rfl, ho, hm⟩
        obtain ⟨A8, c8, rfl, _, hcl, _, _⟩ := own_cells ho
        have HL := Lib.hid hcl
        have HM3 := Lib.hid (Mod.trans HMS.out hm (fun _ _ h => h))
        have hA3 := HAS.out.keep hm (fun h => h)
        have HA3 := Lib.hid hA3
        clear hm ho hcl hA3 HMS HAS HM2 ka0 ka1 ya0 ya1 ya2 HT2 HT2N HA
        have hb := HBN.out.keep HM3.out (fun h => h)
        have x0 := hb.cell (o := 0) rfl
        have x1 := hb.cell (o := 1) rfl
        have hbl := hb.lt
        clear hb
        go_wp2_with fail
        refine (HS2.out _ (HM3.out.alloc (.cells #[.int .i64 nlevel, .slice A8 nkids.length c8] 42)) A8 c8 (HL.out.alloc (.cells #[.int .i64 nlevel, .slice A8 nkids.length c8] 42))).mono ?_
        rintro e w5 ⟨rfl, hm⟩
        have HM := Lib.hid (Mod.trans (HM3.out.alloc (.cells #[.int .i64 nlevel, .slice A8 nkids.length c8] 42)) hm (fun _ _ h => h))
        have HA : Hid (Has w5 ba [.string ⟨H2.toArray⟩, .string ⟨B2.toArray⟩] 27) := Lib.hid ((HA3.out.alloc (.cells #[.int .i64 nlevel, .slice A8 nkids.length c8] 42)).keep hm (fun h => h))
        clear hm HS2 HL HA3 x0 x1 hbl
        have hb := HBC.out.keep HM.out (fun h => h)
        have x0 := hb.cell (o := 0) rfl
        have x1 := hb.cell (o := 1) rfl
        have x2 := hb.cell (o := 2) rfl
        have x3 := hb.cell (o := 3) rfl
        have x4 := hb.cell (o := 4) rfl
        have hbl := hb.lt
        clear hb
        go_wp2_with fail
        cases r3 with
        | true =>
          rw [Bool.not_true, putV_f] at HC3
          generalize Hash.sha B3 = H3 at HC3
          refine (HC3.out _ HM.out).mono ?_
          rintro e w2 ⟨rfl, hm⟩
          have HM2 := Lib.hid (Mod.trans HM.out hm (fun _ _ h => h))
          have ha := HA.out.keep hm (fun h => h)
          have ka0 := ha.frozen 0
          have ka1 := ha.frozen 1
          have ya0 := ha.cell (o := 0) rfl
          have ya1 := ha.cell (o := 1) rfl
          have HMS := Lib.hid ((HM2.out.setCell (p := ⟨ba, 0, none⟩) (.inr HBA.out) (.string ⟨H3.toArray⟩)).setCell (p := ⟨ba, 1, none⟩) (.inr HBA.out) (.string ⟨B3.toArray⟩))
          have HAS := Lib.hid ((ha.set 0 (.string ⟨H3.toArray⟩)).set 1 (.string ⟨B3.toArray⟩))
          have ya2 := HAS.out.cell (o := 1) rfl
          clear hm ha HM HC3
          go_wp2_with fail
          refine (HT3.out (by simp) _).mono ?_
          rintro e w3 ⟨v3, rfl, ho, hm⟩
          obtain ⟨A8, c8, rfl, _, hcl, _, _⟩ := own_cells ho
          have HL := Lib.hid hcl
          have HM3 := Lib.hid (Mod.trans HMS.out hm (fun _ _ h => h))
          have hA3 := HAS.out.keep hm (fun h => h)
          have HA3 := Lib.hid hA3
          clear hm ho hcl hA3 HMS HAS HM2 ka0 ka1 ya0 ya1 ya2 HT3 HT3N HA
          have hb := HBC.out.keep HM3.out (fun h => h)
          have x0 := hb.cell (o := 0) rfl
          have x1 := hb.cell (o := 1) rfl
          have x2 := hb.cell (o := 2) rfl
          have x3 := hb.cell (o := 3) rfl
          have x4 := hb.cell (o := 4) rfl
          have hbl := hb.lt
          clear hb
          go_wp2_with fail
          refine (HS3.out _ (HM3.out.alloc (.cells #[.string tree, .slice A8 pars.length c8, .string who, .int .i64 time, .string note] 48)) A8 c8 (HL.out.alloc (.cells #[.string tree, .slice A8 pars.length c8, .string who, .int .i64 time, .string note] 48))).mono ?_
          rintro e w5 ⟨rfl, hm⟩
          have HM := Lib.hid (Mod.trans (HM3.out.alloc (.cells #[.string tree, .slice A8 pars.length c8, .string who, .int .i64 time, .string note] 48)) hm (fun _ _ h => h))
          have HA : Hid (Has w5 ba [.string ⟨H3.toArray⟩, .string ⟨B3.toArray⟩] 27) := Lib.hid ((HA3.out.alloc (.cells #[.string tree, .slice A8 pars.length c8, .string who, .int .i64 time, .string note] 48)).keep hm (fun h => h))
          clear hm HS3 HL HA3 x0 x1 x2 x3 x4 hbl
          go_wp2_with fail
          go_ret
          exact ⟨rfl, (Mod.trans HM0.out HM.out (fun _ _ h => h)).below (fun _ _ h => h)⟩
        | false =>
          rw [Bool.not_false, putV_t] at HC3
          refine (HC3.out _ HM.out).mono ?_
          rintro e w2 ⟨rfl, hm⟩
          have HM2 := Lib.hid (Mod.trans HM.out hm (fun _ _ h => h))
          have ha := HA.out.keep hm (fun h => h)
          have ka0 := ha.frozen 0
          have ka1 := ha.frozen 1
          have ya0 := ha.cell (o := 0) rfl
          have ya1 := ha.cell (o := 1) rfl
          have HMS := Lib.hid ((HM2.out.setCell (p := ⟨ba, 0, none⟩) (.inr HBA.out) (.string ⟨#[]⟩)).setCell (p := ⟨ba, 1, none⟩) (.inr HBA.out) (.string ⟨#[]⟩))
          have HAS := Lib.hid ((ha.set 0 (.string ⟨#[]⟩)).set 1 (.string ⟨#[]⟩))
          have ya2 := HAS.out.cell (o := 1) rfl
          clear hm ha HM HC3
          go_wp2_with fail
          refine (HT3N.out _).mono ?_
          rintro e w3 ⟨v3, rfl, ho, hm⟩
          obtain ⟨A8, c8, rfl, _, hcl, _, _⟩ := own_cells ho
          have HL := Lib.hid hcl
          have HM3 := Lib.hid (Mod.trans HMS.out hm (fun _ _ h => h))
          have hA3 := HAS.out.keep hm (fun h => h)
          have HA3 := Lib.hid hA3
          clear hm ho hcl hA3 HMS HAS HM2 ka0 ka1 ya0 ya1 ya2 HT3 HT3N HA
          have HM := Lib.hid (HM3.out.alloc (.cells #[.string ⟨#[]⟩, .slice A8 0 c8, .string ⟨#[]⟩, .int .i64 0, .string ⟨#[]⟩] 48))
          have HA : Hid (Has (w3.alloc (.cells #[.string ⟨#[]⟩, .slice A8 0 c8, .string ⟨#[]⟩, .int .i64 0, .string ⟨#[]⟩] 48)) ba [.string ⟨#[]⟩, .string ⟨#[]⟩] 27) := Lib.hid (HA3.out.alloc (.cells #[.string ⟨#[]⟩, .slice A8 0 c8, .string ⟨#[]⟩, .int .i64 0, .string ⟨#[]⟩] 48))
          clear HS3 HL HA3
          go_wp2_with fail
          go_ret
          exact ⟨rfl, (Mod.trans HM0.out HM.out (fun _ _ h => h)).below (fun _ _ h => h)⟩
      | false =>
        rw [Bool.not_false, putV_t] at HC2
        refine (HC2.out _ HM.out).mono ?_
        rintro e w2 ⟨rfl, hm⟩
        have HM2 := Lib.hid (Mod.trans HM.out hm (fun _ _ h => h))
        have ha := HA.out.keep hm (fun h => h)
        have ka0 := ha.frozen 0
        have ka1 := ha.frozen 1
        have ya0 := ha.cell (o := 0) rfl
        have ya1 := ha.cell (o := 1) rfl
        have HMS := Lib.hid ((HM2.out.setCell (p := ⟨ba, 0, none⟩) (.inr HBA.out) (.string ⟨#[]⟩)).setCell (p := ⟨ba, 1, none⟩) (.inr HBA.out) (.string ⟨#[]⟩))
        have HAS := Lib.hid ((ha.set 0 (.string ⟨#[]⟩)).set 1 (.string ⟨#[]⟩))
        have ya2 := HAS.out.cell (o := 1) rfl
        clear hm ha HM HC2
        go_wp2_with fail
        refine (HT2N.out _).mono ?_
        rintro e w3 ⟨v3, rfl, ho, hm⟩
        obtain ⟨A8, c8, rfl, _, hcl, _, _⟩ := own_cells ho
        have HL := Lib.hid hcl
        have HM3 := Lib.hid (Mod.trans HMS.out hm (fun _ _ h => h))
        have hA3 := HAS.out.keep hm (fun h => h)
        have HA3 := Lib.hid hA3
        clear hm ho hcl hA3 HMS HAS HM2 ka0 ka1 ya0 ya1 ya2 HT2 HT2N HA
        have HM := Lib.hid (HM3.out.alloc (.cells #[.int .i64 0, .slice A8 0 c8] 42))
        have HA : Hid (Has (w3.alloc (.cells #[.int .i64 0, .slice A8 0 c8] 42)) ba [.string ⟨#[]⟩, .string ⟨#[]⟩] 27) := Lib.hid (HA3.out.alloc (.cells #[.int .i64 0, .slice A8 0 c8] 42))
        clear HS2 HL HA3
        have hb := HBC.out.keep HM3.out (fun h => h)
        have x0 := hb.cell (o := 0) rfl
        have x1 := hb.cell (o := 1) rfl
        have x2 := hb.cell (o := 2) rfl
        have x3 := hb.cell (o := 3) rfl
        have x4 := hb.cell (o := 4) rfl
        have hbl := hb.lt
        clear hb
        go_wp2_with fail
        cases r3 with
        | true =>
          rw [Bool.not_true, putV_f] at HC3
          generalize Hash.sha B3 = H3 at HC3
          refine (HC3.out _ HM.out).mono ?_
          rintro e w2 ⟨rfl, hm⟩
          have HM2 := Lib.hid (Mod.trans HM.out hm (fun _ _ h => h))
          have ha := HA.out.keep hm (fun h => h)
          have ka0 := ha.frozen 0
          have ka1 := ha.frozen 1
          have ya0 := ha.cell (o := 0) rfl
          have ya1 := ha.cell (o := 1) rfl
          have HMS := Lib.hid ((HM2.out.setCell (p := ⟨ba, 0, none⟩) (.inr HBA.out) (.string ⟨H3.toArray⟩)).setCell (p := ⟨ba, 1, none⟩) (.inr HBA.out) (.string ⟨B3.toArray⟩))
          have HAS := Lib.hid ((ha.set 0 (.string ⟨H3.toArray⟩)).set 1 (.string ⟨B3.toArray⟩))
          have ya2 := HAS.out.cell (o := 1) rfl
          clear hm ha HM HC3
          go_wp2_with fail
          refine (HT3.out (by simp) _).mono ?_
          rintro e w3 ⟨v3, rfl, ho, hm⟩
          obtain ⟨A8, c8, rfl, _, hcl, _, _⟩ := own_cells ho
          have HL := Lib.hid hcl
          have HM3 := Lib.hid (Mod.trans HMS.out hm (fun _ _ h => h))
          have hA3 := HAS.out.keep hm (fun h => h)
          have HA3 := Lib.hid hA3
          clear hm ho hcl hA3 HMS HAS HM2 ka0 ka1 ya0 ya1 ya2 HT3 HT3N HA
          have hb := HBC.out.keep HM3.out (fun h => h)
          have x0 := hb.cell (o := 0) rfl
          have x1 := hb.cell (o := 1) rfl
          have x2 := hb.cell (o := 2) rfl
          have x3 := hb.cell (o := 3) rfl
          have x4 := hb.cell (o := 4) rfl
          have hbl := hb.lt
          clear hb
          go_wp2_with fail
          refine (HS3.out _ (HM3.out.alloc (.cells #[.string tree, .slice A8 pars.length c8, .string who, .int .i64 time, .string note] 48)) A8 c8 (HL.out.alloc (.cells #[.string tree, .slice A8 pars.length c8, .string who, .int .i64 time, .string note] 48))).mono ?_
          rintro e w5 ⟨rfl, hm⟩
          have HM := Lib.hid (Mod.trans (HM3.out.alloc (.cells #[.string tree, .slice A8 pars.length c8, .string who, .int .i64 time, .string note] 48)) hm (fun _ _ h => h))
          have HA : Hid (Has w5 ba [.string ⟨H3.toArray⟩, .string ⟨B3.toArray⟩] 27) := Lib.hid ((HA3.out.alloc (.cells #[.string tree, .slice A8 pars.length c8, .string who, .int .i64 time, .string note] 48)).keep hm (fun h => h))
          clear hm HS3 HL HA3 x0 x1 x2 x3 x4 hbl
          go_wp2_with fail
          go_ret
          exact ⟨rfl, (Mod.trans HM0.out HM.out (fun _ _ h => h)).below (fun _ _ h => h)⟩
        | false =>
          rw [Bool.not_false, putV_t] at HC3
          refine (HC3.out _ HM.out).mono ?_
          rintro e w2 ⟨rfl, hm⟩
          have HM2 := Lib.hid (Mod.trans HM.out hm (fun _ _ h => h))
          have ha := HA.out.keep hm (fun h => h)
          have ka0 := ha.frozen 0
          have ka1 := ha.frozen 1
          have ya0 := ha.cell (o := 0) rfl
          have ya1 := ha.cell (o := 1) rfl
          have HMS := Lib.hid ((HM2.out.setCell (p := ⟨ba, 0, none⟩) (.inr HBA.out) (.string ⟨#[]⟩)).setCell (p := ⟨ba, 1, none⟩) (.inr HBA.out) (.string ⟨#[]⟩))
          have HAS := Lib.hid ((ha.set 0 (.string ⟨#[]⟩)).set 1 (.string ⟨#[]⟩))
          have ya2 := HAS.out.cell (o := 1) rfl
          clear hm ha HM HC3
          go_wp2_with fail
          refine (HT3N.out _).mono ?_
          rintro e w3 ⟨v3, rfl, ho, hm⟩
          obtain ⟨A8, c8, rfl, _, hcl, _, _⟩ := own_cells ho
          have HL := Lib.hid hcl
          have HM3 := Lib.hid (Mod.trans HMS.out hm (fun _ _ h => h))
          have hA3 := HAS.out.keep hm (fun h => h)
          have HA3 := Lib.hid hA3
          clear hm ho hcl hA3 HMS HAS HM2 ka0 ka1 ya0 ya1 ya2 HT3 HT3N HA
          have HM := Lib.hid (HM3.out.alloc (.cells #[.string ⟨#[]⟩, .slice A8 0 c8, .string ⟨#[]⟩, .int .i64 0, .string ⟨#[]⟩] 48))
          have HA : Hid (Has (w3.alloc (.cells #[.string ⟨#[]⟩, .slice A8 0 c8, .string ⟨#[]⟩, .int .i64 0, .string ⟨#[]⟩] 48)) ba [.string ⟨#[]⟩, .string ⟨#[]⟩] 27) := Lib.hid (HA3.out.alloc (.cells #[.string ⟨#[]⟩, .slice A8 0 c8, .string ⟨#[]⟩, .int .i64 0, .string ⟨#[]⟩] 48))
          clear HS3 HL HA3
          go_wp2_with fail
          go_ret
          exact ⟨rfl, (Mod.trans HM0.out HM.out (fun _ _ h => h)).below (fun _ _ h => h)⟩
    | false =>
      rw [Bool.not_false, putV_t] at HC1
      refine (HC1.out _ HM.out).mono ?_
      rintro e w2 ⟨rfl, hm⟩
      have HM2 := Lib.hid (Mod.trans HM.out hm (fun _ _ h => h))
      have ha := HA.out.keep hm (fun h => h)
      have ka0 := ha.frozen 0
      have ka1 := ha.frozen 1
      have ya0 := ha.cell (o := 0) rfl
      have ya1 := ha.cell (o := 1) rfl
      have HMS := Lib.hid ((HM2.out.setCell (p := ⟨ba, 0, none⟩) (.inr HBA.out) (.string ⟨#[]⟩)).setCell (p := ⟨ba, 1, none⟩) (.inr HBA.out) (.string ⟨#[]⟩))
      have HAS := Lib.hid ((ha.set 0 (.string ⟨#[]⟩)).set 1 (.string ⟨#[]⟩))
      have ya2 := HAS.out.cell (o := 1) rfl
      clear hm ha HM HC1
      go_wp2_with fail
      refine (HT1N.out _).mono ?_
      rintro e w3 ⟨v3, rfl, ho, hm⟩
      obtain ⟨A8, c8, rfl, _, hcl, _, _⟩ := own_cells ho
      have HL := Lib.hid hcl
      have HM3 := Lib.hid (Mod.trans HMS.out hm (fun _ _ h => h))
      have hA3 := HAS.out.keep hm (fun h => h)
      have HA3 := Lib.hid hA3
      clear hm ho hcl hA3 HMS HAS HM2 ka0 ka1 ya0 ya1 ya2 HT1 HT1N HA
      have HM := Lib.hid HM3.out
      have HA : Hid (Has w3 ba [.string ⟨#[]⟩, .string ⟨#[]⟩] 27) := Lib.hid HA3.out
      clear HS1 HL HA3
      have hb := HBN.out.keep HM3.out (fun h => h)
      have x0 := hb.cell (o := 0) rfl
      have x1 := hb.cell (o := 1) rfl
      have hbl := hb.lt
      clear hb
      go_wp2_with fail
      cases r2 with
      | true =>
        rw [Bool.not_true, putV_f] at HC2
        generalize Hash.sha B2 = H2 at HC2
        refine (HC2.out _ HM.out).mono ?_
        rintro e w2 ⟨rfl, hm⟩
        have HM2 := Lib.hid (Mod.trans HM.out hm (fun _ _ h => h))
        have ha := HA.out.keep hm (fun h => h)
        have ka0 := ha.frozen 0
        have ka1 := ha.frozen 1
        have ya0 := ha.cell (o := 0) rfl
        have ya1 := ha.cell (o := 1) rfl
        have HMS := Lib.hid ((HM2.out.setCell (p := ⟨ba, 0, none⟩) (.inr HBA.out) (.string ⟨H2.toArray⟩)).setCell (p := ⟨ba, 1, none⟩) (.inr HBA.out) (.string ⟨B2.toArray⟩))
        have HAS := Lib.hid ((ha.set 0 (.string ⟨H2.toArray⟩)).set 1 (.string ⟨B2.toArray⟩))
        have ya2 := HAS.out.cell (o := 1) rfl
        clear hm ha HM HC2
        go_wp2_with fail
        refine (HT2.out (by simp) _).mono ?_
        rintro e w3 ⟨v3, rfl, ho, hm⟩
        obtain ⟨A8, c8, rfl, _, hcl, _, _⟩ := own_cells ho
        have HL := Lib.hid hcl
        have HM3 := Lib.hid (Mod.trans HMS.out hm (fun _ _ h => h))
        have hA3 := HAS.out.keep hm (fun h => h)
        have HA3 := Lib.hid hA3
        clear hm ho hcl hA3 HMS HAS HM2 ka0 ka1 ya0 ya1 ya2 HT2 HT2N HA
        have hb := HBN.out.keep HM3.out (fun h => h)
        have x0 := hb.cell (o := 0) rfl
        have x1 := hb.cell (o := 1) rfl
        have hbl := hb.lt
        clear hb
        go_wp2_with fail
        refine (HS2.out _ (HM3.out.alloc (.cells #[.int .i64 nlevel, .slice A8 nkids.length c8] 42)) A8 c8 (HL.out.alloc (.cells #[.int .i64 nlevel, .slice A8 nkids.length c8] 42))).mono ?_
        rintro e w5 ⟨rfl, hm⟩
        have HM := Lib.hid (Mod.trans (HM3.out.alloc (.cells #[.int .i64 nlevel, .slice A8 nkids.length c8] 42)) hm (fun _ _ h => h))
        have HA : Hid (Has w5 ba [.string ⟨H2.toArray⟩, .string ⟨B2.toArray⟩] 27) := Lib.hid ((HA3.out.alloc (.cells #[.int .i64 nlevel, .slice A8 nkids.length c8] 42)).keep hm (fun h => h))
        clear hm HS2 HL HA3 x0 x1 hbl
        have hb := HBC.out.keep HM.out (fun h => h)
        have x0 := hb.cell (o := 0) rfl
        have x1 := hb.cell (o := 1) rfl
        have x2 := hb.cell (o := 2) rfl
        have x3 := hb.cell (o := 3) rfl
        have x4 := hb.cell (o := 4) rfl
        have hbl := hb.lt
        clear hb
        go_wp2_with fail
        cases r3 with
        | true =>
          rw [Bool.not_true, putV_f] at HC3
          generalize Hash.sha B3 = H3 at HC3
          refine (HC3.out _ HM.out).mono ?_
          rintro e w2 ⟨rfl, hm⟩
          have HM2 := Lib.hid (Mod.trans HM.out hm (fun _ _ h => h))
          have ha := HA.out.keep hm (fun h => h)
          have ka0 := ha.frozen 0
          have ka1 := ha.frozen 1
          have ya0 := ha.cell (o := 0) rfl
          have ya1 := ha.cell (o := 1) rfl
          have HMS := Lib.hid ((HM2.out.setCell (p := ⟨ba, 0, none⟩) (.inr HBA.out) (.string ⟨H3.toArray⟩)).setCell (p := ⟨ba, 1, none⟩) (.inr HBA.out) (.string ⟨B3.toArray⟩))
          have HAS := Lib.hid ((ha.set 0 (.string ⟨H3.toArray⟩)).set 1 (.string ⟨B3.toArray⟩))
          have ya2 := HAS.out.cell (o := 1) rfl
          clear hm ha HM HC3
          go_wp2_with fail
          refine (HT3.out (by simp) _).mono ?_
          rintro e w3 ⟨v3, rfl, ho, hm⟩
          obtain ⟨A8, c8, rfl, _, hcl, _, _⟩ := own_cells ho
          have HL := Lib.hid hcl
          have HM3 := Lib.hid (Mod.trans HMS.out hm (fun _ _ h => h))
          have hA3 := HAS.out.keep hm (fun h => h)
          have HA3 := Lib.hid hA3
          clear hm ho hcl hA3 HMS HAS HM2 ka0 ka1 ya0 ya1 ya2 HT3 HT3N HA
          have hb := HBC.out.keep HM3.out (fun h => h)
          have x0 := hb.cell (o := 0) rfl
          have x1 := hb.cell (o := 1) rfl
          have x2 := hb.cell (o := 2) rfl
          have x3 := hb.cell (o := 3) rfl
          have x4 := hb.cell (o := 4) rfl
          have hbl := hb.lt
          clear hb
          go_wp2_with fail
          refine (HS3.out _ (HM3.out.alloc (.cells #[.string tree, .slice A8 pars.length c8, .string who, .int .i64 time, .string note] 48)) A8 c8 (HL.out.alloc (.cells #[.string tree, .slice A8 pars.length c8, .string who, .int .i64 time, .string note] 48))).mono ?_
          rintro e w5 ⟨rfl, hm⟩
          have HM := Lib.hid (Mod.trans (HM3.out.alloc (.cells #[.string tree, .slice A8 pars.length c8, .string who, .int .i64 time, .string note] 48)) hm (fun _ _ h => h))
          have HA : Hid (Has w5 ba [.string ⟨H3.toArray⟩, .string ⟨B3.toArray⟩] 27) := Lib.hid ((HA3.out.alloc (.cells #[.string tree, .slice A8 pars.length c8, .string who, .int .i64 time, .string note] 48)).keep hm (fun h => h))
          clear hm HS3 HL HA3 x0 x1 x2 x3 x4 hbl
          go_wp2_with fail
          go_ret
          exact ⟨rfl, (Mod.trans HM0.out HM.out (fun _ _ h => h)).below (fun _ _ h => h)⟩
        | false =>
          rw [Bool.not_false, putV_t] at HC3
          refine (HC3.out _ HM.out).mono ?_
          rintro e w2 ⟨rfl, hm⟩
          have HM2 := Lib.hid (Mod.trans HM.out hm (fun _ _ h => h))
          have ha := HA.out.keep hm (fun h => h)
          have ka0 := ha.frozen 0
          have ka1 := ha.frozen 1
          have ya0 := ha.cell (o := 0) rfl
          have ya1 := ha.cell (o := 1) rfl
          have HMS := Lib.hid ((HM2.out.setCell (p := ⟨ba, 0, none⟩) (.inr HBA.out) (.string ⟨#[]⟩)).setCell (p := ⟨ba, 1, none⟩) (.inr HBA.out) (.string ⟨#[]⟩))
          have HAS := Lib.hid ((ha.set 0 (.string ⟨#[]⟩)).set 1 (.string ⟨#[]⟩))
          have ya2 := HAS.out.cell (o := 1) rfl
          clear hm ha HM HC3
          go_wp2_with fail
          refine (HT3N.out _).mono ?_
          rintro e w3 ⟨v3, rfl, ho, hm⟩
          obtain ⟨A8, c8, rfl, _, hcl, _, _⟩ := own_cells ho
          have HL := Lib.hid hcl
          have HM3 := Lib.hid (Mod.trans HMS.out hm (fun _ _ h => h))
          have hA3 := HAS.out.keep hm (fun h => h)
          have HA3 := Lib.hid hA3
          clear hm ho hcl hA3 HMS HAS HM2 ka0 ka1 ya0 ya1 ya2 HT3 HT3N HA
          have HM := Lib.hid (HM3.out.alloc (.cells #[.string ⟨#[]⟩, .slice A8 0 c8, .string ⟨#[]⟩, .int .i64 0, .string ⟨#[]⟩] 48))
          have HA : Hid (Has (w3.alloc (.cells #[.string ⟨#[]⟩, .slice A8 0 c8, .string ⟨#[]⟩, .int .i64 0, .string ⟨#[]⟩] 48)) ba [.string ⟨#[]⟩, .string ⟨#[]⟩] 27) := Lib.hid (HA3.out.alloc (.cells #[.string ⟨#[]⟩, .slice A8 0 c8, .string ⟨#[]⟩, .int .i64 0, .string ⟨#[]⟩] 48))
          clear HS3 HL HA3
          go_wp2_with fail
          go_ret
          exact ⟨rfl, (Mod.trans HM0.out HM.out (fun _ _ h => h)).below (fun _ _ h => h)⟩
      | false =>
        rw [Bool.not_false, putV_t] at HC2
        refine (HC2.out _ HM.out).mono ?_
        rintro e w2 ⟨rfl, hm⟩
        have HM2 := Lib.hid (Mod.trans HM.out hm (fun _ _ h => h))
        have ha := HA.out.keep hm (fun h => h)
        have ka0 := ha.frozen 0
        have ka1 := ha.frozen 1
        have ya0 := ha.cell (o := 0) rfl
        have ya1 := ha.cell (o := 1) rfl
        have HMS := Lib.hid ((HM2.out.setCell (p := ⟨ba, 0, none⟩) (.inr HBA.out) (.string ⟨#[]⟩)).setCell (p := ⟨ba, 1, none⟩) (.inr HBA.out) (.string ⟨#[]⟩))
        have HAS := Lib.hid ((ha.set 0 (.string ⟨#[]⟩)).set 1 (.string ⟨#[]⟩))
        have ya2 := HAS.out.cell (o := 1) rfl
        clear hm ha HM HC2
        go_wp2_with fail
        refine (HT2N.out _).mono ?_
        rintro e w3 ⟨v3, rfl, ho, hm⟩
        obtain ⟨A8, c8, rfl, _, hcl, _, _⟩ := own_cells ho
        have HL := Lib.hid hcl
        have HM3 := Lib.hid (Mod.trans HMS.out hm (fun _ _ h => h))
        have hA3 := HAS.out.keep hm (fun h => h)
        have HA3 := Lib.hid hA3
        clear hm ho hcl hA3 HMS HAS HM2 ka0 ka1 ya0 ya1 ya2 HT2 HT2N HA
        have HM := Lib.hid (HM3.out.alloc (.cells #[.int .i64 0, .slice A8 0 c8] 42))
        have HA : Hid (Has (w3.alloc (.cells #[.int .i64 0, .slice A8 0 c8] 42)) ba [.string ⟨#[]⟩, .string ⟨#[]⟩] 27) := Lib.hid (HA3.out.alloc (.cells #[.int .i64 0, .slice A8 0 c8] 42))
        clear HS2 HL HA3
        have hb := HBC.out.keep HM3.out (fun h => h)
        have x0 := hb.cell (o := 0) rfl
        have x1 := hb.cell (o := 1) rfl
        have x2 := hb.cell (o := 2) rfl
        have x3 := hb.cell (o := 3) rfl
        have x4 := hb.cell (o := 4) rfl
        have hbl := hb.lt
        clear hb
        go_wp2_with fail
        cases r3 with
        | true =>
          rw [Bool.not_true, putV_f] at HC3
          generalize Hash.sha B3 = H3 at HC3
          refine (HC3.out _ HM.out).mono ?_
          rintro e w2 ⟨rfl, hm⟩
          have HM2 := Lib.hid (Mod.trans HM.out hm (fun _ _ h => h))
          have ha := HA.out.keep hm (fun h => h)
          have ka0 := ha.frozen 0
          have ka1 := ha.frozen 1
          have ya0 := ha.cell (o := 0) rfl
          have ya1 := ha.cell (o := 1) rfl
          have HMS := Lib.hid ((HM2.out.setCell (p := ⟨ba, 0, none⟩) (.inr HBA.out) (.string ⟨H3.toArray⟩)).setCell (p := ⟨ba, 1, none⟩) (.inr HBA.out) (.string ⟨B3.toArray⟩))
          have HAS := Lib.hid ((ha.set 0 (.string ⟨H3.toArray⟩)).set 1 (.string ⟨B3.toArray⟩))
          have ya2 := HAS.out.cell (o := 1) rfl
          clear hm ha HM HC3
          go_wp2_with fail
          refine (HT3.out (by simp) _).mono ?_
          rintro e w3 ⟨v3, rfl, ho, hm⟩
          obtain ⟨A8, c8, rfl, _, hcl, _, _⟩ := own_cells ho
          have HL := Lib.hid hcl
          have HM3 := Lib.hid (Mod.trans HMS.out hm (fun _ _ h => h))
          have hA3 := HAS.out.keep hm (fun h => h)
          have HA3 := Lib.hid hA3
          clear hm ho hcl hA3 HMS HAS HM2 ka0 ka1 ya0 ya1 ya2 HT3 HT3N HA
          have hb := HBC.out.keep HM3.out (fun h => h)
          have x0 := hb.cell (o := 0) rfl
          have x1 := hb.cell (o := 1) rfl
          have x2 := hb.cell (o := 2) rfl
          have x3 := hb.cell (o := 3) rfl
          have x4 := hb.cell (o := 4) rfl
          have hbl := hb.lt
          clear hb
          go_wp2_with fail
          refine (HS3.out _ (HM3.out.alloc (.cells #[.string tree, .slice A8 pars.length c8, .string who, .int .i64 time, .string note] 48)) A8 c8 (HL.out.alloc (.cells #[.string tree, .slice A8 pars.length c8, .string who, .int .i64 time, .string note] 48))).mono ?_
          rintro e w5 ⟨rfl, hm⟩
          have HM := Lib.hid (Mod.trans (HM3.out.alloc (.cells #[.string tree, .slice A8 pars.length c8, .string who, .int .i64 time, .string note] 48)) hm (fun _ _ h => h))
          have HA : Hid (Has w5 ba [.string ⟨H3.toArray⟩, .string ⟨B3.toArray⟩] 27) := Lib.hid ((HA3.out.alloc (.cells #[.string tree, .slice A8 pars.length c8, .string who, .int .i64 time, .string note] 48)).keep hm (fun h => h))
          clear hm HS3 HL HA3 x0 x1 x2 x3 x4 hbl
          go_wp2_with fail
          go_ret
          exact ⟨rfl, (Mod.trans HM0.out HM.out (fun _ _ h => h)).below (fun _ _ h => h)⟩
        | false =>
          rw [Bool.not_false, putV_t] at HC3
          refine (HC3.out _ HM.out).mono ?_
          rintro e w2 ⟨rfl, hm⟩
          have HM2 := Lib.hid (Mod.trans HM.out hm (fun _ _ h => h))
          have ha := HA.out.keep hm (fun h => h)
          have ka0 := ha.frozen 0
          have ka1 := ha.frozen 1
          have ya0 := ha.cell (o := 0) rfl
          have ya1 := ha.cell (o := 1) rfl
          have HMS := Lib.hid ((HM2.out.setCell (p := ⟨ba, 0, none⟩) (.inr HBA.out) (.string ⟨#[]⟩)).setCell (p := ⟨ba, 1, none⟩) (.inr HBA.out) (.string ⟨#[]⟩))
          have HAS := Lib.hid ((ha.set 0 (.string ⟨#[]⟩)).set 1 (.string ⟨#[]⟩))
          have ya2 := HAS.out.cell (o := 1) rfl
          clear hm ha HM HC3
          go_wp2_with fail
          refine (HT3N.out _).mono ?_
          rintro e w3 ⟨v3, rfl, ho, hm⟩
          obtain ⟨A8, c8, rfl, _, hcl, _, _⟩ := own_cells ho
          have HL := Lib.hid hcl
          have HM3 := Lib.hid (Mod.trans HMS.out hm (fun _ _ h => h))
          have hA3 := HAS.out.keep hm (fun h => h)
          have HA3 := Lib.hid hA3
          clear hm ho hcl hA3 HMS HAS HM2 ka0 ka1 ya0 ya1 ya2 HT3 HT3N HA
          have HM := Lib.hid (HM3.out.alloc (.cells #[.string ⟨#[]⟩, .slice A8 0 c8, .string ⟨#[]⟩, .int .i64 0, .string ⟨#[]⟩] 48))
          have HA : Hid (Has (w3.alloc (.cells #[.string ⟨#[]⟩, .slice A8 0 c8, .string ⟨#[]⟩, .int .i64 0, .string ⟨#[]⟩] 48)) ba [.string ⟨#[]⟩, .string ⟨#[]⟩] 27) := Lib.hid (HA3.out.alloc (.cells #[.string ⟨#[]⟩, .slice A8 0 c8, .string ⟨#[]⟩, .int .i64 0, .string ⟨#[]⟩] 48))
          clear HS3 HL HA3
          go_wp2_with fail
          go_ret
          exact ⟨rfl, (Mod.trans HM0.out HM.out (fun _ _ h => h)).below (fun _ _ h => h)⟩
end Obj
end Go.Proofs.YtenamjldkaggcaaDoor
/- The law ObjectBack, as its card asks it. -/
namespace Go.Proofs.YtenamjldkaggcaaDoor
set_option linter.unusedVariables false
set_option linter.unusedSimpArgs false
open Go.RowKit K Wire
namespace Obj
theorem back_row (level : Int) (A : Option Addr) (c : Nat) (kids : List Part) (AP : Option Addr) (cp : Nat) (prs : List Pair) (nlevel : Int) (AN : Option Addr) (cn : Nat) (nkids : List Link) (C : Com) (AC : Option Addr) (cc : Nat) (w : World) (hK : Hash.Keys w)
    (hA : Cells w A (kids.flatMap pc)) (hlv : In64 level) (hsz : ∀ p ∈ kids, In64 p.size) (hb : (kids.map fun p => p.id.size + 1).sum + kids.length ≤ 1048576)
    (hAP : Cells w AP (prs.flatMap kc)) (hbp : (prs.map fun p => p.key.size + p.val.size).sum + 2 * prs.length ≤ 1048576)
    (hAN : Cells w AN (nkids.flatMap lc)) (hlvn : In64 nlevel) (hszn : ∀ p ∈ nkids, In64 p.many) (hbn : (nkids.map fun p => p.last.size + p.id.size + 1).sum + 2 * nkids.length ≤ 1048576)
    (hAC : Cells w AC (C.pars.map .string) ∧ Adr AC cc ∧ C.pars.length ≤ cc) (hti : In64 C.time) (hbc : C.tree.size + C.pars.length + (C.pars.flatMap parB).length + C.who.size + C.note.size ≤ 1048576) :
    Calls Tryd.prog 7 #[.agg #[.int .i64 level, .slice A kids.length c], .slice AP prs.length cp, .agg #[.int .i64 nlevel, .slice AN nkids.length cn], .agg (comC C AC cc)] w fun e w' => e = .returned (.bool true) ∧ Below w.heap.size w w' :=
  back_calls level A c kids AP cp prs nlevel AN cn nkids C AC cc w hK hA hlv hsz (by omega) (fanB_len level kids hlv hsz hb) hAP (by omega) (leafB_len prs hbp) hAN hlvn hszn (by omega) (branchB_len nlevel nkids hlvn hszn hbn) hAC hti (by omega) (commitB_len C hti hbc)
end Obj
end Go.Proofs.YtenamjldkaggcaaDoor
