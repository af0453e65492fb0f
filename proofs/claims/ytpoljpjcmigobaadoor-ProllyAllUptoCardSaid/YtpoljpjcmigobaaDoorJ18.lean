/- Joined texts: ObjIl, ObjTh, ObjYl, ObjKl. -/
import Derived.Test.YtpoljpjcmigobaaDoorJ17
/- The walk of the reference's RightLeaf. -/
namespace Go.Proofs.YtpoljpjcmigobaaDoor
set_option linter.unusedVariables false
set_option linter.unusedSimpArgs false
open Go.RowKit K Wire
namespace Obj

theorem rightLeaf_stop {kids : List Pair} {p : Pair} (hp : p ∈ kids) (h : pairOk p = false) : rightLeaf kids = false := by
  have : kids.all pairOk = false := by
    rw [List.all_eq_false]; exact ⟨p, hp, by rw [h]; decide⟩
  unfold rightLeaf; rw [this]; simp
theorem rises_stop {L : List ByteArray} {j : Nat} (h : j + 1 < L.length) (hn : ltS (L.getD j ByteArray.empty) (L.getD (j + 1) ByteArray.empty) = false) : rises L = false := by
  unfold rises risesN
  rw [List.all_eq_false]
  exact ⟨j, List.mem_range.2 (by omega), by rw [hn]; decide⟩
theorem pairOk_key {p : Pair} (h : inR (p.key.size : Int) 1 64 = false) : pairOk p = false := by unfold pairOk; rw [h]; rfl
theorem pairOk_val {p : Pair} (h : 128 < (p.val.size : Int)) : pairOk p = false := by unfold pairOk; rw [inR_no (.inr h)]; simp

set_option maxRecDepth 100000 in
set_option maxHeartbeats 2000000 in
theorem rightLeaf_calls (A : Option Addr) (c : Nat) (kids : List Pair) (w : World) (hA : Cells w A (kids.flatMap kc)) (hc : kids.length ≤ 100000000) :
    Calls Tryd.prog 60 #[.slice A kids.length c] w fun e w' => e = .returned (.bool (rightLeaf kids)) ∧ Mod (fun _ => False) w w' := by
  by_cases a4 : 64 < (kids.length : Int)
  · have HF : Hid (rightLeaf kids = false) := Lib.hid (by unfold rightLeaf; rw [inR_no (n := (kids.length : Int)) (by omega)]; rfl)
    clear hA
    go_enter Tryd.func60, Tryd.ntmps60
    go_wp2_with fail
    go_ret
    exact ⟨by rw [HF.out]; rfl, by (repeat (first | with_reducible exact Mod.refl _ _ | with_reducible apply Mod.drew | with_reducible apply Mod.drewN | with_reducible apply Mod.alloc | refine Mod.set1 ?_ (by first | exact rfl | simp) _ _))⟩
  have HA := Lib.hid hA
  clear hA
  go_enter Tryd.func60, Tryd.ntmps60
  go_wp2_with fail
  go_loopw [3] (fun i wr => ∃ (k : Nat), i = .int .i64 k ∧ k ≤ kids.length ∧ Hid ((kids.take k).all pairOk = true) ∧ Hid (risesN (kids.map (·.key)) (k - 1) = true) ∧ Hid (Mod (fun _ => False) w wr)) (fun i _ => kids.length - (intOf i).toNat)
  case atStart => exact ⟨0, by go_num, by omega, Lib.hid rfl, Lib.hid rfl, Lib.hid (Mod.refl _ _)⟩
  case round =>
    obtain ⟨k, rfl, hk, HO, HU, HM⟩ := hrel
    by_cases hlt : k < kids.length
    · have i1 : (k : Int) < (kids.length : Int) := by omega
      have i0 : (0 : Int) ≤ (k : Int) := by omega
      rcases HA.out.keep HM.out (fun _ _ h => h) with h | ⟨ba, o, rfl, hcell⟩
      · have := flat_len kc_len kids; rw [h] at this; simp at this; omega
      have y0 := hcell _ _ (flat_get kc_len kids k 0 hlt (by omega))
      have y1 := hcell _ _ (flat_get kc_len kids k 1 hlt (by omega))
      rw [Nat.add_zero] at y0
      rw [← Nat.add_assoc] at y1
      have hbl : ba < wr.heap.size := World.block_lt_of_cell? wr _ y0
      have ho : (kids.take (k + 1)).all pairOk = ((kids.take k).all pairOk && pairOk kids[k]) := by
        rw [List.take_succ_eq_append_getElem hlt, List.all_append]; simp
      rw [HO.out] at ho
      have HI := Lib.hid (isKey_calls kids[k].key)
      by_cases b1 : inR (kids[k].key.size : Int) 1 64 = true
      · rw [b1] at HI
        by_cases b2 : 128 < (kids[k].val.size : Int)
        · have HNO := Lib.hid (rightLeaf_stop (List.getElem_mem hlt) (pairOk_val b2))
          generalize kids[k] = p at *
          clear hcell ho
          go_wp2_with fail
          refine (HI.out _).mono ?_
          rintro e w1 ⟨rfl, hm1⟩
          have y1 := (hm1.cell (p := ⟨ba, o + k * 2 + 1, none⟩) hbl (fun h => h)).trans y1
          have HM2 := Lib.hid (Mod.trans HM.out hm1 (fun _ _ h => h))
          clear hm1
          go_wp2_with fail
          go_quiet (fail)
          go_wp2_with fail
          go_ret
          exact ⟨by rw [HNO.out]; rfl, HM2.out.drewN _⟩
        · have hpo : pairOk kids[k] = true := by
            have e2 : inR (kids[k].val.size : Int) 0 128 = true := by simp [inR]; omega
            unfold pairOk; rw [b1, e2]; rfl
          rw [hpo] at ho
          have HOO := Lib.hid ho
          by_cases hk0 : k = 0
          · subst hk0
            generalize kids[0] = p at *
            have hv : decide ((128 : Int) < (p.val.size : Int)) = false := decide_eq_false b2
            rw [Nat.zero_mul, Nat.add_zero] at y0 y1
            clear hcell ho hpo
            go_wp2_with fail
            refine (HI.out _).mono ?_
            rintro e w1 ⟨rfl, hm1⟩
            have y0 := (hm1.cell (p := ⟨ba, o, none⟩) hbl (fun h => h)).trans y0
            have y1 := (hm1.cell (p := ⟨ba, o + 1, none⟩) hbl (fun h => h)).trans y1
            have HM1 := Lib.hid (Mod.trans HM.out hm1 (fun _ _ h => h))
            clear hm1
            go_wp2_with fail
            go_quiet (fail)
            go_wp2_with fail
            go_roundw
            case rel => exact ⟨1, by go_num, by omega, Lib.hid (by rw [HOO.out]; rfl), Lib.hid rfl, Lib.hid (HM1.out.drewN _)⟩
            case measure => simp [intOf]; omega
          · obtain ⟨j, hj⟩ : ∃ j, k = j + 1 := ⟨k - 1, by omega⟩
            have hjl : j < kids.length := by omega
            have z0 := hcell _ _ (flat_get kc_len kids j 0 hjl (by omega))
            rw [Nat.add_zero] at z0
            have g1 : (kids.map (·.key)).getD j ByteArray.empty = kids[j].key := by simp [List.getD, hjl]
            have g2 : (kids.map (·.key)).getD (j + 1) ByteArray.empty = kids[k].key := by subst hj; simp [List.getD, hlt]
            have hsn := risesN_succ (kids.map (·.key)) j
            have hst := @rises_stop (kids.map (·.key)) j (by simp; omega)
            rw [g1, g2] at hsn hst
            have hu := HU.out
            rw [show k - 1 = j by omega] at hu
            rw [hu] at hsn
            have n0 : 0 < k := by omega
            have hw1 : IntKind.i64.wrap ((k : Int) - 1) = (j : Int) := by rw [IntKind.wrap_i64]; omega
            have j0 : (0 : Int) ≤ (j : Int) := by omega
            have j1 : (j : Int) < (kids.length : Int) := by omega
            have HKJ := Lib.hid hj
            generalize kids[j] = pr at *
            generalize kids[k] = p at *
            have hv : decide ((128 : Int) < (p.val.size : Int)) = false := decide_eq_false b2
            obtain ⟨lt, hlts⟩ : ∃ lt, ltS pr.key p.key = lt := ⟨_, rfl⟩
            rw [hlts] at hsn hst
            have hlts2 : Go.Op.bytesLess pr.key.toList p.key.toList = lt := hlts
            have HSN := Lib.hid hsn
            have hno : lt = false → rightLeaf kids = false := fun h => by unfold rightLeaf; rw [hst h]; simp
            have HNO' := Lib.hid hno
            clear hcell ho hpo hk0 g1 g2 hu hsn hst hlts hno hj
            go_wp2_with fail
            refine (HI.out _).mono ?_
            rintro e w1 ⟨rfl, hm1⟩
            have y0 := (hm1.cell (p := ⟨ba, o + k * 2, none⟩) hbl (fun h => h)).trans y0
            have y1 := (hm1.cell (p := ⟨ba, o + k * 2 + 1, none⟩) hbl (fun h => h)).trans y1
            have z0 := (hm1.cell (p := ⟨ba, o + j * 2, none⟩) hbl (fun h => h)).trans z0
            cases lt with
            | true =>
              have HM1 := Lib.hid (Mod.trans HM.out hm1 (fun _ _ h => h))
              clear hm1
              go_wp2_with fail
              go_quiet (fail)
              go_wp2_with fail
              go_roundw
              case rel => exact ⟨k + 1, by go_num, by omega, Lib.hid (by rw [HOO.out]; rfl), Lib.hid (by rw [show k + 1 - 1 = j + 1 from HKJ.out, HSN.out]; rfl), Lib.hid (HM1.out.drewN _)⟩
              case measure => simp [intOf]; omega
            | false =>
              have HNO := Lib.hid (HNO'.out rfl)
              have HM2 := Lib.hid (Mod.trans HM.out hm1 (fun _ _ h => h))
              clear hm1
              go_wp2_with fail
              go_quiet (fail)
              go_wp2_with fail
              go_ret
              exact ⟨by rw [HNO.out]; rfl, HM2.out.drewN _⟩
      · have b1' : inR (kids[k].key.size : Int) 1 64 = false := by simpa using b1
        rw [b1'] at HI
        have HNO := Lib.hid (rightLeaf_stop (List.getElem_mem hlt) (pairOk_key b1'))
        generalize kids[k] = p at *
        clear hcell ho
        go_wp2_with fail
        refine (HI.out _).mono ?_
        rintro e w1 ⟨rfl, hm1⟩
        have HM2 := Lib.hid (Mod.trans HM.out hm1 (fun _ _ h => h))
        clear hm1
        go_wp2_with fail
        go_quiet (fail)
        go_wp2_with fail
        go_ret
        exact ⟨by rw [HNO.out]; rfl, HM2.out.drewN _⟩
    · have hkl : k = kids.length := by omega
      have i1 : ¬ (k : Int) < (kids.length : Int) := by omega
      have ho := HO.out
      have hu := HU.out
      rw [hkl, List.take_length] at ho
      have hr : rightLeaf kids = true := by
        unfold rightLeaf rises; rw [ho, List.length_map, ← hkl, hu]
        have e2 : inR (k : Int) 0 64 = true := by simp [inR]; omega
        rw [e2]; rfl
      have HR := Lib.hid hr
      clear ho hu hr
      go_wp2_with fail
      go_ret
      exact ⟨by rw [HR.out]; rfl, HM.out⟩
end Obj
end Go.Proofs.YtpoljpjcmigobaaDoor
/- The walk of the reference's TakeLeaf. -/
namespace Go.Proofs.YtpoljpjcmigobaaDoor
set_option linter.unusedVariables false
set_option linter.unusedSimpArgs false
open Go.RowKit K Wire
namespace Obj

def gPair (L : List UInt8) (x : RR) : Pair × RR := (⟨⟨(gText L 64 x).1.toArray⟩, ⟨(gText L 128 (gText L 64 x).2).1.toArray⟩⟩, (gText L 128 (gText L 64 x).2).2)
def gLeaf (L : List UInt8) : RR × List Pair :=
  gList (gPair L) (gCount L 64 ⟨begunBad L 0x4c, 1⟩).1.toNat (gCount L 64 ⟨begunBad L 0x4c, 1⟩).2 []
def gokLeaf (L : List UInt8) : Bool := gEnds L (gLeaf L).1 && rightLeaf (gLeaf L).2
def goutLeaf (L : List UInt8) : List Pair := if gokLeaf L then (gLeaf L).2 else []

set_option maxRecDepth 100000 in
set_option maxHeartbeats 2000000 in
theorem rTakeLeaf_calls (s : ByteArray) (w : World) (hs : s.size ≤ 100000000) :
    Calls Tryd.prog 70 #[.string s] w fun e w' => ∃ v, e = .returned (.tuple #[v, errV (gokLeaf s.data.toList)]) ∧ w'.ownsRow w.heap.size 48 2 v (goutLeaf s.data.toList).length ((goutLeaf s.data.toList).flatMap kc) ∧ Mod (fun _ => False) w w' := by
  have hL : s.data.toList.length ≤ 100000000 := by simpa using hs
  have H0 := Lib.hid (begun_calls s 76 w hs)
  clear hs
  generalize s.data.toList = L at *
  go_enter Tryd.func70, Tryd.ntmps70
  go_wp2_with fail
  refine H0.out.mono ?_
  rintro e w1 ⟨b, rfl, h1⟩
  have H1 := Lib.hid h1
  clear h1 H0
  go_wp2_with fail
  refine (gCount_calls H1.out 64 hL).mono ?_
  rintro e w3 ⟨rfl, h3, _⟩
  have hdef : gLeaf L = gList (gPair L) (gCount L 64 ⟨begunBad L 0x4c, 1⟩).1.toNat (gCount L 64 ⟨begunBad L 0x4c, 1⟩).2 [] := rfl
  have hin := gCount_in L 64 ⟨begunBad L 0x4c, 1⟩ (by omega)
  generalize (gCount L 64 ⟨begunBad L 0x4c, 1⟩).1 = n at *
  generalize (gCount L 64 ⟨begunBad L 0x4c, 1⟩).2 = x1 at *
  have HDEF := Lib.hid hdef
  have H3 := Lib.hid h3
  have hv0 : w3.ownsRow w.heap.size 48 2 (.slice none 0 0) ([] : List Pair).length (([] : List Pair).flatMap kc) := World.ownsRow_nil _ _ _ _
  have HV0 := Lib.hid hv0
  clear hv0 h3 hdef H1
  go_wp2_with fail
  go_loopw [5, 7] (fun v m wr => ∃ (z : Int) (x : RR) (l : List Pair), m = .int .i64 z ∧ (0 ≤ z ∧ z ≤ n) ∧ (l.length : Int) = z ∧
    Hid (gLeaf L = gList (gPair L) (n - z).toNat x l) ∧ Hid (Rg w b L x wr) ∧ Hid (wr.ownsRow w.heap.size 48 2 v l.length (l.flatMap kc))) (fun _ m _ => (n - intOf m).toNat)
  case atStart =>
    exact ⟨0, x1, [], by go_num, ⟨by omega, by omega⟩, rfl, by rw [Int.sub_zero]; exact HDEF, H3, HV0⟩
  case round =>
    obtain ⟨z, x, l, rfl, hz, hx, HD, HR, HV⟩ := hrel
    have c1 := HR.out.bad
    have hn64 : n ≤ 64 := hin.2
    have hl64 : l.length ≤ 64 := by omega
    by_cases hb : x.bad = true
    · rw [hb] at c1
      by_cases i1 : z < n
      ·
        have HSTOP : (n - z).toNat = 0 ∨ x.bad = true := .inr hb
        clear hb
        have HD3 := Lib.hid (show gLeaf L = (x, l) by rw [HD.out]; exact gList_stop _ _ _ _ HSTOP)
        clear hx HD
        obtain ⟨A, cp, rfl, _, hcl, _, _⟩ := own_cells HV.out
        have HCL := Lib.hid hcl
        clear hcl
        go_wp2_with fail
        refine (gEnds_calls HR.out hL).mono ?_
        rintro e w4 ⟨rfl, hm4⟩
        have HM4 := Lib.hid (Mod.trans HR.out.mod hm4 (fun _ _ h => h))
        have HV4 := Lib.hid (own_keep HV.out hm4 (fun _ _ _ h => h))
        have HRC := Lib.hid (rightLeaf_calls A cp l w4 (HCL.out.keep hm4 (fun _ _ h => h)) (by omega))
        clear hm4
        have hok : gokLeaf L = (gEnds L x && rightLeaf l) := by unfold gokLeaf; rw [HD3.out]
        obtain ⟨en, hen⟩ : ∃ en, gEnds L x = en := ⟨_, rfl⟩
        obtain ⟨rt, hrt⟩ : ∃ rt, rightLeaf l = rt := ⟨_, rfl⟩
        rw [hen, hrt] at hok
        rw [hen]
        rw [hrt] at HRC
        have HOK := Lib.hid hok
        clear hen hrt hok
        go_wp2_with fail
        refine HRC.out.mono ?_
        rintro e w7 ⟨rfl, hm7⟩
        have HV7 := Lib.hid (own_keep HV4.out hm7 (fun _ _ _ h => h))
        have HM7 := Lib.hid (Mod.trans HM4.out hm7 (fun _ _ h => h))
        clear hm7
        cases en with
        | true =>
          cases rt with
          | true =>
            have hok : gokLeaf L = true := HOK.out
            have HOK := Lib.hid hok
            clear hok
            go_wp2_with fail
            refine bodyPost_ret (v := .tuple #[.slice A l.length cp, .int .i64 0]) (by simp [results, Tryd.results70, go_sem]) rfl ⟨_, by rw [HOK.out]; rfl, ?_, HM7.out⟩
            unfold goutLeaf
            rw [if_pos HOK.out, HD3.out]
            exact HV7.out
          | false =>
            have hok : gokLeaf L = false := HOK.out
            have HOK := Lib.hid hok
            clear hok
            go_wp2_with fail
            refine bodyPost_ret (v := .tuple #[.slice none 0 0, .int .i64 81]) (by simp [results, Tryd.results70, go_sem]) rfl ⟨_, by rw [HOK.out]; rfl, ?_, HM7.out⟩
            unfold goutLeaf
            rw [if_neg (by rw [HOK.out]; decide)]
            exact World.ownsRow_nil _ _ _ _
        | false =>
          have hok : gokLeaf L = false := HOK.out
          have HOK := Lib.hid hok
          clear hok
          go_wp2_with fail
          refine bodyPost_ret (v := .tuple #[.slice none 0 0, .int .i64 81]) (by simp [results, Tryd.results70, go_sem]) rfl ⟨_, by rw [HOK.out]; rfl, ?_, HM7.out⟩
          unfold goutLeaf
          rw [if_neg (by rw [HOK.out]; decide)]
          exact World.ownsRow_nil _ _ _ _
      ·
        have HSTOP : (n - z).toNat = 0 ∨ x.bad = true := .inr hb
        clear hb
        have HD3 := Lib.hid (show gLeaf L = (x, l) by rw [HD.out]; exact gList_stop _ _ _ _ HSTOP)
        clear hx HD
        obtain ⟨A, cp, rfl, _, hcl, _, _⟩ := own_cells HV.out
        have HCL := Lib.hid hcl
        clear hcl
        go_wp2_with fail
        refine (gEnds_calls HR.out hL).mono ?_
        rintro e w4 ⟨rfl, hm4⟩
        have HM4 := Lib.hid (Mod.trans HR.out.mod hm4 (fun _ _ h => h))
        have HV4 := Lib.hid (own_keep HV.out hm4 (fun _ _ _ h => h))
        have HRC := Lib.hid (rightLeaf_calls A cp l w4 (HCL.out.keep hm4 (fun _ _ h => h)) (by omega))
        clear hm4
        have hok : gokLeaf L = (gEnds L x && rightLeaf l) := by unfold gokLeaf; rw [HD3.out]
        obtain ⟨en, hen⟩ : ∃ en, gEnds L x = en := ⟨_, rfl⟩
        obtain ⟨rt, hrt⟩ : ∃ rt, rightLeaf l = rt := ⟨_, rfl⟩
        rw [hen, hrt] at hok
        rw [hen]
        rw [hrt] at HRC
        have HOK := Lib.hid hok
        clear hen hrt hok
        go_wp2_with fail
        refine HRC.out.mono ?_
        rintro e w7 ⟨rfl, hm7⟩
        have HV7 := Lib.hid (own_keep HV4.out hm7 (fun _ _ _ h => h))
        have HM7 := Lib.hid (Mod.trans HM4.out hm7 (fun _ _ h => h))
        clear hm7
        cases en with
        | true =>
          cases rt with
          | true =>
            have hok : gokLeaf L = true := HOK.out
            have HOK := Lib.hid hok
            clear hok
            go_wp2_with fail
            refine bodyPost_ret (v := .tuple #[.slice A l.length cp, .int .i64 0]) (by simp [results, Tryd.results70, go_sem]) rfl ⟨_, by rw [HOK.out]; rfl, ?_, HM7.out⟩
            unfold goutLeaf
            rw [if_pos HOK.out, HD3.out]
            exact HV7.out
          | false =>
            have hok : gokLeaf L = false := HOK.out
            have HOK := Lib.hid hok
            clear hok
            go_wp2_with fail
            refine bodyPost_ret (v := .tuple #[.slice none 0 0, .int .i64 81]) (by simp [results, Tryd.results70, go_sem]) rfl ⟨_, by rw [HOK.out]; rfl, ?_, HM7.out⟩
            unfold goutLeaf
            rw [if_neg (by rw [HOK.out]; decide)]
            exact World.ownsRow_nil _ _ _ _
        | false =>
          have hok : gokLeaf L = false := HOK.out
          have HOK := Lib.hid hok
          clear hok
          go_wp2_with fail
          refine bodyPost_ret (v := .tuple #[.slice none 0 0, .int .i64 81]) (by simp [results, Tryd.results70, go_sem]) rfl ⟨_, by rw [HOK.out]; rfl, ?_, HM7.out⟩
          unfold goutLeaf
          rw [if_neg (by rw [HOK.out]; decide)]
          exact World.ownsRow_nil _ _ _ _
    · have hb0 : x.bad = false := by simpa using hb
      rw [hb0] at c1
      by_cases i1 : z < n
      · have hstep : gLeaf L = gList (gPair L) (n - (z + 1)).toNat (gPair L x).2 (l ++ [(gPair L x).1]) := by
          rw [HD.out, show (n - z).toNat = (n - (z + 1)).toNat + 1 by omega, gList_go _ _ _ _ hb0]
        have HST := Lib.hid hstep
        clear hb hb0 hstep HD
        go_wp2_with fail
        refine (gText_calls HR.out 64 hL).mono ?_
        rintro e w4 ⟨rfl, h4, hm4⟩
        have HV4 := Lib.hid (own_keep HV.out hm4 (fun k _ hk hkb => by
          obtain ⟨A, c, hA⟩ := HR.out.ex
          exact has_ne hA.has (own_row HV.out hk) (by decide) hkb))
        have H4 := Lib.hid h4
        clear h4 hm4
        go_wp2_with fail
        refine (gText_calls H4.out 128 hL).mono ?_
        rintro e w5 ⟨rfl, h5, hm5⟩
        have HV5 := Lib.hid (own_keep HV4.out hm5 (fun k _ hk hkb => by
          obtain ⟨A, c, hA⟩ := H4.out.ex
          exact has_ne hA.has (own_row HV4.out hk) (by decide) hkb))
        generalize hP : (gPair L x).1 = P at *
        have e1 : (⟨(gText L 64 x).1.toArray⟩ : ByteArray) = P.key := by rw [← hP]; rfl
        have e2 : (⟨(gText L 128 (gText L 64 x).2).1.toArray⟩ : ByteArray) = P.val := by rw [← hP]; rfl
        have e3 : (gText L 128 (gText L 64 x).2).2 = (gPair L x).2 := rfl
        rw [e1, e2]
        rw [e3] at h5
        generalize (gPair L x).2 = x4 at *
        have H5 := Lib.hid h5
        have HVA := Lib.hid (HV5.out.alloc (.cells #[.string P.key, .string P.val] 48))
        have hbs : w.heap.size ≤ w5.heap.size := h5.mod.size
        clear hP e1 e2 e3 h5 hm5 HV4 H4
        go_wp2_with (first
          | (at_builtin
             go_must (refine app (.tmp 32) (.tmp 36) pair_t w.heap.size u5 l.length (l.flatMap kc) HVA.out ⟨w5.heap.size, 0, none⟩ 1 1 [.string P.key, .string P.val] rfl rfl rfl rfl rfl (cells_new w5 _ _) (by intro u hu; simp at hu; rcases hu with rfl | rfl <;> rfl) (by omega) (by unfold maxLen; omega) (by simp; omega) ?_; intro v6 w6 ho hm6)
             have hRA := H5.out.alloc (.cells #[.string P.key, .string P.val] 48)
             have h6 : Rg w b L x4 w6 := hRA.keep hm6 (fun hs => by
               obtain ⟨A, c, hA⟩ := hRA.ex
               exact has_ne hA.has (own_row HVA.out hs.2) (by decide) rfl) (fun k hk hs => byteRow_ne hk (own_row HVA.out hs.2) (by decide)) (fun k hk hs => by omega)
             have hv6 : w6.ownsRow w.heap.size 48 2 v6 (l ++ [P]).length ((l ++ [P]).flatMap kc) := by rw [List.length_append, List.flatMap_append]; exact ho
             have H6 := Lib.hid h6
             have HV6 := Lib.hid hv6
             clear hRA h6 hv6 ho hm6))
        go_roundw
        case rel => exact ⟨z + 1, x4, l ++ [P], by go_num, by omega, by simp; omega, HST, H6, HV6⟩
        case measure => simp [intOf]; omega
      ·
        have HSTOP : (n - z).toNat = 0 ∨ x.bad = true := .inl (by omega)
        clear hb hb0
        have HD3 := Lib.hid (show gLeaf L = (x, l) by rw [HD.out]; exact gList_stop _ _ _ _ HSTOP)
        clear hx HD
        obtain ⟨A, cp, rfl, _, hcl, _, _⟩ := own_cells HV.out
        have HCL := Lib.hid hcl
        clear hcl
        go_wp2_with fail
        refine (gEnds_calls HR.out hL).mono ?_
        rintro e w4 ⟨rfl, hm4⟩
        have HM4 := Lib.hid (Mod.trans HR.out.mod hm4 (fun _ _ h => h))
        have HV4 := Lib.hid (own_keep HV.out hm4 (fun _ _ _ h => h))
        have HRC := Lib.hid (rightLeaf_calls A cp l w4 (HCL.out.keep hm4 (fun _ _ h => h)) (by omega))
        clear hm4
        have hok : gokLeaf L = (gEnds L x && rightLeaf l) := by unfold gokLeaf; rw [HD3.out]
        obtain ⟨en, hen⟩ : ∃ en, gEnds L x = en := ⟨_, rfl⟩
        obtain ⟨rt, hrt⟩ : ∃ rt, rightLeaf l = rt := ⟨_, rfl⟩
        rw [hen, hrt] at hok
        rw [hen]
        rw [hrt] at HRC
        have HOK := Lib.hid hok
        clear hen hrt hok
        go_wp2_with fail
        refine HRC.out.mono ?_
        rintro e w7 ⟨rfl, hm7⟩
        have HV7 := Lib.hid (own_keep HV4.out hm7 (fun _ _ _ h => h))
        have HM7 := Lib.hid (Mod.trans HM4.out hm7 (fun _ _ h => h))
        clear hm7
        cases en with
        | true =>
          cases rt with
          | true =>
            have hok : gokLeaf L = true := HOK.out
            have HOK := Lib.hid hok
            clear hok
            go_wp2_with fail
            refine bodyPost_ret (v := .tuple #[.slice A l.length cp, .int .i64 0]) (by simp [results, Tryd.results70, go_sem]) rfl ⟨_, by rw [HOK.out]; rfl, ?_, HM7.out⟩
            unfold goutLeaf
            rw [if_pos HOK.out, HD3.out]
            exact HV7.out
          | false =>
            have hok : gokLeaf L = false := HOK.out
            have HOK := Lib.hid hok
            clear hok
            go_wp2_with fail
            refine bodyPost_ret (v := .tuple #[.slice none 0 0, .int .i64 81]) (by simp [results, Tryd.results70, go_sem]) rfl ⟨_, by rw [HOK.out]; rfl, ?_, HM7.out⟩
            unfold goutLeaf
            rw [if_neg (by rw [HOK.out]; decide)]
            exact World.ownsRow_nil _ _ _ _
        | false =>
          have hok : gokLeaf L = false := HOK.out
          have HOK := Lib.hid hok
          clear hok
          go_wp2_with fail
          refine bodyPost_ret (v := .tuple #[.slice none 0 0, .int .i64 81]) (by simp [results, Tryd.results70, go_sem]) rfl ⟨_, by rw [HOK.out]; rfl, ?_, HM7.out⟩
          unfold goutLeaf
          rw [if_neg (by rw [HOK.out]; decide)]
          exact World.ownsRow_nil _ _ _ _
end Obj
end Go.Proofs.YtpoljpjcmigobaaDoor
/- Plain laws: both readers of leaves agree. -/
namespace Go.Proofs.YtpoljpjcmigobaaDoor
set_option linter.unusedVariables false
set_option linter.unusedSimpArgs false
open Go.RowKit K Wire
namespace Obj

theorem pairB_pre (L : List UInt8) (a : Pair) (ha : pairOk a = true) (p r : List UInt8) (hL : L = p ++ (pairB a ++ r)) : rdPair L (pre p) = (a, pre (p ++ pairB a)) := by
  simp only [pairOk, Bool.and_eq_true] at ha
  have b1 := ha.1
  have b2 := ha.2
  simp only [inR, Bool.and_eq_true, decide_eq_true_eq] at b1 b2
  have n1 : a.key.data.toList.length = a.key.size := by simp
  have n2 : a.val.data.toList.length = a.val.size := by simp
  have h1 : tText L 1 64 (pre p) = (a.key.data.toList, pre (p ++ encT a.key.data.toList)) := by
    rw [hL, pairB, List.append_assoc]; exact tText_pre p _ _ 1 64 (by rw [n1]; exact ha.1) (by omega)
  have h2 : tText L 0 128 (pre (p ++ encT a.key.data.toList)) = (a.val.data.toList, pre (p ++ encT a.key.data.toList ++ encT a.val.data.toList)) := by
    rw [hL, pairB, show p ++ (encT a.key.data.toList ++ encT a.val.data.toList ++ r) = (p ++ encT a.key.data.toList) ++ (encT a.val.data.toList ++ r) by simp]
    exact tText_pre _ _ _ 0 128 (by rw [n2]; exact ha.2) (by omega)
  unfold rdPair
  rw [h1]; dsimp only; rw [h2]
  simp [pairB]
theorem rdPair_got (L : List UInt8) (x : RS) (_ : 0 ≤ x.p) (h : (rdPair L x).2.bad = false) : x.bad = false ∧ (rdPair L x).2.l = x.l ++ pairB (rdPair L x).1 ∧ pairOk (rdPair L x).1 = true := by
  obtain ⟨h1, h2, h3⟩ := tText_got L 0 128 (tText L 1 64 x).2 h
  obtain ⟨h4, h5, h6⟩ := tText_got L 1 64 x h1
  refine ⟨h4, ?_, ?_⟩
  · show (tText L 0 128 (tText L 1 64 x).2).2.l = _
    rw [h2, h5]; simp [pairB, rdPair]
  · unfold pairOk
    rw [show inR ((rdPair L x).1.key.size : Int) 1 64 = true from h6, show inR ((rdPair L x).1.val.size : Int) 0 128 = true from h3]; rfl
theorem rdPair_p (L : List UInt8) (x : RS) (h : 0 ≤ x.p) : 0 ≤ (rdPair L x).2.p := tText_p L 0 128 _ (tText_p L 1 64 x h)
theorem leaf_sound (L : List UInt8) (h : okLeaf L = true) : L = leafB (rdLeaf L).2 ∧ rightLeaf (rdLeaf L).2 = true := by
  unfold okLeaf wholeB at h
  rw [Bool.and_eq_true, decide_eq_true_eq] at h
  obtain ⟨hb, hl⟩ := h
  obtain ⟨hb1, hris⟩ := ask_bad (by simpa using hb)
  have hp1 := tInt_p L 0 64 ⟨[0x4c], false, 1⟩ (by show (0:Int) ≤ 1; omega)
  obtain ⟨hb2, l, h2, h3, h4, h5⟩ := rdList_got (rdPair L) pairB pairOk (rdPair_p L) (rdPair_got L) _ _ [] hp1 hb1
  obtain ⟨_, h6, h7⟩ := tInt_got _ _ _ _ hb2
  have hk : (rdLeaf L).2 = l := by simpa [rdLeaf] using h2
  have hx : (rdLeaf L).1.l = L := hl
  have hn : (tInt L 0 64 ⟨[0x4c], false, 1⟩).1 = (l.length : Int) := by
    simp only [inR, Bool.and_eq_true, decide_eq_true_eq] at h7
    omega
  rw [hk]
  constructor
  · refine hx.symm.trans ?_
    show (rdList _ _ _ _).1.l = _
    rw [h4, h6, hn]
    simp [leafB]
  · unfold rightLeaf
    rw [hk] at hris
    rw [hn] at h7
    rw [hris, h5, h7]; rfl
theorem leaf_complete (kids : List Pair) (h : rightLeaf kids = true) : okLeaf (leafB kids) = true ∧ outLeaf (leafB kids) = kids := by
  simp only [rightLeaf, Bool.and_eq_true] at h
  obtain ⟨⟨h2, h3⟩, h4⟩ := h
  have i2 : In64 (kids.length : Int) := by simp only [inR, Bool.and_eq_true, decide_eq_true_eq] at h2; unfold In64; omega
  obtain ⟨L, hL⟩ : ∃ L, L = leafB kids := ⟨_, rfl⟩
  have e0 : (⟨[0x4c], false, 1⟩ : RS) = pre [0x4c] := rfl
  have e2 : tInt L 0 64 (pre [0x4c]) = ((kids.length : Int), pre ([0x4c] ++ enc (kids.length : Int))) := by
    rw [hL]; exact tInt_pre [0x4c] (kids.flatMap pairB) _ 0 64 i2 h2
  have e3 := rdList_pre L (rdPair L) pairB kids ([0x4c] ++ enc (kids.length : Int)) [] [] (by rw [hL]; simp [leafB]) (fun a ha p r hp =>
    pairB_pre L a (List.all_eq_true.1 h3 a ha) p r hp)
  have e4 : [0x4c] ++ enc (kids.length : Int) ++ kids.flatMap pairB = L := by rw [hL]; simp [leafB]
  rw [e4] at e3
  rw [← hL]
  have hr : rdLeaf L = (pre L, kids) := by
    unfold rdLeaf
    rw [e0, e2]; dsimp only
    rw [Int.toNat_natCast, e3]; rfl
  have hok : okLeaf L = true := by
    unfold okLeaf
    rw [hr]; dsimp only
    rw [h4]
    simp [wholeB, RS.ask, pre]
  exact ⟨hok, by unfold outLeaf; rw [if_pos hok, hr]⟩

theorem gPair_pre (L : List UInt8) (a : Pair) (ha : pairOk a = true) (p r : List UInt8) (hL : L = p ++ (pairB a ++ r)) : gPair L (gpre p) = (a, gpre (p ++ pairB a)) := by
  simp only [pairOk, inR, Bool.and_eq_true, decide_eq_true_eq] at ha
  have n1 : a.key.data.toList.length = a.key.size := by simp
  have n2 : a.val.data.toList.length = a.val.size := by simp
  have h1 : gText L 64 (gpre p) = (a.key.data.toList, gpre (p ++ encT a.key.data.toList)) := by
    rw [hL, pairB, List.append_assoc]; exact gText_pre p _ _ 64 (by rw [n1]; omega) (by omega)
  have h2 : gText L 128 (gpre (p ++ encT a.key.data.toList)) = (a.val.data.toList, gpre (p ++ encT a.key.data.toList ++ encT a.val.data.toList)) := by
    rw [hL, pairB, show p ++ (encT a.key.data.toList ++ encT a.val.data.toList ++ r) = (p ++ encT a.key.data.toList) ++ (encT a.val.data.toList ++ r) by simp]
    exact gText_pre _ _ _ 128 (by rw [n2]; omega) (by omega)
  unfold gPair
  rw [h1]; dsimp only; rw [h2]
  simp [pairB]
theorem gPair_got (L : List UInt8) (x : RR) (h : (gPair L x).2.bad = false) : x.bad = false ∧ ∀ bs, Stand L x bs → Stand L (gPair L x).2 (bs ++ pairB (gPair L x).1) := by
  obtain ⟨h1, h2⟩ := gText_got L 128 (gText L 64 x).2 h
  obtain ⟨h3, h4⟩ := gText_got L 64 x h1
  refine ⟨h3, fun bs hbs => ?_⟩
  have := h2 _ (h4 bs hbs)
  rw [List.append_assoc] at this
  exact this
theorem gleaf_sound (L : List UInt8) (h : gokLeaf L = true) : L = leafB (gLeaf L).2 ∧ rightLeaf (gLeaf L).2 = true := by
  unfold gokLeaf at h
  rw [Bool.and_eq_true] at h
  refine ⟨?_, h.2⟩
  have hb : (gLeaf L).1.bad = false := by
    have := h.1; unfold gEnds at this
    simp only [Bool.and_eq_true, Bool.not_eq_true'] at this
    exact this.1
  obtain ⟨hb1, l, h2, h3, h4⟩ := gList_got L (gPair L) pairB (gPair_got L) _ _ [] hb
  obtain ⟨hb2, h5, h6, h7⟩ := gCount_got L 64 _ hb1
  have h9 := h4 _ (h7 _ (begun_got hb2))
  have hk : (gLeaf L).2 = l := by simpa [gLeaf] using h2
  have hn : (gCount L 64 ⟨begunBad L 0x4c, 1⟩).1 = (l.length : Int) := by omega
  refine (gEnds_got h.1 (fun _ => h9)).trans ?_
  rw [hk, hn]
  simp [leafB]
theorem gleaf_complete (kids : List Pair) (h : rightLeaf kids = true) : gokLeaf (leafB kids) = true ∧ goutLeaf (leafB kids) = kids := by
  have h0 := h
  simp only [rightLeaf, Bool.and_eq_true] at h
  obtain ⟨⟨h2, h3⟩, h4⟩ := h
  simp only [inR, Bool.and_eq_true, decide_eq_true_eq] at h2
  obtain ⟨L, hL⟩ : ∃ L, L = leafB kids := ⟨_, rfl⟩
  have e0 : (⟨begunBad L 0x4c, 1⟩ : RR) = gpre [0x4c] := by rw [hL, leafB, begunBad_no]; rfl
  have e2 : gCount L 64 (gpre [0x4c]) = ((kids.length : Int), gpre ([0x4c] ++ enc (kids.length : Int))) := by
    rw [hL]; exact gCount_pre [0x4c] (kids.flatMap pairB) _ 64 (by unfold In64; omega) (by omega) (by omega)
  have e3 := gList_pre L (gPair L) pairB kids ([0x4c] ++ enc (kids.length : Int)) [] [] (by rw [hL]; simp [leafB]) (fun a ha p r hp =>
    gPair_pre L a (List.all_eq_true.1 h3 a ha) p r hp)
  have e4 : [0x4c] ++ enc (kids.length : Int) ++ kids.flatMap pairB = L := by rw [hL]; simp [leafB]
  rw [e4] at e3
  rw [← hL]
  have f2 : gLeaf L = (gpre L, kids) := by
    unfold gLeaf
    rw [e0, e2]; dsimp only
    rw [Int.toNat_natCast, e3]; rfl
  have hok : gokLeaf L = true := by
    unfold gokLeaf
    rw [f2]; dsimp only
    rw [h0]
    simp [gEnds, gpre]
  exact ⟨hok, by unfold goutLeaf; rw [if_pos hok, f2]⟩
theorem leaves_agree (L : List UInt8) : okLeaf L = gokLeaf L ∧ outLeaf L = goutLeaf L := by
  cases h : okLeaf L with
  | true =>
    obtain ⟨h1, h2⟩ := leaf_sound L h
    obtain ⟨h3, h4⟩ := leaf_complete _ h2
    obtain ⟨h5, h6⟩ := gleaf_complete _ h2
    rw [← h1] at h4 h5 h6
    exact ⟨h5.symm, h4.trans h6.symm⟩
  | false =>
    cases h' : gokLeaf L with
    | true =>
      obtain ⟨h1, h2⟩ := gleaf_sound L h'
      have h3 := (leaf_complete _ h2).1
      rw [← h1, h] at h3; cases h3
    | false => exact ⟨rfl, by unfold outLeaf goutLeaf; rw [h, h', if_neg (by decide), if_neg (by decide)]⟩
end Obj
end Go.Proofs.YtpoljpjcmigobaaDoor
/- The walk of the reference's Leaf. -/
namespace Go.Proofs.YtpoljpjcmigobaaDoor
set_option linter.unusedVariables false
set_option linter.unusedSimpArgs false
open Go.RowKit K Wire
namespace Obj
def leafH (kids : List Pair) : List UInt8 := 76 :: enc (kids.length : Int)
def leafP (kids : List Pair) (k : Nat) : List UInt8 := leafH kids ++ (kids.take k).flatMap pairB
theorem encT_pos (s : ByteArray) : 1 ≤ (encT s.data.toList).length := by
  have := enc_pos (s.data.toList.length : Int)
  simp only [encT, List.length_append]
  omega
set_option maxRecDepth 100000 in
set_option maxHeartbeats 2000000 in
theorem rLeaf_calls (A : Option Addr) (c : Nat) (kids : List Pair) (w : World) (hA : Cells w A (kids.flatMap kc)) (hc : kids.length ≤ 100000000) (hl : (leafB kids).length ≤ 100000000) :
    Calls Tryd.prog 32 #[.slice A kids.length c] w fun e w' => e = .returned (putV (leafB kids) (!rightLeaf kids)) ∧ Mod (fun _ => False) w w' := by
  have HL := Lib.hid hl
  have hR := (Has.new w [.string ⟨#[]⟩, .string ⟨#[]⟩] 59)
  have hA0 := hA.alloc (.cells #[.string ⟨#[]⟩, .string ⟨#[]⟩] 59)
  have hM0 := (Mod.refl (fun _ => False) w).alloc (.cells #[.string ⟨#[]⟩, .string ⟨#[]⟩] 59)
  have HR := Lib.hid hR
  have HA0 := Lib.hid hA0
  have HM0 := Lib.hid hM0
  have hRC := rightLeaf_calls A c kids _ hA0 hc
  have HRC := Lib.hid hRC
  clear hl hR hA0 hM0 hA hRC
  go_enter Tryd.func32, Tryd.ntmps32
  go_wp2_with fail
  refine HRC.out.mono ?_
  rintro e w1 ⟨rfl, hm1⟩
  have hR1 := HR.out.keep hm1 (fun h => h)
  have hA1 := HA0.out.keep hm1 (fun _ _ h => h)
  have hsz1 : w.heap.size + 1 ≤ w1.heap.size := by have := hm1.size; simp only [size_alloc] at this; omega
  have hlt0 : w.heap.size < w1.heap.size := by omega
  have hM1 := Mod.trans HM0.out hm1 (fun _ _ h => h)
  have hv0 := (own_lit (w := w1) (n := w1.heap.size) (m := 1) (cs := bv [76]) (e := 5) (base := w1.heap.size) (size := 1) rfl (Nat.le_refl _) (by unfold maxLen; omega) rfl)
  have HR1 := Lib.hid hR1
  have HA1 := Lib.hid hA1
  have HM1 := Lib.hid hM1
  have HV0 := Lib.hid hv0
  have hkn : In64 (kids.length : Int) := by unfold In64; omega
  have hke := enc_len _ hkn
  clear hR1 hA1 hM1 hv0 HR HA0 HM0 HRC hm1
  obtain ⟨ok, hok⟩ : ∃ ok, rightLeaf kids = ok := ⟨_, rfl⟩
  rw [hok]
  have HOK := Lib.hid hok
  clear hok
  go_wp2_with fail
  refine (number_calls (kids.length : Int) _ hkn).mono ?_
  rintro e w4 ⟨v4, rfl, ho4, hm4⟩
  obtain ⟨b4, o4, c4, rfl, hn4⟩ := own_news ho4 (enc_pos _)
  have HV4 := Lib.hid (own_keep HV0.out hm4 (fun _ _ _ h => h))
  have HN4 := Lib.hid hn4
  have hM4 : Mod (fun _ => False) w1 w4 := Mod.trans ((Mod.refl (fun _ => False) w1).alloc _) hm4 (fun _ _ h => h)
  have hz4 := hM4.size
  have HM4 := Lib.hid hM4
  clear ho4 hm4 hM4 hn4
  go_wp2_with (first
    | (at_builtin
       go_must (refine app (.tmp 9) (.tmp 12) obj_bytes_t w1.heap.size (.slice (some ⟨w1.heap.size, 0, none⟩) 1 1) 1 (bv [76]) HV4.out ⟨b4, o4, none⟩ (enc (kids.length : Int)).length c4 (bv (enc (kids.length : Int))) rfl rfl rfl rfl (by simp [bv]) HN4.out (bv_one _) (by omega) (by unfold maxLen; omega) (by omega) ?_; intro v5 w5 ho hm5)
       have hM5 := Mod.trans HM4.out hm5 (fun i hi h => by have := h.1; omega)
       have hv5 : w5.ownsRow w1.heap.size 5 1 v5 (leafP kids 0).length (bv (leafP kids 0)) := by
         have e1 : leafP kids 0 = [76] ++ enc (kids.length : Int) := by simp [leafP, leafH]
         have e2 : (leafP kids 0).length = 1 + (enc (kids.length : Int)).length := by rw [e1]; simp; omega
         rw [e2, e1, bv_append]; exact ho
       have HV5 := Lib.hid hv5
       have HM5 := Lib.hid hM5
       clear hm5 hM5 ho hv5))
  have hpre : ∀ k, (leafP kids k).length ≤ 100000000 := fun k => by
    have h1 := HL.out
    have h2 := flatMap_take pairB kids k
    simp only [leafB, leafP, leafH, List.length_append, List.length_cons] at h1 ⊢
    omega
  have hfull : leafP kids kids.length = leafB kids := by simp [leafP, leafH, leafB]
  have HP := Lib.hid hpre
  have HFU := Lib.hid hfull
  clear hpre hfull HV4 HN4 HM4 hz4 hke
  go_loopw [5, 6] (fun v i wr => ∃ (k : Nat), i = .int .i64 k ∧ k ≤ kids.length ∧ (ok = false → k = 0) ∧ Hid (wr.ownsRow w1.heap.size 5 1 v (leafP kids k).length (bv (leafP kids k))) ∧ Hid (Mod (fun _ => False) w1 wr)) (fun _ i _ => kids.length - (intOf i).toNat)
  case atStart => exact ⟨0, by go_num, by omega, fun _ => rfl, HV5, HM5⟩
  case round =>
    obtain ⟨k, rfl, hk, hk0, HV, HM⟩ := hrel
    have hz := HM.out.size
    cases ok with
    | true =>
      by_cases hlt : k < kids.length
      · have i1 : (k : Int) < (kids.length : Int) := by omega
        have i0 : (0 : Int) ≤ (k : Int) := by omega
        rcases HA1.out.keep HM.out (fun _ _ h => h) with h | ⟨ba, o, rfl, hcell⟩
        · have := flat_len kc_len kids; rw [h] at this; simp at this; omega
        have hbl1 : ba < w1.heap.size := by
          rcases HA1.out with h | ⟨ba', o', hb', hcell1⟩
          · have := flat_len kc_len kids; rw [h] at this; simp at this; omega
          · obtain ⟨rfl, rfl⟩ : ba = ba' ∧ o = o' := by simpa using hb'
            exact World.block_lt_of_cell? w1 _ (hcell1 _ _ (flat_get kc_len kids k 0 hlt (by omega)))
        have y0 := hcell _ _ (flat_get kc_len kids k 0 hlt (by omega))
        have y1 := hcell _ _ (flat_get kc_len kids k 1 hlt (by omega))
        rw [Nat.add_zero] at y0
        rw [← Nat.add_assoc] at y1
        have hbl : ba < wr.heap.size := World.block_lt_of_cell? wr _ y0
        have hst : leafP kids (k + 1) = leafP kids k ++ pairB kids[k] := by
          simp only [leafP]
          rw [List.take_succ_eq_append_getElem hlt, List.flatMap_append]
          simp
        have hpk := HP.out (k + 1)
        rw [hst] at hpk
        generalize kids[k] = p at *
        have HST := Lib.hid hst
        have h1l := encT_least p.key
        have h2l := encT_least p.val
        have hpk2 : (leafP kids k).length + (encT p.key.data.toList).length + (encT p.val.data.toList).length ≤ 100000000 := by
          simp only [pairB, List.length_append] at hpk; omega
        generalize leafP kids k = L at *
        clear hcell hst hpk HP
        have s1 : p.key.size ≤ 100000000 := by omega
        have s2 : p.val.size ≤ 100000000 := by omega
        go_wp2_with fail
        refine (rtext_calls p.key _ s1).mono ?_
        rintro e w7 ⟨v7, rfl, ho7, hm7⟩
        obtain ⟨b7, o7, c7, rfl, hn7⟩ := own_news ho7 (encT_pos _)
        have HV7 := Lib.hid (own_keep HV.out hm7 (fun _ _ _ h => h))
        have HN7 := Lib.hid hn7
        have hM7 : Mod (fun _ => False) w1 w7 := Mod.trans HM.out hm7 (fun _ _ h => h)
        have y1 := (hm7.cell (p := ⟨ba, o + k * 2 + 1, none⟩) hbl (fun h => h)).trans y1
        have hbl7 : ba < w7.heap.size := World.block_lt_of_cell? w7 _ y1
        have hz7 := hM7.size
        have HM7 := Lib.hid hM7
        clear ho7 hm7 hM7 hn7 y0
        go_wp2_with (first
          | (at_builtin
             go_must (refine app (.tmp 23) (.tmp 29) obj_bytes_t w1.heap.size u5 L.length (bv L) HV7.out ⟨b7, o7, none⟩ (encT p.key.data.toList).length c7 (bv (encT p.key.data.toList)) rfl rfl rfl rfl (by simp [bv]) HN7.out (bv_one _) (by omega) (by unfold maxLen; omega) (by omega) ?_; intro v8 w8 ho hm8)
             have hM8 := Mod.trans HM7.out hm8 (fun i hi h => by have := h.1; omega)
             have y1 := (hm8.cell (p := ⟨ba, o + k * 2 + 1, none⟩) hbl7 (fun h => by have := h.1; dsimp only at this; omega)).trans y1
             rw [← bv_append] at ho
             have HV8 := Lib.hid ho
             have HM8 := Lib.hid hM8
             clear hm8 hM8 ho))
        refine (rtext_calls p.val _ s2).mono ?_
        rintro e w9 ⟨v9, rfl, ho9, hm9⟩
        obtain ⟨b9, o9, c9, rfl, hn9⟩ := own_news ho9 (encT_pos _)
        have HV9 := Lib.hid (own_keep HV8.out hm9 (fun _ _ _ h => h))
        have HN9 := Lib.hid hn9
        have hM9 : Mod (fun _ => False) w1 w9 := Mod.trans HM8.out hm9 (fun _ _ h => h)
        have hz9 := hM9.size
        have HM9 := Lib.hid hM9
        clear ho9 hm9 hM9 hn9 y1
        go_wp2_with (first
          | (at_builtin
             go_must (refine app (.tmp 31) (.tmp 37) obj_bytes_t w1.heap.size v8 (L.length + (encT p.key.data.toList).length) (bv (L ++ encT p.key.data.toList)) HV9.out ⟨b9, o9, none⟩ (encT p.val.data.toList).length c9 (bv (encT p.val.data.toList)) rfl rfl rfl rfl (by simp [bv]) HN9.out (bv_one _) (by omega) (by unfold maxLen; omega) (by omega) ?_; intro vx wx ho hmx)
             have hMx := Mod.trans HM9.out hmx (fun i hi h => by have := h.1; omega)
             have hvx : wx.ownsRow w1.heap.size 5 1 vx (leafP kids (k + 1)).length (bv (leafP kids (k + 1))) := by
               rw [HST.out]
               have e2 : (L ++ pairB p).length = L.length + (encT p.key.data.toList).length + (encT p.val.data.toList).length := by simp [pairB]; omega
               have e3 : L ++ pairB p = L ++ encT p.key.data.toList ++ encT p.val.data.toList := by simp [pairB]
               rw [e2, e3, bv_append]; exact ho
             have HVX := Lib.hid hvx
             have HMX := Lib.hid hMx
             clear hmx hMx ho hvx))
        go_roundw
        case rel => exact ⟨k + 1, by go_num, by omega, (fun h => by cases h), HVX, HMX⟩
        case measure => simp [intOf]; omega
      · have hkl : k = kids.length := by omega
        have i1 : ¬ (k : Int) < (kids.length : Int) := by omega
        have hv := HV.out
        rw [hkl, HFU.out] at hv
        obtain ⟨A2, c2', rfl, _, hcl, _, _⟩ := own_cells hv
        have hP := put_calls A2 c2' (leafB kids) true wr hcl (fun _ => leaf_len kids HOK.out)
        have HP9 := Lib.hid hP
        have HR9 := Lib.hid (HR1.out.keep HM.out (fun h => h))
        have HM9 := Lib.hid (Mod.trans HM1.out HM.out (fun _ _ h => h))
        clear hv hcl hP hkl
        go_wp2_with fail
        refine HP9.out.mono ?_
        rintro e w8 ⟨rfl, hm8⟩
        have hr8 := HR9.out.keep hm8 (fun h => h)
        have z0 := hr8.cell (o := 0) rfl
        have z1 := hr8.cell (o := 1) rfl
        have k0 := hr8.frozen 0
        have k1 := hr8.frozen 1
        have HM8 := Lib.hid (Mod.trans HM9.out hm8 (fun _ _ h => h))
        rw [Bool.not_true, putV_f]
        clear hr8 hm8
        go_wp2_with fail
        refine bodyPost_ret (v := putV (leafB kids) false) (by simp [results, Tryd.results32, go_sem, putV_f, z0, z1]) rfl ⟨(HOK.out ▸ rfl), ?_⟩
        exact (HM8.out.setCell (p := ⟨w.heap.size, 0, none⟩) (.inr (by simp)) _).setCell (p := ⟨w.heap.size, 1, none⟩) (.inr (by simp)) _
    | false =>
      have hk00 := hk0 rfl
      subst hk00
      have hv := HV.out
      have hput : ∀ A2 c2' w', Calls Tryd.prog 63 #[.slice A2 (leafP kids 0).length c2', .bool false] w' fun e w'' => e = .returned (putV (leafB kids) (!false)) ∧ Mod (fun _ => False) w' w'' := fun A2 c2' w' => put_false A2 c2' (leafB kids) _ w'
      obtain ⟨A2, c2', rfl, _, hcl, _, _⟩ := own_cells hv
      have HP9 := Lib.hid (hput A2 c2' wr)
      have HR9 := Lib.hid (HR1.out.keep HM.out (fun h => h))
      have HM9 := Lib.hid (Mod.trans HM1.out HM.out (fun _ _ h => h))
      clear hv hcl hput
      by_cases hlt : 0 < kids.length
      · have i1 : (0 : Int) < (kids.length : Int) := by omega
        go_wp2_with fail
        refine HP9.out.mono ?_
        rintro e w8 ⟨rfl, hm8⟩
        have hr8 := HR9.out.keep hm8 (fun h => h)
        have z0 := hr8.cell (o := 0) rfl
        have z1 := hr8.cell (o := 1) rfl
        have k0 := hr8.frozen 0
        have k1 := hr8.frozen 1
        have HM8 := Lib.hid (Mod.trans HM9.out hm8 (fun _ _ h => h))
        rw [Bool.not_false, putV_t]
        clear hr8 hm8
        go_wp2_with fail
        refine bodyPost_ret (v := putV (leafB kids) true) (by simp [results, Tryd.results32, go_sem, putV_t, z0, z1]) rfl ⟨(HOK.out ▸ rfl), ?_⟩
        exact (HM8.out.setCell (p := ⟨w.heap.size, 0, none⟩) (.inr (by simp)) _).setCell (p := ⟨w.heap.size, 1, none⟩) (.inr (by simp)) _
      · have i1 : ¬ (0 : Int) < (kids.length : Int) := by omega
        go_wp2_with fail
        refine HP9.out.mono ?_
        rintro e w8 ⟨rfl, hm8⟩
        have hr8 := HR9.out.keep hm8 (fun h => h)
        have z0 := hr8.cell (o := 0) rfl
        have z1 := hr8.cell (o := 1) rfl
        have k0 := hr8.frozen 0
        have k1 := hr8.frozen 1
        have HM8 := Lib.hid (Mod.trans HM9.out hm8 (fun _ _ h => h))
        rw [Bool.not_false, putV_t]
        clear hr8 hm8
        go_wp2_with fail
        refine bodyPost_ret (v := putV (leafB kids) true) (by simp [results, Tryd.results32, go_sem, putV_t, z0, z1]) rfl ⟨(HOK.out ▸ rfl), ?_⟩
        exact (HM8.out.setCell (p := ⟨w.heap.size, 0, none⟩) (.inr (by simp)) _).setCell (p := ⟨w.heap.size, 1, none⟩) (.inr (by simp)) _
end Obj
end Go.Proofs.YtpoljpjcmigobaaDoor
