/- Joined texts: ObjCr, ObjCk, ObjCg. -/
import Derived.Test.YtenamjldkaggcaaGreatDoorJ23
import Derived.Test.YtenamjldkaggcaaGreatDoorJ15
import Derived.Test.YtenamjldkaggcaaGreatDoorJ19
import Derived.Test.YtenamjldkaggcaaGreatDoorJ16
/- The walk of the reference's RightCommit. -/
namespace Go.Proofs.YtenamjldkaggcaaGreatDoor
set_option linter.unusedVariables false
set_option linter.unusedSimpArgs false
open Go.RowKit K Wire
namespace Obj

theorem rightCommit_par {C : Com} {k : Nat} (hk : k < C.pars.length) (h : parOne C.pars k = false) : rightCommit C = false := by
  have : parOk C.pars C.pars.length = false := by
    unfold parOk; rw [List.all_eq_false]; exact ⟨k, List.mem_range.2 hk, by rw [h]; decide⟩
  unfold rightCommit; rw [this]; simp
theorem mem_take {ps : List ByteArray} {m k : Nat} (hm : m < k) (hk : k ≤ ps.length) : par ps m ∈ ps.take k := by
  rw [par_get (by omega)]
  exact List.mem_iff_getElem.2 ⟨m, by simp; omega, by simp⟩
theorem parOne_dup {ps : List ByteArray} {m k : Nat} (hm : m < k) (hk : k < ps.length) (h : par ps m = par ps k) : parOne ps k = false := by
  have : Lib.containsS (ps.take k) (par ps k) = true := (Lib.containsS_iff _ _).2 (h ▸ mem_take hm (by omega))
  unfold parOne; rw [this]; simp
theorem parOne_ok {ps : List ByteArray} {k : Nat} (hk : k < ps.length) (h32 : (par ps k).size = 32) (h : ∀ j, j < k → par ps j ≠ par ps k) : parOne ps k = true := by
  have : Lib.containsS (ps.take k) (par ps k) = false := by
    cases hc : Lib.containsS (ps.take k) (par ps k) with
    | false => rfl
    | true =>
      obtain ⟨i, hi, he⟩ := List.mem_iff_getElem.1 ((Lib.containsS_iff _ _).1 hc)
      simp only [List.length_take] at hi
      rw [List.getElem_take] at he
      exact absurd (by rw [par_get (by omega)]; exact he) (h i (by omega))
  unfold parOne; rw [this, h32]; rfl

set_option maxRecDepth 100000 in
set_option maxHeartbeats 2000000 in
theorem rightCommit_calls (C : Com) (A : Option Addr) (c : Nat) (w : World) (hA : Cells w A (C.pars.map .string)) (hc : C.pars.length ≤ 100000000) :
    Calls Tryz.prog 50 #[.agg (comC C A c)] w fun e w' => e = .returned (.bool (rightCommit C)) ∧ Mod (fun _ => False) w w' := by
  have hX := Has.new w (comC C A c).toList 64
  have hM0 := (Mod.refl (fun _ => False) w).alloc (.cells (comC C A c) 64)
  have hRC : rightCommit C = (decide (C.tree.size = 32) && inR (C.pars.length : Int) 0 8 && inR (C.who.size : Int) 0 64 && inR (C.note.size : Int) 0 1024 && inR C.time 0 4611686018427387904 && parOk C.pars C.pars.length) := rfl
  have hPA := fun k => @rightCommit_par C k
  have hI := isId_calls C.tree
  obtain ⟨tree, pars, who, time, note⟩ := C
  unfold comC at *
  dsimp only at *
  generalize rightCommit ⟨tree, pars, who, time, note⟩ = RC at *
  obtain ⟨bt, hbt⟩ : ∃ bt, decide (tree.size = 32) = bt := ⟨_, rfl⟩
  rw [hbt] at hI hRC
  have x0 := hX.cell (o := 0) rfl
  have HX := Lib.hid hX
  have HM0 := Lib.hid hM0
  have HI := Lib.hid hI
  have HRC := Lib.hid hRC
  have HPA := Lib.hid hPA
  have HA := Lib.hid hA
  clear hX hM0 hI hRC hPA hA hbt
  go_enter Tryz.func50, Tryz.ntmps50
  go_wp2_with fail
  refine (HI.out _).mono ?_
  rintro e w1 ⟨rfl, hm1⟩
  have hX1 := HX.out.keep hm1 (fun h => h)
  have x1 := hX1.cell (o := 1) rfl
  have x2 := hX1.cell (o := 2) rfl
  have x3 := hX1.cell (o := 3) rfl
  have x4 := hX1.cell (o := 4) rfl
  have HX1 := Lib.hid hX1
  have HM1 := Lib.hid (Mod.trans HM0.out hm1 (fun _ _ h => h))
  clear hm1 hX1 x0
  cases bt with
  | false =>
    have HF : RC = false := by rw [HRC.out]; rfl
    have HF2 := Lib.hid HF
    clear HF
    go_wp2_with fail
    go_ret
    exact ⟨by rw [HF2.out]; rfl, HM1.out⟩
  | true =>
  by_cases b1 : 8 < (pars.length : Int)
  · have HF : RC = false := by rw [HRC.out, inR_no (.inr b1)]; simp
    have HF2 := Lib.hid HF
    clear HF
    go_wp2_with fail
    go_ret
    exact ⟨by rw [HF2.out]; rfl, HM1.out⟩
  by_cases b2 : 64 < (who.size : Int)
  · have HF : RC = false := by rw [HRC.out, inR_no (n := (who.size : Int)) (.inr b2)]; simp
    have HF2 := Lib.hid HF
    clear HF
    go_wp2_with fail
    go_ret
    exact ⟨by rw [HF2.out]; rfl, HM1.out⟩
  by_cases b3 : 1024 < (note.size : Int)
  · have HF : RC = false := by rw [HRC.out, inR_no (n := (note.size : Int)) (.inr b3)]; simp
    have HF2 := Lib.hid HF
    clear HF
    go_wp2_with fail
    go_ret
    exact ⟨by rw [HF2.out]; rfl, HM1.out⟩
  by_cases b4 : time < 0
  · have HF : RC = false := by rw [HRC.out, inR_no (n := time) (.inl b4)]; simp
    have HF2 := Lib.hid HF
    clear HF
    go_wp2_with fail
    go_ret
    exact ⟨by rw [HF2.out]; rfl, HM1.out⟩
  by_cases b5 : 4611686018427387904 < time
  · have HF : RC = false := by rw [HRC.out, inR_no (n := time) (.inr b5)]; simp
    have HF2 := Lib.hid HF
    clear HF
    go_wp2_with fail
    go_ret
    exact ⟨by rw [HF2.out]; rfl, HM1.out⟩
  have HR2 : Hid (RC = parOk pars pars.length) := Lib.hid (by
    have e1 : inR (pars.length : Int) 0 8 = true := by simp [inR]; omega
    have e2 : inR (who.size : Int) 0 64 = true := by simp [inR]; omega
    have e3 : inR (note.size : Int) 0 1024 = true := by simp [inR]; omega
    have e4 : inR time 0 4611686018427387904 = true := by simp [inR]; omega
    rw [HRC.out, e1, e2, e3, e4]; rfl)
  go_wp2_with fail
  clear x1 x2 x3 x4 HRC
  go_loopw [4] (fun i wr => ∃ (k : Nat), i = .int .i64 k ∧ k ≤ pars.length ∧ Hid (parOk pars k = true) ∧ Hid (Mod (fun _ => False) w wr) ∧ Hid (Has wr w.heap.size [.string tree, .slice A pars.length c, .string who, .int .i64 time, .string note] 64)) (fun i _ => pars.length - (intOf i).toNat)
  case atStart => exact ⟨0, by go_num, by omega, Lib.hid rfl, HM1, HX1⟩
  case round =>
    obtain ⟨k, rfl, hk, HO, HM, HX⟩ := hrel
    have x1 := HX.out.cell (o := 1) rfl
    by_cases hlt : k < pars.length
    · have i1 : (k : Int) < (pars.length : Int) := by omega
      have i0 : (0 : Int) ≤ (k : Int) := by omega
      rcases HA.out.keep HM.out (fun _ _ h => h) with h | ⟨ba, o, rfl, hcell⟩
      · have : pars = [] := by simpa using h
        subst this; simp at hlt
      have y0 := str_cell hcell k hlt
      rw [← par_get hlt] at y0
      have hI := isId_calls (par pars k)
      obtain ⟨bi, hbi⟩ : ∃ bi, decide ((par pars k).size = 32) = bi := ⟨_, rfl⟩
      rw [hbi] at hI
      have HI := Lib.hid hI
      have HBI := Lib.hid hbi
      obtain ⟨p, hp⟩ : ∃ p, par pars k = p := ⟨_, rfl⟩
      rw [hp] at HI y0
      have HP := Lib.hid hp
      clear hI hbi hcell hp
      go_wp2_with fail
      refine (HI.out _).mono ?_
      rintro e w2 ⟨rfl, hm2⟩
      have HX2 := Lib.hid (HX.out.keep hm2 (fun h => h))
      have HM2 := Lib.hid (Mod.trans HM.out hm2 (fun _ _ h => h))
      clear hm2 x1 y0
      cases bi with
      | false =>
        have HF : RC = false := HPA.out k hlt (by unfold parOne; rw [HBI.out]; rfl)
        have HF2 := Lib.hid HF
        clear HF
        go_wp2_with fail
        go_ret
        exact ⟨by rw [HF2.out]; rfl, HM2.out⟩
      | true =>
        go_wp2_with fail
        go_loopw [6] (fun j wr => ∃ (m : Nat), j = .int .i64 m ∧ m ≤ k ∧ Hid (∀ j, j < m → par pars j ≠ p) ∧ Hid (Mod (fun _ => False) w wr) ∧ Hid (Has wr w.heap.size [.string tree, .slice (some ⟨ba, o, none⟩) pars.length c, .string who, .int .i64 time, .string note] 64)) (fun j _ => k - (intOf j).toNat)
        case atStart => exact ⟨0, by go_num, by omega, Lib.hid (fun j hj => absurd hj (by omega)), HM2, HX2⟩
        case round =>
          obtain ⟨m, rfl, hm, HN, HM, HX⟩ := hrel
          have x1 := HX.out.cell (o := 1) rfl
          by_cases hlm : m < k
          · have m1 : (m : Int) < (k : Int) := by omega
            have m2 : (m : Int) < (pars.length : Int) := by omega
            have m0 : (0 : Int) ≤ (m : Int) := by omega
            rcases HA.out.keep HM.out (fun _ _ h => h) with h | ⟨ba', o', he, hcell⟩
            · have : pars = [] := by simpa using h
              subst this; simp at hlt
            obtain ⟨rfl, rfl⟩ : ba = ba' ∧ o = o' := by simpa using he
            have y0 := str_cell hcell k hlt
            have y1 := str_cell hcell m (by omega)
            rw [← par_get hlt, HP.out] at y0
            rw [← par_get (by omega)] at y1
            obtain ⟨q, hq⟩ : ∃ q, par pars m = q := ⟨_, rfl⟩
            rw [hq] at y1
            have HQ := Lib.hid hq
            clear hcell he hq
            by_cases hpq : q = p
            · have heq : (q.toList == p.toList) = true := (Lib.bytes_beq_iff _ _).2 hpq
              have HF : RC = false := HPA.out k hlt (parOne_dup hlm hlt (by rw [HQ.out, HP.out, hpq]))
              have HF2 := Lib.hid HF
              clear HF hpq
              go_wp2_with fail
              go_quiet (fail)
              go_wp2_with fail
              go_ret
              exact ⟨by rw [HF2.out]; rfl, HM.out.drewN _⟩
            · have heq : (q.toList == p.toList) = false := (Lib.bytes_beq_false_iff _ _).2 hpq
              have hn2 : ∀ j, j < m + 1 → par pars j ≠ p := fun j hj => by
                by_cases e : j = m
                · subst e; rw [HQ.out]; exact hpq
                · exact HN.out j (by omega)
              have HN2 := Lib.hid hn2
              clear hn2 hpq
              go_wp2_with fail
              go_quiet (fail)
              go_wp2_with fail
              go_roundw
              case rel => exact ⟨m + 1, by go_num, by omega, HN2, Lib.hid (HM.out.drewN _), Lib.hid (HX.out.drewN _)⟩
              case measure => simp [intOf]; omega
          · have m1 : ¬ (m : Int) < (k : Int) := by omega
            have hmk : m = k := by omega
            have ho : parOk pars (k + 1) = true := by
              rw [parOk_succ, HO.out, parOne_ok hlt (by rw [HP.out]; have := HBI.out; rw [HP.out] at this; simpa using this) (fun j hj => by rw [HP.out]; exact HN.out j (by omega))]; rfl
            have HO2 := Lib.hid ho
            clear ho hmk
            go_wp2_with fail
            go_roundw
            case rel => exact ⟨k + 1, by go_num, by omega, HO2, HM, HX⟩
            case measure => simp [intOf]; omega
    · have hkl : k = pars.length := by omega
      have i1 : ¬ (k : Int) < (pars.length : Int) := by omega
      have hr : RC = true := by rw [HR2.out, ← hkl]; exact HO.out
      have HR := Lib.hid hr
      clear hr hkl
      go_wp2_with fail
      go_ret
      exact ⟨by rw [HR.out]; rfl, HM.out⟩
end Obj
end Go.Proofs.YtenamjldkaggcaaGreatDoor
/- The walk of the reference's Commit. -/
namespace Go.Proofs.YtenamjldkaggcaaGreatDoor
set_option linter.unusedVariables false
set_option linter.unusedSimpArgs false
open Go.RowKit K Wire
namespace Obj

def comH (C : Com) : List UInt8 := 75 :: (C.tree.data.toList ++ enc (C.pars.length : Int))
def comP (C : Com) (k : Nat) : List UInt8 := comH C ++ (C.pars.take k).flatMap parB
theorem comP_full (C : Com) : comP C C.pars.length ++ encT C.who.data.toList ++ enc C.time ++ encT C.note.data.toList = commitB C := by
  simp [comP, comH, commitB]
theorem comP_len (C : Com) (k : Nat) : (comP C k).length + (encT C.who.data.toList).length + (enc C.time).length + (encT C.note.data.toList).length ≤ (commitB C).length := by
  have h2 := flatMap_take parB C.pars k
  simp only [commitB, comP, comH, List.length_append, List.length_cons]
  omega
theorem com_sizes (C : Com) (hl : (commitB C).length ≤ 100000000) : (∀ p ∈ C.pars, p.size ≤ 100000000) ∧ C.tree.size ≤ 100000000 ∧ C.who.size ≤ 100000000 ∧ C.note.size ≤ 100000000 := by
  have e1 := encT_least C.who
  have e2 := encT_least C.note
  have e3 : C.tree.data.toList.length = C.tree.size := by simp
  have h0 := hl
  simp only [commitB, List.length_append, List.length_cons] at h0
  refine ⟨fun p hp => ?_, by omega, by omega, by omega⟩
  have h2 := flatMap_least parB p C.pars hp
  have e : p.data.toList.length = p.size := by simp
  simp only [parB] at h2
  omega
end Obj
end Go.Proofs.YtenamjldkaggcaaGreatDoor
/- The walk of the reference's TakeCommit. -/
namespace Go.Proofs.YtenamjldkaggcaaGreatDoor
set_option linter.unusedVariables false
set_option linter.unusedSimpArgs false
open Go.RowKit K Wire
namespace Obj

theorem Rg.store {w0 : World} {b g T : Nat} {L : List UInt8} {x : RR} {w : World} {cs : List Value} (h : Rg w0 b L x w) (hg : Has w g cs T) (hT : T ≠ 5) (hb : g ≠ b) (hz : w0.heap.size ≤ g) (o : Nat) (u : Value) : Rg w0 b L x (w.setCell ⟨g, o, none⟩ u) :=
  h.keep ((Mod.refl (fun k => k = g) w).set1 rfl o u) (fun h => hb h.symm) (fun k ⟨cur, fz, hk⟩ hs => has_ne hg ⟨cur, fz, by rw [← hs]; exact hk⟩ hT rfl) (fun k hk hs => by omega)
theorem Rg.appended {w0 : World} {b base e size n : Nat} {L : List UInt8} {x : RR} {w w' : World} {v : Value} {xs : List Value} (h : Rg w0 b L x w) (hv : w.ownsRow base e size v n xs) (he : e ≠ 5) (he2 : 91 ≠ e) (hz : w0.heap.size ≤ base) (hm : Mod (fun k => base ≤ k ∧ v.ownBlock = some k) w w') : Rg w0 b L x w' := by
  obtain ⟨A, c, hA⟩ := h.ex
  exact h.keep hm (fun hs => has_ne hA.has (own_row hv hs.2) he2 rfl) (fun k hk hs => byteRow_ne hk (own_row hv hs.2) he) (fun k hk hs => by omega)

def gPar (L : List UInt8) (x : RR) : ByteArray × RR := (⟨(gId L x).1.toArray⟩, (gId L x).2)
def gTree (L : List UInt8) : ByteArray := ⟨(gId L ⟨begunBad L 0x4b, 1⟩).1.toArray⟩
def gCP (L : List UInt8) : RR × List ByteArray := gList (gPar L) (gCount L 8 (gId L ⟨begunBad L 0x4b, 1⟩).2).1.toNat (gCount L 8 (gId L ⟨begunBad L 0x4b, 1⟩).2).2 []
def gWho (L : List UInt8) : List UInt8 × RR := gText L 64 (gCP L).1
def gTime (L : List UInt8) : Int × RR := gInt L (gWho L).2
def gNote (L : List UInt8) : List UInt8 × RR := gText L 1024 (gTime L).2
def gCom (L : List UInt8) : Com := ⟨gTree L, (gCP L).2, ⟨(gWho L).1.toArray⟩, (gTime L).1, ⟨(gNote L).1.toArray⟩⟩
def gokCommit (L : List UInt8) : Bool := gEnds L (gNote L).2 && rightCommit (gCom L)
def goutCommit (L : List UInt8) : Com := if gokCommit L = true then gCom L else com0

set_option maxRecDepth 100000 in
set_option maxHeartbeats 8000000 in
theorem rTakeCommit_calls (s : ByteArray) (w : World) (hs : s.size ≤ 100000000) :
    Calls Tryz.prog 20 #[.string s] w fun e w' => ∃ v, e = .returned (.tuple #[.agg (comV (goutCommit s.data.toList) v), errV (gokCommit s.data.toList)]) ∧ w'.ownsRow w.heap.size 9 1 v (goutCommit s.data.toList).pars.length ((goutCommit s.data.toList).pars.map .string) ∧ Mod (fun _ => False) w w' := by
  have hL : s.data.toList.length ≤ 100000000 := by simpa using hs
  have H0 := Lib.hid (begun_calls s 75 (w.alloc (.cells #[.string ⟨#[]⟩, .slice none 0 0, .string ⟨#[]⟩, .int .i64 0, .string ⟨#[]⟩] 64)) hs)
  clear hs
  generalize s.data.toList = L at *
  obtain ⟨OC, hOC⟩ : ∃ OC, goutCommit L = OC := ⟨_, rfl⟩
  rw [hOC]
  have HOC1 : Hid (gokCommit L = true → OC = gCom L) := Lib.hid (fun h => by rw [← hOC]; unfold goutCommit; rw [if_pos h])
  have HOC2 : Hid (gokCommit L = false → OC = com0) := Lib.hid (fun h => by rw [← hOC]; unfold goutCommit; rw [if_neg (by rw [h]; decide)])
  clear hOC
  go_enter Tryz.func20, Tryz.ntmps20
  go_wp2_with fail
  refine H0.out.mono ?_
  rintro e w1 ⟨b, rfl, h1⟩
  have hR := Has.new w [.string ⟨#[]⟩, .slice none 0 0, .string ⟨#[]⟩, .int .i64 0, .string ⟨#[]⟩] 64
  have hM0 := (Mod.refl (fun _ => False) w).alloc (.cells #[.string ⟨#[]⟩, .slice none 0 0, .string ⟨#[]⟩, .int .i64 0, .string ⟨#[]⟩] 64)
  have hsz : w.heap.size + 1 = (w.alloc (.cells #[.string ⟨#[]⟩, .slice none 0 0, .string ⟨#[]⟩, .int .i64 0, .string ⟨#[]⟩] 64)).heap.size := by simp
  clear H0
  generalize w.alloc (.cells #[.string ⟨#[]⟩, .slice none 0 0, .string ⟨#[]⟩, .int .i64 0, .string ⟨#[]⟩] 64) = w0 at *
  have HR0 := Lib.hid hR
  have HM0 := Lib.hid hM0
  have HSZ := Lib.hid hsz
  have H1 := Lib.hid h1
  clear h1 hR hM0 hsz
  go_wp2_with fail
  refine (gId_calls H1.out hL).mono ?_
  rintro e w2 ⟨rfl, h2, _⟩
  have hdef : gCP L = gList (gPar L) (gCount L 8 (gId L ⟨begunBad L 0x4b, 1⟩).2).1.toNat (gCount L 8 (gId L ⟨begunBad L 0x4b, 1⟩).2).2 [] := rfl
  have htr : (⟨(gId L ⟨begunBad L 0x4b, 1⟩).1.toArray⟩ : ByteArray) = gTree L := rfl
  rw [htr]
  generalize (gId L ⟨begunBad L 0x4b, 1⟩).2 = xa at *
  have HDEF := Lib.hid hdef
  have H2 := Lib.hid h2
  clear hdef h2 H1 htr
  go_wp2_with fail
  refine (gCount_calls (H2.out.alloc _) 8 hL).mono ?_
  rintro e w3 ⟨rfl, h3, hm3⟩
  have hgb : w2.heap.size ≠ b := by
    obtain ⟨A, c, hA⟩ := H2.out.ex
    have := hA.has.lt; omega
  have HGB := Lib.hid hgb
  have HGZ := Lib.hid H2.out.mod.size
  have hG3 := (Has.new w2 [.string (gTree L), .slice none 0 0, .string ⟨#[]⟩, .int .i64 0, .string ⟨#[]⟩] 64).keep hm3 hgb
  have HG3 := Lib.hid hG3
  have hin := gCount_in L 8 xa (by omega)
  generalize (gCount L 8 xa).1 = n at *
  generalize (gCount L 8 xa).2 = x1 at *
  have H3 := Lib.hid h3
  have hv0 : w3.ownsRow w0.heap.size 9 1 (.slice none 0 0) ([] : List ByteArray).length (([] : List ByteArray).map Value.string) := World.ownsRow_nil _ _ _ _
  have HV0 := Lib.hid hv0
  clear hv0 h3 hm3 hgb hG3 H2
  go_wp2_with fail
  go_loopw [7] (fun m wr => ∃ (z : Int) (x : RR) (l : List ByteArray) (v : Value), m = .int .i64 z ∧ (0 ≤ z ∧ z ≤ n) ∧ (l.length : Int) = z ∧
    Hid (gCP L = gList (gPar L) (n - z).toNat x l) ∧ Hid (Rg w0 b L x wr) ∧ Hid (wr.ownsRow w0.heap.size 9 1 v l.length (l.map .string)) ∧ Hid (Has wr w2.heap.size [.string (gTree L), v, .string ⟨#[]⟩, .int .i64 0, .string ⟨#[]⟩] 64)) (fun m _ => (n - intOf m).toNat)
  case atStart =>
    exact ⟨0, x1, [], .slice none 0 0, by go_num, ⟨by omega, by omega⟩, rfl, by rw [Int.sub_zero]; exact HDEF, H3, HV0, HG3⟩
  case round =>
    obtain ⟨z, x, l, v, rfl, hz, hx, HD, HR, HV, HG⟩ := hrel
    have c1 := HR.out.bad
    have hn8 : n ≤ 8 := hin.2
    have hl8 : l.length ≤ 8 := by omega
    by_cases hb : x.bad = true
    · rw [hb] at c1
      by_cases i1 : z < n
      ·
        have HSTOP : (n - z).toNat = 0 ∨ x.bad = true := .inr hb
        clear hb
        have HD2 := Lib.hid (show gCP L = (x, l) by rw [HD.out]; exact gList_stop _ _ _ _ HSTOP)
        clear hx HD
        obtain ⟨A, cp, rfl, _, hcl, _, _⟩ := own_cells HV.out
        clear hcl
        go_wp2_with fail
        refine (gText_calls HR.out 64 hL).mono ?_
        rintro e w3 ⟨rfl, h3, hm3⟩
        have hV3 := own_keep HV.out hm3 (fun k _ hk hkb => by
          obtain ⟨A, c, hA⟩ := HR.out.ex
          exact has_ne hA.has (own_row HV.out hk) (by decide) hkb)
        have hG3 := HG.out.keep hm3 HGB.out
        have g2 := hG3.cell (o := 2) rfl
        have f2 := hG3.frozen 2
        have e1 : (⟨(gText L 64 x).1.toArray⟩ : ByteArray) = (gCom L).who := by unfold gCom gWho; rw [HD2.out]
        have e2 : (gText L 64 x).2 = (gWho L).2 := by unfold gWho; rw [HD2.out]
        rw [e1]
        rw [e2] at h3
        have H3 := Lib.hid (h3.store hG3 (by decide) HGB.out HGZ.out 2 (.string (gCom L).who))
        have HV3 := Lib.hid (own_store hV3 hG3 (by decide) 2 (.string (gCom L).who))
        have HG3 := Lib.hid (hG3.set 2 (.string (gCom L).who))
        clear h3 hm3 hV3 hG3 e1 e2
        go_wp2_with fail
        refine (gInt_calls H3.out hL).mono ?_
        rintro e w4 ⟨rfl, h4, hm4⟩
        have hV4 := own_keep HV3.out hm4 (fun k _ hk hkb => by
          obtain ⟨A, c, hA⟩ := H3.out.ex
          exact has_ne hA.has (own_row HV3.out hk) (by decide) hkb)
        have hG4 := HG3.out.keep hm4 HGB.out
        have g2 := hG4.cell (o := 3) rfl
        have f2 := hG4.frozen 3
        have e1 : (gInt L (gWho L).2).1 = (gCom L).time := rfl
        have e2 : (gInt L (gWho L).2).2 = (gTime L).2 := rfl
        rw [e1]
        rw [e2] at h4
        have H4 := Lib.hid (h4.store hG4 (by decide) HGB.out HGZ.out 3 (.int .i64 (gCom L).time))
        have HV4 := Lib.hid (own_store hV4 hG4 (by decide) 3 (.int .i64 (gCom L).time))
        have HG4 := Lib.hid (hG4.set 3 (.int .i64 (gCom L).time))
        clear h4 hm4 hV4 hG4 e1 e2 H3 HV3 HG3
        go_wp2_with fail
        refine (gText_calls H4.out 1024 hL).mono ?_
        rintro e w5 ⟨rfl, h5, hm5⟩
        have hV5 := own_keep HV4.out hm5 (fun k _ hk hkb => by
          obtain ⟨A, c, hA⟩ := H4.out.ex
          exact has_ne hA.has (own_row HV4.out hk) (by decide) hkb)
        have hG5 := HG4.out.keep hm5 HGB.out
        have g2 := hG5.cell (o := 4) rfl
        have f2 := hG5.frozen 4
        have e1 : (⟨(gText L 1024 (gTime L).2).1.toArray⟩ : ByteArray) = (gCom L).note := rfl
        have e2 : (gText L 1024 (gTime L).2).2 = (gNote L).2 := rfl
        rw [e1]
        rw [e2] at h5
        have H5 := Lib.hid (h5.store hG5 (by decide) HGB.out HGZ.out 4 (.string (gCom L).note))
        have HV5 := Lib.hid (own_store hV5 hG5 (by decide) 4 (.string (gCom L).note))
        have HG5 := Lib.hid (hG5.set 4 (.string (gCom L).note))
        clear h5 hm5 hV5 hG5 e1 e2 H4 HV4 HG4
        have EP := Lib.hid (show (gCom L).pars = l by unfold gCom; rw [HD2.out])
        have ET := Lib.hid (show (gCom L).tree = gTree L from rfl)
        go_wp2_with fail
        refine (gEnds_calls H5.out hL).mono ?_
        rintro e w6 ⟨rfl, hm6⟩
        have hG6 := HG5.out.keep hm6 (fun h => h)
        have hV6 := own_keep HV5.out hm6 (fun _ _ _ h => h)
        have x0 := hG6.cell (o := 0) rfl
        have x1 := hG6.cell (o := 1) rfl
        have x2 := hG6.cell (o := 2) rfl
        have x3 := hG6.cell (o := 3) rfl
        have x4 := hG6.cell (o := 4) rfl
        obtain ⟨A', cp', he, _, hcl, _, _⟩ := own_cells hV6
        obtain ⟨rfl, rfl⟩ : A = A' ∧ cp = cp' := by simpa using he
        have hRC := rightCommit_calls (gCom L) A cp w6 (by rw [EP.out]; exact hcl) (by rw [EP.out]; omega)
        unfold comC at hRC
        rw [ET.out, EP.out] at hRC
        have hokk : gokCommit L = (gEnds L (gNote L).2 && rightCommit (gCom L)) := rfl
        obtain ⟨en, hen⟩ : ∃ en, gEnds L (gNote L).2 = en := ⟨_, rfl⟩
        obtain ⟨rt, hrt⟩ : ∃ rt, rightCommit (gCom L) = rt := ⟨_, rfl⟩
        rw [hen, hrt] at hokk
        rw [hen]
        rw [hrt] at hRC
        have HRC := Lib.hid hRC
        have HOK := Lib.hid hokk
        have HG6 := Lib.hid hG6
        have HV6 := Lib.hid hV6
        have HM6 := Lib.hid (Mod.trans H5.out.mod hm6 (fun _ _ h => h))
        generalize gCom L = RC at *
        clear hm6 hG6 hV6 he hcl hRC hokk hen hrt HV5 HG5
        go_wp2_with fail
        refine HRC.out.mono ?_
        rintro e w7 ⟨rfl, hm7⟩
        have HV7 := Lib.hid (own_keep HV6.out hm7 (fun _ _ _ h => h))
        have hG7 := HG6.out.keep hm7 (fun h => h)
        have z0 := hG7.cell (o := 0) rfl
        have z1 := hG7.cell (o := 1) rfl
        have z2 := hG7.cell (o := 2) rfl
        have z3 := hG7.cell (o := 3) rfl
        have z4 := hG7.cell (o := 4) rfl
        have hM7 := Mod.trans HM6.out hm7 (fun _ _ h => h)
        have hR7 := HR0.out.keep hM7 (fun h => h)
        have k0 := hR7.frozen 0
        have k1 := hR7.frozen 1
        have k2 := hR7.frozen 2
        have k3 := hR7.frozen 3
        have k4 := hR7.frozen 4
        have q0 := hR7.cell (o := 0) rfl
        have q1 := hR7.cell (o := 1) rfl
        have q2 := hR7.cell (o := 2) rfl
        have q3 := hR7.cell (o := 3) rfl
        have q4 := hR7.cell (o := 4) rfl
        have HM7 := Lib.hid (Mod.trans HM0.out hM7 (fun _ _ h => h))
        clear hm7 hM7 hR7 hG7 x0 x1 x2 x3 x4
        cases en with
        | true =>
          cases rt with
          | true =>
            have hok : gokCommit L = true := HOK.out
            have HOK := Lib.hid hok
            clear hok
            go_wp2_with fail
            refine bodyPost_ret (v := .tuple #[.agg #[.string (gTree L), .slice A l.length cp, .string RC.who, .int .i64 RC.time, .string RC.note], .int .i64 0]) (by simp [results, Tryz.results20, go_sem, q0, q1, q2, q3, q4]) rfl ⟨.slice A l.length cp, by rw [HOC1.out HOK.out, ← ET.out, HOK.out]; rfl, ?_, ?_⟩
            · rw [HOC1.out HOK.out, EP.out]
              exact own_base (own_keep (S := fun k => k = w.heap.size) HV7.out (mod_set5 (S := fun k => k = w.heap.size) (Mod.refl _ _) (.inl rfl) _ _ _ _ _) (fun k hk _ h => by have := HSZ.out; omega)) (by have := HSZ.out; omega)
            · exact mod_set5 HM7.out (.inr (Nat.le_refl _)) _ _ _ _ _
          | false =>
            have hok : gokCommit L = false := HOK.out
            have HOK := Lib.hid hok
            clear hok
            go_wp2_with fail
            refine bodyPost_ret (v := .tuple #[.agg #[.string ⟨#[]⟩, .slice none 0 0, .string ⟨#[]⟩, .int .i64 0, .string ⟨#[]⟩], .int .i64 81]) (by simp [results, Tryz.results20, go_sem, q0, q1, q2, q3, q4]) rfl ⟨.slice none 0 0, by rw [HOC2.out HOK.out, HOK.out]; rfl, ?_, ?_⟩
            · rw [HOC2.out HOK.out]
              exact World.ownsRow_nil _ _ _ _
            · exact mod_set5 HM7.out (.inr (Nat.le_refl _)) _ _ _ _ _
        | false =>
          have hok : gokCommit L = false := HOK.out
          have HOK := Lib.hid hok
          clear hok
          go_wp2_with fail
          refine bodyPost_ret (v := .tuple #[.agg #[.string ⟨#[]⟩, .slice none 0 0, .string ⟨#[]⟩, .int .i64 0, .string ⟨#[]⟩], .int .i64 81]) (by simp [results, Tryz.results20, go_sem, q0, q1, q2, q3, q4]) rfl ⟨.slice none 0 0, by rw [HOC2.out HOK.out, HOK.out]; rfl, ?_, ?_⟩
          · rw [HOC2.out HOK.out]
            exact World.ownsRow_nil _ _ _ _
          · exact mod_set5 HM7.out (.inr (Nat.le_refl _)) _ _ _ _ _
      ·
        have HSTOP : (n - z).toNat = 0 ∨ x.bad = true := .inr hb
        clear hb
        have HD2 := Lib.hid (show gCP L = (x, l) by rw [HD.out]; exact gList_stop _ _ _ _ HSTOP)
        clear hx HD
        obtain ⟨A, cp, rfl, _, hcl, _, _⟩ := own_cells HV.out
        clear hcl
        go_wp2_with fail
        refine (gText_calls HR.out 64 hL).mono ?_
        rintro e w3 ⟨rfl, h3, hm3⟩
        have hV3 := own_keep HV.out hm3 (fun k _ hk hkb => by
          obtain ⟨A, c, hA⟩ := HR.out.ex
          exact has_ne hA.has (own_row HV.out hk) (by decide) hkb)
        have hG3 := HG.out.keep hm3 HGB.out
        have g2 := hG3.cell (o := 2) rfl
        have f2 := hG3.frozen 2
        have e1 : (⟨(gText L 64 x).1.toArray⟩ : ByteArray) = (gCom L).who := by unfold gCom gWho; rw [HD2.out]
        have e2 : (gText L 64 x).2 = (gWho L).2 := by unfold gWho; rw [HD2.out]
        rw [e1]
        rw [e2] at h3
        have H3 := Lib.hid (h3.store hG3 (by decide) HGB.out HGZ.out 2 (.string (gCom L).who))
        have HV3 := Lib.hid (own_store hV3 hG3 (by decide) 2 (.string (gCom L).who))
        have HG3 := Lib.hid (hG3.set 2 (.string (gCom L).who))
        clear h3 hm3 hV3 hG3 e1 e2
        go_wp2_with fail
        refine (gInt_calls H3.out hL).mono ?_
        rintro e w4 ⟨rfl, h4, hm4⟩
        have hV4 := own_keep HV3.out hm4 (fun k _ hk hkb => by
          obtain ⟨A, c, hA⟩ := H3.out.ex
          exact has_ne hA.has (own_row HV3.out hk) (by decide) hkb)
        have hG4 := HG3.out.keep hm4 HGB.out
        have g2 := hG4.cell (o := 3) rfl
        have f2 := hG4.frozen 3
        have e1 : (gInt L (gWho L).2).1 = (gCom L).time := rfl
        have e2 : (gInt L (gWho L).2).2 = (gTime L).2 := rfl
        rw [e1]
        rw [e2] at h4
        have H4 := Lib.hid (h4.store hG4 (by decide) HGB.out HGZ.out 3 (.int .i64 (gCom L).time))
        have HV4 := Lib.hid (own_store hV4 hG4 (by decide) 3 (.int .i64 (gCom L).time))
        have HG4 := Lib.hid (hG4.set 3 (.int .i64 (gCom L).time))
        clear h4 hm4 hV4 hG4 e1 e2 H3 HV3 HG3
        go_wp2_with fail
        refine (gText_calls H4.out 1024 hL).mono ?_
        rintro e w5 ⟨rfl, h5, hm5⟩
        have hV5 := own_keep HV4.out hm5 (fun k _ hk hkb => by
          obtain ⟨A, c, hA⟩ := H4.out.ex
          exact has_ne hA.has (own_row HV4.out hk) (by decide) hkb)
        have hG5 := HG4.out.keep hm5 HGB.out
        have g2 := hG5.cell (o := 4) rfl
        have f2 := hG5.frozen 4
        have e1 : (⟨(gText L 1024 (gTime L).2).1.toArray⟩ : ByteArray) = (gCom L).note := rfl
        have e2 : (gText L 1024 (gTime L).2).2 = (gNote L).2 := rfl
        rw [e1]
        rw [e2] at h5
        have H5 := Lib.hid (h5.store hG5 (by decide) HGB.out HGZ.out 4 (.string (gCom L).note))
        have HV5 := Lib.hid (own_store hV5 hG5 (by decide) 4 (.string (gCom L).note))
        have HG5 := Lib.hid (hG5.set 4 (.string (gCom L).note))
        clear h5 hm5 hV5 hG5 e1 e2 H4 HV4 HG4
        have EP := Lib.hid (show (gCom L).pars = l by unfold gCom; rw [HD2.out])
        have ET := Lib.hid (show (gCom L).tree = gTree L from rfl)
        go_wp2_with fail
        refine (gEnds_calls H5.out hL).mono ?_
        rintro e w6 ⟨rfl, hm6⟩
        have hG6 := HG5.out.keep hm6 (fun h => h)
        have hV6 := own_keep HV5.out hm6 (fun _ _ _ h => h)
        have x0 := hG6.cell (o := 0) rfl
        have x1 := hG6.cell (o := 1) rfl
        have x2 := hG6.cell (o := 2) rfl
        have x3 := hG6.cell (o := 3) rfl
        have x4 := hG6.cell (o := 4) rfl
        obtain ⟨A', cp', he, _, hcl, _, _⟩ := own_cells hV6
        obtain ⟨rfl, rfl⟩ : A = A' ∧ cp = cp' := by simpa using he
        have hRC := rightCommit_calls (gCom L) A cp w6 (by rw [EP.out]; exact hcl) (by rw [EP.out]; omega)
        unfold comC at hRC
        rw [ET.out, EP.out] at hRC
        have hokk : gokCommit L = (gEnds L (gNote L).2 && rightCommit (gCom L)) := rfl
        obtain ⟨en, hen⟩ : ∃ en, gEnds L (gNote L).2 = en := ⟨_, rfl⟩
        obtain ⟨rt, hrt⟩ : ∃ rt, rightCommit (gCom L) = rt := ⟨_, rfl⟩
        rw [hen, hrt] at hokk
        rw [hen]
        rw [hrt] at hRC
        have HRC := Lib.hid hRC
        have HOK := Lib.hid hokk
        have HG6 := Lib.hid hG6
        have HV6 := Lib.hid hV6
        have HM6 := Lib.hid (Mod.trans H5.out.mod hm6 (fun _ _ h => h))
        generalize gCom L = RC at *
        clear hm6 hG6 hV6 he hcl hRC hokk hen hrt HV5 HG5
        go_wp2_with fail
        refine HRC.out.mono ?_
        rintro e w7 ⟨rfl, hm7⟩
        have HV7 := Lib.hid (own_keep HV6.out hm7 (fun _ _ _ h => h))
        have hG7 := HG6.out.keep hm7 (fun h => h)
        have z0 := hG7.cell (o := 0) rfl
        have z1 := hG7.cell (o := 1) rfl
        have z2 := hG7.cell (o := 2) rfl
        have z3 := hG7.cell (o := 3) rfl
        have z4 := hG7.cell (o := 4) rfl
        have hM7 := Mod.trans HM6.out hm7 (fun _ _ h => h)
        have hR7 := HR0.out.keep hM7 (fun h => h)
        have k0 := hR7.frozen 0
        have k1 := hR7.frozen 1
        have k2 := hR7.frozen 2
        have k3 := hR7.frozen 3
        have k4 := hR7.frozen 4
        have q0 := hR7.cell (o := 0) rfl
        have q1 := hR7.cell (o := 1) rfl
        have q2 := hR7.cell (o := 2) rfl
        have q3 := hR7.cell (o := 3) rfl
        have q4 := hR7.cell (o := 4) rfl
        have HM7 := Lib.hid (Mod.trans HM0.out hM7 (fun _ _ h => h))
        clear hm7 hM7 hR7 hG7 x0 x1 x2 x3 x4
        cases en with
        | true =>
          cases rt with
          | true =>
            have hok : gokCommit L = true := HOK.out
            have HOK := Lib.hid hok
            clear hok
            go_wp2_with fail
            refine bodyPost_ret (v := .tuple #[.agg #[.string (gTree L), .slice A l.length cp, .string RC.who, .int .i64 RC.time, .string RC.note], .int .i64 0]) (by simp [results, Tryz.results20, go_sem, q0, q1, q2, q3, q4]) rfl ⟨.slice A l.length cp, by rw [HOC1.out HOK.out, ← ET.out, HOK.out]; rfl, ?_, ?_⟩
            · rw [HOC1.out HOK.out, EP.out]
              exact own_base (own_keep (S := fun k => k = w.heap.size) HV7.out (mod_set5 (S := fun k => k = w.heap.size) (Mod.refl _ _) (.inl rfl) _ _ _ _ _) (fun k hk _ h => by have := HSZ.out; omega)) (by have := HSZ.out; omega)
            · exact mod_set5 HM7.out (.inr (Nat.le_refl _)) _ _ _ _ _
          | false =>
            have hok : gokCommit L = false := HOK.out
            have HOK := Lib.hid hok
            clear hok
            go_wp2_with fail
            refine bodyPost_ret (v := .tuple #[.agg #[.string ⟨#[]⟩, .slice none 0 0, .string ⟨#[]⟩, .int .i64 0, .string ⟨#[]⟩], .int .i64 81]) (by simp [results, Tryz.results20, go_sem, q0, q1, q2, q3, q4]) rfl ⟨.slice none 0 0, by rw [HOC2.out HOK.out, HOK.out]; rfl, ?_, ?_⟩
            · rw [HOC2.out HOK.out]
              exact World.ownsRow_nil _ _ _ _
            · exact mod_set5 HM7.out (.inr (Nat.le_refl _)) _ _ _ _ _
        | false =>
          have hok : gokCommit L = false := HOK.out
          have HOK := Lib.hid hok
          clear hok
          go_wp2_with fail
          refine bodyPost_ret (v := .tuple #[.agg #[.string ⟨#[]⟩, .slice none 0 0, .string ⟨#[]⟩, .int .i64 0, .string ⟨#[]⟩], .int .i64 81]) (by simp [results, Tryz.results20, go_sem, q0, q1, q2, q3, q4]) rfl ⟨.slice none 0 0, by rw [HOC2.out HOK.out, HOK.out]; rfl, ?_, ?_⟩
          · rw [HOC2.out HOK.out]
            exact World.ownsRow_nil _ _ _ _
          · exact mod_set5 HM7.out (.inr (Nat.le_refl _)) _ _ _ _ _
    · have hb0 : x.bad = false := by simpa using hb
      rw [hb0] at c1
      by_cases i1 : z < n
      · have hstep : gCP L = gList (gPar L) (n - (z + 1)).toNat (gPar L x).2 (l ++ [(gPar L x).1]) := by
          rw [HD.out, show (n - z).toNat = (n - (z + 1)).toNat + 1 by omega, gList_go _ _ _ _ hb0]
        have HST := Lib.hid hstep
        clear hb hb0 hstep HD
        obtain ⟨A, cp, rfl, _, hcl, _, _⟩ := own_cells HV.out
        clear hcl
        have x1 := HG.out.cell (o := 1) rfl
        have hgl := HG.out.lt
        have fv := fun (w' : World) (h : Mod (SR b (.slice A l.length cp) wr) wr.drew w') => (h.cell (p := ⟨w2.heap.size, 1, none⟩) hgl (not_SR HG.out HGB.out (by decide) HV.out (by decide))).trans x1
        have HRD := Lib.hid (HR.out.newer (Mod.drew (Mod.refl _ _)))
        go_wp2_with fail
        refine region_mS (SR b (.slice A l.length cp) wr) (by kernel_rfl) ?_
        simp only [List.length_cons, List.length_nil, List.replicate]
        refine take0S (v := ?v1) (oi := ?o1) 0 ?hi1 (by kernel_rfl) (by kernel_rfl) (by kernel_rfl) ?hq1 ?hy1 ?_
        case hi1 => (simp only [List.getElem?_toArray, List.getElem?_cons_zero, List.getElem?_cons_succ]; rfl)
        case hq1 => exact fun _ _ _ h => h
        case hy1 => first | (refine ry_notS ?_; rfl) | (refine ry_runS (by rfl) (fun w' hw' => ?_); go_simp; try rfl)
        simp only [Act.put, List.setIfInBounds_toArray, List.set_cons_zero, List.set_cons_succ]
        refine take0S (v := ?v2) (oi := ?o2) 1 ?hi2 (by kernel_rfl) (by kernel_rfl) (by kernel_rfl) ?hq2 ?hy2 ?_
        case hi2 => (simp only [List.getElem?_toArray, List.getElem?_cons_zero, List.getElem?_cons_succ]; rfl)
        case hq2 => exact fun _ _ _ h => h
        case hy2 => first | (refine ry_notS ?_; rfl) | (refine ry_runS (by rfl) (fun w' hw' => ?_); go_simp; try rfl)
        simp only [Act.put, List.setIfInBounds_toArray, List.set_cons_zero, List.set_cons_succ]
        refine take0S (v := ?v3) (oi := ?o3) 2 ?hi3 (by kernel_rfl) (by kernel_rfl) (by kernel_rfl) ?hq3 ?hy3 ?_
        case hi3 => (simp only [List.getElem?_toArray, List.getElem?_cons_zero, List.getElem?_cons_succ]; rfl)
        case hq3 => exact fun _ _ _ h => h
        case hy3 => first | (refine ry_notS ?_; rfl) | (refine ry_runS (by rfl) (fun w' hw' => ?_); go_simp; try rfl)
        simp only [Act.put, List.setIfInBounds_toArray, List.set_cons_zero, List.set_cons_succ]
        refine step0S (o := ?o4) 3 (by kernel_rfl) ?hi4 ?hw4 ?_
        case hi4 => (simp only [List.getElem?_toArray, List.getElem?_cons_zero, List.getElem?_cons_succ]; rfl)
        case hw4 => rfl
        go_simp
        refine (gId_calls HRD.out hL).mono ?_
        rintro e w4 ⟨rfl, h4, hm4⟩
        refine ⟨.inl (hm4.mono fun _ _ h => .inl h), ?_⟩
        have HV4 := Lib.hid (own_keep (S := fun k => k = b) HV.out (Mod.of_drew_l hm4) (fun k _ hk hkb => by
          obtain ⟨A, c, hA⟩ := HR.out.ex
          exact has_ne hA.has (own_row HV.out hk) (by decide) hkb))
        have HG4 := Lib.hid (HG.out.keep (Mod.of_drew_l hm4) HGB.out)
        generalize hP : (gPar L x).1 = P at *
        have e1 : (⟨(gId L x).1.toArray⟩ : ByteArray) = P := by rw [← hP]; rfl
        have e3 : (gId L x).2 = (gPar L x).2 := rfl
        rw [e1]
        rw [e3] at h4
        generalize (gPar L x).2 = x4 at *
        refine step0S (o := ?o5) 4 (by kernel_rfl) ?hi5 ?hw5 ?_
        case hi5 => (simp only [List.getElem?_toArray, List.getElem?_cons_zero, List.getElem?_cons_succ]; rfl)
        case hw5 => rfl
        go_simp
        refine ⟨.inl (Mod.alloc (Mod.refl _ _) _), ?_⟩
        refine step0S (o := ?o6) 5 (by kernel_rfl) ?hi6 ?hw6 ?_
        case hi6 => (simp only [List.getElem?_toArray, List.getElem?_cons_zero, List.getElem?_cons_succ]; rfl)
        case hw6 => rfl
        refine app_step (.tmp 30) (.tmp 33) str_t w0.heap.size (.slice A l.length cp) l.length (l.map .string) (HV4.out.alloc _) ⟨w4.heap.size, 0, none⟩ 1 1 [.string P] rfl rfl rfl rfl (cells_new w4 _ _) (by intro u hu; simp at hu; rcases hu with rfl; rfl) (by omega) (by unfold maxLen; omega) (by have := h4.mod.size; simp; omega) ?_
        intro v5 w5 ho hm5
        refine ⟨.inl (hm5.mono fun _ _ h => .inr (.inr (.inl h.2))), ?_⟩
        obtain ⟨A5, c5, rfl, _, _, _, _⟩ := own_cells ho
        have HVA := Lib.hid (HV4.out.alloc (.cells #[.string P] 9))
        have hG5 := (HG4.out.alloc (.cells #[.string P] 9)).keep hm5 (fun hs => has_ne (HG4.out.alloc _) (own_row HVA.out hs.2) (by decide) rfl)
        have y1 := hG5.frozen 1
        have q1 := hG5.cell (o := 1) rfl
        simp only [Act.put, List.setIfInBounds_toArray, List.set_cons_zero, List.set_cons_succ]
        refine take0S (v := ?v7) (oi := ?o7) 6 ?hi7 (by kernel_rfl) (by kernel_rfl) (by kernel_rfl) ?hq7 ?hy7 ?_
        case hi7 => (simp only [List.getElem?_toArray, List.getElem?_cons_zero, List.getElem?_cons_succ]; rfl)
        case hq7 => exact fun _ _ _ h => h
        case hy7 => first | (refine ry_notS ?_; rfl) | (refine ry_runS (by rfl) (fun w' hw' => ?_); go_simp; try rfl)
        simp only [Act.put, List.setIfInBounds_toArray, List.set_cons_zero, List.set_cons_succ]
        refine step0S (o := ?o8) 7 (by kernel_rfl) ?hi8 ?hw8 ?_
        case hi8 => (simp only [List.getElem?_toArray, List.getElem?_cons_zero, List.getElem?_cons_succ]; rfl)
        case hw8 => rfl
        go_simp
        refine ⟨.inr (by kernel_rfl), ?_⟩
        refine wpAnyM_done (by kernel_rfl) ?_
        have h5 := (h4.alloc (.cells #[.string P] 9)).appended HVA.out (by decide) (by decide) (Nat.le_refl _) hm5
        have hv7 := own_store ho hG5 (by decide) 1 (.slice A5 (l.length + 1) c5)
        have hv7' : (w5.setCell ⟨w2.heap.size, 1, none⟩ (.slice A5 (l.length + 1) c5)).ownsRow w0.heap.size 9 1 (.slice A5 (l.length + 1) c5) (l ++ [P]).length ((l ++ [P]).map .string) := by rw [List.length_append, List.map_append]; exact hv7
        have H6 := Lib.hid (h5.store hG5 (by decide) HGB.out HGZ.out 1 (.slice A5 (l.length + 1) c5))
        have HV7 := Lib.hid hv7'
        have HG7 := Lib.hid (hG5.set 1 (.slice A5 (l.length + 1) c5))
        clear ho hm5 h5 hv7 hv7' hG5 HVA h4 hm4 fv x1 y1 q1 HV4 HG4
        go_wp2_with fail
        go_roundw
        case rel => exact ⟨z + 1, x4, l ++ [P], _, by go_num, by omega, by simp; omega, HST, H6, HV7, HG7⟩
        case measure => simp [intOf]; omega
      ·
        have HSTOP : (n - z).toNat = 0 ∨ x.bad = true := .inl (by omega)
        clear hb hb0
        have HD2 := Lib.hid (show gCP L = (x, l) by rw [HD.out]; exact gList_stop _ _ _ _ HSTOP)
        clear hx HD
        obtain ⟨A, cp, rfl, _, hcl, _, _⟩ := own_cells HV.out
        clear hcl
        go_wp2_with fail
        refine (gText_calls HR.out 64 hL).mono ?_
        rintro e w3 ⟨rfl, h3, hm3⟩
        have hV3 := own_keep HV.out hm3 (fun k _ hk hkb => by
          obtain ⟨A, c, hA⟩ := HR.out.ex
          exact has_ne hA.has (own_row HV.out hk) (by decide) hkb)
        have hG3 := HG.out.keep hm3 HGB.out
        have g2 := hG3.cell (o := 2) rfl
        have f2 := hG3.frozen 2
        have e1 : (⟨(gText L 64 x).1.toArray⟩ : ByteArray) = (gCom L).who := by unfold gCom gWho; rw [HD2.out]
        have e2 : (gText L 64 x).2 = (gWho L).2 := by unfold gWho; rw [HD2.out]
        rw [e1]
        rw [e2] at h3
        have H3 := Lib.hid (h3.store hG3 (by decide) HGB.out HGZ.out 2 (.string (gCom L).who))
        have HV3 := Lib.hid (own_store hV3 hG3 (by decide) 2 (.string (gCom L).who))
        have HG3 := Lib.hid (hG3.set 2 (.string (gCom L).who))
        clear h3 hm3 hV3 hG3 e1 e2
        go_wp2_with fail
        refine (gInt_calls H3.out hL).mono ?_
        rintro e w4 ⟨rfl, h4, hm4⟩
        have hV4 := own_keep HV3.out hm4 (fun k _ hk hkb => by
          obtain ⟨A, c, hA⟩ := H3.out.ex
          exact has_ne hA.has (own_row HV3.out hk) (by decide) hkb)
        have hG4 := HG3.out.keep hm4 HGB.out
        have g2 := hG4.cell (o := 3) rfl
        have f2 := hG4.frozen 3
        have e1 : (gInt L (gWho L).2).1 = (gCom L).time := rfl
        have e2 : (gInt L (gWho L).2).2 = (gTime L).2 := rfl
        rw [e1]
        rw [e2] at h4
        have H4 := Lib.hid (h4.store hG4 (by decide) HGB.out HGZ.out 3 (.int .i64 (gCom L).time))
        have HV4 := Lib.hid (own_store hV4 hG4 (by decide) 3 (.int .i64 (gCom L).time))
        have HG4 := Lib.hid (hG4.set 3 (.int .i64 (gCom L).time))
        clear h4 hm4 hV4 hG4 e1 e2 H3 HV3 HG3
        go_wp2_with fail
        refine (gText_calls H4.out 1024 hL).mono ?_
        rintro e w5 ⟨rfl, h5, hm5⟩
        have hV5 := own_keep HV4.out hm5 (fun k _ hk hkb => by
          obtain ⟨A, c, hA⟩ := H4.out.ex
          exact has_ne hA.has (own_row HV4.out hk) (by decide) hkb)
        have hG5 := HG4.out.keep hm5 HGB.out
        have g2 := hG5.cell (o := 4) rfl
        have f2 := hG5.frozen 4
        have e1 : (⟨(gText L 1024 (gTime L).2).1.toArray⟩ : ByteArray) = (gCom L).note := rfl
        have e2 : (gText L 1024 (gTime L).2).2 = (gNote L).2 := rfl
        rw [e1]
        rw [e2] at h5
        have H5 := Lib.hid (h5.store hG5 (by decide) HGB.out HGZ.out 4 (.string (gCom L).note))
        have HV5 := Lib.hid (own_store hV5 hG5 (by decide) 4 (.string (gCom L).note))
        have HG5 := Lib.hid (hG5.set 4 (.string (gCom L).note))
        clear h5 hm5 hV5 hG5 e1 e2 H4 HV4 HG4
        have EP := Lib.hid (show (gCom L).pars = l by unfold gCom; rw [HD2.out])
        have ET := Lib.hid (show (gCom L).tree = gTree L from rfl)
        go_wp2_with fail
        refine (gEnds_calls H5.out hL).mono ?_
        rintro e w6 ⟨rfl, hm6⟩
        have hG6 := HG5.out.keep hm6 (fun h => h)
        have hV6 := own_keep HV5.out hm6 (fun _ _ _ h => h)
        have x0 := hG6.cell (o := 0) rfl
        have x1 := hG6.cell (o := 1) rfl
        have x2 := hG6.cell (o := 2) rfl
        have x3 := hG6.cell (o := 3) rfl
        have x4 := hG6.cell (o := 4) rfl
        obtain ⟨A', cp', he, _, hcl, _, _⟩ := own_cells hV6
        obtain ⟨rfl, rfl⟩ : A = A' ∧ cp = cp' := by simpa using he
        have hRC := rightCommit_calls (gCom L) A cp w6 (by rw [EP.out]; exact hcl) (by rw [EP.out]; omega)
        unfold comC at hRC
        rw [ET.out, EP.out] at hRC
        have hokk : gokCommit L = (gEnds L (gNote L).2 && rightCommit (gCom L)) := rfl
        obtain ⟨en, hen⟩ : ∃ en, gEnds L (gNote L).2 = en := ⟨_, rfl⟩
        obtain ⟨rt, hrt⟩ : ∃ rt, rightCommit (gCom L) = rt := ⟨_, rfl⟩
        rw [hen, hrt] at hokk
        rw [hen]
        rw [hrt] at hRC
        have HRC := Lib.hid hRC
        have HOK := Lib.hid hokk
        have HG6 := Lib.hid hG6
        have HV6 := Lib.hid hV6
        have HM6 := Lib.hid (Mod.trans H5.out.mod hm6 (fun _ _ h => h))
        generalize gCom L = RC at *
        clear hm6 hG6 hV6 he hcl hRC hokk hen hrt HV5 HG5
        go_wp2_with fail
        refine HRC.out.mono ?_
        rintro e w7 ⟨rfl, hm7⟩
        have HV7 := Lib.hid (own_keep HV6.out hm7 (fun _ _ _ h => h))
        have hG7 := HG6.out.keep hm7 (fun h => h)
        have z0 := hG7.cell (o := 0) rfl
        have z1 := hG7.cell (o := 1) rfl
        have z2 := hG7.cell (o := 2) rfl
        have z3 := hG7.cell (o := 3) rfl
        have z4 := hG7.cell (o := 4) rfl
        have hM7 := Mod.trans HM6.out hm7 (fun _ _ h => h)
        have hR7 := HR0.out.keep hM7 (fun h => h)
        have k0 := hR7.frozen 0
        have k1 := hR7.frozen 1
        have k2 := hR7.frozen 2
        have k3 := hR7.frozen 3
        have k4 := hR7.frozen 4
        have q0 := hR7.cell (o := 0) rfl
        have q1 := hR7.cell (o := 1) rfl
        have q2 := hR7.cell (o := 2) rfl
        have q3 := hR7.cell (o := 3) rfl
        have q4 := hR7.cell (o := 4) rfl
        have HM7 := Lib.hid (Mod.trans HM0.out hM7 (fun _ _ h => h))
        clear hm7 hM7 hR7 hG7 x0 x1 x2 x3 x4
        cases en with
        | true =>
          cases rt with
          | true =>
            have hok : gokCommit L = true := HOK.out
            have HOK := Lib.hid hok
            clear hok
            go_wp2_with fail
            refine bodyPost_ret (v := .tuple #[.agg #[.string (gTree L), .slice A l.length cp, .string RC.who, .int .i64 RC.time, .string RC.note], .int .i64 0]) (by simp [results, Tryz.results20, go_sem, q0, q1, q2, q3, q4]) rfl ⟨.slice A l.length cp, by rw [HOC1.out HOK.out, ← ET.out, HOK.out]; rfl, ?_, ?_⟩
            · rw [HOC1.out HOK.out, EP.out]
              exact own_base (own_keep (S := fun k => k = w.heap.size) HV7.out (mod_set5 (S := fun k => k = w.heap.size) (Mod.refl _ _) (.inl rfl) _ _ _ _ _) (fun k hk _ h => by have := HSZ.out; omega)) (by have := HSZ.out; omega)
            · exact mod_set5 HM7.out (.inr (Nat.le_refl _)) _ _ _ _ _
          | false =>
            have hok : gokCommit L = false := HOK.out
            have HOK := Lib.hid hok
            clear hok
            go_wp2_with fail
            refine bodyPost_ret (v := .tuple #[.agg #[.string ⟨#[]⟩, .slice none 0 0, .string ⟨#[]⟩, .int .i64 0, .string ⟨#[]⟩], .int .i64 81]) (by simp [results, Tryz.results20, go_sem, q0, q1, q2, q3, q4]) rfl ⟨.slice none 0 0, by rw [HOC2.out HOK.out, HOK.out]; rfl, ?_, ?_⟩
            · rw [HOC2.out HOK.out]
              exact World.ownsRow_nil _ _ _ _
            · exact mod_set5 HM7.out (.inr (Nat.le_refl _)) _ _ _ _ _
        | false =>
          have hok : gokCommit L = false := HOK.out
          have HOK := Lib.hid hok
          clear hok
          go_wp2_with fail
          refine bodyPost_ret (v := .tuple #[.agg #[.string ⟨#[]⟩, .slice none 0 0, .string ⟨#[]⟩, .int .i64 0, .string ⟨#[]⟩], .int .i64 81]) (by simp [results, Tryz.results20, go_sem, q0, q1, q2, q3, q4]) rfl ⟨.slice none 0 0, by rw [HOC2.out HOK.out, HOK.out]; rfl, ?_, ?_⟩
          · rw [HOC2.out HOK.out]
            exact World.ownsRow_nil _ _ _ _
          · exact mod_set5 HM7.out (.inr (Nat.le_refl _)) _ _ _ _ _
end Obj
end Go.Proofs.YtenamjldkaggcaaGreatDoor
