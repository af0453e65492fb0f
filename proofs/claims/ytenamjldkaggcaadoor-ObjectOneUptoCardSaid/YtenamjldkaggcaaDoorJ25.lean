/- Joined texts: ObjYc, ObjectCommitsL, Kc, ObjectCommitsM. -/
import Derived.Test.YtenamjldkaggcaaDoorJ24
import Derived.Test.YtenamjldkaggcaaDoorJ17
import Derived.Test.YtenamjldkaggcaaDoorJ18
import Derived.Test.YtenamjldkaggcaaDoorJ2
import Derived.Test.YtenamjldkaggcaaDoorJ23
import Derived.Lib.SmallJoins
/- Plain laws: both readers of commits agree. -/
namespace Go.Proofs.YtenamjldkaggcaaDoor
set_option linter.unusedVariables false
set_option linter.unusedSimpArgs false
open Go.RowKit K Wire
namespace Obj

theorem par_mid (a : List ByteArray) (p : ByteArray) (l : List ByteArray) : par (a ++ p :: l) a.length = p := by
  rw [par_get (by simp)]; simp
theorem parOne_mid (a : List ByteArray) (p : ByteArray) (l : List ByteArray) : parOne (a ++ p :: l) a.length = (decide (p.size = 32) && !Lib.containsS a p) := by
  unfold parOne; rw [par_mid, List.take_left' rfl]
theorem parOk_all {ps : List ByteArray} {k : Nat} : parOk ps k = true ↔ ∀ i, i < k → parOne ps i = true := by
  unfold parOk; rw [List.all_eq_true]
  exact ⟨fun h i hi => h i (List.mem_range.2 hi), fun h i hi => h i (List.mem_range.1 hi)⟩
theorem rdPars_got (L : List UInt8) : ∀ (n : Nat) (x : RS) (acc : List ByteArray), 0 ≤ x.p → (rdPars L n x acc).1.bad = false → x.bad = false ∧ ∃ l, (rdPars L n x acc).2 = acc ++ l ∧ l.length = n ∧ (rdPars L n x acc).1.l = x.l ++ l.flatMap parB ∧ ∀ i, acc.length ≤ i → i < (acc ++ l).length → parOne (acc ++ l) i = true
  | 0, x, acc, _, h => ⟨h, [], by simp [rdPars], rfl, by simp [rdPars], fun i h1 h2 => by simp at h2; omega⟩
  | n + 1, x, acc, hx, h => by
    by_cases hb : x.bad = true
    · rw [rdPars_stop _ _ _ _ (.inr hb)] at h; rw [hb] at h; cases h
    · have hb0 : x.bad = false := by simpa using hb
      rw [rdPars_go _ _ _ _ hb0] at h ⊢
      obtain ⟨h1, l, h2, h3, h4, h5⟩ := rdPars_got L n _ _ (by show 0 ≤ (tId L x).2.p; exact tId_p L x hx) h
      obtain ⟨h6, h7⟩ := ask_bad h1
      obtain ⟨_, h8, h9⟩ := tId_got L x hx h6
      refine ⟨hb0, ⟨(tId L x).1.toArray⟩ :: l, by rw [h2]; simp, by simp [h3], ?_, fun i hi1 hi2 => ?_⟩
      · rw [h4]
        show (tId L x).2.l ++ _ = _
        rw [h8]; simp [parB]
      · by_cases hi : i = acc.length
        · subst hi
          rw [parOne_mid, h7, Bool.and_true, decide_eq_true_eq]; exact h9
        · have := h5 i (by simp; omega) (by simp at hi2 ⊢; omega)
          rw [List.append_assoc] at this; exact this
theorem rdPars_pre (L : List UInt8) : ∀ (l : List ByteArray) (p r : List UInt8) (acc : List ByteArray), L = p ++ (l.flatMap parB ++ r) → (∀ i, acc.length ≤ i → i < (acc ++ l).length → parOne (acc ++ l) i = true) →
    rdPars L l.length (pre p) acc = (pre (p ++ l.flatMap parB), acc ++ l)
  | [], p, r, acc, _, _ => by simp [rdPars]
  | a :: l, p, r, acc, hL, hf => by
    have h0 := hf acc.length (Nat.le_refl _) (by simp)
    rw [parOne_mid, Bool.and_eq_true, decide_eq_true_eq] at h0
    have e : a.data.toList.length = 32 := by rw [← h0.1]; simp
    have h1 : tId L (pre p) = (a.data.toList, pre (p ++ a.data.toList)) := by
      rw [hL, List.flatMap_cons, List.append_assoc]; exact tId_pre p _ _ e
    rw [List.length_cons, rdPars_go _ _ _ _ rfl, h1]
    dsimp only
    have e2 : (⟨a.data.toList.toArray⟩ : ByteArray) = a := rfl
    rw [e2, h0.2]
    have e3 : (pre (p ++ a.data.toList)).ask true = pre (p ++ a.data.toList) := rfl
    rw [e3, rdPars_pre L l (p ++ a.data.toList) r (acc ++ [a]) (by rw [hL]; simp [parB]) (fun i hi1 hi2 => by
      have := hf i (by simp at hi1; omega) (by simp at hi2 ⊢; omega)
      rw [List.append_assoc]; exact this)]
    simp [parB]
theorem commit_sound (L : List UInt8) (h : okCommit L = true) : L = commitB (rdCom L) ∧ rightCommit (rdCom L) = true := by
  unfold okCommit wholeB at h
  rw [Bool.and_eq_true, decide_eq_true_eq] at h
  obtain ⟨hb, hl⟩ := h
  have hp0 := tId_p L ⟨[0x4b], false, 1⟩ (by show (0:Int) ≤ 1; omega)
  have hp1 := tInt_p L 0 8 _ hp0
  have hb9 : (rdNote L).2.bad = false := by simpa using hb
  obtain ⟨a1, a2, a3⟩ := tText_got L 0 1024 (rdTime L).2 hb9
  obtain ⟨b1, b2, b3⟩ := tInt_got L 0 4611686018427387904 (rdWho L).2 a1
  obtain ⟨c1, c2, c3⟩ := tText_got L 0 64 (rdCP L).1 b1
  obtain ⟨d1, l, d2, d3, d4, d5⟩ := rdPars_got L _ _ [] hp1 c1
  obtain ⟨e1, e2, e3⟩ := tInt_got _ _ _ _ d1
  obtain ⟨_, f2, f3⟩ := tId_got L ⟨[0x4b], false, 1⟩ (by show (0:Int) ≤ 1; omega) e1
  have hk : (rdCom L).pars = l := by rw [show rdCom L = _ from rfl]; simpa [rdCom, rdCP] using d2
  have hn : (tInt L 0 8 (tId L ⟨[0x4b], false, 1⟩).2).1 = (l.length : Int) := by
    simp only [inR, Bool.and_eq_true, decide_eq_true_eq] at e3
    omega
  constructor
  · refine hl.symm.trans ?_
    have g1 : (rdNote L).2.l = (rdTime L).2.l ++ encT (rdCom L).note.data.toList := a2
    have g2 : (rdTime L).2.l = (rdWho L).2.l ++ enc (rdCom L).time := b2
    have g3 : (rdWho L).2.l = (rdCP L).1.l ++ encT (rdCom L).who.data.toList := c2
    have g4 : (rdCP L).1.l = (tInt L 0 8 (tId L ⟨[0x4b], false, 1⟩).2).2.l ++ l.flatMap parB := d4
    rw [g1, g2, g3, g4, e2, f2, hn]
    unfold commitB
    rw [hk]
    simp [rdCom, treeL]
  · have h1 : decide ((rdCom L).tree.size = 32) = true := by rw [decide_eq_true_eq]; exact f3
    have h2 : inR (l.length : Int) 0 8 = true := by rw [← hn]; exact e3
    have h3 : inR ((rdCom L).who.size : Int) 0 64 = true := c3
    have h4 : inR ((rdCom L).note.size : Int) 0 1024 = true := a3
    have h5 : inR (rdCom L).time 0 4611686018427387904 = true := b3
    have h6 : parOk l l.length = true := parOk_all.2 fun i hi => by
      have := d5 i (Nat.zero_le _) (by simpa using hi)
      simpa using this
    unfold rightCommit
    rw [hk, h1, h2, h3, h4, h5, h6]; rfl
theorem commit_parts {C : Com} (h : rightCommit C = true) : C.tree.data.toList.length = 32 ∧ (0 ≤ (C.pars.length : Int) ∧ (C.pars.length : Int) ≤ 8) ∧ ((C.who.size : Int) ≤ 64) ∧ ((C.note.size : Int) ≤ 1024) ∧ (0 ≤ C.time ∧ C.time ≤ 4611686018427387904) ∧ (∀ i, i < C.pars.length → parOne C.pars i = true) := by
  simp only [rightCommit, Bool.and_eq_true, decide_eq_true_eq] at h
  obtain ⟨⟨⟨⟨⟨h1, h2⟩, h3⟩, h4⟩, h5⟩, h6⟩ := h
  simp only [inR, Bool.and_eq_true, decide_eq_true_eq] at h2 h3 h4 h5
  exact ⟨by rw [← h1]; simp, h2, h3.2, h4.2, h5, parOk_all.1 h6⟩
theorem com_eta (C : Com) : (⟨⟨C.tree.data.toList.toArray⟩, C.pars, ⟨C.who.data.toList.toArray⟩, C.time, ⟨C.note.data.toList.toArray⟩⟩ : Com) = C := rfl
theorem commit_complete (C : Com) (h : rightCommit C = true) : okCommit (commitB C) = true ∧ outCommit (commitB C) = C := by
  obtain ⟨h1, h2, h3, h4, h5, h6⟩ := commit_parts h
  have n1 : C.who.data.toList.length = C.who.size := by simp
  have n2 : C.note.data.toList.length = C.note.size := by simp
  obtain ⟨L, hL⟩ : ∃ L, L = commitB C := ⟨_, rfl⟩
  have e0 : (⟨[0x4b], false, 1⟩ : RS) = pre [0x4b] := rfl
  have s1 : tId L (pre [0x4b]) = (C.tree.data.toList, pre ([0x4b] ++ C.tree.data.toList)) := by
    rw [hL, show commitB C = [0x4b] ++ (C.tree.data.toList ++ (enc (C.pars.length : Int) ++ (C.pars.flatMap parB ++ (encT C.who.data.toList ++ (enc C.time ++ encT C.note.data.toList))))) from rfl]
    exact tId_pre _ _ _ h1
  have s2 : tInt L 0 8 (pre ([0x4b] ++ C.tree.data.toList)) = ((C.pars.length : Int), pre ([0x4b] ++ C.tree.data.toList ++ enc (C.pars.length : Int))) := by
    rw [hL, show commitB C = ([0x4b] ++ C.tree.data.toList) ++ (enc (C.pars.length : Int) ++ (C.pars.flatMap parB ++ (encT C.who.data.toList ++ (enc C.time ++ encT C.note.data.toList)))) by simp [commitB]]
    exact tInt_pre _ _ _ _ _ (by unfold In64; omega) (by simp [inR]; omega)
  have s3 := rdPars_pre L C.pars ([0x4b] ++ C.tree.data.toList ++ enc (C.pars.length : Int)) (encT C.who.data.toList ++ (enc C.time ++ encT C.note.data.toList)) [] (by rw [hL]; simp [commitB]) (fun i _ hi => by simpa using h6 i (by simpa using hi))
  obtain ⟨P, hP⟩ : ∃ P, P = [0x4b] ++ C.tree.data.toList ++ enc (C.pars.length : Int) ++ C.pars.flatMap parB := ⟨_, rfl⟩
  rw [← hP] at s3
  have s4 : tText L 0 64 (pre P) = (C.who.data.toList, pre (P ++ encT C.who.data.toList)) := by
    rw [hL, show commitB C = P ++ (encT C.who.data.toList ++ (enc C.time ++ encT C.note.data.toList)) by rw [hP]; simp [commitB]]
    exact tText_pre _ _ _ _ _ (by rw [n1]; simp [inR]; omega) (by omega)
  have s5 : tInt L 0 4611686018427387904 (pre (P ++ encT C.who.data.toList)) = (C.time, pre (P ++ encT C.who.data.toList ++ enc C.time)) := by
    rw [hL, show commitB C = (P ++ encT C.who.data.toList) ++ (enc C.time ++ encT C.note.data.toList) by rw [hP]; simp [commitB]]
    exact tInt_pre _ _ _ _ _ (by unfold In64; omega) (by simp [inR]; omega)
  have s6 : tText L 0 1024 (pre (P ++ encT C.who.data.toList ++ enc C.time)) = (C.note.data.toList, pre (P ++ encT C.who.data.toList ++ enc C.time ++ encT C.note.data.toList)) := by
    rw [hL, show commitB C = (P ++ encT C.who.data.toList ++ enc C.time) ++ (encT C.note.data.toList ++ []) by rw [hP]; simp [commitB]]
    exact tText_pre _ _ _ _ _ (by rw [n2]; simp [inR]; omega) (by omega)
  have eL : P ++ encT C.who.data.toList ++ enc C.time ++ encT C.note.data.toList = L := by rw [hL, hP]; simp [commitB]
  rw [eL] at s6
  have r1 : rdCP L = (pre P, C.pars) := by
    unfold rdCP; rw [e0, s1]; dsimp only; rw [s2]; dsimp only; rw [Int.toNat_natCast, s3]; rfl
  have r2 : rdWho L = (C.who.data.toList, pre (P ++ encT C.who.data.toList)) := by unfold rdWho; rw [r1]; exact s4
  have r3 : rdTime L = (C.time, pre (P ++ encT C.who.data.toList ++ enc C.time)) := by unfold rdTime; rw [r2]; exact s5
  have r4 : rdNote L = (C.note.data.toList, pre L) := by unfold rdNote; rw [r3]; exact s6
  have r5 : rdCom L = C := by unfold rdCom treeL; rw [r1, r2, r3, r4, e0, s1]
  rw [← hL]
  have hok : okCommit L = true := by
    unfold okCommit; rw [r4]; simp [wholeB, pre]
  exact ⟨hok, by unfold outCommit; rw [if_pos hok, r5]⟩

theorem gPar_got (L : List UInt8) (x : RR) (h : (gPar L x).2.bad = false) : x.bad = false ∧ ∀ bs, Stand L x bs → Stand L (gPar L x).2 (bs ++ parB (gPar L x).1) := gId_got L x h
theorem gcommit_sound (L : List UInt8) (h : gokCommit L = true) : L = commitB (gCom L) ∧ rightCommit (gCom L) = true := by
  unfold gokCommit at h
  rw [Bool.and_eq_true] at h
  refine ⟨?_, h.2⟩
  have hb : (gNote L).2.bad = false := by
    have := h.1; unfold gEnds at this
    simp only [Bool.and_eq_true, Bool.not_eq_true'] at this
    exact this.1
  obtain ⟨a1, a2⟩ := gText_got L 1024 (gTime L).2 hb
  obtain ⟨b1, b2⟩ := gInt_got L (gWho L).2 a1
  obtain ⟨c1, c2⟩ := gText_got L 64 (gCP L).1 b1
  obtain ⟨d1, l, d2, d3, d4⟩ := gList_got L (gPar L) parB (gPar_got L) _ _ [] c1
  obtain ⟨e1, e2, e3, e4⟩ := gCount_got L 8 _ d1
  obtain ⟨f1, f2⟩ := gId_got L _ e1
  have h9 := a2 _ (b2 _ (c2 _ (d4 _ (e4 _ (f2 _ (begun_got f1))))))
  have hk : (gCom L).pars = l := by simpa [gCom, gCP] using d2
  have hn : (gCount L 8 (gId L ⟨begunBad L 0x4b, 1⟩).2).1 = (l.length : Int) := by omega
  refine (gEnds_got h.1 (fun _ => h9)).trans ?_
  unfold commitB
  rw [hk, hn]
  simp [gCom, gTree, gWho, gTime, gNote]
theorem gcommit_complete (C : Com) (h : rightCommit C = true) : gokCommit (commitB C) = true ∧ goutCommit (commitB C) = C := by
  obtain ⟨h1, h2, h3, h4, h5, h6⟩ := commit_parts h
  have n1 : C.who.data.toList.length = C.who.size := by simp
  have n2 : C.note.data.toList.length = C.note.size := by simp
  obtain ⟨L, hL⟩ : ∃ L, L = commitB C := ⟨_, rfl⟩
  have e0 : (⟨begunBad L 0x4b, 1⟩ : RR) = gpre [0x4b] := by rw [hL, commitB, begunBad_no]; rfl
  have s1 : gId L (gpre [0x4b]) = (C.tree.data.toList, gpre ([0x4b] ++ C.tree.data.toList)) := by
    rw [hL, show commitB C = [0x4b] ++ (C.tree.data.toList ++ (enc (C.pars.length : Int) ++ (C.pars.flatMap parB ++ (encT C.who.data.toList ++ (enc C.time ++ encT C.note.data.toList))))) from rfl]
    exact gId_pre _ _ _ h1
  have s2 : gCount L 8 (gpre ([0x4b] ++ C.tree.data.toList)) = ((C.pars.length : Int), gpre ([0x4b] ++ C.tree.data.toList ++ enc (C.pars.length : Int))) := by
    rw [hL, show commitB C = ([0x4b] ++ C.tree.data.toList) ++ (enc (C.pars.length : Int) ++ (C.pars.flatMap parB ++ (encT C.who.data.toList ++ (enc C.time ++ encT C.note.data.toList)))) by simp [commitB]]
    exact gCount_pre _ _ _ 8 (by unfold In64; omega) (by omega) (by omega)
  have s3 := gList_pre L (gPar L) parB C.pars ([0x4b] ++ C.tree.data.toList ++ enc (C.pars.length : Int)) (encT C.who.data.toList ++ (enc C.time ++ encT C.note.data.toList)) [] (by rw [hL]; simp [commitB]) (fun a ha p r hp => by
    obtain ⟨i, hi, rfl⟩ := List.mem_iff_getElem.1 ha
    have := h6 i hi
    simp only [parOne, par_get hi, Bool.and_eq_true, decide_eq_true_eq] at this
    have e : C.pars[i].data.toList.length = 32 := by rw [← this.1]; simp
    unfold gPar
    rw [hp]
    unfold parB
    rw [gId_pre p _ _ e])
  obtain ⟨P, hP⟩ : ∃ P, P = [0x4b] ++ C.tree.data.toList ++ enc (C.pars.length : Int) ++ C.pars.flatMap parB := ⟨_, rfl⟩
  rw [← hP] at s3
  have s4 : gText L 64 (gpre P) = (C.who.data.toList, gpre (P ++ encT C.who.data.toList)) := by
    rw [hL, show commitB C = P ++ (encT C.who.data.toList ++ (enc C.time ++ encT C.note.data.toList)) by rw [hP]; simp [commitB]]
    exact gText_pre _ _ _ _ (by rw [n1]; omega) (by omega)
  have s5 : gInt L (gpre (P ++ encT C.who.data.toList)) = (C.time, gpre (P ++ encT C.who.data.toList ++ enc C.time)) := by
    rw [hL, show commitB C = (P ++ encT C.who.data.toList) ++ (enc C.time ++ encT C.note.data.toList) by rw [hP]; simp [commitB]]
    exact gInt_pre _ _ _ (by unfold In64; omega)
  have s6 : gText L 1024 (gpre (P ++ encT C.who.data.toList ++ enc C.time)) = (C.note.data.toList, gpre (P ++ encT C.who.data.toList ++ enc C.time ++ encT C.note.data.toList)) := by
    rw [hL, show commitB C = (P ++ encT C.who.data.toList ++ enc C.time) ++ (encT C.note.data.toList ++ []) by rw [hP]; simp [commitB]]
    exact gText_pre _ _ _ _ (by rw [n2]; omega) (by omega)
  have eL : P ++ encT C.who.data.toList ++ enc C.time ++ encT C.note.data.toList = L := by rw [hL, hP]; simp [commitB]
  rw [eL] at s6
  have r1 : gCP L = (gpre P, C.pars) := by
    unfold gCP; rw [e0, s1]; dsimp only; rw [s2]; dsimp only; rw [Int.toNat_natCast, s3]; rfl
  have r2 : gWho L = (C.who.data.toList, gpre (P ++ encT C.who.data.toList)) := by unfold gWho; rw [r1]; exact s4
  have r3 : gTime L = (C.time, gpre (P ++ encT C.who.data.toList ++ enc C.time)) := by unfold gTime; rw [r2]; exact s5
  have r4 : gNote L = (C.note.data.toList, gpre L) := by unfold gNote; rw [r3]; exact s6
  have r5 : gCom L = C := by unfold gCom gTree; rw [r1, r2, r3, r4, e0, s1]
  rw [← hL]
  have hok : gokCommit L = true := by
    unfold gokCommit; rw [r4, r5, h]; simp [gEnds, gpre]
  exact ⟨hok, by unfold goutCommit; rw [if_pos hok, r5]⟩
theorem commits_agree (L : List UInt8) : okCommit L = gokCommit L ∧ outCommit L = goutCommit L := by
  cases h : okCommit L with
  | true =>
    obtain ⟨h1, h2⟩ := commit_sound L h
    obtain ⟨h3, h4⟩ := commit_complete _ h2
    obtain ⟨h5, h6⟩ := gcommit_complete _ h2
    rw [← h1] at h4 h5 h6
    exact ⟨h5.symm, h4.trans h6.symm⟩
  | false =>
    cases h' : gokCommit L with
    | true =>
      obtain ⟨h1, h2⟩ := gcommit_sound L h'
      have h3 := (commit_complete _ h2).1
      rw [← h1, h] at h3; cases h3
    | false => exact ⟨rfl, by unfold outCommit goutCommit; rw [h, h', if_neg (by decide), if_neg (by decide)]⟩
end Obj
end Go.Proofs.YtenamjldkaggcaaDoor
/- The walk of the law ObjectCommits. -/
namespace Go.Proofs.YtenamjldkaggcaaDoor
set_option linter.unusedVariables false
set_option linter.unusedSimpArgs false
open Go.RowKit K Wire
namespace Obj

theorem outCommit_len (L : List UInt8) : (outCommit L).pars.length ≤ 8 := by
  unfold outCommit
  split
  · rename_i h
    have h2 := (commit_parts (commit_sound L h).2).2.1.2
    omega
  · simp [com0]

set_option maxRecDepth 100000 in
set_option maxHeartbeats 4000000 in
theorem commits_calls (C : Com) (A : Option Addr) (c : Nat) (t : ByteArray) (w : World) (hK : Hash.Keys w) (hA : Cells w A (C.pars.map .string) ∧ Adr A c ∧ C.pars.length ≤ c) (ht : t.size ≤ 1048576)
    (hc : C.pars.length ≤ 100000000) (hti : In64 C.time) (hl : (commitB C).length ≤ 100000000) :
    Calls Tryd.prog 5 #[.agg (comC C A c), .string t] w fun e w' => e = .returned (.bool true) ∧ Below w.heap.size w w' := by
  obtain ⟨hA, hAd, hcap⟩ := hA
  obtain ⟨p1, p2, pe, hp2⟩ := putV_ex (commitB C) (!rightCommit C)
  have hbg := commits_agree t.data.toList
  have cSH := fun (w1 : World) (m : Mod (fun _ => False) w w1) => shown_calls w1 (hK.keep m (fun h => h))
  have cF := fun (w1 : World) (m : Mod (fun _ => False) w w1) => commit_calls C A c w1 (hK.keep m (fun h => h)) (hA.keep m (fun _ _ h => h)) hAd hcap hc hti hl
  have cRF := fun (w1 : World) (m : Mod (fun _ => False) w w1) => rCommit_calls C A c w1 (hA.keep m (fun _ _ h => h)) hc hti hl
  have cTF := fun (w1 : World) => takeCommit_calls t w1 (by omega)
  have cRTF := fun (w1 : World) => rTakeCommit_calls t w1 (by omega)
  rw [hp2] at cF cRF
  rw [← hbg.1, ← hbg.2] at cRTF
  have hkl := outCommit_len t.data.toList
  generalize outCommit t.data.toList = F at *
  obtain ⟨fe, hfe⟩ : ∃ fe, errV (okCommit t.data.toList) = .int .i64 fe := ⟨_, rfl⟩
  rw [hfe] at cTF cRTF
  have hM0 := (Mod.refl (fun _ => False) w).alloc (.cells (comC C A c) 48)
  have hX0 := Has.new w (comC C A c).toList 48
  have HS := Lib.hid (fun A8 A9 c8 c9 w' h1 h2 => sameCommit_calls F A8 A9 c8 c9 w' h1 h2 (by omega))
  obtain ⟨tree, pars, who, time, note⟩ := C
  obtain ⟨ftree, fpars, fwho, ftime, fnote⟩ := F
  unfold comC comV at *
  dsimp only at *
  have HM0 := Lib.hid hM0
  have HX0 := Lib.hid hX0
  have HSH := Lib.hid cSH
  have HF := Lib.hid cF
  have HRF := Lib.hid cRF
  have HTF := Lib.hid cTF
  have HRTF := Lib.hid cRTF
  clear hp2 hbg hfe cSH cF cRF cTF cRTF hM0 hX0 hK hA ht hc hti hl hkl
  go_enter Tryd.func5, Tryd.ntmps5
  go_wp2_with fail
  refine (HSH.out _ HM0.out).mono ?_
  rintro e w3 ⟨rfl, hm⟩
  have HM3 := Lib.hid (Mod.trans HM0.out hm (fun _ _ h => h))
  have hX3 := HX0.out.keep hm (fun h => h)
  have x0 := hX3.cell (o := 0) rfl
  have x1 := hX3.cell (o := 1) rfl
  have x2 := hX3.cell (o := 2) rfl
  have x3 := hX3.cell (o := 3) rfl
  have x4 := hX3.cell (o := 4) rfl
  have HX3 := Lib.hid hX3
  clear hm hX3
  go_wp2_with fail
  refine (HF.out _ HM3.out).mono ?_
  rintro e w4 ⟨rfl, hm⟩
  have hX4 := HX3.out.keep hm (fun h => h)
  have x0 := hX4.cell (o := 0) rfl
  have x1 := hX4.cell (o := 1) rfl
  have x2 := hX4.cell (o := 2) rfl
  have x3 := hX4.cell (o := 3) rfl
  have x4 := hX4.cell (o := 4) rfl
  have hlt := hX4.lt
  have HM4 := Lib.hid (Mod.trans HM3.out hm (fun _ _ h => h))
  clear hm hX4
  go_wp2_with fail
  refine (HRF.out _ (HM4.out.alloc _)).mono ?_
  rintro e w5 ⟨rfl, hm⟩
  have HM5 := Lib.hid (Mod.trans (HM4.out.alloc _) hm (fun _ _ h => h))
  have HA5 := Lib.hid ((Has.new w4 [.string p1, .string p2] 27).keep hm (fun h => h))
  clear hm
  go_wp2_with fail
  refine (HTF.out _).mono ?_
  rintro e w8 ⟨v8, rfl, ho8, hm⟩
  have HM8 := Lib.hid (Mod.trans (HM5.out.alloc _) hm (fun _ _ h => h))
  have HA8 := Lib.hid ((HA5.out.alloc _).keep hm (fun h => h))
  have HB8 := Lib.hid ((Has.new w5 [.string p1, .string p2] 27).keep hm (fun h => h))
  obtain ⟨A8, c8, rfl, _, hcl8, _, _⟩ := own_cells ho8
  have HL8 := Lib.hid hcl8
  clear hm ho8 hcl8
  go_wp2_with fail
  refine (HRTF.out _).mono ?_
  rintro e w9 ⟨v9, rfl, ho9, hm⟩
  have HM9 := Lib.hid (Mod.trans (HM8.out.alloc _) hm (fun _ _ h => h))
  have hA9 := (HA8.out.alloc _).keep hm (fun h => h)
  have hB9 := (HB8.out.alloc _).keep hm (fun h => h)
  have hE9 := (Has.new w8 [.string ftree, .slice A8 fpars.length c8, .string fwho, .int .i64 ftime, .string fnote] 48).keep hm (fun h => h)
  obtain ⟨A9, c9, rfl, _, hcl9, _, _⟩ := own_cells ho9
  have HL9 := Lib.hid hcl9
  have HL8' := Lib.hid ((HL8.out.alloc _).keep hm (fun _ _ h => h))
  have a0 := hA9.cell (o := 0) rfl
  have a1 := hA9.cell (o := 1) rfl
  have b0 := hB9.cell (o := 0) rfl
  have b1 := hB9.cell (o := 1) rfl
  have e0 := hE9.cell (o := 0) rfl
  have e1 := hE9.cell (o := 1) rfl
  have e2 := hE9.cell (o := 2) rfl
  have e3 := hE9.cell (o := 3) rfl
  have e4 := hE9.cell (o := 4) rfl
  have l1 := hA9.lt
  have l2 := hB9.lt
  have l5 := hE9.lt
  clear hm ho9 hcl9 hA9 hB9 hE9
  go_wp2_with fail
  refine (HS.out _ _ _ _ _ (HL8'.out.alloc _) (HL9.out.alloc _)).mono ?_
  rintro e w10 ⟨rfl, hm⟩
  have HM10 := Lib.hid (Mod.trans (HM9.out.alloc _) hm (fun _ _ h => h))
  clear hm
  go_wp2_with fail
  go_ret
  exact ⟨rfl, HM10.out.below (fun _ _ h => h)⟩
end Obj
end Go.Proofs.YtenamjldkaggcaaDoor
/- Opening arguments that are commits, or entries. -/
namespace Go.Proofs.YtenamjldkaggcaaDoor
set_option linter.unusedVariables false
set_option linter.unusedSimpArgs false
open Go.RowKit Go.ChangeShapes Go.WideShapes Go.Deep
namespace K
open Wire
open Go.Proofs.YtenamjldkaggcaaDoor.Obj

theorem trod_struct5 {H : Type} {enc : TypeId × Value → H} {P : Program} {w : World} {base : Nat} {spare : Nat → Bool} {held : Bool} {t : TypeId} {f0 f1 f2 f3 f4 : Field} {fuel : Nat} {cs : List Value} {x : DataW H × List MemPlace} (ht : P.underlying t = some (.struct #[f0, f1, f2, f3, f4])) (h : DataW.trod enc P w base spare held fuel t cs = some x) :
    ∃ y0 y1 y2 y3 y4 n, x.1 = .agg [y0.1, y1.1, y2.1, y3.1, y4.1] ∧ cs.length = P.cellsOf t ∧ DataW.trod enc P w base spare held n f0.type ((cs.drop f0.offset).take (P.cellsOf f0.type)) = some y0 ∧ DataW.trod enc P w base spare held n f1.type ((cs.drop f1.offset).take (P.cellsOf f1.type)) = some y1 ∧
      DataW.trod enc P w base spare held n f2.type ((cs.drop f2.offset).take (P.cellsOf f2.type)) = some y2 ∧ DataW.trod enc P w base spare held n f3.type ((cs.drop f3.offset).take (P.cellsOf f3.type)) = some y3 ∧ DataW.trod enc P w base spare held n f4.type ((cs.drop f4.offset).take (P.cellsOf f4.type)) = some y4 := by
  obtain ⟨xs, k, hk, hxy, hlen, hxl, hf⟩ := DataW.trod_struct ht h
  match xs, hxl with
  | [y0, y1, y2, y3, y4], _ =>
    refine ⟨y0, y1, y2, y3, y4, k, ?_, hlen, hf 0 f0 rfl, hf 1 f1 rfl, hf 2 f2 rfl, hf 3 f3 rfl, hf 4 f4 rfl⟩
    have := (Prod.mk.inj hxy).1
    simpa using this

theorem open_texts_bulk {H : Type} {enc : TypeId × Value → H} {P : Program} {W : World} {base : Nat} {held : Bool} {t e : TypeId} {fuel : Nat} {v : Value} {x : DataW H × List MemPlace}
    (hu : P.underlying t = some (.slice e)) (he : P.underlying e = some .string) (hc : P.cellsOf e = 1)
    (hf : DataW.trod enc P W base (fun _ => true) held fuel t [v] = some x) : ∃ (A : Option Addr) (ss : List ByteArray) (cap : Nat), v = .slice A ss.length cap ∧ (Cells W A (ss.map .string) ∧ Adr A cap ∧ ss.length ≤ cap) ∧ ss.length + (ss.flatMap parB).length ≤ Rows.uptoBulk x.1 := by
  rcases open_strs hu he hc hf with ⟨hcs, _⟩ | ⟨a, len, c, m, Sx, hcs, _, hl, hm, hmm, hx, hcell⟩
  · obtain rfl : v = .slice none 0 0 := by simpa using hcs
    exact ⟨none, [], 0, rfl, ⟨.inl rfl, .inl rfl, Nat.le_refl _⟩, by simp⟩
  · obtain rfl : v = .slice (some a) len c := by simpa using hcs
    rw [if_pos rfl] at hmm
    subst hmm
    subst hx
    have h0 := bulk_strs (H := H) Sx len
    have hsp : 0 < m → a.spot = none := fun h0 => by
      have h1 := (hcell 0 h0).1
      cases hs : a.spot with
      | none => rfl
      | some s =>
        unfold World.cell? at h1
        rw [show (a.add 0) = a by simp [Addr.add], hs] at h1
        split at h1 <;> simp at h1
    refine ⟨some a, (List.range len).map Sx, m, by simp, ⟨?_, ?_, by simpa using hl⟩, ?_⟩
    · by_cases h0 : len = 0
      · subst h0; exact .inl rfl
      · have hsp := hsp (by omega)
        obtain ⟨b, o, s⟩ := a
        obtain rfl : s = none := hsp
        refine .inr ⟨b, o, rfl, fun j u hj => ?_⟩
        have hjl : j < len := by
          have := (List.getElem?_eq_some_iff.1 hj).1
          simpa using this
        have h2 := (hcell j (by omega)).1
        rw [Addr.add_lit] at h2
        rw [h2, ← hj]
        simp [hjl]
    · by_cases h0 : m = 0
      · exact .inl h0
      · have hsp := hsp (by omega)
        obtain ⟨b, o, s⟩ := a
        obtain rfl : s = none := hsp
        exact .inr ⟨b, o, rfl⟩
    · simp only [Rows.uptoBulk]
      rw [List.flatMap_map]
      simp only [List.length_map, List.length_range]
      have e : ((List.range len).flatMap fun i => parB (Sx i)) = (List.range len).flatMap fun i => (Sx i).data.toList := rfl
      rw [e]
      omega

set_option maxRecDepth 100000 in
theorem open_commit {H : Type} {enc : TypeId × Value → H} {W : World} {base : Nat} {held : Bool} {r : Reach} {b0 : Nat} {v : Value} {d : DataW H} {pl : List MemPlace} {l : List (DataW H)}
    (hk : Rows.uptoSmall H l = true) (hd : d ∈ l) (hval : Value.okWide Tryd.prog W r b0 48 v)
    (h : DataW.Trod enc Tryd.prog W base (fun _ => true) held 48 v d pl) :
    ∃ (C : Com) (A : Option Addr) (cap : Nat), v = .agg (comC C A cap) ∧ (Cells W A (C.pars.map .string) ∧ Adr A cap ∧ C.pars.length ≤ cap) ∧ In64 C.time ∧ C.tree.size + C.pars.length + (C.pars.flatMap parB).length + C.who.size + C.note.size ≤ 1048576 := by
  have hb := bulk_at hk hd
  obtain ⟨cs, rfl, hsz⟩ := okWide_struct Tryd.underlying48 hval
  rw [show Tryd.prog.cellsOf 48 = 5 by kernel_rfl] at hsz
  obtain ⟨fuel, hf⟩ := h
  obtain ⟨y0, y1, y2, y3, y4, n, hx, hl, g0, g1, g2, g3, g4⟩ := trod_struct5 Tryd.underlying48 hf
  obtain ⟨c0, c1, c2, c3, c4, rfl⟩ : ∃ c0 c1 c2 c3 c4, cs = #[c0, c1, c2, c3, c4] := by
    obtain ⟨cl⟩ := cs
    match cl, hsz with
    | [c0, c1, c2, c3, c4], _ => exact ⟨c0, c1, c2, c3, c4, rfl⟩
  have e0 : Tryd.prog.cellsOf 9 = 1 := by kernel_rfl
  have e1 : Tryd.prog.cellsOf 46 = 1 := by kernel_rfl
  have e2 : Tryd.prog.cellsOf 2 = 1 := by kernel_rfl
  simp [Value.cells, e0, e1, e2] at g0 g1 g2 g3 g4
  obtain ⟨s0, k0, k1, _⟩ := DataW.trod_string Tryd.underlying9 g0
  obtain ⟨A, ss, cap, k2, k3, k4⟩ := open_texts_bulk Tryd.underlying46 Tryd.underlying9 (by kernel_rfl) g1
  obtain ⟨s2, k5, k6, _⟩ := DataW.trod_string Tryd.underlying9 g2
  obtain ⟨z, k7, k8, k9⟩ := DataW.trod_int Tryd.underlying2 g3
  obtain ⟨s4, k10, k11, _⟩ := DataW.trod_string Tryd.underlying9 g4
  refine ⟨⟨s0, ss, s2, z, s4⟩, A, cap, ?_, k3, in64_wf k9, ?_⟩
  · rw [show c0 = .string s0 by simpa using k0, k2, show c2 = .string s2 by simpa using k5, show c3 = .int .i64 z by simpa using k7, show c4 = .string s4 by simpa using k10]; rfl
  · rw [show d = .agg [y0.1, y1.1, y2.1, y3.1, y4.1] from hx] at hb
    rw [k1, k6, k8, k11] at hb
    simp only [Rows.uptoBulk, Rows.uptoBulkAll] at hb
    have n0 : s0.data.toList.length = s0.size := by simp
    have n2 : s2.data.toList.length = s2.size := by simp
    have n4 : s4.data.toList.length = s4.size := by simp
    show s0.size + ss.length + (ss.flatMap parB).length + s2.size + s4.size ≤ 1048576
    omega
theorem commitB_len (C : Com) (ht : In64 C.time) (h : C.tree.size + C.pars.length + (C.pars.flatMap parB).length + C.who.size + C.note.size ≤ 1048576) : (commitB C).length ≤ 100000000 := by
  have a2 := encT_len C.who (by omega)
  have a3 := encT_len C.note (by omega)
  have a4 := enc_len C.time ht
  have a5 := enc_len (C.pars.length : Int) (by unfold In64; omega)
  have e : C.tree.data.toList.length = C.tree.size := by simp
  simp only [commitB, List.length_append, List.length_cons]
  omega
end K
end Go.Proofs.YtenamjldkaggcaaDoor
/- The law ObjectCommits, as its card asks it. -/
namespace Go.Proofs.YtenamjldkaggcaaDoor
set_option linter.unusedVariables false
set_option linter.unusedSimpArgs false
open Go.RowKit K Wire
namespace Obj
theorem commits_row (C : Com) (A : Option Addr) (c : Nat) (t : ByteArray) (w : World) (hK : Hash.Keys w) (hA : Cells w A (C.pars.map .string) ∧ Adr A c ∧ C.pars.length ≤ c) (hti : In64 C.time)
    (hb : C.tree.size + C.pars.length + (C.pars.flatMap parB).length + C.who.size + C.note.size ≤ 1048576) (ht : t.size ≤ 1048576) :
    Calls Tryd.prog 5 #[.agg (comC C A c), .string t] w fun e w' => e = .returned (.bool true) ∧ Below w.heap.size w w' :=
  commits_calls C A c t w hK hA ht (by omega) hti (commitB_len C hti hb)
end Obj
end Go.Proofs.YtenamjldkaggcaaDoor
