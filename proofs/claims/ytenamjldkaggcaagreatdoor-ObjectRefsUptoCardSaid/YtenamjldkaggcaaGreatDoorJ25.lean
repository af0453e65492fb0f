/- Joined texts: ObjYc, ObjectCommitsL. -/
import Derived.Test.YtenamjldkaggcaaGreatDoorJ24
import Derived.Test.YtenamjldkaggcaaGreatDoorJ17
import Derived.Test.YtenamjldkaggcaaGreatDoorJ18
/- Plain laws: both readers of commits agree. -/
namespace Go.Proofs.YtenamjldkaggcaaGreatDoor
set_option linter.unusedVariables false
set_option linter.unusedSimpArgs false
open Go.RowKit K Wire
namespace Obj

theorem par_mid (a : List ByteArray) (p : ByteArray) (l : List ByteArray) : par (a ++ p :: l) a.length = p := by
  rw [par_get (by simp)]; simp
theorem parOne_mid (a : List ByteArray) (p : ByteArray) (l : List ByteArray) : parOne (a ++ p :: l) a.length = (decide (p.size = 32) && !Lib.containsS a p) := by
  unfold parOne; rw [par_mid, List.take_left' rfl]
theorem parOk_all {ps : List ByteArray} {k : Nat} : parOk ps k = true ↔ ∀ i, i < k → parOne ps i = true := by
  unfold parOk; rw [List.all_eq_true]
  exact ⟨fun h i hi => h i (List.mem_range.2 hi), fun h i hi => h i (List.mem_range.1 hi)⟩
theorem rdPars_got (L : List UInt8) : ∀ (n : Nat) (x : RS) (acc : List ByteArray), 0 ≤ x.p → (rdPars L n x acc).1.bad = false → x.bad = false ∧ ∃ l, (rdPars L n x acc).2 = acc ++ l ∧ l.length = n ∧ (rdPars L n x acc).1.l = x.l ++ l.flatMap parB ∧ ∀ i, acc.length ≤ i → i < (acc ++ l).length → parOne (acc ++ l) i = true
  | 0, x, acc, _, h => ⟨h, [], by simp [rdPars], rfl, by simp [rdPars], fun i h1 h2 => by simp at h2; omega⟩
  | n + 1, x, acc, hx, h => by
    by_cases hb : x.bad = true
    · rw [rdPars_stop _ _ _ _ (.inr hb)] at h; rw [hb] at h; cases h
    · have hb0 : x.bad = false := by simpa using hb
      rw [rdPars_go _ _ _ _ hb0] at h ⊢
      obtain ⟨h1, l, h2, h3, h4, h5⟩ := rdPars_got L n _ _ (by show 0 ≤ (tId L x).2.p; exact tId_p L x hx) h
      obtain ⟨h6, h7⟩ := ask_bad h1
      obtain ⟨_, h8, h9⟩ := tId_got L x hx h6
      refine ⟨hb0, ⟨(tId L x).1.toArray⟩ :: l, by rw [h2]; simp, by simp [h3], ?_, fun i hi1 hi2 => ?_⟩
      · rw [h4]
        show (tId L x).2.l ++ _ = _
        rw [h8]; simp [parB]
      · by_cases hi : i = acc.length
        · subst hi
          rw [parOne_mid, h7, Bool.and_true, decide_eq_true_eq]; exact h9
        · have := h5 i (by simp; omega) (by simp at hi2 ⊢; omega)
          rw [List.append_assoc] at this; exact this
theorem rdPars_pre (L : List UInt8) : ∀ (l : List ByteArray) (p r : List UInt8) (acc : List ByteArray), L = p ++ (l.flatMap parB ++ r) → (∀ i, acc.length ≤ i → i < (acc ++ l).length → parOne (acc ++ l) i = true) →
    rdPars L l.length (pre p) acc = (pre (p ++ l.flatMap parB), acc ++ l)
  | [], p, r, acc, _, _ => by simp [rdPars]
  | a :: l, p, r, acc, hL, hf => by
    have h0 := hf acc.length (Nat.le_refl _) (by simp)
    rw [parOne_mid, Bool.and_eq_true, decide_eq_true_eq] at h0
    have e : a.data.toList.length = 32 := by rw [← h0.1]; simp
    have h1 : tId L (pre p) = (a.data.toList, pre (p ++ a.data.toList)) := by
      rw [hL, List.flatMap_cons, List.append_assoc]; exact tId_pre p _ _ e
    rw [List.length_cons, rdPars_go _ _ _ _ rfl, h1]
    dsimp only
    have e2 : (⟨a.data.toList.toArray⟩ : ByteArray) = a := rfl
    rw [e2, h0.2]
    have e3 : (pre (p ++ a.data.toList)).ask true = pre (p ++ a.data.toList) := rfl
    rw [e3, rdPars_pre L l (p ++ a.data.toList) r (acc ++ [a]) (by rw [hL]; simp [parB]) (fun i hi1 hi2 => by
      have := hf i (by simp at hi1; omega) (by simp at hi2 ⊢; omega)
      rw [List.append_assoc]; exact this)]
    simp [parB]
theorem commit_sound (L : List UInt8) (h : okCommit L = true) : L = commitB (rdCom L) ∧ rightCommit (rdCom L) = true := by
  unfold okCommit wholeB at h
  rw [Bool.and_eq_true, decide_eq_true_eq] at h
  obtain ⟨hb, hl⟩ := h
  have hp0 := tId_p L ⟨[0x4b], false, 1⟩ (by show (0:Int) ≤ 1; omega)
  have hp1 := tInt_p L 0 8 _ hp0
  have hb9 : (rdNote L).2.bad = false := by simpa using hb
  obtain ⟨a1, a2, a3⟩ := tText_got L 0 1024 (rdTime L).2 hb9
  obtain ⟨b1, b2, b3⟩ := tInt_got L 0 4611686018427387904 (rdWho L).2 a1
  obtain ⟨c1, c2, c3⟩ := tText_got L 0 64 (rdCP L).1 b1
  obtain ⟨d1, l, d2, d3, d4, d5⟩ := rdPars_got L _ _ [] hp1 c1
  obtain ⟨e1, e2, e3⟩ := tInt_got _ _ _ _ d1
  obtain ⟨_, f2, f3⟩ := tId_got L ⟨[0x4b], false, 1⟩ (by show (0:Int) ≤ 1; omega) e1
  have hk : (rdCom L).pars = l := by rw [show rdCom L = _ from rfl]; simpa [rdCom, rdCP] using d2
  have hn : (tInt L 0 8 (tId L ⟨[0x4b], false, 1⟩).2).1 = (l.length : Int) := by
    simp only [inR, Bool.and_eq_true, decide_eq_true_eq] at e3
    omega
  constructor
  · refine hl.symm.trans ?_
    have g1 : (rdNote L).2.l = (rdTime L).2.l ++ encT (rdCom L).note.data.toList := a2
    have g2 : (rdTime L).2.l = (rdWho L).2.l ++ enc (rdCom L).time := b2
    have g3 : (rdWho L).2.l = (rdCP L).1.l ++ encT (rdCom L).who.data.toList := c2
    have g4 : (rdCP L).1.l = (tInt L 0 8 (tId L ⟨[0x4b], false, 1⟩).2).2.l ++ l.flatMap parB := d4
    rw [g1, g2, g3, g4, e2, f2, hn]
    unfold commitB
    rw [hk]
    simp [rdCom, treeL]
  · have h1 : decide ((rdCom L).tree.size = 32) = true := by rw [decide_eq_true_eq]; exact f3
    have h2 : inR (l.length : Int) 0 8 = true := by rw [← hn]; exact e3
    have h3 : inR ((rdCom L).who.size : Int) 0 64 = true := c3
    have h4 : inR ((rdCom L).note.size : Int) 0 1024 = true := a3
    have h5 : inR (rdCom L).time 0 4611686018427387904 = true := b3
    have h6 : parOk l l.length = true := parOk_all.2 fun i hi => by
      have := d5 i (Nat.zero_le _) (by simpa using hi)
      simpa using this
    unfold rightCommit
    rw [hk, h1, h2, h3, h4, h5, h6]; rfl
theorem commit_parts {C : Com} (h : rightCommit C = true) : C.tree.data.toList.length = 32 ∧ (0 ≤ (C.pars.length : Int) ∧ (C.pars.length : Int) ≤ 8) ∧ ((C.who.size : Int) ≤ 64) ∧ ((C.note.size : Int) ≤ 1024) ∧ (0 ≤ C.time ∧ C.time ≤ 4611686018427387904) ∧ (∀ i, i < C.pars.length → parOne C.pars i = true) := by
  simp only [rightCommit, Bool.and_eq_true, decide_eq_true_eq] at h
  obtain ⟨⟨⟨⟨⟨h1, h2⟩, h3⟩, h4⟩, h5⟩, h6⟩ := h
  simp only [inR, Bool.and_eq_true, decide_eq_true_eq] at h2 h3 h4 h5
  exact ⟨by rw [← h1]; simp, h2, h3.2, h4.2, h5, parOk_all.1 h6⟩
theorem com_eta (C : Com) : (⟨⟨C.tree.data.toList.toArray⟩, C.pars, ⟨C.who.data.toList.toArray⟩, C.time, ⟨C.note.data.toList.toArray⟩⟩ : Com) = C := rfl
theorem commit_complete (C : Com) (h : rightCommit C = true) : okCommit (commitB C) = true ∧ outCommit (commitB C) = C := by
  obtain ⟨h1, h2, h3, h4, h5, h6⟩ := commit_parts h
  have n1 : C.who.data.toList.length = C.who.size := by simp
  have n2 : C.note.data.toList.length = C.note.size := by simp
  obtain ⟨L, hL⟩ : ∃ L, L = commitB C := ⟨_, rfl⟩
  have e0 : (⟨[0x4b], false, 1⟩ : RS) = pre [0x4b] := rfl
  have s1 : tId L (pre [0x4b]) = (C.tree.data.toList, pre ([0x4b] ++ C.tree.data.toList)) := by
    rw [hL, show commitB C = [0x4b] ++ (C.tree.data.toList ++ (enc (C.pars.length : Int) ++ (C.pars.flatMap parB ++ (encT C.who.data.toList ++ (enc C.time ++ encT C.note.data.toList))))) from rfl]
    exact tId_pre _ _ _ h1
  have s2 : tInt L 0 8 (pre ([0x4b] ++ C.tree.data.toList)) = ((C.pars.length : Int), pre ([0x4b] ++ C.tree.data.toList ++ enc (C.pars.length : Int))) := by
    rw [hL, show commitB C = ([0x4b] ++ C.tree.data.toList) ++ (enc (C.pars.length : Int) ++ (C.pars.flatMap parB ++ (encT C.who.data.toList ++ (enc C.time ++ encT C.note.data.toList)))) by simp [commitB]]
    exact tInt_pre _ _ _ _ _ (by unfold In64; omega) (by simp [inR]; omega)
  have s3 := rdPars_pre L C.pars ([0x4b] ++ C.tree.data.toList ++ enc (C.pars.length : Int)) (encT C.who.data.toList ++ (enc C.time ++ encT C.note.data.toList)) [] (by rw [hL]; simp [commitB]) (fun i _ hi => by simpa using h6 i (by simpa using hi))
  obtain ⟨P, hP⟩ : ∃ P, P = [0x4b] ++ C.tree.data.toList ++ enc (C.pars.length : Int) ++ C.pars.flatMap parB := ⟨_, rfl⟩
  rw [← hP] at s3
  have s4 : tText L 0 64 (pre P) = (C.who.data.toList, pre (P ++ encT C.who.data.toList)) := by
    rw [hL, show commitB C = P ++ (encT C.who.data.toList ++ (enc C.time ++ encT C.note.data.toList)) by rw [hP]; simp [commitB]]
    exact tText_pre _ _ _ _ _ (by rw [n1]; simp [inR]; omega) (by omega)
  have s5 : tInt L 0 4611686018427387904 (pre (P ++ encT C.who.data.toList)) = (C.time, pre (P ++ encT C.who.data.toList ++ enc C.time)) := by
    rw [hL, show commitB C = (P ++ encT C.who.data.toList) ++ (enc C.time ++ encT C.note.data.toList) by rw [hP]; simp [commitB]]
    exact tInt_pre _ _ _ _ _ (by unfold In64; omega) (by simp [inR]; omega)
  have s6 : tText L 0 1024 (pre (P ++ encT C.who.data.toList ++ enc C.time)) = (C.note.data.toList, pre (P ++ encT C.who.data.toList ++ enc C.time ++ encT C.note.data.toList)) := by
    rw [hL, show commitB C = (P ++ encT C.who.data.toList ++ enc C.time) ++ (encT C.note.data.toList ++ []) by rw [hP]; simp [commitB]]
    exact tText_pre _ _ _ _ _ (by rw [n2]; simp [inR]; omega) (by omega)
  have eL : P ++ encT C.who.data.toList ++ enc C.time ++ encT C.note.data.toList = L := by rw [hL, hP]; simp [commitB]
  rw [eL] at s6
  have r1 : rdCP L = (pre P, C.pars) := by
    unfold rdCP; rw [e0, s1]; dsimp only; rw [s2]; dsimp only; rw [Int.toNat_natCast, s3]; rfl
  have r2 : rdWho L = (C.who.data.toList, pre (P ++ encT C.who.data.toList)) := by unfold rdWho; rw [r1]; exact s4
  have r3 : rdTime L = (C.time, pre (P ++ encT C.who.data.toList ++ enc C.time)) := by unfold rdTime; rw [r2]; exact s5
  have r4 : rdNote L = (C.note.data.toList, pre L) := by unfold rdNote; rw [r3]; exact s6
  have r5 : rdCom L = C := by unfold rdCom treeL; rw [r1, r2, r3, r4, e0, s1]
  rw [← hL]
  have hok : okCommit L = true := by
    unfold okCommit; rw [r4]; simp [wholeB, pre]
  exact ⟨hok, by unfold outCommit; rw [if_pos hok, r5]⟩

theorem gPar_got (L : List UInt8) (x : RR) (h : (gPar L x).2.bad = false) : x.bad = false ∧ ∀ bs, Stand L x bs → Stand L (gPar L x).2 (bs ++ parB (gPar L x).1) := gId_got L x h
theorem gcommit_sound (L : List UInt8) (h : gokCommit L = true) : L = commitB (gCom L) ∧ rightCommit (gCom L) = true := by
  unfold gokCommit at h
  rw [Bool.and_eq_true] at h
  refine ⟨?_, h.2⟩
  have hb : (gNote L).2.bad = false := by
    have := h.1; unfold gEnds at this
    simp only [Bool.and_eq_true, Bool.not_eq_true'] at this
    exact this.1
  obtain ⟨a1, a2⟩ := gText_got L 1024 (gTime L).2 hb
  obtain ⟨b1, b2⟩ := gInt_got L (gWho L).2 a1
  obtain ⟨c1, c2⟩ := gText_got L 64 (gCP L).1 b1
  obtain ⟨d1, l, d2, d3, d4⟩ := gList_got L (gPar L) parB (gPar_got L) _ _ [] c1
  obtain ⟨e1, e2, e3, e4⟩ := gCount_got L 8 _ d1
  obtain ⟨f1, f2⟩ := gId_got L _ e1
  have h9 := a2 _ (b2 _ (c2 _ (d4 _ (e4 _ (f2 _ (begun_got f1))))))
  have hk : (gCom L).pars = l := by simpa [gCom, gCP] using d2
  have hn : (gCount L 8 (gId L ⟨begunBad L 0x4b, 1⟩).2).1 = (l.length : Int) := by omega
  refine (gEnds_got h.1 (fun _ => h9)).trans ?_
  unfold commitB
  rw [hk, hn]
  simp [gCom, gTree, gWho, gTime, gNote]
theorem gcommit_complete (C : Com) (h : rightCommit C = true) : gokCommit (commitB C) = true ∧ goutCommit (commitB C) = C := by
  obtain ⟨h1, h2, h3, h4, h5, h6⟩ := commit_parts h
  have n1 : C.who.data.toList.length = C.who.size := by simp
  have n2 : C.note.data.toList.length = C.note.size := by simp
  obtain ⟨L, hL⟩ : ∃ L, L = commitB C := ⟨_, rfl⟩
  have e0 : (⟨begunBad L 0x4b, 1⟩ : RR) = gpre [0x4b] := by rw [hL, commitB, begunBad_no]; rfl
  have s1 : gId L (gpre [0x4b]) = (C.tree.data.toList, gpre ([0x4b] ++ C.tree.data.toList)) := by
    rw [hL, show commitB C = [0x4b] ++ (C.tree.data.toList ++ (enc (C.pars.length : Int) ++ (C.pars.flatMap parB ++ (encT C.who.data.toList ++ (enc C.time ++ encT C.note.data.toList))))) from rfl]
    exact gId_pre _ _ _ h1
  have s2 : gCount L 8 (gpre ([0x4b] ++ C.tree.data.toList)) = ((C.pars.length : Int), gpre ([0x4b] ++ C.tree.data.toList ++ enc (C.pars.length : Int))) := by
    rw [hL, show commitB C = ([0x4b] ++ C.tree.data.toList) ++ (enc (C.pars.length : Int) ++ (C.pars.flatMap parB ++ (encT C.who.data.toList ++ (enc C.time ++ encT C.note.data.toList)))) by simp [commitB]]
    exact gCount_pre _ _ _ 8 (by unfold In64; omega) (by omega) (by omega)
  have s3 := gList_pre L (gPar L) parB C.pars ([0x4b] ++ C.tree.data.toList ++ enc (C.pars.length : Int)) (encT C.who.data.toList ++ (enc C.time ++ encT C.note.data.toList)) [] (by rw [hL]; simp [commitB]) (fun a ha p r hp => by
    obtain ⟨i, hi, rfl⟩ := List.mem_iff_getElem.1 ha
    have := h6 i hi
    simp only [parOne, par_get hi, Bool.and_eq_true, decide_eq_true_eq] at this
    have e : C.pars[i].data.toList.length = 32 := by rw [← this.1]; simp
    unfold gPar
    rw [hp]
    unfold parB
    rw [gId_pre p _ _ e])
  obtain ⟨P, hP⟩ : ∃ P, P = [0x4b] ++ C.tree.data.toList ++ enc (C.pars.length : Int) ++ C.pars.flatMap parB := ⟨_, rfl⟩
  rw [← hP] at s3
  have s4 : gText L 64 (gpre P) = (C.who.data.toList, gpre (P ++ encT C.who.data.toList)) := by
    rw [hL, show commitB C = P ++ (encT C.who.data.toList ++ (enc C.time ++ encT C.note.data.toList)) by rw [hP]; simp [commitB]]
    exact gText_pre _ _ _ _ (by rw [n1]; omega) (by omega)
  have s5 : gInt L (gpre (P ++ encT C.who.data.toList)) = (C.time, gpre (P ++ encT C.who.data.toList ++ enc C.time)) := by
    rw [hL, show commitB C = (P ++ encT C.who.data.toList) ++ (enc C.time ++ encT C.note.data.toList) by rw [hP]; simp [commitB]]
    exact gInt_pre _ _ _ (by unfold In64; omega)
  have s6 : gText L 1024 (gpre (P ++ encT C.who.data.toList ++ enc C.time)) = (C.note.data.toList, gpre (P ++ encT C.who.data.toList ++ enc C.time ++ encT C.note.data.toList)) := by
    rw [hL, show commitB C = (P ++ encT C.who.data.toList ++ enc C.time) ++ (encT C.note.data.toList ++ []) by rw [hP]; simp [commitB]]
    exact gText_pre _ _ _ _ (by rw [n2]; omega) (by omega)
  have eL : P ++ encT C.who.data.toList ++ enc C.time ++ encT C.note.data.toList = L := by rw [hL, hP]; simp [commitB]
  rw [eL] at s6
  have r1 : gCP L = (gpre P, C.pars) := by
    unfold gCP; rw [e0, s1]; dsimp only; rw [s2]; dsimp only; rw [Int.toNat_natCast, s3]; rfl
  have r2 : gWho L = (C.who.data.toList, gpre (P ++ encT C.who.data.toList)) := by unfold gWho; rw [r1]; exact s4
  have r3 : gTime L = (C.time, gpre (P ++ encT C.who.data.toList ++ enc C.time)) := by unfold gTime; rw [r2]; exact s5
  have r4 : gNote L = (C.note.data.toList, gpre L) := by unfold gNote; rw [r3]; exact s6
  have r5 : gCom L = C := by unfold gCom gTree; rw [r1, r2, r3, r4, e0, s1]
  rw [← hL]
  have hok : gokCommit L = true := by
    unfold gokCommit; rw [r4, r5, h]; simp [gEnds, gpre]
  exact ⟨hok, by unfold goutCommit; rw [if_pos hok, r5]⟩
theorem commits_agree (L : List UInt8) : okCommit L = gokCommit L ∧ outCommit L = goutCommit L := by
  cases h : okCommit L with
  | true =>
    obtain ⟨h1, h2⟩ := commit_sound L h
    obtain ⟨h3, h4⟩ := commit_complete _ h2
    obtain ⟨h5, h6⟩ := gcommit_complete _ h2
    rw [← h1] at h4 h5 h6
    exact ⟨h5.symm, h4.trans h6.symm⟩
  | false =>
    cases h' : gokCommit L with
    | true =>
      obtain ⟨h1, h2⟩ := gcommit_sound L h'
      have h3 := (commit_complete _ h2).1
      rw [← h1, h] at h3; cases h3
    | false => exact ⟨rfl, by unfold outCommit goutCommit; rw [h, h', if_neg (by decide), if_neg (by decide)]⟩
end Obj
end Go.Proofs.YtenamjldkaggcaaGreatDoor
/- The walk of the law ObjectCommits. -/
namespace Go.Proofs.YtenamjldkaggcaaGreatDoor
set_option linter.unusedVariables false
set_option linter.unusedSimpArgs false
open Go.RowKit K Wire
namespace Obj

theorem outCommit_len (L : List UInt8) : (outCommit L).pars.length ≤ 8 := by
  unfold outCommit
  split
  · rename_i h
    have h2 := (commit_parts (commit_sound L h).2).2.1.2
    omega
  · simp [com0]

end Obj
end Go.Proofs.YtenamjldkaggcaaGreatDoor
