/- Joined texts: ObjectOneL. -/
import Derived.Test.YtenamjldkaggcaaDoorJ30
import Derived.Test.YtenamjldkaggcaaDoorJ26
/- The walk of the law ObjectOne. -/
namespace Go.Proofs.YtenamjldkaggcaaDoor
set_option linter.unusedVariables false
set_option linter.unusedSimpArgs false
open Go.RowKit K Wire
namespace Obj

/-! the first byte of an object tells its kind -/
theorem head_of {s : ByteArray} (hp : 0 < s.size) : s.data.toList.head? = some (s[0]'hp) := by
  rw [List.head?_eq_getElem?, Lib.data_getElem? s 0 hp]
theorem head_chunk {s : ByteArray} (h : okChunk s = true) : s.data.toList.head? = some 67 := by
  unfold okChunk at h
  have h := @of_decide_eq_true _ (Classical.propDecidable _) h
  obtain ⟨hp, h1, _⟩ := h
  rw [head_of hp]
  exact congrArg some (UInt8.toNat_inj.1 h1)
theorem head_fan {L : List UInt8} (h : okFan L = true) : L.head? = some 70 := by rw [(fan_sound L h).1]; rfl
theorem head_leaf {L : List UInt8} (h : okLeaf L = true) : L.head? = some 76 := by rw [(leaf_sound L h).1]; rfl
theorem head_branch {L : List UInt8} (h : okBranch L = true) : L.head? = some 66 := by rw [(branch_sound L h).1]; rfl
theorem head_commit {L : List UInt8} (h : okCommit L = true) : L.head? = some 75 := by rw [(commit_sound L h).1]; rfl
theorem not_kind {ok : Bool} {o : Option UInt8} {b c : UInt8} (h : ok = true → o = some b) (hc : o = some c) (hne : b ≠ c) : ok = false := by
  cases ok with
  | false => rfl
  | true => have := (h rfl).symm.trans hc; exact absurd (Option.some.inj this) hne
theorem names_ok (s : ByteArray) : (namesL s).2 = (okChunk s || okFan s.data.toList || okLeaf s.data.toList || okBranch s.data.toList || okCommit s.data.toList) := by
  by_cases hp : 0 < s.size
  · have hh := head_of hp
    obtain ⟨c, hc⟩ : ∃ c, s[0]'hp = c := ⟨_, rfl⟩
    rw [hc] at hh
    have n0 := fun h => not_kind (c := c) (@head_chunk s) hh h
    have n1 := fun h => not_kind (c := c) (@head_fan s.data.toList) hh h
    have n2 := fun h => not_kind (c := c) (@head_leaf s.data.toList) hh h
    have n3 := fun h => not_kind (c := c) (@head_branch s.data.toList) hh h
    have n4 := fun h => not_kind (c := c) (@head_commit s.data.toList) hh h
    have hk : ∀ (b : UInt8), c.toNat ≠ b.toNat → b ≠ c := fun b h e => h (by rw [e])
    unfold namesL
    rw [dif_pos hp]
    simp only [hc]
    by_cases h1 : c.toNat = 67
    · have e : c = 67 := UInt8.toNat_inj.1 h1
      rw [if_pos h1, n1 (by rw [e]; decide), n2 (by rw [e]; decide), n3 (by rw [e]; decide), n4 (by rw [e]; decide)]; simp
    rw [if_neg h1, n0 (hk _ h1)]
    by_cases h2 : c.toNat = 70
    · have e : c = 70 := UInt8.toNat_inj.1 h2
      rw [if_pos h2, n2 (by rw [e]; decide), n3 (by rw [e]; decide), n4 (by rw [e]; decide)]; simp
    rw [if_neg h2, n1 (hk _ h2)]
    by_cases h3 : c.toNat = 66
    · have e : c = 66 := UInt8.toNat_inj.1 h3
      rw [if_pos h3, n2 (by rw [e]; decide), n4 (by rw [e]; decide)]; simp
    rw [if_neg h3, n3 (hk _ h3)]
    by_cases h4 : c.toNat = 76
    · have e : c = 76 := UInt8.toNat_inj.1 h4
      rw [if_pos h4, n4 (by rw [e]; decide)]; simp
    rw [if_neg h4, n2 (hk _ h4)]
    by_cases h5 : c.toNat = 75
    · rw [if_pos h5]; simp
    rw [if_neg h5, n4 (hk _ h5)]; rfl
  · obtain rfl : s = ⟨#[]⟩ := str_none s (by omega)
    rw [show (⟨#[]⟩ : ByteArray).data.toList = [] from rfl, okFan_nil, okLeaf_nil, okBranch_nil, okCommit_nil]
    have : okChunk ⟨#[]⟩ = false := by
      cases h : okChunk ⟨#[]⟩ with
      | false => rfl
      | true => have := head_chunk h; cases this
    rw [this]; rfl

/-! what was taken makes the very bytes again -/
theorem list_str (s : ByteArray) : (⟨s.data.toList.toArray⟩ : ByteArray) = s := rfl
theorem one_chunk (s : ByteArray) (hs : s.size ≤ 1048576) (h : okChunk s = true) : ∃ q H, (∀ w, Calls Tryd.prog 10 #[.string s] w fun e w' => e = .returned (.tuple #[.string q, .int .i64 0]) ∧ Mod (fun _ => False) w w') ∧
    ∀ w, Hash.Keys w → Calls Tryd.prog 11 #[.string q] w fun e w' => e = .returned (.tuple #[.agg #[.string H, .string s], .int .i64 0]) ∧ Mod (fun _ => False) w w' := by
  have h0 := h
  unfold okChunk at h
  have h := @of_decide_eq_true _ (Classical.propDecidable _) h
  obtain ⟨hp, h1, h2⟩ := h
  refine ⟨s.extract 1 s.size, ⟨(Hash.sha s.data.toList).toArray⟩, fun w => ?_, fun w hK => ?_⟩
  · have := takeChunk_calls s w (by omega)
    rw [chunkT_yes ⟨hp, h1, h2⟩] at this
    exact this
  · have hsz : (s.extract 1 s.size).size ≤ 1024 := by simp; omega
    have := chunk_calls (s.extract 1 s.size) w hK (by omega)
    have hb : chunkB (s.extract 1 s.size).data.toList = s.data.toList := by
      have hd : (s.extract 1 s.size).data.toList = s.data.toList.drop 1 := by
        rw [ByteArray.data_extract, Array.toList_extract, List.extract_eq_take_drop]
        rw [List.take_of_length_le (by simp)]
      have hh := head_chunk h0
      rw [hd]
      cases hl : s.data.toList with
      | nil => rw [hl] at hh; cases hh
      | cons a l => rw [hl] at hh; simp at hh; subst hh; rfl
    rw [hb, decide_eq_true hsz, Bool.not_true, putV_f] at this
    exact this
theorem none_chunk (s : ByteArray) (hs : s.size ≤ 1048576) (h : okChunk s = false) (w : World) : Calls Tryd.prog 10 #[.string s] w fun e w' => e = .returned (.tuple #[.string ⟨#[]⟩, .int .i64 81]) ∧ Mod (fun _ => False) w w' := by
  have := takeChunk_calls s w (by omega)
  unfold chunkT at this
  rw [h] at this
  exact this
theorem one_fan (s : ByteArray) (hs : s.size ≤ 1048576) (h : okFan s.data.toList = true) : ∃ (lv : Int) (kids : List Part) (H : ByteArray), (∀ w, Calls Tryd.prog 12 #[.string s] w fun e w' => ∃ v, e = .returned (.tuple #[.agg #[.int .i64 lv, v], .int .i64 0]) ∧ w'.ownsRow w.heap.size 86 2 v kids.length (kids.flatMap pc) ∧ Mod (fun _ => False) w w') ∧
    ∀ A c w, Hash.Keys w → Cells w A (kids.flatMap pc) → Calls Tryd.prog 13 #[.agg #[.int .i64 lv, .slice A kids.length c]] w fun e w' => e = .returned (.tuple #[.agg #[.string H, .string s], .int .i64 0]) ∧ Mod (fun _ => False) w w' := by
  obtain ⟨h1, h2⟩ := fan_sound _ h
  refine ⟨fanL s.data.toList, (rdFan s.data.toList).2, ⟨(Hash.sha s.data.toList).toArray⟩, fun w => ?_, fun A c w hK hA => ?_⟩
  · have := takeFan_calls s w (by omega)
    rw [h, show outFan s.data.toList = (fanL s.data.toList, (rdFan s.data.toList).2) by unfold outFan; rw [if_pos h]] at this
    exact this
  · have h3 := h2
    simp only [rightFan, inR, Bool.and_eq_true, decide_eq_true_eq] at h3
    have := fan_calls (fanL s.data.toList) A c (rdFan s.data.toList).2 w hK hA (by omega) (by unfold In64; omega) (fun p hp => by
      have := List.all_eq_true.1 h3.1.2 p hp
      simp only [partOk, inR, Bool.and_eq_true, decide_eq_true_eq] at this
      unfold In64; omega) (by rw [← h1]; simp; omega)
    rw [← h1, h2, Bool.not_true, putV_f] at this
    exact this
theorem none_fan (s : ByteArray) (hs : s.size ≤ 1048576) (h : okFan s.data.toList = false) (w : World) : Calls Tryd.prog 12 #[.string s] w fun e w' => ∃ v, e = .returned (.tuple #[.agg #[.int .i64 0, v], .int .i64 81]) ∧ w'.ownsRow w.heap.size 86 2 v 0 [] ∧ Mod (fun _ => False) w w' := by
  have := takeFan_calls s w (by omega)
  rw [h, show outFan s.data.toList = (0, []) by unfold outFan; rw [if_neg (by rw [h]; decide)]] at this
  exact this
theorem one_leaf (s : ByteArray) (hs : s.size ≤ 1048576) (h : okLeaf s.data.toList = true) : ∃ (kids : List Pair) (H : ByteArray), (∀ w, Calls Tryd.prog 14 #[.string s] w fun e w' => ∃ v, e = .returned (.tuple #[v, .int .i64 0]) ∧ w'.ownsRow w.heap.size 71 2 v kids.length (kids.flatMap kc) ∧ Mod (fun _ => False) w w') ∧
    ∀ A c w, Hash.Keys w → Cells w A (kids.flatMap kc) → Calls Tryd.prog 15 #[.slice A kids.length c] w fun e w' => e = .returned (.tuple #[.agg #[.string H, .string s], .int .i64 0]) ∧ Mod (fun _ => False) w w' := by
  obtain ⟨h1, h2⟩ := leaf_sound _ h
  refine ⟨(rdLeaf s.data.toList).2, ⟨(Hash.sha s.data.toList).toArray⟩, fun w => ?_, fun A c w hK hA => ?_⟩
  · have := takeLeaf_calls s w (by omega)
    rw [h, show outLeaf s.data.toList = (rdLeaf s.data.toList).2 by unfold outLeaf; rw [if_pos h]] at this
    exact this
  · have h3 := h2
    simp only [rightLeaf, inR, Bool.and_eq_true, decide_eq_true_eq] at h3
    have := leaf_calls A c (rdLeaf s.data.toList).2 w hK hA (by omega) (by rw [← h1]; simp; omega)
    rw [← h1, h2, Bool.not_true, putV_f] at this
    exact this
theorem none_leaf (s : ByteArray) (hs : s.size ≤ 1048576) (h : okLeaf s.data.toList = false) (w : World) : Calls Tryd.prog 14 #[.string s] w fun e w' => ∃ v, e = .returned (.tuple #[v, .int .i64 81]) ∧ w'.ownsRow w.heap.size 71 2 v 0 [] ∧ Mod (fun _ => False) w w' := by
  have := takeLeaf_calls s w (by omega)
  rw [h, show outLeaf s.data.toList = [] by unfold outLeaf; rw [if_neg (by rw [h]; decide)]] at this
  exact this
theorem one_branch (s : ByteArray) (hs : s.size ≤ 1048576) (h : okBranch s.data.toList = true) : ∃ (lv : Int) (kids : List Link) (H : ByteArray), (∀ w, Calls Tryd.prog 16 #[.string s] w fun e w' => ∃ v, e = .returned (.tuple #[.agg #[.int .i64 lv, v], .int .i64 0]) ∧ w'.ownsRow w.heap.size 96 3 v kids.length (kids.flatMap lc) ∧ Mod (fun _ => False) w w') ∧
    ∀ A c w, Hash.Keys w → Cells w A (kids.flatMap lc) → Calls Tryd.prog 17 #[.agg #[.int .i64 lv, .slice A kids.length c]] w fun e w' => e = .returned (.tuple #[.agg #[.string H, .string s], .int .i64 0]) ∧ Mod (fun _ => False) w w' := by
  obtain ⟨h1, h2⟩ := branch_sound _ h
  refine ⟨branchL s.data.toList, (rdBranch s.data.toList).2, ⟨(Hash.sha s.data.toList).toArray⟩, fun w => ?_, fun A c w hK hA => ?_⟩
  · have := takeBranch_calls s w (by omega)
    rw [h, show outBranch s.data.toList = (branchL s.data.toList, (rdBranch s.data.toList).2) by unfold outBranch; rw [if_pos h]] at this
    exact this
  · have h3 := h2
    simp only [rightBranch, inR, Bool.and_eq_true, decide_eq_true_eq] at h3
    have := branch_calls (branchL s.data.toList) A c (rdBranch s.data.toList).2 w hK hA (by omega) (by unfold In64; omega) (fun p hp => by
      have := List.all_eq_true.1 h3.1.1.2 p hp
      simp only [linkOk, inR, Bool.and_eq_true, decide_eq_true_eq] at this
      unfold In64; omega) (by rw [← h1]; simp; omega)
    rw [← h1, h2, Bool.not_true, putV_f] at this
    exact this
theorem none_branch (s : ByteArray) (hs : s.size ≤ 1048576) (h : okBranch s.data.toList = false) (w : World) : Calls Tryd.prog 16 #[.string s] w fun e w' => ∃ v, e = .returned (.tuple #[.agg #[.int .i64 0, v], .int .i64 81]) ∧ w'.ownsRow w.heap.size 96 3 v 0 [] ∧ Mod (fun _ => False) w w' := by
  have := takeBranch_calls s w (by omega)
  rw [h, show outBranch s.data.toList = (0, []) by unfold outBranch; rw [if_neg (by rw [h]; decide)]] at this
  exact this
theorem one_commit (s : ByteArray) (hs : s.size ≤ 1048576) (h : okCommit s.data.toList = true) : ∃ (C : Com) (H : ByteArray), (∀ w, Calls Tryd.prog 18 #[.string s] w fun e w' => ∃ v, e = .returned (.tuple #[.agg (comV C v), .int .i64 0]) ∧ w'.ownsRow w.heap.size 9 1 v C.pars.length (C.pars.map .string) ∧ Mod (fun _ => False) w w') ∧
    ∀ A c w, Hash.Keys w → Cells w A (C.pars.map .string) → Adr A c → C.pars.length ≤ c → Calls Tryd.prog 19 #[.agg (comC C A c)] w fun e w' => e = .returned (.tuple #[.agg #[.string H, .string s], .int .i64 0]) ∧ Mod (fun _ => False) w w' := by
  obtain ⟨h1, h2⟩ := commit_sound _ h
  refine ⟨rdCom s.data.toList, ⟨(Hash.sha s.data.toList).toArray⟩, fun w => ?_, fun A c w hK hA hAd hcap => ?_⟩
  · have := takeCommit_calls s w (by omega)
    rw [h, show outCommit s.data.toList = rdCom s.data.toList by unfold outCommit; rw [if_pos h]] at this
    exact this
  · obtain ⟨_, h4, _, _, h5, _⟩ := commit_parts h2
    have := commit_calls (rdCom s.data.toList) A c w hK hA hAd hcap (by omega) (by unfold In64; omega) (by rw [← h1]; simp; omega)
    rw [← h1, h2, Bool.not_true, putV_f] at this
    exact this
theorem none_commit (s : ByteArray) (hs : s.size ≤ 1048576) (h : okCommit s.data.toList = false) (w : World) : Calls Tryd.prog 18 #[.string s] w fun e w' => ∃ v, e = .returned (.tuple #[.agg (comV com0 v), .int .i64 81]) ∧ w'.ownsRow w.heap.size 9 1 v 0 [] ∧ Mod (fun _ => False) w w' := by
  have := takeCommit_calls s w (by omega)
  rw [h, show outCommit s.data.toList = com0 by unfold outCommit; rw [if_neg (by rw [h]; decide)]] at this
  exact this
set_option maxRecDepth 100000 in
set_option maxHeartbeats 4000000 in
theorem one_none (s : ByteArray) (w : World) (hK : Hash.Keys w) (hs : s.size ≤ 1048576) (h0 : okChunk s = false) (h1 : okFan s.data.toList = false) (h2 : okLeaf s.data.toList = false) (h3 : okBranch s.data.toList = false) (h4 : okCommit s.data.toList = false) :
    Calls Tryd.prog 3 #[.string s] w fun e w' => e = .returned (.bool true) ∧ Below w.heap.size w w' := by
  have hok : (namesL s).2 = false := by rw [names_ok, h0, h1, h2, h3, h4]; rfl
  have cSH := fun (w1 : World) (m : Mod (fun _ => False) w w1) => shown_calls w1 (hK.keep m (fun h => h))
  have cR := fun (w1 : World) => refs_calls s w1 (by omega)
  unfold NamesPost at cR
  rw [hok] at cR
  rw [show errV false = .int .i64 81 from rfl] at cR
  have c0 := none_chunk s hs h0
  have c1 := none_fan s hs h1
  have c2 := none_leaf s hs h2
  have c3 := none_branch s hs h3
  have c4 := none_commit s hs h4
  unfold comV com0 at c4
  dsimp only at c4
  have HSH := Lib.hid cSH
  have HR := Lib.hid cR
  have HK := Lib.hid hK
  have HC0 := Lib.hid c0
  have HC1 := Lib.hid c1
  have HC2 := Lib.hid c2
  have HC3 := Lib.hid c3
  have HC4 := Lib.hid c4
  clear cSH cR hK hok c0 h0 c1 h1 c2 h2 c3 h3 c4 h4
  generalize refsL s = RL at *
  go_enter Tryd.func3, Tryd.ntmps3
  go_wp2_with fail
  refine (HSH.out _ (Mod.refl _ _)).mono ?_
  rintro e w1 ⟨rfl, hm⟩
  have HM := Lib.hid hm
  clear hm HSH
  go_wp2_with fail
  refine (HC0.out _).mono ?_
  rintro e w2 ⟨rfl, hm⟩
  have HM := Lib.hid (Mod.trans HM.out hm (fun _ _ h => h))
  clear hm HC0
  go_wp2_with fail
  refine (HC1.out _).mono ?_
  rintro e w2 ⟨v, rfl, ho, hm⟩
  have HM := Lib.hid (Mod.trans HM.out hm (fun _ _ h => h))
  obtain ⟨A, c, rfl, hcap, hcl, hadr, _⟩ := own_cells ho
  have HCL := Lib.hid hcl
  clear hm ho hcl HC1
  have HM := Lib.hid (HM.out.alloc (.cells #[.int .i64 0, .slice A 0 c] 32))
  go_wp2_with fail
  refine (HC2.out _).mono ?_
  rintro e w2 ⟨v, rfl, ho, hm⟩
  have HM := Lib.hid (Mod.trans HM.out hm (fun _ _ h => h))
  obtain ⟨A, c, rfl, hcap, hcl, hadr, _⟩ := own_cells ho
  have HCL := Lib.hid hcl
  clear hm ho hcl HC2
  go_wp2_with fail
  refine (HC3.out _).mono ?_
  rintro e w2 ⟨v, rfl, ho, hm⟩
  have HM := Lib.hid (Mod.trans HM.out hm (fun _ _ h => h))
  obtain ⟨A, c, rfl, hcap, hcl, hadr, _⟩ := own_cells ho
  have HCL := Lib.hid hcl
  clear hm ho hcl HC3
  have HM := Lib.hid (HM.out.alloc (.cells #[.int .i64 0, .slice A 0 c] 42))
  go_wp2_with fail
  refine (HC4.out _).mono ?_
  rintro e w2 ⟨v, rfl, ho, hm⟩
  have HM := Lib.hid (Mod.trans HM.out hm (fun _ _ h => h))
  obtain ⟨A, c, rfl, hcap, hcl, hadr, _⟩ := own_cells ho
  have HCL := Lib.hid hcl
  clear hm ho hcl HC4
  have HM := Lib.hid (HM.out.alloc (.cells #[.string ⟨#[]⟩, .slice A 0 c, .string ⟨#[]⟩, .int .i64 0, .string ⟨#[]⟩] 48))
  go_wp2_with fail
  refine (HR.out _).mono ?_
  rintro e w4 ⟨v, rfl, ho, hm⟩
  have HM := Lib.hid (Mod.trans HM.out hm (fun _ _ h => h))
  clear hm ho
  go_wp2_with fail
  go_ret
  exact ⟨rfl, HM.out.below (fun _ _ h => h)⟩
set_option maxRecDepth 100000 in
set_option maxHeartbeats 4000000 in
theorem one_is_chunk (s : ByteArray) (w : World) (hK : Hash.Keys w) (hs : s.size ≤ 1048576) (h0 : okChunk s = true) (h1 : okFan s.data.toList = false) (h2 : okLeaf s.data.toList = false) (h3 : okBranch s.data.toList = false) (h4 : okCommit s.data.toList = false) :
    Calls Tryd.prog 3 #[.string s] w fun e w' => e = .returned (.bool true) ∧ Below w.heap.size w w' := by
  have hok : (namesL s).2 = true := by rw [names_ok, h0, h1, h2, h3, h4]; rfl
  have cSH := fun (w1 : World) (m : Mod (fun _ => False) w w1) => shown_calls w1 (hK.keep m (fun h => h))
  have cR := fun (w1 : World) => refs_calls s w1 (by omega)
  unfold NamesPost at cR
  rw [hok] at cR
  rw [show errV true = .int .i64 0 from rfl] at cR
  have c1 := none_fan s hs h1
  have c2 := none_leaf s hs h2
  have c3 := none_branch s hs h3
  have c4 := none_commit s hs h4
  obtain ⟨q, H, c0, m0⟩ := one_chunk s hs h0
  unfold comV com0 at c4
  dsimp only at c4
  have HSH := Lib.hid cSH
  have HR := Lib.hid cR
  have HK := Lib.hid hK
  have HC0 := Lib.hid c0
  have HC1 := Lib.hid c1
  have HC2 := Lib.hid c2
  have HC3 := Lib.hid c3
  have HC4 := Lib.hid c4
  have HMK := Lib.hid m0
  clear m0
  clear cSH cR hK hok c0 h0 c1 h1 c2 h2 c3 h3 c4 h4
  generalize refsL s = RL at *
  go_enter Tryd.func3, Tryd.ntmps3
  go_wp2_with fail
  refine (HSH.out _ (Mod.refl _ _)).mono ?_
  rintro e w1 ⟨rfl, hm⟩
  have HM := Lib.hid hm
  clear hm HSH
  go_wp2_with fail
  refine (HC0.out _).mono ?_
  rintro e w2 ⟨rfl, hm⟩
  have HM := Lib.hid (Mod.trans HM.out hm (fun _ _ h => h))
  clear hm HC0
  go_wp2_with fail
  refine (HMK.out _ (HK.out.keep HM.out (fun h => h))).mono ?_
  rintro e w3 ⟨rfl, hm⟩
  have HM := Lib.hid ((Mod.trans HM.out hm (fun _ _ h => h)).alloc (.cells #[.string H, .string s] 27))
  clear hm HMK
  go_wp2_with fail
  refine (HC1.out _).mono ?_
  rintro e w2 ⟨v, rfl, ho, hm⟩
  have HM := Lib.hid (Mod.trans HM.out hm (fun _ _ h => h))
  obtain ⟨A, c, rfl, hcap, hcl, hadr, _⟩ := own_cells ho
  have HCL := Lib.hid hcl
  clear hm ho hcl HC1
  have HM := Lib.hid (HM.out.alloc (.cells #[.int .i64 0, .slice A 0 c] 32))
  go_wp2_with fail
  refine (HC2.out _).mono ?_
  rintro e w2 ⟨v, rfl, ho, hm⟩
  have HM := Lib.hid (Mod.trans HM.out hm (fun _ _ h => h))
  obtain ⟨A, c, rfl, hcap, hcl, hadr, _⟩ := own_cells ho
  have HCL := Lib.hid hcl
  clear hm ho hcl HC2
  go_wp2_with fail
  refine (HC3.out _).mono ?_
  rintro e w2 ⟨v, rfl, ho, hm⟩
  have HM := Lib.hid (Mod.trans HM.out hm (fun _ _ h => h))
  obtain ⟨A, c, rfl, hcap, hcl, hadr, _⟩ := own_cells ho
  have HCL := Lib.hid hcl
  clear hm ho hcl HC3
  have HM := Lib.hid (HM.out.alloc (.cells #[.int .i64 0, .slice A 0 c] 42))
  go_wp2_with fail
  refine (HC4.out _).mono ?_
  rintro e w2 ⟨v, rfl, ho, hm⟩
  have HM := Lib.hid (Mod.trans HM.out hm (fun _ _ h => h))
  obtain ⟨A, c, rfl, hcap, hcl, hadr, _⟩ := own_cells ho
  have HCL := Lib.hid hcl
  clear hm ho hcl HC4
  have HM := Lib.hid (HM.out.alloc (.cells #[.string ⟨#[]⟩, .slice A 0 c, .string ⟨#[]⟩, .int .i64 0, .string ⟨#[]⟩] 48))
  go_wp2_with fail
  refine (HR.out _).mono ?_
  rintro e w4 ⟨v, rfl, ho, hm⟩
  have HM := Lib.hid (Mod.trans HM.out hm (fun _ _ h => h))
  clear hm ho
  go_wp2_with fail
  go_ret
  exact ⟨rfl, HM.out.below (fun _ _ h => h)⟩
set_option maxRecDepth 100000 in
set_option maxHeartbeats 4000000 in
theorem one_is_fan (s : ByteArray) (w : World) (hK : Hash.Keys w) (hs : s.size ≤ 1048576) (h0 : okChunk s = false) (h1 : okFan s.data.toList = true) (h2 : okLeaf s.data.toList = false) (h3 : okBranch s.data.toList = false) (h4 : okCommit s.data.toList = false) :
    Calls Tryd.prog 3 #[.string s] w fun e w' => e = .returned (.bool true) ∧ Below w.heap.size w w' := by
  have hok : (namesL s).2 = true := by rw [names_ok, h0, h1, h2, h3, h4]; rfl
  have cSH := fun (w1 : World) (m : Mod (fun _ => False) w w1) => shown_calls w1 (hK.keep m (fun h => h))
  have cR := fun (w1 : World) => refs_calls s w1 (by omega)
  unfold NamesPost at cR
  rw [hok] at cR
  rw [show errV true = .int .i64 0 from rfl] at cR
  have c0 := none_chunk s hs h0
  have c2 := none_leaf s hs h2
  have c3 := none_branch s hs h3
  have c4 := none_commit s hs h4
  obtain ⟨lv, kids, H, c1, m1⟩ := one_fan s hs h1
  unfold comV com0 at c4
  dsimp only at c4
  have HSH := Lib.hid cSH
  have HR := Lib.hid cR
  have HK := Lib.hid hK
  have HC0 := Lib.hid c0
  have HC1 := Lib.hid c1
  have HC2 := Lib.hid c2
  have HC3 := Lib.hid c3
  have HC4 := Lib.hid c4
  have HMK := Lib.hid m1
  clear m1
  clear cSH cR hK hok c0 h0 c1 h1 c2 h2 c3 h3 c4 h4
  generalize refsL s = RL at *
  go_enter Tryd.func3, Tryd.ntmps3
  go_wp2_with fail
  refine (HSH.out _ (Mod.refl _ _)).mono ?_
  rintro e w1 ⟨rfl, hm⟩
  have HM := Lib.hid hm
  clear hm HSH
  go_wp2_with fail
  refine (HC0.out _).mono ?_
  rintro e w2 ⟨rfl, hm⟩
  have HM := Lib.hid (Mod.trans HM.out hm (fun _ _ h => h))
  clear hm HC0
  go_wp2_with fail
  refine (HC1.out _).mono ?_
  rintro e w2 ⟨v, rfl, ho, hm⟩
  have HM := Lib.hid (Mod.trans HM.out hm (fun _ _ h => h))
  obtain ⟨A, c, rfl, hcap, hcl, hadr, _⟩ := own_cells ho
  have HCL := Lib.hid hcl
  clear hm ho hcl HC1
  have HM := Lib.hid (HM.out.alloc (.cells #[.int .i64 lv, .slice A kids.length c] 32))
  have HCL := Lib.hid (HCL.out.alloc (.cells #[.int .i64 lv, .slice A kids.length c] 32))
  go_wp2_with fail
  refine (HMK.out _ _ _ (HK.out.keep HM.out (fun h => h)) HCL.out).mono ?_
  rintro e w3 ⟨rfl, hm⟩
  have HM := Lib.hid ((Mod.trans HM.out hm (fun _ _ h => h)).alloc (.cells #[.string H, .string s] 27))
  clear hm HMK
  go_wp2_with fail
  refine (HC2.out _).mono ?_
  rintro e w2 ⟨v, rfl, ho, hm⟩
  have HM := Lib.hid (Mod.trans HM.out hm (fun _ _ h => h))
  obtain ⟨A, c, rfl, hcap, hcl, hadr, _⟩ := own_cells ho
  have HCL := Lib.hid hcl
  clear hm ho hcl HC2
  go_wp2_with fail
  refine (HC3.out _).mono ?_
  rintro e w2 ⟨v, rfl, ho, hm⟩
  have HM := Lib.hid (Mod.trans HM.out hm (fun _ _ h => h))
  obtain ⟨A, c, rfl, hcap, hcl, hadr, _⟩ := own_cells ho
  have HCL := Lib.hid hcl
  clear hm ho hcl HC3
  have HM := Lib.hid (HM.out.alloc (.cells #[.int .i64 0, .slice A 0 c] 42))
  go_wp2_with fail
  refine (HC4.out _).mono ?_
  rintro e w2 ⟨v, rfl, ho, hm⟩
  have HM := Lib.hid (Mod.trans HM.out hm (fun _ _ h => h))
  obtain ⟨A, c, rfl, hcap, hcl, hadr, _⟩ := own_cells ho
  have HCL := Lib.hid hcl
  clear hm ho hcl HC4
  have HM := Lib.hid (HM.out.alloc (.cells #[.string ⟨#[]⟩, .slice A 0 c, .string ⟨#[]⟩, .int .i64 0, .string ⟨#[]⟩] 48))
  go_wp2_with fail
  refine (HR.out _).mono ?_
  rintro e w4 ⟨v, rfl, ho, hm⟩
  have HM := Lib.hid (Mod.trans HM.out hm (fun _ _ h => h))
  clear hm ho
  go_wp2_with fail
  go_ret
  exact ⟨rfl, HM.out.below (fun _ _ h => h)⟩
set_option maxRecDepth 100000 in
set_option maxHeartbeats 4000000 in
theorem one_is_leaf (s : ByteArray) (w : World) (hK : Hash.Keys w) (hs : s.size ≤ 1048576) (h0 : okChunk s = false) (h1 : okFan s.data.toList = false) (h2 : okLeaf s.data.toList = true) (h3 : okBranch s.data.toList = false) (h4 : okCommit s.data.toList = false) :
    Calls Tryd.prog 3 #[.string s] w fun e w' => e = .returned (.bool true) ∧ Below w.heap.size w w' := by
  have hok : (namesL s).2 = true := by rw [names_ok, h0, h1, h2, h3, h4]; rfl
  have cSH := fun (w1 : World) (m : Mod (fun _ => False) w w1) => shown_calls w1 (hK.keep m (fun h => h))
  have cR := fun (w1 : World) => refs_calls s w1 (by omega)
  unfold NamesPost at cR
  rw [hok] at cR
  rw [show errV true = .int .i64 0 from rfl] at cR
  have c0 := none_chunk s hs h0
  have c1 := none_fan s hs h1
  have c3 := none_branch s hs h3
  have c4 := none_commit s hs h4
  obtain ⟨kids, H, c2, m2⟩ := one_leaf s hs h2
  unfold comV com0 at c4
  dsimp only at c4
  have HSH := Lib.hid cSH
  have HR := Lib.hid cR
  have HK := Lib.hid hK
  have HC0 := Lib.hid c0
  have HC1 := Lib.hid c1
  have HC2 := Lib.hid c2
  have HC3 := Lib.hid c3
  have HC4 := Lib.hid c4
  have HMK := Lib.hid m2
  clear m2
  clear cSH cR hK hok c0 h0 c1 h1 c2 h2 c3 h3 c4 h4
  generalize refsL s = RL at *
  go_enter Tryd.func3, Tryd.ntmps3
  go_wp2_with fail
  refine (HSH.out _ (Mod.refl _ _)).mono ?_
  rintro e w1 ⟨rfl, hm⟩
  have HM := Lib.hid hm
  clear hm HSH
  go_wp2_with fail
  refine (HC0.out _).mono ?_
  rintro e w2 ⟨rfl, hm⟩
  have HM := Lib.hid (Mod.trans HM.out hm (fun _ _ h => h))
  clear hm HC0
  go_wp2_with fail
  refine (HC1.out _).mono ?_
  rintro e w2 ⟨v, rfl, ho, hm⟩
  have HM := Lib.hid (Mod.trans HM.out hm (fun _ _ h => h))
  obtain ⟨A, c, rfl, hcap, hcl, hadr, _⟩ := own_cells ho
  have HCL := Lib.hid hcl
  clear hm ho hcl HC1
  have HM := Lib.hid (HM.out.alloc (.cells #[.int .i64 0, .slice A 0 c] 32))
  go_wp2_with fail
  refine (HC2.out _).mono ?_
  rintro e w2 ⟨v, rfl, ho, hm⟩
  have HM := Lib.hid (Mod.trans HM.out hm (fun _ _ h => h))
  obtain ⟨A, c, rfl, hcap, hcl, hadr, _⟩ := own_cells ho
  have HCL := Lib.hid hcl
  clear hm ho hcl HC2
  go_wp2_with fail
  refine (HMK.out _ _ _ (HK.out.keep HM.out (fun h => h)) HCL.out).mono ?_
  rintro e w3 ⟨rfl, hm⟩
  have HM := Lib.hid ((Mod.trans HM.out hm (fun _ _ h => h)).alloc (.cells #[.string H, .string s] 27))
  clear hm HMK
  go_wp2_with fail
  refine (HC3.out _).mono ?_
  rintro e w2 ⟨v, rfl, ho, hm⟩
  have HM := Lib.hid (Mod.trans HM.out hm (fun _ _ h => h))
  obtain ⟨A, c, rfl, hcap, hcl, hadr, _⟩ := own_cells ho
  have HCL := Lib.hid hcl
  clear hm ho hcl HC3
  have HM := Lib.hid (HM.out.alloc (.cells #[.int .i64 0, .slice A 0 c] 42))
  go_wp2_with fail
  refine (HC4.out _).mono ?_
  rintro e w2 ⟨v, rfl, ho, hm⟩
  have HM := Lib.hid (Mod.trans HM.out hm (fun _ _ h => h))
  obtain ⟨A, c, rfl, hcap, hcl, hadr, _⟩ := own_cells ho
  have HCL := Lib.hid hcl
  clear hm ho hcl HC4
  have HM := Lib.hid (HM.out.alloc (.cells #[.string ⟨#[]⟩, .slice A 0 c, .string ⟨#[]⟩, .int .i64 0, .string ⟨#[]⟩] 48))
  go_wp2_with fail
  refine (HR.out _).mono ?_
  rintro e w4 ⟨v, rfl, ho, hm⟩
  have HM := Lib.hid (Mod.trans HM.out hm (fun _ _ h => h))
  clear hm ho
  go_wp2_with fail
  go_ret
  exact ⟨rfl, HM.out.below (fun _ _ h => h)⟩
set_option maxRecDepth 100000 in
set_option maxHeartbeats 4000000 in
theorem one_is_branch (s : ByteArray) (w : World) (hK : Hash.Keys w) (hs : s.size ≤ 1048576) (h0 : okChunk s = false) (h1 : okFan s.data.toList = false) (h2 : okLeaf s.data.toList = false) (h3 : okBranch s.data.toList = true) (h4 : okCommit s.data.toList = false) :
    Calls Tryd.prog 3 #[.string s] w fun e w' => e = .returned (.bool true) ∧ Below w.heap.size w w' := by
  have hok : (namesL s).2 = true := by rw [names_ok, h0, h1, h2, h3, h4]; rfl
  have cSH := fun (w1 : World) (m : Mod (fun _ => False) w w1) => shown_calls w1 (hK.keep m (fun h => h))
  have cR := fun (w1 : World) => refs_calls s w1 (by omega)
  unfold NamesPost at cR
  rw [hok] at cR
  rw [show errV true = .int .i64 0 from rfl] at cR
  have c0 := none_chunk s hs h0
  have c1 := none_fan s hs h1
  have c2 := none_leaf s hs h2
  have c4 := none_commit s hs h4
  obtain ⟨lv, kids, H, c3, m3⟩ := one_branch s hs h3
  unfold comV com0 at c4
  dsimp only at c4
  have HSH := Lib.hid cSH
  have HR := Lib.hid cR
  have HK := Lib.hid hK
  have HC0 := Lib.hid c0
  have HC1 := Lib.hid c1
  have HC2 := Lib.hid c2
  have HC3 := Lib.hid c3
  have HC4 := Lib.hid c4
  have HMK := Lib.hid m3
  clear m3
  clear cSH cR hK hok c0 h0 c1 h1 c2 h2 c3 h3 c4 h4
  generalize refsL s = RL at *
  go_enter Tryd.func3, Tryd.ntmps3
  go_wp2_with fail
  refine (HSH.out _ (Mod.refl _ _)).mono ?_
  rintro e w1 ⟨rfl, hm⟩
  have HM := Lib.hid hm
  clear hm HSH
  go_wp2_with fail
  refine (HC0.out _).mono ?_
  rintro e w2 ⟨rfl, hm⟩
  have HM := Lib.hid (Mod.trans HM.out hm (fun _ _ h => h))
  clear hm HC0
  go_wp2_with fail
  refine (HC1.out _).mono ?_
  rintro e w2 ⟨v, rfl, ho, hm⟩
  have HM := Lib.hid (Mod.trans HM.out hm (fun _ _ h => h))
  obtain ⟨A, c, rfl, hcap, hcl, hadr, _⟩ := own_cells ho
  have HCL := Lib.hid hcl
  clear hm ho hcl HC1
  have HM := Lib.hid (HM.out.alloc (.cells #[.int .i64 0, .slice A 0 c] 32))
  go_wp2_with fail
  refine (HC2.out _).mono ?_
  rintro e w2 ⟨v, rfl, ho, hm⟩
  have HM := Lib.hid (Mod.trans HM.out hm (fun _ _ h => h))
  obtain ⟨A, c, rfl, hcap, hcl, hadr, _⟩ := own_cells ho
  have HCL := Lib.hid hcl
  clear hm ho hcl HC2
  go_wp2_with fail
  refine (HC3.out _).mono ?_
  rintro e w2 ⟨v, rfl, ho, hm⟩
  have HM := Lib.hid (Mod.trans HM.out hm (fun _ _ h => h))
  obtain ⟨A, c, rfl, hcap, hcl, hadr, _⟩ := own_cells ho
  have HCL := Lib.hid hcl
  clear hm ho hcl HC3
  have HM := Lib.hid (HM.out.alloc (.cells #[.int .i64 lv, .slice A kids.length c] 42))
  have HCL := Lib.hid (HCL.out.alloc (.cells #[.int .i64 lv, .slice A kids.length c] 42))
  go_wp2_with fail
  refine (HMK.out _ _ _ (HK.out.keep HM.out (fun h => h)) HCL.out).mono ?_
  rintro e w3 ⟨rfl, hm⟩
  have HM := Lib.hid ((Mod.trans HM.out hm (fun _ _ h => h)).alloc (.cells #[.string H, .string s] 27))
  clear hm HMK
  go_wp2_with fail
  refine (HC4.out _).mono ?_
  rintro e w2 ⟨v, rfl, ho, hm⟩
  have HM := Lib.hid (Mod.trans HM.out hm (fun _ _ h => h))
  obtain ⟨A, c, rfl, hcap, hcl, hadr, _⟩ := own_cells ho
  have HCL := Lib.hid hcl
  clear hm ho hcl HC4
  have HM := Lib.hid (HM.out.alloc (.cells #[.string ⟨#[]⟩, .slice A 0 c, .string ⟨#[]⟩, .int .i64 0, .string ⟨#[]⟩] 48))
  go_wp2_with fail
  refine (HR.out _).mono ?_
  rintro e w4 ⟨v, rfl, ho, hm⟩
  have HM := Lib.hid (Mod.trans HM.out hm (fun _ _ h => h))
  clear hm ho
  go_wp2_with fail
  go_ret
  exact ⟨rfl, HM.out.below (fun _ _ h => h)⟩
set_option maxRecDepth 100000 in
set_option maxHeartbeats 4000000 in
theorem one_is_commit (s : ByteArray) (w : World) (hK : Hash.Keys w) (hs : s.size ≤ 1048576) (h0 : okChunk s = false) (h1 : okFan s.data.toList = false) (h2 : okLeaf s.data.toList = false) (h3 : okBranch s.data.toList = false) (h4 : okCommit s.data.toList = true) :
    Calls Tryd.prog 3 #[.string s] w fun e w' => e = .returned (.bool true) ∧ Below w.heap.size w w' := by
  have hok : (namesL s).2 = true := by rw [names_ok, h0, h1, h2, h3, h4]; rfl
  have cSH := fun (w1 : World) (m : Mod (fun _ => False) w w1) => shown_calls w1 (hK.keep m (fun h => h))
  have cR := fun (w1 : World) => refs_calls s w1 (by omega)
  unfold NamesPost at cR
  rw [hok] at cR
  rw [show errV true = .int .i64 0 from rfl] at cR
  have c0 := none_chunk s hs h0
  have c1 := none_fan s hs h1
  have c2 := none_leaf s hs h2
  have c3 := none_branch s hs h3
  obtain ⟨C, H, c4, m4⟩ := one_commit s hs h4
  obtain ⟨tree, pars, who, time, note⟩ := C
  unfold comV at c4
  unfold comC at m4
  dsimp only at c4 m4
  have HSH := Lib.hid cSH
  have HR := Lib.hid cR
  have HK := Lib.hid hK
  have HC0 := Lib.hid c0
  have HC1 := Lib.hid c1
  have HC2 := Lib.hid c2
  have HC3 := Lib.hid c3
  have HC4 := Lib.hid c4
  have HMK := Lib.hid m4
  clear m4
  clear cSH cR hK hok c0 h0 c1 h1 c2 h2 c3 h3 c4 h4
  generalize refsL s = RL at *
  go_enter Tryd.func3, Tryd.ntmps3
  go_wp2_with fail
  refine (HSH.out _ (Mod.refl _ _)).mono ?_
  rintro e w1 ⟨rfl, hm⟩
  have HM := Lib.hid hm
  clear hm HSH
  go_wp2_with fail
  refine (HC0.out _).mono ?_
  rintro e w2 ⟨rfl, hm⟩
  have HM := Lib.hid (Mod.trans HM.out hm (fun _ _ h => h))
  clear hm HC0
  go_wp2_with fail
  refine (HC1.out _).mono ?_
  rintro e w2 ⟨v, rfl, ho, hm⟩
  have HM := Lib.hid (Mod.trans HM.out hm (fun _ _ h => h))
  obtain ⟨A, c, rfl, hcap, hcl, hadr, _⟩ := own_cells ho
  have HCL := Lib.hid hcl
  clear hm ho hcl HC1
  have HM := Lib.hid (HM.out.alloc (.cells #[.int .i64 0, .slice A 0 c] 32))
  go_wp2_with fail
  refine (HC2.out _).mono ?_
  rintro e w2 ⟨v, rfl, ho, hm⟩
  have HM := Lib.hid (Mod.trans HM.out hm (fun _ _ h => h))
  obtain ⟨A, c, rfl, hcap, hcl, hadr, _⟩ := own_cells ho
  have HCL := Lib.hid hcl
  clear hm ho hcl HC2
  go_wp2_with fail
  refine (HC3.out _).mono ?_
  rintro e w2 ⟨v, rfl, ho, hm⟩
  have HM := Lib.hid (Mod.trans HM.out hm (fun _ _ h => h))
  obtain ⟨A, c, rfl, hcap, hcl, hadr, _⟩ := own_cells ho
  have HCL := Lib.hid hcl
  clear hm ho hcl HC3
  have HM := Lib.hid (HM.out.alloc (.cells #[.int .i64 0, .slice A 0 c] 42))
  go_wp2_with fail
  refine (HC4.out _).mono ?_
  rintro e w2 ⟨v, rfl, ho, hm⟩
  have HM := Lib.hid (Mod.trans HM.out hm (fun _ _ h => h))
  obtain ⟨A, c, rfl, hcap, hcl, hadr, _⟩ := own_cells ho
  have HCL := Lib.hid hcl
  clear hm ho hcl HC4
  have HM := Lib.hid (HM.out.alloc (.cells #[.string tree, .slice A pars.length c, .string who, .int .i64 time, .string note] 48))
  have HCL := Lib.hid (HCL.out.alloc (.cells #[.string tree, .slice A pars.length c, .string who, .int .i64 time, .string note] 48))
  go_wp2_with fail
  refine (HMK.out _ _ _ (HK.out.keep HM.out (fun h => h)) HCL.out hadr hcap).mono ?_
  rintro e w3 ⟨rfl, hm⟩
  have HM := Lib.hid ((Mod.trans HM.out hm (fun _ _ h => h)).alloc (.cells #[.string H, .string s] 27))
  clear hm HMK
  go_wp2_with fail
  refine (HR.out _).mono ?_
  rintro e w4 ⟨v, rfl, ho, hm⟩
  have HM := Lib.hid (Mod.trans HM.out hm (fun _ _ h => h))
  clear hm ho
  go_wp2_with fail
  go_ret
  exact ⟨rfl, HM.out.below (fun _ _ h => h)⟩
theorem one_calls (s : ByteArray) (w : World) (hK : Hash.Keys w) (hs : s.size ≤ 1048576) :
    Calls Tryd.prog 3 #[.string s] w fun e w' => e = .returned (.bool true) ∧ Below w.heap.size w w' := by
  have n1 := fun c hc h => not_kind (c := c) (@head_fan s.data.toList) hc h
  have n2 := fun c hc h => not_kind (c := c) (@head_leaf s.data.toList) hc h
  have n3 := fun c hc h => not_kind (c := c) (@head_branch s.data.toList) hc h
  have n4 := fun c hc h => not_kind (c := c) (@head_commit s.data.toList) hc h
  cases h0 : okChunk s with
  | true => have hh := head_chunk h0; exact one_is_chunk s w hK hs h0 (n1 _ hh (by decide)) (n2 _ hh (by decide)) (n3 _ hh (by decide)) (n4 _ hh (by decide))
  | false =>
  cases h1 : okFan s.data.toList with
  | true => have hh := head_fan h1; exact one_is_fan s w hK hs h0 h1 (n2 _ hh (by decide)) (n3 _ hh (by decide)) (n4 _ hh (by decide))
  | false =>
  cases h2 : okLeaf s.data.toList with
  | true => have hh := head_leaf h2; exact one_is_leaf s w hK hs h0 h1 h2 (n3 _ hh (by decide)) (n4 _ hh (by decide))
  | false =>
  cases h3 : okBranch s.data.toList with
  | true => have hh := head_branch h3; exact one_is_branch s w hK hs h0 h1 h2 h3 (n4 _ hh (by decide))
  | false =>
  cases h4 : okCommit s.data.toList with
  | true => exact one_is_commit s w hK hs h0 h1 h2 h3 h4
  | false => exact one_none s w hK hs h0 h1 h2 h3 h4
end Obj
end Go.Proofs.YtenamjldkaggcaaDoor
