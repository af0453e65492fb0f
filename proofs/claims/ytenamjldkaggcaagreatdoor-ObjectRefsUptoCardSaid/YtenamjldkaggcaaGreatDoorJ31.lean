/- Joined texts: ObjR4. -/
import Derived.Test.YtenamjldkaggcaaGreatDoorJ30
/- The reference's with; what names answers by kind of object; a region's step where two operations are ready. -/
namespace Go.Proofs.YtenamjldkaggcaaGreatDoor
set_option linter.unusedVariables false
set_option linter.unusedSimpArgs false
open Go.RowKit K Wire
namespace K
theorem two0S {S : Nat → Prop} {P : Program} {ops : Array Oper} {Q : Exit → Act → World → Prop} {oi oj : Oper} (i j : Nat) {fuel : Nat} {listed : Array Bool} {a : Act} {w : World} (hr : Region.ready .any ops listed = [i, j]) (hi : ops[i]? = some oi) (hj : ops[j]? = some oj)
    (hwi : Region.wanted oi (yielded ops a.tmps) = true) (hwj : Region.wanted oj (yielded ops a.tmps) = true)
    (h : oi.wp P a w (fun a' w' => (Mod S w w' ∨ pivot .any ops i = true) ∧ wpAnyM (Mod S) P .any ops Q fuel (listed.setIfInBounds i true) a' w') Q)
    (h' : oj.wp P a w (fun a' w' => (Mod S w w' ∨ pivot .any ops j = true) ∧ wpAnyM (Mod S) P .any ops Q fuel (listed.setIfInBounds j true) a' w') Q) : wpAnyM (Mod S) P .any ops Q (fuel + 1) listed a w :=
  wpAnyM_two i j hr (by unfold wpOp; simp only [hi, hwi, if_true]; exact .inl h) (by unfold wpOp; simp only [hj, hwj, if_true]; exact .inl h')
theorem mod_realloc {S : Nat → Prop} {w : World} {o o' : Obj} (h : S w.heap.size) : Mod S (w.alloc o) (w.alloc o') := by
  refine ⟨rfl, rfl, rfl, by simp, fun k hk hs => ?_⟩
  have : k < w.heap.size := by
    rcases Nat.lt_or_ge k w.heap.size with h1 | h1
    · exact h1
    · have h2 : k < w.heap.size + 1 := by simpa using hk
      obtain rfl : k = w.heap.size := by omega
      exact absurd h hs
  rw [Below.heap_alloc _ _ _ this, Below.heap_alloc _ _ _ this]
end K
namespace Obj

/-- a list with an element, once -/
def dd (l : List ByteArray) (x : ByteArray) : List ByteArray := if Lib.containsS l x then l else l ++ [x]
theorem dd_in {l : List ByteArray} {x : ByteArray} (h : x ∈ l) : dd l x = l := by unfold dd; rw [if_pos ((Lib.containsS_iff l x).2 h)]
theorem dd_out {l : List ByteArray} {x : ByteArray} (h : ¬ x ∈ l) : dd l x = l ++ [x] := by unfold dd; rw [if_neg (fun k => h ((Lib.containsS_iff l x).1 k))]
theorem dedup_nil : dedup [] = [] := rfl
theorem dedup_snoc (l : List ByteArray) (x : ByteArray) : dedup (l ++ [x]) = dd (dedup l) x := by unfold dedup dd; rw [List.foldl_append]; rfl
theorem dedup_len' (l : List ByteArray) : (dedup l).length ≤ l.length := by
  have := dedup_len l l.length (Nat.le_refl _)
  rwa [List.take_length] at this

set_option maxRecDepth 100000 in
set_option maxHeartbeats 1000000 in
theorem with_calls (B : Nat) (v : Value) (zs : List ByteArray) (x : ByteArray) (w : World) (ho : w.ownsRow B 9 1 v zs.length (zs.map .string)) (hB : B ≤ w.heap.size) (hn : zs.length ≤ 100000) :
    Calls Tryz.prog 16 #[v, .string x] w fun e w' => ∃ v', e = .returned v' ∧ w'.ownsRow B 9 1 v' (dd zs x).length ((dd zs x).map .string) ∧ Mod (fun k => B ≤ k ∧ v.ownBlock = some k) w w' := by
  obtain ⟨A, c, rfl, _, hcl, _, _⟩ := own_cells ho
  have HO := Lib.hid ho
  have HCL := Lib.hid hcl
  clear ho hcl
  go_enter Tryz.func16, Tryz.ntmps16
  go_wp2_with fail
  go_loopw [5] (fun i wr => ∃ k : Nat, i = .int .i64 k ∧ k ≤ zs.length ∧ Hid (∀ j, (h : j < zs.length) → j < k → zs[j] ≠ x) ∧ wr = w) (fun i _ => zs.length - (intOf i).toNat)
  case atStart => exact ⟨0, by go_num, Nat.zero_le _, Lib.hid (fun j _ hj => absurd hj (Nat.not_lt_zero _)), rfl⟩
  case round =>
    obtain ⟨k, rfl, hk, HN, rfl⟩ := hrel
    by_cases hlt : k < zs.length
    · have i1 : (k : Int) < (zs.length : Int) := by omega
      have i0 : (0 : Int) ≤ (k : Int) := by omega
      rcases HCL.out with h | ⟨ba, o, rfl, hcell⟩
      · have : zs = [] := by simpa using h
        subst this; simp at hlt
      have y0 := str_cell hcell k hlt
      by_cases he : zs[k] = x
      · have hdd : dd zs x = zs := dd_in (by rw [← he]; exact List.getElem_mem hlt)
        rw [he] at y0
        have HDD := Lib.hid hdd
        clear hcell hdd he HCL
        go_wp2_with fail
        refine bodyPost_ret (v := .slice (some ⟨ba, o, none⟩) zs.length c) (by simp [results, Tryz.results16, go_sem]) rfl ⟨_, rfl, by rw [HDD.out]; exact HO.out, Mod.refl _ _⟩
      · have hn2 : ∀ j, (h : j < zs.length) → j < k + 1 → zs[j] ≠ x := fun j h hj => by
          by_cases e : j = k
          · subst e; exact he
          · exact HN.out j h (by omega)
        have HN2 := Lib.hid hn2
        obtain ⟨y, hy⟩ : ∃ y, zs[k] = y := ⟨_, rfl⟩
        rw [hy] at y0 he
        have heq : (y.toList == x.toList) = false := (Lib.bytes_beq_false_iff _ _).2 he
        clear hcell hn2 he hy
        go_wp2_with fail
        go_roundw
        case rel => exact ⟨k + 1, by go_num, by omega, HN2, trivial⟩
        case measure => simp [intOf]; omega
    · have i1 : ¬ (k : Int) < (zs.length : Int) := by omega
      have hdd : dd zs x = zs ++ [x] := dd_out (fun hm => by
        obtain ⟨j, hj, he⟩ := List.getElem_of_mem hm
        exact HN.out j hj (by omega) he)
      have HDD := Lib.hid hdd
      have hbw : B ≤ (wr.alloc (.cells #[.string x] 9)).heap.size := by simp; omega
      clear hdd HN HCL
      go_wp2_with (first
        | (at_builtin
           go_must (refine app (.tmp 19) (.tmp 21) str_t B (.slice A zs.length c) zs.length (zs.map .string) (HO.out.alloc _) ⟨wr.heap.size, 0, none⟩ 1 1 [.string x] rfl rfl rfl rfl rfl (cells_new wr _ _) (by intro u hu; simp at hu; rcases hu with rfl; rfl) (by omega) (by unfold maxLen; omega) hbw ?_; intro v7 w7 ho hm7)
           have hv7 : w7.ownsRow B 9 1 v7 (dd zs x).length ((dd zs x).map .string) := by rw [HDD.out, List.length_append, List.map_append]; exact ho
           have HV7 := Lib.hid hv7
           have HM7 := Lib.hid (Mod.trans ((Mod.refl (fun k => B ≤ k ∧ (Value.slice A zs.length c).ownBlock = some k) wr).alloc (.cells #[.string x] 9)) hm7 (fun i hi h => h))
           clear ho hm7 hv7))
      refine bodyPost_ret (v := v7) (by simp [results, Tryz.results16, go_sem]) rfl ⟨_, rfl, HV7.out, HM7.out⟩

/-! what names answers, by kind -/
theorem byte_of {s : ByteArray} {b : UInt8} (hh : s.data.toList.head? = some b) : ∃ hp : 0 < s.size, s[0]'hp = b := by
  have hp : 0 < s.size := by
    rcases Nat.eq_zero_or_pos s.size with h0 | h0
    · obtain rfl := str_none s h0; cases hh
    · exact h0
  refine ⟨hp, ?_⟩
  rw [List.head?_eq_getElem?, Lib.data_getElem? s 0 hp] at hh
  exact Option.some.inj hh
theorem chunk_byte {s : ByteArray} (h : okChunk s = true) : s.data.toList.head? = some 67 := by
  unfold okChunk at h
  have h := @of_decide_eq_true _ (Classical.propDecidable _) h
  obtain ⟨hp, h1, _⟩ := h
  rw [List.head?_eq_getElem?, Lib.data_getElem? s 0 hp]
  exact congrArg some (UInt8.toNat_inj.1 h1)
theorem namesL_chunk (s : ByteArray) (h : okChunk s = true) : namesL s = ([], true) := by
  obtain ⟨hp, e⟩ := byte_of (chunk_byte h)
  unfold namesL
  rw [dif_pos hp, e, if_pos (by decide), h]
theorem namesL_fan (s : ByteArray) (h : okFan s.data.toList = true) : namesL s = ((outFan s.data.toList).2.map (·.id), true) := by
  obtain ⟨hp, e⟩ := byte_of (s := s) (b := 70) (by rw [(fan_sound _ h).1]; rfl)
  unfold namesL
  rw [dif_pos hp, e, if_neg (by decide), if_pos (by decide), h]
theorem namesL_branch (s : ByteArray) (h : okBranch s.data.toList = true) : namesL s = ((outBranch s.data.toList).2.map (·.id), true) := by
  obtain ⟨hp, e⟩ := byte_of (s := s) (b := 66) (by rw [(branch_sound _ h).1]; rfl)
  unfold namesL
  rw [dif_pos hp, e, if_neg (by decide), if_neg (by decide), if_pos (by decide), h]
theorem namesL_leaf (s : ByteArray) (h : okLeaf s.data.toList = true) : namesL s = (entIds (outLeaf s.data.toList), true) := by
  obtain ⟨hp, e⟩ := byte_of (s := s) (b := 76) (by rw [(leaf_sound _ h).1]; rfl)
  unfold namesL
  rw [dif_pos hp, e, if_neg (by decide), if_neg (by decide), if_neg (by decide), if_pos (by decide), h]
theorem namesL_commit (s : ByteArray) (h : okCommit s.data.toList = true) : namesL s = ((outCommit s.data.toList).tree :: (outCommit s.data.toList).pars, true) := by
  obtain ⟨hp, e⟩ := byte_of (s := s) (b := 75) (by rw [(commit_sound _ h).1]; rfl)
  unfold namesL
  rw [dif_pos hp, e, if_neg (by decide), if_neg (by decide), if_neg (by decide), if_neg (by decide), if_pos (by decide), h]
  unfold comIds
  rw [if_pos h]
theorem namesL_none (s : ByteArray) (h0 : okChunk s = false) (h1 : okFan s.data.toList = false) (h2 : okBranch s.data.toList = false) (h3 : okLeaf s.data.toList = false) (h4 : okCommit s.data.toList = false) : (namesL s).2 = false := by
  unfold namesL
  split
  · split
    · exact h0
    split
    · exact h1
    split
    · exact h2
    split
    · exact h3
    split
    · exact h4
    · rfl
  · rfl
theorem refsL_of {s : ByteArray} {l : List ByteArray} (h : namesL s = (l, true)) : refsL s = dedup l ∧ (namesL s).2 = true := by
  unfold refsL
  rw [h]
  exact ⟨if_pos rfl, rfl⟩
theorem refsL_none {s : ByteArray} (h : (namesL s).2 = false) : refsL s = [] := by
  unfold refsL
  rw [h]; rfl
theorem refsL_len (s : ByteArray) : (refsL s).length ≤ 64 := by
  unfold refsL
  split
  · exact Nat.le_trans (dedup_len' _) (namesL_len s)
  · simp
end Obj
end Go.Proofs.YtenamjldkaggcaaGreatDoor
