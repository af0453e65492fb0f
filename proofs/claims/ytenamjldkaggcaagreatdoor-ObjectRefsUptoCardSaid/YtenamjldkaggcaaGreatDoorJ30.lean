/- Joined texts: ObjR1, ObjR2, ObjR3. -/
import Derived.Test.YtenamjldkaggcaaGreatDoorJ29
import Derived.Test.YtenamjldkaggcaaGreatDoorJ21
import Derived.Test.YtenamjldkaggcaaGreatDoorJ25
import Derived.Test.YtenamjldkaggcaaGreatDoorJ18
import Derived.Test.YtenamjldkaggcaaGreatDoorJ22
/- The walk of object's names (which ids an object names), but for maps' leaves and commits. -/
namespace Go.Proofs.YtenamjldkaggcaaGreatDoor
set_option linter.unusedVariables false
set_option linter.unusedSimpArgs false
open Go.RowKit K Wire
namespace Obj

def NamesPost (l : List ByteArray) (ok : Bool) (w : World) (e : Ending) (w' : World) : Prop :=
  ∃ v, e = .returned (.tuple #[v, errV ok]) ∧ w'.ownsRow w.heap.size 9 1 v l.length (l.map .string) ∧ Mod (fun _ => False) w w'
theorem errV_ex (ok : Bool) : ∃ fe, errV ok = .int .i64 fe := ⟨_, rfl⟩

set_option maxRecDepth 100000 in
set_option maxHeartbeats 1000000 in
theorem names_empty (w : World) : Calls Tryz.prog 12 #[.string ⟨#[]⟩] w (NamesPost [] false w) := by
  go_enter Tryz.func12, Tryz.ntmps12
  go_wp2_with fail
  refine bodyPost_ret (v := .tuple #[.slice none 0 0, .int .i64 81]) (by simp [results, Tryz.results12, go_sem]) rfl ⟨_, rfl, World.ownsRow_nil _ _ _ _, Mod.refl _ _⟩
set_option maxRecDepth 100000 in
set_option maxHeartbeats 1000000 in
theorem names_none (s : ByteArray) (w : World) (hp : 0 < s.size) (h1 : (s[0]'hp).toNat ≠ 67) (h2 : (s[0]'hp).toNat ≠ 70) (h3 : (s[0]'hp).toNat ≠ 66) (h4 : (s[0]'hp).toNat ≠ 76) (h5 : (s[0]'hp).toNat ≠ 75) :
    Calls Tryz.prog 12 #[.string s] w (NamesPost [] false w) := by
  have he : s.toList.isEmpty = false := str_full s hp
  have hz : ((s.size : Int) == 0) = false := by simp; exact fun h => by rw [h] at hp; exact absurd hp (by decide)
  have hnz : ¬ s = ByteArray.empty := fun h => by rw [h] at hp; exact absurd hp (by decide)
  obtain ⟨c, hc⟩ : ∃ c, s[0] = c := ⟨_, rfl⟩
  have e0 : ∀ h : 0 < s.size, s[0]'h = c := fun _ => hc
  rw [hc] at h1 h2 h3 h4 h5
  have i1 : ((c.toNat : Int) == 67) = false := beq_eq_false_iff_ne.2 (by omega)
  have i2 : ((c.toNat : Int) == 70) = false := beq_eq_false_iff_ne.2 (by omega)
  have i3 : ((c.toNat : Int) == 66) = false := beq_eq_false_iff_ne.2 (by omega)
  have i4 : ((c.toNat : Int) == 76) = false := beq_eq_false_iff_ne.2 (by omega)
  have i5 : ((c.toNat : Int) == 75) = false := beq_eq_false_iff_ne.2 (by omega)
  clear h1 h2 h3 h4 h5 hc
  go_enter Tryz.func12, Tryz.ntmps12
  go_wp2_with fail
  refine bodyPost_ret (v := .tuple #[.slice none 0 0, .int .i64 81]) (by simp [results, Tryz.results12, go_sem]) rfl ⟨_, rfl, World.ownsRow_nil _ _ _ _, Mod.refl _ _⟩
set_option maxRecDepth 100000 in
set_option maxHeartbeats 1000000 in
theorem names_chunk (s : ByteArray) (w : World) (hs : s.size ≤ 100000000) (hp : 0 < s.size) (h : (s[0]'hp).toNat = 67) :
    Calls Tryz.prog 12 #[.string s] w (NamesPost [] (okChunk s) w) := by
  have HT := Lib.hid (fun w' => takeChunk_calls s w' hs)
  obtain ⟨q, hq⟩ : ∃ q, chunkT s = .tuple #[.string q, errV (okChunk s)] := ⟨_, rfl⟩
  obtain ⟨fe, hfe⟩ := errV_ex (okChunk s)
  rw [hq, hfe] at HT
  have HFE := Lib.hid hfe
  clear hq hfe
  have he : s.toList.isEmpty = false := str_full s hp
  have hz : ((s.size : Int) == 0) = false := by simp; exact fun h => by rw [h] at hp; exact absurd hp (by decide)
  have hnz : ¬ s = ByteArray.empty := fun h => by rw [h] at hp; exact absurd hp (by decide)
  obtain ⟨c, hc⟩ : ∃ c, s[0] = c := ⟨_, rfl⟩
  have e0 : ∀ h : 0 < s.size, s[0]'h = c := fun _ => hc
  rw [hc] at h
  have i1 : (c.toNat : Int) = 67 := by omega
  clear h hc
  go_enter Tryz.func12, Tryz.ntmps12
  go_wp2_with fail
  refine (HT.out _).mono ?_
  rintro e w1 ⟨rfl, hm⟩
  go_wp2_with fail
  refine bodyPost_ret (v := .tuple #[.slice none 0 0, .int .i64 fe]) (by simp [results, Tryz.results12, go_sem]) rfl ⟨_, by rw [HFE.out], World.ownsRow_nil _ _ _ _, hm⟩
set_option maxRecDepth 100000 in
set_option maxHeartbeats 2000000 in
theorem names_fan (s : ByteArray) (w : World) (hs : s.size ≤ 100000000) (hp : 0 < s.size) (h : (s[0]'hp).toNat = 70) :
    Calls Tryz.prog 12 #[.string s] w (NamesPost ((outFan s.data.toList).2.map (·.id)) (okFan s.data.toList) w) := by
  have HT := Lib.hid (fun w' => takeFan_calls s w' hs)
  have hkl := outFan_len s.data.toList
  obtain ⟨fe, hfe⟩ := errV_ex (okFan s.data.toList)
  rw [hfe] at HT
  have HFE := Lib.hid hfe
  generalize outFan s.data.toList = F at *
  obtain ⟨fl, kids⟩ := F
  dsimp only at *
  clear hfe
  have he : s.toList.isEmpty = false := str_full s hp
  have hz : ((s.size : Int) == 0) = false := by simp; exact fun h => by rw [h] at hp; exact absurd hp (by decide)
  have hnz : ¬ s = ByteArray.empty := fun h => by rw [h] at hp; exact absurd hp (by decide)
  obtain ⟨c, hc⟩ : ∃ c, s[0] = c := ⟨_, rfl⟩
  have e0 : ∀ h : 0 < s.size, s[0]'h = c := fun _ => hc
  rw [hc] at h
  have i1 : (c.toNat : Int) = 70 := by omega
  clear h hc
  go_enter Tryz.func12, Tryz.ntmps12
  go_wp2_with fail
  refine (HT.out _).mono ?_
  rintro e w1 ⟨v, rfl, ho, hm⟩
  have hB := (Has.new w [.int .i64 0, .slice none 0 0] 46).keep hm (fun h => h)
  have hM1 := Mod.trans ((Mod.refl (fun _ => False) w).alloc (.cells #[.int .i64 0, .slice none 0 0] 46)) hm (fun _ _ h => h)
  obtain ⟨A, cp, rfl, _, _, _, _⟩ := own_cells ho
  have k0 := hB.frozen 0
  have k1 := hB.frozen 1
  have q0 := hB.cell (o := 0) rfl
  have q1 := hB.cell (o := 1) rfl
  have hB2 := (hB.set 0 (.int .i64 fl)).set 1 (.slice A kids.length cp)
  have x1 := hB2.cell (o := 1) rfl
  have hv2 := own_store (own_store ho hB (by decide) 0 (.int .i64 fl)) (hB.set 0 (.int .i64 fl)) (by decide) 1 (.slice A kids.length cp)
  have hM2 := (hM1.setCell (p := ⟨w.heap.size, 0, none⟩) (.inr (Nat.le_refl _)) (.int .i64 fl)).setCell (p := ⟨w.heap.size, 1, none⟩) (.inr (Nat.le_refl _)) (.slice A kids.length cp)
  obtain ⟨A', cp', he', _, hcl, _, _⟩ := own_cells hv2
  obtain ⟨rfl, rfl⟩ : A = A' ∧ cp = cp' := by simpa using he'
  obtain ⟨w2, hw2⟩ : ∃ w2, (w1.setCell ⟨w.heap.size, 0, none⟩ (.int .i64 fl)).setCell ⟨w.heap.size, 1, none⟩ (.slice A kids.length cp) = w2 := ⟨_, rfl⟩
  rw [hw2] at x1 hM2 hcl
  have HCL := Lib.hid hcl
  have HM2 := Lib.hid hM2
  have HW2 := Lib.hid hw2
  rw [← hw2] at x1
  clear hB hM1 ho hm hB2 hv2 hM2 he' hcl hw2
  go_wp2_with fail
  rw [HW2.out]
  go_loopw [4, 40] (fun v i wr => ∃ (k : Nat), i = .int .i64 k ∧ k ≤ kids.length ∧ Hid (wr.ownsRow w2.heap.size 9 1 v k (((kids.take k).map (·.id)).map .string)) ∧ Hid (Mod (fun _ => False) w2 wr)) (fun _ i _ => kids.length - (intOf i).toNat)
  case atStart => exact ⟨0, by go_num, by omega, Lib.hid (World.ownsRow_nil _ _ _ _), Lib.hid (Mod.refl _ _)⟩
  case round =>
    obtain ⟨k, rfl, hk, HV, HM⟩ := hrel
    by_cases hlt : k < kids.length
    · have i1 : (k : Int) < (kids.length : Int) := by omega
      have i0 : (0 : Int) ≤ (k : Int) := by omega
      rcases HCL.out.keep HM.out (fun _ _ h => h) with h | ⟨ba, o, rfl, hcell⟩
      · have := flat_len pc_len kids; rw [h] at this; simp at this; omega
      have y0 := hcell _ _ (flat_get pc_len kids k 0 hlt (by omega))
      have y1 := hcell _ _ (flat_get pc_len kids k 1 hlt (by omega))
      rw [Nat.add_zero] at y0
      rw [← Nat.add_assoc] at y1
      have hst : ((kids.take (k + 1)).map (·.id)).map Value.string = ((kids.take k).map (·.id)).map Value.string ++ [.string kids[k].id] := by
        rw [List.take_succ_eq_append_getElem hlt, List.map_append, List.map_append]; rfl
      generalize kids[k] = p at *
      have hnew := cells_new (wr.alloc (.cells #[.string p.id, .int .i64 p.size] 51)) [.string p.id] 9
      rw [size_alloc] at hnew
      have hbz := HM.out.size
      have hbw : w2.heap.size ≤ ((wr.alloc (.cells #[.string p.id, .int .i64 p.size] 51)).alloc (.cells #[.string p.id] 9)).heap.size := by simp; omega
      have HST := Lib.hid hst
      clear hcell hst
      go_wp2_with (first
        | (at_builtin
           go_must (refine app (.tmp 44) (.tmp 47) str_t w2.heap.size u4 k (((kids.take k).map (·.id)).map .string) ((HV.out.alloc _).alloc _) ⟨wr.heap.size + 1, 0, none⟩ 1 1 [.string p.id] rfl rfl rfl rfl rfl hnew (by intro u hu; simp at hu; rcases hu with rfl; rfl) (by omega) (by unfold maxLen; omega) hbw ?_; intro v7 w7 ho hm7)
           have hv7 : w7.ownsRow w2.heap.size 9 1 v7 (k + 1) (((kids.take (k + 1)).map (·.id)).map .string) := by rw [HST.out]; exact ho
           have HV7 := Lib.hid hv7
           have HM7 := Lib.hid (Mod.trans ((HM.out.alloc _).alloc _) hm7 (fun i hi h => by have := h.1; omega))
           clear ho hm7 hv7))
      go_roundw
      case rel => exact ⟨k + 1, by go_num, by omega, HV7, HM7⟩
      case measure => simp [intOf]; omega
    · have hkl : k = kids.length := by omega
      have i1 : ¬ (k : Int) < (kids.length : Int) := by omega
      have hv := HV.out
      rw [hkl, List.take_length] at hv
      have HV9 := Lib.hid (own_base hv HM2.out.size)
      have HM9 := Lib.hid (Mod.trans HM2.out HM.out (fun _ _ h => h))
      clear hv hkl
      go_wp2_with fail
      refine bodyPost_ret (v := .tuple #[u4, .int .i64 fe]) (by simp [results, Tryz.results12, go_sem]) rfl ⟨u4, by rw [HFE.out], by rw [List.length_map]; exact HV9.out, HM9.out⟩
end Obj
end Go.Proofs.YtenamjldkaggcaaGreatDoor
/- The walk of object's names: maps' inner nodes, leaves. -/
namespace Go.Proofs.YtenamjldkaggcaaGreatDoor
set_option linter.unusedVariables false
set_option linter.unusedSimpArgs false
open Go.RowKit K Wire
namespace Obj

set_option maxRecDepth 100000 in
set_option maxHeartbeats 2000000 in
theorem names_branch (s : ByteArray) (w : World) (hs : s.size ≤ 100000000) (hp : 0 < s.size) (h : (s[0]'hp).toNat = 66) :
    Calls Tryz.prog 12 #[.string s] w (NamesPost ((outBranch s.data.toList).2.map (·.id)) (okBranch s.data.toList) w) := by
  have HT := Lib.hid (fun w' => takeBranch_calls s w' hs)
  have hkl := outBranch_len s.data.toList
  obtain ⟨fe, hfe⟩ := errV_ex (okBranch s.data.toList)
  rw [hfe] at HT
  have HFE := Lib.hid hfe
  generalize outBranch s.data.toList = F at *
  obtain ⟨fl, kids⟩ := F
  dsimp only at *
  clear hfe
  have he : s.toList.isEmpty = false := str_full s hp
  have hz : ((s.size : Int) == 0) = false := by simp; exact fun h => by rw [h] at hp; exact absurd hp (by decide)
  have hnz : ¬ s = ByteArray.empty := fun h => by rw [h] at hp; exact absurd hp (by decide)
  obtain ⟨c, hc⟩ : ∃ c, s[0] = c := ⟨_, rfl⟩
  have e0 : ∀ h : 0 < s.size, s[0]'h = c := fun _ => hc
  rw [hc] at h
  have i1 : (c.toNat : Int) = 66 := by omega
  clear h hc
  go_enter Tryz.func12, Tryz.ntmps12
  go_wp2_with fail
  refine (HT.out _).mono ?_
  rintro e w1 ⟨v, rfl, ho, hm⟩
  have hB := (Has.new w [.int .i64 0, .slice none 0 0] 54).keep hm (fun h => h)
  have hM1 := Mod.trans ((Mod.refl (fun _ => False) w).alloc (.cells #[.int .i64 0, .slice none 0 0] 54)) hm (fun _ _ h => h)
  obtain ⟨A, cp, rfl, _, _, _, _⟩ := own_cells ho
  have k0 := hB.frozen 0
  have k1 := hB.frozen 1
  have q0 := hB.cell (o := 0) rfl
  have q1 := hB.cell (o := 1) rfl
  have hB2 := (hB.set 0 (.int .i64 fl)).set 1 (.slice A kids.length cp)
  have x1 := hB2.cell (o := 1) rfl
  have hv2 := own_store (own_store ho hB (by decide) 0 (.int .i64 fl)) (hB.set 0 (.int .i64 fl)) (by decide) 1 (.slice A kids.length cp)
  have hM2 := (hM1.setCell (p := ⟨w.heap.size, 0, none⟩) (.inr (Nat.le_refl _)) (.int .i64 fl)).setCell (p := ⟨w.heap.size, 1, none⟩) (.inr (Nat.le_refl _)) (.slice A kids.length cp)
  obtain ⟨A', cp', he', _, hcl, _, _⟩ := own_cells hv2
  obtain ⟨rfl, rfl⟩ : A = A' ∧ cp = cp' := by simpa using he'
  obtain ⟨w2, hw2⟩ : ∃ w2, (w1.setCell ⟨w.heap.size, 0, none⟩ (.int .i64 fl)).setCell ⟨w.heap.size, 1, none⟩ (.slice A kids.length cp) = w2 := ⟨_, rfl⟩
  rw [hw2] at x1 hM2 hcl
  have HCL := Lib.hid hcl
  have HM2 := Lib.hid hM2
  have HW2 := Lib.hid hw2
  rw [← hw2] at x1
  clear hB hM1 ho hm hB2 hv2 hM2 he' hcl hw2
  go_wp2_with fail
  rw [HW2.out]
  go_loopw [4, 60] (fun v i wr => ∃ (k : Nat), i = .int .i64 k ∧ k ≤ kids.length ∧ Hid (wr.ownsRow w2.heap.size 9 1 v k (((kids.take k).map (·.id)).map .string)) ∧ Hid (Mod (fun _ => False) w2 wr)) (fun _ i _ => kids.length - (intOf i).toNat)
  case atStart => exact ⟨0, by go_num, by omega, Lib.hid (World.ownsRow_nil _ _ _ _), Lib.hid (Mod.refl _ _)⟩
  case round =>
    obtain ⟨k, rfl, hk, HV, HM⟩ := hrel
    by_cases hlt : k < kids.length
    · have i1 : (k : Int) < (kids.length : Int) := by omega
      have i0 : (0 : Int) ≤ (k : Int) := by omega
      rcases HCL.out.keep HM.out (fun _ _ h => h) with h | ⟨ba, o, rfl, hcell⟩
      · have := flat_len lc_len kids; rw [h] at this; simp at this; omega
      have y0 := hcell _ _ (flat_get lc_len kids k 0 hlt (by omega))
      have y1 := hcell _ _ (flat_get lc_len kids k 1 hlt (by omega))
      have y2 := hcell _ _ (flat_get lc_len kids k 2 hlt (by omega))
      rw [Nat.add_zero] at y0
      rw [← Nat.add_assoc] at y1 y2
      have hst : ((kids.take (k + 1)).map (·.id)).map Value.string = ((kids.take k).map (·.id)).map Value.string ++ [.string kids[k].id] := by
        rw [List.take_succ_eq_append_getElem hlt, List.map_append, List.map_append]; rfl
      generalize kids[k] = p at *
      have hnew := cells_new (wr.alloc (.cells #[.string p.last, .string p.id, .int .i64 p.many] 58)) [.string p.id] 9
      rw [size_alloc] at hnew
      have hbz := HM.out.size
      have hbw : w2.heap.size ≤ ((wr.alloc (.cells #[.string p.last, .string p.id, .int .i64 p.many] 58)).alloc (.cells #[.string p.id] 9)).heap.size := by simp; omega
      have HST := Lib.hid hst
      clear hcell hst
      go_wp2_with (first
        | (at_builtin
           go_must (refine app (.tmp 64) (.tmp 67) str_t w2.heap.size u4 k (((kids.take k).map (·.id)).map .string) ((HV.out.alloc _).alloc _) ⟨wr.heap.size + 1, 0, none⟩ 1 1 [.string p.id] rfl rfl rfl rfl rfl hnew (by intro u hu; simp at hu; rcases hu with rfl; rfl) (by omega) (by unfold maxLen; omega) hbw ?_; intro v7 w7 ho hm7)
           have hv7 : w7.ownsRow w2.heap.size 9 1 v7 (k + 1) (((kids.take (k + 1)).map (·.id)).map .string) := by rw [HST.out]; exact ho
           have HV7 := Lib.hid hv7
           have HM7 := Lib.hid (Mod.trans ((HM.out.alloc _).alloc _) hm7 (fun i hi h => by have := h.1; omega))
           clear ho hm7 hv7))
      go_roundw
      case rel => exact ⟨k + 1, by go_num, by omega, HV7, HM7⟩
      case measure => simp [intOf]; omega
    · have hkl : k = kids.length := by omega
      have i1 : ¬ (k : Int) < (kids.length : Int) := by omega
      have hv := HV.out
      rw [hkl, List.take_length] at hv
      have HV9 := Lib.hid (own_base hv HM2.out.size)
      have HM9 := Lib.hid (Mod.trans HM2.out HM.out (fun _ _ h => h))
      clear hv hkl
      go_wp2_with fail
      refine bodyPost_ret (v := .tuple #[u4, .int .i64 fe]) (by simp [results, Tryz.results12, go_sem]) rfl ⟨u4, by rw [HFE.out], by rw [List.length_map]; exact HV9.out, HM9.out⟩

theorem outLeaf_sizes (L : List UInt8) : ∀ p ∈ outLeaf L, p.key.size ≤ 64 ∧ p.val.size ≤ 128 := by
  unfold outLeaf
  split
  · rename_i h
    have h2 := (leaf_sound L h).2
    simp only [rightLeaf, Bool.and_eq_true] at h2
    intro p hp
    have := List.all_eq_true.1 h2.1.2 p hp
    simp only [pairOk, inR, Bool.and_eq_true, decide_eq_true_eq] at this
    omega
  · intro p hp; cases hp
/-- the ids of the entries among pairs -/
def entIds (l : List Pair) : List ByteArray := l.flatMap fun p => if okEntry p.key p.val.data.toList then [(outEntry p.key p.val.data.toList).id] else []
theorem entIds_len (l : List Pair) : (entIds l).length ≤ l.length := by
  induction l with
  | nil => simp [entIds]
  | cons a l ih =>
    have e : entIds (a :: l) = (if okEntry a.key a.val.data.toList then [(outEntry a.key a.val.data.toList).id] else []) ++ entIds l := by simp [entIds]
    rw [e, List.length_append, List.length_cons]
    split <;> simp <;> omega
set_option maxRecDepth 100000 in
set_option maxHeartbeats 2000000 in
theorem names_leaf (s : ByteArray) (w : World) (hs : s.size ≤ 100000000) (hp : 0 < s.size) (h : (s[0]'hp).toNat = 76) :
    Calls Tryz.prog 12 #[.string s] w (NamesPost (entIds (outLeaf s.data.toList)) (okLeaf s.data.toList) w) := by
  have HT := Lib.hid (fun w' => takeLeaf_calls s w' hs)
  have hkl := outLeaf_len s.data.toList
  have hks := outLeaf_sizes s.data.toList
  obtain ⟨fe, hfe⟩ := errV_ex (okLeaf s.data.toList)
  rw [hfe] at HT
  have HFE := Lib.hid hfe
  generalize outLeaf s.data.toList = kids at *
  have HKS := Lib.hid hks
  clear hfe hks
  have he : s.toList.isEmpty = false := str_full s hp
  have hz : ((s.size : Int) == 0) = false := by simp; exact fun h => by rw [h] at hp; exact absurd hp (by decide)
  have hnz : ¬ s = ByteArray.empty := fun h => by rw [h] at hp; exact absurd hp (by decide)
  obtain ⟨c, hc⟩ : ∃ c, s[0] = c := ⟨_, rfl⟩
  have e0 : ∀ h : 0 < s.size, s[0]'h = c := fun _ => hc
  rw [hc] at h
  have i1 : (c.toNat : Int) = 76 := by omega
  clear h hc
  go_enter Tryz.func12, Tryz.ntmps12
  go_wp2_with fail
  refine (HT.out _).mono ?_
  rintro e w2 ⟨v, rfl, ho, hm⟩
  obtain ⟨A, cp, rfl, _, hcl, _, _⟩ := own_cells ho
  have HCL := Lib.hid hcl
  have HM2 := Lib.hid hm
  clear ho hm hcl
  go_wp2_with fail
  go_loopw [4, 79] (fun v i wr => ∃ (k : Nat), i = .int .i64 k ∧ k ≤ kids.length ∧ Hid (wr.ownsRow w2.heap.size 9 1 v (entIds (kids.take k)).length ((entIds (kids.take k)).map .string)) ∧ Hid (Mod (fun _ => False) w2 wr)) (fun _ i _ => kids.length - (intOf i).toNat)
  case atStart => exact ⟨0, by go_num, by omega, Lib.hid (World.ownsRow_nil _ _ _ _), Lib.hid (Mod.refl _ _)⟩
  case round =>
    obtain ⟨k, rfl, hk, HV, HM⟩ := hrel
    by_cases hlt : k < kids.length
    · have i1 : (k : Int) < (kids.length : Int) := by omega
      have i0 : (0 : Int) ≤ (k : Int) := by omega
      rcases HCL.out.keep HM.out (fun _ _ h => h) with h | ⟨ba, o, rfl, hcell⟩
      · have := flat_len kc_len kids; rw [h] at this; simp at this; omega
      have y0 := hcell _ _ (flat_get kc_len kids k 0 hlt (by omega))
      have y1 := hcell _ _ (flat_get kc_len kids k 1 hlt (by omega))
      rw [Nat.add_zero] at y0
      rw [← Nat.add_assoc] at y1
      have hst : entIds (kids.take (k + 1)) = entIds (kids.take k) ++ (if okEntry kids[k].key kids[k].val.data.toList then [(outEntry kids[k].key kids[k].val.data.toList).id] else []) := by
        unfold entIds; rw [List.take_succ_eq_append_getElem hlt, List.flatMap_append]; simp
      have hln := entIds_len (kids.take k)
      rw [List.length_take] at hln
      have hsz := HKS.out kids[k] (List.getElem_mem hlt)
      generalize kids[k] = p at *
      have hT := fun w' => takeEntry_calls p.key p.val w' (by omega) (by omega)
      generalize outEntry p.key p.val.data.toList = E at *
      obtain ⟨name, kind, id, size⟩ := E
      unfold entC at hT
      dsimp only at hT hst
      obtain ⟨ok, hok⟩ : ∃ ok, okEntry p.key p.val.data.toList = ok := ⟨_, rfl⟩
      rw [hok] at hT hst
      have HT2 := Lib.hid hT
      have HST := Lib.hid hst
      generalize entIds (kids.take k) = l at *
      clear hcell hst hT hok
      cases ok with
      | false =>
        rw [show errV false = .int .i64 81 from rfl] at HT2
        go_wp2_with fail
        refine (HT2.out _).mono ?_
        rintro e w3 ⟨rfl, hm3⟩
        have hM3 := Mod.trans (HM.out.alloc (.cells #[.string p.key, .string p.val] 37)) hm3 (fun _ _ h => h)
        have hv3 := own_keep (HV.out.alloc (.cells #[.string p.key, .string p.val] 37)) hm3 (fun _ _ _ h => h)
        have hv4 := hv3.alloc (.cells #[.string name, .int .i64 kind, .string id, .int .i64 size] 60)
        have HM4 := Lib.hid (hM3.alloc (.cells #[.string name, .int .i64 kind, .string id, .int .i64 size] 60))
        have HV4 := Lib.hid hv4
        clear hm3 hM3 hv3 hv4
        go_wp2_with fail
        go_roundw
        case rel => exact ⟨k + 1, by go_num, by omega, Lib.hid (by rw [HST.out]; simpa using HV4.out), HM4⟩
        case measure => simp [intOf]; omega
      | true =>
        rw [show errV true = .int .i64 0 from rfl] at HT2
        go_wp2_with fail
        refine (HT2.out _).mono ?_
        rintro e w3 ⟨rfl, hm3⟩
        have hM3 := Mod.trans (HM.out.alloc (.cells #[.string p.key, .string p.val] 37)) hm3 (fun _ _ h => h)
        have hv3 := own_keep (HV.out.alloc (.cells #[.string p.key, .string p.val] 37)) hm3 (fun _ _ _ h => h)
        have HV3 := Lib.hid hv3
        have HM3 := Lib.hid hM3
        have hnew := cells_new (w3.alloc (.cells #[.string name, .int .i64 kind, .string id, .int .i64 size] 60)) [.string id] 9
        rw [size_alloc] at hnew
        have hbz := hM3.size
        have hbw : w2.heap.size ≤ ((w3.alloc (.cells #[.string name, .int .i64 kind, .string id, .int .i64 size] 60)).alloc (.cells #[.string id] 9)).heap.size := by simp; omega
        clear hm3 hM3 hv3
        go_wp2_with (first
          | (at_builtin
             go_must (refine app (.tmp 93) (.tmp 96) str_t w2.heap.size u4 l.length (l.map .string) ((HV3.out.alloc _).alloc _) ⟨w3.heap.size + 1, 0, none⟩ 1 1 [.string id] rfl rfl rfl rfl rfl hnew (by intro u hu; simp at hu; rcases hu with rfl; rfl) (by omega) (by unfold maxLen; omega) hbw ?_; intro v7 w7 ho hm7)
             have hv7 : w7.ownsRow w2.heap.size 9 1 v7 (l ++ [id]).length ((l ++ [id]).map .string) := by rw [List.length_append, List.map_append]; exact ho
             have HV7 := Lib.hid hv7
             have HM7 := Lib.hid (Mod.trans ((HM3.out.alloc _).alloc _) hm7 (fun i hi h => by have := h.1; omega))
             clear ho hm7 hv7))
        go_roundw
        case rel => exact ⟨k + 1, by go_num, by omega, Lib.hid (by rw [HST.out]; exact HV7.out), HM7⟩
        case measure => simp [intOf]; omega
    · have hkl : k = kids.length := by omega
      have i1 : ¬ (k : Int) < (kids.length : Int) := by omega
      have hv := HV.out
      rw [hkl, List.take_length] at hv
      have HV9 := Lib.hid (own_base hv HM2.out.size)
      have HM9 := Lib.hid (Mod.trans HM2.out HM.out (fun _ _ h => h))
      clear hv hkl
      go_wp2_with fail
      refine bodyPost_ret (v := .tuple #[u4, .int .i64 fe]) (by simp [results, Tryz.results12, go_sem]) rfl ⟨u4, by rw [HFE.out], HV9.out, HM9.out⟩
end Obj
end Go.Proofs.YtenamjldkaggcaaGreatDoor
/- The walk of object's names: commits; object's Refs. -/
namespace Go.Proofs.YtenamjldkaggcaaGreatDoor
set_option linter.unusedVariables false
set_option linter.unusedSimpArgs false
open Go.RowKit K Wire
namespace Obj

/-- append of a slice's elements, nil included, as a step of a drawn region -/
theorem app_stepG {P : Program} {w : World} {o : Oper} {a : Act} {K : Act → World → Prop} {Q : Exit → Act → World → Prop} (s x : Operand) {t e size bytes : Nat} (T : SliceT P t e size bytes)
    (base : Nat) (v : Value) (n : Nat) (xs : List Value) (hown : w.ownsRow base e size v n xs) (A : Option Addr) (m c : Nat) (news : List Value)
    (ho : o.op = .call { callee := .builtin .append, args := #[s, x], argTypes := #[t, t] })
    (hs : a.eval s = v) (hx : a.eval x = .slice A m c) (hl : news.length = m * size) (hA : Cells w A news) (h1 : ∀ u ∈ news, u.oneCell' = true)
    (hb : (n + m) * bytes ≤ 140737488355328) (hm : n + m ≤ maxLen) (hbase : base ≤ w.heap.size)
    (h : ∀ v' w', w'.ownsRow base e size v' (n + m) (xs ++ news) → Mod (fun k => base ≤ k ∧ v.ownBlock = some k) w w' → K (a.put o.dst v') w') : o.wp P a w K Q := by
  cases A with
  | some ad =>
    have hnews : ∀ j u, news[j]? = some u → w.cell? (ad.add j) = some u := by
      rcases hA with hA | ⟨b, o, hA, hc⟩
      · intro j u hj; rw [hA] at hj; simp at hj
      · obtain rfl := Option.some.inj hA
        intro j u hj; rw [Addr.add_lit]; exact hc j u hj
    exact app_step s x T base v n xs hown ad m c news ho hs hx hl hnews h1 hb hm hbase h
  | none =>
    obtain ⟨ht, hsz, i, z, hi, hz, hsize, hby, hzs⟩ := T
    have hn : news = [] := by
      rcases hA with hA | ⟨b, o, hA, _⟩
      · exact hA
      · cases hA
    subst hn
    have hm0 : m = 0 := by
      rcases Nat.eq_zero_or_pos m with h | h
      · exact h
      · have := Nat.mul_pos h hsz; simp at hl; omega
    subst hm0
    have hrun : (Builtin.append_ #[t, t] o.type #[v, .slice none 0 c]).run P w = .ok v w := by
      rcases hown.2 with ⟨rfl, rfl⟩ | ⟨g, cap, cur, rfl, hbg, hg, hnc, hcm, hcs, htake⟩
      · simp [Builtin.append_, run_underlying ht, sizeOf, typeInfo, hi, Builtin.lenOf, Builtin.firstCells]
      · simp [Builtin.append_, run_underlying ht, sizeOf, typeInfo, hi, Builtin.lenOf, Builtin.firstCells, hnc, storeCells]
    unfold Oper.wp execOp
    simp only [ho, resolve, invoke, builtin, Sem.run_bind, Sem.run_pure, Result.andThen_ok, List.map_toArray, List.map_cons, List.map_nil, hs, hx, hrun]
    exact h v w (by simpa using hown) (Mod.refl _ _)

def comIds (L : List UInt8) : List ByteArray := if okCommit L = true then (outCommit L).tree :: (outCommit L).pars else []
set_option maxRecDepth 100000 in
set_option maxHeartbeats 2000000 in
theorem names_commit (s : ByteArray) (w : World) (hs : s.size ≤ 100000000) (hp : 0 < s.size) (h : (s[0]'hp).toNat = 75) :
    Calls Tryz.prog 12 #[.string s] w (NamesPost (comIds s.data.toList) (okCommit s.data.toList) w) := by
  have HT := Lib.hid (fun w' => takeCommit_calls s w' hs)
  have hkl := outCommit_len s.data.toList
  obtain ⟨ids, hids⟩ : ∃ ids, comIds s.data.toList = ids := ⟨_, rfl⟩
  have hid1 : okCommit s.data.toList = true → ids = (outCommit s.data.toList).tree :: (outCommit s.data.toList).pars := fun h => by rw [← hids]; unfold comIds; rw [if_pos h]
  have hid2 : okCommit s.data.toList = false → ids = [] := fun h => by rw [← hids]; unfold comIds; rw [if_neg (by rw [h]; decide)]
  rw [hids]
  clear hids
  generalize okCommit s.data.toList = ok at *
  generalize outCommit s.data.toList = C at *
  obtain ⟨tree, pars, who, time, note⟩ := C
  unfold comV at HT
  dsimp only at *
  have HID1 := Lib.hid hid1
  have HID2 := Lib.hid hid2
  clear hid1 hid2
  have he : s.toList.isEmpty = false := str_full s hp
  have hz : ((s.size : Int) == 0) = false := by simp; exact fun h => by rw [h] at hp; exact absurd hp (by decide)
  have hnz : ¬ s = ByteArray.empty := fun h => by rw [h] at hp; exact absurd hp (by decide)
  obtain ⟨c, hc⟩ : ∃ c, s[0] = c := ⟨_, rfl⟩
  have e0 : ∀ h : 0 < s.size, s[0]'h = c := fun _ => hc
  rw [hc] at h
  have i1 : (c.toNat : Int) = 75 := by omega
  clear h hc
  obtain ⟨fe, hfe⟩ := errV_ex ok
  rw [hfe] at HT
  have HFE := Lib.hid hfe
  clear hfe
  go_enter Tryz.func12, Tryz.ntmps12
  go_wp2_with fail
  refine (HT.out _).mono ?_
  rintro e w1 ⟨v, rfl, ho, hm⟩
  have hB := (Has.new w [.string ⟨#[]⟩, .slice none 0 0, .string ⟨#[]⟩, .int .i64 0, .string ⟨#[]⟩] 64).keep hm (fun h => h)
  have hM1 := Mod.trans ((Mod.refl (fun _ => False) w).alloc (.cells #[.string ⟨#[]⟩, .slice none 0 0, .string ⟨#[]⟩, .int .i64 0, .string ⟨#[]⟩] 64)) hm (fun _ _ h => h)
  obtain ⟨A, cp, rfl, _, hcl, _, _⟩ := own_cells ho
  have k0 := hB.frozen 0
  have k1 := hB.frozen 1
  have k2 := hB.frozen 2
  have k3 := hB.frozen 3
  have k4 := hB.frozen 4
  have q0 := hB.cell (o := 0) rfl
  have q1 := hB.cell (o := 1) rfl
  have q2 := hB.cell (o := 2) rfl
  have q3 := hB.cell (o := 3) rfl
  have q4 := hB.cell (o := 4) rfl
  have hB2 := ((((hB.set 0 (.string tree)).set 1 (.slice A pars.length cp)).set 2 (.string who)).set 3 (.int .i64 time)).set 4 (.string note)
  have hM2 := mod_set5 hM1 (.inr (Nat.le_refl _)) (.string tree) (.slice A pars.length cp) (.string who) (.int .i64 time) (.string note)
  have hcl2 := hcl.keep (mod_set5 (S := fun k => k = w.heap.size) (Mod.refl _ w1) (.inl rfl) (.string tree) (.slice A pars.length cp) (.string who) (.int .i64 time) (.string note)) (fun a ha hab => has_ne hB (own_row ho (k := a.block) (by rw [ha]; rfl)) (by decide) hab)
  obtain ⟨w2, hw2⟩ : ∃ w2, ((((w1.setCell ⟨w.heap.size, 0, none⟩ (.string tree)).setCell ⟨w.heap.size, 1, none⟩ (.slice A pars.length cp)).setCell ⟨w.heap.size, 2, none⟩ (.string who)).setCell ⟨w.heap.size, 3, none⟩ (.int .i64 time)).setCell ⟨w.heap.size, 4, none⟩ (.string note) = w2 := ⟨_, rfl⟩
  rw [hw2] at hB2 hM2 hcl2
  have HB2 := Lib.hid hB2
  have HM2 := Lib.hid hM2
  have HCL2 := Lib.hid hcl2
  have HW2 := Lib.hid hw2
  clear hB hM1 ho hm hB2 hM2 hcl hcl2 hw2
  cases ok with
  | false =>
    obtain rfl : fe = 81 := by have := HFE.out; simp [errV] at this; exact this.symm
    go_wp2_with fail
    rw [HW2.out]
    refine bodyPost_ret (v := .tuple #[.slice none 0 0, .int .i64 81]) (by simp [results, Tryz.results12, go_sem]) rfl ⟨.slice none 0 0, rfl, by rw [HID2.out (by simp)]; exact World.ownsRow_nil _ _ _ _, HM2.out⟩
  | true =>
    obtain rfl : fe = 0 := by have := HFE.out; simp [errV] at this; exact this.symm
    go_wp2_with fail
    rw [HW2.out]
    have x0 := HB2.out.cell (o := 0) rfl
    have x1 := HB2.out.cell (o := 1) rfl
    have hbl := HB2.out.lt
    have fv0 := fun (w' : World) (h : Mod (fun k => w2.heap.size ≤ k) w2.drew w') => (h.cell (p := ⟨w.heap.size, 0, none⟩) hbl (by show ¬ w2.heap.size ≤ w.heap.size; omega)).trans x0
    have fv1 := fun (w' : World) (h : Mod (fun k => w2.heap.size ≤ k) w2.drew w') => (h.cell (p := ⟨w.heap.size, 1, none⟩) hbl (by show ¬ w2.heap.size ≤ w.heap.size; omega)).trans x1
    refine region_mS (fun k => w2.heap.size ≤ k) (by kernel_rfl) ?_
    simp only [List.length_cons, List.length_nil, List.replicate]
    refine take0S (v := ?v1) (oi := ?o1) 0 ?hi1 (by kernel_rfl) (by kernel_rfl) (by kernel_rfl) ?hq1 ?hy1 ?_
    case hi1 => (simp only [List.getElem?_toArray, List.getElem?_cons_zero, List.getElem?_cons_succ]; rfl)
    case hq1 => exact fun _ _ _ h => h
    case hy1 => first | (refine ry_notS ?_; rfl) | (refine ry_runS (by rfl) (fun w' hw' => ?_); go_simp; try rfl)
    simp only [Act.put, List.setIfInBounds_toArray, List.set_cons_zero, List.set_cons_succ]
    refine take0S (v := ?v2) (oi := ?o2) 1 ?hi2 (by kernel_rfl) (by kernel_rfl) (by kernel_rfl) ?hq2 ?hy2 ?_
    case hi2 => (simp only [List.getElem?_toArray, List.getElem?_cons_zero, List.getElem?_cons_succ]; rfl)
    case hq2 => exact fun _ _ _ h => h
    case hy2 => first | (refine ry_notS ?_; rfl) | (refine ry_runS (by rfl) (fun w' hw' => ?_); go_simp; try rfl)
    simp only [Act.put, List.setIfInBounds_toArray, List.set_cons_zero, List.set_cons_succ]
    refine take0S (v := ?v3) (oi := ?o3) 2 ?hi3 (by kernel_rfl) (by kernel_rfl) (by kernel_rfl) ?hq3 ?hy3 ?_
    case hi3 => (simp only [List.getElem?_toArray, List.getElem?_cons_zero, List.getElem?_cons_succ]; rfl)
    case hq3 => exact fun _ _ _ h => h
    case hy3 => first | (refine ry_notS ?_; rfl) | (refine ry_runS (by rfl) (fun w' hw' => ?_); go_simp; try rfl)
    simp only [Act.put, List.setIfInBounds_toArray, List.set_cons_zero, List.set_cons_succ]
    refine take0S (v := ?v4) (oi := ?o4) 5 ?hi4 (by kernel_rfl) (by kernel_rfl) (by kernel_rfl) ?hq4 ?hy4 ?_
    case hi4 => (simp only [List.getElem?_toArray, List.getElem?_cons_zero, List.getElem?_cons_succ]; rfl)
    case hq4 => exact fun _ _ _ h => h
    case hy4 => first | (refine ry_notS ?_; rfl) | (refine ry_runS (by rfl) (fun w' hw' => ?_); go_simp; try rfl)
    simp only [Act.put, List.setIfInBounds_toArray, List.set_cons_zero, List.set_cons_succ]
    refine take0S (v := ?v5) (oi := ?o5) 6 ?hi5 (by kernel_rfl) (by kernel_rfl) (by kernel_rfl) ?hq5 ?hy5 ?_
    case hi5 => (simp only [List.getElem?_toArray, List.getElem?_cons_zero, List.getElem?_cons_succ]; rfl)
    case hq5 => exact fun _ _ _ h => h
    case hy5 => first | (refine ry_notS ?_; rfl) | (refine ry_runS (by rfl) (fun w' hw' => ?_); go_simp; try rfl)
    simp only [Act.put, List.setIfInBounds_toArray, List.set_cons_zero, List.set_cons_succ]
    refine step0S (o := ?o6) 3 (by kernel_rfl) ?hi6 ?hw6 ?_
    case hi6 => (simp only [List.getElem?_toArray, List.getElem?_cons_zero, List.getElem?_cons_succ]; rfl)
    case hw6 => rfl
    go_simp
    refine ⟨.inl (Mod.alloc (Mod.refl _ _) _), ?_⟩
    refine step0S (o := ?o7) 4 (by kernel_rfl) ?hi7 ?hw7 ?_
    case hi7 => (simp only [List.getElem?_toArray, List.getElem?_cons_zero, List.getElem?_cons_succ]; rfl)
    case hw7 => rfl
    refine app_step (.tmp 108) (.tmp 111) str_t w2.heap.size (.slice none 0 0) 0 [] (World.ownsRow_nil _ _ _ _) ⟨w2.heap.size, 0, none⟩ 1 1 [.string tree] rfl rfl rfl rfl (cells_new w2.drew _ _) (by intro u hu; simp at hu; rcases hu with rfl; rfl) (by omega) (by unfold maxLen; omega) (by simp) ?_
    intro v5 w5 ho5 hm5
    refine ⟨.inl (hm5.mono fun _ _ h => h.1), ?_⟩
    have hM5 : Mod (fun _ => False) w2 w5 := Mod.trans ((Mod.refl (fun _ => False) w2).drew.alloc (.cells #[.string tree] 9)) hm5 (fun i hi h => by have := h.1; omega)
    simp only [Act.put, List.setIfInBounds_toArray, List.set_cons_zero, List.set_cons_succ]
    refine step0S (o := ?o8) 7 (by kernel_rfl) ?hi8 ?hw8 ?_
    case hi8 => (simp only [List.getElem?_toArray, List.getElem?_cons_zero, List.getElem?_cons_succ]; rfl)
    case hw8 => rfl
    refine app_stepG (.tmp 112) (.tmp 114) str_t w2.heap.size v5 1 [.string tree] ho5 A pars.length cp (pars.map .string) rfl rfl rfl (by simp) (HCL2.out.keep hM5 (fun _ _ h => h)) (by intro u hu; obtain ⟨q, _, rfl⟩ := List.mem_map.1 hu; rfl) (by omega) (by unfold maxLen; omega) hM5.size ?_
    intro v6 w6 ho6 hm6
    refine ⟨.inl (hm6.mono fun _ _ h => h.1), ?_⟩
    simp only [Act.put, List.setIfInBounds_toArray, List.set_cons_zero, List.set_cons_succ]
    refine take0S (v := ?v9) (oi := ?o9) 8 ?hi9 (by kernel_rfl) (by kernel_rfl) (by kernel_rfl) ?hq9 ?hy9 ?_
    case hi9 => (simp only [List.getElem?_toArray, List.getElem?_cons_zero, List.getElem?_cons_succ]; rfl)
    case hq9 => exact fun _ _ _ h => h
    case hy9 => first | (refine ry_notS ?_; rfl) | (refine ry_runS (by rfl) (fun w' hw' => ?_); go_simp; try rfl)
    simp only [Act.put, List.setIfInBounds_toArray, List.set_cons_zero, List.set_cons_succ]
    refine wpAnyM_done (by kernel_rfl) ?_
    have hM6 := Mod.trans (Mod.trans HM2.out hM5 (fun _ _ h => h)) hm6 (fun i hi h => by have := h.1; have := HM2.out.size; omega)
    have ho7 : w6.ownsRow w.heap.size 9 1 v6 ids.length (ids.map .string) := by
      rw [HID1.out (by simp), List.length_cons, List.map_cons, Nat.add_comm]
      exact own_base ho6 HM2.out.size
    have HO7 := Lib.hid ho7
    have HM6 := Lib.hid hM6
    clear ho5 ho6 hm5 hm6 hM5 hM6 ho7 fv0 fv1 x0 x1
    go_wp2_with fail
    refine bodyPost_ret (v := .tuple #[v6, .int .i64 0]) (by simp [results, Tryz.results12, go_sem]) rfl ⟨v6, rfl, HO7.out, HM6.out⟩

/-- what names answers -/
noncomputable def namesL (s : ByteArray) : List ByteArray × Bool :=
  if h : 0 < s.size then
    if (s[0]'h).toNat = 67 then ([], okChunk s)
    else if (s[0]'h).toNat = 70 then ((outFan s.data.toList).2.map (·.id), okFan s.data.toList)
    else if (s[0]'h).toNat = 66 then ((outBranch s.data.toList).2.map (·.id), okBranch s.data.toList)
    else if (s[0]'h).toNat = 76 then (entIds (outLeaf s.data.toList), okLeaf s.data.toList)
    else if (s[0]'h).toNat = 75 then (comIds s.data.toList, okCommit s.data.toList)
    else ([], false)
  else ([], false)
theorem names_calls (s : ByteArray) (w : World) (hs : s.size ≤ 100000000) : Calls Tryz.prog 12 #[.string s] w (NamesPost (namesL s).1 (namesL s).2 w) := by
  unfold namesL
  by_cases hp : 0 < s.size
  · rw [dif_pos hp]
    by_cases h1 : (s[0]'hp).toNat = 67
    · rw [if_pos h1]; exact names_chunk s w hs hp h1
    rw [if_neg h1]
    by_cases h2 : (s[0]'hp).toNat = 70
    · rw [if_pos h2]; exact names_fan s w hs hp h2
    rw [if_neg h2]
    by_cases h3 : (s[0]'hp).toNat = 66
    · rw [if_pos h3]; exact names_branch s w hs hp h3
    rw [if_neg h3]
    by_cases h4 : (s[0]'hp).toNat = 76
    · rw [if_pos h4]; exact names_leaf s w hs hp h4
    rw [if_neg h4]
    by_cases h5 : (s[0]'hp).toNat = 75
    · rw [if_pos h5]; exact names_commit s w hs hp h5
    rw [if_neg h5]; exact names_none s w hp h1 h2 h3 h4 h5
  · rw [dif_neg hp]
    obtain rfl : s = ⟨#[]⟩ := str_none s (by omega)
    exact names_empty w
theorem namesL_len (s : ByteArray) : (namesL s).1.length ≤ 64 := by
  unfold namesL
  split
  · split
    · simp
    split
    · have := outFan_len s.data.toList; simp; omega
    split
    · have := outBranch_len s.data.toList; simp; omega
    split
    · have h1 := outLeaf_len s.data.toList
      have h2 := entIds_len (outLeaf s.data.toList)
      show (entIds _).length ≤ 64; omega
    split
    · show (comIds _).length ≤ 64
      unfold comIds
      have := outCommit_len s.data.toList
      split <;> simp; omega
    · simp
  · simp
/-- each once -/
def dedup (l : List ByteArray) : List ByteArray := l.foldl (fun o x => if Lib.containsS o x then o else o ++ [x]) []
theorem dedup_succ (l : List ByteArray) (k : Nat) (h : k < l.length) : dedup (l.take (k + 1)) = if Lib.containsS (dedup (l.take k)) l[k] then dedup (l.take k) else dedup (l.take k) ++ [l[k]] := by
  unfold dedup
  rw [List.take_succ_eq_append_getElem h, List.foldl_append]
  rfl
theorem dedup_len (l : List ByteArray) : ∀ k, k ≤ l.length → (dedup (l.take k)).length ≤ k
  | 0, _ => by simp [dedup]
  | k + 1, h => by
    rw [dedup_succ l k (by omega)]
    have := dedup_len l k (by omega)
    split
    · omega
    · simp; omega
noncomputable def refsL (s : ByteArray) : List ByteArray := if (namesL s).2 = true then dedup (namesL s).1 else []
set_option maxRecDepth 100000 in
set_option maxHeartbeats 2000000 in
theorem refs_calls (s : ByteArray) (w : World) (hs : s.size ≤ 100000000) : Calls Tryz.prog 5 #[.string s] w (NamesPost (refsL s) (namesL s).2 w) := by
  have HT := Lib.hid (fun w' => names_calls s w' hs)
  have hlen := namesL_len s
  unfold refsL
  unfold NamesPost at HT
  generalize namesL s = N at *
  obtain ⟨l, ok⟩ := N
  dsimp only at *
  cases ok with
  | false =>
    rw [show errV false = .int .i64 81 from rfl] at HT
    rw [if_neg (by decide)]
    go_enter Tryz.func5, Tryz.ntmps5
    go_wp2_with fail
    refine (HT.out _).mono ?_
    rintro e w1 ⟨v, rfl, ho, hm⟩
    go_wp2_with fail
    refine bodyPost_ret (v := .tuple #[.slice none 0 0, .int .i64 81]) (by simp [results, Tryz.results5, go_sem]) rfl ⟨.slice none 0 0, rfl, World.ownsRow_nil _ _ _ _, hm⟩
  | true =>
    rw [show errV true = .int .i64 0 from rfl] at HT
    rw [if_pos rfl]
    have HDL := Lib.hid (dedup_len l)
    have HDS := Lib.hid (dedup_succ l)
    have hfin : dedup (l.take l.length) = dedup l := by rw [List.take_length]
    generalize dedup l = DL at *
    have HFIN := Lib.hid hfin
    clear hfin
    go_enter Tryz.func5, Tryz.ntmps5
    go_wp2_with fail
    refine (HT.out _).mono ?_
    rintro e w2 ⟨v, rfl, ho, hm⟩
    obtain ⟨A, cp, rfl, _, hcl, _, _⟩ := own_cells ho
    have HCL := Lib.hid hcl
    have HM2 := Lib.hid hm
    clear ho hm hcl
    go_wp2_with fail
    go_loopw [6, 19] (fun v i wr => ∃ (k : Nat), i = .int .i64 k ∧ k ≤ l.length ∧ Hid (wr.ownsRow w2.heap.size 9 1 v (dedup (l.take k)).length ((dedup (l.take k)).map .string)) ∧ Hid (Mod (fun _ => False) w2 wr)) (fun _ i _ => l.length - (intOf i).toNat)
    case atStart => exact ⟨0, by go_num, by omega, Lib.hid (World.ownsRow_nil _ _ _ _), Lib.hid (Mod.refl _ _)⟩
    case round =>
      obtain ⟨k, rfl, hk, HV, HM⟩ := hrel
      by_cases hlt : k < l.length
      · have i1 : (k : Int) < (l.length : Int) := by omega
        have i0 : (0 : Int) ≤ (k : Int) := by omega
        rcases HCL.out.keep HM.out (fun _ _ h => h) with h | ⟨ba, o, rfl, hcell⟩
        · have : l = [] := by simpa using h
          subst this; simp at hlt
        have y0 := str_cell hcell k hlt
        have hst := HDS.out k hlt
        have hln := HDL.out k hk
        generalize l[k] = p at *
        generalize hdd : dedup (l.take k) = d at *
        obtain ⟨A6, c6, rfl, _, hcl6, _, _⟩ := own_cells HV.out
        have hC := contains_calls A6 c6 d p wr hcl6 (by omega)
        obtain ⟨ct, hct⟩ : ∃ ct, Lib.containsS d p = ct := ⟨_, rfl⟩
        rw [hct] at hC hst
        have HC := Lib.hid hC
        have HST := Lib.hid hst
        clear hcell hst hC hct hcl6
        cases ct with
        | true =>
          go_wp2_with fail
          refine HC.out.mono ?_
          rintro e w3 ⟨rfl, hm3⟩
          have HV3 := Lib.hid (own_keep HV.out hm3 (fun _ _ _ h => h))
          have HM3 := Lib.hid (Mod.trans HM.out hm3 (fun _ _ h => h))
          clear hm3
          go_wp2_with fail
          go_roundw
          case rel => exact ⟨k + 1, by go_num, by omega, Lib.hid (by rw [HST.out]; simpa using HV3.out), HM3⟩
          case measure => simp [intOf]; omega
        | false =>
          go_wp2_with fail
          refine HC.out.mono ?_
          rintro e w3 ⟨rfl, hm3⟩
          have HV3 := Lib.hid (own_keep HV.out hm3 (fun _ _ _ h => h))
          have hM3 := Mod.trans HM.out hm3 (fun _ _ h => h)
          have hbz := hM3.size
          have hbw : w2.heap.size ≤ (w3.alloc (.cells #[.string p] 9)).heap.size := by simp; omega
          have HM3 := Lib.hid hM3
          clear hm3 hM3
          go_wp2_with (first
            | (at_builtin
               go_must (refine app (.tmp 27) (.tmp 29) str_t w2.heap.size (.slice A6 d.length c6) d.length (d.map .string) (HV3.out.alloc _) ⟨w3.heap.size, 0, none⟩ 1 1 [.string p] rfl rfl rfl rfl rfl (cells_new w3 _ _) (by intro u hu; simp at hu; rcases hu with rfl; rfl) (by omega) (by unfold maxLen; omega) hbw ?_; intro v7 w7 ho hm7)
               have hv7 : w7.ownsRow w2.heap.size 9 1 v7 (d ++ [p]).length ((d ++ [p]).map .string) := by rw [List.length_append, List.map_append]; exact ho
               have HV7 := Lib.hid hv7
               have HM7 := Lib.hid (Mod.trans (HM3.out.alloc _) hm7 (fun i hi h => by have := h.1; omega))
               clear ho hm7 hv7))
          go_roundw
          case rel => exact ⟨k + 1, by go_num, by omega, Lib.hid (by rw [HST.out]; simpa using HV7.out), HM7⟩
          case measure => simp [intOf]; omega
      · have hkl : k = l.length := by omega
        have i1 : ¬ (k : Int) < (l.length : Int) := by omega
        have hv := HV.out
        rw [hkl, HFIN.out] at hv
        have HV9 := Lib.hid (own_base hv HM2.out.size)
        have HM9 := Lib.hid (Mod.trans HM2.out HM.out (fun _ _ h => h))
        clear hv hkl
        go_wp2_with fail
        refine bodyPost_ret (v := .tuple #[u6, .int .i64 0]) (by simp [results, Tryz.results5, go_sem]) rfl ⟨u6, rfl, HV9.out, HM9.out⟩
end Obj
end Go.Proofs.YtenamjldkaggcaaGreatDoor
