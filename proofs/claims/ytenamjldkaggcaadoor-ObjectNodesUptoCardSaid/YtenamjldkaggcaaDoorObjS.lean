/- Lists of structs in memory; the walks of object's sum and rising. -/
import Derived.Test.YtenamjldkaggcaaDoorObjR
import Derived.WalkLawsBesides
namespace Go.Proofs.YtenamjldkaggcaaDoor
set_option linter.unusedVariables false
set_option linter.unusedSimpArgs false
open Go.RowKit K Wire
namespace Obj

theorem flat_len {α : Type} {f : α → List Value} {k : Nat} (hf : ∀ a, (f a).length = k) : ∀ l : List α, (l.flatMap f).length = l.length * k
  | [] => by simp
  | a :: l => by rw [List.flatMap_cons, List.length_append, hf, flat_len hf l, List.length_cons, Nat.succ_mul]; omega
theorem flat_get {α : Type} {f : α → List Value} {k : Nat} (hf : ∀ a, (f a).length = k) : ∀ (l : List α) (i j : Nat) (h : i < l.length), j < k → (l.flatMap f)[i * k + j]? = (f l[i])[j]?
  | [], i, j, h, _ => by simp at h
  | a :: l, 0, j, h, hj => by
    rw [List.flatMap_cons, List.getElem?_append_left (by rw [hf]; omega)]; simp
  | a :: l, i + 1, j, h, hj => by
    have e : (i + 1) * k + j = k + (i * k + j) := by rw [Nat.succ_mul]; omega
    rw [List.flatMap_cons, e, List.getElem?_append_right (by rw [hf]; omega), hf]
    rw [show k + (i * k + j) - k = i * k + j by omega, flat_get hf l i j (by simpa using h) hj]
    simp

structure Part where
  id : ByteArray
  size : Int
structure Pair where
  key : ByteArray
  val : ByteArray
structure Link where
  last : ByteArray
  id : ByteArray
  many : Int
def pc (p : Part) : List Value := [.string p.id, .int .i64 p.size]
def kc (p : Pair) : List Value := [.string p.key, .string p.val]
def lc (p : Link) : List Value := [.string p.last, .string p.id, .int .i64 p.many]
theorem pc_len (p : Part) : (pc p).length = 2 := rfl
theorem kc_len (p : Pair) : (kc p).length = 2 := rfl
theorem lc_len (p : Link) : (lc p).length = 3 := rfl

set_option maxRecDepth 100000 in
theorem size_calls (p : Part) (w : World) : Calls Tryd.prog 46 #[.agg #[.string p.id, .int .i64 p.size]] w fun e w' => e = .returned (.int .i64 p.size) ∧ Mod (fun _ => False) w w' := by
  go_enter Tryd.func46, Tryd.ntmps46
  go_wp2_with fail
  go_ret
  exact ⟨rfl, by (repeat (first | with_reducible exact Mod.refl _ _ | with_reducible apply Mod.drew | with_reducible apply Mod.drewN | with_reducible apply Mod.alloc | refine Mod.set1 ?_ (by first | exact rfl | simp) _ _))⟩
set_option maxRecDepth 100000 in
theorem many_calls (p : Link) (w : World) : Calls Tryd.prog 57 #[.agg #[.string p.last, .string p.id, .int .i64 p.many]] w fun e w' => e = .returned (.int .i64 p.many) ∧ Mod (fun _ => False) w w' := by
  go_enter Tryd.func57, Tryd.ntmps57
  go_wp2_with fail
  go_ret
  exact ⟨rfl, by (repeat (first | with_reducible exact Mod.refl _ _ | with_reducible apply Mod.drew | with_reducible apply Mod.drewN | with_reducible apply Mod.alloc | refine Mod.set1 ?_ (by first | exact rfl | simp) _ _))⟩
set_option maxRecDepth 100000 in
theorem keyOf_calls (p : Pair) (w : World) : Calls Tryd.prog 52 #[.agg #[.string p.key, .string p.val]] w fun e w' => e = .returned (.string p.key) ∧ Mod (fun _ => False) w w' := by
  go_enter Tryd.func52, Tryd.ntmps52
  go_wp2_with fail
  go_ret
  exact ⟨rfl, by (repeat (first | with_reducible exact Mod.refl _ _ | with_reducible apply Mod.drew | with_reducible apply Mod.drewN | with_reducible apply Mod.alloc | refine Mod.set1 ?_ (by first | exact rfl | simp) _ _))⟩
set_option maxRecDepth 100000 in
theorem lastOf_calls (p : Link) (w : World) : Calls Tryd.prog 55 #[.agg #[.string p.last, .string p.id, .int .i64 p.many]] w fun e w' => e = .returned (.string p.last) ∧ Mod (fun _ => False) w w' := by
  go_enter Tryd.func55, Tryd.ntmps55
  go_wp2_with fail
  go_ret
  exact ⟨rfl, by (repeat (first | with_reducible exact Mod.refl _ _ | with_reducible apply Mod.drew | with_reducible apply Mod.drewN | with_reducible apply Mod.alloc | refine Mod.set1 ?_ (by first | exact rfl | simp) _ _))⟩

/-- a sum that grows no further than one more than what is allowed -/
def capStep (most n s : Int) : Int := min (n + min (max s 0) (most + 1)) (most + 1)
def capSum (most : Int) (l : List Int) : Int := l.foldl (capStep most) 0
theorem cap_walk (most z s : Int) : (if most + 1 < z + (if most + 1 < (if s < 0 then 0 else s) then most + 1 else if s < 0 then 0 else s) then most + 1 else z + (if most + 1 < (if s < 0 then 0 else s) then most + 1 else if s < 0 then 0 else s)) = capStep most z s := by
  unfold capStep
  (repeat' split) <;> omega
theorem capStep_in (most n s : Int) (hm : 0 ≤ most) (h0 : 0 ≤ n) (h1 : n ≤ most + 1) : 0 ≤ capStep most n s ∧ capStep most n s ≤ most + 1 := by unfold capStep; omega
theorem cap_in (most : Int) (hm : 0 ≤ most) : ∀ (l : List Int) (n : Int), 0 ≤ n → n ≤ most + 1 → 0 ≤ l.foldl (capStep most) n ∧ l.foldl (capStep most) n ≤ most + 1
  | [], n, h0, h1 => ⟨h0, h1⟩
  | s :: l, n, h0, h1 => by
    rw [List.foldl_cons]
    refine cap_in most hm l _ ?_ ?_ <;> unfold capStep <;> omega

set_option maxRecDepth 100000 in
set_option maxHeartbeats 1000000 in
theorem sumP_calls (b T : Nat) (v : Value) (bad : Bool) (rest : List Value) (A : Option Addr) (c : Nat) (l : List Part) (most : Int) (w : World) (h : Has w b (v :: .bool bad :: rest) T) (hA : Cells w A (l.flatMap pc)) (hc : l.length ≤ 100000000) (hm : 0 ≤ most ∧ most ≤ 1000000000) (hs : ∀ p ∈ l, In64 p.size) :
    Calls Tryd.prog 45 #[.pointer (some ⟨b, 0, none⟩), .slice A l.length c, .func (.func 46) #[] #[], .int .i64 most] w fun e w' =>
      e = .returned (.tuple #[]) ∧ Has w' b (v :: .bool (bad || !decide (capSum most (l.map (·.size)) ≤ most)) :: rest) T ∧ Mod (fun k => k = b) w w' := by
  have HH := Lib.hid h
  have HA := Lib.hid hA
  have HS := Lib.hid hs
  clear h hA hs
  go_enter Tryd.func45, Tryd.ntmps45
  go_wp2_with fail
  go_loopw [8, 13] (fun n i wr => ∃ (k : Nat) (z : Int), i = .int .i64 k ∧ n = .int .i64 z ∧ k ≤ l.length ∧ 0 ≤ z ∧ z ≤ most + 1 ∧ Hid (z = capSum most ((l.take k).map (·.size))) ∧ Hid (Mod (fun _ => False) w wr)) (fun _ i _ => l.length - (intOf i).toNat)
  case atStart => exact ⟨0, 0, by go_num, rfl, by omega, by omega, by omega, Lib.hid rfl, Lib.hid (Mod.refl _ _)⟩
  case round =>
    obtain ⟨k, z, rfl, rfl, hk, hz0, hz1, HZ, HM⟩ := hrel
    by_cases hlt : k < l.length
    · have i1 : (k : Int) < (l.length : Int) := by omega
      rcases HA.out.keep HM.out (fun _ _ h => h) with h | ⟨ba, o, rfl, hcell⟩
      · have := flat_len pc_len l; rw [h] at this; simp at this; omega
      have x0 := hcell _ _ (flat_get pc_len l k 0 hlt (by omega))
      have x1 := hcell _ _ (flat_get pc_len l k 1 hlt (by omega))
      rw [Nat.add_zero] at x0
      rw [← Nat.add_assoc] at x1
      have hbl : ba < wr.heap.size := World.block_lt_of_cell? wr _ x0
      have hin := HS.out l[k] (List.getElem_mem hlt)
      have htk : capSum most ((l.take (k + 1)).map (·.size)) = capStep most (capSum most ((l.take k).map (·.size))) l[k].size := by
        unfold capSum; rw [List.take_succ_eq_append_getElem hlt, List.map_append, List.foldl_append]; rfl
      generalize l[k] = p at *
      unfold In64 at hin
      have HT := Lib.hid htk
      have HP := Lib.hid (size_calls p)
      clear hcell htk
      go_wp2_with fail
      refine (HP.out _).mono ?_
      rintro e w1 ⟨rfl, hm1⟩
      have HM2 := Lib.hid (Mod.trans (HM.out.alloc _) hm1 (fun _ _ h => h))
      clear hm1
      go_wp2_with fail
      go_roundw
      case rel =>
        have hci := capStep_in most z p.size hm.1 hz0 hz1
        exact ⟨k + 1, capStep most z p.size, by go_num, by rw [cap_walk], by omega, hci.1, hci.2, Lib.hid (by rw [HT.out, ← HZ.out]), HM2⟩
      case measure => simp [intOf]; omega
    · have hkl : k = l.length := by omega
      have i1 : ¬ (k : Int) < (l.length : Int) := by omega
      have hz := HZ.out
      rw [hkl, List.take_length] at hz
      have hA := fun ok => ask_calls b T v bad ok rest wr (HH.out.keep HM.out (fun h => h))
      have HK := Lib.hid hA
      have HZ2 := Lib.hid hz
      clear hz hA
      by_cases hle : z ≤ most
      · have q1 : decide (z ≤ most) = true := by simpa using hle
        go_wp2_with fail
        refine (HK.out _).mono ?_
        rintro e w2 ⟨rfl, hh2, hm2⟩
        have HH2 := Lib.hid hh2
        have HM2 := Lib.hid (Mod.trans (HM.out.mono fun _ _ h => h.elim) hm2 (fun _ _ h => h))
        clear hh2 hm2
        go_wp2_with fail
        go_end0
        exact ⟨rfl, by rw [← HZ2.out, q1]; simpa using HH2.out, HM2.out⟩
      · have q1 : decide (z ≤ most) = false := by simpa using hle
        go_wp2_with fail
        refine (HK.out _).mono ?_
        rintro e w2 ⟨rfl, hh2, hm2⟩
        have HH2 := Lib.hid hh2
        have HM2 := Lib.hid (Mod.trans (HM.out.mono fun _ _ h => h.elim) hm2 (fun _ _ h => h))
        clear hh2 hm2
        go_wp2_with fail
        go_end0
        exact ⟨rfl, by rw [← HZ2.out, q1]; simpa using HH2.out, HM2.out⟩

set_option maxRecDepth 100000 in
set_option maxHeartbeats 1000000 in
theorem sumL_calls (b T : Nat) (v : Value) (bad : Bool) (rest : List Value) (A : Option Addr) (c : Nat) (l : List Link) (most : Int) (w : World) (h : Has w b (v :: .bool bad :: rest) T) (hA : Cells w A (l.flatMap lc)) (hc : l.length ≤ 100000000) (hm : 0 ≤ most ∧ most ≤ 1000000000) (hs : ∀ p ∈ l, In64 p.many) :
    Calls Tryd.prog 56 #[.pointer (some ⟨b, 0, none⟩), .slice A l.length c, .func (.func 57) #[] #[], .int .i64 most] w fun e w' =>
      e = .returned (.tuple #[]) ∧ Has w' b (v :: .bool (bad || !decide (capSum most (l.map (·.many)) ≤ most)) :: rest) T ∧ Mod (fun k => k = b) w w' := by
  have HH := Lib.hid h
  have HA := Lib.hid hA
  have HS := Lib.hid hs
  clear h hA hs
  go_enter Tryd.func56, Tryd.ntmps56
  go_wp2_with fail
  go_loopw [8, 13] (fun n i wr => ∃ (k : Nat) (z : Int), i = .int .i64 k ∧ n = .int .i64 z ∧ k ≤ l.length ∧ 0 ≤ z ∧ z ≤ most + 1 ∧ Hid (z = capSum most ((l.take k).map (·.many))) ∧ Hid (Mod (fun _ => False) w wr)) (fun _ i _ => l.length - (intOf i).toNat)
  case atStart => exact ⟨0, 0, by go_num, rfl, by omega, by omega, by omega, Lib.hid rfl, Lib.hid (Mod.refl _ _)⟩
  case round =>
    obtain ⟨k, z, rfl, rfl, hk, hz0, hz1, HZ, HM⟩ := hrel
    by_cases hlt : k < l.length
    · have i1 : (k : Int) < (l.length : Int) := by omega
      rcases HA.out.keep HM.out (fun _ _ h => h) with h | ⟨ba, o, rfl, hcell⟩
      · have := flat_len lc_len l; rw [h] at this; simp at this; omega
      have x0 := hcell _ _ (flat_get lc_len l k 0 hlt (by omega))
      have x1 := hcell _ _ (flat_get lc_len l k 1 hlt (by omega))
      have x2 := hcell _ _ (flat_get lc_len l k 2 hlt (by omega))
      rw [Nat.add_zero] at x0
      rw [← Nat.add_assoc] at x1 x2
      have hbl : ba < wr.heap.size := World.block_lt_of_cell? wr _ x0
      have hin := HS.out l[k] (List.getElem_mem hlt)
      have htk : capSum most ((l.take (k + 1)).map (·.many)) = capStep most (capSum most ((l.take k).map (·.many))) l[k].many := by
        unfold capSum; rw [List.take_succ_eq_append_getElem hlt, List.map_append, List.foldl_append]; rfl
      generalize l[k] = p at *
      unfold In64 at hin
      have HT := Lib.hid htk
      have HP := Lib.hid (many_calls p)
      clear hcell htk
      go_wp2_with fail
      refine (HP.out _).mono ?_
      rintro e w1 ⟨rfl, hm1⟩
      have HM2 := Lib.hid (Mod.trans (HM.out.alloc _) hm1 (fun _ _ h => h))
      clear hm1
      go_wp2_with fail
      go_roundw
      case rel =>
        have hci := capStep_in most z p.many hm.1 hz0 hz1
        exact ⟨k + 1, capStep most z p.many, by go_num, by rw [cap_walk], by omega, hci.1, hci.2, Lib.hid (by rw [HT.out, ← HZ.out]), HM2⟩
      case measure => simp [intOf]; omega
    · have hkl : k = l.length := by omega
      have i1 : ¬ (k : Int) < (l.length : Int) := by omega
      have hz := HZ.out
      rw [hkl, List.take_length] at hz
      have hA := fun ok => ask_calls b T v bad ok rest wr (HH.out.keep HM.out (fun h => h))
      have HK := Lib.hid hA
      have HZ2 := Lib.hid hz
      clear hz hA
      by_cases hle : z ≤ most
      · have q1 : decide (z ≤ most) = true := by simpa using hle
        go_wp2_with fail
        refine (HK.out _).mono ?_
        rintro e w2 ⟨rfl, hh2, hm2⟩
        have HH2 := Lib.hid hh2
        have HM2 := Lib.hid (Mod.trans (HM.out.mono fun _ _ h => h.elim) hm2 (fun _ _ h => h))
        clear hh2 hm2
        go_wp2_with fail
        go_end0
        exact ⟨rfl, by rw [← HZ2.out, q1]; simpa using HH2.out, HM2.out⟩
      · have q1 : decide (z ≤ most) = false := by simpa using hle
        go_wp2_with fail
        refine (HK.out _).mono ?_
        rintro e w2 ⟨rfl, hh2, hm2⟩
        have HH2 := Lib.hid hh2
        have HM2 := Lib.hid (Mod.trans (HM.out.mono fun _ _ h => h.elim) hm2 (fun _ _ h => h))
        clear hh2 hm2
        go_wp2_with fail
        go_end0
        exact ⟨rfl, by rw [← HZ2.out, q1]; simpa using HH2.out, HM2.out⟩
end Obj
end Go.Proofs.YtenamjldkaggcaaDoor
