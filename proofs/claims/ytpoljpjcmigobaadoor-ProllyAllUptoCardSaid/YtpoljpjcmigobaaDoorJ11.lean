/- Joined texts: ObjS, ObjT, ObjF. -/
import Derived.Test.YtpoljpjcmigobaaDoorJ10
import Derived.WalkLawsBesides
/- Lists of structs in memory; the walks of object's sum and rising. -/
namespace Go.Proofs.YtpoljpjcmigobaaDoor
set_option linter.unusedVariables false
set_option linter.unusedSimpArgs false
open Go.RowKit K Wire
namespace Obj

theorem flat_len {α : Type} {f : α → List Value} {k : Nat} (hf : ∀ a, (f a).length = k) : ∀ l : List α, (l.flatMap f).length = l.length * k
  | [] => by simp
  | a :: l => by rw [List.flatMap_cons, List.length_append, hf, flat_len hf l, List.length_cons, Nat.succ_mul]; omega
theorem flat_get {α : Type} {f : α → List Value} {k : Nat} (hf : ∀ a, (f a).length = k) : ∀ (l : List α) (i j : Nat) (h : i < l.length), j < k → (l.flatMap f)[i * k + j]? = (f l[i])[j]?
  | [], i, j, h, _ => by simp at h
  | a :: l, 0, j, h, hj => by
    rw [List.flatMap_cons, List.getElem?_append_left (by rw [hf]; omega)]; simp
  | a :: l, i + 1, j, h, hj => by
    have e : (i + 1) * k + j = k + (i * k + j) := by rw [Nat.succ_mul]; omega
    rw [List.flatMap_cons, e, List.getElem?_append_right (by rw [hf]; omega), hf]
    rw [show k + (i * k + j) - k = i * k + j by omega, flat_get hf l i j (by simpa using h) hj]
    simp

structure Part where
  id : ByteArray
  size : Int
structure Pair where
  key : ByteArray
  val : ByteArray
structure Link where
  last : ByteArray
  id : ByteArray
  many : Int
def pc (p : Part) : List Value := [.string p.id, .int .i64 p.size]
def kc (p : Pair) : List Value := [.string p.key, .string p.val]
def lc (p : Link) : List Value := [.string p.last, .string p.id, .int .i64 p.many]
theorem pc_len (p : Part) : (pc p).length = 2 := rfl
theorem kc_len (p : Pair) : (kc p).length = 2 := rfl
theorem lc_len (p : Link) : (lc p).length = 3 := rfl

set_option maxRecDepth 100000 in
theorem many_calls (p : Link) (w : World) : Calls Tryd.prog 59 #[.agg #[.string p.last, .string p.id, .int .i64 p.many]] w fun e w' => e = .returned (.int .i64 p.many) ∧ Mod (fun _ => False) w w' := by
  go_enter Tryd.func59, Tryd.ntmps59
  go_wp2_with fail
  go_ret
  exact ⟨rfl, by (repeat (first | with_reducible exact Mod.refl _ _ | with_reducible apply Mod.drew | with_reducible apply Mod.drewN | with_reducible apply Mod.alloc | refine Mod.set1 ?_ (by first | exact rfl | simp) _ _))⟩
set_option maxRecDepth 100000 in
theorem keyOf_calls (p : Pair) (w : World) : Calls Tryd.prog 52 #[.agg #[.string p.key, .string p.val]] w fun e w' => e = .returned (.string p.key) ∧ Mod (fun _ => False) w w' := by
  go_enter Tryd.func52, Tryd.ntmps52
  go_wp2_with fail
  go_ret
  exact ⟨rfl, by (repeat (first | with_reducible exact Mod.refl _ _ | with_reducible apply Mod.drew | with_reducible apply Mod.drewN | with_reducible apply Mod.alloc | refine Mod.set1 ?_ (by first | exact rfl | simp) _ _))⟩
set_option maxRecDepth 100000 in
theorem lastOf_calls (p : Link) (w : World) : Calls Tryd.prog 57 #[.agg #[.string p.last, .string p.id, .int .i64 p.many]] w fun e w' => e = .returned (.string p.last) ∧ Mod (fun _ => False) w w' := by
  go_enter Tryd.func57, Tryd.ntmps57
  go_wp2_with fail
  go_ret
  exact ⟨rfl, by (repeat (first | with_reducible exact Mod.refl _ _ | with_reducible apply Mod.drew | with_reducible apply Mod.drewN | with_reducible apply Mod.alloc | refine Mod.set1 ?_ (by first | exact rfl | simp) _ _))⟩

/-- a sum that grows no further than one more than what is allowed -/
def capStep (most n s : Int) : Int := min (n + min (max s 0) (most + 1)) (most + 1)
def capSum (most : Int) (l : List Int) : Int := l.foldl (capStep most) 0
theorem cap_walk (most z s : Int) : (if most + 1 < z + (if most + 1 < (if s < 0 then 0 else s) then most + 1 else if s < 0 then 0 else s) then most + 1 else z + (if most + 1 < (if s < 0 then 0 else s) then most + 1 else if s < 0 then 0 else s)) = capStep most z s := by
  unfold capStep
  (repeat' split) <;> omega
theorem capStep_in (most n s : Int) (hm : 0 ≤ most) (h0 : 0 ≤ n) (h1 : n ≤ most + 1) : 0 ≤ capStep most n s ∧ capStep most n s ≤ most + 1 := by unfold capStep; omega
theorem cap_in (most : Int) (hm : 0 ≤ most) : ∀ (l : List Int) (n : Int), 0 ≤ n → n ≤ most + 1 → 0 ≤ l.foldl (capStep most) n ∧ l.foldl (capStep most) n ≤ most + 1
  | [], n, h0, h1 => ⟨h0, h1⟩
  | s :: l, n, h0, h1 => by
    rw [List.foldl_cons]
    refine cap_in most hm l _ ?_ ?_ <;> unfold capStep <;> omega

set_option maxRecDepth 100000 in
set_option maxHeartbeats 1000000 in
theorem sumL_calls (b T : Nat) (v : Value) (bad : Bool) (rest : List Value) (A : Option Addr) (c : Nat) (l : List Link) (most : Int) (w : World) (h : Has w b (v :: .bool bad :: rest) T) (hA : Cells w A (l.flatMap lc)) (hc : l.length ≤ 100000000) (hm : 0 ≤ most ∧ most ≤ 1000000000) (hs : ∀ p ∈ l, In64 p.many) :
    Calls Tryd.prog 58 #[.pointer (some ⟨b, 0, none⟩), .slice A l.length c, .func (.func 59) #[] #[], .int .i64 most] w fun e w' =>
      e = .returned (.tuple #[]) ∧ Has w' b (v :: .bool (bad || !decide (capSum most (l.map (·.many)) ≤ most)) :: rest) T ∧ Mod (fun k => k = b) w w' := by
  have HH := Lib.hid h
  have HA := Lib.hid hA
  have HS := Lib.hid hs
  clear h hA hs
  go_enter Tryd.func58, Tryd.ntmps58
  go_wp2_with fail
  go_loopw [8, 13] (fun n i wr => ∃ (k : Nat) (z : Int), i = .int .i64 k ∧ n = .int .i64 z ∧ k ≤ l.length ∧ 0 ≤ z ∧ z ≤ most + 1 ∧ Hid (z = capSum most ((l.take k).map (·.many))) ∧ Hid (Mod (fun _ => False) w wr)) (fun _ i _ => l.length - (intOf i).toNat)
  case atStart => exact ⟨0, 0, by go_num, rfl, by omega, by omega, by omega, Lib.hid rfl, Lib.hid (Mod.refl _ _)⟩
  case round =>
    obtain ⟨k, z, rfl, rfl, hk, hz0, hz1, HZ, HM⟩ := hrel
    by_cases hlt : k < l.length
    · have i1 : (k : Int) < (l.length : Int) := by omega
      rcases HA.out.keep HM.out (fun _ _ h => h) with h | ⟨ba, o, rfl, hcell⟩
      · have := flat_len lc_len l; rw [h] at this; simp at this; omega
      have x0 := hcell _ _ (flat_get lc_len l k 0 hlt (by omega))
      have x1 := hcell _ _ (flat_get lc_len l k 1 hlt (by omega))
      have x2 := hcell _ _ (flat_get lc_len l k 2 hlt (by omega))
      rw [Nat.add_zero] at x0
      rw [← Nat.add_assoc] at x1 x2
      have hbl : ba < wr.heap.size := World.block_lt_of_cell? wr _ x0
      have hin := HS.out l[k] (List.getElem_mem hlt)
      have htk : capSum most ((l.take (k + 1)).map (·.many)) = capStep most (capSum most ((l.take k).map (·.many))) l[k].many := by
        unfold capSum; rw [List.take_succ_eq_append_getElem hlt, List.map_append, List.foldl_append]; rfl
      generalize l[k] = p at *
      unfold In64 at hin
      have HT := Lib.hid htk
      have HP := Lib.hid (many_calls p)
      clear hcell htk
      go_wp2_with fail
      refine (HP.out _).mono ?_
      rintro e w1 ⟨rfl, hm1⟩
      have HM2 := Lib.hid (Mod.trans (HM.out.alloc _) hm1 (fun _ _ h => h))
      clear hm1
      go_wp2_with fail
      go_roundw
      case rel =>
        have hci := capStep_in most z p.many hm.1 hz0 hz1
        exact ⟨k + 1, capStep most z p.many, by go_num, by first | rw [cap_walk] | rfl, by omega, hci.1, hci.2, Lib.hid (by rw [HT.out, ← HZ.out]), HM2⟩
      case measure => simp [intOf]; omega
    · have hkl : k = l.length := by omega
      have i1 : ¬ (k : Int) < (l.length : Int) := by omega
      have hz := HZ.out
      rw [hkl, List.take_length] at hz
      have hA := fun ok => ask_calls b T v bad ok rest wr (HH.out.keep HM.out (fun h => h))
      have HK := Lib.hid hA
      have HZ2 := Lib.hid hz
      clear hz hA
      by_cases hle : z ≤ most
      · have q1 : decide (z ≤ most) = true := by simpa using hle
        go_wp2_with fail
        refine (HK.out _).mono ?_
        rintro e w2 ⟨rfl, hh2, hm2⟩
        have HH2 := Lib.hid hh2
        have HM2 := Lib.hid (Mod.trans (HM.out.mono fun _ _ h => h.elim) hm2 (fun _ _ h => h))
        clear hh2 hm2
        go_wp2_with fail
        go_end0
        exact ⟨rfl, by rw [← HZ2.out, q1]; simpa using HH2.out, HM2.out⟩
      · have q1 : decide (z ≤ most) = false := by simpa using hle
        go_wp2_with fail
        refine (HK.out _).mono ?_
        rintro e w2 ⟨rfl, hh2, hm2⟩
        have HH2 := Lib.hid hh2
        have HM2 := Lib.hid (Mod.trans (HM.out.mono fun _ _ h => h.elim) hm2 (fun _ _ h => h))
        clear hh2 hm2
        go_wp2_with fail
        go_end0
        exact ⟨rfl, by rw [← HZ2.out, q1]; simpa using HH2.out, HM2.out⟩
end Obj
end Go.Proofs.YtpoljpjcmigobaaDoor
/- The walks of object's rising. -/
namespace Go.Proofs.YtpoljpjcmigobaaDoor
set_option linter.unusedVariables false
set_option linter.unusedSimpArgs false
open Go.RowKit K Wire
namespace Obj

/-- Go's '<' of texts -/
def ltS (a b : ByteArray) : Bool := Go.Op.bytesLess a.toList b.toList
/-- do the first keys rise? -/
def risesN (L : List ByteArray) (n : Nat) : Bool := (List.range n).all fun i => ltS (L.getD i ByteArray.empty) (L.getD (i + 1) ByteArray.empty)
def rises (L : List ByteArray) : Bool := risesN L (L.length - 1)
theorem risesN_succ (L : List ByteArray) (n : Nat) : risesN L (n + 1) = (risesN L n && ltS (L.getD n ByteArray.empty) (L.getD (n + 1) ByteArray.empty)) := by
  unfold risesN; rw [List.range_succ, List.all_append]; simp only [List.all_cons, List.all_nil, Bool.and_true]

set_option maxRecDepth 100000 in
set_option maxHeartbeats 1000000 in
theorem risingP_calls (b T : Nat) (v : Value) (bad : Bool) (rest : List Value) (A : Option Addr) (c : Nat) (l : List Pair) (w : World) (h : Has w b (v :: .bool bad :: rest) T) (hA : Cells w A (l.flatMap kc)) (hAb : ∀ a, A = some a → l ≠ [] → a.block ≠ b) (hc : l.length ≤ 100000000) :
    Calls Tryd.prog 51 #[.pointer (some ⟨b, 0, none⟩), .slice A l.length c, .func (.func 52) #[] #[]] w fun e w' =>
      e = .returned (.tuple #[]) ∧ Has w' b (v :: .bool (bad || !rises (l.map (·.key))) :: rest) T ∧ Mod (fun k => k = b) w w' := by
  have HH := Lib.hid h
  have HA := Lib.hid hA
  have HAB := Lib.hid hAb
  clear h hA hAb
  go_enter Tryd.func51, Tryd.ntmps51
  go_wp2_with fail
  go_loopw [6] (fun i wr => ∃ (j : Nat) (bd : Bool), i = .int .i64 ((j : Int) + 1) ∧ j ≤ l.length - 1 ∧ Hid (bd = (bad || !risesN (l.map (·.key)) j)) ∧ Hid (Has wr b (v :: .bool bd :: rest) T) ∧ Hid (Mod (fun k => k = b) w wr)) (fun i _ => l.length - (intOf i).toNat)
  case atStart => exact ⟨0, bad, by go_num, by omega, Lib.hid (by simp [risesN]), HH, Lib.hid (Mod.refl _ _)⟩
  case round =>
    obtain ⟨j, bd, rfl, hj, HB, HW, HM⟩ := hrel
    by_cases hlt : j + 1 < l.length
    · have i1 : (j : Int) + 1 < (l.length : Int) := by omega
      rcases HA.out.keep HM.out (fun a ha h => HAB.out a ha (fun he => by rw [he] at hlt; simp at hlt) h) with h | ⟨ba, o, rfl, hcell⟩
      · have := flat_len kc_len l; rw [h] at this; simp at this; omega
      have x0 := hcell _ _ (flat_get kc_len l j 0 (by omega) (by omega))
      have x1 := hcell _ _ (flat_get kc_len l j 1 (by omega) (by omega))
      have y0 := hcell _ _ (flat_get kc_len l (j + 1) 0 hlt (by omega))
      have y1 := hcell _ _ (flat_get kc_len l (j + 1) 1 hlt (by omega))
      rw [Nat.add_zero] at x0 y0
      rw [← Nat.add_assoc] at x1 y1
      have hbl : ba < wr.heap.size := World.block_lt_of_cell? wr _ x0
      have hba : ¬ ba = b := fun h => HAB.out _ rfl (fun he => by rw [he] at hlt; simp at hlt) h
      have fx0 := fun (w' : World) (h : Mod (fun k => k = b) wr.drew w') => (h.cell (p := ⟨ba, _, none⟩) hbl (fun h => hba h)).trans x0
      have fx1 := fun (w' : World) (h : Mod (fun k => k = b) wr.drew w') => (h.cell (p := ⟨ba, _, none⟩) hbl (fun h => hba h)).trans x1
      have fy0 := fun (w' : World) (h : Mod (fun k => k = b) wr.drew w') => (h.cell (p := ⟨ba, _, none⟩) hbl (fun h => hba h)).trans y0
      have fy1 := fun (w' : World) (h : Mod (fun k => k = b) wr.drew w') => (h.cell (p := ⟨ba, _, none⟩) hbl (fun h => hba h)).trans y1
      have w1 : IntKind.i64.wrap (j : Int) = (j : Int) := by rw [IntKind.wrap_i64]; omega
      have w2 : IntKind.i64.wrap ((j : Int) + 1) = (j : Int) + 1 := by rw [IntKind.wrap_i64]; omega
      have j0 : (0 : Int) ≤ (j : Int) := by omega
      have j1 : (j : Int) < (l.length : Int) := by omega
      have j2 : (0 : Int) ≤ (j : Int) + 1 := by omega
      have j3 : ((j : Int) + 1).toNat = j + 1 := by omega
      have hsn := risesN_succ (l.map (·.key)) j
      have g1 : (l.map (·.key)).getD j ByteArray.empty = l[j].key := by simp [List.getD, show j < l.length by omega]
      have g2 : (l.map (·.key)).getD (j + 1) ByteArray.empty = l[j + 1].key := by simp [List.getD, hlt]
      rw [g1, g2] at hsn
      clear g1 g2
      generalize l[j] = p at *
      generalize l[j + 1] = q at *
      obtain ⟨lt, hlts⟩ : ∃ lt, ltS p.key q.key = lt := ⟨_, rfl⟩
      rw [hlts] at hsn
      have hlts2 : Go.Op.bytesLess p.key.toList q.key.toList = lt := hlts
      have HSN := Lib.hid hsn
      have HP := Lib.hid (keyOf_calls p)
      have HQ := Lib.hid (keyOf_calls q)
      have HAK := Lib.hid (fun wx (hx : Has wx b (v :: .bool bd :: rest) T) => ask_calls b T v bd lt rest wx hx)
      clear hcell hsn hlts
      go_wp2_with fail
      refine region_mS (fun k => k = b) (by kernel_rfl) ?_
      simp only [List.length_cons, List.length_nil, List.replicate]
      refine take0S (v := ?v1) (oi := ?o1) 0 ?hi1 (by kernel_rfl) (by kernel_rfl) (by kernel_rfl) ?hq1 ?hy1 ?_
      case hi1 => (simp only [List.getElem?_toArray, List.getElem?_cons_zero, List.getElem?_cons_succ]; rfl)
      case hq1 => exact fun _ _ _ h => h
      case hy1 => first | (refine ry_notS ?_; rfl) | (refine ry_runS (by rfl) (fun w' hw' => ?_); go_simp; try rfl)
      simp only [Act.put, List.setIfInBounds_toArray, List.set_cons_zero, List.set_cons_succ]
      refine take0S (v := ?v2) (oi := ?o2) 1 ?hi2 (by kernel_rfl) (by kernel_rfl) (by kernel_rfl) ?hq2 ?hy2 ?_
      case hi2 => (simp only [List.getElem?_toArray, List.getElem?_cons_zero, List.getElem?_cons_succ]; rfl)
      case hq2 => exact fun _ _ _ h => h
      case hy2 => first | (refine ry_notS ?_; rfl) | (refine ry_runS (by rfl) (fun w' hw' => ?_); go_simp; try rfl)
      simp only [Act.put, List.setIfInBounds_toArray, List.set_cons_zero, List.set_cons_succ]
      refine take0S (v := ?v3) (oi := ?o3) 2 ?hi3 (by kernel_rfl) (by kernel_rfl) (by kernel_rfl) ?hq3 ?hy3 ?_
      case hi3 => (simp only [List.getElem?_toArray, List.getElem?_cons_zero, List.getElem?_cons_succ]; rfl)
      case hq3 => exact fun _ _ _ h => h
      case hy3 => first | (refine ry_notS ?_; rfl) | (refine ry_runS (by rfl) (fun w' hw' => ?_); go_simp; try rfl)
      simp only [Act.put, List.setIfInBounds_toArray, List.set_cons_zero, List.set_cons_succ]
      refine take0S (v := ?v4) (oi := ?o4) 3 ?hi4 (by kernel_rfl) (by kernel_rfl) (by kernel_rfl) ?hq4 ?hy4 ?_
      case hi4 => (simp only [List.getElem?_toArray, List.getElem?_cons_zero, List.getElem?_cons_succ]; rfl)
      case hq4 => exact fun _ _ _ h => h
      case hy4 => first | (refine ry_notS ?_; rfl) | (refine ry_runS (by rfl) (fun w' hw' => ?_); go_simp; try rfl)
      simp only [Act.put, List.setIfInBounds_toArray, List.set_cons_zero, List.set_cons_succ]
      refine take0S (v := ?v5) (oi := ?o5) 4 ?hi5 (by kernel_rfl) (by kernel_rfl) (by kernel_rfl) ?hq5 ?hy5 ?_
      case hi5 => (simp only [List.getElem?_toArray, List.getElem?_cons_zero, List.getElem?_cons_succ]; rfl)
      case hq5 => exact fun _ _ _ h => h
      case hy5 => first | (refine ry_notS ?_; rfl) | (refine ry_runS (by rfl) (fun w' hw' => ?_); go_simp; try rfl)
      simp only [Act.put, List.setIfInBounds_toArray, List.set_cons_zero, List.set_cons_succ]
      refine take0S (v := ?v6) (oi := ?o6) 5 ?hi6 (by kernel_rfl) (by kernel_rfl) (by kernel_rfl) ?hq6 ?hy6 ?_
      case hi6 => (simp only [List.getElem?_toArray, List.getElem?_cons_zero, List.getElem?_cons_succ]; rfl)
      case hq6 => exact fun _ _ _ h => h
      case hy6 => first | (refine ry_notS ?_; rfl) | (refine ry_runS (by rfl) (fun w' hw' => ?_); go_simp; try rfl)
      simp only [Act.put, List.setIfInBounds_toArray, List.set_cons_zero, List.set_cons_succ]
      refine take0S (v := ?v7) (oi := ?o7) 6 ?hi7 (by kernel_rfl) (by kernel_rfl) (by kernel_rfl) ?hq7 ?hy7 ?_
      case hi7 => (simp only [List.getElem?_toArray, List.getElem?_cons_zero, List.getElem?_cons_succ]; rfl)
      case hq7 => exact fun _ _ _ h => h
      case hy7 => first | (refine ry_notS ?_; rfl) | (refine ry_runS (by rfl) (fun w' hw' => ?_); go_simp; try rfl)
      simp only [Act.put, List.setIfInBounds_toArray, List.set_cons_zero, List.set_cons_succ]
      refine take0S (v := ?v8) (oi := ?o8) 8 ?hi8 (by kernel_rfl) (by kernel_rfl) (by kernel_rfl) ?hq8 ?hy8 ?_
      case hi8 => (simp only [List.getElem?_toArray, List.getElem?_cons_zero, List.getElem?_cons_succ]; rfl)
      case hq8 => exact fun _ _ _ h => h
      case hy8 => first | (refine ry_notS ?_; rfl) | (refine ry_runS (by rfl) (fun w' hw' => ?_); go_simp; try rfl)
      simp only [Act.put, List.setIfInBounds_toArray, List.set_cons_zero, List.set_cons_succ]
      refine take0S (v := ?v9) (oi := ?o9) 9 ?hi9 (by kernel_rfl) (by kernel_rfl) (by kernel_rfl) ?hq9 ?hy9 ?_
      case hi9 => (simp only [List.getElem?_toArray, List.getElem?_cons_zero, List.getElem?_cons_succ]; rfl)
      case hq9 => exact fun _ _ _ h => h
      case hy9 => first | (refine ry_notS ?_; rfl) | (refine ry_runS (by rfl) (fun w' hw' => ?_); go_simp; try rfl)
      simp only [Act.put, List.setIfInBounds_toArray, List.set_cons_zero, List.set_cons_succ]
      refine take0S (v := ?v10) (oi := ?o10) 10 ?hi10 (by kernel_rfl) (by kernel_rfl) (by kernel_rfl) ?hq10 ?hy10 ?_
      case hi10 => (simp only [List.getElem?_toArray, List.getElem?_cons_zero, List.getElem?_cons_succ]; rfl)
      case hq10 => exact fun _ _ _ h => h
      case hy10 => first | (refine ry_notS ?_; rfl) | (refine ry_runS (by rfl) (fun w' hw' => ?_); go_simp; try rfl)
      simp only [Act.put, List.setIfInBounds_toArray, List.set_cons_zero, List.set_cons_succ]
      refine take0S (v := ?v11) (oi := ?o11) 11 ?hi11 (by kernel_rfl) (by kernel_rfl) (by kernel_rfl) ?hq11 ?hy11 ?_
      case hi11 => (simp only [List.getElem?_toArray, List.getElem?_cons_zero, List.getElem?_cons_succ]; rfl)
      case hq11 => exact fun _ _ _ h => h
      case hy11 => first | (refine ry_notS ?_; rfl) | (refine ry_runS (by rfl) (fun w' hw' => ?_); go_simp; try rfl)
      simp only [Act.put, List.setIfInBounds_toArray, List.set_cons_zero, List.set_cons_succ]
      refine take0S (v := ?v12) (oi := ?o12) 12 ?hi12 (by kernel_rfl) (by kernel_rfl) (by kernel_rfl) ?hq12 ?hy12 ?_
      case hi12 => (simp only [List.getElem?_toArray, List.getElem?_cons_zero, List.getElem?_cons_succ]; rfl)
      case hq12 => exact fun _ _ _ h => h
      case hy12 => first | (refine ry_notS ?_; rfl) | (refine ry_runS (by rfl) (fun w' hw' => ?_); go_simp; try rfl)
      simp only [Act.put, List.setIfInBounds_toArray, List.set_cons_zero, List.set_cons_succ]
      refine step0S (o := ?o13) 7 (by kernel_rfl) ?hi13 ?hw13 ?_
      case hi13 => (simp only [List.getElem?_toArray, List.getElem?_cons_zero, List.getElem?_cons_succ]; rfl)
      case hw13 => rfl
      go_simp
      refine (HP.out _).mono ?_
      rintro e w1 ⟨rfl, hm1⟩
      refine ⟨.inl (hm1.mono fun _ _ h => h.elim), ?_⟩
      refine step0S (o := ?o14) 13 (by kernel_rfl) ?hi14 ?hw14 ?_
      case hi14 => (simp only [List.getElem?_toArray, List.getElem?_cons_zero, List.getElem?_cons_succ]; rfl)
      case hw14 => rfl
      go_simp
      refine (HQ.out _).mono ?_
      rintro e w2 ⟨rfl, hm2⟩
      refine ⟨.inl (hm2.mono fun _ _ h => h.elim), ?_⟩
      refine take0S (v := ?v15) (oi := ?o15) 14 ?hi15 (by kernel_rfl) (by kernel_rfl) (by kernel_rfl) ?hq15 ?hy15 ?_
      case hi15 => (simp only [List.getElem?_toArray, List.getElem?_cons_zero, List.getElem?_cons_succ]; rfl)
      case hq15 => exact fun _ _ _ h => h
      case hy15 => first | (refine ry_notS ?_; rfl) | (refine ry_runS (by rfl) (fun w' hw' => ?_); go_simp; try rfl)
      simp only [Act.put, List.setIfInBounds_toArray, List.set_cons_zero, List.set_cons_succ]
      refine step0S (o := ?o16) 15 (by kernel_rfl) ?hi16 ?hw16 ?_
      case hi16 => (simp only [List.getElem?_toArray, List.getElem?_cons_zero, List.getElem?_cons_succ]; rfl)
      case hw16 => rfl
      go_simp
      refine (HAK.out _ ((HW.out.drew.keep hm1 (fun h => h)).keep hm2 (fun h => h))).mono ?_
      rintro e w3 ⟨rfl, hh3, hm3⟩
      refine ⟨.inl hm3, ?_⟩
      refine wpAnyM_done (by kernel_rfl) ?_
      have HW3 := Lib.hid hh3
      have HM3 := Lib.hid (Mod.trans (Mod.trans (Mod.trans HM.out.drew hm1 (fun _ _ h => h.elim)) hm2 (fun _ _ h => h.elim)) hm3 (fun _ _ h => h))
      clear hh3 hm3 hm1 hm2 hlts2
      go_wp2_with fail
      go_roundw
      case rel => exact ⟨j + 1, bd || !lt, by go_num, by omega, Lib.hid (by rw [HSN.out, HB.out]; cases bad <;> cases lt <;> simp), HW3, HM3⟩
      case measure => simp [intOf]; omega
    · have i1 : ¬ (j : Int) + 1 < (l.length : Int) := by omega
      have hjl : j = l.length - 1 := by omega
      have hb := HB.out
      rw [hjl] at hb
      have HB2 : Hid (bd = (bad || !rises (l.map (·.key)))) := Lib.hid (by rw [hb]; unfold rises; rw [List.length_map])
      clear hb hjl
      go_wp2_with fail
      go_end0
      exact ⟨rfl, by rw [← HB2.out]; exact HW.out, HM.out⟩

set_option maxRecDepth 100000 in
set_option maxHeartbeats 1000000 in
theorem risingL_calls (b T : Nat) (v : Value) (bad : Bool) (rest : List Value) (A : Option Addr) (c : Nat) (l : List Link) (w : World) (h : Has w b (v :: .bool bad :: rest) T) (hA : Cells w A (l.flatMap lc)) (hAb : ∀ a, A = some a → l ≠ [] → a.block ≠ b) (hc : l.length ≤ 100000000) :
    Calls Tryd.prog 56 #[.pointer (some ⟨b, 0, none⟩), .slice A l.length c, .func (.func 57) #[] #[]] w fun e w' =>
      e = .returned (.tuple #[]) ∧ Has w' b (v :: .bool (bad || !rises (l.map (·.last))) :: rest) T ∧ Mod (fun k => k = b) w w' := by
  have HH := Lib.hid h
  have HA := Lib.hid hA
  have HAB := Lib.hid hAb
  clear h hA hAb
  go_enter Tryd.func56, Tryd.ntmps56
  go_wp2_with fail
  go_loopw [6] (fun i wr => ∃ (j : Nat) (bd : Bool), i = .int .i64 ((j : Int) + 1) ∧ j ≤ l.length - 1 ∧ Hid (bd = (bad || !risesN (l.map (·.last)) j)) ∧ Hid (Has wr b (v :: .bool bd :: rest) T) ∧ Hid (Mod (fun k => k = b) w wr)) (fun i _ => l.length - (intOf i).toNat)
  case atStart => exact ⟨0, bad, by go_num, by omega, Lib.hid (by simp [risesN]), HH, Lib.hid (Mod.refl _ _)⟩
  case round =>
    obtain ⟨j, bd, rfl, hj, HB, HW, HM⟩ := hrel
    by_cases hlt : j + 1 < l.length
    · have i1 : (j : Int) + 1 < (l.length : Int) := by omega
      rcases HA.out.keep HM.out (fun a ha h => HAB.out a ha (fun he => by rw [he] at hlt; simp at hlt) h) with h | ⟨ba, o, rfl, hcell⟩
      · have := flat_len lc_len l; rw [h] at this; simp at this; omega
      have x0 := hcell _ _ (flat_get lc_len l j 0 (by omega) (by omega))
      have x1 := hcell _ _ (flat_get lc_len l j 1 (by omega) (by omega))
      have x2 := hcell _ _ (flat_get lc_len l j 2 (by omega) (by omega))
      have y0 := hcell _ _ (flat_get lc_len l (j + 1) 0 hlt (by omega))
      have y1 := hcell _ _ (flat_get lc_len l (j + 1) 1 hlt (by omega))
      have y2 := hcell _ _ (flat_get lc_len l (j + 1) 2 hlt (by omega))
      rw [Nat.add_zero] at x0 y0
      rw [← Nat.add_assoc] at x1 y1 x2 y2
      have hbl : ba < wr.heap.size := World.block_lt_of_cell? wr _ x0
      have hba : ¬ ba = b := fun h => HAB.out _ rfl (fun he => by rw [he] at hlt; simp at hlt) h
      have fx0 := fun (w' : World) (h : Mod (fun k => k = b) wr.drew w') => (h.cell (p := ⟨ba, _, none⟩) hbl (fun h => hba h)).trans x0
      have fx1 := fun (w' : World) (h : Mod (fun k => k = b) wr.drew w') => (h.cell (p := ⟨ba, _, none⟩) hbl (fun h => hba h)).trans x1
      have fx2 := fun (w' : World) (h : Mod (fun k => k = b) wr.drew w') => (h.cell (p := ⟨ba, _, none⟩) hbl (fun h => hba h)).trans x2
      have fy0 := fun (w' : World) (h : Mod (fun k => k = b) wr.drew w') => (h.cell (p := ⟨ba, _, none⟩) hbl (fun h => hba h)).trans y0
      have fy1 := fun (w' : World) (h : Mod (fun k => k = b) wr.drew w') => (h.cell (p := ⟨ba, _, none⟩) hbl (fun h => hba h)).trans y1
      have fy2 := fun (w' : World) (h : Mod (fun k => k = b) wr.drew w') => (h.cell (p := ⟨ba, _, none⟩) hbl (fun h => hba h)).trans y2
      have w1 : IntKind.i64.wrap (j : Int) = (j : Int) := by rw [IntKind.wrap_i64]; omega
      have w2 : IntKind.i64.wrap ((j : Int) + 1) = (j : Int) + 1 := by rw [IntKind.wrap_i64]; omega
      have j0 : (0 : Int) ≤ (j : Int) := by omega
      have j1 : (j : Int) < (l.length : Int) := by omega
      have j2 : (0 : Int) ≤ (j : Int) + 1 := by omega
      have j3 : ((j : Int) + 1).toNat = j + 1 := by omega
      have hsn := risesN_succ (l.map (·.last)) j
      have g1 : (l.map (·.last)).getD j ByteArray.empty = l[j].last := by simp [List.getD, show j < l.length by omega]
      have g2 : (l.map (·.last)).getD (j + 1) ByteArray.empty = l[j + 1].last := by simp [List.getD, hlt]
      rw [g1, g2] at hsn
      clear g1 g2
      generalize l[j] = p at *
      generalize l[j + 1] = q at *
      obtain ⟨lt, hlts⟩ : ∃ lt, ltS p.last q.last = lt := ⟨_, rfl⟩
      rw [hlts] at hsn
      have hlts2 : Go.Op.bytesLess p.last.toList q.last.toList = lt := hlts
      have HSN := Lib.hid hsn
      have HP := Lib.hid (lastOf_calls p)
      have HQ := Lib.hid (lastOf_calls q)
      have HAK := Lib.hid (fun wx (hx : Has wx b (v :: .bool bd :: rest) T) => ask_calls b T v bd lt rest wx hx)
      clear hcell hsn hlts
      go_wp2_with fail
      refine region_mS (fun k => k = b) (by kernel_rfl) ?_
      simp only [List.length_cons, List.length_nil, List.replicate]
      refine take0S (v := ?v17) (oi := ?o17) 0 ?hi17 (by kernel_rfl) (by kernel_rfl) (by kernel_rfl) ?hq17 ?hy17 ?_
      case hi17 => (simp only [List.getElem?_toArray, List.getElem?_cons_zero, List.getElem?_cons_succ]; rfl)
      case hq17 => exact fun _ _ _ h => h
      case hy17 => first | (refine ry_notS ?_; rfl) | (refine ry_runS (by rfl) (fun w' hw' => ?_); go_simp; try rfl)
      simp only [Act.put, List.setIfInBounds_toArray, List.set_cons_zero, List.set_cons_succ]
      refine take0S (v := ?v18) (oi := ?o18) 1 ?hi18 (by kernel_rfl) (by kernel_rfl) (by kernel_rfl) ?hq18 ?hy18 ?_
      case hi18 => (simp only [List.getElem?_toArray, List.getElem?_cons_zero, List.getElem?_cons_succ]; rfl)
      case hq18 => exact fun _ _ _ h => h
      case hy18 => first | (refine ry_notS ?_; rfl) | (refine ry_runS (by rfl) (fun w' hw' => ?_); go_simp; try rfl)
      simp only [Act.put, List.setIfInBounds_toArray, List.set_cons_zero, List.set_cons_succ]
      refine take0S (v := ?v19) (oi := ?o19) 2 ?hi19 (by kernel_rfl) (by kernel_rfl) (by kernel_rfl) ?hq19 ?hy19 ?_
      case hi19 => (simp only [List.getElem?_toArray, List.getElem?_cons_zero, List.getElem?_cons_succ]; rfl)
      case hq19 => exact fun _ _ _ h => h
      case hy19 => first | (refine ry_notS ?_; rfl) | (refine ry_runS (by rfl) (fun w' hw' => ?_); go_simp; try rfl)
      simp only [Act.put, List.setIfInBounds_toArray, List.set_cons_zero, List.set_cons_succ]
      refine take0S (v := ?v20) (oi := ?o20) 3 ?hi20 (by kernel_rfl) (by kernel_rfl) (by kernel_rfl) ?hq20 ?hy20 ?_
      case hi20 => (simp only [List.getElem?_toArray, List.getElem?_cons_zero, List.getElem?_cons_succ]; rfl)
      case hq20 => exact fun _ _ _ h => h
      case hy20 => first | (refine ry_notS ?_; rfl) | (refine ry_runS (by rfl) (fun w' hw' => ?_); go_simp; try rfl)
      simp only [Act.put, List.setIfInBounds_toArray, List.set_cons_zero, List.set_cons_succ]
      refine take0S (v := ?v21) (oi := ?o21) 4 ?hi21 (by kernel_rfl) (by kernel_rfl) (by kernel_rfl) ?hq21 ?hy21 ?_
      case hi21 => (simp only [List.getElem?_toArray, List.getElem?_cons_zero, List.getElem?_cons_succ]; rfl)
      case hq21 => exact fun _ _ _ h => h
      case hy21 => first | (refine ry_notS ?_; rfl) | (refine ry_runS (by rfl) (fun w' hw' => ?_); go_simp; try rfl)
      simp only [Act.put, List.setIfInBounds_toArray, List.set_cons_zero, List.set_cons_succ]
      refine take0S (v := ?v22) (oi := ?o22) 5 ?hi22 (by kernel_rfl) (by kernel_rfl) (by kernel_rfl) ?hq22 ?hy22 ?_
      case hi22 => (simp only [List.getElem?_toArray, List.getElem?_cons_zero, List.getElem?_cons_succ]; rfl)
      case hq22 => exact fun _ _ _ h => h
      case hy22 => first | (refine ry_notS ?_; rfl) | (refine ry_runS (by rfl) (fun w' hw' => ?_); go_simp; try rfl)
      simp only [Act.put, List.setIfInBounds_toArray, List.set_cons_zero, List.set_cons_succ]
      refine take0S (v := ?v23) (oi := ?o23) 6 ?hi23 (by kernel_rfl) (by kernel_rfl) (by kernel_rfl) ?hq23 ?hy23 ?_
      case hi23 => (simp only [List.getElem?_toArray, List.getElem?_cons_zero, List.getElem?_cons_succ]; rfl)
      case hq23 => exact fun _ _ _ h => h
      case hy23 => first | (refine ry_notS ?_; rfl) | (refine ry_runS (by rfl) (fun w' hw' => ?_); go_simp; try rfl)
      simp only [Act.put, List.setIfInBounds_toArray, List.set_cons_zero, List.set_cons_succ]
      refine take0S (v := ?v24) (oi := ?o24) 8 ?hi24 (by kernel_rfl) (by kernel_rfl) (by kernel_rfl) ?hq24 ?hy24 ?_
      case hi24 => (simp only [List.getElem?_toArray, List.getElem?_cons_zero, List.getElem?_cons_succ]; rfl)
      case hq24 => exact fun _ _ _ h => h
      case hy24 => first | (refine ry_notS ?_; rfl) | (refine ry_runS (by rfl) (fun w' hw' => ?_); go_simp; try rfl)
      simp only [Act.put, List.setIfInBounds_toArray, List.set_cons_zero, List.set_cons_succ]
      refine take0S (v := ?v25) (oi := ?o25) 9 ?hi25 (by kernel_rfl) (by kernel_rfl) (by kernel_rfl) ?hq25 ?hy25 ?_
      case hi25 => (simp only [List.getElem?_toArray, List.getElem?_cons_zero, List.getElem?_cons_succ]; rfl)
      case hq25 => exact fun _ _ _ h => h
      case hy25 => first | (refine ry_notS ?_; rfl) | (refine ry_runS (by rfl) (fun w' hw' => ?_); go_simp; try rfl)
      simp only [Act.put, List.setIfInBounds_toArray, List.set_cons_zero, List.set_cons_succ]
      refine take0S (v := ?v26) (oi := ?o26) 10 ?hi26 (by kernel_rfl) (by kernel_rfl) (by kernel_rfl) ?hq26 ?hy26 ?_
      case hi26 => (simp only [List.getElem?_toArray, List.getElem?_cons_zero, List.getElem?_cons_succ]; rfl)
      case hq26 => exact fun _ _ _ h => h
      case hy26 => first | (refine ry_notS ?_; rfl) | (refine ry_runS (by rfl) (fun w' hw' => ?_); go_simp; try rfl)
      simp only [Act.put, List.setIfInBounds_toArray, List.set_cons_zero, List.set_cons_succ]
      refine take0S (v := ?v27) (oi := ?o27) 11 ?hi27 (by kernel_rfl) (by kernel_rfl) (by kernel_rfl) ?hq27 ?hy27 ?_
      case hi27 => (simp only [List.getElem?_toArray, List.getElem?_cons_zero, List.getElem?_cons_succ]; rfl)
      case hq27 => exact fun _ _ _ h => h
      case hy27 => first | (refine ry_notS ?_; rfl) | (refine ry_runS (by rfl) (fun w' hw' => ?_); go_simp; try rfl)
      simp only [Act.put, List.setIfInBounds_toArray, List.set_cons_zero, List.set_cons_succ]
      refine take0S (v := ?v28) (oi := ?o28) 12 ?hi28 (by kernel_rfl) (by kernel_rfl) (by kernel_rfl) ?hq28 ?hy28 ?_
      case hi28 => (simp only [List.getElem?_toArray, List.getElem?_cons_zero, List.getElem?_cons_succ]; rfl)
      case hq28 => exact fun _ _ _ h => h
      case hy28 => first | (refine ry_notS ?_; rfl) | (refine ry_runS (by rfl) (fun w' hw' => ?_); go_simp; try rfl)
      simp only [Act.put, List.setIfInBounds_toArray, List.set_cons_zero, List.set_cons_succ]
      refine step0S (o := ?o29) 7 (by kernel_rfl) ?hi29 ?hw29 ?_
      case hi29 => (simp only [List.getElem?_toArray, List.getElem?_cons_zero, List.getElem?_cons_succ]; rfl)
      case hw29 => rfl
      go_simp
      refine (HP.out _).mono ?_
      rintro e w1 ⟨rfl, hm1⟩
      refine ⟨.inl (hm1.mono fun _ _ h => h.elim), ?_⟩
      refine step0S (o := ?o30) 13 (by kernel_rfl) ?hi30 ?hw30 ?_
      case hi30 => (simp only [List.getElem?_toArray, List.getElem?_cons_zero, List.getElem?_cons_succ]; rfl)
      case hw30 => rfl
      go_simp
      refine (HQ.out _).mono ?_
      rintro e w2 ⟨rfl, hm2⟩
      refine ⟨.inl (hm2.mono fun _ _ h => h.elim), ?_⟩
      refine take0S (v := ?v31) (oi := ?o31) 14 ?hi31 (by kernel_rfl) (by kernel_rfl) (by kernel_rfl) ?hq31 ?hy31 ?_
      case hi31 => (simp only [List.getElem?_toArray, List.getElem?_cons_zero, List.getElem?_cons_succ]; rfl)
      case hq31 => exact fun _ _ _ h => h
      case hy31 => first | (refine ry_notS ?_; rfl) | (refine ry_runS (by rfl) (fun w' hw' => ?_); go_simp; try rfl)
      simp only [Act.put, List.setIfInBounds_toArray, List.set_cons_zero, List.set_cons_succ]
      refine step0S (o := ?o32) 15 (by kernel_rfl) ?hi32 ?hw32 ?_
      case hi32 => (simp only [List.getElem?_toArray, List.getElem?_cons_zero, List.getElem?_cons_succ]; rfl)
      case hw32 => rfl
      go_simp
      refine (HAK.out _ ((HW.out.drew.keep hm1 (fun h => h)).keep hm2 (fun h => h))).mono ?_
      rintro e w3 ⟨rfl, hh3, hm3⟩
      refine ⟨.inl hm3, ?_⟩
      refine wpAnyM_done (by kernel_rfl) ?_
      have HW3 := Lib.hid hh3
      have HM3 := Lib.hid (Mod.trans (Mod.trans (Mod.trans HM.out.drew hm1 (fun _ _ h => h.elim)) hm2 (fun _ _ h => h.elim)) hm3 (fun _ _ h => h))
      clear hh3 hm3 hm1 hm2 hlts2
      go_wp2_with fail
      go_roundw
      case rel => exact ⟨j + 1, bd || !lt, by go_num, by omega, Lib.hid (by rw [HSN.out, HB.out]; cases bad <;> cases lt <;> simp), HW3, HM3⟩
      case measure => simp [intOf]; omega
    · have i1 : ¬ (j : Int) + 1 < (l.length : Int) := by omega
      have hjl : j = l.length - 1 := by omega
      have hb := HB.out
      rw [hjl] at hb
      have HB2 : Hid (bd = (bad || !rises (l.map (·.last)))) := Lib.hid (by rw [hb]; unfold rises; rw [List.length_map])
      clear hb hjl
      go_wp2_with fail
      go_end0
      exact ⟨rfl, by rw [← HB2.out]; exact HW.out, HM.out⟩
end Obj
end Go.Proofs.YtpoljpjcmigobaaDoor
/- Plain laws of objects: what a writer puts, and when it is right. -/
namespace Go.Proofs.YtpoljpjcmigobaaDoor
set_option linter.unusedVariables false
set_option linter.unusedSimpArgs false
open Go.RowKit K Wire
namespace Obj

structure W where
  l : List UInt8
  bad : Bool
def W.int (n lo hi : Int) (x : W) : W := ⟨x.l ++ enc n, x.bad || !inR n lo hi⟩
def W.text (s : ByteArray) (lo hi : Int) (x : W) : W := ⟨x.l ++ encT s.data.toList, x.bad || !inR (s.size : Int) lo hi⟩
def W.id (s : ByteArray) (x : W) : W := ⟨x.l ++ s.data.toList, x.bad || !decide (s.size = 32)⟩
def W.ask (ok : Bool) (x : W) : W := ⟨x.l, x.bad || !ok⟩

theorem cap_sum (most : Int) (hm : 0 ≤ most) : ∀ (l : List Int) (n : Int), (∀ s ∈ l, 0 ≤ s) → 0 ≤ n → n ≤ most + 1 → l.foldl (capStep most) n = min (n + l.sum) (most + 1)
  | [], n, _, h0, h1 => by simp; omega
  | s :: l, n, hs, h0, h1 => by
    rw [List.foldl_cons, List.sum_cons]
    have h2 := hs s (by simp)
    have hl : ∀ (l : List Int), (∀ s ∈ l, 0 ≤ s) → 0 ≤ l.sum := fun l => by
      induction l with
      | nil => intro _; simp
      | cons a l ih => intro h; rw [List.sum_cons]; have := ih (fun s hs => h s (by simp [hs])); have := h a (by simp); omega
    have h3 := hl l (fun s h => hs s (by simp [h]))
    have hci := capStep_in most n s hm h0 h1
    rw [cap_sum most hm l _ (fun s h => hs s (by simp [h])) hci.1 hci.2]
    unfold capStep
    omega
theorem capSum_le (most : Int) (hm : 0 ≤ most) (l : List Int) (hs : ∀ s ∈ l, 0 ≤ s) : decide (capSum most l ≤ most) = decide (l.sum ≤ most) := by
  unfold capSum
  rw [cap_sum most hm l 0 hs (by omega) (by omega)]
  congr 1
  rw [eq_iff_iff]
  omega

/-- what is put one behind the other -/
theorem fold_l {α : Type} (f : α → W → W) (enc1 : α → List UInt8) (hf : ∀ a x, (f a x).l = x.l ++ enc1 a) : ∀ (l : List α) (x : W), (l.foldl (fun x a => f a x) x).l = x.l ++ l.flatMap enc1
  | [], x => by simp
  | a :: l, x => by rw [List.foldl_cons, fold_l f enc1 hf l, hf, List.flatMap_cons, List.append_assoc]
theorem fold_bad {α : Type} (f : α → W → W) (ok : α → Bool) (hf : ∀ a x, (f a x).bad = (x.bad || !ok a)) : ∀ (l : List α) (x : W), (l.foldl (fun x a => f a x) x).bad = (x.bad || !l.all ok)
  | [], x => by simp
  | a :: l, x => by
    rw [List.foldl_cons, fold_bad f ok hf l, hf, List.all_cons]
    cases x.bad <;> cases ok a <;> simp
theorem take_fold {α : Type} (f : α → W → W) (l : List α) (x : W) (k : Nat) (h : k < l.length) : (l.take (k + 1)).foldl (fun x a => f a x) x = f l[k] ((l.take k).foldl (fun x a => f a x) x) := by
  rw [List.take_succ_eq_append_getElem h, List.foldl_append]; rfl

/-! fans -/
def partW (p : Part) (x : W) : W := W.int p.size 1 262144 (W.id p.id x)
def partB (p : Part) : List UInt8 := p.id.data.toList ++ enc p.size
def partOk (p : Part) : Bool := decide (p.id.size = 32) && inR p.size 1 262144
def fanW0 (level : Int) (kids : List Part) : W := W.int (kids.length : Int) 1 32 (W.int level 1 20 ⟨[0x46], false⟩)
def fanW (level : Int) (kids : List Part) : W := W.ask (decide (capSum 262144 (kids.map (·.size)) ≤ 262144)) (kids.foldl (fun x a => partW a x) (fanW0 level kids))
def fanB (level : Int) (kids : List Part) : List UInt8 := 0x46 :: (enc level ++ (enc (kids.length : Int) ++ kids.flatMap partB))
def rightFan (level : Int) (kids : List Part) : Bool := inR level 1 20 && inR (kids.length : Int) 1 32 && kids.all partOk && decide ((kids.map (·.size)).sum ≤ 262144)
theorem partW_l (p : Part) (x : W) : (partW p x).l = x.l ++ partB p := by simp [partW, W.int, W.id, partB]
theorem partW_bad (p : Part) (x : W) : (partW p x).bad = (x.bad || !partOk p) := by
  simp only [partW, W.int, W.id, partOk]; cases x.bad <;> cases decide (p.id.size = 32) <;> simp
theorem fanW_l (level : Int) (kids : List Part) : (fanW level kids).l = fanB level kids := by
  unfold fanW W.ask; dsimp only
  rw [fold_l partW partB partW_l]; simp [fanW0, W.int, fanB]
theorem fanW_bad (level : Int) (kids : List Part) : (fanW level kids).bad = !rightFan level kids := by
  unfold fanW W.ask; dsimp only
  rw [fold_bad partW partOk partW_bad]
  have h0 : (fanW0 level kids).bad = (!inR level 1 20 || !inR (kids.length : Int) 1 32) := by simp [fanW0, W.int]
  rw [h0]
  unfold rightFan
  cases hall : kids.all partOk with
  | false => cases inR level 1 20 <;> cases inR (kids.length : Int) 1 32 <;> simp
  | true =>
    have hs : ∀ s ∈ kids.map (·.size), 0 ≤ s := by
      intro s hs
      obtain ⟨p, hp, rfl⟩ := List.mem_map.1 hs
      have := List.all_eq_true.1 hall p hp
      simp only [partOk, inR, Bool.and_eq_true, decide_eq_true_eq] at this
      omega
    rw [capSum_le 262144 (by omega) _ hs]
    cases inR level 1 20 <;> cases inR (kids.length : Int) 1 32 <;> simp

/-! leaves -/
def pairW (p : Pair) (x : W) : W := W.text p.val 0 128 (W.text p.key 1 64 x)
def pairB (p : Pair) : List UInt8 := encT p.key.data.toList ++ encT p.val.data.toList
def pairOk (p : Pair) : Bool := inR (p.key.size : Int) 1 64 && inR (p.val.size : Int) 0 128
def leafW0 (pairs : List Pair) : W := W.int (pairs.length : Int) 0 64 ⟨[0x4c], false⟩
def leafW (pairs : List Pair) : W := W.ask (rises (pairs.map (·.key))) (pairs.foldl (fun x a => pairW a x) (leafW0 pairs))
def leafB (pairs : List Pair) : List UInt8 := 0x4c :: (enc (pairs.length : Int) ++ pairs.flatMap pairB)
def rightLeaf (pairs : List Pair) : Bool := inR (pairs.length : Int) 0 64 && pairs.all pairOk && rises (pairs.map (·.key))
theorem pairW_l (p : Pair) (x : W) : (pairW p x).l = x.l ++ pairB p := by simp [pairW, W.text, pairB]
theorem pairW_bad (p : Pair) (x : W) : (pairW p x).bad = (x.bad || !pairOk p) := by
  simp only [pairW, W.text, pairOk]; cases x.bad <;> cases inR (p.key.size : Int) 1 64 <;> simp
theorem leafW_l (pairs : List Pair) : (leafW pairs).l = leafB pairs := by
  unfold leafW W.ask; dsimp only
  rw [fold_l pairW pairB pairW_l]; simp [leafW0, W.int, leafB]
theorem leafW_bad (pairs : List Pair) : (leafW pairs).bad = !rightLeaf pairs := by
  unfold leafW W.ask; dsimp only
  rw [fold_bad pairW pairOk pairW_bad]
  have h0 : (leafW0 pairs).bad = !inR (pairs.length : Int) 0 64 := by simp [leafW0, W.int]
  rw [h0]
  unfold rightLeaf
  cases pairs.all pairOk <;> cases inR (pairs.length : Int) 0 64 <;> simp

/-! branches -/
def linkW (p : Link) (x : W) : W := W.int p.many 1 4096 (W.id p.id (W.text p.last 1 64 x))
def linkB (p : Link) : List UInt8 := encT p.last.data.toList ++ (p.id.data.toList ++ enc p.many)
def linkOk (p : Link) : Bool := inR (p.last.size : Int) 1 64 && decide (p.id.size = 32) && inR p.many 1 4096
def branchW0 (level : Int) (kids : List Link) : W := W.int (kids.length : Int) 1 64 (W.int level 1 20 ⟨[0x42], false⟩)
def branchW (level : Int) (kids : List Link) : W := W.ask (decide (capSum 4096 (kids.map (·.many)) ≤ 4096)) (W.ask (rises (kids.map (·.last))) (kids.foldl (fun x a => linkW a x) (branchW0 level kids)))
def branchB (level : Int) (kids : List Link) : List UInt8 := 0x42 :: (enc level ++ (enc (kids.length : Int) ++ kids.flatMap linkB))
def rightBranch (level : Int) (kids : List Link) : Bool := inR level 1 20 && inR (kids.length : Int) 1 64 && kids.all linkOk && rises (kids.map (·.last)) && decide ((kids.map (·.many)).sum ≤ 4096)
theorem linkW_l (p : Link) (x : W) : (linkW p x).l = x.l ++ linkB p := by simp [linkW, W.int, W.id, W.text, linkB]
theorem linkW_bad (p : Link) (x : W) : (linkW p x).bad = (x.bad || !linkOk p) := by
  simp only [linkW, W.int, W.id, W.text, linkOk]; cases x.bad <;> cases decide (p.id.size = 32) <;> cases inR (p.last.size : Int) 1 64 <;> simp
theorem branchW_l (level : Int) (kids : List Link) : (branchW level kids).l = branchB level kids := by
  unfold branchW W.ask; dsimp only
  rw [fold_l linkW linkB linkW_l]; simp [branchW0, W.int, branchB]
theorem branchW_bad (level : Int) (kids : List Link) : (branchW level kids).bad = !rightBranch level kids := by
  unfold branchW W.ask; dsimp only
  rw [fold_bad linkW linkOk linkW_bad]
  have h0 : (branchW0 level kids).bad = (!inR level 1 20 || !inR (kids.length : Int) 1 64) := by simp [branchW0, W.int]
  rw [h0]
  unfold rightBranch
  cases hall : kids.all linkOk with
  | false => cases inR level 1 20 <;> cases inR (kids.length : Int) 1 64 <;> simp
  | true =>
    have hs : ∀ s ∈ kids.map (·.many), 0 ≤ s := by
      intro s hs
      obtain ⟨p, hp, rfl⟩ := List.mem_map.1 hs
      have := List.all_eq_true.1 hall p hp
      simp only [linkOk, inR, Bool.and_eq_true, decide_eq_true_eq] at this
      omega
    rw [capSum_le 4096 (by omega) _ hs]
    cases inR level 1 20 <;> cases inR (kids.length : Int) 1 64 <;> cases rises (kids.map (·.last)) <;> simp
end Obj
end Go.Proofs.YtpoljpjcmigobaaDoor
