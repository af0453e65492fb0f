/- Joined texts: ObjEw. -/
import Derived.Test.YtenamjldkaggcaaGreatDoorJ27
import Derived.Test.YtenamjldkaggcaaGreatDoorJ13
import Derived.Test.YtenamjldkaggcaaGreatDoorJ15
/- Plain laws of entries; the walks of object's Entry, limits and the reference's RightEntry. -/
namespace Go.Proofs.YtenamjldkaggcaaGreatDoor
set_option linter.unusedVariables false
set_option linter.unusedSimpArgs false
open Go.RowKit K Wire
namespace Obj

structure Ent where
  name : ByteArray
  kind : Int
  id : ByteArray
  size : Int
def entC (E : Ent) : Array Value := #[.string E.name, .int .i64 E.kind, .string E.id, .int .i64 E.size]
def lowK (k : Int) : Int := if k = 2 then 1 else 0
def highK (k : Int) : Int := if k = 2 then 4096 else 262144
def entW (E : Ent) : W := W.int E.size (lowK E.kind) (highK E.kind) (W.id E.id (W.int E.kind 1 2 (W.ask (nameOk E.name) ⟨[], false⟩)))
def entB (E : Ent) : List UInt8 := enc E.kind ++ (E.id.data.toList ++ enc E.size)
def rightEntry (E : Ent) : Bool := nameOk E.name && decide (E.id.size = 32) && inR E.kind 1 2 && inR E.size (lowK E.kind) (highK E.kind)
theorem entW_l (E : Ent) : (entW E).l = entB E := by simp [entW, W.int, W.id, W.ask, entB]
theorem entW_bad (E : Ent) : (entW E).bad = !rightEntry E := by
  simp only [entW, W.int, W.id, W.ask, rightEntry]
  cases nameOk E.name <;> cases decide (E.id.size = 32) <;> cases inR E.kind 1 2 <;> cases inR E.size (lowK E.kind) (highK E.kind) <;> rfl
def entV (l : List UInt8) (bad : Bool) : Value := if bad then .tuple #[.string ⟨#[]⟩, .int .i64 80] else .tuple #[.string ⟨l.toArray⟩, .int .i64 0]
theorem entV_t (l : List UInt8) : entV l true = .tuple #[.string ⟨#[]⟩, .int .i64 80] := rfl
theorem entV_f (l : List UInt8) : entV l false = .tuple #[.string ⟨l.toArray⟩, .int .i64 0] := rfl
theorem lowK_in (k : Int) : -10 ≤ lowK k ∧ lowK k ≤ 10 := by unfold lowK; split <;> omega
theorem highK_in (k : Int) : 0 ≤ highK k ∧ highK k ≤ 262144 := by unfold highK; split <;> omega

set_option maxRecDepth 100000 in
theorem limits_calls (k : Int) (w : World) : Calls Tryz.prog 74 #[.int .i64 k] w fun e w' => e = .returned (.tuple #[.int .i64 (lowK k), .int .i64 (highK k)]) ∧ Mod (fun _ => False) w w' := by
  by_cases h : k = 2
  · have hk : (k == 2) = true := beq_iff_eq.2 h
    have H1 := Lib.hid (show lowK k = 1 by unfold lowK; rw [if_pos h])
    have H2 := Lib.hid (show highK k = 4096 by unfold highK; rw [if_pos h])
    clear h
    go_enter Tryz.func74, Tryz.ntmps74
    go_wp2_with fail
    exact bodyPost_ret (v := .tuple #[.int .i64 1, .int .i64 4096]) (by simp [results, Tryz.results74, go_sem]) rfl ⟨by rw [H1.out, H2.out], Mod.refl _ _⟩
  · have hk : (k == 2) = false := beq_eq_false_iff_ne.2 h
    have H1 := Lib.hid (show lowK k = 0 by unfold lowK; rw [if_neg h])
    have H2 := Lib.hid (show highK k = 262144 by unfold highK; rw [if_neg h])
    clear h
    go_enter Tryz.func74, Tryz.ntmps74
    go_wp2_with fail
    exact bodyPost_ret (v := .tuple #[.int .i64 0, .int .i64 262144]) (by simp [results, Tryz.results74, go_sem]) rfl ⟨by rw [H1.out, H2.out], Mod.refl _ _⟩

theorem at_new (w : World) : At w w.heap.size ⟨[], false⟩ (w.alloc (.cells #[.slice none 0 0, .bool false] 81)) :=
  ⟨⟨.slice none 0 0, Has.new w [.slice none 0 0, .bool false] _, World.ownsRow_nil _ _ _ _, by simp⟩, Nat.le_refl _, (Mod.refl _ _).alloc _⟩

theorem re_plain (E : Ent) : rightEntry E = (nameOk E.name && decide (E.id.size = 32) && ((decide (E.kind = 1) && decide (0 ≤ E.size) && decide (E.size ≤ 262144)) || (decide (E.kind = 2) && decide (1 ≤ E.size) && decide (E.size ≤ 4096)))) := by
  unfold rightEntry
  rw [Bool.and_assoc, Bool.and_assoc, Bool.and_assoc]
  congr 1
  congr 1
  by_cases h1 : E.kind = 1
  · simp [inR, lowK, highK, h1]
  · by_cases h2 : E.kind = 2
    · simp [inR, lowK, highK, h2]
    · have : inR E.kind 1 2 = false := by unfold inR; simp; omega
      simp [this, h1, h2]

set_option maxRecDepth 100000 in
set_option maxHeartbeats 2000000 in
theorem rightEntry_calls (E : Ent) (w : World) (hn : E.name.size ≤ 100000000) :
    Calls Tryz.prog 49 #[.agg (entC E)] w fun e w' => e = .returned (.bool (rightEntry E)) ∧ Mod (fun _ => False) w w' := by
  have hX := Has.new w (entC E).toList 60
  have hM0 := (Mod.refl (fun _ => False) w).alloc (.cells (entC E) 60)
  have hre := re_plain E
  have hNm := fun w' => rIsName_calls E.name w' hn
  have hI := fun w' => isId_calls E.id w'
  generalize rightEntry E = RE at *
  obtain ⟨name, kind, id, size⟩ := E
  unfold entC at *
  dsimp only at *
  generalize nameOk name = nk at *
  generalize decide (id.size = 32) = bi at *
  have x0 := hX.cell (o := 0) rfl
  have HX := Lib.hid hX
  have HM0 := Lib.hid hM0
  have HN := Lib.hid hNm
  have HI := Lib.hid hI
  clear hX hM0 hNm hI
  have k1 : (kind == 1) = decide (kind = 1) := rfl
  have k2 : (kind == 2) = decide (kind = 2) := rfl
  obtain ⟨d1, e1⟩ : ∃ d, decide (kind = 1) = d := ⟨_, rfl⟩
  obtain ⟨d2, e2⟩ : ∃ d, decide (kind = 2) = d := ⟨_, rfl⟩
  obtain ⟨d3, e3⟩ : ∃ d, decide (0 ≤ size) = d := ⟨_, rfl⟩
  obtain ⟨d4, e4⟩ : ∃ d, decide (size ≤ 262144) = d := ⟨_, rfl⟩
  obtain ⟨d5, e5⟩ : ∃ d, decide (1 ≤ size) = d := ⟨_, rfl⟩
  obtain ⟨d6, e6⟩ : ∃ d, decide (size ≤ 4096) = d := ⟨_, rfl⟩
  rw [e1, e2, e3, e4, e5, e6] at hre
  rw [e1] at k1
  rw [e2] at k2
  have HRE := Lib.hid hre
  clear hre
  go_enter Tryz.func49, Tryz.ntmps49
  go_wp2_with fail
  refine (HN.out _).mono ?_
  rintro e w1 ⟨rfl, hm1⟩
  have hx := HX.out.keep hm1 (fun h => h)
  have x2 := hx.cell (o := 2) rfl
  have HX1 := Lib.hid hx
  have HM1 := Lib.hid (Mod.trans HM0.out hm1 (fun _ _ h => h))
  clear hm1 hx
  go_wp2_with fail
  refine (HI.out _).mono ?_
  rintro e w2 ⟨rfl, hm2⟩
  have hx := HX1.out.keep hm2 (fun h => h)
  have x1 := hx.cell (o := 1) rfl
  have x3 := hx.cell (o := 3) rfl
  have HM2 := Lib.hid (Mod.trans HM1.out hm2 (fun _ _ h => h))
  clear hm2 hx x2 x0
  cases nk with
  | false => go_wp2_with fail; go_ret; exact ⟨by rw [HRE.out]; rfl, HM2.out⟩
  | true =>
  cases bi with
  | false => go_wp2_with fail; go_ret; exact ⟨by rw [HRE.out]; rfl, HM2.out⟩
  | true =>
  cases d1 <;> cases d2 <;> cases d3 <;> cases d4 <;> cases d5 <;> cases d6
  all_goals (go_wp2_with fail; go_ret; exact ⟨by rw [HRE.out]; rfl, HM2.out⟩)
end Obj
end Go.Proofs.YtenamjldkaggcaaGreatDoor
