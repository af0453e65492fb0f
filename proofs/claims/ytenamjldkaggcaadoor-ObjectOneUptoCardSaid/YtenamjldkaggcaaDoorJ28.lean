/- Joined texts: ObjEw. -/
import Derived.Test.YtenamjldkaggcaaDoorJ27
import Derived.Test.YtenamjldkaggcaaDoorJ13
import Derived.Test.YtenamjldkaggcaaDoorJ15
/- Plain laws of entries; the walks of object's Entry, limits and the reference's RightEntry. -/
namespace Go.Proofs.YtenamjldkaggcaaDoor
set_option linter.unusedVariables false
set_option linter.unusedSimpArgs false
open Go.RowKit K Wire
namespace Obj

structure Ent where
  name : ByteArray
  kind : Int
  id : ByteArray
  size : Int
def entC (E : Ent) : Array Value := #[.string E.name, .int .i64 E.kind, .string E.id, .int .i64 E.size]
def lowK (k : Int) : Int := if k = 2 then 1 else 0
def highK (k : Int) : Int := if k = 2 then 4096 else 262144
def entW (E : Ent) : W := W.int E.size (lowK E.kind) (highK E.kind) (W.id E.id (W.int E.kind 1 2 (W.ask (nameOk E.name) ⟨[], false⟩)))
def entB (E : Ent) : List UInt8 := enc E.kind ++ (E.id.data.toList ++ enc E.size)
def rightEntry (E : Ent) : Bool := nameOk E.name && decide (E.id.size = 32) && inR E.kind 1 2 && inR E.size (lowK E.kind) (highK E.kind)
theorem entW_l (E : Ent) : (entW E).l = entB E := by simp [entW, W.int, W.id, W.ask, entB]
theorem entW_bad (E : Ent) : (entW E).bad = !rightEntry E := by
  simp only [entW, W.int, W.id, W.ask, rightEntry]
  cases nameOk E.name <;> cases decide (E.id.size = 32) <;> cases inR E.kind 1 2 <;> cases inR E.size (lowK E.kind) (highK E.kind) <;> rfl
def entV (l : List UInt8) (bad : Bool) : Value := if bad then .tuple #[.string ⟨#[]⟩, .int .i64 80] else .tuple #[.string ⟨l.toArray⟩, .int .i64 0]
theorem entV_t (l : List UInt8) : entV l true = .tuple #[.string ⟨#[]⟩, .int .i64 80] := rfl
theorem entV_f (l : List UInt8) : entV l false = .tuple #[.string ⟨l.toArray⟩, .int .i64 0] := rfl
theorem lowK_in (k : Int) : -10 ≤ lowK k ∧ lowK k ≤ 10 := by unfold lowK; split <;> omega
theorem highK_in (k : Int) : 0 ≤ highK k ∧ highK k ≤ 262144 := by unfold highK; split <;> omega

set_option maxRecDepth 100000 in
theorem limits_calls (k : Int) (w : World) : Calls Tryd.prog 75 #[.int .i64 k] w fun e w' => e = .returned (.tuple #[.int .i64 (lowK k), .int .i64 (highK k)]) ∧ Mod (fun _ => False) w w' := by
  by_cases h : k = 2
  · have hk : (k == 2) = true := beq_iff_eq.2 h
    have H1 := Lib.hid (show lowK k = 1 by unfold lowK; rw [if_pos h])
    have H2 := Lib.hid (show highK k = 4096 by unfold highK; rw [if_pos h])
    clear h
    go_enter Tryd.func75, Tryd.ntmps75
    go_wp2_with fail
    exact bodyPost_ret (v := .tuple #[.int .i64 1, .int .i64 4096]) (by simp [results, Tryd.results75, go_sem]) rfl ⟨by rw [H1.out, H2.out], Mod.refl _ _⟩
  · have hk : (k == 2) = false := beq_eq_false_iff_ne.2 h
    have H1 := Lib.hid (show lowK k = 0 by unfold lowK; rw [if_neg h])
    have H2 := Lib.hid (show highK k = 262144 by unfold highK; rw [if_neg h])
    clear h
    go_enter Tryd.func75, Tryd.ntmps75
    go_wp2_with fail
    exact bodyPost_ret (v := .tuple #[.int .i64 0, .int .i64 262144]) (by simp [results, Tryd.results75, go_sem]) rfl ⟨by rw [H1.out, H2.out], Mod.refl _ _⟩

theorem at_new (w : World) : At w w.heap.size ⟨[], false⟩ (w.alloc (.cells #[.slice none 0 0, .bool false] 77)) :=
  ⟨⟨.slice none 0 0, Has.new w [.slice none 0 0, .bool false] _, World.ownsRow_nil _ _ _ _, by simp⟩, Nat.le_refl _, (Mod.refl _ _).alloc _⟩

set_option maxRecDepth 100000 in
set_option maxHeartbeats 2000000 in
theorem entry_calls (E : Ent) (w : World) (hk : In64 E.kind) (hz : In64 E.size) (hn : E.name.size ≤ 100000000) (hi : E.id.size ≤ 1048576) :
    Calls Tryd.prog 35 #[.agg (entC E)] w fun e w' => e = .returned (entV (entB E) (!rightEntry E)) ∧ Mod (fun _ => False) w w' := by
  have hX := Has.new w (entC E).toList 65
  have hM0 := (Mod.refl (fun _ => False) w).alloc (.cells (entC E) 65)
  have hA := at_new (w.alloc (.cells (entC E) 65))
  have hdef : entW E = W.int E.size (lowK E.kind) (highK E.kind) (W.id E.id (W.int E.kind 1 2 (W.ask (nameOk E.name) ⟨[], false⟩))) := rfl
  have hle := enc_len E.kind hk
  have hNm := fun w' => isName_calls E.name w' hn
  have hLm := fun w' => limits_calls E.kind w'
  have HBL := Lib.hid (entW_l E)
  have HOK := Lib.hid (entW_bad E)
  have e0 : E.id.data.toList.length = E.id.size := by simp
  generalize entW E = WE at *
  generalize entB E = BE at *
  generalize rightEntry E = RE at *
  generalize lowK E.kind = lo at *
  generalize highK E.kind = hi' at *
  obtain ⟨name, kind, id, size⟩ := E
  unfold entC at *
  dsimp only at *
  generalize nameOk name = nk at *
  have hX2 := hX.alloc (.cells #[.slice none 0 0, .bool false] 77)
  have x0 := hX2.cell (o := 0) rfl
  generalize hw0 : w.alloc (.cells #[.string name, .int .i64 kind, .string id, .int .i64 size] 65) = w0 at *
  have hbz : w0.heap.size = w.heap.size + 1 := by rw [← hw0]; simp
  rw [hbz] at hA
  have HD := Lib.hid hdef
  have HX := Lib.hid hX
  have HM0 := Lib.hid hM0
  have HA := Lib.hid hA
  have HN := Lib.hid hNm
  have HL := Lib.hid hLm
  have HW0 := Lib.hid hw0
  clear hX hM0 hA hdef hNm hLm hX2 hw0
  go_enter Tryd.func35, Tryd.ntmps35
  go_wp2_with fail
  rw [HW0.out]
  obtain ⟨b, hb⟩ : ∃ b, w.heap.size + 1 = b := ⟨_, rfl⟩
  rw [hb] at HA
  rw [hb]
  have HBB := Lib.hid hb
  clear hb HW0 x0
  refine (HN.out _).mono ?_
  rintro e w1 ⟨rfl, hm⟩
  have H1 := Lib.hid (HA.out.newer hm)
  clear hm HA
  go_wp2_with fail
  refine (ask_at H1.out nk).mono ?_
  rintro e w2 ⟨rfl, h2, _⟩
  have x1 := (HX.out.keep h2.mod (fun h => h)).cell (o := 1) rfl
  have H2 : Hid (At w0 b (W.ask nk ⟨[], false⟩) w2) := Lib.hid h2
  clear h2 H1
  go_wp2_with fail
  refine (int_at H2.out kind 1 2 hk (by simp [W.ask])).mono ?_
  rintro e w3 ⟨rfl, h3, _⟩
  have x2 := (HX.out.keep h3.mod (fun h => h)).cell (o := 2) rfl
  have H3 : Hid (At w0 b (W.int kind 1 2 (W.ask nk ⟨[], false⟩)) w3) := Lib.hid h3
  clear h3 H2 x1
  go_wp2_with fail
  refine (id_at H3.out id (by omega) (by simp [W.ask, W.int]; omega)).mono ?_
  rintro e w4 ⟨rfl, h4, _⟩
  have x1 := (HX.out.keep h4.mod (fun h => h)).cell (o := 1) rfl
  have H4 : Hid (At w0 b (W.id id (W.int kind 1 2 (W.ask nk ⟨[], false⟩))) w4) := Lib.hid h4
  clear h4 H3 x2
  go_wp2_with fail
  refine (HL.out _).mono ?_
  rintro e w5 ⟨rfl, hm⟩
  have h5 := H4.out.newer hm
  have x3 := (HX.out.keep h5.mod (fun h => h)).cell (o := 3) rfl
  have H5 := Lib.hid h5
  clear h5 hm H4 x1
  go_wp2_with fail
  refine (int_at H5.out size lo hi' hz (by simp [W.ask, W.int, W.id]; omega)).mono ?_
  rintro e w6 ⟨rfl, h6, _⟩
  have h6 : At w0 b WE w6 := by rw [HD.out]; exact h6
  have hM6 := Mod.trans HM0.out h6.mod (fun _ _ h => h)
  obtain ⟨v, hv⟩ := h6.ex
  rw [HBL.out, HOK.out] at hv
  obtain ⟨A, c, rfl, _, hcl, _, _⟩ := own_cells hv.own
  have y0 := hv.has.cell (o := 0) rfl
  have y1 := hv.has.cell (o := 1) rfl
  have hcv := run_bytes (P := Tryd.prog) c hcl 75 9 5 Tryd.underlying75 Tryd.underlying5 Tryd.underlying9
  have HM6 := Lib.hid hM6
  clear h6 hM6 hv hcl H5 x3
  cases RE with
  | true =>
    rw [Bool.not_true] at y1
    go_wp2_with fail
    refine bodyPost_ret (v := entV BE false) (by simp [results, Tryd.results35, go_sem, entV_f]) rfl ⟨rfl, HM6.out⟩
  | false =>
    rw [Bool.not_false] at y1
    go_wp2_with fail
    refine bodyPost_ret (v := entV BE true) (by simp [results, Tryd.results35, go_sem, entV_t]) rfl ⟨rfl, HM6.out⟩

theorem re_plain (E : Ent) : rightEntry E = (nameOk E.name && decide (E.id.size = 32) && ((decide (E.kind = 1) && decide (0 ≤ E.size) && decide (E.size ≤ 262144)) || (decide (E.kind = 2) && decide (1 ≤ E.size) && decide (E.size ≤ 4096)))) := by
  unfold rightEntry
  rw [Bool.and_assoc, Bool.and_assoc, Bool.and_assoc]
  congr 1
  congr 1
  by_cases h1 : E.kind = 1
  · simp [inR, lowK, highK, h1]
  · by_cases h2 : E.kind = 2
    · simp [inR, lowK, highK, h2]
    · have : inR E.kind 1 2 = false := by unfold inR; simp; omega
      simp [this, h1, h2]

set_option maxRecDepth 100000 in
set_option maxHeartbeats 2000000 in
theorem rightEntry_calls (E : Ent) (w : World) (hn : E.name.size ≤ 100000000) :
    Calls Tryd.prog 76 #[.agg (entC E)] w fun e w' => e = .returned (.bool (rightEntry E)) ∧ Mod (fun _ => False) w w' := by
  have hX := Has.new w (entC E).toList 65
  have hM0 := (Mod.refl (fun _ => False) w).alloc (.cells (entC E) 65)
  have hre := re_plain E
  have hNm := fun w' => rIsName_calls E.name w' hn
  have hI := fun w' => isId_calls E.id w'
  generalize rightEntry E = RE at *
  obtain ⟨name, kind, id, size⟩ := E
  unfold entC at *
  dsimp only at *
  generalize nameOk name = nk at *
  generalize decide (id.size = 32) = bi at *
  have x0 := hX.cell (o := 0) rfl
  have HX := Lib.hid hX
  have HM0 := Lib.hid hM0
  have HN := Lib.hid hNm
  have HI := Lib.hid hI
  clear hX hM0 hNm hI
  have k1 : (kind == 1) = decide (kind = 1) := rfl
  have k2 : (kind == 2) = decide (kind = 2) := rfl
  obtain ⟨d1, e1⟩ : ∃ d, decide (kind = 1) = d := ⟨_, rfl⟩
  obtain ⟨d2, e2⟩ : ∃ d, decide (kind = 2) = d := ⟨_, rfl⟩
  obtain ⟨d3, e3⟩ : ∃ d, decide (0 ≤ size) = d := ⟨_, rfl⟩
  obtain ⟨d4, e4⟩ : ∃ d, decide (size ≤ 262144) = d := ⟨_, rfl⟩
  obtain ⟨d5, e5⟩ : ∃ d, decide (1 ≤ size) = d := ⟨_, rfl⟩
  obtain ⟨d6, e6⟩ : ∃ d, decide (size ≤ 4096) = d := ⟨_, rfl⟩
  rw [e1, e2, e3, e4, e5, e6] at hre
  rw [e1] at k1
  rw [e2] at k2
  have HRE := Lib.hid hre
  clear hre
  go_enter Tryd.func76, Tryd.ntmps76
  go_wp2_with fail
  refine (HN.out _).mono ?_
  rintro e w1 ⟨rfl, hm1⟩
  have hx := HX.out.keep hm1 (fun h => h)
  have x2 := hx.cell (o := 2) rfl
  have HX1 := Lib.hid hx
  have HM1 := Lib.hid (Mod.trans HM0.out hm1 (fun _ _ h => h))
  clear hm1 hx
  go_wp2_with fail
  refine (HI.out _).mono ?_
  rintro e w2 ⟨rfl, hm2⟩
  have hx := HX1.out.keep hm2 (fun h => h)
  have x1 := hx.cell (o := 1) rfl
  have x3 := hx.cell (o := 3) rfl
  have HM2 := Lib.hid (Mod.trans HM1.out hm2 (fun _ _ h => h))
  clear hm2 hx x2 x0
  cases nk with
  | false => go_wp2_with fail; go_ret; exact ⟨by rw [HRE.out]; rfl, HM2.out⟩
  | true =>
  cases bi with
  | false => go_wp2_with fail; go_ret; exact ⟨by rw [HRE.out]; rfl, HM2.out⟩
  | true =>
  cases d1 <;> cases d2 <;> cases d3 <;> cases d4 <;> cases d5 <;> cases d6
  all_goals (go_wp2_with fail; go_ret; exact ⟨by rw [HRE.out]; rfl, HM2.out⟩)
end Obj
end Go.Proofs.YtenamjldkaggcaaDoor
