/- Joined texts: BlobKw. -/
import Derived.Test.YthgcjfpaekpeeaaDoorJ20
/- The walk of the maker's keep. -/
namespace Go.Proofs.YthgcjfpaekpeeaaDoor
set_option linter.unusedVariables false
set_option linter.unusedSimpArgs false
open Go.RowKit K Wire Go.Maps
namespace Blob
open Go.Proofs.YthgcjfpaekpeeaaDoor.Obj

set_option maxRecDepth 100000 in
set_option maxHeartbeats 4000000 in
theorem keep_calls {B bm bq n : Nat} {v : Value} {D : DataW Unit} {l : List Ob} {w : World} (o : Ob) (h : MkIs B bm bq v n D l w) (hz : o.id.size ≤ 1000) (hn : n ≤ 1000000) (hl : l.length ≤ 1000000) :
    Calls Tryd.prog 24 #[.pointer (some ⟨bm, 0, none⟩), .agg #[.string o.id, .string o.bytes]] w fun e w' =>
      e = .returned (.tuple #[]) ∧ (∃ v' D', MkIs B bm bq v' (n + 1) D' (keepL l o) w') ∧ Mod (fun k => k = bm ∨ k = bq ∨ v.ownBlock = some k) w w' := by
  obtain ⟨c, hc1, hc2, hc3, hc4⟩ := h.met.2 o.id
  obtain ⟨w1, hw1⟩ : ∃ w1, w.alloc (.cells #[.string o.id, .string o.bytes] 60) = w1 := ⟨_, rfl⟩
  have hm1 : Mod (fun _ => False) w w1 := hw1 ▸ (Mod.refl _ _).alloc _
  have hb1 : Has w1 w.heap.size [.string o.id, .string o.bytes] 60 := hw1 ▸ Has.new w _ _
  have h1 := h.keep hm1 (fun h => h) (fun h => h) (fun _ _ h => h)
  have hne := h.ne
  have x0 := fun (w' : World) (m : Mod0 w1.drew w') => (h1.keep (Mod.of_drew_l m) (fun h => h) (fun h => h) (fun _ _ h => h)).box.cell (o := 0) rfl
  have x1 := fun (w' : World) (m : Mod0 w1.drew w') => (h1.keep (Mod.of_drew_l m) (fun h => h) (fun h => h) (fun _ _ h => h)).box.cell (o := 1) rfl
  have y0 := fun (w' : World) (m : Mod0 w1.drew w') => (hb1.keep (Mod.of_drew_l m) (fun h => h)).cell (o := 0) rfl
  have lk := fun (w' : World) (m : Mod0 w1.drew w') => (h1.keep (Mod.of_drew_l m) (fun h => h) (fun h => h) (fun _ _ h => h)).look o.id hz hc1
  have hwrap : IntKind.i64.wrap (c + 1) = c + 1 := by rw [IntKind.wrap_i64]; omega
  have H1 := Lib.hid h1
  have HM1 := Lib.hid hm1
  have HB1 := Lib.hid hb1
  have HC := Lib.hid hc1
  have HNE := Lib.hid hne
  have HW1 := Lib.hid hw1
  by_cases hc0 : c = 0
  · have hk : keepL l o = l ++ [o] := by
      unfold keepL
      rw [if_neg]
      intro hh
      obtain ⟨x, hx, he⟩ := List.any_eq_true.1 hh
      exact hc4.1 hc0 ⟨x, hx, by simpa using he⟩
    have hmet := h.met.put o hc1 hc2 hc3
    rw [hk] at hmet ⊢
    have HMET := Lib.hid hmet
    have hvl : ∀ k, v.ownBlock = some k → k < w.heap.size := fun k hk => (h.own.lt k hk).2
    have hwb : w.heap.size < w1.heap.size := hb1.lt
    have hbm : bm < w1.heap.size := h1.box.lt
    have hbw : bm < w.heap.size := h.box.lt
    have z0 := h1.box.cell (o := 0) rfl
    have z3 : (w1.drew.drew.alloc (.cells #[.string o.id, .string o.bytes] 60)).cell? ⟨bm, 0, none⟩ = some v := (h1.box.keep (((Mod.refl (fun _ => False) w1).drew.drew).alloc (.cells #[.string o.id, .string o.bytes] 60)) (fun h => h)).cell (o := 0) rfl
    have z4 : (w1.alloc (.cells #[.string o.id, .string o.bytes] 60)).cell? ⟨bm, 0, none⟩ = some v := z3
    have z1 := fun (w' : World) (m : Mod (fun k => k = bm ∨ v.ownBlock = some k ∨ w1.heap.size ≤ k) w1.drew.drew w') => (hb1.keep (Mod.of_drew_l (Mod.of_drew_l m)) (by rintro (h | h | h) <;> first | exact absurd h.symm (Nat.ne_of_lt hbw) | exact absurd (hvl _ h) (Nat.lt_irrefl _) | exact absurd h (Nat.not_le.2 hwb))).cell (o := 0) rfl
    have z2 := fun (w' : World) (m : Mod (fun k => k = bm ∨ v.ownBlock = some k ∨ w1.heap.size ≤ k) w1.drew.drew w') => (hb1.keep (Mod.of_drew_l (Mod.of_drew_l m)) (by rintro (h | h | h) <;> first | exact absurd h.symm (Nat.ne_of_lt hbw) | exact absurd (hvl _ h) (Nat.lt_irrefl _) | exact absurd h (Nat.not_le.2 hwb))).cell (o := 1) rfl
    have HLE := Lib.hid h.le
    have HVL := Lib.hid hvl
    have HBW := Lib.hid hbw
    clear h h1 hm1 hb1 hc4 hk hmet hne hw1 hvl hbm hbw hwb
    subst hc0
    go_enter Tryd.func24, Tryd.ntmps24
    go_wp2_with fail
    rw [HW1.out]
    refine region_m (by kernel_rfl) ?_
    simp only [List.length_cons, List.length_nil, List.replicate]
    refine take0 (v := ?v1) (oi := ?o1) 0 ?hi1 (by kernel_rfl) (by kernel_rfl) (by kernel_rfl) ?hq1 ?hy1 ?_
    case hi1 => (simp only [List.getElem?_toArray, List.getElem?_cons_zero, List.getElem?_cons_succ]; rfl)
    case hq1 => exact fun _ _ _ h => h
    case hy1 => first | (refine ry_not ?_; rfl) | (refine ry_run (by rfl) (fun w' hw' => ?_); go_simp; try rfl)
    simp only [Act.put, List.setIfInBounds_toArray, List.set_cons_zero, List.set_cons_succ]
    refine take0 (v := ?v2) (oi := ?o2) 1 ?hi2 (by kernel_rfl) (by kernel_rfl) (by kernel_rfl) ?hq2 ?hy2 ?_
    case hi2 => (simp only [List.getElem?_toArray, List.getElem?_cons_zero, List.getElem?_cons_succ]; rfl)
    case hq2 => exact fun _ _ _ h => h
    case hy2 => first | (refine ry_not ?_; rfl) | (refine ry_run (by rfl) (fun w' hw' => ?_); go_simp; try rfl)
    simp only [Act.put, List.setIfInBounds_toArray, List.set_cons_zero, List.set_cons_succ]
    refine take0 (v := ?v3) (oi := ?o3) 2 ?hi3 (by kernel_rfl) (by kernel_rfl) (by kernel_rfl) ?hq3 ?hy3 ?_
    case hi3 => (simp only [List.getElem?_toArray, List.getElem?_cons_zero, List.getElem?_cons_succ]; rfl)
    case hq3 => exact fun _ _ _ h => h
    case hy3 => first | (refine ry_not ?_; rfl) | (refine ry_run (by rfl) (fun w' hw' => ?_); go_simp; try rfl)
    simp only [Act.put, List.setIfInBounds_toArray, List.set_cons_zero, List.set_cons_succ]
    refine take0 (v := ?v4) (oi := ?o4) 3 ?hi4 (by kernel_rfl) (by kernel_rfl) (by kernel_rfl) ?hq4 ?hy4 ?_
    case hi4 => (simp only [List.getElem?_toArray, List.getElem?_cons_zero, List.getElem?_cons_succ]; rfl)
    case hq4 => exact fun _ _ _ h => h
    case hy4 => first | (refine ry_not ?_; rfl) | (refine ry_run (by rfl) (fun w' hw' => ?_); go_simp; try rfl)
    simp only [Act.put, List.setIfInBounds_toArray, List.set_cons_zero, List.set_cons_succ]
    refine take0 (v := ?v5) (oi := ?o5) 4 ?hi5 (by kernel_rfl) (by kernel_rfl) (by kernel_rfl) ?hq5 ?hy5 ?_
    case hi5 => (simp only [List.getElem?_toArray, List.getElem?_cons_zero, List.getElem?_cons_succ]; rfl)
    case hq5 => exact fun _ _ _ h => h
    case hy5 => first | (refine ry_not ?_; rfl) | (refine ry_run (by rfl) (fun w' hw' => ?_); go_simp; try rfl)
    simp only [Act.put, List.setIfInBounds_toArray, List.set_cons_zero, List.set_cons_succ]
    refine take0 (v := ?v6) (oi := ?o6) 5 ?hi6 (by kernel_rfl) (by kernel_rfl) (by kernel_rfl) ?hq6 ?hy6 ?_
    case hi6 => (simp only [List.getElem?_toArray, List.getElem?_cons_zero, List.getElem?_cons_succ]; rfl)
    case hq6 => exact fun _ _ _ h => h
    case hy6 => first | (refine ry_not ?_; rfl) | (refine ry_run (by rfl) (fun w' hw' => ?_); go_simp; try rfl)
    simp only [Act.put, List.setIfInBounds_toArray, List.set_cons_zero, List.set_cons_succ]
    refine take0 (v := ?v7) (oi := ?o7) 6 ?hi7 (by kernel_rfl) (by kernel_rfl) (by kernel_rfl) ?hq7 ?hy7 ?_
    case hi7 => (simp only [List.getElem?_toArray, List.getElem?_cons_zero, List.getElem?_cons_succ]; rfl)
    case hq7 => exact fun _ _ _ h => h
    case hy7 => first | (refine ry_not ?_; rfl) | (refine ry_run (by rfl) (fun w' hw' => ?_); go_simp; try rfl)
    simp only [Act.put, List.setIfInBounds_toArray, List.set_cons_zero, List.set_cons_succ]
    refine take0 (v := ?v8) (oi := ?o8) 7 ?hi8 (by kernel_rfl) (by kernel_rfl) (by kernel_rfl) ?hq8 ?hy8 ?_
    case hi8 => (simp only [List.getElem?_toArray, List.getElem?_cons_zero, List.getElem?_cons_succ]; rfl)
    case hq8 => exact fun _ _ _ h => h
    case hy8 => first | (refine ry_not ?_; rfl) | (refine ry_run (by rfl) (fun w' hw' => ?_); go_simp; try rfl)
    simp only [Act.put, List.setIfInBounds_toArray, List.set_cons_zero, List.set_cons_succ]
    refine wpAnyM_done (by kernel_rfl) ?_
    clear x0 x1 y0 lk
    go_wp2_with fail
    refine region_mS (fun k => k = bm ∨ v.ownBlock = some k ∨ w1.heap.size ≤ k) (by kernel_rfl) ?_
    simp only [List.length_cons, List.length_nil, List.replicate]
    refine take0S (v := ?v9) (oi := ?o9) 0 ?hi9 (by kernel_rfl) (by kernel_rfl) (by kernel_rfl) ?hq9 ?hy9 ?_
    case hi9 => (simp only [List.getElem?_toArray, List.getElem?_cons_zero, List.getElem?_cons_succ]; rfl)
    case hq9 => exact fun _ _ _ h => h
    case hy9 => first | (refine ry_notS ?_; rfl) | (refine ry_runS (by rfl) (fun w' hw' => ?_); go_simp; try rfl)
    simp only [Act.put, List.setIfInBounds_toArray, List.set_cons_zero, List.set_cons_succ]
    refine take0S (v := ?v10) (oi := ?o10) 1 ?hi10 (by kernel_rfl) (by kernel_rfl) (by kernel_rfl) ?hq10 ?hy10 ?_
    case hi10 => (simp only [List.getElem?_toArray, List.getElem?_cons_zero, List.getElem?_cons_succ]; rfl)
    case hq10 => exact fun _ _ _ h => h
    case hy10 => first | (refine ry_notS ?_; rfl) | (refine ry_runS (by rfl) (fun w' hw' => ?_); go_simp; try rfl)
    simp only [Act.put, List.setIfInBounds_toArray, List.set_cons_zero, List.set_cons_succ]
    refine take0S (v := ?v11) (oi := ?o11) 2 ?hi11 (by kernel_rfl) (by kernel_rfl) (by kernel_rfl) ?hq11 ?hy11 ?_
    case hi11 => (simp only [List.getElem?_toArray, List.getElem?_cons_zero, List.getElem?_cons_succ]; rfl)
    case hq11 => exact fun _ _ _ h => h
    case hy11 => first | (refine ry_notS ?_; rfl) | (refine ry_runS (by rfl) (fun w' hw' => ?_); go_simp; try rfl)
    simp only [Act.put, List.setIfInBounds_toArray, List.set_cons_zero, List.set_cons_succ]
    refine take0S (v := ?v12) (oi := ?o12) 3 ?hi12 (by kernel_rfl) (by kernel_rfl) (by kernel_rfl) ?hq12 ?hy12 ?_
    case hi12 => (simp only [List.getElem?_toArray, List.getElem?_cons_zero, List.getElem?_cons_succ]; rfl)
    case hq12 => exact fun _ _ _ h => h
    case hy12 => first | (refine ry_notS ?_; rfl) | (refine ry_runS (by rfl) (fun w' hw' => ?_); go_simp; try rfl)
    simp only [Act.put, List.setIfInBounds_toArray, List.set_cons_zero, List.set_cons_succ]
    refine take0S (v := ?v13) (oi := ?o13) 5 ?hi13 (by kernel_rfl) (by kernel_rfl) (by kernel_rfl) ?hq13 ?hy13 ?_
    case hi13 => (simp only [List.getElem?_toArray, List.getElem?_cons_zero, List.getElem?_cons_succ]; rfl)
    case hq13 => exact fun _ _ _ h => h
    case hy13 => first | (refine ry_notS ?_; rfl) | (refine ry_runS (by rfl) (fun w' hw' => ?_); go_simp; try rfl)
    simp only [Act.put, List.setIfInBounds_toArray, List.set_cons_zero, List.set_cons_succ]
    refine two0S (oi := ?o14) (oj := ?p14) 4 6 (by kernel_rfl) ?hi14 ?hj14 ?hw14 ?hx14 ?way14 ?yaw14
    case hi14 => (simp only [List.getElem?_toArray, List.getElem?_cons_zero, List.getElem?_cons_succ]; rfl)
    case hj14 => (simp only [List.getElem?_toArray, List.getElem?_cons_zero, List.getElem?_cons_succ]; rfl)
    case hw14 => rfl
    case hx14 => rfl
    case way14 =>
      go_simp
      refine ⟨.inl (Mod.refl _ _), ?_⟩
      refine step0S (o := ?o15) 6 (by kernel_rfl) ?hi15 ?hw15 ?_
      case hi15 => (simp only [List.getElem?_toArray, List.getElem?_cons_zero, List.getElem?_cons_succ]; rfl)
      case hw15 => rfl
      go_simp
      refine ⟨.inl (Mod.alloc (Mod.refl _ _) _), ?_⟩
      refine step0S (o := ?o16) 7 (by kernel_rfl) ?hi16 ?hw16 ?_
      case hi16 => (simp only [List.getElem?_toArray, List.getElem?_cons_zero, List.getElem?_cons_succ]; rfl)
      case hw16 => rfl
      refine app_step (.tmp 16) (.tmp 18) objs_t B v l.length (l.flatMap oc) ((own_keep H1.out.own ((Mod.refl (fun _ => False) w1).drew.drew) (fun _ _ _ h => h)).alloc _) ⟨w1.heap.size, 0, none⟩ 1 1 [.string o.id, .string o.bytes] rfl rfl rfl rfl (cells_new w1.drew.drew _ _) (by intro u hu; simp at hu; rcases hu with rfl | rfl <;> rfl) (by omega) (by unfold maxLen; omega) (by have := HLE.out.1; have := HBW.out; have := HM1.out.size; simp; omega) ?_
      intro v5 w5 ho5 hm5
      refine ⟨.inl (hm5.mono fun _ _ h => .inr (.inl h.2)), ?_⟩
      obtain ⟨A5, c5, rfl, _, _, _, _⟩ := own_cells ho5
      have hM5 := Mod.trans (((Mod.refl (fun k => v.ownBlock = some k) w1).drew.drew).alloc (.cells #[.string o.id, .string o.bytes] 60)) (hm5.mono (S' := fun k => v.ownBlock = some k) fun _ _ h => h.2) (fun _ _ h => h)
      have H5 := H1.out.box.keep hM5 HNE.out.2.1
      have q0 := H5.cell (o := 0) rfl
      have r0 := H5.frozen 0
      simp only [Act.put, List.setIfInBounds_toArray, List.set_cons_zero, List.set_cons_succ]
      refine take0S (v := ?v17) (oi := ?o17) 8 ?hi17 (by kernel_rfl) (by kernel_rfl) (by kernel_rfl) ?hq17 ?hy17 ?_
      case hi17 => (simp only [List.getElem?_toArray, List.getElem?_cons_zero, List.getElem?_cons_succ]; rfl)
      case hq17 => exact fun _ _ _ h => h
      case hy17 => first | (refine ry_notS ?_; rfl) | (refine ry_runS (by rfl) (fun w' hw' => ?_); go_simp; try rfl)
      simp only [Act.put, List.setIfInBounds_toArray, List.set_cons_zero, List.set_cons_succ]
      refine take0S (v := ?v18) (oi := ?o18) 9 ?hi18 (by kernel_rfl) (by kernel_rfl) (by kernel_rfl) ?hq18 ?hy18 ?_
      case hi18 => (simp only [List.getElem?_toArray, List.getElem?_cons_zero, List.getElem?_cons_succ]; rfl)
      case hq18 => exact fun _ _ _ h => h
      case hy18 => first | (refine ry_notS ?_; rfl) | (refine ry_runS (by rfl) (fun w' hw' => ?_); go_simp; try rfl)
      simp only [Act.put, List.setIfInBounds_toArray, List.set_cons_zero, List.set_cons_succ]
      refine step0S (o := ?o19) 10 (by kernel_rfl) ?hi19 ?hw19 ?_
      case hi19 => (simp only [List.getElem?_toArray, List.getElem?_cons_zero, List.getElem?_cons_succ]; rfl)
      case hw19 => rfl
      go_simp
      refine ⟨.inl (Mod.setCell (Mod.refl _ _) (p := ⟨bm, 0, none⟩) (.inl (.inl rfl)) _), ?_⟩
      refine wpAnyM_done (by kernel_rfl) ?_
      have hb6 := (HB1.out.keep hM5 (fun h => absurd (HVL.out _ h) (Nat.lt_irrefl _))).other (p := ⟨bm, 0, none⟩) (Nat.ne_of_gt HBW.out) (.slice A5 (l.length + 1) c5)
      have hs6 : Mod (fun k => k = bm) w5 (w5.setCell ⟨bm, 0, none⟩ (.slice A5 (l.length + 1) c5)) := (Mod.refl (fun k => k = bm) w5).set1 rfl 0 (.slice A5 (l.length + 1) c5)
      have ho6 := own_store ho5 H5 (by decide) 0 (.slice A5 (l.length + 1) c5)
      have hx6 : Has (w5.setCell ⟨bm, 0, none⟩ (.slice A5 (l.length + 1) c5)) bm [.slice A5 (l.length + 1) c5, .map (some bq)] 56 := H5.set 0 (.slice A5 (l.length + 1) c5)
      have hq6 := ownsMap_keep (ownsMap_keep H1.out.map hM5 HNE.out.2.2) hs6 (fun e => HNE.out.1 e.symm)
      have hM6 : Mod (fun k => k = bm ∨ v.ownBlock = some k) w1 (w5.setCell ⟨bm, 0, none⟩ (.slice A5 (l.length + 1) c5)) := Mod.trans (hM5.mono (S' := fun k => k = bm ∨ v.ownBlock = some k) fun _ _ h => .inr h) (hs6.mono fun _ _ h => .inl h) (fun _ _ h => h)
      obtain ⟨w6, hw6⟩ : ∃ w6, w5.setCell ⟨bm, 0, none⟩ (.slice A5 (l.length + 1) c5) = w6 := ⟨_, rfl⟩
      rw [hw6] at hb6 ho6 hx6 hq6 hM6
      rw [hw6]
      have hqn : (Value.slice A5 (l.length + 1) c5).ownBlock ≠ some bq := fun e => by
        obtain ⟨es, clock, hq, _⟩ := hq6
        obtain ⟨cur, fr, ho⟩ := own_row ho6 e
        rw [hq] at ho; cases ho
      have u1 := fun (w' : World) (m : Mod0 w6.drew w') => (hx6.keep (Mod.of_drew_l m) (fun h => h)).cell (o := 1) rfl
      have t0 := fun (w' : World) (m : Mod0 w6.drew w') => (hb6.keep (Mod.of_drew_l m) (fun h => h)).cell (o := 0) rfl
      have hlk6 : ∀ (w' : World), Mod0 w6.drew w' → (Instr.lookup 54 (.map (some bq)) (.string o.id) false).run Tryd.prog w' = .ok (.int .i64 0) w' := fun w' m => by
        obtain ⟨c', hrun, hat, _⟩ := (ownsMap_keep hq6 (Mod.of_drew_l m) (fun h => h)).lookup_int (t := 54) (string_keyed Tryd.underlying9) Tryd.underlying54 Tryd.underlying3 (zeroE w') (WideMaps.keyOf_string_mk Tryd.underlying9 (s := o.id) (by unfold maxLen; omega))
        have hc := hc1
        unfold kl at hc
        rw [hc] at hat
        obtain rfl : (0 : Int) = c' := by injection hat with hat; injection hat
        exact hrun
      have HMAP : Hid (w6.drew.ownsMap Tryd.prog 9 (plainElem Tryd.prog 3) bq n D) := Lib.hid hq6
      have HO6 := Lib.hid ho6
      have HX6 := Lib.hid hx6
      have HM6 := Lib.hid hM6
      have HQN := Lib.hid hqn
      clear z0 z1 z2 z3 z4 q0 r0 H5 hM5 hm5 ho5 hb6 hs6 ho6 hx6 hq6 hM6 hqn hw6 hc1
      go_wp2_with fail
      refine region_m (by kernel_rfl) ?_
      simp only [List.length_cons, List.length_nil, List.replicate]
      refine take0 (v := ?v42) (oi := ?o42) 0 ?hi42 (by kernel_rfl) (by kernel_rfl) (by kernel_rfl) ?hq42 ?hy42 ?_
      case hi42 => (simp only [List.getElem?_toArray, List.getElem?_cons_zero, List.getElem?_cons_succ]; rfl)
      case hq42 => exact fun _ _ _ h => h
      case hy42 => first | (refine ry_not ?_; rfl) | (refine ry_run (by rfl) (fun w' hw' => ?_); go_simp; try rfl)
      simp only [Act.put, List.setIfInBounds_toArray, List.set_cons_zero, List.set_cons_succ]
      refine take0 (v := ?v43) (oi := ?o43) 1 ?hi43 (by kernel_rfl) (by kernel_rfl) (by kernel_rfl) ?hq43 ?hy43 ?_
      case hi43 => (simp only [List.getElem?_toArray, List.getElem?_cons_zero, List.getElem?_cons_succ]; rfl)
      case hq43 => exact fun _ _ _ h => h
      case hy43 => first | (refine ry_not ?_; rfl) | (refine ry_run (by rfl) (fun w' hw' => ?_); go_simp; try rfl)
      simp only [Act.put, List.setIfInBounds_toArray, List.set_cons_zero, List.set_cons_succ]
      refine take0 (v := ?v44) (oi := ?o44) 2 ?hi44 (by kernel_rfl) (by kernel_rfl) (by kernel_rfl) ?hq44 ?hy44 ?_
      case hi44 => (simp only [List.getElem?_toArray, List.getElem?_cons_zero, List.getElem?_cons_succ]; rfl)
      case hq44 => exact fun _ _ _ h => h
      case hy44 => first | (refine ry_not ?_; rfl) | (refine ry_run (by rfl) (fun w' hw' => ?_); go_simp; try rfl)
      simp only [Act.put, List.setIfInBounds_toArray, List.set_cons_zero, List.set_cons_succ]
      refine take0 (v := ?v45) (oi := ?o45) 3 ?hi45 (by kernel_rfl) (by kernel_rfl) (by kernel_rfl) ?hq45 ?hy45 ?_
      case hi45 => (simp only [List.getElem?_toArray, List.getElem?_cons_zero, List.getElem?_cons_succ]; rfl)
      case hq45 => exact fun _ _ _ h => h
      case hy45 => first | (refine ry_not ?_; rfl) | (refine ry_run (by rfl) (fun w' hw' => ?_); go_simp; try rfl)
      simp only [Act.put, List.setIfInBounds_toArray, List.set_cons_zero, List.set_cons_succ]
      refine take0 (v := ?v46) (oi := ?o46) 4 ?hi46 (by kernel_rfl) (by kernel_rfl) (by kernel_rfl) ?hq46 ?hy46 ?_
      case hi46 => (simp only [List.getElem?_toArray, List.getElem?_cons_zero, List.getElem?_cons_succ]; rfl)
      case hq46 => exact fun _ _ _ h => h
      case hy46 => first | (refine ry_not ?_; rfl) | (refine ry_run (by rfl) (fun w' hw' => ?_); go_simp; try rfl)
      simp only [Act.put, List.setIfInBounds_toArray, List.set_cons_zero, List.set_cons_succ]
      refine take0 (v := ?v47) (oi := ?o47) 5 ?hi47 (by kernel_rfl) (by kernel_rfl) (by kernel_rfl) ?hq47 ?hy47 ?_
      case hi47 => (simp only [List.getElem?_toArray, List.getElem?_cons_zero, List.getElem?_cons_succ]; rfl)
      case hq47 => exact fun _ _ _ h => h
      case hy47 => first | (refine ry_not ?_; rfl) | (refine ry_run (by rfl) (fun w' hw' => ?_); go_simp; try rfl)
      simp only [Act.put, List.setIfInBounds_toArray, List.set_cons_zero, List.set_cons_succ]
      refine take0 (v := ?v48) (oi := ?o48) 6 ?hi48 (by kernel_rfl) (by kernel_rfl) (by kernel_rfl) ?hq48 ?hy48 ?_
      case hi48 => (simp only [List.getElem?_toArray, List.getElem?_cons_zero, List.getElem?_cons_succ]; rfl)
      case hq48 => exact fun _ _ _ h => h
      case hy48 => first | (refine ry_not ?_; rfl) | (refine ry_run (by rfl) (fun w' hw' => ?_); go_simp; try rfl)
      simp only [Act.put, List.setIfInBounds_toArray, List.set_cons_zero, List.set_cons_succ]
      refine take0 (v := ?v49) (oi := ?o49) 7 ?hi49 (by kernel_rfl) (by kernel_rfl) (by kernel_rfl) ?hq49 ?hy49 ?_
      case hi49 => (simp only [List.getElem?_toArray, List.getElem?_cons_zero, List.getElem?_cons_succ]; rfl)
      case hq49 => exact fun _ _ _ h => h
      case hy49 => first | (refine ry_not ?_; rfl) | (refine ry_run (by rfl) (fun w' hw' => ?_); go_simp; try rfl)
      simp only [Act.put, List.setIfInBounds_toArray, List.set_cons_zero, List.set_cons_succ]
      refine step0 (o := ?o50) 8 (by kernel_rfl) ?hi50 ?hw50 ?_
      case hi50 => (simp only [List.getElem?_toArray, List.getElem?_cons_zero, List.getElem?_cons_succ]; rfl)
      case hw50 => rfl
      refine upd_step (.tmp 25) (.tmp 27) (.tmp 29) 54 rfl 9 3 (string_keyed Tryd.underlying9) Tryd.underlying54 (plainElem Tryd.prog 3) bq n D rfl (HMAP).out (by unfold maxLen; omega) (.string o.id) (.int .i64 ((0 : Int) + 1)) (kl o.id) rfl rfl (WideMaps.keyOf_string_mk Tryd.underlying9 (by unfold maxLen; omega)) (.lit (.int .i64 ((0 : Int) + 1))) [] (plainElem_int Tryd.underlying3 (WalkArith.wf_i64 (by omega))) ?_
      intro w8 hown8 hgrow8
      refine ⟨.inr (by kernel_rfl), ?_⟩
      simp only [Act.put, List.setIfInBounds_toArray, List.set_cons_zero, List.set_cons_succ]
      refine wpAnyM_done (by kernel_rfl) ?_
      go_wp2_with fail
      have hm8 : Mod (fun k => k = bq) w6 w8 := Mod.grown ((Mod.refl (fun k => k = bq) w6).drew) hgrow8 (fun k hk _ => by injection hk with hk; exact hk.symm)
      go_end0
      refine ⟨rfl, ⟨(.slice A5 (l.length + 1) c5), _, HX6.out.keep hm8 HNE.out.1, ?_, hown8, HMET.out, HLE.out⟩, Mod.trans (HM1.out.mono fun _ _ h => h.elim) (Mod.trans (HM6.out.mono (S' := fun k => k = bm ∨ k = bq ∨ v.ownBlock = some k) fun _ _ h => h.elim .inl (fun h => .inr (.inr h))) (hm8.mono fun _ _ h => .inr (.inl h)) (fun _ _ h => h)) (fun _ _ h => h)⟩
      have ho8 := own_keep HO6.out hm8 (fun k _ hk h => HQN.out (by rw [hk, h]))
      rw [show (l ++ [o]).flatMap oc = l.flatMap oc ++ [.string o.id, .string o.bytes] by simp [oc], show (l ++ [o]).length = l.length + 1 by simp]
      exact ho8
    case yaw14 =>
      go_simp
      refine ⟨.inl (Mod.alloc (Mod.refl _ _) _), ?_⟩
      refine step0S (o := ?o20) 4 (by kernel_rfl) ?hi20 ?hw20 ?_
      case hi20 => (simp only [List.getElem?_toArray, List.getElem?_cons_zero, List.getElem?_cons_succ]; rfl)
      case hw20 => rfl
      go_simp
      refine ⟨.inl (Mod.refl _ _), ?_⟩
      refine step0S (o := ?o21) 7 (by kernel_rfl) ?hi21 ?hw21 ?_
      case hi21 => (simp only [List.getElem?_toArray, List.getElem?_cons_zero, List.getElem?_cons_succ]; rfl)
      case hw21 => rfl
      refine app_step (.tmp 16) (.tmp 18) objs_t B v l.length (l.flatMap oc) ((own_keep H1.out.own ((Mod.refl (fun _ => False) w1).drew.drew) (fun _ _ _ h => h)).alloc _) ⟨w1.heap.size, 0, none⟩ 1 1 [.string o.id, .string o.bytes] rfl rfl rfl rfl (cells_new w1.drew.drew _ _) (by intro u hu; simp at hu; rcases hu with rfl | rfl <;> rfl) (by omega) (by unfold maxLen; omega) (by have := HLE.out.1; have := HBW.out; have := HM1.out.size; simp; omega) ?_
      intro v5 w5 ho5 hm5
      refine ⟨.inl (hm5.mono fun _ _ h => .inr (.inl h.2)), ?_⟩
      obtain ⟨A5, c5, rfl, _, _, _, _⟩ := own_cells ho5
      have hM5 := Mod.trans (((Mod.refl (fun k => v.ownBlock = some k) w1).drew.drew).alloc (.cells #[.string o.id, .string o.bytes] 60)) (hm5.mono (S' := fun k => v.ownBlock = some k) fun _ _ h => h.2) (fun _ _ h => h)
      have H5 := H1.out.box.keep hM5 HNE.out.2.1
      have q0 := H5.cell (o := 0) rfl
      have r0 := H5.frozen 0
      simp only [Act.put, List.setIfInBounds_toArray, List.set_cons_zero, List.set_cons_succ]
      refine take0S (v := ?v22) (oi := ?o22) 8 ?hi22 (by kernel_rfl) (by kernel_rfl) (by kernel_rfl) ?hq22 ?hy22 ?_
      case hi22 => (simp only [List.getElem?_toArray, List.getElem?_cons_zero, List.getElem?_cons_succ]; rfl)
      case hq22 => exact fun _ _ _ h => h
      case hy22 => first | (refine ry_notS ?_; rfl) | (refine ry_runS (by rfl) (fun w' hw' => ?_); go_simp; try rfl)
      simp only [Act.put, List.setIfInBounds_toArray, List.set_cons_zero, List.set_cons_succ]
      refine take0S (v := ?v23) (oi := ?o23) 9 ?hi23 (by kernel_rfl) (by kernel_rfl) (by kernel_rfl) ?hq23 ?hy23 ?_
      case hi23 => (simp only [List.getElem?_toArray, List.getElem?_cons_zero, List.getElem?_cons_succ]; rfl)
      case hq23 => exact fun _ _ _ h => h
      case hy23 => first | (refine ry_notS ?_; rfl) | (refine ry_runS (by rfl) (fun w' hw' => ?_); go_simp; try rfl)
      simp only [Act.put, List.setIfInBounds_toArray, List.set_cons_zero, List.set_cons_succ]
      refine step0S (o := ?o24) 10 (by kernel_rfl) ?hi24 ?hw24 ?_
      case hi24 => (simp only [List.getElem?_toArray, List.getElem?_cons_zero, List.getElem?_cons_succ]; rfl)
      case hw24 => rfl
      go_simp
      refine ⟨.inl (Mod.setCell (Mod.refl _ _) (p := ⟨bm, 0, none⟩) (.inl (.inl rfl)) _), ?_⟩
      refine wpAnyM_done (by kernel_rfl) ?_
      have hb6 := (HB1.out.keep hM5 (fun h => absurd (HVL.out _ h) (Nat.lt_irrefl _))).other (p := ⟨bm, 0, none⟩) (Nat.ne_of_gt HBW.out) (.slice A5 (l.length + 1) c5)
      have hs6 : Mod (fun k => k = bm) w5 (w5.setCell ⟨bm, 0, none⟩ (.slice A5 (l.length + 1) c5)) := (Mod.refl (fun k => k = bm) w5).set1 rfl 0 (.slice A5 (l.length + 1) c5)
      have ho6 := own_store ho5 H5 (by decide) 0 (.slice A5 (l.length + 1) c5)
      have hx6 : Has (w5.setCell ⟨bm, 0, none⟩ (.slice A5 (l.length + 1) c5)) bm [.slice A5 (l.length + 1) c5, .map (some bq)] 56 := H5.set 0 (.slice A5 (l.length + 1) c5)
      have hq6 := ownsMap_keep (ownsMap_keep H1.out.map hM5 HNE.out.2.2) hs6 (fun e => HNE.out.1 e.symm)
      have hM6 : Mod (fun k => k = bm ∨ v.ownBlock = some k) w1 (w5.setCell ⟨bm, 0, none⟩ (.slice A5 (l.length + 1) c5)) := Mod.trans (hM5.mono (S' := fun k => k = bm ∨ v.ownBlock = some k) fun _ _ h => .inr h) (hs6.mono fun _ _ h => .inl h) (fun _ _ h => h)
      obtain ⟨w6, hw6⟩ : ∃ w6, w5.setCell ⟨bm, 0, none⟩ (.slice A5 (l.length + 1) c5) = w6 := ⟨_, rfl⟩
      rw [hw6] at hb6 ho6 hx6 hq6 hM6
      rw [hw6]
      have hqn : (Value.slice A5 (l.length + 1) c5).ownBlock ≠ some bq := fun e => by
        obtain ⟨es, clock, hq, _⟩ := hq6
        obtain ⟨cur, fr, ho⟩ := own_row ho6 e
        rw [hq] at ho; cases ho
      have u1 := fun (w' : World) (m : Mod0 w6.drew w') => (hx6.keep (Mod.of_drew_l m) (fun h => h)).cell (o := 1) rfl
      have t0 := fun (w' : World) (m : Mod0 w6.drew w') => (hb6.keep (Mod.of_drew_l m) (fun h => h)).cell (o := 0) rfl
      have hlk6 : ∀ (w' : World), Mod0 w6.drew w' → (Instr.lookup 54 (.map (some bq)) (.string o.id) false).run Tryd.prog w' = .ok (.int .i64 0) w' := fun w' m => by
        obtain ⟨c', hrun, hat, _⟩ := (ownsMap_keep hq6 (Mod.of_drew_l m) (fun h => h)).lookup_int (t := 54) (string_keyed Tryd.underlying9) Tryd.underlying54 Tryd.underlying3 (zeroE w') (WideMaps.keyOf_string_mk Tryd.underlying9 (s := o.id) (by unfold maxLen; omega))
        have hc := hc1
        unfold kl at hc
        rw [hc] at hat
        obtain rfl : (0 : Int) = c' := by injection hat with hat; injection hat
        exact hrun
      have HMAP : Hid (w6.drew.ownsMap Tryd.prog 9 (plainElem Tryd.prog 3) bq n D) := Lib.hid hq6
      have HO6 := Lib.hid ho6
      have HX6 := Lib.hid hx6
      have HM6 := Lib.hid hM6
      have HQN := Lib.hid hqn
      clear z0 z1 z2 z3 z4 q0 r0 H5 hM5 hm5 ho5 hb6 hs6 ho6 hx6 hq6 hM6 hqn hw6 hc1
      go_wp2_with fail
      refine region_m (by kernel_rfl) ?_
      simp only [List.length_cons, List.length_nil, List.replicate]
      refine take0 (v := ?v51) (oi := ?o51) 0 ?hi51 (by kernel_rfl) (by kernel_rfl) (by kernel_rfl) ?hq51 ?hy51 ?_
      case hi51 => (simp only [List.getElem?_toArray, List.getElem?_cons_zero, List.getElem?_cons_succ]; rfl)
      case hq51 => exact fun _ _ _ h => h
      case hy51 => first | (refine ry_not ?_; rfl) | (refine ry_run (by rfl) (fun w' hw' => ?_); go_simp; try rfl)
      simp only [Act.put, List.setIfInBounds_toArray, List.set_cons_zero, List.set_cons_succ]
      refine take0 (v := ?v52) (oi := ?o52) 1 ?hi52 (by kernel_rfl) (by kernel_rfl) (by kernel_rfl) ?hq52 ?hy52 ?_
      case hi52 => (simp only [List.getElem?_toArray, List.getElem?_cons_zero, List.getElem?_cons_succ]; rfl)
      case hq52 => exact fun _ _ _ h => h
      case hy52 => first | (refine ry_not ?_; rfl) | (refine ry_run (by rfl) (fun w' hw' => ?_); go_simp; try rfl)
      simp only [Act.put, List.setIfInBounds_toArray, List.set_cons_zero, List.set_cons_succ]
      refine take0 (v := ?v53) (oi := ?o53) 2 ?hi53 (by kernel_rfl) (by kernel_rfl) (by kernel_rfl) ?hq53 ?hy53 ?_
      case hi53 => (simp only [List.getElem?_toArray, List.getElem?_cons_zero, List.getElem?_cons_succ]; rfl)
      case hq53 => exact fun _ _ _ h => h
      case hy53 => first | (refine ry_not ?_; rfl) | (refine ry_run (by rfl) (fun w' hw' => ?_); go_simp; try rfl)
      simp only [Act.put, List.setIfInBounds_toArray, List.set_cons_zero, List.set_cons_succ]
      refine take0 (v := ?v54) (oi := ?o54) 3 ?hi54 (by kernel_rfl) (by kernel_rfl) (by kernel_rfl) ?hq54 ?hy54 ?_
      case hi54 => (simp only [List.getElem?_toArray, List.getElem?_cons_zero, List.getElem?_cons_succ]; rfl)
      case hq54 => exact fun _ _ _ h => h
      case hy54 => first | (refine ry_not ?_; rfl) | (refine ry_run (by rfl) (fun w' hw' => ?_); go_simp; try rfl)
      simp only [Act.put, List.setIfInBounds_toArray, List.set_cons_zero, List.set_cons_succ]
      refine take0 (v := ?v55) (oi := ?o55) 4 ?hi55 (by kernel_rfl) (by kernel_rfl) (by kernel_rfl) ?hq55 ?hy55 ?_
      case hi55 => (simp only [List.getElem?_toArray, List.getElem?_cons_zero, List.getElem?_cons_succ]; rfl)
      case hq55 => exact fun _ _ _ h => h
      case hy55 => first | (refine ry_not ?_; rfl) | (refine ry_run (by rfl) (fun w' hw' => ?_); go_simp; try rfl)
      simp only [Act.put, List.setIfInBounds_toArray, List.set_cons_zero, List.set_cons_succ]
      refine take0 (v := ?v56) (oi := ?o56) 5 ?hi56 (by kernel_rfl) (by kernel_rfl) (by kernel_rfl) ?hq56 ?hy56 ?_
      case hi56 => (simp only [List.getElem?_toArray, List.getElem?_cons_zero, List.getElem?_cons_succ]; rfl)
      case hq56 => exact fun _ _ _ h => h
      case hy56 => first | (refine ry_not ?_; rfl) | (refine ry_run (by rfl) (fun w' hw' => ?_); go_simp; try rfl)
      simp only [Act.put, List.setIfInBounds_toArray, List.set_cons_zero, List.set_cons_succ]
      refine take0 (v := ?v57) (oi := ?o57) 6 ?hi57 (by kernel_rfl) (by kernel_rfl) (by kernel_rfl) ?hq57 ?hy57 ?_
      case hi57 => (simp only [List.getElem?_toArray, List.getElem?_cons_zero, List.getElem?_cons_succ]; rfl)
      case hq57 => exact fun _ _ _ h => h
      case hy57 => first | (refine ry_not ?_; rfl) | (refine ry_run (by rfl) (fun w' hw' => ?_); go_simp; try rfl)
      simp only [Act.put, List.setIfInBounds_toArray, List.set_cons_zero, List.set_cons_succ]
      refine take0 (v := ?v58) (oi := ?o58) 7 ?hi58 (by kernel_rfl) (by kernel_rfl) (by kernel_rfl) ?hq58 ?hy58 ?_
      case hi58 => (simp only [List.getElem?_toArray, List.getElem?_cons_zero, List.getElem?_cons_succ]; rfl)
      case hq58 => exact fun _ _ _ h => h
      case hy58 => first | (refine ry_not ?_; rfl) | (refine ry_run (by rfl) (fun w' hw' => ?_); go_simp; try rfl)
      simp only [Act.put, List.setIfInBounds_toArray, List.set_cons_zero, List.set_cons_succ]
      refine step0 (o := ?o59) 8 (by kernel_rfl) ?hi59 ?hw59 ?_
      case hi59 => (simp only [List.getElem?_toArray, List.getElem?_cons_zero, List.getElem?_cons_succ]; rfl)
      case hw59 => rfl
      refine upd_step (.tmp 25) (.tmp 27) (.tmp 29) 54 rfl 9 3 (string_keyed Tryd.underlying9) Tryd.underlying54 (plainElem Tryd.prog 3) bq n D rfl (HMAP).out (by unfold maxLen; omega) (.string o.id) (.int .i64 ((0 : Int) + 1)) (kl o.id) rfl rfl (WideMaps.keyOf_string_mk Tryd.underlying9 (by unfold maxLen; omega)) (.lit (.int .i64 ((0 : Int) + 1))) [] (plainElem_int Tryd.underlying3 (WalkArith.wf_i64 (by omega))) ?_
      intro w8 hown8 hgrow8
      refine ⟨.inr (by kernel_rfl), ?_⟩
      simp only [Act.put, List.setIfInBounds_toArray, List.set_cons_zero, List.set_cons_succ]
      refine wpAnyM_done (by kernel_rfl) ?_
      go_wp2_with fail
      have hm8 : Mod (fun k => k = bq) w6 w8 := Mod.grown ((Mod.refl (fun k => k = bq) w6).drew) hgrow8 (fun k hk _ => by injection hk with hk; exact hk.symm)
      go_end0
      refine ⟨rfl, ⟨(.slice A5 (l.length + 1) c5), _, HX6.out.keep hm8 HNE.out.1, ?_, hown8, HMET.out, HLE.out⟩, Mod.trans (HM1.out.mono fun _ _ h => h.elim) (Mod.trans (HM6.out.mono (S' := fun k => k = bm ∨ k = bq ∨ v.ownBlock = some k) fun _ _ h => h.elim .inl (fun h => .inr (.inr h))) (hm8.mono fun _ _ h => .inr (.inl h)) (fun _ _ h => h)) (fun _ _ h => h)⟩
      have ho8 := own_keep HO6.out hm8 (fun k _ hk h => HQN.out (by rw [hk, h]))
      rw [show (l ++ [o]).flatMap oc = l.flatMap oc ++ [.string o.id, .string o.bytes] by simp [oc], show (l ++ [o]).length = l.length + 1 by simp]
      exact ho8
  · have hk : keepL l o = l := by
      unfold keepL
      rw [if_pos]
      have : ∃ x ∈ l, x.id = o.id := by
        refine Classical.byContradiction fun hh => hc0 (hc4.2 hh)
      obtain ⟨x, hx, he⟩ := this
      exact List.any_eq_true.2 ⟨x, hx, by simpa using he⟩
    have hmet := h.met.put o hc1 hc2 hc3
    rw [hk] at hmet ⊢
    have HMET := Lib.hid hmet
    have b1 : (c == 0) = false := beq_eq_false_iff_ne.2 hc0
    have u0 := fun (w' : World) (m : Mod0 w1.drew.drew w') => x0 w' (Mod.of_drew_l m)
    have u1 := fun (w' : World) (m : Mod0 w1.drew.drew w') => x1 w' (Mod.of_drew_l m)
    have t0 := fun (w' : World) (m : Mod0 w1.drew.drew w') => y0 w' (Mod.of_drew_l m)
    have lk2 := fun (w' : World) (m : Mod0 w1.drew.drew w') => lk w' (Mod.of_drew_l m)
    clear h h1 hm1 hb1 hc1 hc4 hk hmet hne hw1
    go_enter Tryd.func24, Tryd.ntmps24
    go_wp2_with fail
    rw [HW1.out]
    refine region_m (by kernel_rfl) ?_
    simp only [List.length_cons, List.length_nil, List.replicate]
    refine take0 (v := ?v25) (oi := ?o25) 0 ?hi25 (by kernel_rfl) (by kernel_rfl) (by kernel_rfl) ?hq25 ?hy25 ?_
    case hi25 => (simp only [List.getElem?_toArray, List.getElem?_cons_zero, List.getElem?_cons_succ]; rfl)
    case hq25 => exact fun _ _ _ h => h
    case hy25 => first | (refine ry_not ?_; rfl) | (refine ry_run (by rfl) (fun w' hw' => ?_); go_simp; try rfl)
    simp only [Act.put, List.setIfInBounds_toArray, List.set_cons_zero, List.set_cons_succ]
    refine take0 (v := ?v26) (oi := ?o26) 1 ?hi26 (by kernel_rfl) (by kernel_rfl) (by kernel_rfl) ?hq26 ?hy26 ?_
    case hi26 => (simp only [List.getElem?_toArray, List.getElem?_cons_zero, List.getElem?_cons_succ]; rfl)
    case hq26 => exact fun _ _ _ h => h
    case hy26 => first | (refine ry_not ?_; rfl) | (refine ry_run (by rfl) (fun w' hw' => ?_); go_simp; try rfl)
    simp only [Act.put, List.setIfInBounds_toArray, List.set_cons_zero, List.set_cons_succ]
    refine take0 (v := ?v27) (oi := ?o27) 2 ?hi27 (by kernel_rfl) (by kernel_rfl) (by kernel_rfl) ?hq27 ?hy27 ?_
    case hi27 => (simp only [List.getElem?_toArray, List.getElem?_cons_zero, List.getElem?_cons_succ]; rfl)
    case hq27 => exact fun _ _ _ h => h
    case hy27 => first | (refine ry_not ?_; rfl) | (refine ry_run (by rfl) (fun w' hw' => ?_); go_simp; try rfl)
    simp only [Act.put, List.setIfInBounds_toArray, List.set_cons_zero, List.set_cons_succ]
    refine take0 (v := ?v28) (oi := ?o28) 3 ?hi28 (by kernel_rfl) (by kernel_rfl) (by kernel_rfl) ?hq28 ?hy28 ?_
    case hi28 => (simp only [List.getElem?_toArray, List.getElem?_cons_zero, List.getElem?_cons_succ]; rfl)
    case hq28 => exact fun _ _ _ h => h
    case hy28 => first | (refine ry_not ?_; rfl) | (refine ry_run (by rfl) (fun w' hw' => ?_); go_simp; try rfl)
    simp only [Act.put, List.setIfInBounds_toArray, List.set_cons_zero, List.set_cons_succ]
    refine take0 (v := ?v29) (oi := ?o29) 4 ?hi29 (by kernel_rfl) (by kernel_rfl) (by kernel_rfl) ?hq29 ?hy29 ?_
    case hi29 => (simp only [List.getElem?_toArray, List.getElem?_cons_zero, List.getElem?_cons_succ]; rfl)
    case hq29 => exact fun _ _ _ h => h
    case hy29 => first | (refine ry_not ?_; rfl) | (refine ry_run (by rfl) (fun w' hw' => ?_); go_simp; try rfl)
    simp only [Act.put, List.setIfInBounds_toArray, List.set_cons_zero, List.set_cons_succ]
    refine take0 (v := ?v30) (oi := ?o30) 5 ?hi30 (by kernel_rfl) (by kernel_rfl) (by kernel_rfl) ?hq30 ?hy30 ?_
    case hi30 => (simp only [List.getElem?_toArray, List.getElem?_cons_zero, List.getElem?_cons_succ]; rfl)
    case hq30 => exact fun _ _ _ h => h
    case hy30 => first | (refine ry_not ?_; rfl) | (refine ry_run (by rfl) (fun w' hw' => ?_); go_simp; try rfl)
    simp only [Act.put, List.setIfInBounds_toArray, List.set_cons_zero, List.set_cons_succ]
    refine take0 (v := ?v31) (oi := ?o31) 6 ?hi31 (by kernel_rfl) (by kernel_rfl) (by kernel_rfl) ?hq31 ?hy31 ?_
    case hi31 => (simp only [List.getElem?_toArray, List.getElem?_cons_zero, List.getElem?_cons_succ]; rfl)
    case hq31 => exact fun _ _ _ h => h
    case hy31 => first | (refine ry_not ?_; rfl) | (refine ry_run (by rfl) (fun w' hw' => ?_); go_simp; try rfl)
    simp only [Act.put, List.setIfInBounds_toArray, List.set_cons_zero, List.set_cons_succ]
    refine take0 (v := ?v32) (oi := ?o32) 7 ?hi32 (by kernel_rfl) (by kernel_rfl) (by kernel_rfl) ?hq32 ?hy32 ?_
    case hi32 => (simp only [List.getElem?_toArray, List.getElem?_cons_zero, List.getElem?_cons_succ]; rfl)
    case hq32 => exact fun _ _ _ h => h
    case hy32 => first | (refine ry_not ?_; rfl) | (refine ry_run (by rfl) (fun w' hw' => ?_); go_simp; try rfl)
    simp only [Act.put, List.setIfInBounds_toArray, List.set_cons_zero, List.set_cons_succ]
    refine wpAnyM_done (by kernel_rfl) ?_
    clear x0 x1 y0 lk
    go_wp2_with fail
    have HMAP : Hid (w1.drew.drew.ownsMap Tryd.prog 9 (plainElem Tryd.prog 3) bq n D) := Lib.hid H1.out.map
    refine region_m (by kernel_rfl) ?_
    simp only [List.length_cons, List.length_nil, List.replicate]
    refine take0 (v := ?v33) (oi := ?o33) 0 ?hi33 (by kernel_rfl) (by kernel_rfl) (by kernel_rfl) ?hq33 ?hy33 ?_
    case hi33 => (simp only [List.getElem?_toArray, List.getElem?_cons_zero, List.getElem?_cons_succ]; rfl)
    case hq33 => exact fun _ _ _ h => h
    case hy33 => first | (refine ry_not ?_; rfl) | (refine ry_run (by rfl) (fun w' hw' => ?_); go_simp; try rfl)
    simp only [Act.put, List.setIfInBounds_toArray, List.set_cons_zero, List.set_cons_succ]
    refine take0 (v := ?v34) (oi := ?o34) 1 ?hi34 (by kernel_rfl) (by kernel_rfl) (by kernel_rfl) ?hq34 ?hy34 ?_
    case hi34 => (simp only [List.getElem?_toArray, List.getElem?_cons_zero, List.getElem?_cons_succ]; rfl)
    case hq34 => exact fun _ _ _ h => h
    case hy34 => first | (refine ry_not ?_; rfl) | (refine ry_run (by rfl) (fun w' hw' => ?_); go_simp; try rfl)
    simp only [Act.put, List.setIfInBounds_toArray, List.set_cons_zero, List.set_cons_succ]
    refine take0 (v := ?v35) (oi := ?o35) 2 ?hi35 (by kernel_rfl) (by kernel_rfl) (by kernel_rfl) ?hq35 ?hy35 ?_
    case hi35 => (simp only [List.getElem?_toArray, List.getElem?_cons_zero, List.getElem?_cons_succ]; rfl)
    case hq35 => exact fun _ _ _ h => h
    case hy35 => first | (refine ry_not ?_; rfl) | (refine ry_run (by rfl) (fun w' hw' => ?_); go_simp; try rfl)
    simp only [Act.put, List.setIfInBounds_toArray, List.set_cons_zero, List.set_cons_succ]
    refine take0 (v := ?v36) (oi := ?o36) 3 ?hi36 (by kernel_rfl) (by kernel_rfl) (by kernel_rfl) ?hq36 ?hy36 ?_
    case hi36 => (simp only [List.getElem?_toArray, List.getElem?_cons_zero, List.getElem?_cons_succ]; rfl)
    case hq36 => exact fun _ _ _ h => h
    case hy36 => first | (refine ry_not ?_; rfl) | (refine ry_run (by rfl) (fun w' hw' => ?_); go_simp; try rfl)
    simp only [Act.put, List.setIfInBounds_toArray, List.set_cons_zero, List.set_cons_succ]
    refine take0 (v := ?v37) (oi := ?o37) 4 ?hi37 (by kernel_rfl) (by kernel_rfl) (by kernel_rfl) ?hq37 ?hy37 ?_
    case hi37 => (simp only [List.getElem?_toArray, List.getElem?_cons_zero, List.getElem?_cons_succ]; rfl)
    case hq37 => exact fun _ _ _ h => h
    case hy37 => first | (refine ry_not ?_; rfl) | (refine ry_run (by rfl) (fun w' hw' => ?_); go_simp; try rfl)
    simp only [Act.put, List.setIfInBounds_toArray, List.set_cons_zero, List.set_cons_succ]
    refine take0 (v := ?v38) (oi := ?o38) 5 ?hi38 (by kernel_rfl) (by kernel_rfl) (by kernel_rfl) ?hq38 ?hy38 ?_
    case hi38 => (simp only [List.getElem?_toArray, List.getElem?_cons_zero, List.getElem?_cons_succ]; rfl)
    case hq38 => exact fun _ _ _ h => h
    case hy38 => first | (refine ry_not ?_; rfl) | (refine ry_run (by rfl) (fun w' hw' => ?_); go_simp; try rfl)
    simp only [Act.put, List.setIfInBounds_toArray, List.set_cons_zero, List.set_cons_succ]
    refine take0 (v := ?v39) (oi := ?o39) 6 ?hi39 (by kernel_rfl) (by kernel_rfl) (by kernel_rfl) ?hq39 ?hy39 ?_
    case hi39 => (simp only [List.getElem?_toArray, List.getElem?_cons_zero, List.getElem?_cons_succ]; rfl)
    case hq39 => exact fun _ _ _ h => h
    case hy39 => first | (refine ry_not ?_; rfl) | (refine ry_run (by rfl) (fun w' hw' => ?_); go_simp; try rfl)
    simp only [Act.put, List.setIfInBounds_toArray, List.set_cons_zero, List.set_cons_succ]
    refine take0 (v := ?v40) (oi := ?o40) 7 ?hi40 (by kernel_rfl) (by kernel_rfl) (by kernel_rfl) ?hq40 ?hy40 ?_
    case hi40 => (simp only [List.getElem?_toArray, List.getElem?_cons_zero, List.getElem?_cons_succ]; rfl)
    case hq40 => exact fun _ _ _ h => h
    case hy40 => first | (refine ry_not ?_; rfl) | (refine ry_run (by rfl) (fun w' hw' => ?_); go_simp; try rfl)
    simp only [Act.put, List.setIfInBounds_toArray, List.set_cons_zero, List.set_cons_succ]
    refine step0 (o := ?o41) 8 (by kernel_rfl) ?hi41 ?hw41 ?_
    case hi41 => (simp only [List.getElem?_toArray, List.getElem?_cons_zero, List.getElem?_cons_succ]; rfl)
    case hw41 => rfl
    refine upd_step (.tmp 25) (.tmp 27) (.tmp 29) 54 rfl 9 3 (string_keyed Tryd.underlying9) Tryd.underlying54 (plainElem Tryd.prog 3) bq n D rfl (HMAP).out (by unfold maxLen; omega) (.string o.id) (.int .i64 (c + 1)) (kl o.id) rfl rfl (WideMaps.keyOf_string_mk Tryd.underlying9 (by unfold maxLen; omega)) (.lit (.int .i64 (c + 1))) [] (plainElem_int Tryd.underlying3 (WalkArith.wf_i64 (by omega))) ?_
    intro w8 hown8 hgrow8
    refine ⟨.inr (by kernel_rfl), ?_⟩
    simp only [Act.put, List.setIfInBounds_toArray, List.set_cons_zero, List.set_cons_succ]
    refine wpAnyM_done (by kernel_rfl) ?_
    go_wp2_with fail
    have hm8 : Mod (fun k => k = bq) w1 w8 := Mod.grown ((Mod.refl (fun k => k = bq) w1).drew.drew) hgrow8 (fun k hk _ => by injection hk with hk; exact hk.symm)
    go_end0
    refine ⟨rfl, ⟨v, _, H1.out.box.keep hm8 HNE.out.1, own_keep H1.out.own hm8 (fun k _ hk h => HNE.out.2.2 (by rw [hk, h])), hown8, HMET.out, H1.out.le⟩, Mod.trans (HM1.out.mono fun _ _ h => h.elim) (hm8.mono fun _ _ h => .inr (.inl h)) (fun _ _ h => h)⟩
end Blob
end Go.Proofs.YthgcjfpaekpeeaaDoor
