/- The walk of hash's mix. -/
import Derived.Test.YtenamjldkaggcaaDoorHashB
import Derived.Test.YtenamjldkaggcaaDoorKr
import Derived.Test.YtenamjldkaggcaaDoorKb
import Derived.Deep.Cut
import Derived.Deep.CutRange
import Derived.Deep.WholeRow
namespace Go.Proofs.YtenamjldkaggcaaDoor
set_option linter.unusedVariables false
set_option linter.unusedSimpArgs false
open Go.RowKit K
namespace Hash

/-- the table stands where it is laid -/
def Keys (w : World) : Prop := ∃ T fr, w.heap[0]? = some (.cells (uv keysL).toArray T fr)
theorem heap_lt {w : World} {g : Nat} {o : Obj} (h : w.heap[g]? = some o) : g < w.heap.size := (Array.getElem?_eq_some_iff.1 h).1

set_option maxRecDepth 100000 in
set_option maxHeartbeats 4000000 in
theorem mix_calls (v : V8) (a : ByteArray) (w : World) (hK : Keys w) (hv : v.Ok) (ha : a.size = 64) :
    Calls Tryd.prog 100 #[.agg (uv v.list).toArray, .string a] w fun e w' => e = .returned (.agg (uv (mixV v a.data.toList).list).toArray) ∧ Mod (fun _ => False) w w' := by
  obtain ⟨TK, frK, hK0⟩ := hK
  have HK := Lib.hid hK0
  clear hK0
  obtain ⟨V, hV⟩ : ∃ V, uv v.list = V := ⟨_, rfl⟩
  have HV := Lib.hid hV
  have hVl : V.length = 8 := by rw [← hV, uv_len]; rfl
  have HV1 : Hid (∀ u ∈ V, u.oneCell' = true) := Lib.hid (by rw [← hV]; intro u hu; obtain ⟨x, _, rfl⟩ := List.mem_map.1 hu; rfl)
  rw [hV]
  clear hV
  go_enter Tryd.func100, Tryd.ntmps100
  go_wp2_with fail
  go_loopw [20] (fun i w' => ∃ t : Nat, i = .int .i64 t ∧ t ≤ 16 ∧ Has w' (w.heap.size + 1 + 1) (uv (Wd a.data.toList t)) 152 ∧ Hid (Has w' w.heap.size V 142) ∧ Hid (Has w' (w.heap.size + 1) (uv (List.replicate 8 0)) 142) ∧ Hid (Mod (fun _ => False) w w'))
    (fun i _ => 16 - (intOf i).toNat)
  case atStart =>
    refine ⟨0, by go_num, by omega, ?_, ?_, ?_, ?_⟩
    · have := Has.new ((w.alloc (.cells V.toArray 142)).alloc (.cells (uv (List.replicate 8 0)).toArray 142)) (uv (Wd a.data.toList 0)) 152
      simp only [size_alloc] at this
      exact this
    · exact Lib.hid (((Has.new w V 142).alloc _).alloc _)
    · have := (Has.new (w.alloc (.cells V.toArray 142)) (uv (List.replicate 8 0)) 142).alloc (.cells (uv (Wd a.data.toList 0)).toArray 152)
      simp only [size_alloc] at this
      exact Lib.hid this
    · exact Lib.hid (Mod.alloc (Mod.alloc (Mod.alloc (Mod.refl _ _) _) _) _)
  case round =>
    obtain ⟨t, rfl, ht, hW, HH, HR, HM⟩ := hrel
    by_cases hlt : t < 16
    · have i1 : (t : Int) < 16 := by omega
      obtain ⟨k0, hk0⟩ : ∃ k : Nat, k = 4 * t := ⟨_, rfl⟩
      obtain ⟨k1, hk1⟩ : ∃ k : Nat, k = 4 * t + 1 := ⟨_, rfl⟩
      obtain ⟨k2, hk2⟩ : ∃ k : Nat, k = 4 * t + 2 := ⟨_, rfl⟩
      obtain ⟨k3, hk3⟩ : ∃ k : Nat, k = 4 * t + 3 := ⟨_, rfl⟩
      have l0 : k0 < a.size := by omega
      have l1 : k1 < a.size := by omega
      have l2 : k2 < a.size := by omega
      have l3 : k3 < a.size := by omega
      have j0 : (k0 : Int) < (a.size : Int) := by omega
      have j1 : (k1 : Int) < (a.size : Int) := by omega
      have j2 : (k2 : Int) < (a.size : Int) := by omega
      have j3 : (k3 : Int) < (a.size : Int) := by omega
      have q0 : Hid (IntKind.i64.wrap (4 * (t : Int)) = (k0 : Int)) := Lib.hid (by simp only [IntKind.wrap_i64]; omega)
      have q1 : Hid (IntKind.i64.wrap ((k0 : Int) + 1) = (k1 : Int)) := Lib.hid (by simp only [IntKind.wrap_i64]; omega)
      have q2 : Hid (IntKind.i64.wrap ((k0 : Int) + 2) = (k2 : Int)) := Lib.hid (by simp only [IntKind.wrap_i64]; omega)
      have q3 : Hid (IntKind.i64.wrap ((k0 : Int) + 3) = (k3 : Int)) := Lib.hid (by simp only [IntKind.wrap_i64]; omega)
      have HZ := Lib.hid ha
      have hor := or4 a[k0].toNat a[k1].toNat a[k2].toNat a[k3].toNat a[k0].toNat_lt a[k1].toNat_lt a[k2].toNat_lt a[k3].toNat_lt
      have hld : a[k0].toNat * 16777216 + a[k1].toNat * 65536 + a[k2].toNat * 256 + a[k3].toNat = ld a.data.toList t := by
        unfold ld
        rw [← hk3, ← hk2, ← hk1, ← hk0, getD_byte a k0 l0, getD_byte a k1 l1, getD_byte a k2 l2, getD_byte a k3 l3]
      rw [hld] at hor
      have hset : (uv (Wd a.data.toList t)).set t (.int .u32 (ld a.data.toList t : Nat)) = uv (Wd a.data.toList (t + 1)) := by
        rw [uv_set, Wd, if_pos hlt]
      generalize ld a.data.toList t = X at hor hset
      have HOR := Lib.hid hor
      have hcl := hW.cell (uv_get _ t (by rw [Wd_len]; omega))
      have hfz := hW.frozen t
      have HS := Lib.hid (hset ▸ hW.set t (.int .u32 (X : Int)))
      clear ha hk0 hk1 hk2 hk3 hor hld hset hW
      go_wp2_with fail
      refine region_tail 30 (by kernel_rfl) (by kernel_rfl) ?_
      simp only [List.take_succ_cons, List.take_zero, List.drop_succ_cons, List.drop_zero]
      repeat still_step
      simp only [q0.out]
      repeat still_step
      simp only [q0.out, q1.out]
      repeat still_step
      simp only [q0.out]
      repeat still_step
      simp only [q0.out, q2.out]
      repeat still_step
      simp only [q0.out]
      repeat still_step
      simp only [q0.out, q3.out]
      repeat still_step
      refine wpStill_nil ?_
      simp only [HOR.out]
      go_wp2_with fail
      go_roundw
      case rel => exact ⟨t + 1, by go_num, by omega, HS.out, Lib.hid (HH.out.other (p := ⟨w.heap.size + 1 + 1, t, none⟩) (by dsimp only; omega) _), Lib.hid (HR.out.other (p := ⟨w.heap.size + 1 + 1, t, none⟩) (by dsimp only; omega) _), Lib.hid (HM.out.drew.setCell (p := ⟨w.heap.size + 1 + 1, t, none⟩) (.inr (by dsimp only; omega)) _)⟩
      case measure => simp [intOf]; omega
    · have i1 : ¬ (t : Int) < 16 := by omega
      go_wp2_with fail
      go_loopw [7] (fun i w' => ∃ t : Nat, i = .int .i64 t ∧ 16 ≤ t ∧ t ≤ 64 ∧ Has w' (w.heap.size + 1 + 1) (uv (Wd a.data.toList t)) 152 ∧ Hid (Has w' w.heap.size V 142) ∧ Hid (Has w' (w.heap.size + 1) (uv (List.replicate 8 0)) 142) ∧ Hid (Mod (fun _ => False) w w'))
        (fun i _ => 64 - (intOf i).toNat)
      case atStart => exact ⟨16, by go_num, by omega, by omega, (show t = 16 by omega) ▸ hW, HH, HR, HM⟩
      case round =>
        obtain ⟨t, rfl, ht0, ht, hW, HH, HR, HM⟩ := hrel
        have hlen := Wd_len a.data.toList t
        have hlts := Wd_lt a.data.toList t
        by_cases hlt : t < 64
        · have i1 : (t : Int) < 64 := by omega
          have hws := wstep_int (Wd a.data.toList t) t
          have hset := Wd_next a.data.toList t ht0
          obtain ⟨k15, hk15⟩ : ∃ k : Nat, t - 15 = k := ⟨_, rfl⟩
          obtain ⟨k2, hk2⟩ : ∃ k : Nat, t - 2 = k := ⟨_, rfl⟩
          obtain ⟨k16, hk16⟩ : ∃ k : Nat, t - 16 = k := ⟨_, rfl⟩
          obtain ⟨k7, hk7⟩ : ∃ k : Nat, t - 7 = k := ⟨_, rfl⟩
          rw [hk15, hk2, hk16, hk7] at hws
          have c15 := hW.cell (uv_get _ k15 (by omega))
          have c2 := hW.cell (uv_get _ k2 (by omega))
          have c16 := hW.cell (uv_get _ k16 (by omega))
          have c7 := hW.cell (uv_get _ k7 (by omega))
          have ct := hW.cell (uv_get _ t (by omega))
          have ft := hW.frozen t
          have q15 : IntKind.i64.wrap ((t : Int) - 15) = (k15 : Int) := by simp only [IntKind.wrap_i64]; omega
          have q2 : IntKind.i64.wrap ((t : Int) - 2) = (k2 : Int) := by simp only [IntKind.wrap_i64]; omega
          have Q16 : Hid (IntKind.i64.wrap ((t : Int) - 16) = (k16 : Int)) := Lib.hid (by simp only [IntKind.wrap_i64]; omega)
          have Q7 : Hid (IntKind.i64.wrap ((t : Int) - 7) = (k7 : Int)) := Lib.hid (by simp only [IntKind.wrap_i64]; omega)
          have r15 : (t : Int) - 15 = (k15 : Int) := by omega
          have r2 : (t : Int) - 2 = (k2 : Int) := by omega
          have n15 : (k15 : Int) < 64 := by omega
          have n2 : (k2 : Int) < 64 := by omega
          have n16 : (k16 : Int) < 64 := by omega
          have n7 : (k7 : Int) < 64 := by omega
          have hx := getD_lt hlts k15
          have hy := getD_lt hlts k2
          obtain ⟨x1, x2, hx1, hx2, hx3⟩ := sig0_int _ hx
          obtain ⟨y1, y2, hy1, hy2, hy3⟩ := sig1_int _ hy
          generalize (Wd a.data.toList t).getD k15 0 = X at *
          generalize (Wd a.data.toList t).getD k2 0 = Y at *
          generalize (Wd a.data.toList t).getD k16 0 = X16 at *
          generalize (Wd a.data.toList t).getD k7 0 = X7 at *
          generalize (Wd a.data.toList t).getD t 0 = Xt at *
          generalize wstep (Wd a.data.toList t) t = Z at *
          generalize sig0 X = S0 at *
          generalize sig1 Y = S1 at *
          have HWS := Lib.hid hws
          have HS := Lib.hid (hset ▸ hW.set t (.int .u32 (Z : Int)))
          clear hk15 hk2 hk16 hk7 hws hset hlts hlen hW
          go_wp2_with fail
          go_quiet (fail)
          go_wp2_with fail
          refine (rotl_calls X 7 _ hx (by decide) (by decide) (by decide)).mono ?_
          rintro e w1 ⟨rfl, hw⟩; subst hw
          go_wp2_with fail
          refine (rotl_calls X 18 _ hx (by decide) (by decide) (by decide)).mono ?_
          rintro e w1 ⟨rfl, hw⟩; subst hw
          go_wp2_with fail
          refine (rotl_calls Y 17 _ hy (by decide) (by decide) (by decide)).mono ?_
          rintro e w1 ⟨rfl, hw⟩; subst hw
          go_wp2_with fail
          refine (rotl_calls Y 19 _ hy (by decide) (by decide) (by decide)).mono ?_
          rintro e w1 ⟨rfl, hw⟩; subst hw
          go_wp2_with fail
          refine region_tail 14 (by kernel_rfl) (by kernel_rfl) ?_
          simp only [List.take_succ_cons, List.take_zero, List.drop_succ_cons, List.drop_zero]
          repeat still_step
          simp only [Q16.out]
          repeat still_step
          simp only [Q7.out]
          repeat still_step
          refine wpStill_nil ?_
          simp only [HWS.out]
          go_wp2_with fail
          go_roundw
          case rel => exact ⟨t + 1, by go_num, by omega, by omega, HS.out.drewN _, Lib.hid (HH.out.other (p := ⟨w.heap.size + 1 + 1, t, none⟩) (by dsimp only; omega) _), Lib.hid (HR.out.other (p := ⟨w.heap.size + 1 + 1, t, none⟩) (by dsimp only; omega) _), Lib.hid (Mod.drewN (HM.out.setCell (p := ⟨w.heap.size + 1 + 1, t, none⟩) (.inr (by dsimp only; omega)) _) _)⟩
          case measure => simp [intOf]; omega
        · have h64 : Hid (t = 64) := Lib.hid (by omega)
          have i1 : ¬ (t : Int) < 64 := by omega
          have hKw : (wr.alloc (.cells V.toArray 142)).heap[0]? = some (.cells (uv keysL).toArray TK frK) := by
            have h0 : 0 < w.heap.size := heap_lt HK.out
            rw [(Mod.alloc HM.out (.cells V.toArray 142)).block _ h0 (fun h => h)]; exact HK.out
          have hst : (storeCells ⟨wr.heap.size, 0, none⟩ V 0).run Tryd.prog (wr.alloc (.cells #[.int .u32 0, .int .u32 0, .int .u32 0, .int .u32 0, .int .u32 0, .int .u32 0, .int .u32 0, .int .u32 0] 142)) = .ok () (wr.alloc (.cells V.toArray 142)) := by
            have h := run_storeCells_new (P := Tryd.prog) wr 142 #[.int .u32 0, .int .u32 0, .int .u32 0, .int .u32 0, .int .u32 0, .int .u32 0, .int .u32 0, .int .u32 0] V.toArray (by simp [hVl]; exact ⟨_, rfl, rfl⟩) (by simp [hVl]) (by simpa using HV1.out)
            simpa using h
          go_wp2_with (first
            | fail
            | (refine wpList_load_row rfl 142 (.tmp 2) rfl w.heap.size rfl 142 V.toArray (0, 0) _ HH.out Tryd.underlying142 rfl (by simp [hVl]; exact ⟨_, rfl, rfl⟩) ?_)
            | (refine wpList_load_row rfl 152 _ rfl 0 rfl TK (uv keysL).toArray frK _ hKw Tryd.underlying152 rfl (by simp [uv_len]; exact ⟨_, rfl, rfl⟩) ?_))
          obtain ⟨bV, hbV⟩ : ∃ b, wr.heap.size = b := ⟨_, rfl⟩
          have hsz := HM.out.size
          have hWlt := hW.lt
          have hbW : w.heap.size + 1 + 1 < bV := by omega
          have hW' := hW.alloc (.cells V.toArray 142)
          rw [h64.out] at hW'
          have hVn : Has (wr.alloc (.cells V.toArray 142)) bV V 142 := hbV ▸ Has.new wr V 142
          simp only [hbV]
          have HH' := Lib.hid (HH.out.alloc (.cells V.toArray 142))
          have HR' := Lib.hid (HR.out.alloc (.cells V.toArray 142))
          have HM' := Lib.hid (Mod.alloc HM.out (.cells V.toArray 142))
          have HWL := Lib.hid (Wd_len a.data.toList 64)
          have HWT := Lib.hid (Wd_lt a.data.toList 64)
          obtain ⟨WL, hWL⟩ : ∃ WL, Wd a.data.toList 64 = WL := ⟨_, rfl⟩
          rw [hWL] at HWL HWT hW'
          have HWD := Lib.hid hWL
          have HKI := Lib.hid (fun (t : Nat) (h : t < 64) (w' : World) => index_word keysL t 64 152 Tryd.underlying152 h h w')
          generalize (uv keysL).toArray = KA at *
          have HWW := Lib.hid hW'
          clear hst hKw hW hWlt hW' hWL HH HR HM
          go_loopw [100] (fun i w' => ∃ t : Nat, i = .int .i64 t ∧ t ≤ 64 ∧ Has w' bV (uv (Rd WL v t).list) 142 ∧ Hid (Has w' (w.heap.size + 1 + 1) (uv WL) 152) ∧ Hid (Has w' w.heap.size V 142) ∧ Hid (Has w' (w.heap.size + 1) (uv (List.replicate 8 0)) 142) ∧ Hid (Mod (fun _ => False) w w'))
            (fun i _ => 64 - (intOf i).toNat)
          case atStart => exact ⟨0, by go_num, by omega, by rw [show uv (Rd WL v 0).list = V from HV.out]; exact hVn, HWW, HH', HR', HM'⟩
          case round =>
            obtain ⟨t, rfl, ht, hV, HWW, HH, HR, HM⟩ := hrel
            by_cases hlt : t < 64
            · have i1 : (t : Int) < 64 := by omega
              have hok := Rd_ok WL v hv t
              have hstep : Rd WL v (t + 1) = round (Rd WL v t) (keysL.getD t 0) (WL.getD t 0) := rfl
              have hki := HKI.out t hlt
              have cw := HWW.out.cell (uv_get WL t (by rw [HWL.out]; exact hlt))
              generalize keysL.getD t 0 = k at hstep hki
              generalize WL.getD t 0 = x at hstep cw
              have h1 := T1_int (Rd WL v t) k x hok
              have h2 := T2_int (Rd WL v t) hok
              have l1 := T1_lt (Rd WL v t) k x
              have l2 := T2_lt (Rd WL v t)
              unfold round at hstep
              generalize T1 (Rd WL v t) k x = t1 at *
              generalize T2 (Rd WL v t) = t2 at *
              generalize Rd WL v t = r at *
              obtain ⟨va, vb, vc, vd, ve, vf, vg, vh⟩ := r
              obtain ⟨o1, o2, o3, o4, o5, o6, o7, o8⟩ := hok
              dsimp only at o1 o2 o3 o4 o5 o6 o7 o8 h1 h2 hstep
              have c0 := hV.cell (o := 0) rfl
              have c1 := hV.cell (o := 1) rfl
              have c2 := hV.cell (o := 2) rfl
              have c3 := hV.cell (o := 3) rfl
              have c4 := hV.cell (o := 4) rfl
              have c5 := hV.cell (o := 5) rfl
              have c6 := hV.cell (o := 6) rfl
              have c7 := hV.cell (o := 7) rfl
              have f0 := hV.frozen
              have H1 := Lib.hid h1
              have H2 := Lib.hid h2
              have HST := Lib.hid hstep
              have HVV := Lib.hid hV
              clear h1 h2 hstep hV
              go_wp2_with fail
              go_quiet (fail)
              go_wp2_with fail
              refine region_tail 28 (by kernel_rfl) (by kernel_rfl) ?_
              simp only [List.take_succ_cons, List.take_zero, List.drop_succ_cons, List.drop_zero]
              repeat still_step
              still_call (rotl_calls ve 6 _ o5 (by decide) (by decide) (by decide))
              repeat still_step
              still_call (rotl_calls ve 11 _ o5 (by decide) (by decide) (by decide))
              repeat still_step
              still_call (rotl_calls ve 25 _ o5 (by decide) (by decide) (by decide))
              repeat still_step
              refine wpStill_nil ?_
              simp only [show (if IntKind.u32.signed = true then (-1 : Int) else IntKind.u32.max) = IntKind.u32.max from rfl, H1.out]
              go_wp2_with fail
              refine region_tail 24 (by kernel_rfl) (by kernel_rfl) ?_
              simp only [List.take_succ_cons, List.take_zero, List.drop_succ_cons, List.drop_zero]
              repeat still_step
              still_call (rotl_calls va 2 _ o1 (by decide) (by decide) (by decide))
              repeat still_step
              still_call (rotl_calls va 13 _ o1 (by decide) (by decide) (by decide))
              repeat still_step
              still_call (rotl_calls va 22 _ o1 (by decide) (by decide) (by decide))
              repeat still_step
              refine wpStill_nil ?_
              simp only [H2.out]
              have s1 : IntKind.u32.wrap ((t1 : Int) + (t2 : Int)) = (((t1 + t2) % M32 : Nat) : Int) := by simp only [IntKind.wrap_u32]; unfold M32; omega
              have s2 : IntKind.u32.wrap ((vd : Int) + (t1 : Int)) = (((vd + t1) % M32 : Nat) : Int) := by simp only [IntKind.wrap_u32]; unfold M32; omega
              generalize (t1 + t2) % M32 = y1 at *
              generalize (vd + t1) % M32 = y2 at *
              go_wp2_with fail
              refine ⟨⟨t + 1, by go_num, by omega, ?_, Lib.hid (other8 _ _ _ _ _ _ _ _ (HWW.out.drewN _) (by omega)), Lib.hid (other8 _ _ _ _ _ _ _ _ (HH.out.drewN _) (by omega)), Lib.hid (other8 _ _ _ _ _ _ _ _ (HR.out.drewN _) (by omega)), Lib.hid (mod8 _ _ _ _ _ _ _ _ (HM.out.drewN _) (by omega))⟩, by simp [intOf]; omega⟩
              have := has8 (.int .u32 (y1 : Int)) (.int .u32 (va : Int)) (.int .u32 (vb : Int)) (.int .u32 (vc : Int)) (.int .u32 (y2 : Int)) (.int .u32 (ve : Int)) (.int .u32 (vf : Int)) (.int .u32 (vg : Int)) (HVV.out.drewN (nq + 1 + 1)) rfl
              rw [show Rd WL v (t + 1) = ⟨y1, va, vb, vc, y2, ve, vf, vg⟩ from HST.out]
              exact this
            · have h64b : Hid (t = 64) := Lib.hid (by omega)
              have i1 : ¬ (t : Int) < 64 := by omega
              rw [h64b.out] at hV
              have hok := Rd_ok WL v hv 64
              generalize hr : Rd WL v 64 = r at *
              have HVV := Lib.hid hV
              clear hV
              go_wp2_with fail
              have HH2 : Hid (Has wr w.heap.size (uv (addL v.list r.list 0)) 142) := Lib.hid (by rw [show addL v.list r.list 0 = v.list from rfl, HV.out]; exact HH.out)
              have hsum := fun (i : Nat) => addL_step v.list r.list i
              have hl0 := v8_len v
              have hl1 := v8_len r
              have hall := addL_all v r
              have hgt := fun (i : Nat) => addL_get v.list r.list i i (Nat.le_refl _)
              have hlen := fun (i : Nat) => addL_len v.list r.list i
              have HSUM := Lib.hid hsum
              have HGT := Lib.hid hgt
              have HLEN := Lib.hid hlen
              have HALL := Lib.hid hall
              clear hsum hgt hlen hall
              go_loopw [179] (fun i w' => ∃ t : Nat, i = .int .i64 t ∧ t ≤ 8 ∧ Hid (Has w' bV (uv r.list) 142) ∧ Has w' w.heap.size (uv (addL v.list r.list t)) 142 ∧ Hid (Has w' (w.heap.size + 1) (uv (List.replicate 8 0)) 142) ∧ Hid (Mod (fun _ => False) w w'))
                (fun i _ => 8 - (intOf i).toNat)
              case atStart => exact ⟨0, by go_num, by omega, HVV, HH2.out, HR, HM⟩
              case round =>
                obtain ⟨i, rfl, hi, HVV, hH, HR, HM⟩ := hrel
                by_cases hlt : i < 8
                · have i1 : (i : Int) < 8 := by omega
                  have c0 := hH.cell (uv_get _ i (by rw [HLEN.out, hl0]; exact hlt))
                  rw [HGT.out] at c0
                  have c1 := HVV.out.cell (uv_get _ i (by rw [hl1]; exact hlt))
                  have fz := hH.frozen i
                  have hst := HSUM.out i
                  have hwr : IntKind.u32.wrap (((v.list.getD i 0 : Nat) : Int) + ((r.list.getD i 0 : Nat) : Int)) = (((v.list.getD i 0 + r.list.getD i 0) % M32 : Nat) : Int) := by simp only [IntKind.wrap_u32]; unfold M32; omega
                  generalize v.list.getD i 0 = x0 at *
                  generalize r.list.getD i 0 = x1 at *
                  generalize (x0 + x1) % M32 = x2 at *
                  have HS := Lib.hid (hst ▸ hH.set i (.int .u32 (x2 : Int)))
                  have HWR := Lib.hid hwr
                  clear hst hwr hH
                  go_wp2_with fail
                  refine region_tail 7 (by kernel_rfl) (by kernel_rfl) ?_
                  simp only [List.take_succ_cons, List.take_zero, List.drop_succ_cons, List.drop_zero]
                  repeat still_step
                  refine wpStill_nil ?_
                  simp only [HWR.out]
                  go_wp2_with fail
                  go_roundw
                  case rel => exact ⟨i + 1, by go_num, by omega, Lib.hid (HVV.out.other (p := ⟨w.heap.size, i, none⟩) (by dsimp only; omega) _), HS.out, Lib.hid (HR.out.other (p := ⟨w.heap.size, i, none⟩) (by dsimp only; omega) _), Lib.hid (HM.out.drew.setCell (p := ⟨w.heap.size, i, none⟩) (.inr (by dsimp only; omega)) _)⟩
                  case measure => simp [intOf]; omega
                · have h8 : Hid (i = 8) := Lib.hid (by omega)
                  have i1 : ¬ (i : Int) < 8 := by omega
                  rw [h8.out, HALL.out] at hH
                  have HFF := hH
                  have hmx : mixV v a.data.toList = addV v r := by unfold mixV; rw [HWD.out, hr]
                  generalize addV v r = f at *
                  have HMX := Lib.hid hmx
                  clear hmx
                  obtain ⟨f0, f1, f2, f3, f4, f5, f6, f7⟩ := f
                  have hF : wr.heap[w.heap.size]? = some (.cells #[.int .u32 (f0 : Int), .int .u32 (f1 : Int), .int .u32 (f2 : Int), .int .u32 (f3 : Int), .int .u32 (f4 : Int), .int .u32 (f5 : Int), .int .u32 (f6 : Int), .int .u32 (f7 : Int)] 142 (0, 0)) := hH
                  have c0 := HR.out.cell (o := 0) rfl
                  have c1 := HR.out.cell (o := 1) rfl
                  have c2 := HR.out.cell (o := 2) rfl
                  have c3 := HR.out.cell (o := 3) rfl
                  have c4 := HR.out.cell (o := 4) rfl
                  have c5 := HR.out.cell (o := 5) rfl
                  have c6 := HR.out.cell (o := 6) rfl
                  have c7 := HR.out.cell (o := 7) rfl
                  have fz := HR.out.frozen
                  clear hH HFF
                  go_wp2_with (first
                    | fail
                    | (refine wpList_load_row rfl 142 (.tmp 2) rfl w.heap.size rfl 142 _ (0, 0) _ hF Tryd.underlying142 rfl rfl ?_))
                  have hR8 := has8 (.int .u32 (f0 : Int)) (.int .u32 (f1 : Int)) (.int .u32 (f2 : Int)) (.int .u32 (f3 : Int)) (.int .u32 (f4 : Int)) (.int .u32 (f5 : Int)) (.int .u32 (f6 : Int)) (.int .u32 (f7 : Int)) HR.out rfl
                  refine bodyPost_ret (results_cell_row (P := Tryd.prog) rfl _ _ (w.heap.size + 1) 142 _ (0, 0) _ rfl hR8 Tryd.underlying142 rfl rfl) rfl ?_
                  refine ⟨?_, mod8 _ _ _ _ _ _ _ _ HM.out (by omega)⟩
                  rw [HMX.out]
                  rfl
end Hash
end Go.Proofs.YtenamjldkaggcaaDoor
