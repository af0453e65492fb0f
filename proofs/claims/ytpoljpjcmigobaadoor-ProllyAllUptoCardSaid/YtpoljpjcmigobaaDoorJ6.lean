/- Joined texts: HashM, HashS. -/
import Derived.Test.YtpoljpjcmigobaaDoorJ5
import Derived.Test.YtpoljpjcmigobaaDoorJ1
import Derived.Deep.Cut
import Derived.Deep.CutRange
import Derived.Deep.WholeRow
import Derived.Test.YtpoljpjcmigobaaDoorShelf
/- The walk of hash's mix. -/
namespace Go.Proofs.YtpoljpjcmigobaaDoor
set_option linter.unusedVariables false
set_option linter.unusedSimpArgs false
open Go.RowKit K
namespace Hash

/-- the table stands where it is laid -/
def Keys (w : World) : Prop := ∃ T fr, w.heap[0]? = some (.cells (uv keysL).toArray T fr)
theorem heap_lt {w : World} {g : Nat} {o : Obj} (h : w.heap[g]? = some o) : g < w.heap.size := (Array.getElem?_eq_some_iff.1 h).1

set_option maxRecDepth 100000 in
set_option maxHeartbeats 4000000 in
theorem mix_calls (v : V8) (a : ByteArray) (w : World) (hK : Keys w) (hv : v.Ok) (ha : a.size = 64) :
    Calls Tryd.prog 101 #[.agg (uv v.list).toArray, .string a] w fun e w' => e = .returned (.agg (uv (mixV v a.data.toList).list).toArray) ∧ Mod (fun _ => False) w w' := by
  obtain ⟨TK, frK, hK0⟩ := hK
  have HK := Lib.hid hK0
  clear hK0
  obtain ⟨V, hV⟩ : ∃ V, uv v.list = V := ⟨_, rfl⟩
  have HV := Lib.hid hV
  have hVl : V.length = 8 := by rw [← hV, uv_len]; rfl
  have HV1 : Hid (∀ u ∈ V, u.oneCell' = true) := Lib.hid (by rw [← hV]; intro u hu; obtain ⟨x, _, rfl⟩ := List.mem_map.1 hu; rfl)
  rw [hV]
  clear hV
  go_enter Tryd.func101, Tryd.ntmps101
  go_wp2_with fail
  go_loopw [20] (fun i w' => ∃ t : Nat, i = .int .i64 t ∧ t ≤ 16 ∧ Has w' (w.heap.size + 1 + 1) (uv (Wd a.data.toList t)) 156 ∧ Hid (Has w' w.heap.size V 154) ∧ Hid (Has w' (w.heap.size + 1) (uv (List.replicate 8 0)) 154) ∧ Hid (Mod (fun _ => False) w w'))
    (fun i _ => 16 - (intOf i).toNat)
  case atStart =>
    refine ⟨0, by go_num, by omega, ?_, ?_, ?_, ?_⟩
    · have := Has.new ((w.alloc (.cells V.toArray 154)).alloc (.cells (uv (List.replicate 8 0)).toArray 154)) (uv (Wd a.data.toList 0)) 156
      simp only [size_alloc] at this
      exact this
    · exact Lib.hid (((Has.new w V 154).alloc _).alloc _)
    · have := (Has.new (w.alloc (.cells V.toArray 154)) (uv (List.replicate 8 0)) 154).alloc (.cells (uv (Wd a.data.toList 0)).toArray 156)
      simp only [size_alloc] at this
      exact Lib.hid this
    · exact Lib.hid (Mod.alloc (Mod.alloc (Mod.alloc (Mod.refl _ _) _) _) _)
  case round =>
    obtain ⟨t, rfl, ht, hW, HH, HR, HM⟩ := hrel
    by_cases hlt : t < 16
    · have i1 : (t : Int) < 16 := by omega
      obtain ⟨k0, hk0⟩ : ∃ k : Nat, k = 4 * t := ⟨_, rfl⟩
      obtain ⟨k1, hk1⟩ : ∃ k : Nat, k = 4 * t + 1 := ⟨_, rfl⟩
      obtain ⟨k2, hk2⟩ : ∃ k : Nat, k = 4 * t + 2 := ⟨_, rfl⟩
      obtain ⟨k3, hk3⟩ : ∃ k : Nat, k = 4 * t + 3 := ⟨_, rfl⟩
      have l0 : k0 < a.size := by omega
      have l1 : k1 < a.size := by omega
      have l2 : k2 < a.size := by omega
      have l3 : k3 < a.size := by omega
      have j0 : (k0 : Int) < (a.size : Int) := by omega
      have j1 : (k1 : Int) < (a.size : Int) := by omega
      have j2 : (k2 : Int) < (a.size : Int) := by omega
      have j3 : (k3 : Int) < (a.size : Int) := by omega
      have q0 : Hid (IntKind.i64.wrap (4 * (t : Int)) = (k0 : Int)) := Lib.hid (by simp only [IntKind.wrap_i64]; omega)
      have q1 : Hid (IntKind.i64.wrap ((k0 : Int) + 1) = (k1 : Int)) := Lib.hid (by simp only [IntKind.wrap_i64]; omega)
      have q2 : Hid (IntKind.i64.wrap ((k0 : Int) + 2) = (k2 : Int)) := Lib.hid (by simp only [IntKind.wrap_i64]; omega)
      have q3 : Hid (IntKind.i64.wrap ((k0 : Int) + 3) = (k3 : Int)) := Lib.hid (by simp only [IntKind.wrap_i64]; omega)
      have HZ := Lib.hid ha
      have hor := or4 a[k0].toNat a[k1].toNat a[k2].toNat a[k3].toNat a[k0].toNat_lt a[k1].toNat_lt a[k2].toNat_lt a[k3].toNat_lt
      have hld : a[k0].toNat * 16777216 + a[k1].toNat * 65536 + a[k2].toNat * 256 + a[k3].toNat = ld a.data.toList t := by
        unfold ld
        rw [← hk3, ← hk2, ← hk1, ← hk0, getD_byte a k0 l0, getD_byte a k1 l1, getD_byte a k2 l2, getD_byte a k3 l3]
      rw [hld] at hor
      have hset : (uv (Wd a.data.toList t)).set t (.int .u32 (ld a.data.toList t : Nat)) = uv (Wd a.data.toList (t + 1)) := by
        rw [uv_set, Wd, if_pos hlt]
      generalize ld a.data.toList t = X at hor hset
      have HOR := Lib.hid hor
      have hcl := hW.cell (uv_get _ t (by rw [Wd_len]; omega))
      have hfz := hW.frozen t
      have HS := Lib.hid (hset ▸ hW.set t (.int .u32 (X : Int)))
      clear ha hk0 hk1 hk2 hk3 hor hld hset hW
      go_wp2_with fail
      refine region_tail 30 (by kernel_rfl) (by kernel_rfl) ?_
      simp only [List.take_succ_cons, List.take_zero, List.drop_succ_cons, List.drop_zero]
      repeat still_step
      simp only [q0.out]
      repeat still_step
      simp only [q0.out, q1.out]
      repeat still_step
      simp only [q0.out]
      repeat still_step
      simp only [q0.out, q2.out]
      repeat still_step
      simp only [q0.out]
      repeat still_step
      simp only [q0.out, q3.out]
      repeat still_step
      refine wpStill_nil ?_
      simp only [HOR.out]
      go_wp2_with fail
      go_roundw
      case rel => exact ⟨t + 1, by go_num, by omega, HS.out, Lib.hid (HH.out.other (p := ⟨w.heap.size + 1 + 1, t, none⟩) (by dsimp only; omega) _), Lib.hid (HR.out.other (p := ⟨w.heap.size + 1 + 1, t, none⟩) (by dsimp only; omega) _), Lib.hid (HM.out.drew.setCell (p := ⟨w.heap.size + 1 + 1, t, none⟩) (.inr (by dsimp only; omega)) _)⟩
      case measure => simp [intOf]; omega
    · have i1 : ¬ (t : Int) < 16 := by omega
      go_wp2_with fail
      go_loopw [7] (fun i w' => ∃ t : Nat, i = .int .i64 t ∧ 16 ≤ t ∧ t ≤ 64 ∧ Has w' (w.heap.size + 1 + 1) (uv (Wd a.data.toList t)) 156 ∧ Hid (Has w' w.heap.size V 154) ∧ Hid (Has w' (w.heap.size + 1) (uv (List.replicate 8 0)) 154) ∧ Hid (Mod (fun _ => False) w w'))
        (fun i _ => 64 - (intOf i).toNat)
      case atStart => exact ⟨16, by go_num, by omega, by omega, (show t = 16 by omega) ▸ hW, HH, HR, HM⟩
      case round =>
        obtain ⟨t, rfl, ht0, ht, hW, HH, HR, HM⟩ := hrel
        have hlen := Wd_len a.data.toList t
        have hlts := Wd_lt a.data.toList t
        by_cases hlt : t < 64
        · have i1 : (t : Int) < 64 := by omega
          have hws := wstep_int (Wd a.data.toList t) t
          have hset := Wd_next a.data.toList t ht0
          obtain ⟨k15, hk15⟩ : ∃ k : Nat, t - 15 = k := ⟨_, rfl⟩
          obtain ⟨k2, hk2⟩ : ∃ k : Nat, t - 2 = k := ⟨_, rfl⟩
          obtain ⟨k16, hk16⟩ : ∃ k : Nat, t - 16 = k := ⟨_, rfl⟩
          obtain ⟨k7, hk7⟩ : ∃ k : Nat, t - 7 = k := ⟨_, rfl⟩
          rw [hk15, hk2, hk16, hk7] at hws
          have c15 := hW.cell (uv_get _ k15 (by omega))
          have c2 := hW.cell (uv_get _ k2 (by omega))
          have c16 := hW.cell (uv_get _ k16 (by omega))
          have c7 := hW.cell (uv_get _ k7 (by omega))
          have ct := hW.cell (uv_get _ t (by omega))
          have ft := hW.frozen t
          have q15 : IntKind.i64.wrap ((t : Int) - 15) = (k15 : Int) := by simp only [IntKind.wrap_i64]; omega
          have q2 : IntKind.i64.wrap ((t : Int) - 2) = (k2 : Int) := by simp only [IntKind.wrap_i64]; omega
          have Q16 : Hid (IntKind.i64.wrap ((t : Int) - 16) = (k16 : Int)) := Lib.hid (by simp only [IntKind.wrap_i64]; omega)
          have Q7 : Hid (IntKind.i64.wrap ((t : Int) - 7) = (k7 : Int)) := Lib.hid (by simp only [IntKind.wrap_i64]; omega)
          have r15 : (t : Int) - 15 = (k15 : Int) := by omega
          have r2 : (t : Int) - 2 = (k2 : Int) := by omega
          have n15 : (k15 : Int) < 64 := by omega
          have n2 : (k2 : Int) < 64 := by omega
          have n16 : (k16 : Int) < 64 := by omega
          have n7 : (k7 : Int) < 64 := by omega
          have hx := getD_lt hlts k15
          have hy := getD_lt hlts k2
          obtain ⟨x1, x2, hx1, hx2, hx3⟩ := sig0_int _ hx
          obtain ⟨y1, y2, hy1, hy2, hy3⟩ := sig1_int _ hy
          generalize (Wd a.data.toList t).getD k15 0 = X at *
          generalize (Wd a.data.toList t).getD k2 0 = Y at *
          generalize (Wd a.data.toList t).getD k16 0 = X16 at *
          generalize (Wd a.data.toList t).getD k7 0 = X7 at *
          generalize (Wd a.data.toList t).getD t 0 = Xt at *
          generalize wstep (Wd a.data.toList t) t = Z at *
          generalize sig0 X = S0 at *
          generalize sig1 Y = S1 at *
          have HWS := Lib.hid hws
          have HS := Lib.hid (hset ▸ hW.set t (.int .u32 (Z : Int)))
          clear hk15 hk2 hk16 hk7 hws hset hlts hlen hW
          go_wp2_with fail
          go_quiet (fail)
          go_wp2_with fail
          refine (rotl_calls X 7 _ hx (by decide) (by decide) (by decide)).mono ?_
          rintro e w1 ⟨rfl, hw⟩; subst hw
          go_wp2_with fail
          refine (rotl_calls X 18 _ hx (by decide) (by decide) (by decide)).mono ?_
          rintro e w1 ⟨rfl, hw⟩; subst hw
          go_wp2_with fail
          refine (rotl_calls Y 17 _ hy (by decide) (by decide) (by decide)).mono ?_
          rintro e w1 ⟨rfl, hw⟩; subst hw
          go_wp2_with fail
          refine (rotl_calls Y 19 _ hy (by decide) (by decide) (by decide)).mono ?_
          rintro e w1 ⟨rfl, hw⟩; subst hw
          go_wp2_with fail
          refine region_tail 14 (by kernel_rfl) (by kernel_rfl) ?_
          simp only [List.take_succ_cons, List.take_zero, List.drop_succ_cons, List.drop_zero]
          repeat still_step
          simp only [Q16.out]
          repeat still_step
          simp only [Q7.out]
          repeat still_step
          refine wpStill_nil ?_
          simp only [HWS.out]
          go_wp2_with fail
          go_roundw
          case rel => exact ⟨t + 1, by go_num, by omega, by omega, HS.out.drewN _, Lib.hid (HH.out.other (p := ⟨w.heap.size + 1 + 1, t, none⟩) (by dsimp only; omega) _), Lib.hid (HR.out.other (p := ⟨w.heap.size + 1 + 1, t, none⟩) (by dsimp only; omega) _), Lib.hid (Mod.drewN (HM.out.setCell (p := ⟨w.heap.size + 1 + 1, t, none⟩) (.inr (by dsimp only; omega)) _) _)⟩
          case measure => simp [intOf]; omega
        · have h64 : Hid (t = 64) := Lib.hid (by omega)
          have i1 : ¬ (t : Int) < 64 := by omega
          have hKw : (wr.alloc (.cells V.toArray 154)).heap[0]? = some (.cells (uv keysL).toArray TK frK) := by
            have h0 : 0 < w.heap.size := heap_lt HK.out
            rw [(Mod.alloc HM.out (.cells V.toArray 154)).block _ h0 (fun h => h)]; exact HK.out
          have hst : (storeCells ⟨wr.heap.size, 0, none⟩ V 0).run Tryd.prog (wr.alloc (.cells #[.int .u32 0, .int .u32 0, .int .u32 0, .int .u32 0, .int .u32 0, .int .u32 0, .int .u32 0, .int .u32 0] 154)) = .ok () (wr.alloc (.cells V.toArray 154)) := by
            have h := run_storeCells_new (P := Tryd.prog) wr 154 #[.int .u32 0, .int .u32 0, .int .u32 0, .int .u32 0, .int .u32 0, .int .u32 0, .int .u32 0, .int .u32 0] V.toArray (by simp [hVl]; exact ⟨_, rfl, rfl⟩) (by simp [hVl]) (by simpa using HV1.out)
            simpa using h
          go_wp2_with (first
            | fail
            | (refine wpList_load_row rfl 154 (.tmp 2) rfl w.heap.size rfl 154 V.toArray (0, 0) _ HH.out Tryd.underlying154 rfl (by simp [hVl]; exact ⟨_, rfl, rfl⟩) ?_)
            | (refine wpList_load_row rfl 156 _ rfl 0 rfl TK (uv keysL).toArray frK _ hKw Tryd.underlying156 rfl (by simp [uv_len]; exact ⟨_, rfl, rfl⟩) ?_))
          obtain ⟨bV, hbV⟩ : ∃ b, wr.heap.size = b := ⟨_, rfl⟩
          have hsz := HM.out.size
          have hWlt := hW.lt
          have hbW : w.heap.size + 1 + 1 < bV := by omega
          have hW' := hW.alloc (.cells V.toArray 154)
          rw [h64.out] at hW'
          have hVn : Has (wr.alloc (.cells V.toArray 154)) bV V 154 := hbV ▸ Has.new wr V 154
          simp only [hbV]
          have HH' := Lib.hid (HH.out.alloc (.cells V.toArray 154))
          have HR' := Lib.hid (HR.out.alloc (.cells V.toArray 154))
          have HM' := Lib.hid (Mod.alloc HM.out (.cells V.toArray 154))
          have HWL := Lib.hid (Wd_len a.data.toList 64)
          have HWT := Lib.hid (Wd_lt a.data.toList 64)
          obtain ⟨WL, hWL⟩ : ∃ WL, Wd a.data.toList 64 = WL := ⟨_, rfl⟩
          rw [hWL] at HWL HWT hW'
          have HWD := Lib.hid hWL
          have HKI := Lib.hid (fun (t : Nat) (h : t < 64) (w' : World) => index_word keysL t 64 156 Tryd.underlying156 h h w')
          generalize (uv keysL).toArray = KA at *
          have HWW := Lib.hid hW'
          clear hst hKw hW hWlt hW' hWL HH HR HM
          go_loopw [100] (fun i w' => ∃ t : Nat, i = .int .i64 t ∧ t ≤ 64 ∧ Has w' bV (uv (Rd WL v t).list) 154 ∧ Hid (Has w' (w.heap.size + 1 + 1) (uv WL) 156) ∧ Hid (Has w' w.heap.size V 154) ∧ Hid (Has w' (w.heap.size + 1) (uv (List.replicate 8 0)) 154) ∧ Hid (Mod (fun _ => False) w w'))
            (fun i _ => 64 - (intOf i).toNat)
          case atStart => exact ⟨0, by go_num, by omega, by rw [show uv (Rd WL v 0).list = V from HV.out]; exact hVn, HWW, HH', HR', HM'⟩
          case round =>
            obtain ⟨t, rfl, ht, hV, HWW, HH, HR, HM⟩ := hrel
            by_cases hlt : t < 64
            · have i1 : (t : Int) < 64 := by omega
              have hok := Rd_ok WL v hv t
              have hstep : Rd WL v (t + 1) = round (Rd WL v t) (keysL.getD t 0) (WL.getD t 0) := rfl
              have hki := HKI.out t hlt
              have cw := HWW.out.cell (uv_get WL t (by rw [HWL.out]; exact hlt))
              generalize keysL.getD t 0 = k at hstep hki
              generalize WL.getD t 0 = x at hstep cw
              have h1 := T1_int (Rd WL v t) k x hok
              have h2 := T2_int (Rd WL v t) hok
              have l1 := T1_lt (Rd WL v t) k x
              have l2 := T2_lt (Rd WL v t)
              unfold round at hstep
              generalize T1 (Rd WL v t) k x = t1 at *
              generalize T2 (Rd WL v t) = t2 at *
              generalize Rd WL v t = r at *
              obtain ⟨va, vb, vc, vd, ve, vf, vg, vh⟩ := r
              obtain ⟨o1, o2, o3, o4, o5, o6, o7, o8⟩ := hok
              dsimp only at o1 o2 o3 o4 o5 o6 o7 o8 h1 h2 hstep
              have c0 := hV.cell (o := 0) rfl
              have c1 := hV.cell (o := 1) rfl
              have c2 := hV.cell (o := 2) rfl
              have c3 := hV.cell (o := 3) rfl
              have c4 := hV.cell (o := 4) rfl
              have c5 := hV.cell (o := 5) rfl
              have c6 := hV.cell (o := 6) rfl
              have c7 := hV.cell (o := 7) rfl
              have f0 := hV.frozen
              have H1 := Lib.hid h1
              have H2 := Lib.hid h2
              have HST := Lib.hid hstep
              have HVV := Lib.hid hV
              clear h1 h2 hstep hV
              go_wp2_with fail
              go_quiet (fail)
              go_wp2_with fail
              refine region_tail 28 (by kernel_rfl) (by kernel_rfl) ?_
              simp only [List.take_succ_cons, List.take_zero, List.drop_succ_cons, List.drop_zero]
              repeat still_step
              still_call (rotl_calls ve 6 _ o5 (by decide) (by decide) (by decide))
              repeat still_step
              still_call (rotl_calls ve 11 _ o5 (by decide) (by decide) (by decide))
              repeat still_step
              still_call (rotl_calls ve 25 _ o5 (by decide) (by decide) (by decide))
              repeat still_step
              refine wpStill_nil ?_
              simp only [show (if IntKind.u32.signed = true then (-1 : Int) else IntKind.u32.max) = IntKind.u32.max from rfl, H1.out]
              go_wp2_with fail
              refine region_tail 24 (by kernel_rfl) (by kernel_rfl) ?_
              simp only [List.take_succ_cons, List.take_zero, List.drop_succ_cons, List.drop_zero]
              repeat still_step
              still_call (rotl_calls va 2 _ o1 (by decide) (by decide) (by decide))
              repeat still_step
              still_call (rotl_calls va 13 _ o1 (by decide) (by decide) (by decide))
              repeat still_step
              still_call (rotl_calls va 22 _ o1 (by decide) (by decide) (by decide))
              repeat still_step
              refine wpStill_nil ?_
              simp only [H2.out]
              have s1 : IntKind.u32.wrap ((t1 : Int) + (t2 : Int)) = (((t1 + t2) % M32 : Nat) : Int) := by simp only [IntKind.wrap_u32]; unfold M32; omega
              have s2 : IntKind.u32.wrap ((vd : Int) + (t1 : Int)) = (((vd + t1) % M32 : Nat) : Int) := by simp only [IntKind.wrap_u32]; unfold M32; omega
              generalize (t1 + t2) % M32 = y1 at *
              generalize (vd + t1) % M32 = y2 at *
              go_wp2_with fail
              refine ⟨⟨t + 1, by go_num, by omega, ?_, Lib.hid (other8 _ _ _ _ _ _ _ _ (HWW.out.drewN _) (by omega)), Lib.hid (other8 _ _ _ _ _ _ _ _ (HH.out.drewN _) (by omega)), Lib.hid (other8 _ _ _ _ _ _ _ _ (HR.out.drewN _) (by omega)), Lib.hid (mod8 _ _ _ _ _ _ _ _ (HM.out.drewN _) (by omega))⟩, by simp [intOf]; omega⟩
              have := has8 (.int .u32 (y1 : Int)) (.int .u32 (va : Int)) (.int .u32 (vb : Int)) (.int .u32 (vc : Int)) (.int .u32 (y2 : Int)) (.int .u32 (ve : Int)) (.int .u32 (vf : Int)) (.int .u32 (vg : Int)) (HVV.out.drewN (nq + 1 + 1)) rfl
              rw [show Rd WL v (t + 1) = ⟨y1, va, vb, vc, y2, ve, vf, vg⟩ from HST.out]
              exact this
            · have h64b : Hid (t = 64) := Lib.hid (by omega)
              have i1 : ¬ (t : Int) < 64 := by omega
              rw [h64b.out] at hV
              have hok := Rd_ok WL v hv 64
              generalize hr : Rd WL v 64 = r at *
              have HVV := Lib.hid hV
              clear hV
              go_wp2_with fail
              have HH2 : Hid (Has wr w.heap.size (uv (addL v.list r.list 0)) 154) := Lib.hid (by rw [show addL v.list r.list 0 = v.list from rfl, HV.out]; exact HH.out)
              have hsum := fun (i : Nat) => addL_step v.list r.list i
              have hl0 := v8_len v
              have hl1 := v8_len r
              have hall := addL_all v r
              have hgt := fun (i : Nat) => addL_get v.list r.list i i (Nat.le_refl _)
              have hlen := fun (i : Nat) => addL_len v.list r.list i
              have HSUM := Lib.hid hsum
              have HGT := Lib.hid hgt
              have HLEN := Lib.hid hlen
              have HALL := Lib.hid hall
              clear hsum hgt hlen hall
              go_loopw [179] (fun i w' => ∃ t : Nat, i = .int .i64 t ∧ t ≤ 8 ∧ Hid (Has w' bV (uv r.list) 154) ∧ Has w' w.heap.size (uv (addL v.list r.list t)) 154 ∧ Hid (Has w' (w.heap.size + 1) (uv (List.replicate 8 0)) 154) ∧ Hid (Mod (fun _ => False) w w'))
                (fun i _ => 8 - (intOf i).toNat)
              case atStart => exact ⟨0, by go_num, by omega, HVV, HH2.out, HR, HM⟩
              case round =>
                obtain ⟨i, rfl, hi, HVV, hH, HR, HM⟩ := hrel
                by_cases hlt : i < 8
                · have i1 : (i : Int) < 8 := by omega
                  have c0 := hH.cell (uv_get _ i (by rw [HLEN.out, hl0]; exact hlt))
                  rw [HGT.out] at c0
                  have c1 := HVV.out.cell (uv_get _ i (by rw [hl1]; exact hlt))
                  have fz := hH.frozen i
                  have hst := HSUM.out i
                  have hwr : IntKind.u32.wrap (((v.list.getD i 0 : Nat) : Int) + ((r.list.getD i 0 : Nat) : Int)) = (((v.list.getD i 0 + r.list.getD i 0) % M32 : Nat) : Int) := by simp only [IntKind.wrap_u32]; unfold M32; omega
                  generalize v.list.getD i 0 = x0 at *
                  generalize r.list.getD i 0 = x1 at *
                  generalize (x0 + x1) % M32 = x2 at *
                  have HS := Lib.hid (hst ▸ hH.set i (.int .u32 (x2 : Int)))
                  have HWR := Lib.hid hwr
                  clear hst hwr hH
                  go_wp2_with fail
                  refine region_tail 7 (by kernel_rfl) (by kernel_rfl) ?_
                  simp only [List.take_succ_cons, List.take_zero, List.drop_succ_cons, List.drop_zero]
                  repeat still_step
                  refine wpStill_nil ?_
                  simp only [HWR.out]
                  go_wp2_with fail
                  go_roundw
                  case rel => exact ⟨i + 1, by go_num, by omega, Lib.hid (HVV.out.other (p := ⟨w.heap.size, i, none⟩) (by dsimp only; omega) _), HS.out, Lib.hid (HR.out.other (p := ⟨w.heap.size, i, none⟩) (by dsimp only; omega) _), Lib.hid (HM.out.drew.setCell (p := ⟨w.heap.size, i, none⟩) (.inr (by dsimp only; omega)) _)⟩
                  case measure => simp [intOf]; omega
                · have h8 : Hid (i = 8) := Lib.hid (by omega)
                  have i1 : ¬ (i : Int) < 8 := by omega
                  rw [h8.out, HALL.out] at hH
                  have HFF := hH
                  have hmx : mixV v a.data.toList = addV v r := by unfold mixV; rw [HWD.out, hr]
                  generalize addV v r = f at *
                  have HMX := Lib.hid hmx
                  clear hmx
                  obtain ⟨f0, f1, f2, f3, f4, f5, f6, f7⟩ := f
                  have hF : wr.heap[w.heap.size]? = some (.cells #[.int .u32 (f0 : Int), .int .u32 (f1 : Int), .int .u32 (f2 : Int), .int .u32 (f3 : Int), .int .u32 (f4 : Int), .int .u32 (f5 : Int), .int .u32 (f6 : Int), .int .u32 (f7 : Int)] 154 (0, 0)) := hH
                  have c0 := HR.out.cell (o := 0) rfl
                  have c1 := HR.out.cell (o := 1) rfl
                  have c2 := HR.out.cell (o := 2) rfl
                  have c3 := HR.out.cell (o := 3) rfl
                  have c4 := HR.out.cell (o := 4) rfl
                  have c5 := HR.out.cell (o := 5) rfl
                  have c6 := HR.out.cell (o := 6) rfl
                  have c7 := HR.out.cell (o := 7) rfl
                  have fz := HR.out.frozen
                  clear hH HFF
                  go_wp2_with (first
                    | fail
                    | (refine wpList_load_row rfl 154 (.tmp 2) rfl w.heap.size rfl 154 _ (0, 0) _ hF Tryd.underlying154 rfl rfl ?_))
                  have hR8 := has8 (.int .u32 (f0 : Int)) (.int .u32 (f1 : Int)) (.int .u32 (f2 : Int)) (.int .u32 (f3 : Int)) (.int .u32 (f4 : Int)) (.int .u32 (f5 : Int)) (.int .u32 (f6 : Int)) (.int .u32 (f7 : Int)) HR.out rfl
                  refine bodyPost_ret (results_cell_row (P := Tryd.prog) rfl _ _ (w.heap.size + 1) 154 _ (0, 0) _ rfl hR8 Tryd.underlying154 rfl rfl) rfl ?_
                  refine ⟨?_, mod8 _ _ _ _ _ _ _ _ HM.out (by omega)⟩
                  rw [HMX.out]
                  rfl
end Hash
end Go.Proofs.YtpoljpjcmigobaaDoor
/- The walk of hash.Sum. -/
namespace Go.Proofs.YtpoljpjcmigobaaDoor
set_option linter.unusedVariables false
set_option linter.unusedSimpArgs false
open Go.RowKit K
namespace Hash

set_option maxRecDepth 100000 in
theorem bytes_t : SliceT Tryd.prog 111 5 1 1 := ⟨Tryd.underlying111, by decide, _, .int .u8 0, rfl, rfl, rfl, rfl, rfl⟩

def flat (ps : List ByteArray) : List UInt8 := ps.flatMap fun p => p.data.toList

theorem join_empty : ∀ (xs : List (List UInt8)), Lib.join xs [] = xs.flatten
  | [] => rfl
  | x :: r => by
    rw [Lib.join_cons]
    simp [Lib.joinTail]
theorem repeat_zero : ∀ (n : Nat), Lib.repeatL [0] n = List.replicate n 0
  | 0 => rfl
  | n + 1 => by
    have := repeat_zero n
    simp only [Lib.repeatL, this, List.replicate_succ]; rfl

theorem join_calls (A : Option Addr) (c : Nat) (ps : List ByteArray) (w : World) (hA : Cells w A (ps.map .string)) (hc : ps.length ≤ c) (hn : ps.length ≤ 1048576) (hl : (flat ps).length ≤ 1048576) :
    Calls Tryd.prog 98 #[.slice A ps.length c, .string ⟨#[]⟩] w fun e w' => e = .returned (.string ⟨(flat ps).toArray⟩) ∧ Mod (fun _ => False) w w' := by
  rcases hA with h | ⟨b, o, rfl, hcell⟩
  · have hps : ps = [] := by simpa using h
    subst hps
    refine (Tryd.strings_Join_none A c ⟨#[]⟩ w).mono ?_
    rintro e w' ⟨rfl, rfl⟩
    exact ⟨rfl, Mod.refl _ _⟩
  · cases ps with
    | nil =>
      refine (Tryd.strings_Join_none _ c ⟨#[]⟩ w).mono ?_
      rintro e w' ⟨rfl, rfl⟩
      exact ⟨rfl, Mod.refl _ _⟩
    | cons p ps =>
      have c0 := hcell 0 (.string p) rfl
      have hj : Lib.join ((p :: ps).map (·.data.toList)) [] = flat (p :: ps) := by rw [join_empty]; rfl
      have h := Tryd.strings_Join b o c (p :: ps) ⟨#[]⟩ w (fun j x hx => hcell j _ (by rw [List.getElem?_map, hx]; rfl)) (World.block_lt_of_cell? w _ c0) (by omega) hc (by rw [show (⟨#[]⟩ : ByteArray).data.toList = [] from rfl, hj]; omega)
      rw [show (⟨#[]⟩ : ByteArray).data.toList = [] from rfl, hj] at h
      refine h.mono ?_
      rintro e w' ⟨rfl, hb⟩
      exact ⟨rfl, Mod.of_below hb⟩

theorem zeros_calls (n : Nat) (w : World) (hn : n ≤ 64) :
    Calls Tryd.prog 99 #[.string ⟨#[0]⟩, .int .i64 n] w fun e w' => e = .returned (.string ⟨(List.replicate n (0 : UInt8)).toArray⟩) ∧ Mod (fun _ => False) w w' := by
  have h := Tryd.strings_Repeat ⟨#[0]⟩ n w (by omega) (by simp [ByteArray.size]; omega)
  rw [show (⟨#[0]⟩ : ByteArray).data.toList = [0] from rfl, repeat_zero] at h
  refine h.mono ?_
  rintro e w' ⟨rfl, hb⟩
  exact ⟨rfl, Mod.of_below hb⟩

theorem cat_b (l m : List UInt8) : ((⟨l.toArray⟩ : ByteArray) ++ (⟨m.toArray⟩ : ByteArray)) = ⟨(l ++ m).toArray⟩ := by
  apply ByteArray.ext; simp
theorem size_b (l : List UInt8) : (⟨l.toArray⟩ : ByteArray).size = l.length := by simp [ByteArray.size]

theorem Keys.keep {S : Nat → Prop} {w w' : World} (h : Keys w) (m : Mod S w w') (hs : ¬ S 0) : Keys w' := by
  obtain ⟨T, fr, h⟩ := h
  exact ⟨T, fr, by rw [m.block _ (heap_lt h) hs]; exact h⟩

def strSize : Value → Nat
  | .string s => s.size
  | _ => 0
theorem strSize_b (l : List UInt8) : strSize (.string ⟨l.toArray⟩) = l.length := size_b l
theorem upto64 (R : List UInt8) (h : 64 ≤ R.length) (w' : World) : (Instr.slice 9 (.string ⟨R.toArray⟩) none (some (.int .i64 64)) none).run Tryd.prog w' = .ok (.string ⟨(R.take 64).toArray⟩) w' := by
  rw [run_slice_string_to_if w' 9 ⟨R.toArray⟩ .i64 64 Tryd.underlying9, if_pos (by rw [size_b]; omega)]
  congr 2
  apply ByteArray.ext
  apply Array.toList_inj.1
  simp [ByteArray.data_extract, List.extract]
theorem from64 (R : List UInt8) (h : 64 ≤ R.length) (w' : World) : (Instr.slice 9 (.string ⟨R.toArray⟩) (some (.int .i64 64)) none none).run Tryd.prog w' = .ok (.string ⟨(R.drop 64).toArray⟩) w' := by
  rw [run_slice_string_from_if w' 9 ⟨R.toArray⟩ .i64 64 Tryd.underlying9, if_pos (by rw [size_b]; omega)]
  congr 2
  apply ByteArray.ext
  apply Array.toList_inj.1
  simp [ByteArray.data_extract, List.extract, size_b]
  exact List.take_of_length_le (by simp)

set_option maxRecDepth 100000 in
set_option maxHeartbeats 4000000 in
theorem sum_calls (A : Option Addr) (c : Nat) (ps : List ByteArray) (w : World) (hK : Keys w) (hA : Cells w A (ps.map .string)) (hc : ps.length ≤ c) (hn : ps.length ≤ 1048576) (hl : (flat ps).length ≤ 1048576) :
    Calls Tryd.prog 79 #[.slice A ps.length c] w fun e w' => e = .returned (.string ⟨(sha (flat ps)).toArray⟩) ∧ Mod (fun _ => False) w w' := by
  have HJ := Lib.hid (join_calls A c ps w hA hc hn hl)
  have HK := Lib.hid hK
  clear hK hA
  obtain ⟨L, hL⟩ : ∃ L, flat ps = L := ⟨_, rfl⟩
  rw [hL] at HJ hl ⊢
  clear hL
  have hsz := size_b L
  obtain ⟨z, hz⟩ : ∃ z, (119 - L.length % 64) % 64 = z := ⟨_, rfl⟩
  have hz64 : z ≤ 64 := by omega
  go_enter Tryd.func79, Tryd.ntmps79
  go_wp2_with fail
  refine HJ.out.mono ?_
  rintro e w1 ⟨rfl, hm1⟩
  have HM1 := Lib.hid hm1
  clear hm1 HJ
  go_wp2_with fail
  rw [show (119 - (L.length : Int)) % 64 = (z : Int) by omega]
  refine (zeros_calls z _ hz64).mono ?_
  rintro e w2 ⟨rfl, hm2⟩
  have HM2 := Lib.hid (Mod.trans HM1.out hm2 (fun _ _ h => h))
  have hcat1 : (⟨#[128]⟩ : ByteArray) ++ (⟨(List.replicate z (0 : UInt8)).toArray⟩ : ByteArray) = ⟨((128 : UInt8) :: List.replicate z 0).toArray⟩ := cat_b [128] _
  obtain ⟨Z, hZ⟩ : ∃ Z, List.replicate z (0 : UInt8) = Z := ⟨_, rfl⟩
  have hZl : Z.length = z := by rw [← hZ, List.length_replicate]
  rw [hZ] at hcat1 ⊢
  clear hm2 HM1
  have hno : ¬ (9223372036854775807 < 1 + Z.length) := by omega
  go_wp2_with fail
  rw [show 8 * (L.length : Int) = ((8 * L.length : Nat) : Int) by omega]
  refine (number_calls (8 * L.length) 8 _ (by omega) (by omega)).mono ?_
  rintro e w3 ⟨rfl, hh, hm3⟩
  have HM3 := Lib.hid (Mod.trans HM2.out hm3 (fun _ _ h => h))
  have hB : Cells w3 (some ⟨w2.heap.size, 0, none⟩) (bv (be 8 (8 * L.length))) := .inr ⟨_, 0, rfl, fun j u hj => by rw [Nat.zero_add]; exact hh.cell hj⟩
  have hcv := run_bytes (P := Tryd.prog) 8 hB 111 9 5 Tryd.underlying111 Tryd.underlying5 Tryd.underlying9
  rw [be_len] at hcv
  have hpad : L ++ ((128 : UInt8) :: Z ++ be 8 (8 * L.length)) = pad L := by unfold pad; rw [hz, hZ]
  have hbl := be_len 8 (8 * L.length)
  generalize be 8 (8 * L.length) = B at *
  have hcat2 := cat_b ((128 : UInt8) :: Z) B
  have hcat3 := cat_b L ((128 : UInt8) :: (Z ++ B))
  rw [← List.cons_append] at hcat3
  have hpl : (pad L).length = L.length + (1 + z + 8) := by rw [← hpad]; simp; omega
  rw [hpad, List.cons_append] at hcat3
  have hsz2 := size_b ((128 : UInt8) :: Z)
  have hsz3 := size_b B
  have hsz4 := size_b ((128 : UInt8) :: Z ++ B)
  have hno2 : ¬ (9223372036854775807 < ((128 : UInt8) :: Z).length + B.length) := by simp; omega
  have hno3 : ¬ (9223372036854775807 < L.length + ((128 : UInt8) :: Z ++ B).length) := by simp; omega
  clear hm3 hB HM2 hh hpad
  go_wp2_with fail
  obtain ⟨P, hP⟩ : ∃ P, pad L = P := ⟨_, rfl⟩
  rw [hP] at hcat3 hpl
  obtain ⟨nb, hnb⟩ : ∃ nb, P.length = 64 * nb := ⟨P.length / 64, by omega⟩
  have hHn := Has.new w3 (uv iv.list) 154
  obtain ⟨bS, hbS⟩ : ∃ b, w3.heap.size = b := ⟨_, rfl⟩
  have hbw : w.heap.size ≤ bS := by have := HM3.out.size; omega
  simp only [hbS] at hHn
  have HH0 := Lib.hid hHn
  have HM4 := Lib.hid (Mod.alloc HM3.out (.cells (uv iv.list).toArray 154))
  clear hHn HM3
  go_wp2_with fail
  simp only [hcat3, hbS]
  go_loopw [3] (fun s3 w' => ∃ (j : Nat) (R : List UInt8), s3 = .string ⟨R.toArray⟩ ∧ j ≤ nb ∧ Hid (R = P.drop (64 * j)) ∧ Hid (Has w' bS (uv (blocks P iv j).list) 154) ∧ Hid (Mod (fun _ => False) w w')) (fun s _ => strSize s)
  case atStart => exact ⟨0, P, by rw [hP], by omega, Lib.hid rfl, HH0, HM4⟩
  case round =>
    obtain ⟨j, R, rfl, hj, HR, HH, HM⟩ := hrel
    have hRl : R.length = 64 * nb - 64 * j := by rw [HR.out, List.length_drop]; omega
    by_cases hlt : j < nb
    · have hne : (R == []) = false := by cases R with | nil => simp at hRl; omega | cons x r => rfl
      go_wp2_with fail
      have h64 : 64 ≤ R.length := by omega
      have hu := upto64 R h64
      have hf := from64 R h64
      have htk : R.take 64 = (P.drop (64 * j)).take 64 := by rw [HR.out]
      have hdr : R.drop 64 = P.drop (64 * (j + 1)) := by rw [HR.out, List.drop_drop]; congr 1
      have hstep : blocks P iv (j + 1) = mixV (blocks P iv j) (R.take 64) := by rw [htk]; rfl
      have hok := blocks_ok P iv iv_ok j
      have htl : (⟨(R.take 64).toArray⟩ : ByteArray).size = 64 := by rw [size_b, List.length_take]; omega
      have hv := HH.out
      have hdl : (⟨(R.take 64).toArray⟩ : ByteArray).data.toList = R.take 64 := rfl
      have hrl2 : (R.drop 64).length = R.length - 64 := List.length_drop ..
      generalize R.take 64 = X at *
      generalize R.drop 64 = Y at *
      obtain ⟨r, hr⟩ : ∃ r, blocks P iv (j + 1) = r := ⟨_, rfl⟩
      rw [hr] at hstep
      generalize blocks P iv j = v at *
      have hmx := mix_calls v ⟨X.toArray⟩ wr.drew (HK.out.keep HM.out.drew (fun h => h)) hok htl
      rw [hdl, ← hstep] at hmx
      obtain ⟨v0, v1, v2, v3, v4, v5, v6, v7⟩ := v
      obtain ⟨r0, r1, r2, r3, r4, r5, r6, r7⟩ := r
      have c0 := hv.cell (o := 0) rfl
      have c1 := hv.cell (o := 1) rfl
      have c2 := hv.cell (o := 2) rfl
      have c3 := hv.cell (o := 3) rfl
      have c4 := hv.cell (o := 4) rfl
      have c5 := hv.cell (o := 5) rfl
      have c6 := hv.cell (o := 6) rfl
      have c7 := hv.cell (o := 7) rfl
      have HMX := Lib.hid hmx
      have HDR := Lib.hid hdr
      have HRR := Lib.hid hr
      clear hmx htk hdr hstep hok htl hdl hv hr
      go_wp2_with fail
      refine region_tail 3 (by kernel_rfl) (by kernel_rfl) ?_
      simp only [List.take_succ_cons, List.take_zero, List.drop_succ_cons, List.drop_zero]
      repeat still_step
      refine wpStill_nil ?_
      go_wp2_with fail
      refine HMX.out.mono ?_
      rintro e w5 ⟨rfl, hm5⟩
      have hh5 := (HH.out.drew).keep hm5 (fun h => h)
      have d0 := hh5.cell (o := 0) rfl
      have d1 := hh5.cell (o := 1) rfl
      have d2 := hh5.cell (o := 2) rfl
      have d3 := hh5.cell (o := 3) rfl
      have d4 := hh5.cell (o := 4) rfl
      have d5 := hh5.cell (o := 5) rfl
      have d6 := hh5.cell (o := 6) rfl
      have d7 := hh5.cell (o := 7) rfl
      have fz := hh5.frozen
      have HS := Lib.hid (has8 (.int .u32 (r0 : Int)) (.int .u32 (r1 : Int)) (.int .u32 (r2 : Int)) (.int .u32 (r3 : Int)) (.int .u32 (r4 : Int)) (.int .u32 (r5 : Int)) (.int .u32 (r6 : Int)) (.int .u32 (r7 : Int)) hh5 rfl)
      have HM5 := Lib.hid (Mod.trans HM.out.drew hm5 (fun _ _ h => h))
      simp only [uv, V8.list, List.map_cons, List.map_nil]
      clear hh5 hm5 c0 c1 c2 c3 c4 c5 c6 c7
      go_wp2_with fail
      go_roundw
      case rel => exact ⟨j + 1, by omega, HDR, Lib.hid (by rw [HRR.out]; exact HS.out), Lib.hid (mod8 _ _ _ _ _ _ _ _ HM5.out hbw)⟩
      case measure => first | (simp only [strSize_b]; omega) | (simp [strSize, size_b]; omega) | (trace_state; omega)
    · have hj2 : j = nb := by omega
      have hne : (R == []) = true := by cases R with | nil => rfl | cons x r => simp at hRl; omega
      have HV := Lib.hid (hj2 ▸ HH.out)
      have hsha : (blocks P iv nb).list.flatMap (be 4) = sha L := by unfold sha; rw [hP, hnb, Nat.mul_div_cancel_left _ (by decide)]
      have hok := blocks_ok P iv iv_ok nb
      generalize blocks P iv nb = v at *
      have HSH := Lib.hid hsha
      clear hsha HH hj2
      have HKI := Lib.hid (fun (t : Nat) (h : t < 8) (w' : World) => index_word v.list t 8 154 Tryd.underlying154 h h w')
      have hF : wr.heap[bS]? = some (.cells (uv v.list).toArray 154 (0, 0)) := HV.out
      have hlb := fun (i : Nat) => getD_lt (L := v.list) (by obtain ⟨h1, h2, h3, h4, h5, h6, h7, h8⟩ := hok; intro x hx; simp only [V8.list, List.mem_cons, List.not_mem_nil, or_false] at hx; rcases hx with rfl | rfl | rfl | rfl | rfl | rfl | rfl | rfl <;> assumption) i
      have HLB := Lib.hid hlb
      have hvl := v8_len v
      obtain ⟨V, hVV⟩ : ∃ V, v.list = V := ⟨_, rfl⟩
      rw [hVV] at HKI HLB hF HSH hvl
      have hVs : (uv V).toArray.size = 8 := by simp [uv_len, hvl]
      generalize (uv V).toArray = VA at *
      clear hlb hVV HV hok
      go_wp2_with (first
        | fail
        | (refine wpList_load_row rfl 154 (.tmp 5) rfl bS rfl 154 VA (0, 0) _ hF Tryd.underlying154 rfl ?hi ?_))
      case hi => rw [hVs]; rfl
      go_loopw [6, 38] (fun out i w' => ∃ (t : Nat) (acc : List UInt8), i = .int .i64 t ∧ t ≤ 8 ∧ acc.length = 4 * t ∧ Hid (acc = (V.take t).flatMap (be 4)) ∧ w'.ownsRow w.heap.size 5 1 out acc.length (bv acc) ∧ Hid (Mod (fun _ => False) w w')) (fun _ i _ => 8 - (intOf i).toNat)
      case atStart => exact ⟨0, [], by go_num, by omega, rfl, Lib.hid rfl, World.ownsRow_nil _ _ _ _, HM⟩
      case round =>
        obtain ⟨t, acc, rfl, ht, hal, HA, hown, HM⟩ := hrel
        by_cases hlt : t < 8
        · have i1 : (t : Int) < 8 := by omega
          have hki := HKI.out t hlt
          have hx := HLB.out t
          have hacc : (V.take (t + 1)).flatMap (be 4) = acc ++ be 4 (V.getD t 0) := by
            rw [HA.out, List.take_succ_eq_append_getElem (by omega), List.flatMap_append, List.getD_eq_getElem?_getD, List.getElem?_eq_getElem (by omega)]; simp
          generalize V.getD t 0 = x at *
          have hcv : IntKind.u64.wrap (x : Int) = (x : Int) := by simp only [IntKind.wrap_u64]; unfold M32 at hx; omega
          have hbl := be_len 4 x
          have hnc := fun w => number_calls x 4 w (by unfold M32 at hx; omega) (by omega)
          generalize be 4 x = bx at *
          have HNC := Lib.hid hnc
          have HAC := Lib.hid hacc
          have hsz := HM.out.size
          clear hnc hacc
          go_wp2_with fail
          refine (HNC.out _).mono ?_
          rintro e w5 ⟨rfl, hh, hm5⟩
          have hown5 := own_keep hown hm5 (fun _ _ _ h => h)
          have hsz5 := hm5.size
          have HM5 := Lib.hid (Mod.trans HM.out hm5 (fun _ _ h => h))
          have HH5 := Lib.hid hh
          clear hown hm5 hh HM
          go_wp2_with (first
            | fail
            | (at_builtin
               go_must (refine app _ _ bytes_t w.heap.size _ _ _ hown5 ⟨wr.heap.size, 0, none⟩ 4 4 (bv bx) rfl rfl rfl rfl (by rw [bv_length, hbl]) (fun j u hj => by rw [Addr.add_lit, Nat.zero_add]; exact HH5.out.cell hj) (bv_one _) (by omega) (by unfold maxLen; omega) (by omega) ?_; intro v6 w6 hown6 hm6)))
          go_roundw
          case rel => exact ⟨t + 1, acc ++ bx, by go_num, by omega, by rw [List.length_append]; omega, Lib.hid HAC.out.symm, by rw [bv_append, List.length_append, hbl]; exact hown6, Lib.hid (Mod.trans HM5.out hm6 (fun i hi ⟨h, _⟩ => absurd h (by omega)))⟩
          case measure => simp [intOf]; omega
        · have h8 : t = 8 := by omega
          have i1 : ¬ (t : Int) < 8 := by omega
          have hsha : acc = sha L := by rw [HA.out, h8, List.take_of_length_le (by omega)]; exact HSH.out
          obtain ⟨A9, c9, rfl, hc9, hA9, -, -⟩ := own_cells hown
          have hcv9 := run_bytes (P := Tryd.prog) c9 hA9 111 9 5 Tryd.underlying111 Tryd.underlying5 Tryd.underlying9
          have HSA := Lib.hid hsha
          clear hown hA9 hsha h8 hal
          go_wp2_with fail
          go_ret
          rw [← HSA.out]
          exact ⟨rfl, HM.out⟩
end Hash
end Go.Proofs.YtpoljpjcmigobaaDoor
