/- Joined texts: BlobCc. -/
import Derived.Test.YthgcjfpaekpeeaaDoorJ46
/- The reference's walk tells a file's chunks. -/
namespace Go.Proofs.YthgcjfpaekpeeaaDoor
set_option linter.unusedVariables false
set_option linter.unusedSimpArgs false
open Go.RowKit K Wire Go.Maps
namespace Blob
open Go.Proofs.YthgcjfpaekpeeaaDoor.Obj

theorem chunk_no_fan {b : ByteArray} (h : okChunk b = true) : okFan b.data.toList = false := by
  cases hf : okFan b.data.toList with
  | false => rfl
  | true =>
    have h2 : ChunkP b := by simpa [okChunk] using h
    obtain ⟨hp, h67, _⟩ := h2
    have h3 := (fan_sound _ hf).1
    have h4 : b.data.toList[0]? = some 70 := by rw [h3]; rfl
    have h5 : b.data.toList[0]? = some (b[0]'hp) := Lib.data_getElem? b 0 hp
    rw [h4] at h5
    injection h5 with h5
    rw [← h5] at h67
    exact absurd h67 (by decide)
def GcPost (B0 bw : Nat) (A : Option Addr) (c : Nat) (objs : List Ob) (vp : Value) (y : BS) (w : World) (e : Ending) (w' : World) : Prop :=
  e = .returned (.tuple #[]) ∧ ∃ va' vd' vp', WkIs B0 bw A c objs va' vd' vp' y.asked y.data y.parts y.bad w' ∧ Mod (WS B0 vp w) w w' ∧ RowOf w vp vp'
/-- what holds between two kids -/
structure RcIs (B0 bw : Nat) (A : Option Addr) (c : Nat) (objs : List Ob) (L : Int) (kids : List Part) (x0 : BS) (b17 Bk : Nat) (v vp : Value) (w : World) (j : Nat) (wr : World) : Prop where
  ex : ∃ va vd vp', WkIs B0 bw A c objs va vd vp' (chkF objs (L - 1).toNat (kids.take j) x0).asked (chkF objs (L - 1).toNat (kids.take j) x0).data (chkF objs (L - 1).toNat (kids.take j) x0).parts (chkF objs (L - 1).toNat (kids.take j) x0).bad wr ∧
    (∀ g, v.ownBlock = some g → vp'.ownBlock ≠ some g) ∧ Mod (WS B0 vp w) w wr ∧ RowOf w vp vp'
  box : Has wr b17 [.int .i64 L, v] 96
  own : wr.ownsRow Bk 25 2 v kids.length (kids.flatMap pc)

set_option maxRecDepth 100000 in
set_option maxHeartbeats 8000000 in
theorem rchunks_step {B0 bw : Nat} {A : Option Addr} {c : Nat} {objs : List Ob} (hob : ObsOk objs) (level : Int) (hlv : -1 ≤ level ∧ level ≤ 20)
    (IH : ∀ L : Int, 1 ≤ L → L ≤ 20 → (level < 0 ∨ L = level) → ∀ (p : Part) (x : BS) (va vd vp : Value) (w : World), CNums (L - 1) p x → WkIs B0 bw A c objs va vd vp x.asked x.data x.parts x.bad w →
      Calls Tryd.prog 38 #[.pointer (some ⟨bw, 0, none⟩), .agg #[.string p.id, .int .i64 p.size], .int .i64 (L - 1)] w (GcPost B0 bw A c objs vp (chkS objs (L - 1).toNat p x) w))
    (p : Part) (x : BS) (va vd vp : Value) (w : World) (hn : CNums level p x) (h : WkIs B0 bw A c objs va vd vp x.asked x.data x.parts x.bad w) :
    Calls Tryd.prog 38 #[.pointer (some ⟨bw, 0, none⟩), .agg #[.string p.id, .int .i64 p.size], .int .i64 level] w (GcPost B0 bw A c objs vp (if level = 0 then chkS objs 0 p x else chkB objs level p x) w) := by
  have hna := cnums_ask hn hlv.1
  have HN := Lib.hid hn
  obtain ⟨hsz, hsz2, _, hnd⟩ := hn
  have hm1 := (Mod.refl (fun _ => False) w).alloc (.cells #[.string p.id, .int .i64 p.size] 25)
  have hb1 := Has.new w [.string p.id, .int .i64 p.size] 25
  have h1 := h.keep0 hm1
  have x0 := hb1.cell (o := 0) rfl
  have x1 := hb1.cell (o := 1) rfl
  have x4 := h1.box.cell (o := 4) rfl
  obtain ⟨Y, hY⟩ : ∃ Y, (if level = 0 then chkS objs 0 p x else chkB objs level p x) = Y := ⟨_, rfl⟩
  rw [hY]
  have HM1 := Lib.hid (hm1.mono (S' := WS B0 vp w) fun _ _ h => h.elim)
  have HB1 := Lib.hid hb1
  have HIH := Lib.hid IH
  have HY := Lib.hid hY
  have H1 := Lib.hid h1
  have hB0 : B0 ≤ w.heap.size := by have := h.box.lt; have := h.le; omega
  have HVP := Lib.hid (fun k hk => (h.op.lt k hk).2)
  clear h hm1 hb1 h1 IH hY
  by_cases hb0 : x.bad = 0
  · have b0 : (x.bad != 0) = false := by simpa using hb0
    have h1 := H1.out
    rw [hb0] at h1 x4
    have HW1 := Lib.hid h1
    clear h1 H1
    simp only [hb0] at b0
    by_cases hl0 : level = 0
    · have hy := HY.out
      rw [if_pos hl0] at hy
      have hyc : chkS objs 0 p x = { x with parts := x.parts ++ [p] } := by unfold chkS; rw [if_neg (fun e => e hb0)]
      rw [hyc] at hy
      clear hyc
      subst hl0
      go_enter Tryd.func38, Tryd.ntmps38
      have hnb : ¬ (vp.ownBlock = some bw ∨ w.heap.size + 1 ≤ bw) := by
        rintro (e | e)
        · exact box_ne (HW1).out.box (HW1).out.op (by decide) e rfl
        · have := (HW1).out.box.lt; first | omega | (simp at this; omega)
      have hnp : ¬ (vp.ownBlock = some w.heap.size ∨ w.heap.size + 1 ≤ w.heap.size) := by
        rintro (e | e)
        · have := (HVP.out _ e); omega
        · have := (HB1).out.lt; first | omega | (simp at this; omega)
      have fv0 := fun (w' : World) (mm : Mod (fun k => vp.ownBlock = some k ∨ w.heap.size + 1 ≤ k) (w.alloc (.cells #[.string p.id, .int .i64 p.size] 25)).drew w') => (mm.cell (p := ⟨bw, 3, none⟩) (HW1).out.box.lt hnb).trans ((HW1).out.box.cell (o := 3) rfl)
      have fv1 := fun (w' : World) (mm : Mod (fun k => vp.ownBlock = some k ∨ w.heap.size + 1 ≤ k) (w.alloc (.cells #[.string p.id, .int .i64 p.size] 25)).drew w') => (mm.cell (p := ⟨w.heap.size, 0, none⟩) (HB1).out.lt hnp).trans ((HB1).out.cell (o := 0) rfl)
      have fv2 := fun (w' : World) (mm : Mod (fun k => vp.ownBlock = some k ∨ w.heap.size + 1 ≤ k) (w.alloc (.cells #[.string p.id, .int .i64 p.size] 25)).drew w') => (mm.cell (p := ⟨w.heap.size, 1, none⟩) (HB1).out.lt hnp).trans ((HB1).out.cell (o := 1) rfl)
      have hB8 : B0 ≤ w.heap.size + 1 := by have := (HW1).out.box.lt; have := (HW1).out.le; first | omega | (simp at this; omega)
      have HNB := Lib.hid hnb
      have HYC := Lib.hid hy
      clear hnb hnp hy
      go_wp2_with fail
      refine region_mT (fun k => vp.ownBlock = some k ∨ w.heap.size + 1 ≤ k) (by kernel_rfl) ?_
      simp only [List.length_cons, List.length_nil, List.replicate]
      refine take0T (v := ?v1) (oi := ?o1) 0 ?hi1 (by kernel_rfl) (by kernel_rfl) (by kernel_rfl) ?hq1 ?hy1 ?_
      case hi1 => (simp only [List.getElem?_toArray, List.getElem?_cons_zero, List.getElem?_cons_succ]; rfl)
      case hq1 => exact fun _ _ _ h => h
      case hy1 => first | (refine ry_notS ?_; rfl) | (refine ry_runS (by rfl) (fun w' hw' => ?_); go_simp; try rfl)
      simp only [Act.put, List.setIfInBounds_toArray, List.set_cons_zero, List.set_cons_succ]
      refine take0T (v := ?v2) (oi := ?o2) 1 ?hi2 (by kernel_rfl) (by kernel_rfl) (by kernel_rfl) ?hq2 ?hy2 ?_
      case hi2 => (simp only [List.getElem?_toArray, List.getElem?_cons_zero, List.getElem?_cons_succ]; rfl)
      case hq2 => exact fun _ _ _ h => h
      case hy2 => first | (refine ry_notS ?_; rfl) | (refine ry_runS (by rfl) (fun w' hw' => ?_); go_simp; try rfl)
      simp only [Act.put, List.setIfInBounds_toArray, List.set_cons_zero, List.set_cons_succ]
      refine take0T (v := ?v3) (oi := ?o3) 2 ?hi3 (by kernel_rfl) (by kernel_rfl) (by kernel_rfl) ?hq3 ?hy3 ?_
      case hi3 => (simp only [List.getElem?_toArray, List.getElem?_cons_zero, List.getElem?_cons_succ]; rfl)
      case hq3 => exact fun _ _ _ h => h
      case hy3 => first | (refine ry_notS ?_; rfl) | (refine ry_runS (by rfl) (fun w' hw' => ?_); go_simp; try rfl)
      simp only [Act.put, List.setIfInBounds_toArray, List.set_cons_zero, List.set_cons_succ]
      refine take0T (v := ?v4) (oi := ?o4) 3 ?hi4 (by kernel_rfl) (by kernel_rfl) (by kernel_rfl) ?hq4 ?hy4 ?_
      case hi4 => (simp only [List.getElem?_toArray, List.getElem?_cons_zero, List.getElem?_cons_succ]; rfl)
      case hq4 => exact fun _ _ _ h => h
      case hy4 => first | (refine ry_notS ?_; rfl) | (refine ry_runS (by rfl) (fun w' hw' => ?_); go_simp; try rfl)
      simp only [Act.put, List.setIfInBounds_toArray, List.set_cons_zero, List.set_cons_succ]
      refine take0T (v := ?v5) (oi := ?o5) 4 ?hi5 (by kernel_rfl) (by kernel_rfl) (by kernel_rfl) ?hq5 ?hy5 ?_
      case hi5 => (simp only [List.getElem?_toArray, List.getElem?_cons_zero, List.getElem?_cons_succ]; rfl)
      case hq5 => exact fun _ _ _ h => h
      case hy5 => first | (refine ry_notS ?_; rfl) | (refine ry_runS (by rfl) (fun w' hw' => ?_); go_simp; try rfl)
      simp only [Act.put, List.setIfInBounds_toArray, List.set_cons_zero, List.set_cons_succ]
      refine take0T (v := ?v6) (oi := ?o6) 5 ?hi6 (by kernel_rfl) (by kernel_rfl) (by kernel_rfl) ?hq6 ?hy6 ?_
      case hi6 => (simp only [List.getElem?_toArray, List.getElem?_cons_zero, List.getElem?_cons_succ]; rfl)
      case hq6 => exact fun _ _ _ h => h
      case hy6 => first | (refine ry_notS ?_; rfl) | (refine ry_runS (by rfl) (fun w' hw' => ?_); go_simp; try rfl)
      simp only [Act.put, List.setIfInBounds_toArray, List.set_cons_zero, List.set_cons_succ]
      refine step0T (o := ?o7) 6 (by kernel_rfl) ?hi7 ?hw7 ?_
      case hi7 => (simp only [List.getElem?_toArray, List.getElem?_cons_zero, List.getElem?_cons_succ]; rfl)
      case hw7 => rfl
      go_simp
      refine ⟨.inl (Mod.alloc (Mod.refl _ _) _), ?_⟩
      refine step0T (o := ?o8) 7 (by kernel_rfl) ?hi8 ?hw8 ?_
      case hi8 => (simp only [List.getElem?_toArray, List.getElem?_cons_zero, List.getElem?_cons_succ]; rfl)
      case hw8 => rfl
      refine appG_step (.tmp 24) (.tmp 26) part_t B0 vp x.parts.length (x.parts.flatMap pc) ((own_keep (HW1).out.op ((Mod.refl (fun _ => False) _).drew) (fun _ _ _ h => h)).alloc _) (some ⟨w.heap.size + 1, 0, none⟩) 1 1 [.string p.id, .int .i64 p.size] rfl rfl rfl rfl (cells_lit (by simp)) (by intro u hu; simp at hu; rcases hu with rfl | rfl <;> rfl) (by omega) (by unfold maxLen; omega) (by simp; omega) ?_
      intro v9 w9 ho9 hm9 hr9
      refine ⟨.inl (hm9.mono fun _ _ h => .inl h), ?_⟩
      have hM9 := Mod.trans (((Mod.refl (fun k => vp.ownBlock = some k) (w.alloc (.cells #[.string p.id, .int .i64 p.size] 25))).drew).alloc (.cells #[.string p.id, .int .i64 p.size] 25)) hm9 (fun _ _ h => h)
      have hbx9 := (HW1).out.box.keep hM9 (fun h => HNB.out (.inl h))
      obtain ⟨A9, c9, rfl, _, _, _, _⟩ := own_cells ho9
      have q0 := hbx9.cell (o := 3) rfl
      have r0 := hbx9.frozen 3
      simp only [Act.put, List.setIfInBounds_toArray, List.set_cons_zero, List.set_cons_succ]
      refine take0T (v := ?v9) (oi := ?o9) 8 ?hi9 (by kernel_rfl) (by kernel_rfl) (by kernel_rfl) ?hq9 ?hy9 ?_
      case hi9 => (simp only [List.getElem?_toArray, List.getElem?_cons_zero, List.getElem?_cons_succ]; rfl)
      case hq9 => exact fun _ _ _ h => h
      case hy9 => first | (refine ry_notS ?_; rfl) | (refine ry_runS (by rfl) (fun w' hw' => ?_); go_simp; try rfl)
      simp only [Act.put, List.setIfInBounds_toArray, List.set_cons_zero, List.set_cons_succ]
      refine take0T (v := ?v10) (oi := ?o10) 9 ?hi10 (by kernel_rfl) (by kernel_rfl) (by kernel_rfl) ?hq10 ?hy10 ?_
      case hi10 => (simp only [List.getElem?_toArray, List.getElem?_cons_zero, List.getElem?_cons_succ]; rfl)
      case hq10 => exact fun _ _ _ h => h
      case hy10 => first | (refine ry_notS ?_; rfl) | (refine ry_runS (by rfl) (fun w' hw' => ?_); go_simp; try rfl)
      simp only [Act.put, List.setIfInBounds_toArray, List.set_cons_zero, List.set_cons_succ]
      refine step0T (o := ?o11) 10 (by kernel_rfl) ?hi11 ?hw11 ?_
      case hi11 => (simp only [List.getElem?_toArray, List.getElem?_cons_zero, List.getElem?_cons_succ]; rfl)
      case hw11 => rfl
      go_simp
      refine ⟨.inr (by kernel_rfl), ?_⟩
      refine wpAnyT_done (by kernel_rfl) ?_
      clear fv0 fv1 fv2
      have hwp := (HW1).out.putP p hM9 ho9 (by omega)
      have hrw : RowOf w vp (.slice A9 (x.parts.length + 1) c9) := rowOf_later hr9 (by simp; omega)
      have HWP1 := Lib.hid hwp.1
      have HWP2 := Lib.hid (WS.trans (HM1.out) hwp.2 (rowOf_same rfl))
      have HRW := Lib.hid hrw
      have hy := HYC.out
      subst hy
      clear hwp hrw hM9 hm9 ho9 hr9 hbx9 q0 r0
      go_wp2_with fail
      first | go_end0 | refine bodyPost_ret (results_none rfl _ _ _) rfl ?_
      unfold GcPost
      exact ⟨rfl, _, _, _, by first | exact HWP1.out | (show WkIs _ _ _ _ _ _ _ _ _ _ _ x.bad _; rw [hb0]; exact HWP1.out), HWP2.out, HRW.out⟩
    · have bl : (level == 0) = false := beq_eq_false_iff_ne.2 hl0
      have hy := HY.out
      rw [if_neg hl0, chkB_at hb0] at hy
      have hnb : ¬ (va.ownBlock = some bw ∨ w.heap.size + 1 ≤ bw) := by
        rintro (e | e)
        · exact box_ne HW1.out.box HW1.out.oa (by decide) e rfl
        · have := HW1.out.box.lt; simp at this; omega
      have hnp : ¬ (va.ownBlock = some w.heap.size ∨ w.heap.size + 1 ≤ w.heap.size) := by
        rintro (e | e)
        · exact box_ne HB1.out HW1.out.oa (by decide) e rfl
        · omega
      have fv0 := fun (w' : World) (mm : Mod (fun k => va.ownBlock = some k ∨ w.heap.size + 1 ≤ k) (w.alloc (.cells #[.string p.id, .int .i64 p.size] 25)).drew w') => (mm.cell (p := ⟨bw, 1, none⟩) HW1.out.box.lt hnb).trans (HW1.out.box.cell (o := 1) rfl)
      have fv1 := fun (w' : World) (mm : Mod (fun k => va.ownBlock = some k ∨ w.heap.size + 1 ≤ k) (w.alloc (.cells #[.string p.id, .int .i64 p.size] 25)).drew w') => (mm.cell (p := ⟨w.heap.size, 0, none⟩) HB1.out.lt hnp).trans (HB1.out.cell (o := 0) rfl)
      have HYY := Lib.hid hy
      have HNB := Lib.hid hnb
      have HNP := Lib.hid hnp
      clear hnb hnp hy
      go_enter Tryd.func38, Tryd.ntmps38
      go_wp2_with fail
      refine region_mT (fun k => va.ownBlock = some k ∨ w.heap.size + 1 ≤ k) (by kernel_rfl) ?_
      simp only [List.length_cons, List.length_nil, List.replicate]
      refine take0T (v := ?v12) (oi := ?o12) 0 ?hi12 (by kernel_rfl) (by kernel_rfl) (by kernel_rfl) ?hq12 ?hy12 ?_
      case hi12 => (simp only [List.getElem?_toArray, List.getElem?_cons_zero, List.getElem?_cons_succ]; rfl)
      case hq12 => exact fun _ _ _ h => h
      case hy12 => first | (refine ry_notS ?_; rfl) | (refine ry_runS (by rfl) (fun w' hw' => ?_); go_simp; try rfl)
      simp only [Act.put, List.setIfInBounds_toArray, List.set_cons_zero, List.set_cons_succ]
      refine take0T (v := ?v13) (oi := ?o13) 1 ?hi13 (by kernel_rfl) (by kernel_rfl) (by kernel_rfl) ?hq13 ?hy13 ?_
      case hi13 => (simp only [List.getElem?_toArray, List.getElem?_cons_zero, List.getElem?_cons_succ]; rfl)
      case hq13 => exact fun _ _ _ h => h
      case hy13 => first | (refine ry_notS ?_; rfl) | (refine ry_runS (by rfl) (fun w' hw' => ?_); go_simp; try rfl)
      simp only [Act.put, List.setIfInBounds_toArray, List.set_cons_zero, List.set_cons_succ]
      refine take0T (v := ?v14) (oi := ?o14) 2 ?hi14 (by kernel_rfl) (by kernel_rfl) (by kernel_rfl) ?hq14 ?hy14 ?_
      case hi14 => (simp only [List.getElem?_toArray, List.getElem?_cons_zero, List.getElem?_cons_succ]; rfl)
      case hq14 => exact fun _ _ _ h => h
      case hy14 => first | (refine ry_notS ?_; rfl) | (refine ry_runS (by rfl) (fun w' hw' => ?_); go_simp; try rfl)
      simp only [Act.put, List.setIfInBounds_toArray, List.set_cons_zero, List.set_cons_succ]
      refine take0T (v := ?v15) (oi := ?o15) 3 ?hi15 (by kernel_rfl) (by kernel_rfl) (by kernel_rfl) ?hq15 ?hy15 ?_
      case hi15 => (simp only [List.getElem?_toArray, List.getElem?_cons_zero, List.getElem?_cons_succ]; rfl)
      case hq15 => exact fun _ _ _ h => h
      case hy15 => first | (refine ry_notS ?_; rfl) | (refine ry_runS (by rfl) (fun w' hw' => ?_); go_simp; try rfl)
      simp only [Act.put, List.setIfInBounds_toArray, List.set_cons_zero, List.set_cons_succ]
      refine take0T (v := ?v16) (oi := ?o16) 4 ?hi16 (by kernel_rfl) (by kernel_rfl) (by kernel_rfl) ?hq16 ?hy16 ?_
      case hi16 => (simp only [List.getElem?_toArray, List.getElem?_cons_zero, List.getElem?_cons_succ]; rfl)
      case hq16 => exact fun _ _ _ h => h
      case hy16 => first | (refine ry_notS ?_; rfl) | (refine ry_runS (by rfl) (fun w' hw' => ?_); go_simp; try rfl)
      simp only [Act.put, List.setIfInBounds_toArray, List.set_cons_zero, List.set_cons_succ]
      refine take0T (v := ?v17) (oi := ?o17) 5 ?hi17 (by kernel_rfl) (by kernel_rfl) (by kernel_rfl) ?hq17 ?hy17 ?_
      case hi17 => (simp only [List.getElem?_toArray, List.getElem?_cons_zero, List.getElem?_cons_succ]; rfl)
      case hq17 => exact fun _ _ _ h => h
      case hy17 => first | (refine ry_notS ?_; rfl) | (refine ry_runS (by rfl) (fun w' hw' => ?_); go_simp; try rfl)
      simp only [Act.put, List.setIfInBounds_toArray, List.set_cons_zero, List.set_cons_succ]
      refine take0T (v := ?v18) (oi := ?o18) 6 ?hi18 (by kernel_rfl) (by kernel_rfl) (by kernel_rfl) ?hq18 ?hy18 ?_
      case hi18 => (simp only [List.getElem?_toArray, List.getElem?_cons_zero, List.getElem?_cons_succ]; rfl)
      case hq18 => exact fun _ _ _ h => h
      case hy18 => first | (refine ry_notS ?_; rfl) | (refine ry_runS (by rfl) (fun w' hw' => ?_); go_simp; try rfl)
      simp only [Act.put, List.setIfInBounds_toArray, List.set_cons_zero, List.set_cons_succ]
      refine step0T (o := ?o19) 7 (by kernel_rfl) ?hi19 ?hw19 ?_
      case hi19 => (simp only [List.getElem?_toArray, List.getElem?_cons_zero, List.getElem?_cons_succ]; rfl)
      case hw19 => rfl
      go_simp
      refine ⟨.inl (Mod.alloc (Mod.refl _ _) _), ?_⟩
      refine step0T (o := ?o20) 8 (by kernel_rfl) ?hi20 ?hw20 ?_
      case hi20 => (simp only [List.getElem?_toArray, List.getElem?_cons_zero, List.getElem?_cons_succ]; rfl)
      case hw20 => rfl
      refine appG_step (.tmp 34) (.tmp 37) strs_t B0 va x.asked.length (x.asked.map .string) ((own_keep HW1.out.oa ((Mod.refl (fun _ => False) _).drew) (fun _ _ _ h => h)).alloc _) (some ⟨w.heap.size + 1, 0, none⟩) 1 1 [.string p.id] rfl rfl rfl rfl (cells_lit (by simp)) (by intro u hu; simp at hu; rcases hu with rfl; rfl) (by omega) (by unfold maxLen; omega) (by simp; omega) ?_
      intro v5 w5 ho5 hm5 hr5
      refine ⟨.inl (hm5.mono fun _ _ h => .inl h), ?_⟩
      have hM5 := Mod.trans (((Mod.refl (fun k => va.ownBlock = some k) (w.alloc (.cells #[.string p.id, .int .i64 p.size] 25))).drew).alloc (.cells #[.string p.id] 9)) hm5 (fun _ _ h => h)
      have hbx5 := HW1.out.box.keep hM5 (fun h => HNB.out (.inl h))
      obtain ⟨A5, c5, rfl, _, _, _, _⟩ := own_cells ho5
      have q0 := hbx5.cell (o := 1) rfl
      have r0 := hbx5.frozen 1
      simp only [Act.put, List.setIfInBounds_toArray, List.set_cons_zero, List.set_cons_succ]
      refine take0T (v := ?v21) (oi := ?o21) 9 ?hi21 (by kernel_rfl) (by kernel_rfl) (by kernel_rfl) ?hq21 ?hy21 ?_
      case hi21 => (simp only [List.getElem?_toArray, List.getElem?_cons_zero, List.getElem?_cons_succ]; rfl)
      case hq21 => exact fun _ _ _ h => h
      case hy21 => first | (refine ry_notS ?_; rfl) | (refine ry_runS (by rfl) (fun w' hw' => ?_); go_simp; try rfl)
      simp only [Act.put, List.setIfInBounds_toArray, List.set_cons_zero, List.set_cons_succ]
      refine take0T (v := ?v22) (oi := ?o22) 10 ?hi22 (by kernel_rfl) (by kernel_rfl) (by kernel_rfl) ?hq22 ?hy22 ?_
      case hi22 => (simp only [List.getElem?_toArray, List.getElem?_cons_zero, List.getElem?_cons_succ]; rfl)
      case hq22 => exact fun _ _ _ h => h
      case hy22 => first | (refine ry_notS ?_; rfl) | (refine ry_runS (by rfl) (fun w' hw' => ?_); go_simp; try rfl)
      simp only [Act.put, List.setIfInBounds_toArray, List.set_cons_zero, List.set_cons_succ]
      refine step0T (o := ?o23) 11 (by kernel_rfl) ?hi23 ?hw23 ?_
      case hi23 => (simp only [List.getElem?_toArray, List.getElem?_cons_zero, List.getElem?_cons_succ]; rfl)
      case hw23 => rfl
      go_simp
      refine ⟨.inr (by kernel_rfl), ?_⟩
      refine wpAnyT_done (by kernel_rfl) ?_
      clear fv0 fv1
      have hwp := HW1.out.putA p.id hM5 ho5
      have hpb5 := HB1.out.keep hM5 (fun h => HNP.out (.inl h))
      have hpb6 := hpb5.other (p := ⟨bw, 1, none⟩) (has_ne2 hbx5 hpb5 (by decide)) (.slice A5 (x.asked.length + 1) c5)
      obtain ⟨w6, hw6⟩ : ∃ w6, w5.setCell ⟨bw, 1, none⟩ (.slice A5 (x.asked.length + 1) c5) = w6 := ⟨_, rfl⟩
      rw [hw6] at hwp hpb6
      rw [hw6]
      have HW6 := Lib.hid hwp.1
      have HM6 := Lib.hid (WS.trans HM1.out hwp.2 (rowOf_same rfl))
      have HPB6 := Lib.hid hpb6
      have hzw : w.heap.size + 1 ≤ w6.heap.size := hpb6.lt
      have fv0 := fun (w' : World) (mm : Mod0 w6.drew w') => ((HW6.out.keep0 (Mod.of_drew_l mm)).box.cell (o := 0) rfl)
      have fv1 := fun (w' : World) (mm : Mod0 w6.drew w') => ((HPB6.out.keep (Mod.of_drew_l mm) (fun h => h)).cell (o := 0) rfl)
      clear hwp hpb5 hpb6 hw6 hM5 hm5 ho5 hr5 hbx5 q0 r0 HW1 HB1 HNB HNP x0 x1 x4
      go_wp2_with fail
      refine region_mT (fun _ => False) (by kernel_rfl) ?_
      simp only [List.length_cons, List.length_nil, List.replicate]
      refine take0T (v := ?v24) (oi := ?o24) 0 ?hi24 (by kernel_rfl) (by kernel_rfl) (by kernel_rfl) ?hq24 ?hy24 ?_
      case hi24 => (simp only [List.getElem?_toArray, List.getElem?_cons_zero, List.getElem?_cons_succ]; rfl)
      case hq24 => exact fun _ _ _ h => h
      case hy24 => first | (refine ry_notS ?_; rfl) | (refine ry_runS (by rfl) (fun w' hw' => ?_); go_simp; try rfl)
      simp only [Act.put, List.setIfInBounds_toArray, List.set_cons_zero, List.set_cons_succ]
      refine take0T (v := ?v25) (oi := ?o25) 1 ?hi25 (by kernel_rfl) (by kernel_rfl) (by kernel_rfl) ?hq25 ?hy25 ?_
      case hi25 => (simp only [List.getElem?_toArray, List.getElem?_cons_zero, List.getElem?_cons_succ]; rfl)
      case hq25 => exact fun _ _ _ h => h
      case hy25 => first | (refine ry_notS ?_; rfl) | (refine ry_runS (by rfl) (fun w' hw' => ?_); go_simp; try rfl)
      simp only [Act.put, List.setIfInBounds_toArray, List.set_cons_zero, List.set_cons_succ]
      refine take0T (v := ?v26) (oi := ?o26) 2 ?hi26 (by kernel_rfl) (by kernel_rfl) (by kernel_rfl) ?hq26 ?hy26 ?_
      case hi26 => (simp only [List.getElem?_toArray, List.getElem?_cons_zero, List.getElem?_cons_succ]; rfl)
      case hq26 => exact fun _ _ _ h => h
      case hy26 => first | (refine ry_notS ?_; rfl) | (refine ry_runS (by rfl) (fun w' hw' => ?_); go_simp; try rfl)
      simp only [Act.put, List.setIfInBounds_toArray, List.set_cons_zero, List.set_cons_succ]
      refine take0T (v := ?v27) (oi := ?o27) 3 ?hi27 (by kernel_rfl) (by kernel_rfl) (by kernel_rfl) ?hq27 ?hy27 ?_
      case hi27 => (simp only [List.getElem?_toArray, List.getElem?_cons_zero, List.getElem?_cons_succ]; rfl)
      case hq27 => exact fun _ _ _ h => h
      case hy27 => first | (refine ry_notS ?_; rfl) | (refine ry_runS (by rfl) (fun w' hw' => ?_); go_simp; try rfl)
      simp only [Act.put, List.setIfInBounds_toArray, List.set_cons_zero, List.set_cons_succ]
      refine take0T (v := ?v28) (oi := ?o28) 4 ?hi28 (by kernel_rfl) (by kernel_rfl) (by kernel_rfl) ?hq28 ?hy28 ?_
      case hi28 => (simp only [List.getElem?_toArray, List.getElem?_cons_zero, List.getElem?_cons_succ]; rfl)
      case hq28 => exact fun _ _ _ h => h
      case hy28 => first | (refine ry_notS ?_; rfl) | (refine ry_runS (by rfl) (fun w' hw' => ?_); go_simp; try rfl)
      simp only [Act.put, List.setIfInBounds_toArray, List.set_cons_zero, List.set_cons_succ]
      refine take0T (v := ?v29) (oi := ?o29) 5 ?hi29 (by kernel_rfl) (by kernel_rfl) (by kernel_rfl) ?hq29 ?hy29 ?_
      case hi29 => (simp only [List.getElem?_toArray, List.getElem?_cons_zero, List.getElem?_cons_succ]; rfl)
      case hq29 => exact fun _ _ _ h => h
      case hy29 => first | (refine ry_notS ?_; rfl) | (refine ry_runS (by rfl) (fun w' hw' => ?_); go_simp; try rfl)
      simp only [Act.put, List.setIfInBounds_toArray, List.set_cons_zero, List.set_cons_succ]
      refine step0T (o := ?o30) 6 (by kernel_rfl) ?hi30 ?hw30 ?_
      case hi30 => (simp only [List.getElem?_toArray, List.getElem?_cons_zero, List.getElem?_cons_succ]; rfl)
      case hw30 => rfl
      go_simp
      refine (find_calls A c objs p.id _ (HW6.out.keep0 ((Mod.refl (fun _ => False) w6).drew)).row hob.many).mono ?_
      rintro e w7 ⟨rfl, rfl⟩
      refine ⟨.inl (Mod.refl _ _), ?_⟩
      refine take0T (v := ?v31) (oi := ?o31) 7 ?hi31 (by kernel_rfl) (by kernel_rfl) (by kernel_rfl) ?hq31 ?hy31 ?_
      case hi31 => (simp only [List.getElem?_toArray, List.getElem?_cons_zero, List.getElem?_cons_succ]; rfl)
      case hq31 => exact fun _ _ _ h => h
      case hy31 => first | (refine ry_notS ?_; rfl) | (refine ry_runS (by rfl) (fun w' hw' => ?_); go_simp; try rfl)
      simp only [Act.put, List.setIfInBounds_toArray, List.set_cons_zero, List.set_cons_succ]
      refine take0T (v := ?v32) (oi := ?o32) 8 ?hi32 (by kernel_rfl) (by kernel_rfl) (by kernel_rfl) ?hq32 ?hy32 ?_
      case hi32 => (simp only [List.getElem?_toArray, List.getElem?_cons_zero, List.getElem?_cons_succ]; rfl)
      case hq32 => exact fun _ _ _ h => h
      case hy32 => first | (refine ry_notS ?_; rfl) | (refine ry_runS (by rfl) (fun w' hw' => ?_); go_simp; try rfl)
      simp only [Act.put, List.setIfInBounds_toArray, List.set_cons_zero, List.set_cons_succ]
      refine take0T (v := ?v33) (oi := ?o33) 9 ?hi33 (by kernel_rfl) (by kernel_rfl) (by kernel_rfl) ?hq33 ?hy33 ?_
      case hi33 => (simp only [List.getElem?_toArray, List.getElem?_cons_zero, List.getElem?_cons_succ]; rfl)
      case hq33 => exact fun _ _ _ h => h
      case hy33 => first | (refine ry_notS ?_; rfl) | (refine ry_runS (by rfl) (fun w' hw' => ?_); go_simp; try rfl)
      simp only [Act.put, List.setIfInBounds_toArray, List.set_cons_zero, List.set_cons_succ]
      refine take0T (v := ?v34) (oi := ?o34) 10 ?hi34 (by kernel_rfl) (by kernel_rfl) (by kernel_rfl) ?hq34 ?hy34 ?_
      case hi34 => (simp only [List.getElem?_toArray, List.getElem?_cons_zero, List.getElem?_cons_succ]; rfl)
      case hq34 => exact fun _ _ _ h => h
      case hy34 => first | (refine ry_notS ?_; rfl) | (refine ry_runS (by rfl) (fun w' hw' => ?_); go_simp; try rfl)
      simp only [Act.put, List.setIfInBounds_toArray, List.set_cons_zero, List.set_cons_succ]
      refine take0T (v := ?v35) (oi := ?o35) 11 ?hi35 (by kernel_rfl) (by kernel_rfl) (by kernel_rfl) ?hq35 ?hy35 ?_
      case hi35 => (simp only [List.getElem?_toArray, List.getElem?_cons_zero, List.getElem?_cons_succ]; rfl)
      case hq35 => exact fun _ _ _ h => h
      case hy35 => first | (refine ry_notS ?_; rfl) | (refine ry_runS (by rfl) (fun w' hw' => ?_); go_simp; try rfl)
      simp only [Act.put, List.setIfInBounds_toArray, List.set_cons_zero, List.set_cons_succ]
      refine wpAnyT_done (by kernel_rfl) ?_
      clear fv0 fv1
      have hW7 := HW6.out.keep0 ((Mod.refl (fun _ => False) w6).drew)
      have hM7 := HM6.out.drew
      have hpb7 := HPB6.out.drew
      obtain ⟨w7, hw7⟩ : ∃ w7, w6.drew = w7 := ⟨_, rfl⟩
      rw [hw7] at hW7 hM7 hpb7
      rw [hw7]
      have hzw7 : w.heap.size + 1 ≤ w7.heap.size := hpb7.lt
      have HW7 := Lib.hid hW7
      have HM7 := Lib.hid hM7
      have HPB7 := Lib.hid hpb7
      have y1 := hpb7.cell (o := 1) rfl
      have y0 := hpb7.cell (o := 0) rfl
      clear hw7 hW7 hM7 hpb7 HW6 HM6 HPB6 hzw
      cases hf : findL objs p.id with
      | none =>
        have hy := HYY.out
        unfold nodeOf at hy
        rw [hf] at hy
        dsimp only at hy
        simp only [show gotE none = 3 from rfl, show gotB none = ⟨#[]⟩ from rfl]
        subst hy
        go_wp2_with fail
        refine (fail_calls 3 (HW7.out)).mono ?_
        rintro e w18 ⟨rfl, rfl⟩
        have hsb := WkIs.setBad (HW7.out) 3
        have HSB1 := Lib.hid hsb.1
        have HSB2 := Lib.hid (WS.trans (HM7.out) hsb.2 (rowOf_same rfl))
        clear hsb
        go_wp2_with fail
        first | go_end0 | refine bodyPost_ret (results_none rfl _ _ _) rfl ?_
        unfold GcPost
        exact ⟨rfl, _, _, _, HSB1.out, HSB2.out, rowOf_same rfl⟩
      | some b =>
        have hbs : b.size ≤ 100000000 := by obtain ⟨o, ho, hb⟩ := findL_mem hf; rw [← hb]; exact hob.small o ho
        have hnb : nodeOf objs p level = nodeB b p level := by unfold nodeOf; rw [hf]
        simp only [show gotE (some b) = 0 from rfl, show gotB (some b) = b from rfl]
        have HNB := Lib.hid hnb
        clear hnb
        go_wp2_with fail
        refine (refTakeChunk_calls b w7 hbs).mono ?_
        rintro e w8 ⟨rfl, hm8⟩
        unfold chunkT errV
        have hW8 := HW7.out.keep0 hm8
        have hpb8 := HPB7.out.keep hm8 (fun h => h)
        have HM8 := Lib.hid (Mod.trans HM7.out hm8 (fun _ _ h => h.elim))
        have hzw8 := Nat.le_trans hzw7 hm8.size
        have HW8 := Lib.hid hW8
        have HPB8 := Lib.hid hpb8
        have z1 := hpb8.cell (o := 1) rfl
        have z0 := hpb8.cell (o := 0) rfl
        clear hm8 hW8 hpb8 y0 y1 HW7 HM7 HPB7
        cases hc : okChunk b with
        | true =>
          have hb1 : 1 ≤ b.size := by
            have h2 : ChunkP b := by simpa [okChunk] using hc
            obtain ⟨h, _⟩ := h2; omega
          obtain ⟨S, hS⟩ : ∃ S, b.extract 1 b.size = S := ⟨_, rfl⟩
          have hsx : (S.size : Int) = (b.size : Int) - 1 := by rw [← hS, ByteArray.size_extract]; omega
          simp only [if_true, hS]
          have hno := chunk_no_fan hc
          have hnx := HNB.out
          unfold nodeB at hnx
          rw [if_pos hc, hS, ← hsx] at hnx
          by_cases h2 : level < 0
          · by_cases h1 : (S.size : Int) = p.size
            · rw [if_pos ⟨h1, by omega⟩] at hnx
              have hy := HYY.out
              rw [hnx] at hy
              dsimp only at hy
              have b1 : ((S.size : Int) == p.size) = true := by simpa using h1
              clear h1 hnx hsx hS hno hc
              have hnb : ¬ (vp.ownBlock = some bw ∨ w8.heap.size ≤ bw) := by
                rintro (e | e)
                · exact box_ne (HW8).out.box (HW8).out.op (by decide) e rfl
                · have := (HW8).out.box.lt; first | omega | (simp at this; omega)
              have hnp : ¬ (vp.ownBlock = some w.heap.size ∨ w8.heap.size ≤ w.heap.size) := by
                rintro (e | e)
                · have := (HVP.out _ e); omega
                · have := (HPB8).out.lt; first | omega | (simp at this; omega)
              have fv0 := fun (w' : World) (mm : Mod (fun k => vp.ownBlock = some k ∨ w8.heap.size ≤ k) (w8).drew w') => (mm.cell (p := ⟨bw, 3, none⟩) (HW8).out.box.lt hnb).trans ((HW8).out.box.cell (o := 3) rfl)
              have fv1 := fun (w' : World) (mm : Mod (fun k => vp.ownBlock = some k ∨ w8.heap.size ≤ k) (w8).drew w') => (mm.cell (p := ⟨w.heap.size, 0, none⟩) (HPB8).out.lt hnp).trans ((HPB8).out.cell (o := 0) rfl)
              have fv2 := fun (w' : World) (mm : Mod (fun k => vp.ownBlock = some k ∨ w8.heap.size ≤ k) (w8).drew w') => (mm.cell (p := ⟨w.heap.size, 1, none⟩) (HPB8).out.lt hnp).trans ((HPB8).out.cell (o := 1) rfl)
              have hB8 : B0 ≤ w8.heap.size := by have := (HW8).out.box.lt; have := (HW8).out.le; first | omega | (simp at this; omega)
              have HNB := Lib.hid hnb
              have HYC := Lib.hid hy
              clear hnb hnp hy
              go_wp2_with fail
              refine region_mT (fun k => vp.ownBlock = some k ∨ w8.heap.size ≤ k) (by kernel_rfl) ?_
              simp only [List.length_cons, List.length_nil, List.replicate]
              refine take0T (v := ?v36) (oi := ?o36) 0 ?hi36 (by kernel_rfl) (by kernel_rfl) (by kernel_rfl) ?hq36 ?hy36 ?_
              case hi36 => (simp only [List.getElem?_toArray, List.getElem?_cons_zero, List.getElem?_cons_succ]; rfl)
              case hq36 => exact fun _ _ _ h => h
              case hy36 => first | (refine ry_notS ?_; rfl) | (refine ry_runS (by rfl) (fun w' hw' => ?_); go_simp; try rfl)
              simp only [Act.put, List.setIfInBounds_toArray, List.set_cons_zero, List.set_cons_succ]
              refine take0T (v := ?v37) (oi := ?o37) 1 ?hi37 (by kernel_rfl) (by kernel_rfl) (by kernel_rfl) ?hq37 ?hy37 ?_
              case hi37 => (simp only [List.getElem?_toArray, List.getElem?_cons_zero, List.getElem?_cons_succ]; rfl)
              case hq37 => exact fun _ _ _ h => h
              case hy37 => first | (refine ry_notS ?_; rfl) | (refine ry_runS (by rfl) (fun w' hw' => ?_); go_simp; try rfl)
              simp only [Act.put, List.setIfInBounds_toArray, List.set_cons_zero, List.set_cons_succ]
              refine take0T (v := ?v38) (oi := ?o38) 2 ?hi38 (by kernel_rfl) (by kernel_rfl) (by kernel_rfl) ?hq38 ?hy38 ?_
              case hi38 => (simp only [List.getElem?_toArray, List.getElem?_cons_zero, List.getElem?_cons_succ]; rfl)
              case hq38 => exact fun _ _ _ h => h
              case hy38 => first | (refine ry_notS ?_; rfl) | (refine ry_runS (by rfl) (fun w' hw' => ?_); go_simp; try rfl)
              simp only [Act.put, List.setIfInBounds_toArray, List.set_cons_zero, List.set_cons_succ]
              refine take0T (v := ?v39) (oi := ?o39) 3 ?hi39 (by kernel_rfl) (by kernel_rfl) (by kernel_rfl) ?hq39 ?hy39 ?_
              case hi39 => (simp only [List.getElem?_toArray, List.getElem?_cons_zero, List.getElem?_cons_succ]; rfl)
              case hq39 => exact fun _ _ _ h => h
              case hy39 => first | (refine ry_notS ?_; rfl) | (refine ry_runS (by rfl) (fun w' hw' => ?_); go_simp; try rfl)
              simp only [Act.put, List.setIfInBounds_toArray, List.set_cons_zero, List.set_cons_succ]
              refine take0T (v := ?v40) (oi := ?o40) 4 ?hi40 (by kernel_rfl) (by kernel_rfl) (by kernel_rfl) ?hq40 ?hy40 ?_
              case hi40 => (simp only [List.getElem?_toArray, List.getElem?_cons_zero, List.getElem?_cons_succ]; rfl)
              case hq40 => exact fun _ _ _ h => h
              case hy40 => first | (refine ry_notS ?_; rfl) | (refine ry_runS (by rfl) (fun w' hw' => ?_); go_simp; try rfl)
              simp only [Act.put, List.setIfInBounds_toArray, List.set_cons_zero, List.set_cons_succ]
              refine take0T (v := ?v41) (oi := ?o41) 5 ?hi41 (by kernel_rfl) (by kernel_rfl) (by kernel_rfl) ?hq41 ?hy41 ?_
              case hi41 => (simp only [List.getElem?_toArray, List.getElem?_cons_zero, List.getElem?_cons_succ]; rfl)
              case hq41 => exact fun _ _ _ h => h
              case hy41 => first | (refine ry_notS ?_; rfl) | (refine ry_runS (by rfl) (fun w' hw' => ?_); go_simp; try rfl)
              simp only [Act.put, List.setIfInBounds_toArray, List.set_cons_zero, List.set_cons_succ]
              refine step0T (o := ?o42) 6 (by kernel_rfl) ?hi42 ?hw42 ?_
              case hi42 => (simp only [List.getElem?_toArray, List.getElem?_cons_zero, List.getElem?_cons_succ]; rfl)
              case hw42 => rfl
              go_simp
              refine ⟨.inl (Mod.alloc (Mod.refl _ _) _), ?_⟩
              refine step0T (o := ?o43) 7 (by kernel_rfl) ?hi43 ?hw43 ?_
              case hi43 => (simp only [List.getElem?_toArray, List.getElem?_cons_zero, List.getElem?_cons_succ]; rfl)
              case hw43 => rfl
              refine appG_step (.tmp 78) (.tmp 80) part_t B0 vp x.parts.length (x.parts.flatMap pc) ((own_keep (HW8).out.op ((Mod.refl (fun _ => False) _).drew) (fun _ _ _ h => h)).alloc _) (some ⟨w8.heap.size, 0, none⟩) 1 1 [.string p.id, .int .i64 p.size] rfl rfl rfl rfl (cells_lit (by simp)) (by intro u hu; simp at hu; rcases hu with rfl | rfl <;> rfl) (by omega) (by unfold maxLen; omega) (by simp; omega) ?_
              intro v9 w9 ho9 hm9 hr9
              refine ⟨.inl (hm9.mono fun _ _ h => .inl h), ?_⟩
              have hM9 := Mod.trans (((Mod.refl (fun k => vp.ownBlock = some k) (w8)).drew).alloc (.cells #[.string p.id, .int .i64 p.size] 25)) hm9 (fun _ _ h => h)
              have hbx9 := (HW8).out.box.keep hM9 (fun h => HNB.out (.inl h))
              obtain ⟨A9, c9, rfl, _, _, _, _⟩ := own_cells ho9
              have q0 := hbx9.cell (o := 3) rfl
              have r0 := hbx9.frozen 3
              simp only [Act.put, List.setIfInBounds_toArray, List.set_cons_zero, List.set_cons_succ]
              refine take0T (v := ?v44) (oi := ?o44) 8 ?hi44 (by kernel_rfl) (by kernel_rfl) (by kernel_rfl) ?hq44 ?hy44 ?_
              case hi44 => (simp only [List.getElem?_toArray, List.getElem?_cons_zero, List.getElem?_cons_succ]; rfl)
              case hq44 => exact fun _ _ _ h => h
              case hy44 => first | (refine ry_notS ?_; rfl) | (refine ry_runS (by rfl) (fun w' hw' => ?_); go_simp; try rfl)
              simp only [Act.put, List.setIfInBounds_toArray, List.set_cons_zero, List.set_cons_succ]
              refine take0T (v := ?v45) (oi := ?o45) 9 ?hi45 (by kernel_rfl) (by kernel_rfl) (by kernel_rfl) ?hq45 ?hy45 ?_
              case hi45 => (simp only [List.getElem?_toArray, List.getElem?_cons_zero, List.getElem?_cons_succ]; rfl)
              case hq45 => exact fun _ _ _ h => h
              case hy45 => first | (refine ry_notS ?_; rfl) | (refine ry_runS (by rfl) (fun w' hw' => ?_); go_simp; try rfl)
              simp only [Act.put, List.setIfInBounds_toArray, List.set_cons_zero, List.set_cons_succ]
              refine step0T (o := ?o46) 10 (by kernel_rfl) ?hi46 ?hw46 ?_
              case hi46 => (simp only [List.getElem?_toArray, List.getElem?_cons_zero, List.getElem?_cons_succ]; rfl)
              case hw46 => rfl
              go_simp
              refine ⟨.inr (by kernel_rfl), ?_⟩
              refine wpAnyT_done (by kernel_rfl) ?_
              clear fv0 fv1 fv2
              have hwp := (HW8).out.putP p hM9 ho9 (by omega)
              have hrw : RowOf w vp (.slice A9 (x.parts.length + 1) c9) := rowOf_later hr9 (by simp; omega)
              have HWP1 := Lib.hid hwp.1
              have HWP2 := Lib.hid (WS.trans (HM8.out) hwp.2 (rowOf_same rfl))
              have HRW := Lib.hid hrw
              have hy := HYC.out
              subst hy
              clear hwp hrw hM9 hm9 ho9 hr9 hbx9 q0 r0
              go_wp2_with fail
              first | go_end0 | refine bodyPost_ret (results_none rfl _ _ _) rfl ?_
              unfold GcPost
              exact ⟨rfl, _, _, _, by first | exact HWP1.out | (show WkIs _ _ _ _ _ _ _ _ _ _ _ x.bad _; rw [hb0]; exact HWP1.out), HWP2.out, HRW.out⟩
            · have b1 : ((S.size : Int) == p.size) = false := by simpa using h1
              have HTL : Hid (nodeOf objs p level = if okFan b.data.toList = true ∧ ((outFan b.data.toList).2.map (·.size)).sum = p.size ∧ (level < 0 ∨ (outFan b.data.toList).1 = level) then Node.fan (outFan b.data.toList).1 (outFan b.data.toList).2 else Node.bad 101) := Lib.hid (by
                rw [hnx, if_neg (fun h => h1 h.1), if_neg (fun h => by rw [hno] at h; cases h.1)])
              clear h1 hnx hsx hS hno hc
              go_wp2_with fail
              clear h2
              refine (rTakeFan_calls b w8 hbs).mono ?_
              rintro e w9 ⟨v, rfl, hv, hm9⟩
              obtain ⟨hag1, hag2⟩ := fans_agree b.data.toList
              simp only [← hag1, ← hag2] at hv ⊢
              clear hag1 hag2
              have hof := outFan_facts b.data.toList
              obtain ⟨F, hF⟩ : ∃ F, okFan b.data.toList = F := ⟨_, rfl⟩
              obtain ⟨O, hO⟩ : ∃ O, outFan b.data.toList = O := ⟨_, rfl⟩
              obtain ⟨L, kids⟩ := O
              have hfl : nodeOf objs p level = .fan L kids → (level < 0 ∨ L = level) ∧ 1 ≤ L ∧ L ≤ 20 ∧ 1 ≤ kids.length ∧ kids.length ≤ 32 ∧ (kids.map (·.size)).sum = p.size ∧ (∀ k ∈ kids, 1 ≤ k.size ∧ k.size ≤ 262144 ∧ k.id.size = 32) := fan_level
              have hnd2 := HTL.out
              rw [hF, hO] at hnd2
              have hy := HYY.out
              rw [hnd2] at hy
              rw [hO] at hof hv
              simp only [hF, hO]
              dsimp only at hy hof hv hnd2 ⊢
              obtain ⟨Ak, ck, rfl, _, hck, _, _⟩ := own_cells hv
              have hm10 := hm9.alloc (.cells #[.int .i64 L, .slice Ak kids.length ck] 96)
              have hb17 := Has.new w9 [.int .i64 L, .slice Ak kids.length ck] 96
              have hv10 := hv.alloc (.cells #[.int .i64 L, .slice Ak kids.length ck] 96)
              have hW10 := HW8.out.keep0 hm10
              have hpb10 := HPB8.out.keep hm10 (fun h => h)
              have hM10 := Mod.trans HM8.out hm10 (fun _ _ h => h.elim)
              have hck10 := hck.alloc (.cells #[.int .i64 L, .slice Ak kids.length ck] 96)
              have hz9 := hm9.size
              obtain ⟨b17, hb17e⟩ : ∃ b17, w9.heap.size = b17 := ⟨_, rfl⟩
              rw [hb17e] at hb17
              have c0 := hb17.cell (o := 0) rfl
              have c1 := hb17.cell (o := 1) rfl
              have z1 := hpb10.cell (o := 1) rfl
              have HOF := Lib.hid hof
              have HFL := Lib.hid hfl
              have HND := Lib.hid hnd2
              have HY3 := Lib.hid hy
              have HV10 := Lib.hid hv10
              have HCK := Lib.hid hck10
              have HW10 := Lib.hid hW10
              have HPB10 := Lib.hid hpb10
              have HM10 := Lib.hid hM10
              have HB17 := Lib.hid hb17
              have hkl : kids.length ≤ 32 := hof.1
              clear hof hfl hnd2 hy hv10 hck10 hW10 hpb10 hM10 hb17 hm9 hm10 hv hck hF hO z0 HYY HW8 HPB8 HM8 HTL
              go_wp2_with fail
              try simp only [hb17e]
              obtain ⟨w10, hw10⟩ : ∃ w10, w9.alloc (.cells #[.int .i64 L, .slice Ak kids.length ck] 96) = w10 := ⟨_, rfl⟩
              rw [hw10] at c0 c1 z1 HV10 HCK HW10 HPB10 HM10 HB17
              rw [hw10]
              clear hw10 hb17e
              go_loopw [10, 11] (fun sm i wr => ∃ (j : Nat) (z : Int), i = .int .i64 j ∧ sm = .int .i64 z ∧ j ≤ kids.length ∧ Hid (z = sizes (kids.take j)) ∧ wr = w10) (fun _ i _ => kids.length - (intOf i).toNat)
              case atStart => exact ⟨0, 0, by go_num, rfl, by omega, Lib.hid (by simp [sizes]), rfl⟩
              case round =>
                obtain ⟨j, z, rfl, rfl, hj, HZ, rfl⟩ := hrel
                by_cases hjl : j < kids.length
                · have j1 : (j : Int) < (kids.length : Int) := by omega
                  have j0 : (0 : Int) ≤ (j : Int) := by omega
                  rcases HCK.out with h | ⟨bb, b5, rfl, hc5⟩
                  · have := flat_len pc_len kids; rw [h] at this; simp at this; omega
                  have z0 := hc5 _ _ (flat_get pc_len kids j 0 hjl (by omega))
                  have z2 := hc5 _ _ (flat_get pc_len kids j 1 hjl (by omega))
                  rw [Nat.add_zero] at z0
                  rw [← Nat.add_assoc] at z2
                  have hst := sizes_snoc hjl
                  rw [← HZ.out] at hst
                  have hs0 := sizes_take HOF.out.2 j
                  have hs1 := sizes_take HOF.out.2 (j + 1)
                  rw [hst] at hs1
                  rw [← HZ.out] at hs0
                  obtain ⟨k, hk⟩ : ∃ k, kids[j] = k := ⟨_, rfl⟩
                  rw [hk] at z0 z2 hst hs1
                  have HST := Lib.hid hst
                  clear hc5 hst hk
                  go_wp2_with fail
                  go_roundw
                  case rel => exact ⟨j + 1, z + k.size, by go_num, rfl, by omega, Lib.hid HST.out.symm, trivial⟩
                  case measure => simp [intOf]; omega
                · have hjk : j = kids.length := by omega
                  have j1 : ¬ (j : Int) < (kids.length : Int) := by omega
                  have hz := HZ.out
                  rw [hjk, List.take_length] at hz
                  have hy := HY3.out
                  have hnd3 := HND.out
                  have hszk : sizes kids = (kids.map (·.size)).sum := rfl
                  rw [← hszk, ← hz] at hy hnd3
                  clear hszk hz HZ
                  cases F with
                  | false =>
                    rw [if_neg (fun h => by cases h.1)] at hy
                    dsimp only at hy
                    simp only [show errV false = Value.int .i64 81 from rfl]
                    subst hy
                    go_wp2_with fail
                    refine (fail_calls 101 (HW10.out)).mono ?_
                    rintro e w18 ⟨rfl, rfl⟩
                    have hsb := WkIs.setBad (HW10.out) 101
                    have HSB1 := Lib.hid hsb.1
                    have HSB2 := Lib.hid (WS.trans (HM10.out) hsb.2 (rowOf_same rfl))
                    clear hsb
                    go_wp2_with fail
                    first | go_end0 | refine bodyPost_ret (results_none rfl _ _ _) rfl ?_
                    unfold GcPost
                    exact ⟨rfl, _, _, _, HSB1.out, HSB2.out, rowOf_same rfl⟩
                  | true =>
                    simp only [show errV true = Value.int .i64 0 from rfl]
                    by_cases h1 : z = p.size
                    · have b1 : (z == p.size) = true := by simpa using h1
                      have b2 : (z != p.size) = false := by simpa using h1
                      by_cases h2 : level < 0
                      · have h3 : ¬ 0 ≤ level := by omega
                        rw [if_pos ⟨rfl, h1, .inl h2⟩] at hy hnd3
                        clear h1
                        have hfl := HFL.out hnd3
                        have hr0 : RcIs B0 bw A c objs L kids (x.ask p.id) b17 w8.heap.size (.slice Ak kids.length ck) vp w 0 wr :=
                          ⟨⟨_, _, _, by show WkIs _ _ _ _ _ _ _ _ _ _ _ x.bad _; rw [hb0]; exact HW10.out, fun g hg hp => by have := (HV10.out.lt g hg).1; have := HVP.out g hp; omega, HM10.out, rowOf_same rfl⟩, HB17.out, HV10.out⟩
                        have HR0 := Lib.hid hr0
                        have hL1 : 1 ≤ L := hfl.2.1
                        have hL2 : L ≤ 20 := hfl.2.2.1
                        have HFL2 := Lib.hid hfl
                        have hy2 : chkF objs (L - 1).toNat kids (x.ask p.id) = Y := hy
                        have HY4 := Lib.hid hy2
                        clear hr0 hfl hy hy2 hnd3 HFL HND HY3 HCK HW10
                        go_wp2_with fail
                        go_loopw [12] (fun i wr => ∃ (j : Nat), i = .int .i64 j ∧ j ≤ kids.length ∧ Hid (RcIs B0 bw A c objs L kids (x.ask p.id) b17 w8.heap.size (.slice Ak kids.length ck) vp w j wr)) (fun i _ => kids.length - (intOf i).toNat)
                        case atStart => exact ⟨0, by go_num, by omega, HR0⟩
                        case round =>
                          obtain ⟨j, rfl, hj, HG⟩ := hrel
                          have c0 := HG.out.box.cell (o := 0) rfl
                          have c1 := HG.out.box.cell (o := 1) rfl
                          by_cases hjl : j < kids.length
                          · have j1 : (j : Int) < (kids.length : Int) := by omega
                            have j0 : (0 : Int) ≤ (j : Int) := by omega
                            obtain ⟨A2, c2, he, _, hck, _, _⟩ := own_cells HG.out.own
                            obtain ⟨rfl, rfl⟩ : Ak = A2 ∧ ck = c2 := by simpa using he
                            clear he
                            rcases hck with h | ⟨bb, b5, rfl, hc5⟩
                            · have := flat_len pc_len kids; rw [h] at this; simp at this; omega
                            have z0 := hc5 _ _ (flat_get pc_len kids j 0 hjl (by omega))
                            have z2 := hc5 _ _ (flat_get pc_len kids j 1 hjl (by omega))
                            rw [Nat.add_zero] at z0
                            rw [← Nat.add_assoc] at z2
                            obtain ⟨va7, vd7, vp7, hwk7, hap7, hmm7, hrr7⟩ := HG.out.ex
                            have hnum := cnums_next (objs := objs) HN.out hjl ⟨HFL2.out.1, hL1, hL2⟩ HFL2.out.2.2.2.2.2.1 HFL2.out.2.2.2.2.2.2
                            have hsn : chkF objs (L - 1).toNat (kids.take (j + 1)) (x.ask p.id) = chkS objs (L - 1).toNat kids[j] (chkF objs (L - 1).toNat (kids.take j) (x.ask p.id)) := by
                              rw [List.take_succ_eq_append_getElem hjl, chkF_snoc]
                            have HCA := Lib.hid (HIH.out L hL1 hL2 HFL2.out.1 _ _ _ _ _ wr.drew hnum (hwk7.keep0 ((Mod.refl (fun _ => False) wr).drew)))
                            unfold GcPost at HCA
                            have hps := hnum.1
                            have hnbx : ¬ WS B0 vp7 wr b17 := by
                              rintro (h | h)
                              · exact Ty.not (Has.row HG.out.box) (by decide) h
                              · exact box_ne HG.out.box hwk7.op (by decide) h rfl
                            have hnrw : ¬ WS B0 vp7 wr bb := by
                              rintro (h | h)
                              · exact Ty.not (own_row HG.out.own (k := bb) (own_blk HG.out.own z0)) (by decide) h
                              · exact hap7 bb (own_blk HG.out.own z0) h
                            have hbl := World.block_lt_of_cell? _ _ z0
                            have fv0 := fun (w' : World) (mm : Mod (WS B0 vp7 wr) wr.drew w') => (mm.cell (p := ⟨b17, 0, none⟩) HG.out.box.lt hnbx).trans c0
                            have fv1 := fun (w' : World) (mm : Mod (WS B0 vp7 wr) wr.drew w') => (mm.cell (p := ⟨b17, 1, none⟩) HG.out.box.lt hnbx).trans c1
                            have fv2 := fun (w' : World) (mm : Mod (WS B0 vp7 wr) wr.drew w') => (mm.cell (p := ⟨bb, b5 + j * 2, none⟩) hbl hnrw).trans z0
                            have fv3 := fun (w' : World) (mm : Mod (WS B0 vp7 wr) wr.drew w') => (mm.cell (p := ⟨bb, b5 + j * 2 + 1, none⟩) hbl hnrw).trans z2
                            have HSN := Lib.hid hsn
                            have HNX := Lib.hid hnbx
                            have HNR := Lib.hid hnrw
                            have HAP := Lib.hid hap7
                            have HMM := Lib.hid hmm7
                            have HRR := Lib.hid hrr7
                            generalize kids[j] = k at *
                            have hw1 : IntKind.i64.wrap (L - 1) = L - 1 := by rw [IntKind.wrap_i64]; omega
                            clear hnum hsn hc5 hwk7 hap7 hmm7 hrr7 hnbx hnrw
                            go_wp2_with fail
                            refine region_mT (WS B0 vp7 wr) (by kernel_rfl) ?_
                            simp only [List.length_cons, List.length_nil, List.replicate]
                            refine take0T (v := ?v47) (oi := ?o47) 0 ?hi47 (by kernel_rfl) (by kernel_rfl) (by kernel_rfl) ?hq47 ?hy47 ?_
                            case hi47 => (simp only [List.getElem?_toArray, List.getElem?_cons_zero, List.getElem?_cons_succ]; rfl)
                            case hq47 => exact fun _ _ _ h => h
                            case hy47 => first | (refine ry_notS ?_; rfl) | (refine ry_runS (by rfl) (fun w' hw' => ?_); go_simp; try rfl)
                            simp only [Act.put, List.setIfInBounds_toArray, List.set_cons_zero, List.set_cons_succ]
                            refine take0T (v := ?v48) (oi := ?o48) 1 ?hi48 (by kernel_rfl) (by kernel_rfl) (by kernel_rfl) ?hq48 ?hy48 ?_
                            case hi48 => (simp only [List.getElem?_toArray, List.getElem?_cons_zero, List.getElem?_cons_succ]; rfl)
                            case hq48 => exact fun _ _ _ h => h
                            case hy48 => first | (refine ry_notS ?_; rfl) | (refine ry_runS (by rfl) (fun w' hw' => ?_); go_simp; try rfl)
                            simp only [Act.put, List.setIfInBounds_toArray, List.set_cons_zero, List.set_cons_succ]
                            refine take0T (v := ?v49) (oi := ?o49) 2 ?hi49 (by kernel_rfl) (by kernel_rfl) (by kernel_rfl) ?hq49 ?hy49 ?_
                            case hi49 => (simp only [List.getElem?_toArray, List.getElem?_cons_zero, List.getElem?_cons_succ]; rfl)
                            case hq49 => exact fun _ _ _ h => h
                            case hy49 => first | (refine ry_notS ?_; rfl) | (refine ry_runS (by rfl) (fun w' hw' => ?_); go_simp; try rfl)
                            simp only [Act.put, List.setIfInBounds_toArray, List.set_cons_zero, List.set_cons_succ]
                            refine take0T (v := ?v50) (oi := ?o50) 3 ?hi50 (by kernel_rfl) (by kernel_rfl) (by kernel_rfl) ?hq50 ?hy50 ?_
                            case hi50 => (simp only [List.getElem?_toArray, List.getElem?_cons_zero, List.getElem?_cons_succ]; rfl)
                            case hq50 => exact fun _ _ _ h => h
                            case hy50 => first | (refine ry_notS ?_; rfl) | (refine ry_runS (by rfl) (fun w' hw' => ?_); go_simp; try rfl)
                            simp only [Act.put, List.setIfInBounds_toArray, List.set_cons_zero, List.set_cons_succ]
                            refine take0T (v := ?v51) (oi := ?o51) 4 ?hi51 (by kernel_rfl) (by kernel_rfl) (by kernel_rfl) ?hq51 ?hy51 ?_
                            case hi51 => (simp only [List.getElem?_toArray, List.getElem?_cons_zero, List.getElem?_cons_succ]; rfl)
                            case hq51 => exact fun _ _ _ h => h
                            case hy51 => first | (refine ry_notS ?_; rfl) | (refine ry_runS (by rfl) (fun w' hw' => ?_); go_simp; try rfl)
                            simp only [Act.put, List.setIfInBounds_toArray, List.set_cons_zero, List.set_cons_succ]
                            refine take0T (v := ?v52) (oi := ?o52) 5 ?hi52 (by kernel_rfl) (by kernel_rfl) (by kernel_rfl) ?hq52 ?hy52 ?_
                            case hi52 => (simp only [List.getElem?_toArray, List.getElem?_cons_zero, List.getElem?_cons_succ]; rfl)
                            case hq52 => exact fun _ _ _ h => h
                            case hy52 => first | (refine ry_notS ?_; rfl) | (refine ry_runS (by rfl) (fun w' hw' => ?_); go_simp; try rfl)
                            simp only [Act.put, List.setIfInBounds_toArray, List.set_cons_zero, List.set_cons_succ]
                            refine take0T (v := ?v53) (oi := ?o53) 6 ?hi53 (by kernel_rfl) (by kernel_rfl) (by kernel_rfl) ?hq53 ?hy53 ?_
                            case hi53 => (simp only [List.getElem?_toArray, List.getElem?_cons_zero, List.getElem?_cons_succ]; rfl)
                            case hq53 => exact fun _ _ _ h => h
                            case hy53 => first | (refine ry_notS ?_; rfl) | (refine ry_runS (by rfl) (fun w' hw' => ?_); go_simp; try rfl)
                            simp only [Act.put, List.setIfInBounds_toArray, List.set_cons_zero, List.set_cons_succ]
                            refine take0T (v := ?v54) (oi := ?o54) 7 ?hi54 (by kernel_rfl) (by kernel_rfl) (by kernel_rfl) ?hq54 ?hy54 ?_
                            case hi54 => (simp only [List.getElem?_toArray, List.getElem?_cons_zero, List.getElem?_cons_succ]; rfl)
                            case hq54 => exact fun _ _ _ h => h
                            case hy54 => first | (refine ry_notS ?_; rfl) | (refine ry_runS (by rfl) (fun w' hw' => ?_); go_simp; try rfl)
                            simp only [Act.put, List.setIfInBounds_toArray, List.set_cons_zero, List.set_cons_succ]
                            refine take0T (v := ?v55) (oi := ?o55) 8 ?hi55 (by kernel_rfl) (by kernel_rfl) (by kernel_rfl) ?hq55 ?hy55 ?_
                            case hi55 => (simp only [List.getElem?_toArray, List.getElem?_cons_zero, List.getElem?_cons_succ]; rfl)
                            case hq55 => exact fun _ _ _ h => h
                            case hy55 => first | (refine ry_notS ?_; rfl) | (refine ry_runS (by rfl) (fun w' hw' => ?_); go_simp; try rfl)
                            simp only [Act.put, List.setIfInBounds_toArray, List.set_cons_zero, List.set_cons_succ]
                            refine step0T (o := ?o56) 9 (by kernel_rfl) ?hi56 ?hw56 ?_
                            case hi56 => (simp only [List.getElem?_toArray, List.getElem?_cons_zero, List.getElem?_cons_succ]; rfl)
                            case hw56 => rfl
                            go_simp
                            refine HCA.out.mono ?_
                            rintro e w12 ⟨rfl, va8, vd8, vp8, hwk8, hm8, hr8⟩
                            refine ⟨.inl hm8, ?_⟩
                            refine wpAnyT_done (by kernel_rfl) ?_
                            clear fv0 fv1 fv2 fv3
                            have hm8' : Mod (WS B0 vp7 wr) wr w12 := Mod.of_drew_l hm8
                            have hbx8 := HG.out.box.keep hm8' HNX.out
                            have hown8 := own_keep HG.out.own hm8' (fun g _ hg hs => by
                              rcases hs with h | h
                              · exact Ty.not (own_row HG.out.own hg) (by decide) h
                              · exact HAP.out g hg h)
                            have hnx : RcIs B0 bw A c objs L kids (x.ask p.id) b17 w8.heap.size (.slice (some ⟨bb, b5, none⟩) kids.length ck) vp w (j + 1) w12 := by
                              refine ⟨⟨va8, vd8, vp8, by rw [HSN.out]; exact hwk8, fun g hg hp => ?_, WS.trans HMM.out hm8' HRR.out, rowOf_trans HRR.out hr8 HMM.out.size⟩, hbx8, hown8⟩
                              rcases hr8 g hp with h | h
                              · exact HAP.out g hg h
                              · have := (HG.out.own.lt g hg).2; simp at h; omega
                            have HNXT := Lib.hid hnx
                            clear hnx hm8 hm8' hbx8 hown8 hwk8 hr8 c0 c1 z0 z2
                            go_wp2_with fail
                            go_roundw
                            case rel => exact ⟨j + 1, by go_num, by omega, HNXT⟩
                            case measure => simp [intOf]; omega
                          · have hjk : j = kids.length := by omega
                            have j1 : ¬ (j : Int) < (kids.length : Int) := by omega
                            obtain ⟨va7, vd7, vp7, hwk7, hap7, hmm7, hrr7⟩ := HG.out.ex
                            rw [hjk, List.take_length, HY4.out] at hwk7
                            have HWK := Lib.hid hwk7
                            have HMM := Lib.hid hmm7
                            have HRR := Lib.hid hrr7
                            clear hwk7 hap7 hmm7 hrr7
                            go_wp2_with fail
                            first | go_end0 | refine bodyPost_ret (results_none rfl _ _ _) rfl ?_
                            unfold GcPost
                            exact ⟨rfl, _, _, _, HWK.out, HMM.out, HRR.out⟩
                      · have h3 : 0 ≤ level := by omega
                        by_cases h4 : L = level
                        · have b3 : (L == level) = true := by simpa using h4
                          have b4 : (L != level) = false := by simpa using h4
                          rw [if_pos ⟨rfl, h1, .inr h4⟩] at hy hnd3
                          clear h1 h4
                          have hfl := HFL.out hnd3
                          have hr0 : RcIs B0 bw A c objs L kids (x.ask p.id) b17 w8.heap.size (.slice Ak kids.length ck) vp w 0 wr :=
                            ⟨⟨_, _, _, by show WkIs _ _ _ _ _ _ _ _ _ _ _ x.bad _; rw [hb0]; exact HW10.out, fun g hg hp => by have := (HV10.out.lt g hg).1; have := HVP.out g hp; omega, HM10.out, rowOf_same rfl⟩, HB17.out, HV10.out⟩
                          have HR0 := Lib.hid hr0
                          have hL1 : 1 ≤ L := hfl.2.1
                          have hL2 : L ≤ 20 := hfl.2.2.1
                          have HFL2 := Lib.hid hfl
                          have hy2 : chkF objs (L - 1).toNat kids (x.ask p.id) = Y := hy
                          have HY4 := Lib.hid hy2
                          clear hr0 hfl hy hy2 hnd3 HFL HND HY3 HCK HW10
                          go_wp2_with fail
                          go_loopw [12] (fun i wr => ∃ (j : Nat), i = .int .i64 j ∧ j ≤ kids.length ∧ Hid (RcIs B0 bw A c objs L kids (x.ask p.id) b17 w8.heap.size (.slice Ak kids.length ck) vp w j wr)) (fun i _ => kids.length - (intOf i).toNat)
                          case atStart => exact ⟨0, by go_num, by omega, HR0⟩
                          case round =>
                            obtain ⟨j, rfl, hj, HG⟩ := hrel
                            have c0 := HG.out.box.cell (o := 0) rfl
                            have c1 := HG.out.box.cell (o := 1) rfl
                            by_cases hjl : j < kids.length
                            · have j1 : (j : Int) < (kids.length : Int) := by omega
                              have j0 : (0 : Int) ≤ (j : Int) := by omega
                              obtain ⟨A2, c2, he, _, hck, _, _⟩ := own_cells HG.out.own
                              obtain ⟨rfl, rfl⟩ : Ak = A2 ∧ ck = c2 := by simpa using he
                              clear he
                              rcases hck with h | ⟨bb, b5, rfl, hc5⟩
                              · have := flat_len pc_len kids; rw [h] at this; simp at this; omega
                              have z0 := hc5 _ _ (flat_get pc_len kids j 0 hjl (by omega))
                              have z2 := hc5 _ _ (flat_get pc_len kids j 1 hjl (by omega))
                              rw [Nat.add_zero] at z0
                              rw [← Nat.add_assoc] at z2
                              obtain ⟨va7, vd7, vp7, hwk7, hap7, hmm7, hrr7⟩ := HG.out.ex
                              have hnum := cnums_next (objs := objs) HN.out hjl ⟨HFL2.out.1, hL1, hL2⟩ HFL2.out.2.2.2.2.2.1 HFL2.out.2.2.2.2.2.2
                              have hsn : chkF objs (L - 1).toNat (kids.take (j + 1)) (x.ask p.id) = chkS objs (L - 1).toNat kids[j] (chkF objs (L - 1).toNat (kids.take j) (x.ask p.id)) := by
                                rw [List.take_succ_eq_append_getElem hjl, chkF_snoc]
                              have HCA := Lib.hid (HIH.out L hL1 hL2 HFL2.out.1 _ _ _ _ _ wr.drew hnum (hwk7.keep0 ((Mod.refl (fun _ => False) wr).drew)))
                              unfold GcPost at HCA
                              have hps := hnum.1
                              have hnbx : ¬ WS B0 vp7 wr b17 := by
                                rintro (h | h)
                                · exact Ty.not (Has.row HG.out.box) (by decide) h
                                · exact box_ne HG.out.box hwk7.op (by decide) h rfl
                              have hnrw : ¬ WS B0 vp7 wr bb := by
                                rintro (h | h)
                                · exact Ty.not (own_row HG.out.own (k := bb) (own_blk HG.out.own z0)) (by decide) h
                                · exact hap7 bb (own_blk HG.out.own z0) h
                              have hbl := World.block_lt_of_cell? _ _ z0
                              have fv0 := fun (w' : World) (mm : Mod (WS B0 vp7 wr) wr.drew w') => (mm.cell (p := ⟨b17, 0, none⟩) HG.out.box.lt hnbx).trans c0
                              have fv1 := fun (w' : World) (mm : Mod (WS B0 vp7 wr) wr.drew w') => (mm.cell (p := ⟨b17, 1, none⟩) HG.out.box.lt hnbx).trans c1
                              have fv2 := fun (w' : World) (mm : Mod (WS B0 vp7 wr) wr.drew w') => (mm.cell (p := ⟨bb, b5 + j * 2, none⟩) hbl hnrw).trans z0
                              have fv3 := fun (w' : World) (mm : Mod (WS B0 vp7 wr) wr.drew w') => (mm.cell (p := ⟨bb, b5 + j * 2 + 1, none⟩) hbl hnrw).trans z2
                              have HSN := Lib.hid hsn
                              have HNX := Lib.hid hnbx
                              have HNR := Lib.hid hnrw
                              have HAP := Lib.hid hap7
                              have HMM := Lib.hid hmm7
                              have HRR := Lib.hid hrr7
                              generalize kids[j] = k at *
                              have hw1 : IntKind.i64.wrap (L - 1) = L - 1 := by rw [IntKind.wrap_i64]; omega
                              clear hnum hsn hc5 hwk7 hap7 hmm7 hrr7 hnbx hnrw
                              go_wp2_with fail
                              refine region_mT (WS B0 vp7 wr) (by kernel_rfl) ?_
                              simp only [List.length_cons, List.length_nil, List.replicate]
                              refine take0T (v := ?v57) (oi := ?o57) 0 ?hi57 (by kernel_rfl) (by kernel_rfl) (by kernel_rfl) ?hq57 ?hy57 ?_
                              case hi57 => (simp only [List.getElem?_toArray, List.getElem?_cons_zero, List.getElem?_cons_succ]; rfl)
                              case hq57 => exact fun _ _ _ h => h
                              case hy57 => first | (refine ry_notS ?_; rfl) | (refine ry_runS (by rfl) (fun w' hw' => ?_); go_simp; try rfl)
                              simp only [Act.put, List.setIfInBounds_toArray, List.set_cons_zero, List.set_cons_succ]
                              refine take0T (v := ?v58) (oi := ?o58) 1 ?hi58 (by kernel_rfl) (by kernel_rfl) (by kernel_rfl) ?hq58 ?hy58 ?_
                              case hi58 => (simp only [List.getElem?_toArray, List.getElem?_cons_zero, List.getElem?_cons_succ]; rfl)
                              case hq58 => exact fun _ _ _ h => h
                              case hy58 => first | (refine ry_notS ?_; rfl) | (refine ry_runS (by rfl) (fun w' hw' => ?_); go_simp; try rfl)
                              simp only [Act.put, List.setIfInBounds_toArray, List.set_cons_zero, List.set_cons_succ]
                              refine take0T (v := ?v59) (oi := ?o59) 2 ?hi59 (by kernel_rfl) (by kernel_rfl) (by kernel_rfl) ?hq59 ?hy59 ?_
                              case hi59 => (simp only [List.getElem?_toArray, List.getElem?_cons_zero, List.getElem?_cons_succ]; rfl)
                              case hq59 => exact fun _ _ _ h => h
                              case hy59 => first | (refine ry_notS ?_; rfl) | (refine ry_runS (by rfl) (fun w' hw' => ?_); go_simp; try rfl)
                              simp only [Act.put, List.setIfInBounds_toArray, List.set_cons_zero, List.set_cons_succ]
                              refine take0T (v := ?v60) (oi := ?o60) 3 ?hi60 (by kernel_rfl) (by kernel_rfl) (by kernel_rfl) ?hq60 ?hy60 ?_
                              case hi60 => (simp only [List.getElem?_toArray, List.getElem?_cons_zero, List.getElem?_cons_succ]; rfl)
                              case hq60 => exact fun _ _ _ h => h
                              case hy60 => first | (refine ry_notS ?_; rfl) | (refine ry_runS (by rfl) (fun w' hw' => ?_); go_simp; try rfl)
                              simp only [Act.put, List.setIfInBounds_toArray, List.set_cons_zero, List.set_cons_succ]
                              refine take0T (v := ?v61) (oi := ?o61) 4 ?hi61 (by kernel_rfl) (by kernel_rfl) (by kernel_rfl) ?hq61 ?hy61 ?_
                              case hi61 => (simp only [List.getElem?_toArray, List.getElem?_cons_zero, List.getElem?_cons_succ]; rfl)
                              case hq61 => exact fun _ _ _ h => h
                              case hy61 => first | (refine ry_notS ?_; rfl) | (refine ry_runS (by rfl) (fun w' hw' => ?_); go_simp; try rfl)
                              simp only [Act.put, List.setIfInBounds_toArray, List.set_cons_zero, List.set_cons_succ]
                              refine take0T (v := ?v62) (oi := ?o62) 5 ?hi62 (by kernel_rfl) (by kernel_rfl) (by kernel_rfl) ?hq62 ?hy62 ?_
                              case hi62 => (simp only [List.getElem?_toArray, List.getElem?_cons_zero, List.getElem?_cons_succ]; rfl)
                              case hq62 => exact fun _ _ _ h => h
                              case hy62 => first | (refine ry_notS ?_; rfl) | (refine ry_runS (by rfl) (fun w' hw' => ?_); go_simp; try rfl)
                              simp only [Act.put, List.setIfInBounds_toArray, List.set_cons_zero, List.set_cons_succ]
                              refine take0T (v := ?v63) (oi := ?o63) 6 ?hi63 (by kernel_rfl) (by kernel_rfl) (by kernel_rfl) ?hq63 ?hy63 ?_
                              case hi63 => (simp only [List.getElem?_toArray, List.getElem?_cons_zero, List.getElem?_cons_succ]; rfl)
                              case hq63 => exact fun _ _ _ h => h
                              case hy63 => first | (refine ry_notS ?_; rfl) | (refine ry_runS (by rfl) (fun w' hw' => ?_); go_simp; try rfl)
                              simp only [Act.put, List.setIfInBounds_toArray, List.set_cons_zero, List.set_cons_succ]
                              refine take0T (v := ?v64) (oi := ?o64) 7 ?hi64 (by kernel_rfl) (by kernel_rfl) (by kernel_rfl) ?hq64 ?hy64 ?_
                              case hi64 => (simp only [List.getElem?_toArray, List.getElem?_cons_zero, List.getElem?_cons_succ]; rfl)
                              case hq64 => exact fun _ _ _ h => h
                              case hy64 => first | (refine ry_notS ?_; rfl) | (refine ry_runS (by rfl) (fun w' hw' => ?_); go_simp; try rfl)
                              simp only [Act.put, List.setIfInBounds_toArray, List.set_cons_zero, List.set_cons_succ]
                              refine take0T (v := ?v65) (oi := ?o65) 8 ?hi65 (by kernel_rfl) (by kernel_rfl) (by kernel_rfl) ?hq65 ?hy65 ?_
                              case hi65 => (simp only [List.getElem?_toArray, List.getElem?_cons_zero, List.getElem?_cons_succ]; rfl)
                              case hq65 => exact fun _ _ _ h => h
                              case hy65 => first | (refine ry_notS ?_; rfl) | (refine ry_runS (by rfl) (fun w' hw' => ?_); go_simp; try rfl)
                              simp only [Act.put, List.setIfInBounds_toArray, List.set_cons_zero, List.set_cons_succ]
                              refine step0T (o := ?o66) 9 (by kernel_rfl) ?hi66 ?hw66 ?_
                              case hi66 => (simp only [List.getElem?_toArray, List.getElem?_cons_zero, List.getElem?_cons_succ]; rfl)
                              case hw66 => rfl
                              go_simp
                              refine HCA.out.mono ?_
                              rintro e w12 ⟨rfl, va8, vd8, vp8, hwk8, hm8, hr8⟩
                              refine ⟨.inl hm8, ?_⟩
                              refine wpAnyT_done (by kernel_rfl) ?_
                              clear fv0 fv1 fv2 fv3
                              have hm8' : Mod (WS B0 vp7 wr) wr w12 := Mod.of_drew_l hm8
                              have hbx8 := HG.out.box.keep hm8' HNX.out
                              have hown8 := own_keep HG.out.own hm8' (fun g _ hg hs => by
                                rcases hs with h | h
                                · exact Ty.not (own_row HG.out.own hg) (by decide) h
                                · exact HAP.out g hg h)
                              have hnx : RcIs B0 bw A c objs L kids (x.ask p.id) b17 w8.heap.size (.slice (some ⟨bb, b5, none⟩) kids.length ck) vp w (j + 1) w12 := by
                                refine ⟨⟨va8, vd8, vp8, by rw [HSN.out]; exact hwk8, fun g hg hp => ?_, WS.trans HMM.out hm8' HRR.out, rowOf_trans HRR.out hr8 HMM.out.size⟩, hbx8, hown8⟩
                                rcases hr8 g hp with h | h
                                · exact HAP.out g hg h
                                · have := (HG.out.own.lt g hg).2; simp at h; omega
                              have HNXT := Lib.hid hnx
                              clear hnx hm8 hm8' hbx8 hown8 hwk8 hr8 c0 c1 z0 z2
                              go_wp2_with fail
                              go_roundw
                              case rel => exact ⟨j + 1, by go_num, by omega, HNXT⟩
                              case measure => simp [intOf]; omega
                            · have hjk : j = kids.length := by omega
                              have j1 : ¬ (j : Int) < (kids.length : Int) := by omega
                              obtain ⟨va7, vd7, vp7, hwk7, hap7, hmm7, hrr7⟩ := HG.out.ex
                              rw [hjk, List.take_length, HY4.out] at hwk7
                              have HWK := Lib.hid hwk7
                              have HMM := Lib.hid hmm7
                              have HRR := Lib.hid hrr7
                              clear hwk7 hap7 hmm7 hrr7
                              go_wp2_with fail
                              first | go_end0 | refine bodyPost_ret (results_none rfl _ _ _) rfl ?_
                              unfold GcPost
                              exact ⟨rfl, _, _, _, HWK.out, HMM.out, HRR.out⟩
                        · have b3 : (L == level) = false := by simpa using h4
                          have b4 : (L != level) = true := by simpa using h4
                          rw [if_neg (fun h => by rcases h.2.2 with h | h; omega; exact h4 h)] at hy
                          dsimp only at hy
                          clear h1 h4
                          subst hy
                          go_wp2_with fail
                          refine (fail_calls 101 (HW10.out)).mono ?_
                          rintro e w18 ⟨rfl, rfl⟩
                          have hsb := WkIs.setBad (HW10.out) 101
                          have HSB1 := Lib.hid hsb.1
                          have HSB2 := Lib.hid (WS.trans (HM10.out) hsb.2 (rowOf_same rfl))
                          clear hsb
                          go_wp2_with fail
                          first | go_end0 | refine bodyPost_ret (results_none rfl _ _ _) rfl ?_
                          unfold GcPost
                          exact ⟨rfl, _, _, _, HSB1.out, HSB2.out, rowOf_same rfl⟩
                    · have b1 : (z == p.size) = false := by simpa using h1
                      have b2 : (z != p.size) = true := by simpa using h1
                      rw [if_neg (fun h => h1 h.2.1)] at hy
                      dsimp only at hy
                      clear h1
                      subst hy
                      go_wp2_with fail
                      refine (fail_calls 101 (HW10.out)).mono ?_
                      rintro e w18 ⟨rfl, rfl⟩
                      have hsb := WkIs.setBad (HW10.out) 101
                      have HSB1 := Lib.hid hsb.1
                      have HSB2 := Lib.hid (WS.trans (HM10.out) hsb.2 (rowOf_same rfl))
                      clear hsb
                      go_wp2_with fail
                      first | go_end0 | refine bodyPost_ret (results_none rfl _ _ _) rfl ?_
                      unfold GcPost
                      exact ⟨rfl, _, _, _, HSB1.out, HSB2.out, rowOf_same rfl⟩
          · have HTL : Hid (nodeOf objs p level = if okFan b.data.toList = true ∧ ((outFan b.data.toList).2.map (·.size)).sum = p.size ∧ (level < 0 ∨ (outFan b.data.toList).1 = level) then Node.fan (outFan b.data.toList).1 (outFan b.data.toList).2 else Node.bad 101) := Lib.hid (by
              rw [hnx, if_neg (fun h => by have := h.2; omega), if_neg (fun h => by rw [hno] at h; cases h.1)])
            clear hnx hsx hS hno hc
            go_wp2_with fail
            clear h2
            refine (rTakeFan_calls b w8 hbs).mono ?_
            rintro e w9 ⟨v, rfl, hv, hm9⟩
            obtain ⟨hag1, hag2⟩ := fans_agree b.data.toList
            simp only [← hag1, ← hag2] at hv ⊢
            clear hag1 hag2
            have hof := outFan_facts b.data.toList
            obtain ⟨F, hF⟩ : ∃ F, okFan b.data.toList = F := ⟨_, rfl⟩
            obtain ⟨O, hO⟩ : ∃ O, outFan b.data.toList = O := ⟨_, rfl⟩
            obtain ⟨L, kids⟩ := O
            have hfl : nodeOf objs p level = .fan L kids → (level < 0 ∨ L = level) ∧ 1 ≤ L ∧ L ≤ 20 ∧ 1 ≤ kids.length ∧ kids.length ≤ 32 ∧ (kids.map (·.size)).sum = p.size ∧ (∀ k ∈ kids, 1 ≤ k.size ∧ k.size ≤ 262144 ∧ k.id.size = 32) := fan_level
            have hnd2 := HTL.out
            rw [hF, hO] at hnd2
            have hy := HYY.out
            rw [hnd2] at hy
            rw [hO] at hof hv
            simp only [hF, hO]
            dsimp only at hy hof hv hnd2 ⊢
            obtain ⟨Ak, ck, rfl, _, hck, _, _⟩ := own_cells hv
            have hm10 := hm9.alloc (.cells #[.int .i64 L, .slice Ak kids.length ck] 96)
            have hb17 := Has.new w9 [.int .i64 L, .slice Ak kids.length ck] 96
            have hv10 := hv.alloc (.cells #[.int .i64 L, .slice Ak kids.length ck] 96)
            have hW10 := HW8.out.keep0 hm10
            have hpb10 := HPB8.out.keep hm10 (fun h => h)
            have hM10 := Mod.trans HM8.out hm10 (fun _ _ h => h.elim)
            have hck10 := hck.alloc (.cells #[.int .i64 L, .slice Ak kids.length ck] 96)
            have hz9 := hm9.size
            obtain ⟨b17, hb17e⟩ : ∃ b17, w9.heap.size = b17 := ⟨_, rfl⟩
            rw [hb17e] at hb17
            have c0 := hb17.cell (o := 0) rfl
            have c1 := hb17.cell (o := 1) rfl
            have z1 := hpb10.cell (o := 1) rfl
            have HOF := Lib.hid hof
            have HFL := Lib.hid hfl
            have HND := Lib.hid hnd2
            have HY3 := Lib.hid hy
            have HV10 := Lib.hid hv10
            have HCK := Lib.hid hck10
            have HW10 := Lib.hid hW10
            have HPB10 := Lib.hid hpb10
            have HM10 := Lib.hid hM10
            have HB17 := Lib.hid hb17
            have hkl : kids.length ≤ 32 := hof.1
            clear hof hfl hnd2 hy hv10 hck10 hW10 hpb10 hM10 hb17 hm9 hm10 hv hck hF hO z0 HYY HW8 HPB8 HM8 HTL
            go_wp2_with fail
            try simp only [hb17e]
            obtain ⟨w10, hw10⟩ : ∃ w10, w9.alloc (.cells #[.int .i64 L, .slice Ak kids.length ck] 96) = w10 := ⟨_, rfl⟩
            rw [hw10] at c0 c1 z1 HV10 HCK HW10 HPB10 HM10 HB17
            rw [hw10]
            clear hw10 hb17e
            go_loopw [10, 11] (fun sm i wr => ∃ (j : Nat) (z : Int), i = .int .i64 j ∧ sm = .int .i64 z ∧ j ≤ kids.length ∧ Hid (z = sizes (kids.take j)) ∧ wr = w10) (fun _ i _ => kids.length - (intOf i).toNat)
            case atStart => exact ⟨0, 0, by go_num, rfl, by omega, Lib.hid (by simp [sizes]), rfl⟩
            case round =>
              obtain ⟨j, z, rfl, rfl, hj, HZ, rfl⟩ := hrel
              by_cases hjl : j < kids.length
              · have j1 : (j : Int) < (kids.length : Int) := by omega
                have j0 : (0 : Int) ≤ (j : Int) := by omega
                rcases HCK.out with h | ⟨bb, b5, rfl, hc5⟩
                · have := flat_len pc_len kids; rw [h] at this; simp at this; omega
                have z0 := hc5 _ _ (flat_get pc_len kids j 0 hjl (by omega))
                have z2 := hc5 _ _ (flat_get pc_len kids j 1 hjl (by omega))
                rw [Nat.add_zero] at z0
                rw [← Nat.add_assoc] at z2
                have hst := sizes_snoc hjl
                rw [← HZ.out] at hst
                have hs0 := sizes_take HOF.out.2 j
                have hs1 := sizes_take HOF.out.2 (j + 1)
                rw [hst] at hs1
                rw [← HZ.out] at hs0
                obtain ⟨k, hk⟩ : ∃ k, kids[j] = k := ⟨_, rfl⟩
                rw [hk] at z0 z2 hst hs1
                have HST := Lib.hid hst
                clear hc5 hst hk
                go_wp2_with fail
                go_roundw
                case rel => exact ⟨j + 1, z + k.size, by go_num, rfl, by omega, Lib.hid HST.out.symm, trivial⟩
                case measure => simp [intOf]; omega
              · have hjk : j = kids.length := by omega
                have j1 : ¬ (j : Int) < (kids.length : Int) := by omega
                have hz := HZ.out
                rw [hjk, List.take_length] at hz
                have hy := HY3.out
                have hnd3 := HND.out
                have hszk : sizes kids = (kids.map (·.size)).sum := rfl
                rw [← hszk, ← hz] at hy hnd3
                clear hszk hz HZ
                cases F with
                | false =>
                  rw [if_neg (fun h => by cases h.1)] at hy
                  dsimp only at hy
                  simp only [show errV false = Value.int .i64 81 from rfl]
                  subst hy
                  go_wp2_with fail
                  refine (fail_calls 101 (HW10.out)).mono ?_
                  rintro e w18 ⟨rfl, rfl⟩
                  have hsb := WkIs.setBad (HW10.out) 101
                  have HSB1 := Lib.hid hsb.1
                  have HSB2 := Lib.hid (WS.trans (HM10.out) hsb.2 (rowOf_same rfl))
                  clear hsb
                  go_wp2_with fail
                  first | go_end0 | refine bodyPost_ret (results_none rfl _ _ _) rfl ?_
                  unfold GcPost
                  exact ⟨rfl, _, _, _, HSB1.out, HSB2.out, rowOf_same rfl⟩
                | true =>
                  simp only [show errV true = Value.int .i64 0 from rfl]
                  by_cases h1 : z = p.size
                  · have b1 : (z == p.size) = true := by simpa using h1
                    have b2 : (z != p.size) = false := by simpa using h1
                    by_cases h2 : level < 0
                    · have h3 : ¬ 0 ≤ level := by omega
                      rw [if_pos ⟨rfl, h1, .inl h2⟩] at hy hnd3
                      clear h1
                      have hfl := HFL.out hnd3
                      have hr0 : RcIs B0 bw A c objs L kids (x.ask p.id) b17 w8.heap.size (.slice Ak kids.length ck) vp w 0 wr :=
                        ⟨⟨_, _, _, by show WkIs _ _ _ _ _ _ _ _ _ _ _ x.bad _; rw [hb0]; exact HW10.out, fun g hg hp => by have := (HV10.out.lt g hg).1; have := HVP.out g hp; omega, HM10.out, rowOf_same rfl⟩, HB17.out, HV10.out⟩
                      have HR0 := Lib.hid hr0
                      have hL1 : 1 ≤ L := hfl.2.1
                      have hL2 : L ≤ 20 := hfl.2.2.1
                      have HFL2 := Lib.hid hfl
                      have hy2 : chkF objs (L - 1).toNat kids (x.ask p.id) = Y := hy
                      have HY4 := Lib.hid hy2
                      clear hr0 hfl hy hy2 hnd3 HFL HND HY3 HCK HW10
                      go_wp2_with fail
                      go_loopw [12] (fun i wr => ∃ (j : Nat), i = .int .i64 j ∧ j ≤ kids.length ∧ Hid (RcIs B0 bw A c objs L kids (x.ask p.id) b17 w8.heap.size (.slice Ak kids.length ck) vp w j wr)) (fun i _ => kids.length - (intOf i).toNat)
                      case atStart => exact ⟨0, by go_num, by omega, HR0⟩
                      case round =>
                        obtain ⟨j, rfl, hj, HG⟩ := hrel
                        have c0 := HG.out.box.cell (o := 0) rfl
                        have c1 := HG.out.box.cell (o := 1) rfl
                        by_cases hjl : j < kids.length
                        · have j1 : (j : Int) < (kids.length : Int) := by omega
                          have j0 : (0 : Int) ≤ (j : Int) := by omega
                          obtain ⟨A2, c2, he, _, hck, _, _⟩ := own_cells HG.out.own
                          obtain ⟨rfl, rfl⟩ : Ak = A2 ∧ ck = c2 := by simpa using he
                          clear he
                          rcases hck with h | ⟨bb, b5, rfl, hc5⟩
                          · have := flat_len pc_len kids; rw [h] at this; simp at this; omega
                          have z0 := hc5 _ _ (flat_get pc_len kids j 0 hjl (by omega))
                          have z2 := hc5 _ _ (flat_get pc_len kids j 1 hjl (by omega))
                          rw [Nat.add_zero] at z0
                          rw [← Nat.add_assoc] at z2
                          obtain ⟨va7, vd7, vp7, hwk7, hap7, hmm7, hrr7⟩ := HG.out.ex
                          have hnum := cnums_next (objs := objs) HN.out hjl ⟨HFL2.out.1, hL1, hL2⟩ HFL2.out.2.2.2.2.2.1 HFL2.out.2.2.2.2.2.2
                          have hsn : chkF objs (L - 1).toNat (kids.take (j + 1)) (x.ask p.id) = chkS objs (L - 1).toNat kids[j] (chkF objs (L - 1).toNat (kids.take j) (x.ask p.id)) := by
                            rw [List.take_succ_eq_append_getElem hjl, chkF_snoc]
                          have HCA := Lib.hid (HIH.out L hL1 hL2 HFL2.out.1 _ _ _ _ _ wr.drew hnum (hwk7.keep0 ((Mod.refl (fun _ => False) wr).drew)))
                          unfold GcPost at HCA
                          have hps := hnum.1
                          have hnbx : ¬ WS B0 vp7 wr b17 := by
                            rintro (h | h)
                            · exact Ty.not (Has.row HG.out.box) (by decide) h
                            · exact box_ne HG.out.box hwk7.op (by decide) h rfl
                          have hnrw : ¬ WS B0 vp7 wr bb := by
                            rintro (h | h)
                            · exact Ty.not (own_row HG.out.own (k := bb) (own_blk HG.out.own z0)) (by decide) h
                            · exact hap7 bb (own_blk HG.out.own z0) h
                          have hbl := World.block_lt_of_cell? _ _ z0
                          have fv0 := fun (w' : World) (mm : Mod (WS B0 vp7 wr) wr.drew w') => (mm.cell (p := ⟨b17, 0, none⟩) HG.out.box.lt hnbx).trans c0
                          have fv1 := fun (w' : World) (mm : Mod (WS B0 vp7 wr) wr.drew w') => (mm.cell (p := ⟨b17, 1, none⟩) HG.out.box.lt hnbx).trans c1
                          have fv2 := fun (w' : World) (mm : Mod (WS B0 vp7 wr) wr.drew w') => (mm.cell (p := ⟨bb, b5 + j * 2, none⟩) hbl hnrw).trans z0
                          have fv3 := fun (w' : World) (mm : Mod (WS B0 vp7 wr) wr.drew w') => (mm.cell (p := ⟨bb, b5 + j * 2 + 1, none⟩) hbl hnrw).trans z2
                          have HSN := Lib.hid hsn
                          have HNX := Lib.hid hnbx
                          have HNR := Lib.hid hnrw
                          have HAP := Lib.hid hap7
                          have HMM := Lib.hid hmm7
                          have HRR := Lib.hid hrr7
                          generalize kids[j] = k at *
                          have hw1 : IntKind.i64.wrap (L - 1) = L - 1 := by rw [IntKind.wrap_i64]; omega
                          clear hnum hsn hc5 hwk7 hap7 hmm7 hrr7 hnbx hnrw
                          go_wp2_with fail
                          refine region_mT (WS B0 vp7 wr) (by kernel_rfl) ?_
                          simp only [List.length_cons, List.length_nil, List.replicate]
                          refine take0T (v := ?v67) (oi := ?o67) 0 ?hi67 (by kernel_rfl) (by kernel_rfl) (by kernel_rfl) ?hq67 ?hy67 ?_
                          case hi67 => (simp only [List.getElem?_toArray, List.getElem?_cons_zero, List.getElem?_cons_succ]; rfl)
                          case hq67 => exact fun _ _ _ h => h
                          case hy67 => first | (refine ry_notS ?_; rfl) | (refine ry_runS (by rfl) (fun w' hw' => ?_); go_simp; try rfl)
                          simp only [Act.put, List.setIfInBounds_toArray, List.set_cons_zero, List.set_cons_succ]
                          refine take0T (v := ?v68) (oi := ?o68) 1 ?hi68 (by kernel_rfl) (by kernel_rfl) (by kernel_rfl) ?hq68 ?hy68 ?_
                          case hi68 => (simp only [List.getElem?_toArray, List.getElem?_cons_zero, List.getElem?_cons_succ]; rfl)
                          case hq68 => exact fun _ _ _ h => h
                          case hy68 => first | (refine ry_notS ?_; rfl) | (refine ry_runS (by rfl) (fun w' hw' => ?_); go_simp; try rfl)
                          simp only [Act.put, List.setIfInBounds_toArray, List.set_cons_zero, List.set_cons_succ]
                          refine take0T (v := ?v69) (oi := ?o69) 2 ?hi69 (by kernel_rfl) (by kernel_rfl) (by kernel_rfl) ?hq69 ?hy69 ?_
                          case hi69 => (simp only [List.getElem?_toArray, List.getElem?_cons_zero, List.getElem?_cons_succ]; rfl)
                          case hq69 => exact fun _ _ _ h => h
                          case hy69 => first | (refine ry_notS ?_; rfl) | (refine ry_runS (by rfl) (fun w' hw' => ?_); go_simp; try rfl)
                          simp only [Act.put, List.setIfInBounds_toArray, List.set_cons_zero, List.set_cons_succ]
                          refine take0T (v := ?v70) (oi := ?o70) 3 ?hi70 (by kernel_rfl) (by kernel_rfl) (by kernel_rfl) ?hq70 ?hy70 ?_
                          case hi70 => (simp only [List.getElem?_toArray, List.getElem?_cons_zero, List.getElem?_cons_succ]; rfl)
                          case hq70 => exact fun _ _ _ h => h
                          case hy70 => first | (refine ry_notS ?_; rfl) | (refine ry_runS (by rfl) (fun w' hw' => ?_); go_simp; try rfl)
                          simp only [Act.put, List.setIfInBounds_toArray, List.set_cons_zero, List.set_cons_succ]
                          refine take0T (v := ?v71) (oi := ?o71) 4 ?hi71 (by kernel_rfl) (by kernel_rfl) (by kernel_rfl) ?hq71 ?hy71 ?_
                          case hi71 => (simp only [List.getElem?_toArray, List.getElem?_cons_zero, List.getElem?_cons_succ]; rfl)
                          case hq71 => exact fun _ _ _ h => h
                          case hy71 => first | (refine ry_notS ?_; rfl) | (refine ry_runS (by rfl) (fun w' hw' => ?_); go_simp; try rfl)
                          simp only [Act.put, List.setIfInBounds_toArray, List.set_cons_zero, List.set_cons_succ]
                          refine take0T (v := ?v72) (oi := ?o72) 5 ?hi72 (by kernel_rfl) (by kernel_rfl) (by kernel_rfl) ?hq72 ?hy72 ?_
                          case hi72 => (simp only [List.getElem?_toArray, List.getElem?_cons_zero, List.getElem?_cons_succ]; rfl)
                          case hq72 => exact fun _ _ _ h => h
                          case hy72 => first | (refine ry_notS ?_; rfl) | (refine ry_runS (by rfl) (fun w' hw' => ?_); go_simp; try rfl)
                          simp only [Act.put, List.setIfInBounds_toArray, List.set_cons_zero, List.set_cons_succ]
                          refine take0T (v := ?v73) (oi := ?o73) 6 ?hi73 (by kernel_rfl) (by kernel_rfl) (by kernel_rfl) ?hq73 ?hy73 ?_
                          case hi73 => (simp only [List.getElem?_toArray, List.getElem?_cons_zero, List.getElem?_cons_succ]; rfl)
                          case hq73 => exact fun _ _ _ h => h
                          case hy73 => first | (refine ry_notS ?_; rfl) | (refine ry_runS (by rfl) (fun w' hw' => ?_); go_simp; try rfl)
                          simp only [Act.put, List.setIfInBounds_toArray, List.set_cons_zero, List.set_cons_succ]
                          refine take0T (v := ?v74) (oi := ?o74) 7 ?hi74 (by kernel_rfl) (by kernel_rfl) (by kernel_rfl) ?hq74 ?hy74 ?_
                          case hi74 => (simp only [List.getElem?_toArray, List.getElem?_cons_zero, List.getElem?_cons_succ]; rfl)
                          case hq74 => exact fun _ _ _ h => h
                          case hy74 => first | (refine ry_notS ?_; rfl) | (refine ry_runS (by rfl) (fun w' hw' => ?_); go_simp; try rfl)
                          simp only [Act.put, List.setIfInBounds_toArray, List.set_cons_zero, List.set_cons_succ]
                          refine take0T (v := ?v75) (oi := ?o75) 8 ?hi75 (by kernel_rfl) (by kernel_rfl) (by kernel_rfl) ?hq75 ?hy75 ?_
                          case hi75 => (simp only [List.getElem?_toArray, List.getElem?_cons_zero, List.getElem?_cons_succ]; rfl)
                          case hq75 => exact fun _ _ _ h => h
                          case hy75 => first | (refine ry_notS ?_; rfl) | (refine ry_runS (by rfl) (fun w' hw' => ?_); go_simp; try rfl)
                          simp only [Act.put, List.setIfInBounds_toArray, List.set_cons_zero, List.set_cons_succ]
                          refine step0T (o := ?o76) 9 (by kernel_rfl) ?hi76 ?hw76 ?_
                          case hi76 => (simp only [List.getElem?_toArray, List.getElem?_cons_zero, List.getElem?_cons_succ]; rfl)
                          case hw76 => rfl
                          go_simp
                          refine HCA.out.mono ?_
                          rintro e w12 ⟨rfl, va8, vd8, vp8, hwk8, hm8, hr8⟩
                          refine ⟨.inl hm8, ?_⟩
                          refine wpAnyT_done (by kernel_rfl) ?_
                          clear fv0 fv1 fv2 fv3
                          have hm8' : Mod (WS B0 vp7 wr) wr w12 := Mod.of_drew_l hm8
                          have hbx8 := HG.out.box.keep hm8' HNX.out
                          have hown8 := own_keep HG.out.own hm8' (fun g _ hg hs => by
                            rcases hs with h | h
                            · exact Ty.not (own_row HG.out.own hg) (by decide) h
                            · exact HAP.out g hg h)
                          have hnx : RcIs B0 bw A c objs L kids (x.ask p.id) b17 w8.heap.size (.slice (some ⟨bb, b5, none⟩) kids.length ck) vp w (j + 1) w12 := by
                            refine ⟨⟨va8, vd8, vp8, by rw [HSN.out]; exact hwk8, fun g hg hp => ?_, WS.trans HMM.out hm8' HRR.out, rowOf_trans HRR.out hr8 HMM.out.size⟩, hbx8, hown8⟩
                            rcases hr8 g hp with h | h
                            · exact HAP.out g hg h
                            · have := (HG.out.own.lt g hg).2; simp at h; omega
                          have HNXT := Lib.hid hnx
                          clear hnx hm8 hm8' hbx8 hown8 hwk8 hr8 c0 c1 z0 z2
                          go_wp2_with fail
                          go_roundw
                          case rel => exact ⟨j + 1, by go_num, by omega, HNXT⟩
                          case measure => simp [intOf]; omega
                        · have hjk : j = kids.length := by omega
                          have j1 : ¬ (j : Int) < (kids.length : Int) := by omega
                          obtain ⟨va7, vd7, vp7, hwk7, hap7, hmm7, hrr7⟩ := HG.out.ex
                          rw [hjk, List.take_length, HY4.out] at hwk7
                          have HWK := Lib.hid hwk7
                          have HMM := Lib.hid hmm7
                          have HRR := Lib.hid hrr7
                          clear hwk7 hap7 hmm7 hrr7
                          go_wp2_with fail
                          first | go_end0 | refine bodyPost_ret (results_none rfl _ _ _) rfl ?_
                          unfold GcPost
                          exact ⟨rfl, _, _, _, HWK.out, HMM.out, HRR.out⟩
                    · have h3 : 0 ≤ level := by omega
                      by_cases h4 : L = level
                      · have b3 : (L == level) = true := by simpa using h4
                        have b4 : (L != level) = false := by simpa using h4
                        rw [if_pos ⟨rfl, h1, .inr h4⟩] at hy hnd3
                        clear h1 h4
                        have hfl := HFL.out hnd3
                        have hr0 : RcIs B0 bw A c objs L kids (x.ask p.id) b17 w8.heap.size (.slice Ak kids.length ck) vp w 0 wr :=
                          ⟨⟨_, _, _, by show WkIs _ _ _ _ _ _ _ _ _ _ _ x.bad _; rw [hb0]; exact HW10.out, fun g hg hp => by have := (HV10.out.lt g hg).1; have := HVP.out g hp; omega, HM10.out, rowOf_same rfl⟩, HB17.out, HV10.out⟩
                        have HR0 := Lib.hid hr0
                        have hL1 : 1 ≤ L := hfl.2.1
                        have hL2 : L ≤ 20 := hfl.2.2.1
                        have HFL2 := Lib.hid hfl
                        have hy2 : chkF objs (L - 1).toNat kids (x.ask p.id) = Y := hy
                        have HY4 := Lib.hid hy2
                        clear hr0 hfl hy hy2 hnd3 HFL HND HY3 HCK HW10
                        go_wp2_with fail
                        go_loopw [12] (fun i wr => ∃ (j : Nat), i = .int .i64 j ∧ j ≤ kids.length ∧ Hid (RcIs B0 bw A c objs L kids (x.ask p.id) b17 w8.heap.size (.slice Ak kids.length ck) vp w j wr)) (fun i _ => kids.length - (intOf i).toNat)
                        case atStart => exact ⟨0, by go_num, by omega, HR0⟩
                        case round =>
                          obtain ⟨j, rfl, hj, HG⟩ := hrel
                          have c0 := HG.out.box.cell (o := 0) rfl
                          have c1 := HG.out.box.cell (o := 1) rfl
                          by_cases hjl : j < kids.length
                          · have j1 : (j : Int) < (kids.length : Int) := by omega
                            have j0 : (0 : Int) ≤ (j : Int) := by omega
                            obtain ⟨A2, c2, he, _, hck, _, _⟩ := own_cells HG.out.own
                            obtain ⟨rfl, rfl⟩ : Ak = A2 ∧ ck = c2 := by simpa using he
                            clear he
                            rcases hck with h | ⟨bb, b5, rfl, hc5⟩
                            · have := flat_len pc_len kids; rw [h] at this; simp at this; omega
                            have z0 := hc5 _ _ (flat_get pc_len kids j 0 hjl (by omega))
                            have z2 := hc5 _ _ (flat_get pc_len kids j 1 hjl (by omega))
                            rw [Nat.add_zero] at z0
                            rw [← Nat.add_assoc] at z2
                            obtain ⟨va7, vd7, vp7, hwk7, hap7, hmm7, hrr7⟩ := HG.out.ex
                            have hnum := cnums_next (objs := objs) HN.out hjl ⟨HFL2.out.1, hL1, hL2⟩ HFL2.out.2.2.2.2.2.1 HFL2.out.2.2.2.2.2.2
                            have hsn : chkF objs (L - 1).toNat (kids.take (j + 1)) (x.ask p.id) = chkS objs (L - 1).toNat kids[j] (chkF objs (L - 1).toNat (kids.take j) (x.ask p.id)) := by
                              rw [List.take_succ_eq_append_getElem hjl, chkF_snoc]
                            have HCA := Lib.hid (HIH.out L hL1 hL2 HFL2.out.1 _ _ _ _ _ wr.drew hnum (hwk7.keep0 ((Mod.refl (fun _ => False) wr).drew)))
                            unfold GcPost at HCA
                            have hps := hnum.1
                            have hnbx : ¬ WS B0 vp7 wr b17 := by
                              rintro (h | h)
                              · exact Ty.not (Has.row HG.out.box) (by decide) h
                              · exact box_ne HG.out.box hwk7.op (by decide) h rfl
                            have hnrw : ¬ WS B0 vp7 wr bb := by
                              rintro (h | h)
                              · exact Ty.not (own_row HG.out.own (k := bb) (own_blk HG.out.own z0)) (by decide) h
                              · exact hap7 bb (own_blk HG.out.own z0) h
                            have hbl := World.block_lt_of_cell? _ _ z0
                            have fv0 := fun (w' : World) (mm : Mod (WS B0 vp7 wr) wr.drew w') => (mm.cell (p := ⟨b17, 0, none⟩) HG.out.box.lt hnbx).trans c0
                            have fv1 := fun (w' : World) (mm : Mod (WS B0 vp7 wr) wr.drew w') => (mm.cell (p := ⟨b17, 1, none⟩) HG.out.box.lt hnbx).trans c1
                            have fv2 := fun (w' : World) (mm : Mod (WS B0 vp7 wr) wr.drew w') => (mm.cell (p := ⟨bb, b5 + j * 2, none⟩) hbl hnrw).trans z0
                            have fv3 := fun (w' : World) (mm : Mod (WS B0 vp7 wr) wr.drew w') => (mm.cell (p := ⟨bb, b5 + j * 2 + 1, none⟩) hbl hnrw).trans z2
                            have HSN := Lib.hid hsn
                            have HNX := Lib.hid hnbx
                            have HNR := Lib.hid hnrw
                            have HAP := Lib.hid hap7
                            have HMM := Lib.hid hmm7
                            have HRR := Lib.hid hrr7
                            generalize kids[j] = k at *
                            have hw1 : IntKind.i64.wrap (L - 1) = L - 1 := by rw [IntKind.wrap_i64]; omega
                            clear hnum hsn hc5 hwk7 hap7 hmm7 hrr7 hnbx hnrw
                            go_wp2_with fail
                            refine region_mT (WS B0 vp7 wr) (by kernel_rfl) ?_
                            simp only [List.length_cons, List.length_nil, List.replicate]
                            refine take0T (v := ?v77) (oi := ?o77) 0 ?hi77 (by kernel_rfl) (by kernel_rfl) (by kernel_rfl) ?hq77 ?hy77 ?_
                            case hi77 => (simp only [List.getElem?_toArray, List.getElem?_cons_zero, List.getElem?_cons_succ]; rfl)
                            case hq77 => exact fun _ _ _ h => h
                            case hy77 => first | (refine ry_notS ?_; rfl) | (refine ry_runS (by rfl) (fun w' hw' => ?_); go_simp; try rfl)
                            simp only [Act.put, List.setIfInBounds_toArray, List.set_cons_zero, List.set_cons_succ]
                            refine take0T (v := ?v78) (oi := ?o78) 1 ?hi78 (by kernel_rfl) (by kernel_rfl) (by kernel_rfl) ?hq78 ?hy78 ?_
                            case hi78 => (simp only [List.getElem?_toArray, List.getElem?_cons_zero, List.getElem?_cons_succ]; rfl)
                            case hq78 => exact fun _ _ _ h => h
                            case hy78 => first | (refine ry_notS ?_; rfl) | (refine ry_runS (by rfl) (fun w' hw' => ?_); go_simp; try rfl)
                            simp only [Act.put, List.setIfInBounds_toArray, List.set_cons_zero, List.set_cons_succ]
                            refine take0T (v := ?v79) (oi := ?o79) 2 ?hi79 (by kernel_rfl) (by kernel_rfl) (by kernel_rfl) ?hq79 ?hy79 ?_
                            case hi79 => (simp only [List.getElem?_toArray, List.getElem?_cons_zero, List.getElem?_cons_succ]; rfl)
                            case hq79 => exact fun _ _ _ h => h
                            case hy79 => first | (refine ry_notS ?_; rfl) | (refine ry_runS (by rfl) (fun w' hw' => ?_); go_simp; try rfl)
                            simp only [Act.put, List.setIfInBounds_toArray, List.set_cons_zero, List.set_cons_succ]
                            refine take0T (v := ?v80) (oi := ?o80) 3 ?hi80 (by kernel_rfl) (by kernel_rfl) (by kernel_rfl) ?hq80 ?hy80 ?_
                            case hi80 => (simp only [List.getElem?_toArray, List.getElem?_cons_zero, List.getElem?_cons_succ]; rfl)
                            case hq80 => exact fun _ _ _ h => h
                            case hy80 => first | (refine ry_notS ?_; rfl) | (refine ry_runS (by rfl) (fun w' hw' => ?_); go_simp; try rfl)
                            simp only [Act.put, List.setIfInBounds_toArray, List.set_cons_zero, List.set_cons_succ]
                            refine take0T (v := ?v81) (oi := ?o81) 4 ?hi81 (by kernel_rfl) (by kernel_rfl) (by kernel_rfl) ?hq81 ?hy81 ?_
                            case hi81 => (simp only [List.getElem?_toArray, List.getElem?_cons_zero, List.getElem?_cons_succ]; rfl)
                            case hq81 => exact fun _ _ _ h => h
                            case hy81 => first | (refine ry_notS ?_; rfl) | (refine ry_runS (by rfl) (fun w' hw' => ?_); go_simp; try rfl)
                            simp only [Act.put, List.setIfInBounds_toArray, List.set_cons_zero, List.set_cons_succ]
                            refine take0T (v := ?v82) (oi := ?o82) 5 ?hi82 (by kernel_rfl) (by kernel_rfl) (by kernel_rfl) ?hq82 ?hy82 ?_
                            case hi82 => (simp only [List.getElem?_toArray, List.getElem?_cons_zero, List.getElem?_cons_succ]; rfl)
                            case hq82 => exact fun _ _ _ h => h
                            case hy82 => first | (refine ry_notS ?_; rfl) | (refine ry_runS (by rfl) (fun w' hw' => ?_); go_simp; try rfl)
                            simp only [Act.put, List.setIfInBounds_toArray, List.set_cons_zero, List.set_cons_succ]
                            refine take0T (v := ?v83) (oi := ?o83) 6 ?hi83 (by kernel_rfl) (by kernel_rfl) (by kernel_rfl) ?hq83 ?hy83 ?_
                            case hi83 => (simp only [List.getElem?_toArray, List.getElem?_cons_zero, List.getElem?_cons_succ]; rfl)
                            case hq83 => exact fun _ _ _ h => h
                            case hy83 => first | (refine ry_notS ?_; rfl) | (refine ry_runS (by rfl) (fun w' hw' => ?_); go_simp; try rfl)
                            simp only [Act.put, List.setIfInBounds_toArray, List.set_cons_zero, List.set_cons_succ]
                            refine take0T (v := ?v84) (oi := ?o84) 7 ?hi84 (by kernel_rfl) (by kernel_rfl) (by kernel_rfl) ?hq84 ?hy84 ?_
                            case hi84 => (simp only [List.getElem?_toArray, List.getElem?_cons_zero, List.getElem?_cons_succ]; rfl)
                            case hq84 => exact fun _ _ _ h => h
                            case hy84 => first | (refine ry_notS ?_; rfl) | (refine ry_runS (by rfl) (fun w' hw' => ?_); go_simp; try rfl)
                            simp only [Act.put, List.setIfInBounds_toArray, List.set_cons_zero, List.set_cons_succ]
                            refine take0T (v := ?v85) (oi := ?o85) 8 ?hi85 (by kernel_rfl) (by kernel_rfl) (by kernel_rfl) ?hq85 ?hy85 ?_
                            case hi85 => (simp only [List.getElem?_toArray, List.getElem?_cons_zero, List.getElem?_cons_succ]; rfl)
                            case hq85 => exact fun _ _ _ h => h
                            case hy85 => first | (refine ry_notS ?_; rfl) | (refine ry_runS (by rfl) (fun w' hw' => ?_); go_simp; try rfl)
                            simp only [Act.put, List.setIfInBounds_toArray, List.set_cons_zero, List.set_cons_succ]
                            refine step0T (o := ?o86) 9 (by kernel_rfl) ?hi86 ?hw86 ?_
                            case hi86 => (simp only [List.getElem?_toArray, List.getElem?_cons_zero, List.getElem?_cons_succ]; rfl)
                            case hw86 => rfl
                            go_simp
                            refine HCA.out.mono ?_
                            rintro e w12 ⟨rfl, va8, vd8, vp8, hwk8, hm8, hr8⟩
                            refine ⟨.inl hm8, ?_⟩
                            refine wpAnyT_done (by kernel_rfl) ?_
                            clear fv0 fv1 fv2 fv3
                            have hm8' : Mod (WS B0 vp7 wr) wr w12 := Mod.of_drew_l hm8
                            have hbx8 := HG.out.box.keep hm8' HNX.out
                            have hown8 := own_keep HG.out.own hm8' (fun g _ hg hs => by
                              rcases hs with h | h
                              · exact Ty.not (own_row HG.out.own hg) (by decide) h
                              · exact HAP.out g hg h)
                            have hnx : RcIs B0 bw A c objs L kids (x.ask p.id) b17 w8.heap.size (.slice (some ⟨bb, b5, none⟩) kids.length ck) vp w (j + 1) w12 := by
                              refine ⟨⟨va8, vd8, vp8, by rw [HSN.out]; exact hwk8, fun g hg hp => ?_, WS.trans HMM.out hm8' HRR.out, rowOf_trans HRR.out hr8 HMM.out.size⟩, hbx8, hown8⟩
                              rcases hr8 g hp with h | h
                              · exact HAP.out g hg h
                              · have := (HG.out.own.lt g hg).2; simp at h; omega
                            have HNXT := Lib.hid hnx
                            clear hnx hm8 hm8' hbx8 hown8 hwk8 hr8 c0 c1 z0 z2
                            go_wp2_with fail
                            go_roundw
                            case rel => exact ⟨j + 1, by go_num, by omega, HNXT⟩
                            case measure => simp [intOf]; omega
                          · have hjk : j = kids.length := by omega
                            have j1 : ¬ (j : Int) < (kids.length : Int) := by omega
                            obtain ⟨va7, vd7, vp7, hwk7, hap7, hmm7, hrr7⟩ := HG.out.ex
                            rw [hjk, List.take_length, HY4.out] at hwk7
                            have HWK := Lib.hid hwk7
                            have HMM := Lib.hid hmm7
                            have HRR := Lib.hid hrr7
                            clear hwk7 hap7 hmm7 hrr7
                            go_wp2_with fail
                            first | go_end0 | refine bodyPost_ret (results_none rfl _ _ _) rfl ?_
                            unfold GcPost
                            exact ⟨rfl, _, _, _, HWK.out, HMM.out, HRR.out⟩
                      · have b3 : (L == level) = false := by simpa using h4
                        have b4 : (L != level) = true := by simpa using h4
                        rw [if_neg (fun h => by rcases h.2.2 with h | h; omega; exact h4 h)] at hy
                        dsimp only at hy
                        clear h1 h4
                        subst hy
                        go_wp2_with fail
                        refine (fail_calls 101 (HW10.out)).mono ?_
                        rintro e w18 ⟨rfl, rfl⟩
                        have hsb := WkIs.setBad (HW10.out) 101
                        have HSB1 := Lib.hid hsb.1
                        have HSB2 := Lib.hid (WS.trans (HM10.out) hsb.2 (rowOf_same rfl))
                        clear hsb
                        go_wp2_with fail
                        first | go_end0 | refine bodyPost_ret (results_none rfl _ _ _) rfl ?_
                        unfold GcPost
                        exact ⟨rfl, _, _, _, HSB1.out, HSB2.out, rowOf_same rfl⟩
                  · have b1 : (z == p.size) = false := by simpa using h1
                    have b2 : (z != p.size) = true := by simpa using h1
                    rw [if_neg (fun h => h1 h.2.1)] at hy
                    dsimp only at hy
                    clear h1
                    subst hy
                    go_wp2_with fail
                    refine (fail_calls 101 (HW10.out)).mono ?_
                    rintro e w18 ⟨rfl, rfl⟩
                    have hsb := WkIs.setBad (HW10.out) 101
                    have HSB1 := Lib.hid hsb.1
                    have HSB2 := Lib.hid (WS.trans (HM10.out) hsb.2 (rowOf_same rfl))
                    clear hsb
                    go_wp2_with fail
                    first | go_end0 | refine bodyPost_ret (results_none rfl _ _ _) rfl ?_
                    unfold GcPost
                    exact ⟨rfl, _, _, _, HSB1.out, HSB2.out, rowOf_same rfl⟩
        | false =>
          have HTL : Hid (nodeOf objs p level = if okFan b.data.toList = true ∧ ((outFan b.data.toList).2.map (·.size)).sum = p.size ∧ (level < 0 ∨ (outFan b.data.toList).1 = level) then Node.fan (outFan b.data.toList).1 (outFan b.data.toList).2 else Node.bad 101) := Lib.hid (by
            rw [HNB.out]; unfold nodeB; rw [if_neg (by rw [hc]; decide)])
          simp only [if_false, Bool.false_eq_true]
          clear hc
          go_wp2_with fail
          refine (rTakeFan_calls b w8 hbs).mono ?_
          rintro e w9 ⟨v, rfl, hv, hm9⟩
          obtain ⟨hag1, hag2⟩ := fans_agree b.data.toList
          simp only [← hag1, ← hag2] at hv ⊢
          clear hag1 hag2
          have hof := outFan_facts b.data.toList
          obtain ⟨F, hF⟩ : ∃ F, okFan b.data.toList = F := ⟨_, rfl⟩
          obtain ⟨O, hO⟩ : ∃ O, outFan b.data.toList = O := ⟨_, rfl⟩
          obtain ⟨L, kids⟩ := O
          have hfl : nodeOf objs p level = .fan L kids → (level < 0 ∨ L = level) ∧ 1 ≤ L ∧ L ≤ 20 ∧ 1 ≤ kids.length ∧ kids.length ≤ 32 ∧ (kids.map (·.size)).sum = p.size ∧ (∀ k ∈ kids, 1 ≤ k.size ∧ k.size ≤ 262144 ∧ k.id.size = 32) := fan_level
          have hnd2 := HTL.out
          rw [hF, hO] at hnd2
          have hy := HYY.out
          rw [hnd2] at hy
          rw [hO] at hof hv
          simp only [hF, hO]
          dsimp only at hy hof hv hnd2 ⊢
          obtain ⟨Ak, ck, rfl, _, hck, _, _⟩ := own_cells hv
          have hm10 := hm9.alloc (.cells #[.int .i64 L, .slice Ak kids.length ck] 96)
          have hb17 := Has.new w9 [.int .i64 L, .slice Ak kids.length ck] 96
          have hv10 := hv.alloc (.cells #[.int .i64 L, .slice Ak kids.length ck] 96)
          have hW10 := HW8.out.keep0 hm10
          have hpb10 := HPB8.out.keep hm10 (fun h => h)
          have hM10 := Mod.trans HM8.out hm10 (fun _ _ h => h.elim)
          have hck10 := hck.alloc (.cells #[.int .i64 L, .slice Ak kids.length ck] 96)
          have hz9 := hm9.size
          obtain ⟨b17, hb17e⟩ : ∃ b17, w9.heap.size = b17 := ⟨_, rfl⟩
          rw [hb17e] at hb17
          have c0 := hb17.cell (o := 0) rfl
          have c1 := hb17.cell (o := 1) rfl
          have z1 := hpb10.cell (o := 1) rfl
          have HOF := Lib.hid hof
          have HFL := Lib.hid hfl
          have HND := Lib.hid hnd2
          have HY3 := Lib.hid hy
          have HV10 := Lib.hid hv10
          have HCK := Lib.hid hck10
          have HW10 := Lib.hid hW10
          have HPB10 := Lib.hid hpb10
          have HM10 := Lib.hid hM10
          have HB17 := Lib.hid hb17
          have hkl : kids.length ≤ 32 := hof.1
          clear hof hfl hnd2 hy hv10 hck10 hW10 hpb10 hM10 hb17 hm9 hm10 hv hck hF hO z0 HYY HW8 HPB8 HM8 HTL
          go_wp2_with fail
          try simp only [hb17e]
          obtain ⟨w10, hw10⟩ : ∃ w10, w9.alloc (.cells #[.int .i64 L, .slice Ak kids.length ck] 96) = w10 := ⟨_, rfl⟩
          rw [hw10] at c0 c1 z1 HV10 HCK HW10 HPB10 HM10 HB17
          rw [hw10]
          clear hw10 hb17e
          go_loopw [10, 11] (fun sm i wr => ∃ (j : Nat) (z : Int), i = .int .i64 j ∧ sm = .int .i64 z ∧ j ≤ kids.length ∧ Hid (z = sizes (kids.take j)) ∧ wr = w10) (fun _ i _ => kids.length - (intOf i).toNat)
          case atStart => exact ⟨0, 0, by go_num, rfl, by omega, Lib.hid (by simp [sizes]), rfl⟩
          case round =>
            obtain ⟨j, z, rfl, rfl, hj, HZ, rfl⟩ := hrel
            by_cases hjl : j < kids.length
            · have j1 : (j : Int) < (kids.length : Int) := by omega
              have j0 : (0 : Int) ≤ (j : Int) := by omega
              rcases HCK.out with h | ⟨bb, b5, rfl, hc5⟩
              · have := flat_len pc_len kids; rw [h] at this; simp at this; omega
              have z0 := hc5 _ _ (flat_get pc_len kids j 0 hjl (by omega))
              have z2 := hc5 _ _ (flat_get pc_len kids j 1 hjl (by omega))
              rw [Nat.add_zero] at z0
              rw [← Nat.add_assoc] at z2
              have hst := sizes_snoc hjl
              rw [← HZ.out] at hst
              have hs0 := sizes_take HOF.out.2 j
              have hs1 := sizes_take HOF.out.2 (j + 1)
              rw [hst] at hs1
              rw [← HZ.out] at hs0
              obtain ⟨k, hk⟩ : ∃ k, kids[j] = k := ⟨_, rfl⟩
              rw [hk] at z0 z2 hst hs1
              have HST := Lib.hid hst
              clear hc5 hst hk
              go_wp2_with fail
              go_roundw
              case rel => exact ⟨j + 1, z + k.size, by go_num, rfl, by omega, Lib.hid HST.out.symm, trivial⟩
              case measure => simp [intOf]; omega
            · have hjk : j = kids.length := by omega
              have j1 : ¬ (j : Int) < (kids.length : Int) := by omega
              have hz := HZ.out
              rw [hjk, List.take_length] at hz
              have hy := HY3.out
              have hnd3 := HND.out
              have hszk : sizes kids = (kids.map (·.size)).sum := rfl
              rw [← hszk, ← hz] at hy hnd3
              clear hszk hz HZ
              cases F with
              | false =>
                rw [if_neg (fun h => by cases h.1)] at hy
                dsimp only at hy
                simp only [show errV false = Value.int .i64 81 from rfl]
                subst hy
                go_wp2_with fail
                refine (fail_calls 101 (HW10.out)).mono ?_
                rintro e w18 ⟨rfl, rfl⟩
                have hsb := WkIs.setBad (HW10.out) 101
                have HSB1 := Lib.hid hsb.1
                have HSB2 := Lib.hid (WS.trans (HM10.out) hsb.2 (rowOf_same rfl))
                clear hsb
                go_wp2_with fail
                first | go_end0 | refine bodyPost_ret (results_none rfl _ _ _) rfl ?_
                unfold GcPost
                exact ⟨rfl, _, _, _, HSB1.out, HSB2.out, rowOf_same rfl⟩
              | true =>
                simp only [show errV true = Value.int .i64 0 from rfl]
                by_cases h1 : z = p.size
                · have b1 : (z == p.size) = true := by simpa using h1
                  have b2 : (z != p.size) = false := by simpa using h1
                  by_cases h2 : level < 0
                  · have h3 : ¬ 0 ≤ level := by omega
                    rw [if_pos ⟨rfl, h1, .inl h2⟩] at hy hnd3
                    clear h1
                    have hfl := HFL.out hnd3
                    have hr0 : RcIs B0 bw A c objs L kids (x.ask p.id) b17 w8.heap.size (.slice Ak kids.length ck) vp w 0 wr :=
                      ⟨⟨_, _, _, by show WkIs _ _ _ _ _ _ _ _ _ _ _ x.bad _; rw [hb0]; exact HW10.out, fun g hg hp => by have := (HV10.out.lt g hg).1; have := HVP.out g hp; omega, HM10.out, rowOf_same rfl⟩, HB17.out, HV10.out⟩
                    have HR0 := Lib.hid hr0
                    have hL1 : 1 ≤ L := hfl.2.1
                    have hL2 : L ≤ 20 := hfl.2.2.1
                    have HFL2 := Lib.hid hfl
                    have hy2 : chkF objs (L - 1).toNat kids (x.ask p.id) = Y := hy
                    have HY4 := Lib.hid hy2
                    clear hr0 hfl hy hy2 hnd3 HFL HND HY3 HCK HW10
                    go_wp2_with fail
                    go_loopw [12] (fun i wr => ∃ (j : Nat), i = .int .i64 j ∧ j ≤ kids.length ∧ Hid (RcIs B0 bw A c objs L kids (x.ask p.id) b17 w8.heap.size (.slice Ak kids.length ck) vp w j wr)) (fun i _ => kids.length - (intOf i).toNat)
                    case atStart => exact ⟨0, by go_num, by omega, HR0⟩
                    case round =>
                      obtain ⟨j, rfl, hj, HG⟩ := hrel
                      have c0 := HG.out.box.cell (o := 0) rfl
                      have c1 := HG.out.box.cell (o := 1) rfl
                      by_cases hjl : j < kids.length
                      · have j1 : (j : Int) < (kids.length : Int) := by omega
                        have j0 : (0 : Int) ≤ (j : Int) := by omega
                        obtain ⟨A2, c2, he, _, hck, _, _⟩ := own_cells HG.out.own
                        obtain ⟨rfl, rfl⟩ : Ak = A2 ∧ ck = c2 := by simpa using he
                        clear he
                        rcases hck with h | ⟨bb, b5, rfl, hc5⟩
                        · have := flat_len pc_len kids; rw [h] at this; simp at this; omega
                        have z0 := hc5 _ _ (flat_get pc_len kids j 0 hjl (by omega))
                        have z2 := hc5 _ _ (flat_get pc_len kids j 1 hjl (by omega))
                        rw [Nat.add_zero] at z0
                        rw [← Nat.add_assoc] at z2
                        obtain ⟨va7, vd7, vp7, hwk7, hap7, hmm7, hrr7⟩ := HG.out.ex
                        have hnum := cnums_next (objs := objs) HN.out hjl ⟨HFL2.out.1, hL1, hL2⟩ HFL2.out.2.2.2.2.2.1 HFL2.out.2.2.2.2.2.2
                        have hsn : chkF objs (L - 1).toNat (kids.take (j + 1)) (x.ask p.id) = chkS objs (L - 1).toNat kids[j] (chkF objs (L - 1).toNat (kids.take j) (x.ask p.id)) := by
                          rw [List.take_succ_eq_append_getElem hjl, chkF_snoc]
                        have HCA := Lib.hid (HIH.out L hL1 hL2 HFL2.out.1 _ _ _ _ _ wr.drew hnum (hwk7.keep0 ((Mod.refl (fun _ => False) wr).drew)))
                        unfold GcPost at HCA
                        have hps := hnum.1
                        have hnbx : ¬ WS B0 vp7 wr b17 := by
                          rintro (h | h)
                          · exact Ty.not (Has.row HG.out.box) (by decide) h
                          · exact box_ne HG.out.box hwk7.op (by decide) h rfl
                        have hnrw : ¬ WS B0 vp7 wr bb := by
                          rintro (h | h)
                          · exact Ty.not (own_row HG.out.own (k := bb) (own_blk HG.out.own z0)) (by decide) h
                          · exact hap7 bb (own_blk HG.out.own z0) h
                        have hbl := World.block_lt_of_cell? _ _ z0
                        have fv0 := fun (w' : World) (mm : Mod (WS B0 vp7 wr) wr.drew w') => (mm.cell (p := ⟨b17, 0, none⟩) HG.out.box.lt hnbx).trans c0
                        have fv1 := fun (w' : World) (mm : Mod (WS B0 vp7 wr) wr.drew w') => (mm.cell (p := ⟨b17, 1, none⟩) HG.out.box.lt hnbx).trans c1
                        have fv2 := fun (w' : World) (mm : Mod (WS B0 vp7 wr) wr.drew w') => (mm.cell (p := ⟨bb, b5 + j * 2, none⟩) hbl hnrw).trans z0
                        have fv3 := fun (w' : World) (mm : Mod (WS B0 vp7 wr) wr.drew w') => (mm.cell (p := ⟨bb, b5 + j * 2 + 1, none⟩) hbl hnrw).trans z2
                        have HSN := Lib.hid hsn
                        have HNX := Lib.hid hnbx
                        have HNR := Lib.hid hnrw
                        have HAP := Lib.hid hap7
                        have HMM := Lib.hid hmm7
                        have HRR := Lib.hid hrr7
                        generalize kids[j] = k at *
                        have hw1 : IntKind.i64.wrap (L - 1) = L - 1 := by rw [IntKind.wrap_i64]; omega
                        clear hnum hsn hc5 hwk7 hap7 hmm7 hrr7 hnbx hnrw
                        go_wp2_with fail
                        refine region_mT (WS B0 vp7 wr) (by kernel_rfl) ?_
                        simp only [List.length_cons, List.length_nil, List.replicate]
                        refine take0T (v := ?v87) (oi := ?o87) 0 ?hi87 (by kernel_rfl) (by kernel_rfl) (by kernel_rfl) ?hq87 ?hy87 ?_
                        case hi87 => (simp only [List.getElem?_toArray, List.getElem?_cons_zero, List.getElem?_cons_succ]; rfl)
                        case hq87 => exact fun _ _ _ h => h
                        case hy87 => first | (refine ry_notS ?_; rfl) | (refine ry_runS (by rfl) (fun w' hw' => ?_); go_simp; try rfl)
                        simp only [Act.put, List.setIfInBounds_toArray, List.set_cons_zero, List.set_cons_succ]
                        refine take0T (v := ?v88) (oi := ?o88) 1 ?hi88 (by kernel_rfl) (by kernel_rfl) (by kernel_rfl) ?hq88 ?hy88 ?_
                        case hi88 => (simp only [List.getElem?_toArray, List.getElem?_cons_zero, List.getElem?_cons_succ]; rfl)
                        case hq88 => exact fun _ _ _ h => h
                        case hy88 => first | (refine ry_notS ?_; rfl) | (refine ry_runS (by rfl) (fun w' hw' => ?_); go_simp; try rfl)
                        simp only [Act.put, List.setIfInBounds_toArray, List.set_cons_zero, List.set_cons_succ]
                        refine take0T (v := ?v89) (oi := ?o89) 2 ?hi89 (by kernel_rfl) (by kernel_rfl) (by kernel_rfl) ?hq89 ?hy89 ?_
                        case hi89 => (simp only [List.getElem?_toArray, List.getElem?_cons_zero, List.getElem?_cons_succ]; rfl)
                        case hq89 => exact fun _ _ _ h => h
                        case hy89 => first | (refine ry_notS ?_; rfl) | (refine ry_runS (by rfl) (fun w' hw' => ?_); go_simp; try rfl)
                        simp only [Act.put, List.setIfInBounds_toArray, List.set_cons_zero, List.set_cons_succ]
                        refine take0T (v := ?v90) (oi := ?o90) 3 ?hi90 (by kernel_rfl) (by kernel_rfl) (by kernel_rfl) ?hq90 ?hy90 ?_
                        case hi90 => (simp only [List.getElem?_toArray, List.getElem?_cons_zero, List.getElem?_cons_succ]; rfl)
                        case hq90 => exact fun _ _ _ h => h
                        case hy90 => first | (refine ry_notS ?_; rfl) | (refine ry_runS (by rfl) (fun w' hw' => ?_); go_simp; try rfl)
                        simp only [Act.put, List.setIfInBounds_toArray, List.set_cons_zero, List.set_cons_succ]
                        refine take0T (v := ?v91) (oi := ?o91) 4 ?hi91 (by kernel_rfl) (by kernel_rfl) (by kernel_rfl) ?hq91 ?hy91 ?_
                        case hi91 => (simp only [List.getElem?_toArray, List.getElem?_cons_zero, List.getElem?_cons_succ]; rfl)
                        case hq91 => exact fun _ _ _ h => h
                        case hy91 => first | (refine ry_notS ?_; rfl) | (refine ry_runS (by rfl) (fun w' hw' => ?_); go_simp; try rfl)
                        simp only [Act.put, List.setIfInBounds_toArray, List.set_cons_zero, List.set_cons_succ]
                        refine take0T (v := ?v92) (oi := ?o92) 5 ?hi92 (by kernel_rfl) (by kernel_rfl) (by kernel_rfl) ?hq92 ?hy92 ?_
                        case hi92 => (simp only [List.getElem?_toArray, List.getElem?_cons_zero, List.getElem?_cons_succ]; rfl)
                        case hq92 => exact fun _ _ _ h => h
                        case hy92 => first | (refine ry_notS ?_; rfl) | (refine ry_runS (by rfl) (fun w' hw' => ?_); go_simp; try rfl)
                        simp only [Act.put, List.setIfInBounds_toArray, List.set_cons_zero, List.set_cons_succ]
                        refine take0T (v := ?v93) (oi := ?o93) 6 ?hi93 (by kernel_rfl) (by kernel_rfl) (by kernel_rfl) ?hq93 ?hy93 ?_
                        case hi93 => (simp only [List.getElem?_toArray, List.getElem?_cons_zero, List.getElem?_cons_succ]; rfl)
                        case hq93 => exact fun _ _ _ h => h
                        case hy93 => first | (refine ry_notS ?_; rfl) | (refine ry_runS (by rfl) (fun w' hw' => ?_); go_simp; try rfl)
                        simp only [Act.put, List.setIfInBounds_toArray, List.set_cons_zero, List.set_cons_succ]
                        refine take0T (v := ?v94) (oi := ?o94) 7 ?hi94 (by kernel_rfl) (by kernel_rfl) (by kernel_rfl) ?hq94 ?hy94 ?_
                        case hi94 => (simp only [List.getElem?_toArray, List.getElem?_cons_zero, List.getElem?_cons_succ]; rfl)
                        case hq94 => exact fun _ _ _ h => h
                        case hy94 => first | (refine ry_notS ?_; rfl) | (refine ry_runS (by rfl) (fun w' hw' => ?_); go_simp; try rfl)
                        simp only [Act.put, List.setIfInBounds_toArray, List.set_cons_zero, List.set_cons_succ]
                        refine take0T (v := ?v95) (oi := ?o95) 8 ?hi95 (by kernel_rfl) (by kernel_rfl) (by kernel_rfl) ?hq95 ?hy95 ?_
                        case hi95 => (simp only [List.getElem?_toArray, List.getElem?_cons_zero, List.getElem?_cons_succ]; rfl)
                        case hq95 => exact fun _ _ _ h => h
                        case hy95 => first | (refine ry_notS ?_; rfl) | (refine ry_runS (by rfl) (fun w' hw' => ?_); go_simp; try rfl)
                        simp only [Act.put, List.setIfInBounds_toArray, List.set_cons_zero, List.set_cons_succ]
                        refine step0T (o := ?o96) 9 (by kernel_rfl) ?hi96 ?hw96 ?_
                        case hi96 => (simp only [List.getElem?_toArray, List.getElem?_cons_zero, List.getElem?_cons_succ]; rfl)
                        case hw96 => rfl
                        go_simp
                        refine HCA.out.mono ?_
                        rintro e w12 ⟨rfl, va8, vd8, vp8, hwk8, hm8, hr8⟩
                        refine ⟨.inl hm8, ?_⟩
                        refine wpAnyT_done (by kernel_rfl) ?_
                        clear fv0 fv1 fv2 fv3
                        have hm8' : Mod (WS B0 vp7 wr) wr w12 := Mod.of_drew_l hm8
                        have hbx8 := HG.out.box.keep hm8' HNX.out
                        have hown8 := own_keep HG.out.own hm8' (fun g _ hg hs => by
                          rcases hs with h | h
                          · exact Ty.not (own_row HG.out.own hg) (by decide) h
                          · exact HAP.out g hg h)
                        have hnx : RcIs B0 bw A c objs L kids (x.ask p.id) b17 w8.heap.size (.slice (some ⟨bb, b5, none⟩) kids.length ck) vp w (j + 1) w12 := by
                          refine ⟨⟨va8, vd8, vp8, by rw [HSN.out]; exact hwk8, fun g hg hp => ?_, WS.trans HMM.out hm8' HRR.out, rowOf_trans HRR.out hr8 HMM.out.size⟩, hbx8, hown8⟩
                          rcases hr8 g hp with h | h
                          · exact HAP.out g hg h
                          · have := (HG.out.own.lt g hg).2; simp at h; omega
                        have HNXT := Lib.hid hnx
                        clear hnx hm8 hm8' hbx8 hown8 hwk8 hr8 c0 c1 z0 z2
                        go_wp2_with fail
                        go_roundw
                        case rel => exact ⟨j + 1, by go_num, by omega, HNXT⟩
                        case measure => simp [intOf]; omega
                      · have hjk : j = kids.length := by omega
                        have j1 : ¬ (j : Int) < (kids.length : Int) := by omega
                        obtain ⟨va7, vd7, vp7, hwk7, hap7, hmm7, hrr7⟩ := HG.out.ex
                        rw [hjk, List.take_length, HY4.out] at hwk7
                        have HWK := Lib.hid hwk7
                        have HMM := Lib.hid hmm7
                        have HRR := Lib.hid hrr7
                        clear hwk7 hap7 hmm7 hrr7
                        go_wp2_with fail
                        first | go_end0 | refine bodyPost_ret (results_none rfl _ _ _) rfl ?_
                        unfold GcPost
                        exact ⟨rfl, _, _, _, HWK.out, HMM.out, HRR.out⟩
                  · have h3 : 0 ≤ level := by omega
                    by_cases h4 : L = level
                    · have b3 : (L == level) = true := by simpa using h4
                      have b4 : (L != level) = false := by simpa using h4
                      rw [if_pos ⟨rfl, h1, .inr h4⟩] at hy hnd3
                      clear h1 h4
                      have hfl := HFL.out hnd3
                      have hr0 : RcIs B0 bw A c objs L kids (x.ask p.id) b17 w8.heap.size (.slice Ak kids.length ck) vp w 0 wr :=
                        ⟨⟨_, _, _, by show WkIs _ _ _ _ _ _ _ _ _ _ _ x.bad _; rw [hb0]; exact HW10.out, fun g hg hp => by have := (HV10.out.lt g hg).1; have := HVP.out g hp; omega, HM10.out, rowOf_same rfl⟩, HB17.out, HV10.out⟩
                      have HR0 := Lib.hid hr0
                      have hL1 : 1 ≤ L := hfl.2.1
                      have hL2 : L ≤ 20 := hfl.2.2.1
                      have HFL2 := Lib.hid hfl
                      have hy2 : chkF objs (L - 1).toNat kids (x.ask p.id) = Y := hy
                      have HY4 := Lib.hid hy2
                      clear hr0 hfl hy hy2 hnd3 HFL HND HY3 HCK HW10
                      go_wp2_with fail
                      go_loopw [12] (fun i wr => ∃ (j : Nat), i = .int .i64 j ∧ j ≤ kids.length ∧ Hid (RcIs B0 bw A c objs L kids (x.ask p.id) b17 w8.heap.size (.slice Ak kids.length ck) vp w j wr)) (fun i _ => kids.length - (intOf i).toNat)
                      case atStart => exact ⟨0, by go_num, by omega, HR0⟩
                      case round =>
                        obtain ⟨j, rfl, hj, HG⟩ := hrel
                        have c0 := HG.out.box.cell (o := 0) rfl
                        have c1 := HG.out.box.cell (o := 1) rfl
                        by_cases hjl : j < kids.length
                        · have j1 : (j : Int) < (kids.length : Int) := by omega
                          have j0 : (0 : Int) ≤ (j : Int) := by omega
                          obtain ⟨A2, c2, he, _, hck, _, _⟩ := own_cells HG.out.own
                          obtain ⟨rfl, rfl⟩ : Ak = A2 ∧ ck = c2 := by simpa using he
                          clear he
                          rcases hck with h | ⟨bb, b5, rfl, hc5⟩
                          · have := flat_len pc_len kids; rw [h] at this; simp at this; omega
                          have z0 := hc5 _ _ (flat_get pc_len kids j 0 hjl (by omega))
                          have z2 := hc5 _ _ (flat_get pc_len kids j 1 hjl (by omega))
                          rw [Nat.add_zero] at z0
                          rw [← Nat.add_assoc] at z2
                          obtain ⟨va7, vd7, vp7, hwk7, hap7, hmm7, hrr7⟩ := HG.out.ex
                          have hnum := cnums_next (objs := objs) HN.out hjl ⟨HFL2.out.1, hL1, hL2⟩ HFL2.out.2.2.2.2.2.1 HFL2.out.2.2.2.2.2.2
                          have hsn : chkF objs (L - 1).toNat (kids.take (j + 1)) (x.ask p.id) = chkS objs (L - 1).toNat kids[j] (chkF objs (L - 1).toNat (kids.take j) (x.ask p.id)) := by
                            rw [List.take_succ_eq_append_getElem hjl, chkF_snoc]
                          have HCA := Lib.hid (HIH.out L hL1 hL2 HFL2.out.1 _ _ _ _ _ wr.drew hnum (hwk7.keep0 ((Mod.refl (fun _ => False) wr).drew)))
                          unfold GcPost at HCA
                          have hps := hnum.1
                          have hnbx : ¬ WS B0 vp7 wr b17 := by
                            rintro (h | h)
                            · exact Ty.not (Has.row HG.out.box) (by decide) h
                            · exact box_ne HG.out.box hwk7.op (by decide) h rfl
                          have hnrw : ¬ WS B0 vp7 wr bb := by
                            rintro (h | h)
                            · exact Ty.not (own_row HG.out.own (k := bb) (own_blk HG.out.own z0)) (by decide) h
                            · exact hap7 bb (own_blk HG.out.own z0) h
                          have hbl := World.block_lt_of_cell? _ _ z0
                          have fv0 := fun (w' : World) (mm : Mod (WS B0 vp7 wr) wr.drew w') => (mm.cell (p := ⟨b17, 0, none⟩) HG.out.box.lt hnbx).trans c0
                          have fv1 := fun (w' : World) (mm : Mod (WS B0 vp7 wr) wr.drew w') => (mm.cell (p := ⟨b17, 1, none⟩) HG.out.box.lt hnbx).trans c1
                          have fv2 := fun (w' : World) (mm : Mod (WS B0 vp7 wr) wr.drew w') => (mm.cell (p := ⟨bb, b5 + j * 2, none⟩) hbl hnrw).trans z0
                          have fv3 := fun (w' : World) (mm : Mod (WS B0 vp7 wr) wr.drew w') => (mm.cell (p := ⟨bb, b5 + j * 2 + 1, none⟩) hbl hnrw).trans z2
                          have HSN := Lib.hid hsn
                          have HNX := Lib.hid hnbx
                          have HNR := Lib.hid hnrw
                          have HAP := Lib.hid hap7
                          have HMM := Lib.hid hmm7
                          have HRR := Lib.hid hrr7
                          generalize kids[j] = k at *
                          have hw1 : IntKind.i64.wrap (L - 1) = L - 1 := by rw [IntKind.wrap_i64]; omega
                          clear hnum hsn hc5 hwk7 hap7 hmm7 hrr7 hnbx hnrw
                          go_wp2_with fail
                          refine region_mT (WS B0 vp7 wr) (by kernel_rfl) ?_
                          simp only [List.length_cons, List.length_nil, List.replicate]
                          refine take0T (v := ?v97) (oi := ?o97) 0 ?hi97 (by kernel_rfl) (by kernel_rfl) (by kernel_rfl) ?hq97 ?hy97 ?_
                          case hi97 => (simp only [List.getElem?_toArray, List.getElem?_cons_zero, List.getElem?_cons_succ]; rfl)
                          case hq97 => exact fun _ _ _ h => h
                          case hy97 => first | (refine ry_notS ?_; rfl) | (refine ry_runS (by rfl) (fun w' hw' => ?_); go_simp; try rfl)
                          simp only [Act.put, List.setIfInBounds_toArray, List.set_cons_zero, List.set_cons_succ]
                          refine take0T (v := ?v98) (oi := ?o98) 1 ?hi98 (by kernel_rfl) (by kernel_rfl) (by kernel_rfl) ?hq98 ?hy98 ?_
                          case hi98 => (simp only [List.getElem?_toArray, List.getElem?_cons_zero, List.getElem?_cons_succ]; rfl)
                          case hq98 => exact fun _ _ _ h => h
                          case hy98 => first | (refine ry_notS ?_; rfl) | (refine ry_runS (by rfl) (fun w' hw' => ?_); go_simp; try rfl)
                          simp only [Act.put, List.setIfInBounds_toArray, List.set_cons_zero, List.set_cons_succ]
                          refine take0T (v := ?v99) (oi := ?o99) 2 ?hi99 (by kernel_rfl) (by kernel_rfl) (by kernel_rfl) ?hq99 ?hy99 ?_
                          case hi99 => (simp only [List.getElem?_toArray, List.getElem?_cons_zero, List.getElem?_cons_succ]; rfl)
                          case hq99 => exact fun _ _ _ h => h
                          case hy99 => first | (refine ry_notS ?_; rfl) | (refine ry_runS (by rfl) (fun w' hw' => ?_); go_simp; try rfl)
                          simp only [Act.put, List.setIfInBounds_toArray, List.set_cons_zero, List.set_cons_succ]
                          refine take0T (v := ?v100) (oi := ?o100) 3 ?hi100 (by kernel_rfl) (by kernel_rfl) (by kernel_rfl) ?hq100 ?hy100 ?_
                          case hi100 => (simp only [List.getElem?_toArray, List.getElem?_cons_zero, List.getElem?_cons_succ]; rfl)
                          case hq100 => exact fun _ _ _ h => h
                          case hy100 => first | (refine ry_notS ?_; rfl) | (refine ry_runS (by rfl) (fun w' hw' => ?_); go_simp; try rfl)
                          simp only [Act.put, List.setIfInBounds_toArray, List.set_cons_zero, List.set_cons_succ]
                          refine take0T (v := ?v101) (oi := ?o101) 4 ?hi101 (by kernel_rfl) (by kernel_rfl) (by kernel_rfl) ?hq101 ?hy101 ?_
                          case hi101 => (simp only [List.getElem?_toArray, List.getElem?_cons_zero, List.getElem?_cons_succ]; rfl)
                          case hq101 => exact fun _ _ _ h => h
                          case hy101 => first | (refine ry_notS ?_; rfl) | (refine ry_runS (by rfl) (fun w' hw' => ?_); go_simp; try rfl)
                          simp only [Act.put, List.setIfInBounds_toArray, List.set_cons_zero, List.set_cons_succ]
                          refine take0T (v := ?v102) (oi := ?o102) 5 ?hi102 (by kernel_rfl) (by kernel_rfl) (by kernel_rfl) ?hq102 ?hy102 ?_
                          case hi102 => (simp only [List.getElem?_toArray, List.getElem?_cons_zero, List.getElem?_cons_succ]; rfl)
                          case hq102 => exact fun _ _ _ h => h
                          case hy102 => first | (refine ry_notS ?_; rfl) | (refine ry_runS (by rfl) (fun w' hw' => ?_); go_simp; try rfl)
                          simp only [Act.put, List.setIfInBounds_toArray, List.set_cons_zero, List.set_cons_succ]
                          refine take0T (v := ?v103) (oi := ?o103) 6 ?hi103 (by kernel_rfl) (by kernel_rfl) (by kernel_rfl) ?hq103 ?hy103 ?_
                          case hi103 => (simp only [List.getElem?_toArray, List.getElem?_cons_zero, List.getElem?_cons_succ]; rfl)
                          case hq103 => exact fun _ _ _ h => h
                          case hy103 => first | (refine ry_notS ?_; rfl) | (refine ry_runS (by rfl) (fun w' hw' => ?_); go_simp; try rfl)
                          simp only [Act.put, List.setIfInBounds_toArray, List.set_cons_zero, List.set_cons_succ]
                          refine take0T (v := ?v104) (oi := ?o104) 7 ?hi104 (by kernel_rfl) (by kernel_rfl) (by kernel_rfl) ?hq104 ?hy104 ?_
                          case hi104 => (simp only [List.getElem?_toArray, List.getElem?_cons_zero, List.getElem?_cons_succ]; rfl)
                          case hq104 => exact fun _ _ _ h => h
                          case hy104 => first | (refine ry_notS ?_; rfl) | (refine ry_runS (by rfl) (fun w' hw' => ?_); go_simp; try rfl)
                          simp only [Act.put, List.setIfInBounds_toArray, List.set_cons_zero, List.set_cons_succ]
                          refine take0T (v := ?v105) (oi := ?o105) 8 ?hi105 (by kernel_rfl) (by kernel_rfl) (by kernel_rfl) ?hq105 ?hy105 ?_
                          case hi105 => (simp only [List.getElem?_toArray, List.getElem?_cons_zero, List.getElem?_cons_succ]; rfl)
                          case hq105 => exact fun _ _ _ h => h
                          case hy105 => first | (refine ry_notS ?_; rfl) | (refine ry_runS (by rfl) (fun w' hw' => ?_); go_simp; try rfl)
                          simp only [Act.put, List.setIfInBounds_toArray, List.set_cons_zero, List.set_cons_succ]
                          refine step0T (o := ?o106) 9 (by kernel_rfl) ?hi106 ?hw106 ?_
                          case hi106 => (simp only [List.getElem?_toArray, List.getElem?_cons_zero, List.getElem?_cons_succ]; rfl)
                          case hw106 => rfl
                          go_simp
                          refine HCA.out.mono ?_
                          rintro e w12 ⟨rfl, va8, vd8, vp8, hwk8, hm8, hr8⟩
                          refine ⟨.inl hm8, ?_⟩
                          refine wpAnyT_done (by kernel_rfl) ?_
                          clear fv0 fv1 fv2 fv3
                          have hm8' : Mod (WS B0 vp7 wr) wr w12 := Mod.of_drew_l hm8
                          have hbx8 := HG.out.box.keep hm8' HNX.out
                          have hown8 := own_keep HG.out.own hm8' (fun g _ hg hs => by
                            rcases hs with h | h
                            · exact Ty.not (own_row HG.out.own hg) (by decide) h
                            · exact HAP.out g hg h)
                          have hnx : RcIs B0 bw A c objs L kids (x.ask p.id) b17 w8.heap.size (.slice (some ⟨bb, b5, none⟩) kids.length ck) vp w (j + 1) w12 := by
                            refine ⟨⟨va8, vd8, vp8, by rw [HSN.out]; exact hwk8, fun g hg hp => ?_, WS.trans HMM.out hm8' HRR.out, rowOf_trans HRR.out hr8 HMM.out.size⟩, hbx8, hown8⟩
                            rcases hr8 g hp with h | h
                            · exact HAP.out g hg h
                            · have := (HG.out.own.lt g hg).2; simp at h; omega
                          have HNXT := Lib.hid hnx
                          clear hnx hm8 hm8' hbx8 hown8 hwk8 hr8 c0 c1 z0 z2
                          go_wp2_with fail
                          go_roundw
                          case rel => exact ⟨j + 1, by go_num, by omega, HNXT⟩
                          case measure => simp [intOf]; omega
                        · have hjk : j = kids.length := by omega
                          have j1 : ¬ (j : Int) < (kids.length : Int) := by omega
                          obtain ⟨va7, vd7, vp7, hwk7, hap7, hmm7, hrr7⟩ := HG.out.ex
                          rw [hjk, List.take_length, HY4.out] at hwk7
                          have HWK := Lib.hid hwk7
                          have HMM := Lib.hid hmm7
                          have HRR := Lib.hid hrr7
                          clear hwk7 hap7 hmm7 hrr7
                          go_wp2_with fail
                          first | go_end0 | refine bodyPost_ret (results_none rfl _ _ _) rfl ?_
                          unfold GcPost
                          exact ⟨rfl, _, _, _, HWK.out, HMM.out, HRR.out⟩
                    · have b3 : (L == level) = false := by simpa using h4
                      have b4 : (L != level) = true := by simpa using h4
                      rw [if_neg (fun h => by rcases h.2.2 with h | h; omega; exact h4 h)] at hy
                      dsimp only at hy
                      clear h1 h4
                      subst hy
                      go_wp2_with fail
                      refine (fail_calls 101 (HW10.out)).mono ?_
                      rintro e w18 ⟨rfl, rfl⟩
                      have hsb := WkIs.setBad (HW10.out) 101
                      have HSB1 := Lib.hid hsb.1
                      have HSB2 := Lib.hid (WS.trans (HM10.out) hsb.2 (rowOf_same rfl))
                      clear hsb
                      go_wp2_with fail
                      first | go_end0 | refine bodyPost_ret (results_none rfl _ _ _) rfl ?_
                      unfold GcPost
                      exact ⟨rfl, _, _, _, HSB1.out, HSB2.out, rowOf_same rfl⟩
                · have b1 : (z == p.size) = false := by simpa using h1
                  have b2 : (z != p.size) = true := by simpa using h1
                  rw [if_neg (fun h => h1 h.2.1)] at hy
                  dsimp only at hy
                  clear h1
                  subst hy
                  go_wp2_with fail
                  refine (fail_calls 101 (HW10.out)).mono ?_
                  rintro e w18 ⟨rfl, rfl⟩
                  have hsb := WkIs.setBad (HW10.out) 101
                  have HSB1 := Lib.hid hsb.1
                  have HSB2 := Lib.hid (WS.trans (HM10.out) hsb.2 (rowOf_same rfl))
                  clear hsb
                  go_wp2_with fail
                  first | go_end0 | refine bodyPost_ret (results_none rfl _ _ _) rfl ?_
                  unfold GcPost
                  exact ⟨rfl, _, _, _, HSB1.out, HSB2.out, rowOf_same rfl⟩
  · have hrd : Y = x := by
      rw [← HY.out]
      split
      · exact chkS_bad objs 0 p x hb0
      · unfold chkB; rw [if_pos hb0]
    subst hrd
    have b0 : (Y.bad != 0) = true := by simpa using hb0
    go_enter Tryd.func38, Tryd.ntmps38
    go_wp2_with fail
    first | go_end0 | refine bodyPost_ret (results_none rfl _ _ _) rfl ?_
    unfold GcPost
    exact ⟨rfl, _, _, _, H1.out, HM1.out, rowOf_same rfl⟩
end Blob
end Go.Proofs.YthgcjfpaekpeeaaDoor
