/- Joined texts: BlobCd. -/
import Derived.Test.YthgcjfpaekpeeaaDoorJ47
import Derived.Test.YthgcjfpaekpeeaaDoorJ42
/- The walks of Chunks, and of the reference's. -/
namespace Go.Proofs.YthgcjfpaekpeeaaDoor
set_option linter.unusedVariables false
set_option linter.unusedSimpArgs false
open Go.RowKit K Wire Go.Maps
namespace Blob
open Go.Proofs.YthgcjfpaekpeeaaDoor.Obj

theorem rchunks_calls {B0 bw : Nat} {A : Option Addr} {c : Nat} {objs : List Ob} (hob : ObsOk objs) : ∀ (l : Nat), l ≤ 20 → ∀ (p : Part) (x : BS) (va vd vp : Value) (w : World), CNums (l : Int) p x → WkIs B0 bw A c objs va vd vp x.asked x.data x.parts x.bad w →
    Calls Tryd.prog 38 #[.pointer (some ⟨bw, 0, none⟩), .agg #[.string p.id, .int .i64 p.size], .int .i64 (l : Int)] w (GcPost B0 bw A c objs vp (chkS objs l p x) w)
  | 0, _, p, x, va, vd, vp, w, hn, h => by
    have := rchunks_step hob 0 (by omega) (fun L h1 h2 h3 => by omega) p x va vd vp w hn h
    rw [if_pos rfl] at this
    exact this
  | l + 1, hl, p, x, va, vd, vp, w, hn, h => by
    rw [chkS_eq objs (l + 1) p x (by omega)]
    have := rchunks_step (bw := bw) (B0 := B0) (A := A) (c := c) hob ((l + 1 : Nat) : Int) (by omega) (fun L h1 h2 h3 p' x' va' vd' vp' w' hn' h' => by
      have e : L - 1 = (l : Int) := by omega
      rw [e] at hn' ⊢
      rw [show ((l : Int)).toNat = l by omega]
      exact rchunks_calls hob l (by omega) p' x' va' vd' vp' w' hn' h') p x va vd vp w hn h
    rw [if_neg (by omega)] at this
    exact this
theorem rchunksR_calls {B0 bw : Nat} {A : Option Addr} {c : Nat} {objs : List Ob} (hob : ObsOk objs) (p : Part) (x : BS) (va vd vp : Value) (w : World) (hn : CNums (-1) p x) (h : WkIs B0 bw A c objs va vd vp x.asked x.data x.parts x.bad w) :
    Calls Tryd.prog 38 #[.pointer (some ⟨bw, 0, none⟩), .agg #[.string p.id, .int .i64 p.size], .int .i64 (-1)] w (GcPost B0 bw A c objs vp (chkB objs (-1) p x) w) := by
  have := rchunks_step hob (-1) (by omega) (fun L h1 h2 _ p' x' va' vd' vp' w' hn' h' => by
    have e : L - 1 = ((L - 1).toNat : Int) := by omega
    have := rchunks_calls hob (L - 1).toNat (by omega) p' x' va' vd' vp' w' (by rw [← e]; exact hn') h'
    rw [← e] at this
    exact this) p x va vd vp w hn h
  rw [if_neg (by omega)] at this
  exact this
/-- what Chunks tells, which ids it asks -/
noncomputable def chunksL (objs : List Ob) (root : Part) : List Part × List ByteArray × Int :=
  if rightP root = true then
    if root.size ≠ 0 then
      if (chkB objs (-1) root ⟨[], [], [], 0⟩).bad ≠ 0 then ([], (chkB objs (-1) root ⟨[], [], [], 0⟩).asked, (chkB objs (-1) root ⟨[], [], [], 0⟩).bad)
      else ((chkB objs (-1) root ⟨[], [], [], 0⟩).parts, (chkB objs (-1) root ⟨[], [], [], 0⟩).asked, 0)
    else ([], [], 0)
  else ([], [], 2)
def PChPost (G : Gt) (r : List Part × List ByteArray × Int) (w : World) (e : Ending) (w' : World) : Prop :=
  ∃ v, e = .returned (.tuple #[v, .int .i64 r.2.2]) ∧ w'.ownsRow w.heap.size 25 2 v r.1.length (r.1.flatMap pc) ∧ G.I r.2.1 w' ∧ Mod (Ty G.B tQ w) w w'
def RChPost (r : List Part × List ByteArray × Int) (w : World) (e : Ending) (w' : World) : Prop :=
  ∃ v u, e = .returned (.tuple #[v, u, .int .i64 r.2.2]) ∧ w'.ownsRow w.heap.size 25 2 v r.1.length (r.1.flatMap pc) ∧ w'.ownsRow w.heap.size 9 1 u r.2.1.length (r.2.1.map .string) ∧ Mod (fun _ => False) w w'

set_option maxRecDepth 100000 in
set_option maxHeartbeats 4000000 in
theorem pChunks_calls {G : Gt} {objs : List Ob} (ok : GtOk G objs) (hob : ObsOk objs) (root : Part) (w : World) (hI : G.I [] w) (hB : G.B ≤ w.heap.size) :
    Calls Tryd.prog 19 #[.func (.func G.ks) #[] G.caps, .agg #[.string root.id, .int .i64 root.size]] w (PChPost G (chunksL objs root) w) := by
  have hm1 := (Mod.refl (fun _ => False) w).alloc (.cells #[.string root.id, .int .i64 root.size] 25)
  have hb1 := Has.new w [.string root.id, .int .i64 root.size] 25
  have x0 := hb1.cell (o := 0) rfl
  have x1 := hb1.cell (o := 1) rfl
  obtain ⟨r, hr⟩ : ∃ r, chunksL objs root = r := ⟨_, rfl⟩
  rw [hr]
  unfold chunksL at hr
  go_enter Tryd.func19, Tryd.ntmps19
  go_wp2_with fail
  refine (right_calls root _).mono ?_
  rintro e w2 ⟨rfl, hm2⟩
  have hb2 := hb1.keep hm2 (fun h => h)
  have hm := Mod.trans hm1 hm2 (fun _ _ h => h)
  have y0 := hb2.cell (o := 0) rfl
  have y1 := hb2.cell (o := 1) rfl
  have HI := Lib.hid (ok.keep _ _ _ _ hI hm (fun _ _ h => h))
  have HM := Lib.hid hm
  have hwz := hm.size
  clear hb2 hm hm2 hm1 hb1 x0 x1 hI
  by_cases h1 : rightP root = true
  · have hrp := rightP_spec h1
    rw [if_pos h1] at hr
    rw [h1]
    by_cases h2 : root.size = 0
    · rw [if_neg (fun h => h h2)] at hr
      subst hr
      have b1 : (root.size == 0) = true := by simpa using h2
      clear h2 h1
      go_wp2_with fail
      go_ret2
      unfold PChPost
      exact ⟨_, rfl, World.ownsRow_nil _ _ _ _, HI.out, HM.out.mono fun _ _ h => h.elim⟩
    · rw [if_pos h2] at hr
      have b1 : (root.size == 0) = false := by simpa using h2
      have hpre : CkPre G w.heap.size (-1) root ⟨[], [], [], 0⟩ (.slice none 0 0) w2 := ⟨rfl, HI.out, World.ownsRow_nil _ _ _ _, ⟨by omega, by omega, by unfold Need; simp; omega, by simp; omega⟩, hwz, hB⟩
      have HCA := Lib.hid (chunksR_calls ok hob root _ _ _ hpre)
      unfold CkPost at HCA
      obtain ⟨y, hy⟩ : ∃ y, chkB objs (-1) root ⟨[], [], [], 0⟩ = y := ⟨_, rfl⟩
      rw [hy] at hr
      simp only [hy] at HCA
      have HR := Lib.hid hr
      clear hpre hy hr h1 h2
      go_wp2_with fail
      refine HCA.out.mono ?_
      rintro e w3 ⟨v3, rfl, hI3, hm3, hif⟩
      have HI3 := Lib.hid hI3
      have HM3 := Lib.hid (Mod.trans (HM.out.mono (S' := Ty G.B tQ w) fun _ _ h => h.elim) hm3 (fun i hi h => by
        rcases h with ⟨hb, cur, fr, T, h1, h2⟩ | h
        · rw [HM.out.block i hi (fun h => h)] at h1
          exact ⟨hb, cur, fr, T, h1, h2⟩
        · cases h))
      have HIF := Lib.hid hif
      clear hI3 hm3 hif HCA
      go_wp2_with fail
      go_ret2
      have hr := HR.out
      have hif := HIF.out
      unfold PChPost
      by_cases hb : y.bad = 0
      · rw [if_neg (fun h => h hb)] at hr
        rw [if_pos hb] at hif
        subst hr
        exact ⟨v3, by rw [hb]; rfl, hif.1, HI3.out, HM3.out⟩
      · rw [if_pos hb] at hr
        rw [if_neg hb] at hif
        subst hr
        subst hif
        exact ⟨_, rfl, World.ownsRow_nil _ _ _ _, HI3.out, HM3.out⟩
  · rw [if_neg h1] at hr
    subst hr
    have h2 : rightP root = false := by simpa using h1
    rw [h2]
    clear h1
    go_wp2_with fail
    go_ret2
    unfold PChPost
    exact ⟨_, rfl, World.ownsRow_nil _ _ _ _, HI.out, HM.out.mono fun _ _ h => h.elim⟩
set_option maxRecDepth 100000 in
set_option maxHeartbeats 4000000 in
theorem rChunks_calls (A : Option Addr) (c : Nat) {objs : List Ob} (hob : ObsOk objs) (root : Part) (w : World) (hA : Cells w A (objs.flatMap oc)) (hlow : objs.flatMap oc ≠ [] → ∀ ad, A = some ad → ad.block < w.heap.size) :
    Calls Tryd.prog 20 #[.slice A objs.length c, .agg #[.string root.id, .int .i64 root.size]] w (RChPost (chunksL objs root) w) := by
  have hm1 := (Mod.refl (fun _ => False) w).alloc (.cells #[.string root.id, .int .i64 root.size] 25)
  have hb1 := Has.new w [.string root.id, .int .i64 root.size] 25
  have x0 := hb1.cell (o := 0) rfl
  have x1 := hb1.cell (o := 1) rfl
  obtain ⟨r, hr⟩ : ∃ r, chunksL objs root = r := ⟨_, rfl⟩
  rw [hr]
  unfold chunksL at hr
  go_enter Tryd.func20, Tryd.ntmps20
  go_wp2_with fail
  refine (rRight_calls root _).mono ?_
  rintro e w2 ⟨rfl, hm2⟩
  have hb2 := hb1.keep hm2 (fun h => h)
  have hm := Mod.trans hm1 hm2 (fun _ _ h => h)
  have y0 := hb2.cell (o := 0) rfl
  have y1 := hb2.cell (o := 1) rfl
  have HWK : Hid (WkIs w.heap.size w2.heap.size A c objs (.slice none 0 0) (.slice none 0 0) (.slice none 0 0) [] [] [] 0 (w2.alloc (.cells #[.slice A objs.length c, .slice none 0 0, .slice none 0 0, .slice none 0 0, .int .i64 0] 79))) := Lib.hid
    ⟨Has.new w2 [.slice A objs.length c, .slice none 0 0, .slice none 0 0, .slice none 0 0, .int .i64 0] _, World.ownsRow_nil _ _ _ _, World.ownsRow_nil _ _ _ _, World.ownsRow_nil _ _ _ _, hA.keep (hm.alloc _) (fun _ _ h => h), hlow, hm.size, by simp⟩
  have HMK := Lib.hid (hm.alloc (.cells #[.slice A objs.length c, .slice none 0 0, .slice none 0 0, .slice none 0 0, .int .i64 0] 79))
  have HM := Lib.hid hm
  have hzw := hb2.lt
  clear hb2 hm hm2 hm1 hb1 x0 x1 hA hlow
  by_cases h1 : rightP root = true
  · have hrp := rightP_spec h1
    rw [if_pos h1] at hr
    rw [h1]
    by_cases h2 : root.size = 0
    · rw [if_neg (fun h => h h2)] at hr
      subst hr
      have h3 : ¬ 0 < root.size := by omega
      have hwk := HWK.out
      have q4 := hwk.box.cell (o := 4) rfl
      have fv0 := fun (w' : World) (mm : Mod0 (w2.alloc (.cells #[.slice A objs.length c, .slice none 0 0, .slice none 0 0, .slice none 0 0, .int .i64 0] 79)).drew w') => (hwk.keep0 (Mod.of_drew_l mm)).box.cell (o := 1) rfl
      have fv2 := fun (w' : World) (mm : Mod0 (w2.alloc (.cells #[.slice A objs.length c, .slice none 0 0, .slice none 0 0, .slice none 0 0, .int .i64 0] 79)).drew w') => (hwk.keep0 (Mod.of_drew_l mm)).box.cell (o := 3) rfl
      clear hwk h2 h1
      go_wp2_with fail
      refine region_m (by kernel_rfl) ?_
      simp only [List.length_cons, List.length_nil, List.replicate]
      refine take0 (v := ?v1) (oi := ?o1) 0 ?hi1 (by kernel_rfl) (by kernel_rfl) (by kernel_rfl) ?hq1 ?hy1 ?_
      case hi1 => (simp only [List.getElem?_toArray, List.getElem?_cons_zero, List.getElem?_cons_succ]; rfl)
      case hq1 => exact fun _ _ _ h => h
      case hy1 => first | (refine ry_not ?_; rfl) | (refine ry_run (by rfl) (fun w' hw' => ?_); go_simp; try rfl)
      simp only [Act.put, List.setIfInBounds_toArray, List.set_cons_zero, List.set_cons_succ]
      refine take0 (v := ?v2) (oi := ?o2) 1 ?hi2 (by kernel_rfl) (by kernel_rfl) (by kernel_rfl) ?hq2 ?hy2 ?_
      case hi2 => (simp only [List.getElem?_toArray, List.getElem?_cons_zero, List.getElem?_cons_succ]; rfl)
      case hq2 => exact fun _ _ _ h => h
      case hy2 => first | (refine ry_not ?_; rfl) | (refine ry_run (by rfl) (fun w' hw' => ?_); go_simp; try rfl)
      simp only [Act.put, List.setIfInBounds_toArray, List.set_cons_zero, List.set_cons_succ]
      refine take0 (v := ?v3) (oi := ?o3) 2 ?hi3 (by kernel_rfl) (by kernel_rfl) (by kernel_rfl) ?hq3 ?hy3 ?_
      case hi3 => (simp only [List.getElem?_toArray, List.getElem?_cons_zero, List.getElem?_cons_succ]; rfl)
      case hq3 => exact fun _ _ _ h => h
      case hy3 => first | (refine ry_not ?_; rfl) | (refine ry_run (by rfl) (fun w' hw' => ?_); go_simp; try rfl)
      simp only [Act.put, List.setIfInBounds_toArray, List.set_cons_zero, List.set_cons_succ]
      refine take0 (v := ?v4) (oi := ?o4) 3 ?hi4 (by kernel_rfl) (by kernel_rfl) (by kernel_rfl) ?hq4 ?hy4 ?_
      case hi4 => (simp only [List.getElem?_toArray, List.getElem?_cons_zero, List.getElem?_cons_succ]; rfl)
      case hq4 => exact fun _ _ _ h => h
      case hy4 => first | (refine ry_not ?_; rfl) | (refine ry_run (by rfl) (fun w' hw' => ?_); go_simp; try rfl)
      simp only [Act.put, List.setIfInBounds_toArray, List.set_cons_zero, List.set_cons_succ]
      refine take0 (v := ?v5) (oi := ?o5) 4 ?hi5 (by kernel_rfl) (by kernel_rfl) (by kernel_rfl) ?hq5 ?hy5 ?_
      case hi5 => (simp only [List.getElem?_toArray, List.getElem?_cons_zero, List.getElem?_cons_succ]; rfl)
      case hq5 => exact fun _ _ _ h => h
      case hy5 => first | (refine ry_not ?_; rfl) | (refine ry_run (by rfl) (fun w' hw' => ?_); go_simp; try rfl)
      simp only [Act.put, List.setIfInBounds_toArray, List.set_cons_zero, List.set_cons_succ]
      refine take0 (v := ?v6) (oi := ?o6) 5 ?hi6 (by kernel_rfl) (by kernel_rfl) (by kernel_rfl) ?hq6 ?hy6 ?_
      case hi6 => (simp only [List.getElem?_toArray, List.getElem?_cons_zero, List.getElem?_cons_succ]; rfl)
      case hq6 => exact fun _ _ _ h => h
      case hy6 => first | (refine ry_not ?_; rfl) | (refine ry_run (by rfl) (fun w' hw' => ?_); go_simp; try rfl)
      simp only [Act.put, List.setIfInBounds_toArray, List.set_cons_zero, List.set_cons_succ]
      refine take0 (v := ?v7) (oi := ?o7) 6 ?hi7 (by kernel_rfl) (by kernel_rfl) (by kernel_rfl) ?hq7 ?hy7 ?_
      case hi7 => (simp only [List.getElem?_toArray, List.getElem?_cons_zero, List.getElem?_cons_succ]; rfl)
      case hq7 => exact fun _ _ _ h => h
      case hy7 => first | (refine ry_not ?_; rfl) | (refine ry_run (by rfl) (fun w' hw' => ?_); go_simp; try rfl)
      simp only [Act.put, List.setIfInBounds_toArray, List.set_cons_zero, List.set_cons_succ]
      refine take0 (v := ?v8) (oi := ?o8) 7 ?hi8 (by kernel_rfl) (by kernel_rfl) (by kernel_rfl) ?hq8 ?hy8 ?_
      case hi8 => (simp only [List.getElem?_toArray, List.getElem?_cons_zero, List.getElem?_cons_succ]; rfl)
      case hq8 => exact fun _ _ _ h => h
      case hy8 => first | (refine ry_not ?_; rfl) | (refine ry_run (by rfl) (fun w' hw' => ?_); go_simp; try rfl)
      simp only [Act.put, List.setIfInBounds_toArray, List.set_cons_zero, List.set_cons_succ]
      refine take0 (v := ?v9) (oi := ?o9) 8 ?hi9 (by kernel_rfl) (by kernel_rfl) (by kernel_rfl) ?hq9 ?hy9 ?_
      case hi9 => (simp only [List.getElem?_toArray, List.getElem?_cons_zero, List.getElem?_cons_succ]; rfl)
      case hq9 => exact fun _ _ _ h => h
      case hy9 => first | (refine ry_not ?_; rfl) | (refine ry_run (by rfl) (fun w' hw' => ?_); go_simp; try rfl)
      simp only [Act.put, List.setIfInBounds_toArray, List.set_cons_zero, List.set_cons_succ]
      refine take0 (v := ?v10) (oi := ?o10) 9 ?hi10 (by kernel_rfl) (by kernel_rfl) (by kernel_rfl) ?hq10 ?hy10 ?_
      case hi10 => (simp only [List.getElem?_toArray, List.getElem?_cons_zero, List.getElem?_cons_succ]; rfl)
      case hq10 => exact fun _ _ _ h => h
      case hy10 => first | (refine ry_not ?_; rfl) | (refine ry_run (by rfl) (fun w' hw' => ?_); go_simp; try rfl)
      simp only [Act.put, List.setIfInBounds_toArray, List.set_cons_zero, List.set_cons_succ]
      refine take0 (v := ?v11) (oi := ?o11) 10 ?hi11 (by kernel_rfl) (by kernel_rfl) (by kernel_rfl) ?hq11 ?hy11 ?_
      case hi11 => (simp only [List.getElem?_toArray, List.getElem?_cons_zero, List.getElem?_cons_succ]; rfl)
      case hq11 => exact fun _ _ _ h => h
      case hy11 => first | (refine ry_not ?_; rfl) | (refine ry_run (by rfl) (fun w' hw' => ?_); go_simp; try rfl)
      simp only [Act.put, List.setIfInBounds_toArray, List.set_cons_zero, List.set_cons_succ]
      refine wpAnyM_done (by kernel_rfl) ?_
      go_wp2_with fail
      refine bodyPost_ret (v := .tuple #[.slice none 0 0, .slice none 0 0, .int .i64 0]) (by simp [results, Tryd.results20, go_sem]) rfl ?_
      unfold RChPost
      exact ⟨_, _, rfl, World.ownsRow_nil _ _ _ _, World.ownsRow_nil _ _ _ _, HMK.out.drew⟩
    · rw [if_pos h2] at hr
      have h3 : 0 < root.size := by omega
      clear h2 h1
      have HRL := Lib.hid hr
      clear hr
      go_wp2_with fail
      refine (rchunksR_calls hob root ⟨[], [], [], 0⟩ (.slice none 0 0) (.slice none 0 0) (.slice none 0 0) _ ⟨by omega, by omega, by unfold Need; simp; omega, by simp; omega⟩ HWK.out).mono ?_
      unfold GcPost
      rintro e w5 ⟨rfl, va5, vd5, vp5, hwk5, hm5, _⟩
      have hrl := HRL.out
      obtain ⟨y, hy⟩ : ∃ y, chkB objs (-1) root ⟨[], [], [], 0⟩ = y := ⟨_, rfl⟩
      simp only [hy] at hwk5 hrl
      have HM5 := Lib.hid (Mod.trans HMK.out hm5 (fun i hi h => by
        rcases h with h | h
        · exact Nat.not_le.2 hi h.1
        · cases h))
      have HO5 := Lib.hid hwk5.oa
      have HP5 := Lib.hid hwk5.op
      have q4 := hwk5.box.cell (o := 4) rfl
      have fv0 := fun (w' : World) (mm : Mod0 w5.drew w') => (hwk5.keep0 (Mod.of_drew_l mm)).box.cell (o := 1) rfl
      have fv1 := fun (w' : World) (mm : Mod0 w5.drew w') => (hwk5.keep0 (Mod.of_drew_l mm)).box.cell (o := 4) rfl
      have fv2 := fun (w' : World) (mm : Mod0 w5.drew w') => (hwk5.keep0 (Mod.of_drew_l mm)).box.cell (o := 3) rfl
      clear hwk5 hm5 hy
      by_cases hb0 : y.bad = 0
      · have b1 : (y.bad != 0) = false := by simpa using hb0
        rw [if_neg (fun h => h hb0)] at hrl
        subst hrl
        clear hb0
        go_wp2_with fail
        refine region_m (by kernel_rfl) ?_
        simp only [List.length_cons, List.length_nil, List.replicate]
        refine take0 (v := ?v12) (oi := ?o12) 0 ?hi12 (by kernel_rfl) (by kernel_rfl) (by kernel_rfl) ?hq12 ?hy12 ?_
        case hi12 => (simp only [List.getElem?_toArray, List.getElem?_cons_zero, List.getElem?_cons_succ]; rfl)
        case hq12 => exact fun _ _ _ h => h
        case hy12 => first | (refine ry_not ?_; rfl) | (refine ry_run (by rfl) (fun w' hw' => ?_); go_simp; try rfl)
        simp only [Act.put, List.setIfInBounds_toArray, List.set_cons_zero, List.set_cons_succ]
        refine take0 (v := ?v13) (oi := ?o13) 1 ?hi13 (by kernel_rfl) (by kernel_rfl) (by kernel_rfl) ?hq13 ?hy13 ?_
        case hi13 => (simp only [List.getElem?_toArray, List.getElem?_cons_zero, List.getElem?_cons_succ]; rfl)
        case hq13 => exact fun _ _ _ h => h
        case hy13 => first | (refine ry_not ?_; rfl) | (refine ry_run (by rfl) (fun w' hw' => ?_); go_simp; try rfl)
        simp only [Act.put, List.setIfInBounds_toArray, List.set_cons_zero, List.set_cons_succ]
        refine take0 (v := ?v14) (oi := ?o14) 2 ?hi14 (by kernel_rfl) (by kernel_rfl) (by kernel_rfl) ?hq14 ?hy14 ?_
        case hi14 => (simp only [List.getElem?_toArray, List.getElem?_cons_zero, List.getElem?_cons_succ]; rfl)
        case hq14 => exact fun _ _ _ h => h
        case hy14 => first | (refine ry_not ?_; rfl) | (refine ry_run (by rfl) (fun w' hw' => ?_); go_simp; try rfl)
        simp only [Act.put, List.setIfInBounds_toArray, List.set_cons_zero, List.set_cons_succ]
        refine take0 (v := ?v15) (oi := ?o15) 3 ?hi15 (by kernel_rfl) (by kernel_rfl) (by kernel_rfl) ?hq15 ?hy15 ?_
        case hi15 => (simp only [List.getElem?_toArray, List.getElem?_cons_zero, List.getElem?_cons_succ]; rfl)
        case hq15 => exact fun _ _ _ h => h
        case hy15 => first | (refine ry_not ?_; rfl) | (refine ry_run (by rfl) (fun w' hw' => ?_); go_simp; try rfl)
        simp only [Act.put, List.setIfInBounds_toArray, List.set_cons_zero, List.set_cons_succ]
        refine take0 (v := ?v16) (oi := ?o16) 4 ?hi16 (by kernel_rfl) (by kernel_rfl) (by kernel_rfl) ?hq16 ?hy16 ?_
        case hi16 => (simp only [List.getElem?_toArray, List.getElem?_cons_zero, List.getElem?_cons_succ]; rfl)
        case hq16 => exact fun _ _ _ h => h
        case hy16 => first | (refine ry_not ?_; rfl) | (refine ry_run (by rfl) (fun w' hw' => ?_); go_simp; try rfl)
        simp only [Act.put, List.setIfInBounds_toArray, List.set_cons_zero, List.set_cons_succ]
        refine take0 (v := ?v17) (oi := ?o17) 5 ?hi17 (by kernel_rfl) (by kernel_rfl) (by kernel_rfl) ?hq17 ?hy17 ?_
        case hi17 => (simp only [List.getElem?_toArray, List.getElem?_cons_zero, List.getElem?_cons_succ]; rfl)
        case hq17 => exact fun _ _ _ h => h
        case hy17 => first | (refine ry_not ?_; rfl) | (refine ry_run (by rfl) (fun w' hw' => ?_); go_simp; try rfl)
        simp only [Act.put, List.setIfInBounds_toArray, List.set_cons_zero, List.set_cons_succ]
        refine take0 (v := ?v18) (oi := ?o18) 6 ?hi18 (by kernel_rfl) (by kernel_rfl) (by kernel_rfl) ?hq18 ?hy18 ?_
        case hi18 => (simp only [List.getElem?_toArray, List.getElem?_cons_zero, List.getElem?_cons_succ]; rfl)
        case hq18 => exact fun _ _ _ h => h
        case hy18 => first | (refine ry_not ?_; rfl) | (refine ry_run (by rfl) (fun w' hw' => ?_); go_simp; try rfl)
        simp only [Act.put, List.setIfInBounds_toArray, List.set_cons_zero, List.set_cons_succ]
        refine take0 (v := ?v19) (oi := ?o19) 7 ?hi19 (by kernel_rfl) (by kernel_rfl) (by kernel_rfl) ?hq19 ?hy19 ?_
        case hi19 => (simp only [List.getElem?_toArray, List.getElem?_cons_zero, List.getElem?_cons_succ]; rfl)
        case hq19 => exact fun _ _ _ h => h
        case hy19 => first | (refine ry_not ?_; rfl) | (refine ry_run (by rfl) (fun w' hw' => ?_); go_simp; try rfl)
        simp only [Act.put, List.setIfInBounds_toArray, List.set_cons_zero, List.set_cons_succ]
        refine take0 (v := ?v20) (oi := ?o20) 8 ?hi20 (by kernel_rfl) (by kernel_rfl) (by kernel_rfl) ?hq20 ?hy20 ?_
        case hi20 => (simp only [List.getElem?_toArray, List.getElem?_cons_zero, List.getElem?_cons_succ]; rfl)
        case hq20 => exact fun _ _ _ h => h
        case hy20 => first | (refine ry_not ?_; rfl) | (refine ry_run (by rfl) (fun w' hw' => ?_); go_simp; try rfl)
        simp only [Act.put, List.setIfInBounds_toArray, List.set_cons_zero, List.set_cons_succ]
        refine take0 (v := ?v21) (oi := ?o21) 9 ?hi21 (by kernel_rfl) (by kernel_rfl) (by kernel_rfl) ?hq21 ?hy21 ?_
        case hi21 => (simp only [List.getElem?_toArray, List.getElem?_cons_zero, List.getElem?_cons_succ]; rfl)
        case hq21 => exact fun _ _ _ h => h
        case hy21 => first | (refine ry_not ?_; rfl) | (refine ry_run (by rfl) (fun w' hw' => ?_); go_simp; try rfl)
        simp only [Act.put, List.setIfInBounds_toArray, List.set_cons_zero, List.set_cons_succ]
        refine take0 (v := ?v22) (oi := ?o22) 10 ?hi22 (by kernel_rfl) (by kernel_rfl) (by kernel_rfl) ?hq22 ?hy22 ?_
        case hi22 => (simp only [List.getElem?_toArray, List.getElem?_cons_zero, List.getElem?_cons_succ]; rfl)
        case hq22 => exact fun _ _ _ h => h
        case hy22 => first | (refine ry_not ?_; rfl) | (refine ry_run (by rfl) (fun w' hw' => ?_); go_simp; try rfl)
        simp only [Act.put, List.setIfInBounds_toArray, List.set_cons_zero, List.set_cons_succ]
        refine wpAnyM_done (by kernel_rfl) ?_
        go_wp2_with fail
        refine bodyPost_ret (v := .tuple #[vp5, va5, .int .i64 0]) (by simp [results, Tryd.results20, go_sem]) rfl ?_
        unfold RChPost
        exact ⟨_, _, rfl, own_keep HP5.out ((Mod.refl (fun _ => False) w5).drew) (fun _ _ _ h => h), own_keep HO5.out ((Mod.refl (fun _ => False) w5).drew) (fun _ _ _ h => h), HM5.out.drew⟩
      · have b1 : (y.bad != 0) = true := by simpa using hb0
        rw [if_pos hb0] at hrl
        subst hrl
        clear hb0
        go_wp2_with fail
        refine region_m (by kernel_rfl) ?_
        simp only [List.length_cons, List.length_nil, List.replicate]
        refine take0 (v := ?v23) (oi := ?o23) 0 ?hi23 (by kernel_rfl) (by kernel_rfl) (by kernel_rfl) ?hq23 ?hy23 ?_
        case hi23 => (simp only [List.getElem?_toArray, List.getElem?_cons_zero, List.getElem?_cons_succ]; rfl)
        case hq23 => exact fun _ _ _ h => h
        case hy23 => first | (refine ry_not ?_; rfl) | (refine ry_run (by rfl) (fun w' hw' => ?_); go_simp; try rfl)
        simp only [Act.put, List.setIfInBounds_toArray, List.set_cons_zero, List.set_cons_succ]
        refine take0 (v := ?v24) (oi := ?o24) 1 ?hi24 (by kernel_rfl) (by kernel_rfl) (by kernel_rfl) ?hq24 ?hy24 ?_
        case hi24 => (simp only [List.getElem?_toArray, List.getElem?_cons_zero, List.getElem?_cons_succ]; rfl)
        case hq24 => exact fun _ _ _ h => h
        case hy24 => first | (refine ry_not ?_; rfl) | (refine ry_run (by rfl) (fun w' hw' => ?_); go_simp; try rfl)
        simp only [Act.put, List.setIfInBounds_toArray, List.set_cons_zero, List.set_cons_succ]
        refine take0 (v := ?v25) (oi := ?o25) 2 ?hi25 (by kernel_rfl) (by kernel_rfl) (by kernel_rfl) ?hq25 ?hy25 ?_
        case hi25 => (simp only [List.getElem?_toArray, List.getElem?_cons_zero, List.getElem?_cons_succ]; rfl)
        case hq25 => exact fun _ _ _ h => h
        case hy25 => first | (refine ry_not ?_; rfl) | (refine ry_run (by rfl) (fun w' hw' => ?_); go_simp; try rfl)
        simp only [Act.put, List.setIfInBounds_toArray, List.set_cons_zero, List.set_cons_succ]
        refine take0 (v := ?v26) (oi := ?o26) 3 ?hi26 (by kernel_rfl) (by kernel_rfl) (by kernel_rfl) ?hq26 ?hy26 ?_
        case hi26 => (simp only [List.getElem?_toArray, List.getElem?_cons_zero, List.getElem?_cons_succ]; rfl)
        case hq26 => exact fun _ _ _ h => h
        case hy26 => first | (refine ry_not ?_; rfl) | (refine ry_run (by rfl) (fun w' hw' => ?_); go_simp; try rfl)
        simp only [Act.put, List.setIfInBounds_toArray, List.set_cons_zero, List.set_cons_succ]
        refine take0 (v := ?v27) (oi := ?o27) 4 ?hi27 (by kernel_rfl) (by kernel_rfl) (by kernel_rfl) ?hq27 ?hy27 ?_
        case hi27 => (simp only [List.getElem?_toArray, List.getElem?_cons_zero, List.getElem?_cons_succ]; rfl)
        case hq27 => exact fun _ _ _ h => h
        case hy27 => first | (refine ry_not ?_; rfl) | (refine ry_run (by rfl) (fun w' hw' => ?_); go_simp; try rfl)
        simp only [Act.put, List.setIfInBounds_toArray, List.set_cons_zero, List.set_cons_succ]
        refine take0 (v := ?v28) (oi := ?o28) 5 ?hi28 (by kernel_rfl) (by kernel_rfl) (by kernel_rfl) ?hq28 ?hy28 ?_
        case hi28 => (simp only [List.getElem?_toArray, List.getElem?_cons_zero, List.getElem?_cons_succ]; rfl)
        case hq28 => exact fun _ _ _ h => h
        case hy28 => first | (refine ry_not ?_; rfl) | (refine ry_run (by rfl) (fun w' hw' => ?_); go_simp; try rfl)
        simp only [Act.put, List.setIfInBounds_toArray, List.set_cons_zero, List.set_cons_succ]
        refine take0 (v := ?v29) (oi := ?o29) 6 ?hi29 (by kernel_rfl) (by kernel_rfl) (by kernel_rfl) ?hq29 ?hy29 ?_
        case hi29 => (simp only [List.getElem?_toArray, List.getElem?_cons_zero, List.getElem?_cons_succ]; rfl)
        case hq29 => exact fun _ _ _ h => h
        case hy29 => first | (refine ry_not ?_; rfl) | (refine ry_run (by rfl) (fun w' hw' => ?_); go_simp; try rfl)
        simp only [Act.put, List.setIfInBounds_toArray, List.set_cons_zero, List.set_cons_succ]
        refine take0 (v := ?v30) (oi := ?o30) 7 ?hi30 (by kernel_rfl) (by kernel_rfl) (by kernel_rfl) ?hq30 ?hy30 ?_
        case hi30 => (simp only [List.getElem?_toArray, List.getElem?_cons_zero, List.getElem?_cons_succ]; rfl)
        case hq30 => exact fun _ _ _ h => h
        case hy30 => first | (refine ry_not ?_; rfl) | (refine ry_run (by rfl) (fun w' hw' => ?_); go_simp; try rfl)
        simp only [Act.put, List.setIfInBounds_toArray, List.set_cons_zero, List.set_cons_succ]
        refine take0 (v := ?v31) (oi := ?o31) 8 ?hi31 (by kernel_rfl) (by kernel_rfl) (by kernel_rfl) ?hq31 ?hy31 ?_
        case hi31 => (simp only [List.getElem?_toArray, List.getElem?_cons_zero, List.getElem?_cons_succ]; rfl)
        case hq31 => exact fun _ _ _ h => h
        case hy31 => first | (refine ry_not ?_; rfl) | (refine ry_run (by rfl) (fun w' hw' => ?_); go_simp; try rfl)
        simp only [Act.put, List.setIfInBounds_toArray, List.set_cons_zero, List.set_cons_succ]
        refine take0 (v := ?v32) (oi := ?o32) 9 ?hi32 (by kernel_rfl) (by kernel_rfl) (by kernel_rfl) ?hq32 ?hy32 ?_
        case hi32 => (simp only [List.getElem?_toArray, List.getElem?_cons_zero, List.getElem?_cons_succ]; rfl)
        case hq32 => exact fun _ _ _ h => h
        case hy32 => first | (refine ry_not ?_; rfl) | (refine ry_run (by rfl) (fun w' hw' => ?_); go_simp; try rfl)
        simp only [Act.put, List.setIfInBounds_toArray, List.set_cons_zero, List.set_cons_succ]
        refine take0 (v := ?v33) (oi := ?o33) 10 ?hi33 (by kernel_rfl) (by kernel_rfl) (by kernel_rfl) ?hq33 ?hy33 ?_
        case hi33 => (simp only [List.getElem?_toArray, List.getElem?_cons_zero, List.getElem?_cons_succ]; rfl)
        case hq33 => exact fun _ _ _ h => h
        case hy33 => first | (refine ry_not ?_; rfl) | (refine ry_run (by rfl) (fun w' hw' => ?_); go_simp; try rfl)
        simp only [Act.put, List.setIfInBounds_toArray, List.set_cons_zero, List.set_cons_succ]
        refine wpAnyM_done (by kernel_rfl) ?_
        go_wp2_with fail
        refine bodyPost_ret (v := .tuple #[.slice none 0 0, va5, .int .i64 y.bad]) (by simp [results, Tryd.results20, go_sem]) rfl ?_
        unfold RChPost
        exact ⟨_, _, rfl, World.ownsRow_nil _ _ _ _, own_keep HO5.out ((Mod.refl (fun _ => False) w5).drew) (fun _ _ _ h => h), HM5.out.drew⟩
  · rw [if_neg h1] at hr
    subst hr
    have h2 : rightP root = false := by simpa using h1
    rw [h2]
    clear h1
    go_wp2_with fail
    refine bodyPost_ret (v := .tuple #[.slice none 0 0, .slice none 0 0, .int .i64 2]) (by simp [results, Tryd.results20, go_sem]) rfl ?_
    unfold RChPost
    exact ⟨_, _, rfl, World.ownsRow_nil _ _ _ _, World.ownsRow_nil _ _ _ _, HM.out⟩
end Blob
end Go.Proofs.YthgcjfpaekpeeaaDoor
