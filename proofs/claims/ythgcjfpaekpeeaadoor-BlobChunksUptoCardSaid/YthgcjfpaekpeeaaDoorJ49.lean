/- Joined texts: BlobChunksL. -/
import Derived.Test.YthgcjfpaekpeeaaDoorJ48
import Derived.Test.YthgcjfpaekpeeaaDoorJ44
/- The walk of the law BlobChunks. -/
namespace Go.Proofs.YthgcjfpaekpeeaaDoor
set_option linter.unusedVariables false
set_option linter.unusedSimpArgs false
open Go.RowKit K Wire Go.Maps
namespace Blob
open Go.Proofs.YthgcjfpaekpeeaaDoor.Obj

theorem chkB_len (objs : List Ob) (p : Part) (h : 0 ≤ p.size ∧ p.size ≤ 262144) : (chkB objs (-1) p ⟨[], [], [], 0⟩).asked.length ≤ 100000000 ∧ (chkB objs (-1) p ⟨[], [], [], 0⟩).parts.length ≤ 100000000 := by
  unfold chkB
  rw [if_neg (by simp)]
  cases hn : nodeOf objs p (-1) with
  | bad e => simp [BS.ask]
  | chunk s => simp [BS.ask]
  | fan L kids =>
    obtain ⟨_, h1, h2, _, _, hs, hk⟩ := fan_level hn
    have ha := chkF_asked objs (L - 1).toNat kids (BS.ask ⟨[], [], [], 0⟩ p.id) (fun k hk' => (hk k hk').1)
    have hp := chkF_parts objs (L - 1).toNat kids (BS.ask ⟨[], [], [], 0⟩ p.id) (fun k hk' => (hk k hk').1)
    have hs2 : sizes kids = p.size := hs
    rw [hs2] at ha hp
    have e1 : ((L - 1).toNat : Int) = L - 1 := by omega
    rw [e1] at ha
    have hle : (L - 1) * p.size ≤ 20 * p.size := Int.mul_le_mul_of_nonneg_right (by omega) h.1
    simp only [chkF, BS.ask, List.length_append, List.length_cons, List.length_nil] at ha hp ⊢
    omega
theorem chunksL_len (objs : List Ob) (root : Part) : (chunksL objs root).1.length ≤ 100000000 ∧ (chunksL objs root).2.1.length ≤ 100000000 := by
  unfold chunksL
  split
  · rename_i h
    have hp := rightP_spec h
    have hl := chkB_len objs root hp.2
    generalize chkB objs (-1) root ⟨[], [], [], 0⟩ = y at *
    split
    · split
      · exact ⟨by simp, hl.1⟩
      · exact ⟨hl.2, hl.1⟩
    · simp
  · simp
set_option maxRecDepth 100000 in
set_option maxHeartbeats 4000000 in
theorem blobChunks_calls (A : Option Addr) (c : Nat) (objs : List Ob) (p : Part) (w : World) (hK : Hash.Keys w) (hO : ObjsIn w A objs) (hps : In64 p.size) (hpi : p.id.size ≤ 1048576) :
    Calls Tryd.prog 6 #[.slice A objs.length c, .agg #[.string p.id, .int .i64 p.size]] w fun e w' => e = .returned (.bool true) ∧ Below w.heap.size w w' := by
  have hlen := chunksL_len objs p
  have hpr := fun (b0 b1 b2 : Nat) (w2 : World) (hI : (askG (w.heap.size + 1) b0 b1 b2 A c objs).I [] w2) (hB : w.heap.size + 1 ≤ w2.heap.size) => pChunks_calls (askG_ok (w.heap.size + 1) b0 b1 b2 A c objs) (obsIn hO) p w2 hI hB
  have hrr := fun (w2 : World) (h1 : Cells w2 A (objs.flatMap oc)) (h2 : objs.flatMap oc ≠ [] → ∀ ad, A = some ad → ad.block < w2.heap.size) => rChunks_calls A c (obsIn hO) p w2 h1 h2
  unfold PChPost at hpr
  unfold RChPost at hrr
  generalize chunksL objs p = R at *
  obtain ⟨PT, AS, BD⟩ := R
  dsimp only [askG] at hpr hrr hlen
  have hlen1 := hlen.1
  have hlen2 := hlen.2
  have HPR := Lib.hid hpr
  have HRR := Lib.hid hrr
  have HO := Lib.hid hO
  have hm0 := (Mod.refl (fun _ => False) w).alloc (.cells #[.string p.id, .int .i64 p.size] 25)
  have HB0 := Lib.hid (Has.new w [.string p.id, .int .i64 p.size] 25)
  have HM0 := Lib.hid hm0
  have HK := Lib.hid (hK.keep hm0 (fun h => h))
  clear hpr hrr hO hK hm0 hps hpi hlen
  go_enter Tryd.func6, Tryd.ntmps6
  go_wp2_with fail
  refine (shown_calls _ HK.out).mono ?_
  rintro e w2 ⟨rfl, hm2⟩
  have hb2 := HB0.out.keep hm2 (fun h => h)
  have hm02 := Mod.trans HM0.out hm2 (fun _ _ h => h)
  have hz2 : w.heap.size + 1 ≤ w2.heap.size := hb2.lt
  have hb3 := hb2.alloc (.cells #[.slice none 0 0] 32)
  have fv0 := fun (w' : World) (mm : Mod (fun k => w.heap.size + 1 ≤ k) (w2.alloc (.cells #[.slice none 0 0] 32)).drew w') => (mm.cell (p := ⟨w.heap.size, 0, none⟩) hb3.lt (by show ¬ w.heap.size + 1 ≤ w.heap.size; omega)).trans (hb3.cell (o := 0) rfl)
  have fv1 := fun (w' : World) (mm : Mod (fun k => w.heap.size + 1 ≤ k) (w2.alloc (.cells #[.slice none 0 0] 32)).drew w') => (mm.cell (p := ⟨w.heap.size, 1, none⟩) hb3.lt (by show ¬ w.heap.size + 1 ≤ w.heap.size; omega)).trans (hb3.cell (o := 1) rfl)
  have hI : AskIs (w.heap.size + 1) w2.heap.size (w2.heap.size + 1 + 1) (w2.heap.size + 1) A c objs (.slice none 0 0) [] ((((w2.alloc (.cells #[.slice none 0 0] 32)).drew).alloc (.cells #[.slice A objs.length c] 26)).alloc (.cells #[.pointer (some ⟨w2.heap.size, 0, none⟩)] 37)) :=
    ⟨Has.lit (by simp), (Has.lit (by simp)).alloc _, ((Has.new w2 [.slice none 0 0] _).alloc _).alloc _, World.ownsRow_nil _ _ _ _, ((((HO.out.row.keep hm02 (fun _ _ h => h)).alloc _).keep ((Mod.refl (fun _ => False) _).drew) (fun _ _ h => h)).alloc _).alloc _, fun hne ad ha => by have := HO.out.low hne ad ha; omega, hz2, by have := HO.out.many; omega⟩
  have HI := Lib.hid hI
  have HB3 := Lib.hid hb3
  have HM2 := Lib.hid (hm02.alloc (.cells #[.slice none 0 0] 32))
  clear hI hb2 hb3 hm02 hm2 HB0 HM0
  go_wp2_with fail
  refine region_mT (fun k => w.heap.size + 1 ≤ k) (by kernel_rfl) ?_
  simp only [List.length_cons, List.length_nil, List.replicate]
  refine take0T (v := ?v1) (oi := ?o1) 0 ?hi1 (by kernel_rfl) (by kernel_rfl) (by kernel_rfl) ?hq1 ?hy1 ?_
  case hi1 => (simp only [List.getElem?_toArray, List.getElem?_cons_zero, List.getElem?_cons_succ]; rfl)
  case hq1 => exact fun _ _ _ h => h
  case hy1 => first | (refine ry_notS ?_; rfl) | (refine ry_runS (by rfl) (fun w' hw' => ?_); go_simp; try rfl)
  simp only [Act.put, List.setIfInBounds_toArray, List.set_cons_zero, List.set_cons_succ]
  refine take0T (v := ?v2) (oi := ?o2) 2 ?hi2 (by kernel_rfl) (by kernel_rfl) (by kernel_rfl) ?hq2 ?hy2 ?_
  case hi2 => (simp only [List.getElem?_toArray, List.getElem?_cons_zero, List.getElem?_cons_succ]; rfl)
  case hq2 => exact fun _ _ _ h => h
  case hy2 => first | (refine ry_notS ?_; rfl) | (refine ry_runS (by rfl) (fun w' hw' => ?_); go_simp; try rfl)
  simp only [Act.put, List.setIfInBounds_toArray, List.set_cons_zero, List.set_cons_succ]
  refine step0T (o := ?o3) 1 (by kernel_rfl) ?hi3 ?hw3 ?_
  case hi3 => (simp only [List.getElem?_toArray, List.getElem?_cons_zero, List.getElem?_cons_succ]; rfl)
  case hw3 => rfl
  go_simp
  refine (asked_mk _ _ _ _ _).mono ?_
  rintro e w3 ⟨rfl, rfl⟩
  refine ⟨.inl (((Mod.refl _ _).alloc _).alloc _), ?_⟩
  refine step0T (o := ?o4) 3 (by kernel_rfl) ?hi4 ?hw4 ?_
  case hi4 => (simp only [List.getElem?_toArray, List.getElem?_cons_zero, List.getElem?_cons_succ]; rfl)
  case hw4 => rfl
  go_simp
  refine (HPR.out w2.heap.size (w2.heap.size + 1 + 1) (w2.heap.size + 1) _ ⟨_, HI.out⟩ (by simp; omega)).mono ?_
  rintro e w5 ⟨vp, rfl, hop, hI5, hm5⟩
  refine ⟨.inl (hm5.mono fun k _ hk => hk.1), ?_⟩
  refine take0T (v := ?v5) (oi := ?o5) 4 ?hi5 (by kernel_rfl) (by kernel_rfl) (by kernel_rfl) ?hq5 ?hy5 ?_
  case hi5 => (simp only [List.getElem?_toArray, List.getElem?_cons_zero, List.getElem?_cons_succ]; rfl)
  case hq5 => exact fun _ _ _ h => h
  case hy5 => first | (refine ry_notS ?_; rfl) | (refine ry_runS (by rfl) (fun w' hw' => ?_); go_simp; try rfl)
  simp only [Act.put, List.setIfInBounds_toArray, List.set_cons_zero, List.set_cons_succ]
  refine take0T (v := ?v6) (oi := ?o6) 5 ?hi6 (by kernel_rfl) (by kernel_rfl) (by kernel_rfl) ?hq6 ?hy6 ?_
  case hi6 => (simp only [List.getElem?_toArray, List.getElem?_cons_zero, List.getElem?_cons_succ]; rfl)
  case hq6 => exact fun _ _ _ h => h
  case hy6 => first | (refine ry_notS ?_; rfl) | (refine ry_runS (by rfl) (fun w' hw' => ?_); go_simp; try rfl)
  simp only [Act.put, List.setIfInBounds_toArray, List.set_cons_zero, List.set_cons_succ]
  refine take0T (v := ?v7) (oi := ?o7) 6 ?hi7 (by kernel_rfl) (by kernel_rfl) (by kernel_rfl) ?hq7 ?hy7 ?_
  case hi7 => (simp only [List.getElem?_toArray, List.getElem?_cons_zero, List.getElem?_cons_succ]; rfl)
  case hq7 => exact fun _ _ _ h => h
  case hy7 => first | (refine ry_notS ?_; rfl) | (refine ry_runS (by rfl) (fun w' hw' => ?_); go_simp; try rfl)
  simp only [Act.put, List.setIfInBounds_toArray, List.set_cons_zero, List.set_cons_succ]
  refine take0T (v := ?v8) (oi := ?o8) 7 ?hi8 (by kernel_rfl) (by kernel_rfl) (by kernel_rfl) ?hq8 ?hy8 ?_
  case hi8 => (simp only [List.getElem?_toArray, List.getElem?_cons_zero, List.getElem?_cons_succ]; rfl)
  case hq8 => exact fun _ _ _ h => h
  case hy8 => first | (refine ry_notS ?_; rfl) | (refine ry_runS (by rfl) (fun w' hw' => ?_); go_simp; try rfl)
  simp only [Act.put, List.setIfInBounds_toArray, List.set_cons_zero, List.set_cons_succ]
  refine take0T (v := ?v9) (oi := ?o9) 8 ?hi9 (by kernel_rfl) (by kernel_rfl) (by kernel_rfl) ?hq9 ?hy9 ?_
  case hi9 => (simp only [List.getElem?_toArray, List.getElem?_cons_zero, List.getElem?_cons_succ]; rfl)
  case hq9 => exact fun _ _ _ h => h
  case hy9 => first | (refine ry_notS ?_; rfl) | (refine ry_runS (by rfl) (fun w' hw' => ?_); go_simp; try rfl)
  simp only [Act.put, List.setIfInBounds_toArray, List.set_cons_zero, List.set_cons_succ]
  refine wpAnyT_done (by kernel_rfl) ?_
  clear fv0 fv1
  obtain ⟨v5, hI5⟩ := hI5
  have hm6 : Mod (fun k => w.heap.size + 1 ≤ k) (w2.alloc (.cells #[.slice none 0 0] 32)) w5 := Mod.trans ((((Mod.refl _ _).drew).alloc _).alloc _) (hm5.mono fun k _ hk => hk.1) (fun _ _ h => h)
  have hb5 := HB3.out.keep hm6 (by show ¬ w.heap.size + 1 ≤ w.heap.size; omega)
  have q0 := hb5.cell (o := 0) rfl
  have q1 := hb5.cell (o := 1) rfl
  have hM5 := Mod.trans HM2.out hm6 (fun i hi h => by omega)
  obtain ⟨A5, c5, rfl, _, hcl5, _, _⟩ := own_cells hI5.own
  obtain ⟨A4, c4, rfl, _, hcl4, _, _⟩ := own_cells hop
  have HR := Lib.hid (HRR.out w5 hI5.row (fun hne ad ha => by have := HO.out.low hne ad ha; have := hM5.size; omega))
  have HI5 := Lib.hid hI5
  have HC5 := Lib.hid hcl5
  have HC4 := Lib.hid hcl4
  have HM5 := Lib.hid hM5
  clear hm5 hm6 hb5 hM5 hcl5 hcl4 hop hI5 HRR HPR
  go_wp2_with fail
  refine HR.out.mono ?_
  rintro e w6 ⟨v6, u6, rfl, hop6, ho6, hm6⟩
  obtain ⟨A6, c6, rfl, _, hcl6, _, _⟩ := own_cells ho6
  obtain ⟨A7, c7, rfl, _, hcl7, _, _⟩ := own_cells hop6
  have hat := HI5.out.at0.keep hm6 (fun h => h)
  have HS1 := Lib.hid (sameParts_calls A4 A7 c4 c7 PT w6 (HC4.out.keep hm6 (fun _ _ h => h)) hcl7 hlen1)
  have HC5' := Lib.hid (HC5.out.keep hm6 (fun _ _ h => h))
  have HC6 := Lib.hid hcl6
  have HAT := Lib.hid hat
  have HM6 := Lib.hid (Mod.trans HM5.out hm6 (fun _ _ h => h))
  clear ho6 hop6 hm6 hcl6 hcl7 hat HC5 HC4
  go_wp2_with fail
  refine HS1.out.mono ?_
  rintro e w7 ⟨rfl, hm7⟩
  have hx := (HAT.out.keep hm7 (fun h => h)).cell (o := 0) rfl
  have HS := Lib.hid (sameTexts_calls A5 A6 c5 c6 AS w7 (HC5'.out.keep hm7 (fun _ _ h => h)) (HC6.out.keep hm7 (fun _ _ h => h)) hlen2)
  have HM7 := Lib.hid (Mod.trans HM6.out hm7 (fun _ _ h => h))
  clear hm7
  go_wp2_with fail
  refine HS.out.mono ?_
  rintro e w8 ⟨rfl, hm8⟩
  have HM8 := Lib.hid (Mod.trans HM7.out hm8 (fun _ _ h => h))
  clear hm8
  go_wp2_with fail
  go_ret
  exact ⟨rfl, HM8.out.below (fun _ _ h => h)⟩
end Blob
end Go.Proofs.YthgcjfpaekpeeaaDoor
