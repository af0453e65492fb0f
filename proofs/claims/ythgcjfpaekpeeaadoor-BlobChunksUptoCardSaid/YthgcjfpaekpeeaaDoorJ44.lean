/- Joined texts: BlobReadsL. -/
import Derived.Test.YthgcjfpaekpeeaaDoorJ42
/- The walk of the law BlobReads. -/
namespace Go.Proofs.YthgcjfpaekpeeaaDoor
set_option linter.unusedVariables false
set_option linter.unusedSimpArgs false
open Go.RowKit K Wire Go.Maps
namespace Blob
open Go.Proofs.YthgcjfpaekpeeaaDoor.Obj

theorem rdR_asked (objs : List Ob) (lo hi : Int) (p : Part) (x : BS) (h : 0 ≤ p.size ∧ p.size ≤ 262144) : ((rdR objs lo hi p x).asked.length : Int) ≤ x.asked.length + 5300000 := by
  unfold rdR
  cases hn : nodeOf objs p (-1) with
  | bad e => simp only [BS.ask, List.length_append, List.length_cons, List.length_nil]; omega
  | chunk s => simp only [BS.ask, List.length_append, List.length_cons, List.length_nil]; omega
  | fan L kids =>
    obtain ⟨_, h1, h2, _, _, hs, hk⟩ := fan_level hn
    have := rdF_asked objs lo hi (L - 1).toNat kids 0 (x.ask p.id) (fun k hk' => (hk k hk').1)
    have hs2 : sizes kids = p.size := hs
    rw [hs2] at this
    have e1 : (((L - 1).toNat : Int) + 1) = L := by omega
    rw [e1] at this
    have hle : L * p.size ≤ 20 * p.size := Int.mul_le_mul_of_nonneg_right h2 h.1
    simp only [rdF, BS.ask, List.length_append, List.length_cons, List.length_nil] at this ⊢
    omega
theorem readL_asked (objs : List Ob) (root : Part) (from_ n : Int) : (readL objs root from_ n).2.1.length ≤ 100000000 := by
  unfold readL
  split
  · rename_i h
    have hp := rightP_spec h.1
    split
    · have := rdR_asked objs from_ (if n < root.size - from_ then from_ + n else root.size) root ⟨[], [], [], 0⟩ hp.2
      generalize rdR objs from_ (if n < root.size - from_ then from_ + n else root.size) root ⟨[], [], [], 0⟩ = y at *
      split
      · simp only [List.length_nil] at this ⊢; omega
      · simp only [List.length_nil] at this ⊢; omega
    · simp
  · simp
theorem obsIn {w : World} {A : Option Addr} {objs : List Ob} (h : ObjsIn w A objs) : ObsOk objs := ⟨by have := h.many; omega, fun o ho => by have := h.small o ho; omega⟩
set_option maxRecDepth 100000 in
set_option maxHeartbeats 4000000 in
theorem blobReads_calls (A : Option Addr) (c : Nat) (objs : List Ob) (p : Part) (from_ n : Int) (w : World) (hK : Hash.Keys w) (hO : ObjsIn w A objs) (hps : In64 p.size) (hpi : p.id.size ≤ 1048576) (hf : (Lit.int .i64 from_).wf = true) (hn : (Lit.int .i64 n).wf = true) :
    Calls Tryd.prog 4 #[.slice A objs.length c, .agg #[.string p.id, .int .i64 p.size], .int .i64 from_, .int .i64 n] w fun e w' => e = .returned (.bool true) ∧ Below w.heap.size w w' := by
  have hf2 := in64_wf hf
  have hn2 := in64_wf hn
  have hlen := readL_asked objs p from_ n
  have hpr := fun (b0 b1 b2 : Nat) (w2 : World) (hI : (askG (w.heap.size + 1) b0 b1 b2 A c objs).I [] w2) (hB : w.heap.size + 1 ≤ w2.heap.size) => pRead_calls (askG_ok (w.heap.size + 1) b0 b1 b2 A c objs) (obsIn hO) p from_ n w2 hI hB hf2 hn2
  have hrr := fun (w2 : World) (h1 : Cells w2 A (objs.flatMap oc)) (h2 : objs.flatMap oc ≠ [] → ∀ ad, A = some ad → ad.block < w2.heap.size) => rRead_calls A c (obsIn hO) p from_ n w2 h1 h2 hf2 hn2
  unfold ReadPost at hpr
  unfold RReadPost at hrr
  generalize readL objs p from_ n = R at *
  obtain ⟨DT, AS, BD⟩ := R
  dsimp only [askG] at hpr hrr hlen
  have HPR := Lib.hid hpr
  have HRR := Lib.hid hrr
  have HO := Lib.hid hO
  have hm0 := (Mod.refl (fun _ => False) w).alloc (.cells #[.string p.id, .int .i64 p.size] 25)
  have HB0 := Lib.hid (Has.new w [.string p.id, .int .i64 p.size] 25)
  have HM0 := Lib.hid hm0
  have HK := Lib.hid (hK.keep hm0 (fun h => h))
  clear hpr hrr hO hK hm0 hf2 hn2 hf hn hps hpi
  go_enter Tryd.func4, Tryd.ntmps4
  go_wp2_with fail
  refine (shown_calls _ HK.out).mono ?_
  rintro e w2 ⟨rfl, hm2⟩
  have hb2 := HB0.out.keep hm2 (fun h => h)
  have hm02 := Mod.trans HM0.out hm2 (fun _ _ h => h)
  have hz2 : w.heap.size + 1 ≤ w2.heap.size := hb2.lt
  have hb3 := hb2.alloc (.cells #[.slice none 0 0] 32)
  have fv0 := fun (w' : World) (mm : Mod (fun k => w.heap.size + 1 ≤ k) (w2.alloc (.cells #[.slice none 0 0] 32)).drew w') => (mm.cell (p := ⟨w.heap.size, 0, none⟩) hb3.lt (by show ¬ w.heap.size + 1 ≤ w.heap.size; omega)).trans (hb3.cell (o := 0) rfl)
  have fv1 := fun (w' : World) (mm : Mod (fun k => w.heap.size + 1 ≤ k) (w2.alloc (.cells #[.slice none 0 0] 32)).drew w') => (mm.cell (p := ⟨w.heap.size, 1, none⟩) hb3.lt (by show ¬ w.heap.size + 1 ≤ w.heap.size; omega)).trans (hb3.cell (o := 1) rfl)
  have hI : AskIs (w.heap.size + 1) w2.heap.size (w2.heap.size + 1 + 1) (w2.heap.size + 1) A c objs (.slice none 0 0) [] ((((w2.alloc (.cells #[.slice none 0 0] 32)).drew).alloc (.cells #[.slice A objs.length c] 26)).alloc (.cells #[.pointer (some ⟨w2.heap.size, 0, none⟩)] 37)) :=
    ⟨Has.lit (by simp), (Has.lit (by simp)).alloc _, ((Has.new w2 [.slice none 0 0] _).alloc _).alloc _, World.ownsRow_nil _ _ _ _, ((((HO.out.row.keep hm02 (fun _ _ h => h)).alloc _).keep ((Mod.refl (fun _ => False) _).drew) (fun _ _ h => h)).alloc _).alloc _, fun hne ad ha => by have := HO.out.low hne ad ha; omega, hz2, by have := HO.out.many; omega⟩
  have HI := Lib.hid hI
  have HB3 := Lib.hid hb3
  have HM2 := Lib.hid (hm02.alloc (.cells #[.slice none 0 0] 32))
  clear hI hb2 hb3 hm02 hm2 HB0 HM0
  go_wp2_with fail
  refine region_mT (fun k => w.heap.size + 1 ≤ k) (by kernel_rfl) ?_
  simp only [List.length_cons, List.length_nil, List.replicate]
  refine take0T (v := ?v1) (oi := ?o1) 0 ?hi1 (by kernel_rfl) (by kernel_rfl) (by kernel_rfl) ?hq1 ?hy1 ?_
  case hi1 => (simp only [List.getElem?_toArray, List.getElem?_cons_zero, List.getElem?_cons_succ]; rfl)
  case hq1 => exact fun _ _ _ h => h
  case hy1 => first | (refine ry_notS ?_; rfl) | (refine ry_runS (by rfl) (fun w' hw' => ?_); go_simp; try rfl)
  simp only [Act.put, List.setIfInBounds_toArray, List.set_cons_zero, List.set_cons_succ]
  refine take0T (v := ?v2) (oi := ?o2) 2 ?hi2 (by kernel_rfl) (by kernel_rfl) (by kernel_rfl) ?hq2 ?hy2 ?_
  case hi2 => (simp only [List.getElem?_toArray, List.getElem?_cons_zero, List.getElem?_cons_succ]; rfl)
  case hq2 => exact fun _ _ _ h => h
  case hy2 => first | (refine ry_notS ?_; rfl) | (refine ry_runS (by rfl) (fun w' hw' => ?_); go_simp; try rfl)
  simp only [Act.put, List.setIfInBounds_toArray, List.set_cons_zero, List.set_cons_succ]
  refine take0T (v := ?v3) (oi := ?o3) 3 ?hi3 (by kernel_rfl) (by kernel_rfl) (by kernel_rfl) ?hq3 ?hy3 ?_
  case hi3 => (simp only [List.getElem?_toArray, List.getElem?_cons_zero, List.getElem?_cons_succ]; rfl)
  case hq3 => exact fun _ _ _ h => h
  case hy3 => first | (refine ry_notS ?_; rfl) | (refine ry_runS (by rfl) (fun w' hw' => ?_); go_simp; try rfl)
  simp only [Act.put, List.setIfInBounds_toArray, List.set_cons_zero, List.set_cons_succ]
  refine take0T (v := ?v4) (oi := ?o4) 4 ?hi4 (by kernel_rfl) (by kernel_rfl) (by kernel_rfl) ?hq4 ?hy4 ?_
  case hi4 => (simp only [List.getElem?_toArray, List.getElem?_cons_zero, List.getElem?_cons_succ]; rfl)
  case hq4 => exact fun _ _ _ h => h
  case hy4 => first | (refine ry_notS ?_; rfl) | (refine ry_runS (by rfl) (fun w' hw' => ?_); go_simp; try rfl)
  simp only [Act.put, List.setIfInBounds_toArray, List.set_cons_zero, List.set_cons_succ]
  refine step0T (o := ?o5) 1 (by kernel_rfl) ?hi5 ?hw5 ?_
  case hi5 => (simp only [List.getElem?_toArray, List.getElem?_cons_zero, List.getElem?_cons_succ]; rfl)
  case hw5 => rfl
  go_simp
  refine (asked_mk _ _ _ _ _).mono ?_
  rintro e w3 ⟨rfl, rfl⟩
  refine ⟨.inl (((Mod.refl _ _).alloc _).alloc _), ?_⟩
  refine step0T (o := ?o6) 5 (by kernel_rfl) ?hi6 ?hw6 ?_
  case hi6 => (simp only [List.getElem?_toArray, List.getElem?_cons_zero, List.getElem?_cons_succ]; rfl)
  case hw6 => rfl
  go_simp
  refine (HPR.out w2.heap.size (w2.heap.size + 1 + 1) (w2.heap.size + 1) _ ⟨_, HI.out⟩ (by simp; omega)).mono ?_
  rintro e w5 ⟨rfl, hI5, hm5⟩
  refine ⟨.inl (hm5.mono fun k _ hk => hk.1), ?_⟩
  refine take0T (v := ?v7) (oi := ?o7) 6 ?hi7 (by kernel_rfl) (by kernel_rfl) (by kernel_rfl) ?hq7 ?hy7 ?_
  case hi7 => (simp only [List.getElem?_toArray, List.getElem?_cons_zero, List.getElem?_cons_succ]; rfl)
  case hq7 => exact fun _ _ _ h => h
  case hy7 => first | (refine ry_notS ?_; rfl) | (refine ry_runS (by rfl) (fun w' hw' => ?_); go_simp; try rfl)
  simp only [Act.put, List.setIfInBounds_toArray, List.set_cons_zero, List.set_cons_succ]
  refine take0T (v := ?v8) (oi := ?o8) 7 ?hi8 (by kernel_rfl) (by kernel_rfl) (by kernel_rfl) ?hq8 ?hy8 ?_
  case hi8 => (simp only [List.getElem?_toArray, List.getElem?_cons_zero, List.getElem?_cons_succ]; rfl)
  case hq8 => exact fun _ _ _ h => h
  case hy8 => first | (refine ry_notS ?_; rfl) | (refine ry_runS (by rfl) (fun w' hw' => ?_); go_simp; try rfl)
  simp only [Act.put, List.setIfInBounds_toArray, List.set_cons_zero, List.set_cons_succ]
  refine take0T (v := ?v9) (oi := ?o9) 8 ?hi9 (by kernel_rfl) (by kernel_rfl) (by kernel_rfl) ?hq9 ?hy9 ?_
  case hi9 => (simp only [List.getElem?_toArray, List.getElem?_cons_zero, List.getElem?_cons_succ]; rfl)
  case hq9 => exact fun _ _ _ h => h
  case hy9 => first | (refine ry_notS ?_; rfl) | (refine ry_runS (by rfl) (fun w' hw' => ?_); go_simp; try rfl)
  simp only [Act.put, List.setIfInBounds_toArray, List.set_cons_zero, List.set_cons_succ]
  refine take0T (v := ?v10) (oi := ?o10) 9 ?hi10 (by kernel_rfl) (by kernel_rfl) (by kernel_rfl) ?hq10 ?hy10 ?_
  case hi10 => (simp only [List.getElem?_toArray, List.getElem?_cons_zero, List.getElem?_cons_succ]; rfl)
  case hq10 => exact fun _ _ _ h => h
  case hy10 => first | (refine ry_notS ?_; rfl) | (refine ry_runS (by rfl) (fun w' hw' => ?_); go_simp; try rfl)
  simp only [Act.put, List.setIfInBounds_toArray, List.set_cons_zero, List.set_cons_succ]
  refine take0T (v := ?v11) (oi := ?o11) 10 ?hi11 (by kernel_rfl) (by kernel_rfl) (by kernel_rfl) ?hq11 ?hy11 ?_
  case hi11 => (simp only [List.getElem?_toArray, List.getElem?_cons_zero, List.getElem?_cons_succ]; rfl)
  case hq11 => exact fun _ _ _ h => h
  case hy11 => first | (refine ry_notS ?_; rfl) | (refine ry_runS (by rfl) (fun w' hw' => ?_); go_simp; try rfl)
  simp only [Act.put, List.setIfInBounds_toArray, List.set_cons_zero, List.set_cons_succ]
  refine wpAnyT_done (by kernel_rfl) ?_
  clear fv0 fv1
  obtain ⟨v5, hI5⟩ := hI5
  have hm6 : Mod (fun k => w.heap.size + 1 ≤ k) (w2.alloc (.cells #[.slice none 0 0] 32)) w5 := Mod.trans ((((Mod.refl _ _).drew).alloc _).alloc _) (hm5.mono fun k _ hk => hk.1) (fun _ _ h => h)
  have hb5 := HB3.out.keep hm6 (by show ¬ w.heap.size + 1 ≤ w.heap.size; omega)
  have q0 := hb5.cell (o := 0) rfl
  have q1 := hb5.cell (o := 1) rfl
  have hM5 := Mod.trans HM2.out hm6 (fun i hi h => by omega)
  obtain ⟨A5, c5, rfl, _, hcl5, _, _⟩ := own_cells hI5.own
  have HR := Lib.hid (HRR.out w5 hI5.row (fun hne ad ha => by have := HO.out.low hne ad ha; have := hM5.size; omega))
  have HI5 := Lib.hid hI5
  have HC5 := Lib.hid hcl5
  have HM5 := Lib.hid hM5
  clear hm5 hm6 hb5 hM5 hcl5 hI5 HRR HPR
  go_wp2_with fail
  refine HR.out.mono ?_
  rintro e w6 ⟨v6, rfl, ho6, hm6⟩
  obtain ⟨A6, c6, rfl, _, hcl6, _, _⟩ := own_cells ho6
  have hx := (HI5.out.at0.keep hm6 (fun h => h)).cell (o := 0) rfl
  have HS := Lib.hid (sameTexts_calls A5 A6 c5 c6 AS w6 (HC5.out.keep hm6 (fun _ _ h => h)) hcl6 hlen)
  have HM6 := Lib.hid (Mod.trans HM5.out hm6 (fun _ _ h => h))
  clear ho6 hm6 hcl6
  go_wp2_with fail
  refine HS.out.mono ?_
  rintro e w7 ⟨rfl, hm7⟩
  have HM7 := Lib.hid (Mod.trans HM6.out hm7 (fun _ _ h => h))
  clear hm7
  go_wp2_with fail
  go_ret
  exact ⟨rfl, HM7.out.below (fun _ _ h => h)⟩
end Blob
end Go.Proofs.YthgcjfpaekpeeaaDoor
