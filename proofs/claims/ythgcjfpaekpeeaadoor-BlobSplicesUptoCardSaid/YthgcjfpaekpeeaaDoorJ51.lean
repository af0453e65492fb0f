/- Joined texts: BlobSplicesL. -/
import Derived.Test.YthgcjfpaekpeeaaDoorJ50
import Derived.Test.YthgcjfpaekpeeaaDoorJ43
import Derived.Test.YthgcjfpaekpeeaaDoorJ42
/- The walk of the law BlobSplices. -/
namespace Go.Proofs.YthgcjfpaekpeeaaDoor
set_option linter.unusedVariables false
set_option linter.unusedSimpArgs false
open Go.RowKit K Wire Go.Maps
namespace Blob
open Go.Proofs.YthgcjfpaekpeeaaDoor.Obj

theorem spliceL_len (objs : List Ob) (root : Part) (from_ n : Int) (data : List UInt8) : (spliceL objs root from_ n data).2.1.length ≤ 100000000 := by
  unfold spliceL
  split
  · split
    · simp
    · split
      · simp
      · exact buildR_len _
  · simp
theorem keys_low {w : World} (h : Hash.Keys w) : 0 < w.heap.size := by
  obtain ⟨T, fr, g⟩ := h
  exact (Array.getElem?_eq_some_iff.mp g).1
theorem keys_ty {w w1 w2 : World} {Ts : List TypeId} (h : Hash.Keys w) (h1 : Hash.Keys w1) (m : Mod (Ty (w.heap.size + 1) Ts w1) w1 w2) : Hash.Keys w2 :=
  h1.keep m (fun hs => by have := keys_low h; have := hs.1; omega)
structure SpRel (w : World) (root : Part) (ID : ByteArray) (SZ : Int) (OB : List Ob) (b12 : Nat) (A : Option Addr) (wx : World) : Prop where
  box : Has wx w.heap.size [.string root.id, .int .i64 root.size] 25
  part : Has wx b12 [.string ID, .int .i64 SZ] 25
  row : Cells wx A (OB.flatMap oc)
  mod : Mod (fun _ => False) w wx
set_option maxRecDepth 100000 in
set_option maxHeartbeats 8000000 in
theorem blobSplices_calls (A : Option Addr) (c : Nat) (objs : List Ob) (p : Part) (from_ n : Int) (data : ByteArray) (w : World) (hK : Hash.Keys w) (hO : ObjsIn w A objs) (hps : In64 p.size) (hpi : p.id.size ≤ 1048576) (hf : (Lit.int .i64 from_).wf = true) (hn : (Lit.int .i64 n).wf = true) (hd : data.size ≤ 1048576) :
    Calls Tryd.prog 5 #[.slice A objs.length c, .agg #[.string p.id, .int .i64 p.size], .int .i64 from_, .int .i64 n, .string data] w fun e w' => e = .returned (.bool true) ∧ Below w.heap.size w w' := by
  have hf2 := in64_wf hf
  have hn2 := in64_wf hn
  have hcs := cutD_size data
  have HCUT := Lib.hid (fun w1 => cut_calls data w1 (by omega))
  have hob : ObsOk objs := ⟨by have := hO.many; omega, fun o ho => by have := hO.small o ho; omega⟩
  generalize cutD data = D at *
  have hlen := spliceL_len objs p from_ n D.data.toList
  have hpr := fun (b2 : Nat) (w2 : World) (hI : (fromG (w.heap.size + 1) b2 A c objs).I [] w2) (hB : w.heap.size + 1 ≤ w2.heap.size) (hk : Hash.Keys w2) => pSplice_calls (fromG_ok (w.heap.size + 1) b2 A c objs) hob p from_ n D w2 hI hB (fun w' m => keys_ty hK hk m) hf2 hn2 (by omega)
  have hrr := fun (w2 : World) (h1 : Cells w2 A (objs.flatMap oc)) (h2 : objs.flatMap oc ≠ [] → ∀ ad, A = some ad → ad.block < w2.heap.size) => rSplice_calls A c hob p from_ n D w2 h1 h2 hf2 hn2 (by omega)
  unfold SplPost at hpr
  unfold RSplPost at hrr
  generalize spliceL objs p from_ n D.data.toList = R at *
  obtain ⟨⟨ID, SZ⟩, OB, ER⟩ := R
  dsimp only [fromG] at hpr hrr hlen
  have HPR := Lib.hid hpr
  have HRR := Lib.hid hrr
  have HO := Lib.hid hO
  have hm0 := (Mod.refl (fun _ => False) w).alloc (.cells #[.string p.id, .int .i64 p.size] 25)
  have HB0 := Lib.hid (Has.new w [.string p.id, .int .i64 p.size] 25)
  have HM0 := Lib.hid hm0
  have HK := Lib.hid (hK.keep hm0 (fun h => h))
  clear hpr hrr hO hK hm0 hf2 hn2 hf hn hps hpi hd hcs hob
  go_enter Tryd.func5, Tryd.ntmps5
  go_wp2_with fail
  refine (shown_calls _ HK.out).mono ?_
  rintro e w1 ⟨rfl, hm1⟩
  have HM1 := Lib.hid hm1
  clear hm1
  go_wp2_with fail
  refine (HCUT.out _).mono ?_
  rintro e w2 ⟨rfl, hw⟩
  subst hw
  have hb2 := HB0.out.keep HM1.out (fun h => h)
  have hm02 := Mod.trans HM0.out HM1.out (fun _ _ h => h)
  have hk2 := HK.out.keep HM1.out (fun h => h)
  have hz2 : w.heap.size + 1 ≤ w2.heap.size := hb2.lt
  have fv0 := fun (w' : World) (mm : Mod (fun k => w.heap.size + 1 ≤ k) w2.drew w') => (mm.cell (p := ⟨w.heap.size, 0, none⟩) hb2.lt (by show ¬ w.heap.size + 1 ≤ w.heap.size; omega)).trans (hb2.cell (o := 0) rfl)
  have fv1 := fun (w' : World) (mm : Mod (fun k => w.heap.size + 1 ≤ k) w2.drew w') => (mm.cell (p := ⟨w.heap.size, 1, none⟩) hb2.lt (by show ¬ w.heap.size + 1 ≤ w.heap.size; omega)).trans (hb2.cell (o := 1) rfl)
  have hlow : objs.flatMap oc ≠ [] → ∀ ad, A = some ad → ad.block < w.heap.size + 1 := fun hne ad ha => by have := HO.out.low hne ad ha; omega
  have hmany : objs.length ≤ 100000000 := by have := HO.out.many; omega
  have hrow2 := HO.out.row.keep hm02 (fun _ _ h => h)
  have hd2 := (Mod.refl (fun _ => False) w2).drew
  have HI1 : Hid (FromIs (w.heap.size + 1) w2.heap.size A c objs (w2.drew.alloc (.cells #[.slice A objs.length c] 26))) :=
    Lib.hid ⟨Has.lit (by simp), (hrow2.keep hd2 (fun _ _ h => h)).alloc _, hlow, hmany⟩
  have HI2 : Hid (FromIs (w.heap.size + 1) w2.heap.size A c objs ((w2.drew.alloc (.cells #[.slice A objs.length c] 26)).alloc (.cells #[.string ⟨#[]⟩, .int .i64 0] 25))) :=
    Lib.hid ⟨HI1.out.box2.alloc _, HI1.out.row.alloc _, hlow, hmany⟩
  have HI3 : Hid (FromIs (w.heap.size + 1) (w2.heap.size + 1) A c objs ((w2.drew.alloc (.cells #[.string ⟨#[]⟩, .int .i64 0] 25)).alloc (.cells #[.slice A objs.length c] 26))) :=
    Lib.hid ⟨Has.lit (by simp), ((hrow2.keep hd2 (fun _ _ h => h)).alloc _).alloc _, hlow, hmany⟩
  have HK1 := Lib.hid (hk2.keep (hd2.alloc (.cells #[.slice A objs.length c] 26)) (fun h => h))
  have HK2 := Lib.hid (HK1.out.keep ((Mod.refl (fun _ => False) _).alloc (.cells #[.string ⟨#[]⟩, .int .i64 0] 25)) (fun h => h))
  have HK3 := Lib.hid (hk2.keep ((hd2.alloc (.cells #[.string ⟨#[]⟩, .int .i64 0] 25)).alloc (.cells #[.slice A objs.length c] 26)) (fun h => h))
  have HB2 := Lib.hid hb2
  have HM2 := Lib.hid hm02
  have HLM := Lib.hid hlow
  clear hb2 hm02 hk2 hlow hmany hrow2 hd2 HCUT HM1 HM0 HB0 HK
  go_upto_region 3 with fail
  go_cut [12, 13, 14] from 21 (fun s12 s13 s14 wx => ∃ (b12 : Nat) (Ao : Option Addr) (co : Nat), s12 = .pointer (some ⟨b12, 0, none⟩) ∧ s13 = .slice Ao OB.length co ∧ s14 = .int .i64 ER ∧ Hid (SpRel w p ID SZ OB b12 Ao wx))
  case first =>
    refine region_mT (fun k => w.heap.size + 1 ≤ k) (by kernel_rfl) ?_
    simp only [List.length_cons, List.length_nil, List.replicate]
    refine take0T (v := ?v1) (oi := ?o1) 0 ?hi1 (by kernel_rfl) (by kernel_rfl) (by kernel_rfl) ?hq1 ?hy1 ?_
    case hi1 => (simp only [List.getElem?_toArray, List.getElem?_cons_zero, List.getElem?_cons_succ]; rfl)
    case hq1 => exact fun _ _ _ h => h
    case hy1 => first | (refine ry_notS ?_; rfl) | (refine ry_runS (by rfl) (fun w' hw' => ?_); go_simp; try rfl)
    simp only [Act.put, List.setIfInBounds_toArray, List.set_cons_zero, List.set_cons_succ]
    refine take0T (v := ?v2) (oi := ?o2) 2 ?hi2 (by kernel_rfl) (by kernel_rfl) (by kernel_rfl) ?hq2 ?hy2 ?_
    case hi2 => (simp only [List.getElem?_toArray, List.getElem?_cons_zero, List.getElem?_cons_succ]; rfl)
    case hq2 => exact fun _ _ _ h => h
    case hy2 => first | (refine ry_notS ?_; rfl) | (refine ry_runS (by rfl) (fun w' hw' => ?_); go_simp; try rfl)
    simp only [Act.put, List.setIfInBounds_toArray, List.set_cons_zero, List.set_cons_succ]
    refine take0T (v := ?v3) (oi := ?o3) 3 ?hi3 (by kernel_rfl) (by kernel_rfl) (by kernel_rfl) ?hq3 ?hy3 ?_
    case hi3 => (simp only [List.getElem?_toArray, List.getElem?_cons_zero, List.getElem?_cons_succ]; rfl)
    case hq3 => exact fun _ _ _ h => h
    case hy3 => first | (refine ry_notS ?_; rfl) | (refine ry_runS (by rfl) (fun w' hw' => ?_); go_simp; try rfl)
    simp only [Act.put, List.setIfInBounds_toArray, List.set_cons_zero, List.set_cons_succ]
    refine take0T (v := ?v4) (oi := ?o4) 4 ?hi4 (by kernel_rfl) (by kernel_rfl) (by kernel_rfl) ?hq4 ?hy4 ?_
    case hi4 => (simp only [List.getElem?_toArray, List.getElem?_cons_zero, List.getElem?_cons_succ]; rfl)
    case hq4 => exact fun _ _ _ h => h
    case hy4 => first | (refine ry_notS ?_; rfl) | (refine ry_runS (by rfl) (fun w' hw' => ?_); go_simp; try rfl)
    simp only [Act.put, List.setIfInBounds_toArray, List.set_cons_zero, List.set_cons_succ]
    refine take0T (v := ?v5) (oi := ?o5) 5 ?hi5 (by kernel_rfl) (by kernel_rfl) (by kernel_rfl) ?hq5 ?hy5 ?_
    case hi5 => (simp only [List.getElem?_toArray, List.getElem?_cons_zero, List.getElem?_cons_succ]; rfl)
    case hq5 => exact fun _ _ _ h => h
    case hy5 => first | (refine ry_notS ?_; rfl) | (refine ry_runS (by rfl) (fun w' hw' => ?_); go_simp; try rfl)
    simp only [Act.put, List.setIfInBounds_toArray, List.set_cons_zero, List.set_cons_succ]
    refine two0T (oi := ?o6) (oj := ?p6) 1 11 (by kernel_rfl) ?hi6 ?hj6 ?hw6 ?hx6 ?way6 ?yaw6
    case hi6 => (simp only [List.getElem?_toArray, List.getElem?_cons_zero, List.getElem?_cons_succ]; rfl)
    case hj6 => (simp only [List.getElem?_toArray, List.getElem?_cons_zero, List.getElem?_cons_succ]; rfl)
    case hw6 => rfl
    case hx6 => rfl
    case way6 =>
      go_simp
      refine (from_mk _ _ _ _).mono ?_
      rintro e w3 ⟨rfl, rfl⟩
      refine ⟨.inl (Mod.alloc (Mod.refl _ _) _), ?_⟩
      refine two0T (oi := ?o7) (oj := ?p7) 6 11 (by kernel_rfl) ?hi7 ?hj7 ?hw7 ?hx7 ?way7 ?yaw7
      case hi7 => (simp only [List.getElem?_toArray, List.getElem?_cons_zero, List.getElem?_cons_succ]; rfl)
      case hj7 => (simp only [List.getElem?_toArray, List.getElem?_cons_zero, List.getElem?_cons_succ]; rfl)
      case hw7 => rfl
      case hx7 => rfl
      case way7 =>
        go_simp
        refine (HPR.out w2.heap.size _ HI1.out (by simp; omega) HK1.out).mono ?_
        rintro e w4 ⟨v4, rfl, ho4, hm4⟩
        refine ⟨.inl (hm4.mono fun k _ hk => hk.1), ?_⟩
        have hm5 : Mod (fun k => w.heap.size + 1 ≤ k) w2 w4 := Mod.trans (((Mod.refl _ _).drew).alloc _) (hm4.mono fun k _ hk => hk.1) (fun _ _ h => h)
        obtain ⟨Av, cv, rfl, _, hck, _, _⟩ := own_cells ho4
        refine take0T (v := ?v8) (oi := ?o8) 7 ?hi8 (by kernel_rfl) (by kernel_rfl) (by kernel_rfl) ?hq8 ?hy8 ?_
        case hi8 => (simp only [List.getElem?_toArray, List.getElem?_cons_zero, List.getElem?_cons_succ]; rfl)
        case hq8 => exact fun _ _ _ h => h
        case hy8 => first | (refine ry_notS ?_; rfl) | (refine ry_runS (by rfl) (fun w' hw' => ?_); go_simp; try rfl)
        simp only [Act.put, List.setIfInBounds_toArray, List.set_cons_zero, List.set_cons_succ]
        refine take0T (v := ?v9) (oi := ?o9) 8 ?hi9 (by kernel_rfl) (by kernel_rfl) (by kernel_rfl) ?hq9 ?hy9 ?_
        case hi9 => (simp only [List.getElem?_toArray, List.getElem?_cons_zero, List.getElem?_cons_succ]; rfl)
        case hq9 => exact fun _ _ _ h => h
        case hy9 => first | (refine ry_notS ?_; rfl) | (refine ry_runS (by rfl) (fun w' hw' => ?_); go_simp; try rfl)
        simp only [Act.put, List.setIfInBounds_toArray, List.set_cons_zero, List.set_cons_succ]
        refine take0T (v := ?v10) (oi := ?o10) 9 ?hi10 (by kernel_rfl) (by kernel_rfl) (by kernel_rfl) ?hq10 ?hy10 ?_
        case hi10 => (simp only [List.getElem?_toArray, List.getElem?_cons_zero, List.getElem?_cons_succ]; rfl)
        case hq10 => exact fun _ _ _ h => h
        case hy10 => first | (refine ry_notS ?_; rfl) | (refine ry_runS (by rfl) (fun w' hw' => ?_); go_simp; try rfl)
        simp only [Act.put, List.setIfInBounds_toArray, List.set_cons_zero, List.set_cons_succ]
        refine take0T (v := ?v11) (oi := ?o11) 10 ?hi11 (by kernel_rfl) (by kernel_rfl) (by kernel_rfl) ?hq11 ?hy11 ?_
        case hi11 => (simp only [List.getElem?_toArray, List.getElem?_cons_zero, List.getElem?_cons_succ]; rfl)
        case hq11 => exact fun _ _ _ h => h
        case hy11 => first | (refine ry_notS ?_; rfl) | (refine ry_runS (by rfl) (fun w' hw' => ?_); go_simp; try rfl)
        simp only [Act.put, List.setIfInBounds_toArray, List.set_cons_zero, List.set_cons_succ]
        refine step0T (o := ?o12) 11 (by kernel_rfl) ?hi12 ?hw12 ?_
        case hi12 => (simp only [List.getElem?_toArray, List.getElem?_cons_zero, List.getElem?_cons_succ]; rfl)
        case hw12 => rfl
        go_simp
        refine ⟨.inl (Mod.alloc (Mod.refl _ _) _), ?_⟩
        refine step0T (o := ?o13) 12 (by kernel_rfl) ?hi13 ?hw13 ?_
        case hi13 => (simp only [List.getElem?_toArray, List.getElem?_cons_zero, List.getElem?_cons_succ]; rfl)
        case hw13 => rfl
        go_simp
        refine ⟨.inl (mod_realloc (by have := hm5.size; omega)), ?_⟩
        have hrel : SpRel w p ID SZ OB w4.heap.size Av (w4.alloc (.cells #[.string ID, .int .i64 SZ] 25)) :=
          ⟨(HB2.out.keep hm5 (by show ¬ w.heap.size + 1 ≤ w.heap.size; omega)).alloc _, Has.new w4 _ _, hck.alloc _, (Mod.trans HM2.out hm5 (fun i hi h => by omega)).alloc _⟩
        refine take0T (v := ?v14) (oi := ?o14) 13 ?hi14 (by kernel_rfl) (by kernel_rfl) (by kernel_rfl) ?hq14 ?hy14 ?_
        case hi14 => (simp only [List.getElem?_toArray, List.getElem?_cons_zero, List.getElem?_cons_succ]; rfl)
        case hq14 => exact fun _ _ _ h => h
        case hy14 => first | (refine ry_notS ?_; rfl) | (refine ry_runS (by rfl) (fun w' hw' => ?_); go_simp; try rfl)
        simp only [Act.put, List.setIfInBounds_toArray, List.set_cons_zero, List.set_cons_succ]
        refine take0T (v := ?v15) (oi := ?o15) 14 ?hi15 (by kernel_rfl) (by kernel_rfl) (by kernel_rfl) ?hq15 ?hy15 ?_
        case hi15 => (simp only [List.getElem?_toArray, List.getElem?_cons_zero, List.getElem?_cons_succ]; rfl)
        case hq15 => exact fun _ _ _ h => h
        case hy15 => first | (refine ry_notS ?_; rfl) | (refine ry_runS (by rfl) (fun w' hw' => ?_); go_simp; try rfl)
        simp only [Act.put, List.setIfInBounds_toArray, List.set_cons_zero, List.set_cons_succ]
        refine wpAnyT_done (by kernel_rfl) ?_
        go_wp2_with fail
        go_meet
        case rel => exact ⟨_, _, _, rfl, rfl, rfl, Lib.hid hrel⟩
      case yaw7 =>
        go_simp
        refine ⟨.inl (Mod.alloc (Mod.refl _ _) _), ?_⟩
        refine step0T (o := ?o16) 6 (by kernel_rfl) ?hi16 ?hw16 ?_
        case hi16 => (simp only [List.getElem?_toArray, List.getElem?_cons_zero, List.getElem?_cons_succ]; rfl)
        case hw16 => rfl
        go_simp
        refine (HPR.out w2.heap.size _ HI2.out (by simp; omega) HK2.out).mono ?_
        rintro e w4 ⟨v4, rfl, ho4, hm4⟩
        refine ⟨.inl (hm4.mono fun k _ hk => hk.1), ?_⟩
        have hm5 : Mod (fun k => w.heap.size + 1 ≤ k) w2 w4 := Mod.trans ((((Mod.refl _ _).drew).alloc _).alloc _) (hm4.mono fun k _ hk => hk.1) (fun _ _ h => h)
        obtain ⟨Av, cv, rfl, _, hck, _, _⟩ := own_cells ho4
        have hz : Has ((w2.drew.alloc (.cells #[.slice A objs.length c] 26)).alloc (.cells #[.string ⟨#[]⟩, .int .i64 0] 25)) (w2.heap.size + 1) [.string ⟨#[]⟩, .int .i64 0] 25 := Has.lit (by simp)
        have hz5 := hz.keep hm4 (Ty.not (Has.row hz) (by decide))
        have q0 := hz5.cell (o := 0) rfl
        have q1 := hz5.cell (o := 1) rfl
        have r0 := hz5.frozen 0
        have r1 := hz5.frozen 1
        refine take0T (v := ?v17) (oi := ?o17) 7 ?hi17 (by kernel_rfl) (by kernel_rfl) (by kernel_rfl) ?hq17 ?hy17 ?_
        case hi17 => (simp only [List.getElem?_toArray, List.getElem?_cons_zero, List.getElem?_cons_succ]; rfl)
        case hq17 => exact fun _ _ _ h => h
        case hy17 => first | (refine ry_notS ?_; rfl) | (refine ry_runS (by rfl) (fun w' hw' => ?_); go_simp; try rfl)
        simp only [Act.put, List.setIfInBounds_toArray, List.set_cons_zero, List.set_cons_succ]
        refine take0T (v := ?v18) (oi := ?o18) 8 ?hi18 (by kernel_rfl) (by kernel_rfl) (by kernel_rfl) ?hq18 ?hy18 ?_
        case hi18 => (simp only [List.getElem?_toArray, List.getElem?_cons_zero, List.getElem?_cons_succ]; rfl)
        case hq18 => exact fun _ _ _ h => h
        case hy18 => first | (refine ry_notS ?_; rfl) | (refine ry_runS (by rfl) (fun w' hw' => ?_); go_simp; try rfl)
        simp only [Act.put, List.setIfInBounds_toArray, List.set_cons_zero, List.set_cons_succ]
        refine take0T (v := ?v19) (oi := ?o19) 9 ?hi19 (by kernel_rfl) (by kernel_rfl) (by kernel_rfl) ?hq19 ?hy19 ?_
        case hi19 => (simp only [List.getElem?_toArray, List.getElem?_cons_zero, List.getElem?_cons_succ]; rfl)
        case hq19 => exact fun _ _ _ h => h
        case hy19 => first | (refine ry_notS ?_; rfl) | (refine ry_runS (by rfl) (fun w' hw' => ?_); go_simp; try rfl)
        simp only [Act.put, List.setIfInBounds_toArray, List.set_cons_zero, List.set_cons_succ]
        refine take0T (v := ?v20) (oi := ?o20) 10 ?hi20 (by kernel_rfl) (by kernel_rfl) (by kernel_rfl) ?hq20 ?hy20 ?_
        case hi20 => (simp only [List.getElem?_toArray, List.getElem?_cons_zero, List.getElem?_cons_succ]; rfl)
        case hq20 => exact fun _ _ _ h => h
        case hy20 => first | (refine ry_notS ?_; rfl) | (refine ry_runS (by rfl) (fun w' hw' => ?_); go_simp; try rfl)
        simp only [Act.put, List.setIfInBounds_toArray, List.set_cons_zero, List.set_cons_succ]
        refine step0T (o := ?o21) 12 (by kernel_rfl) ?hi21 ?hw21 ?_
        case hi21 => (simp only [List.getElem?_toArray, List.getElem?_cons_zero, List.getElem?_cons_succ]; rfl)
        case hw21 => rfl
        go_simp
        refine ⟨.inl (Mod.setCell (Mod.setCell (Mod.refl _ _) (p := ⟨w2.heap.size + 1, 0, none⟩) (.inl (by show w.heap.size + 1 ≤ w2.heap.size + 1; omega)) _) (p := ⟨w2.heap.size + 1, 1, none⟩) (.inl (by show w.heap.size + 1 ≤ w2.heap.size + 1; omega)) _), ?_⟩
        have hmS : Mod (fun k => w.heap.size + 1 ≤ k) w4 ((w4.setCell ⟨w2.heap.size + 1, 0, none⟩ (.string ID)).setCell ⟨w2.heap.size + 1, 1, none⟩ (.int .i64 SZ)) := ((Mod.refl (fun k => w.heap.size + 1 ≤ k) w4).set1 (by show w.heap.size + 1 ≤ w2.heap.size + 1; omega) _ _).set1 (by show w.heap.size + 1 ≤ w2.heap.size + 1; omega) _ _
        have hmS2 : Mod (fun k => k = w2.heap.size + 1) w4 ((w4.setCell ⟨w2.heap.size + 1, 0, none⟩ (.string ID)).setCell ⟨w2.heap.size + 1, 1, none⟩ (.int .i64 SZ)) := ((Mod.refl (fun k => k = w2.heap.size + 1) w4).set1 rfl _ _).set1 rfl _ _
        have hown6 := own_keep ho4 hmS2 (fun k hk _ h => by have := hz.lt; simp at hk this; omega)
        obtain ⟨Aq, cq, hq, _, hck6, _, _⟩ := own_cells hown6
        obtain ⟨rfl, rfl⟩ : Av = Aq ∧ cv = cq := by simpa using hq
        have hrel : SpRel w p ID SZ OB (w2.heap.size + 1) Av ((w4.setCell ⟨w2.heap.size + 1, 0, none⟩ (.string ID)).setCell ⟨w2.heap.size + 1, 1, none⟩ (.int .i64 SZ)) :=
          ⟨HB2.out.keep (Mod.trans hm5 hmS (fun _ _ h => h)) (by show ¬ w.heap.size + 1 ≤ w.heap.size; omega), (hz5.set 0 _).set 1 _, hck6, Mod.trans HM2.out (Mod.trans hm5 hmS (fun _ _ h => h)) (fun i hi h => by omega)⟩
        refine take0T (v := ?v22) (oi := ?o22) 13 ?hi22 (by kernel_rfl) (by kernel_rfl) (by kernel_rfl) ?hq22 ?hy22 ?_
        case hi22 => (simp only [List.getElem?_toArray, List.getElem?_cons_zero, List.getElem?_cons_succ]; rfl)
        case hq22 => exact fun _ _ _ h => h
        case hy22 => first | (refine ry_notS ?_; rfl) | (refine ry_runS (by rfl) (fun w' hw' => ?_); go_simp; try rfl)
        simp only [Act.put, List.setIfInBounds_toArray, List.set_cons_zero, List.set_cons_succ]
        refine take0T (v := ?v23) (oi := ?o23) 14 ?hi23 (by kernel_rfl) (by kernel_rfl) (by kernel_rfl) ?hq23 ?hy23 ?_
        case hi23 => (simp only [List.getElem?_toArray, List.getElem?_cons_zero, List.getElem?_cons_succ]; rfl)
        case hq23 => exact fun _ _ _ h => h
        case hy23 => first | (refine ry_notS ?_; rfl) | (refine ry_runS (by rfl) (fun w' hw' => ?_); go_simp; try rfl)
        simp only [Act.put, List.setIfInBounds_toArray, List.set_cons_zero, List.set_cons_succ]
        refine wpAnyT_done (by kernel_rfl) ?_
        go_wp2_with fail
        go_meet
        case rel => exact ⟨_, _, _, rfl, rfl, rfl, Lib.hid hrel⟩
    case yaw6 =>
      go_simp
      refine ⟨.inl (Mod.alloc (Mod.refl _ _) _), ?_⟩
      refine step0T (o := ?o24) 1 (by kernel_rfl) ?hi24 ?hw24 ?_
      case hi24 => (simp only [List.getElem?_toArray, List.getElem?_cons_zero, List.getElem?_cons_succ]; rfl)
      case hw24 => rfl
      go_simp
      refine (from_mk _ _ _ _).mono ?_
      rintro e w3 ⟨rfl, rfl⟩
      refine ⟨.inl (Mod.alloc (Mod.refl _ _) _), ?_⟩
      refine step0T (o := ?o25) 6 (by kernel_rfl) ?hi25 ?hw25 ?_
      case hi25 => (simp only [List.getElem?_toArray, List.getElem?_cons_zero, List.getElem?_cons_succ]; rfl)
      case hw25 => rfl
      go_simp
      refine (HPR.out (w2.heap.size + 1) _ HI3.out (by simp; omega) HK3.out).mono ?_
      rintro e w4 ⟨v4, rfl, ho4, hm4⟩
      refine ⟨.inl (hm4.mono fun k _ hk => hk.1), ?_⟩
      have hm5 : Mod (fun k => w.heap.size + 1 ≤ k) w2 w4 := Mod.trans ((((Mod.refl _ _).drew).alloc _).alloc _) (hm4.mono fun k _ hk => hk.1) (fun _ _ h => h)
      obtain ⟨Av, cv, rfl, _, hck, _, _⟩ := own_cells ho4
      have hz : Has ((w2.drew.alloc (.cells #[.string ⟨#[]⟩, .int .i64 0] 25)).alloc (.cells #[.slice A objs.length c] 26)) w2.heap.size [.string ⟨#[]⟩, .int .i64 0] 25 := (Has.new w2.drew _ _).alloc _
      have hz5 := hz.keep hm4 (Ty.not (Has.row hz) (by decide))
      have q0 := hz5.cell (o := 0) rfl
      have q1 := hz5.cell (o := 1) rfl
      have r0 := hz5.frozen 0
      have r1 := hz5.frozen 1
      refine take0T (v := ?v26) (oi := ?o26) 7 ?hi26 (by kernel_rfl) (by kernel_rfl) (by kernel_rfl) ?hq26 ?hy26 ?_
      case hi26 => (simp only [List.getElem?_toArray, List.getElem?_cons_zero, List.getElem?_cons_succ]; rfl)
      case hq26 => exact fun _ _ _ h => h
      case hy26 => first | (refine ry_notS ?_; rfl) | (refine ry_runS (by rfl) (fun w' hw' => ?_); go_simp; try rfl)
      simp only [Act.put, List.setIfInBounds_toArray, List.set_cons_zero, List.set_cons_succ]
      refine take0T (v := ?v27) (oi := ?o27) 8 ?hi27 (by kernel_rfl) (by kernel_rfl) (by kernel_rfl) ?hq27 ?hy27 ?_
      case hi27 => (simp only [List.getElem?_toArray, List.getElem?_cons_zero, List.getElem?_cons_succ]; rfl)
      case hq27 => exact fun _ _ _ h => h
      case hy27 => first | (refine ry_notS ?_; rfl) | (refine ry_runS (by rfl) (fun w' hw' => ?_); go_simp; try rfl)
      simp only [Act.put, List.setIfInBounds_toArray, List.set_cons_zero, List.set_cons_succ]
      refine take0T (v := ?v28) (oi := ?o28) 9 ?hi28 (by kernel_rfl) (by kernel_rfl) (by kernel_rfl) ?hq28 ?hy28 ?_
      case hi28 => (simp only [List.getElem?_toArray, List.getElem?_cons_zero, List.getElem?_cons_succ]; rfl)
      case hq28 => exact fun _ _ _ h => h
      case hy28 => first | (refine ry_notS ?_; rfl) | (refine ry_runS (by rfl) (fun w' hw' => ?_); go_simp; try rfl)
      simp only [Act.put, List.setIfInBounds_toArray, List.set_cons_zero, List.set_cons_succ]
      refine take0T (v := ?v29) (oi := ?o29) 10 ?hi29 (by kernel_rfl) (by kernel_rfl) (by kernel_rfl) ?hq29 ?hy29 ?_
      case hi29 => (simp only [List.getElem?_toArray, List.getElem?_cons_zero, List.getElem?_cons_succ]; rfl)
      case hq29 => exact fun _ _ _ h => h
      case hy29 => first | (refine ry_notS ?_; rfl) | (refine ry_runS (by rfl) (fun w' hw' => ?_); go_simp; try rfl)
      simp only [Act.put, List.setIfInBounds_toArray, List.set_cons_zero, List.set_cons_succ]
      refine step0T (o := ?o30) 12 (by kernel_rfl) ?hi30 ?hw30 ?_
      case hi30 => (simp only [List.getElem?_toArray, List.getElem?_cons_zero, List.getElem?_cons_succ]; rfl)
      case hw30 => rfl
      go_simp
      refine ⟨.inl (Mod.setCell (Mod.setCell (Mod.refl _ _) (p := ⟨w2.heap.size, 0, none⟩) (.inl (by show w.heap.size + 1 ≤ w2.heap.size; omega)) _) (p := ⟨w2.heap.size, 1, none⟩) (.inl (by show w.heap.size + 1 ≤ w2.heap.size; omega)) _), ?_⟩
      have hmS : Mod (fun k => w.heap.size + 1 ≤ k) w4 ((w4.setCell ⟨w2.heap.size, 0, none⟩ (.string ID)).setCell ⟨w2.heap.size, 1, none⟩ (.int .i64 SZ)) := ((Mod.refl (fun k => w.heap.size + 1 ≤ k) w4).set1 (by show w.heap.size + 1 ≤ w2.heap.size; omega) _ _).set1 (by show w.heap.size + 1 ≤ w2.heap.size; omega) _ _
      have hmS2 : Mod (fun k => k = w2.heap.size) w4 ((w4.setCell ⟨w2.heap.size, 0, none⟩ (.string ID)).setCell ⟨w2.heap.size, 1, none⟩ (.int .i64 SZ)) := ((Mod.refl (fun k => k = w2.heap.size) w4).set1 rfl _ _).set1 rfl _ _
      have hown6 := own_keep ho4 hmS2 (fun k hk _ h => by have := hz.lt; simp at hk this; omega)
      obtain ⟨Aq, cq, hq, _, hck6, _, _⟩ := own_cells hown6
      obtain ⟨rfl, rfl⟩ : Av = Aq ∧ cv = cq := by simpa using hq
      have hrel : SpRel w p ID SZ OB (w2.heap.size) Av ((w4.setCell ⟨w2.heap.size, 0, none⟩ (.string ID)).setCell ⟨w2.heap.size, 1, none⟩ (.int .i64 SZ)) :=
        ⟨HB2.out.keep (Mod.trans hm5 hmS (fun _ _ h => h)) (by show ¬ w.heap.size + 1 ≤ w.heap.size; omega), (hz5.set 0 _).set 1 _, hck6, Mod.trans HM2.out (Mod.trans hm5 hmS (fun _ _ h => h)) (fun i hi h => by omega)⟩
      refine take0T (v := ?v31) (oi := ?o31) 13 ?hi31 (by kernel_rfl) (by kernel_rfl) (by kernel_rfl) ?hq31 ?hy31 ?_
      case hi31 => (simp only [List.getElem?_toArray, List.getElem?_cons_zero, List.getElem?_cons_succ]; rfl)
      case hq31 => exact fun _ _ _ h => h
      case hy31 => first | (refine ry_notS ?_; rfl) | (refine ry_runS (by rfl) (fun w' hw' => ?_); go_simp; try rfl)
      simp only [Act.put, List.setIfInBounds_toArray, List.set_cons_zero, List.set_cons_succ]
      refine take0T (v := ?v32) (oi := ?o32) 14 ?hi32 (by kernel_rfl) (by kernel_rfl) (by kernel_rfl) ?hq32 ?hy32 ?_
      case hi32 => (simp only [List.getElem?_toArray, List.getElem?_cons_zero, List.getElem?_cons_succ]; rfl)
      case hq32 => exact fun _ _ _ h => h
      case hy32 => first | (refine ry_notS ?_; rfl) | (refine ry_runS (by rfl) (fun w' hw' => ?_); go_simp; try rfl)
      simp only [Act.put, List.setIfInBounds_toArray, List.set_cons_zero, List.set_cons_succ]
      refine wpAnyT_done (by kernel_rfl) ?_
      go_wp2_with fail
      go_meet
      case rel => exact ⟨_, _, _, rfl, rfl, rfl, Lib.hid hrel⟩
  case rest =>
    obtain ⟨b12, Ao, co, rfl, rfl, rfl, HRL⟩ := hcut
    clear fv0 fv1
    have x0 := HRL.out.box.cell (o := 0) rfl
    have x1 := HRL.out.box.cell (o := 1) rfl
    have HR := Lib.hid (HRR.out wc (HO.out.row.keep HRL.out.mod (fun _ _ h => h)) (fun hne ad ha => by have := HLM.out hne ad ha; have := HRL.out.box.lt; omega))
    clear HRR HPR HI1 HI2 HI3 HK1 HK2 HK3 HLM
    go_wp2_with fail
    refine HR.out.mono ?_
    rintro e w5 ⟨v5, rfl, ho5, hm5⟩
    obtain ⟨A5, c5, rfl, _, hcl5, _, _⟩ := own_cells ho5
    have hb3 := (HRL.out.part.keep hm5 (fun h => h)).alloc (.cells #[.string ID, .int .i64 SZ] 25)
    have hb4 := Has.new w5 [.string ID, .int .i64 SZ] 25
    have HM3 := Lib.hid ((Mod.trans HRL.out.mod hm5 (fun _ _ h => h)).alloc (.cells #[.string ID, .int .i64 SZ] 25))
    have HS := Lib.hid (sameObs_calls Ao A5 co c5 OB (w5.alloc (.cells #[.string ID, .int .i64 SZ] 25)) ((HRL.out.row.keep hm5 (fun _ _ h => h)).alloc _) (hcl5.alloc _) hlen)
    have y0 := hb3.cell (o := 0) rfl
    have y1 := hb3.cell (o := 1) rfl
    have z0 := hb4.cell (o := 0) rfl
    have z1 := hb4.cell (o := 1) rfl
    clear hm5 ho5 hcl5 hb3 hb4 x0 x1
    go_wp2_with fail
    refine HS.out.mono ?_
    rintro e w6 ⟨rfl, hm6⟩
    have HM6 := Lib.hid (Mod.trans HM3.out hm6 (fun _ _ h => h))
    clear hm6
    go_wp2_with fail
    go_ret
    exact ⟨rfl, HM6.out.below (fun _ _ h => h)⟩
end Blob
end Go.Proofs.YthgcjfpaekpeeaaDoor
