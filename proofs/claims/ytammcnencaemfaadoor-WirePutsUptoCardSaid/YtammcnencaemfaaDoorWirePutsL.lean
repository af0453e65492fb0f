import Derived.Test.YtammcnencaemfaaDoorWireP
import Derived.Test.YtammcnencaemfaaDoorKr
namespace Go.Proofs.YtammcnencaemfaaDoor
open Go.RowKit K
namespace Wire

theorem cat_bytes (l m : List UInt8) : ((⟨l.toArray⟩ : ByteArray) ++ (⟨m.toArray⟩ : ByteArray)) = ⟨(l ++ m).toArray⟩ := by
  apply ByteArray.ext; simp

set_option maxRecDepth 100000 in
set_option maxHeartbeats 4000000 in
theorem wirePuts_calls (B : Option Addr) (cb : Nat) (l : List UInt8) (n : Int) (s : ByteArray) (w : World) (ht : Tab w) (hb : BytesIn w B cb l) (hl2 : l.length ≤ 1048576) (wn : (Lit.int .i64 n).wf = true) (hs : s.size ≤ 1048576) :
    Calls Tryd.prog 5 #[.slice B l.length cb, .int .i64 n, .string s] w fun e w' => e = .returned (.bool true) ∧ Below w.heap.size w w' := by
  have hn : In64 n := in64_wf wn
  clear wn
  have HS := Lib.hid (shown_calls w ht)
  have HB := Lib.hid hb
  clear ht hb
  have e1 := enc_len n hn
  obtain ⟨e3, -⟩ := encT_len' s (by omega)
  go_enter Tryd.func5, Tryd.ntmps5
  go_wp2_with fail
  refine HS.out.mono ?_
  rintro e w1 ⟨rfl, hm1⟩
  have hb1 := HB.out.cells.keep hm1 (fun _ _ h => h)
  have HM := Lib.hid hm1
  clear HS hm1
  go_wp2_with fail
  refine (ahead_calls B cb l w1 ⟨hb1, HB.out.adr, HB.out.cap, HB.out.max, HB.out.size, HB.out.nil⟩ hl2).mono ?_
  rintro e w2 ⟨g, rfl, hg, hh, hm2⟩
  have HM2 := Lib.hid (Mod.trans HM.out hm2 (fun _ _ h => h))
  have HH := Lib.hid hh
  clear hm2 hb1 HM hh hg
  have hX : Cells w2 (some ⟨g, 0, none⟩) (bv l) := .inr ⟨g, 0, rfl, fun j u hj => by
    rw [Nat.zero_add]
    exact HH.out.cell (by rw [List.getElem?_append_left (List.getElem?_eq_some_iff.1 hj).1]; exact hj)⟩
  go_wp2_with fail
  refine (putInt_calls (some ⟨g, 0, none⟩) (l.length + 40) l n w2 hX (by omega) (by simp) hn).mono ?_
  rintro e w3 ⟨v, rfl, hown3, hm3⟩
  have hX3 := hX.keep hm3 (fun _ _ h => h)
  clear hX
  obtain ⟨X1, hX1⟩ : ∃ L, l ++ enc n = L := ⟨_, rfl⟩
  rw [hX1] at hown3
  obtain ⟨A3, c3, rfl, hc3, hA3, ha3, hx3⟩ := own_cells hown3
  go_wp2_with fail
  refine (putText_calls (some ⟨g, 0, none⟩) (l.length + 40) l s w3 hX3 (by omega) (by simp)).mono ?_
  rintro e w4 ⟨v, rfl, hown4, hm4⟩
  obtain ⟨X2, hX2⟩ : ∃ L, l ++ encT s.data.toList = L := ⟨_, rfl⟩
  rw [hX2] at hown4
  obtain ⟨A4, c4, rfl, hc4, hA4, ha4, hx4⟩ := own_cells hown4
  have hA3' := hA3.keep hm4 (fun _ _ h => h)
  have hm24 := Mod.trans hm3 hm4 (fun _ _ h => h)
  have hm := Mod.trans HM2.out hm24 (fun _ _ h => h)
  have hh4 := HH.out.keep hm24 (fun h => h)
  have hb4 := HB.out.cells.keep hm (fun _ _ h => h)
  have HM := Lib.hid hm
  clear hown3 hown4 hm3 hm4 hm24 hm hA3 hX3 HM2 HH ha3 ha4
  go_wp2_with fail
  refine (stays_calls g B cb l w4 hh4 hb4 hl2).mono ?_
  rintro e w5 ⟨rfl, hm5⟩
  have hA3 := hA3'.keep hm5 (fun _ _ h => h)
  have hA4 := hA4.keep hm5 (fun _ _ h => h)
  have hb5 := hb4.keep hm5 (fun _ _ h => h)
  have HM2 := Lib.hid (Mod.trans HM.out hm5 (fun _ _ h => h))
  have hcv := run_bytes (P := Tryd.prog) cb hb5 22 9 5 Tryd.underlying22 Tryd.underlying5 Tryd.underlying9
  clear HM hm5 hb4 hh4 hA3' hb5
  go_wp2_with fail
  have hrf : Mod (fun _ => False) w5.drew w5.drew := Mod.refl _ _
  have hcv1 : ∀ w', Mod (fun _ => False) w5.drew w' → (convert 22 9 (.slice A3 X1.length c3)).run Tryd.prog w' = .ok (.string ⟨X1.toArray⟩) w' := fun w' hm =>
    run_bytes c3 (Cells.keep (S := fun _ => False) hA3 (Mod.of_drew_l hm) (fun _ _ h => h)) _ _ 5 Tryd.underlying22 Tryd.underlying5 Tryd.underlying9
  have hcv2 : ∀ w', Mod (fun _ => False) w5.drew w' → (convert 22 9 (.slice A4 X2.length c4)).run Tryd.prog w' = .ok (.string ⟨X2.toArray⟩) w' := fun w' hm =>
    run_bytes c4 (Cells.keep (S := fun _ => False) hA4 (Mod.of_drew_l hm) (fun _ _ h => h)) _ _ 5 Tryd.underlying22 Tryd.underlying5 Tryd.underlying9
  have HRI := Lib.hid fun w => refInt_calls n w hn
  have HRT := Lib.hid fun w => refText_calls s w (by omega)
  clear hcv hA3 hA4
  have es : s.data.toList.length = s.size := by simp
  have hno1 : ¬ (9223372036854775807 < l.length + (enc n).length) := by omega
  have hno2 : ¬ (9223372036854775807 < l.length + (encT s.data.toList).length) := by omega
  generalize enc n = E at *
  generalize encT s.data.toList = F at *
  have q1 : (X1 == l ++ E) = true := by rw [← hX1]; simp
  have q2 : (X2 == l ++ F) = true := by rw [← hX2]; simp
  clear hX1 hX2
  have hcat := fun (M : List UInt8) => cat_bytes l M
  refine region_m (by kernel_rfl) ?_
  simp only [List.length_cons, List.length_nil, List.replicate]
  refine take0 (v := ?v1) (oi := ?o1) 0 ?hi1 (by kernel_rfl) (by kernel_rfl) (by kernel_rfl) ?hq1 ?hy1 ?_
  case hi1 => (simp only [List.getElem?_toArray, List.getElem?_cons_zero, List.getElem?_cons_succ]; rfl)
  case hq1 => exact fun _ _ _ h => h
  case hy1 => first | (refine ry_not ?_; rfl) | (refine ry_run (by rfl) (fun w' hw' => ?_); go_simp; try rfl)
  simp only [Act.put, List.setIfInBounds_toArray, List.set_cons_zero, List.set_cons_succ]
  refine take0 (v := ?v2) (oi := ?o2) 1 ?hi2 (by kernel_rfl) (by kernel_rfl) (by kernel_rfl) ?hq2 ?hy2 ?_
  case hi2 => (simp only [List.getElem?_toArray, List.getElem?_cons_zero, List.getElem?_cons_succ]; rfl)
  case hq2 => exact fun _ _ _ h => h
  case hy2 => first | (refine ry_not ?_; rfl) | (refine ry_run (by rfl) (fun w' hw' => ?_); go_simp; try rfl)
  simp only [Act.put, List.setIfInBounds_toArray, List.set_cons_zero, List.set_cons_succ]
  refine take0 (v := ?v3) (oi := ?o3) 2 ?hi3 (by kernel_rfl) (by kernel_rfl) (by kernel_rfl) ?hq3 ?hy3 ?_
  case hi3 => (simp only [List.getElem?_toArray, List.getElem?_cons_zero, List.getElem?_cons_succ]; rfl)
  case hq3 => exact fun _ _ _ h => h
  case hy3 => first | (refine ry_not ?_; rfl) | (refine ry_run (by rfl) (fun w' hw' => ?_); go_simp; try rfl)
  simp only [Act.put, List.setIfInBounds_toArray, List.set_cons_zero, List.set_cons_succ]
  refine take0 (v := ?v4) (oi := ?o4) 3 ?hi4 (by kernel_rfl) (by kernel_rfl) (by kernel_rfl) ?hq4 ?hy4 ?_
  case hi4 => (simp only [List.getElem?_toArray, List.getElem?_cons_zero, List.getElem?_cons_succ]; rfl)
  case hq4 => exact fun _ _ _ h => h
  case hy4 => first | (refine ry_not ?_; rfl) | (refine ry_run (by rfl) (fun w' hw' => ?_); go_simp; try rfl)
  simp only [Act.put, List.setIfInBounds_toArray, List.set_cons_zero, List.set_cons_succ]
  refine take0 (v := ?v5) (oi := ?o5) 4 ?hi5 (by kernel_rfl) (by kernel_rfl) (by kernel_rfl) ?hq5 ?hy5 ?_
  case hi5 => (simp only [List.getElem?_toArray, List.getElem?_cons_zero, List.getElem?_cons_succ]; rfl)
  case hq5 => exact fun _ _ _ h => h
  case hy5 => first | (refine ry_not ?_; rfl) | (refine ry_run (by rfl) (fun w' hw' => ?_); go_simp; try rfl)
  simp only [Act.put, List.setIfInBounds_toArray, List.set_cons_zero, List.set_cons_succ]
  refine take0 (v := ?v6) (oi := ?o6) 5 ?hi6 (by kernel_rfl) (by kernel_rfl) (by kernel_rfl) ?hq6 ?hy6 ?_
  case hi6 => (simp only [List.getElem?_toArray, List.getElem?_cons_zero, List.getElem?_cons_succ]; rfl)
  case hq6 => exact fun _ _ _ h => h
  case hy6 => first | (refine ry_not ?_; rfl) | (refine ry_run (by rfl) (fun w' hw' => ?_); go_simp; try rfl)
  simp only [Act.put, List.setIfInBounds_toArray, List.set_cons_zero, List.set_cons_succ]
  refine take0 (v := ?v7) (oi := ?o7) 6 ?hi7 (by kernel_rfl) (by kernel_rfl) (by kernel_rfl) ?hq7 ?hy7 ?_
  case hi7 => (simp only [List.getElem?_toArray, List.getElem?_cons_zero, List.getElem?_cons_succ]; rfl)
  case hq7 => exact fun _ _ _ h => h
  case hy7 => first | (refine ry_not ?_; rfl) | (refine ry_run (by rfl) (fun w' hw' => ?_); go_simp; try rfl)
  simp only [Act.put, List.setIfInBounds_toArray, List.set_cons_zero, List.set_cons_succ]
  refine take0 (v := ?v8) (oi := ?o8) 7 ?hi8 (by kernel_rfl) (by kernel_rfl) (by kernel_rfl) ?hq8 ?hy8 ?_
  case hi8 => (simp only [List.getElem?_toArray, List.getElem?_cons_zero, List.getElem?_cons_succ]; rfl)
  case hq8 => exact fun _ _ _ h => h
  case hy8 => first | (refine ry_not ?_; rfl) | (refine ry_run (by rfl) (fun w' hw' => ?_); go_simp; try rfl)
  simp only [Act.put, List.setIfInBounds_toArray, List.set_cons_zero, List.set_cons_succ]
  refine take0 (v := ?v9) (oi := ?o9) 8 ?hi9 (by kernel_rfl) (by kernel_rfl) (by kernel_rfl) ?hq9 ?hy9 ?_
  case hi9 => (simp only [List.getElem?_toArray, List.getElem?_cons_zero, List.getElem?_cons_succ]; rfl)
  case hq9 => exact fun _ _ _ h => h
  case hy9 => first | (refine ry_not ?_; rfl) | (refine ry_run (by rfl) (fun w' hw' => ?_); go_simp; try rfl)
  simp only [Act.put, List.setIfInBounds_toArray, List.set_cons_zero, List.set_cons_succ]
  refine step0 (o := ?o10) 9 (by kernel_rfl) ?hi10 ?hw10 ?_
  case hi10 => (simp only [List.getElem?_toArray, List.getElem?_cons_zero, List.getElem?_cons_succ]; rfl)
  case hw10 => rfl
  go_simp
  refine (HRI.out _).mono ?_
  rintro e w6 ⟨v, rfl, hown, hm1⟩
  refine ⟨.inl hm1, ?_⟩
  obtain ⟨B1, cap, rfl, hcap, hB, -, -⟩ := own_cells hown
  have hcv3 : ∀ w', Mod0 w6 w' → (convert 22 9 (.slice B1 E.length cap)).run Tryd.prog w' = .ok (.string ⟨E.toArray⟩) w' := fun w' h => run_bytes cap (Cells.keep hB h (fun _ _ h => h)) _ _ 5 Tryd.underlying22 Tryd.underlying5 Tryd.underlying9
  have hcv2' : ∀ w', Mod0 w6 w' → (convert 22 9 (.slice A4 X2.length c4)).run Tryd.prog w' = .ok (.string ⟨X2.toArray⟩) w' := fun w' h => hcv2 w' (Mod.trans hm1 h (fun _ _ h => h))
  refine take0 (v := ?v11) (oi := ?o11) 10 ?hi11 (by kernel_rfl) (by kernel_rfl) (by kernel_rfl) ?hq11 ?hy11 ?_
  case hi11 => (simp only [List.getElem?_toArray, List.getElem?_cons_zero, List.getElem?_cons_succ]; rfl)
  case hq11 => exact fun _ _ _ h => h
  case hy11 => first | (refine ry_not ?_; rfl) | (refine ry_run (by rfl) (fun w' hw' => ?_); go_simp; try rfl)
  simp only [Act.put, List.setIfInBounds_toArray, List.set_cons_zero, List.set_cons_succ]
  refine take0 (v := ?v12) (oi := ?o12) 11 ?hi12 (by kernel_rfl) (by kernel_rfl) (by kernel_rfl) ?hq12 ?hy12 ?_
  case hi12 => (simp only [List.getElem?_toArray, List.getElem?_cons_zero, List.getElem?_cons_succ]; rfl)
  case hq12 => exact fun _ _ _ h => h
  case hy12 => first | (refine ry_not ?_; rfl) | (refine ry_run (by rfl) (fun w' hw' => ?_); go_simp; try rfl)
  simp only [Act.put, List.setIfInBounds_toArray, List.set_cons_zero, List.set_cons_succ]
  refine take0 (v := ?v13) (oi := ?o13) 12 ?hi13 (by kernel_rfl) (by kernel_rfl) (by kernel_rfl) ?hq13 ?hy13 ?_
  case hi13 => (simp only [List.getElem?_toArray, List.getElem?_cons_zero, List.getElem?_cons_succ]; rfl)
  case hq13 => exact fun _ _ _ h => h
  case hy13 => first | (refine ry_not ?_; rfl) | (refine ry_run (by rfl) (fun w' hw' => ?_); go_simp; try rfl)
  simp only [Act.put, List.setIfInBounds_toArray, List.set_cons_zero, List.set_cons_succ]
  refine take0 (v := ?v14) (oi := ?o14) 13 ?hi14 (by kernel_rfl) (by kernel_rfl) (by kernel_rfl) ?hq14 ?hy14 ?_
  case hi14 => (simp only [List.getElem?_toArray, List.getElem?_cons_zero, List.getElem?_cons_succ]; rfl)
  case hq14 => exact fun _ _ _ h => h
  case hy14 => first | (refine ry_not ?_; rfl) | (refine ry_run (by rfl) (fun w' hw' => ?_); go_simp; try rfl)
  simp only [Act.put, List.setIfInBounds_toArray, List.set_cons_zero, List.set_cons_succ]
  refine take0 (v := ?v15) (oi := ?o15) 14 ?hi15 (by kernel_rfl) (by kernel_rfl) (by kernel_rfl) ?hq15 ?hy15 ?_
  case hi15 => (simp only [List.getElem?_toArray, List.getElem?_cons_zero, List.getElem?_cons_succ]; rfl)
  case hq15 => exact fun _ _ _ h => h
  case hy15 => first | (refine ry_not ?_; rfl) | (refine ry_run (by rfl) (fun w' hw' => ?_); go_simp; try rfl)
  simp only [Act.put, List.setIfInBounds_toArray, List.set_cons_zero, List.set_cons_succ]
  refine take0 (v := ?v16) (oi := ?o16) 15 ?hi16 (by kernel_rfl) (by kernel_rfl) (by kernel_rfl) ?hq16 ?hy16 ?_
  case hi16 => (simp only [List.getElem?_toArray, List.getElem?_cons_zero, List.getElem?_cons_succ]; rfl)
  case hq16 => exact fun _ _ _ h => h
  case hy16 => first | (refine ry_not ?_; rfl) | (refine ry_run (by rfl) (fun w' hw' => ?_); go_simp; try rfl)
  simp only [Act.put, List.setIfInBounds_toArray, List.set_cons_zero, List.set_cons_succ]
  refine take0 (v := ?v17) (oi := ?o17) 16 ?hi17 (by kernel_rfl) (by kernel_rfl) (by kernel_rfl) ?hq17 ?hy17 ?_
  case hi17 => (simp only [List.getElem?_toArray, List.getElem?_cons_zero, List.getElem?_cons_succ]; rfl)
  case hq17 => exact fun _ _ _ h => h
  case hy17 => first | (refine ry_not ?_; rfl) | (refine ry_run (by rfl) (fun w' hw' => ?_); go_simp; try rfl)
  simp only [Act.put, List.setIfInBounds_toArray, List.set_cons_zero, List.set_cons_succ]
  refine take0 (v := ?v18) (oi := ?o18) 17 ?hi18 (by kernel_rfl) (by kernel_rfl) (by kernel_rfl) ?hq18 ?hy18 ?_
  case hi18 => (simp only [List.getElem?_toArray, List.getElem?_cons_zero, List.getElem?_cons_succ]; rfl)
  case hq18 => exact fun _ _ _ h => h
  case hy18 => first | (refine ry_not ?_; rfl) | (refine ry_run (by rfl) (fun w' hw' => ?_); go_simp; try rfl)
  simp only [Act.put, List.setIfInBounds_toArray, List.set_cons_zero, List.set_cons_succ]
  refine take0 (v := ?v19) (oi := ?o19) 18 ?hi19 (by kernel_rfl) (by kernel_rfl) (by kernel_rfl) ?hq19 ?hy19 ?_
  case hi19 => (simp only [List.getElem?_toArray, List.getElem?_cons_zero, List.getElem?_cons_succ]; rfl)
  case hq19 => exact fun _ _ _ h => h
  case hy19 => first | (refine ry_not ?_; rfl) | (refine ry_run (by rfl) (fun w' hw' => ?_); go_simp; try rfl)
  simp only [Act.put, List.setIfInBounds_toArray, List.set_cons_zero, List.set_cons_succ]
  refine step0 (o := ?o20) 19 (by kernel_rfl) ?hi20 ?hw20 ?_
  case hi20 => (simp only [List.getElem?_toArray, List.getElem?_cons_zero, List.getElem?_cons_succ]; rfl)
  case hw20 => rfl
  go_simp
  refine (HRT.out _).mono ?_
  rintro e w7 ⟨v, rfl, hown', hm7⟩
  refine ⟨.inl hm7, ?_⟩
  obtain ⟨B2, cap2, rfl, hcap2, hB2, -, -⟩ := own_cells hown'
  have hcv4 : ∀ w', Mod0 w7 w' → (convert 22 9 (.slice B2 F.length cap2)).run Tryd.prog w' = .ok (.string ⟨F.toArray⟩) w' := fun w' h => run_bytes cap2 (Cells.keep hB2 h (fun _ _ h => h)) _ _ 5 Tryd.underlying22 Tryd.underlying5 Tryd.underlying9
  refine take0 (v := ?v21) (oi := ?o21) 20 ?hi21 (by kernel_rfl) (by kernel_rfl) (by kernel_rfl) ?hq21 ?hy21 ?_
  case hi21 => (simp only [List.getElem?_toArray, List.getElem?_cons_zero, List.getElem?_cons_succ]; rfl)
  case hq21 => exact fun _ _ _ h => h
  case hy21 => first | (refine ry_not ?_; rfl) | (refine ry_run (by rfl) (fun w' hw' => ?_); go_simp; try rfl)
  simp only [Act.put, List.setIfInBounds_toArray, List.set_cons_zero, List.set_cons_succ]
  refine take0 (v := ?v22) (oi := ?o22) 21 ?hi22 (by kernel_rfl) (by kernel_rfl) (by kernel_rfl) ?hq22 ?hy22 ?_
  case hi22 => (simp only [List.getElem?_toArray, List.getElem?_cons_zero, List.getElem?_cons_succ]; rfl)
  case hq22 => exact fun _ _ _ h => h
  case hy22 => first | (refine ry_not ?_; rfl) | (refine ry_run (by rfl) (fun w' hw' => ?_); go_simp; try rfl)
  simp only [Act.put, List.setIfInBounds_toArray, List.set_cons_zero, List.set_cons_succ]
  refine take0 (v := ?v23) (oi := ?o23) 22 ?hi23 (by kernel_rfl) (by kernel_rfl) (by kernel_rfl) ?hq23 ?hy23 ?_
  case hi23 => (simp only [List.getElem?_toArray, List.getElem?_cons_zero, List.getElem?_cons_succ]; rfl)
  case hq23 => exact fun _ _ _ h => h
  case hy23 => first | (refine ry_not ?_; rfl) | (refine ry_run (by rfl) (fun w' hw' => ?_); go_simp; try rfl)
  simp only [Act.put, List.setIfInBounds_toArray, List.set_cons_zero, List.set_cons_succ]
  refine take0 (v := ?v24) (oi := ?o24) 23 ?hi24 (by kernel_rfl) (by kernel_rfl) (by kernel_rfl) ?hq24 ?hy24 ?_
  case hi24 => (simp only [List.getElem?_toArray, List.getElem?_cons_zero, List.getElem?_cons_succ]; rfl)
  case hq24 => exact fun _ _ _ h => h
  case hy24 => first | (refine ry_not ?_; rfl) | (refine ry_run (by rfl) (fun w' hw' => ?_); go_simp; try rfl)
  simp only [Act.put, List.setIfInBounds_toArray, List.set_cons_zero, List.set_cons_succ]
  refine take0 (v := ?v25) (oi := ?o25) 24 ?hi25 (by kernel_rfl) (by kernel_rfl) (by kernel_rfl) ?hq25 ?hy25 ?_
  case hi25 => (simp only [List.getElem?_toArray, List.getElem?_cons_zero, List.getElem?_cons_succ]; rfl)
  case hq25 => exact fun _ _ _ h => h
  case hy25 => first | (refine ry_not ?_; rfl) | (refine ry_run (by rfl) (fun w' hw' => ?_); go_simp; try rfl)
  simp only [Act.put, List.setIfInBounds_toArray, List.set_cons_zero, List.set_cons_succ]
  refine wpAnyM_done (by kernel_rfl) ?_
  go_simp
  go_wp2_with fail
  go_ret
  exact ⟨rfl, (Mod.trans HM2.out (Mod.trans (Mod.of_drew_l hm1) hm7 (fun _ _ h => h)) (fun _ _ h => h)).below (fun _ _ h => h)⟩
end Wire
end Go.Proofs.YtammcnencaemfaaDoor
