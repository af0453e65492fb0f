import Derived.Test.YtammcnencaemfaaDoorWireShortL
import Derived.Test.YtammcnencaemfaaDoorKa
import Derived.Deep.Cut
namespace Go.Proofs.YtammcnencaemfaaDoor
open Go.RowKit K
namespace Wire

theorem enc_apart (n m : Int) (hn : In64 n) (hm : In64 m) (h : n ≠ m) (k : Nat) : enc n ≠ (enc m).take k := by
  intro e
  have e1 := dec_enc m hm []
  rw [List.append_nil] at e1
  have e2 := dec_enc n hn ((enc m).drop k)
  rw [e, List.take_append_drop, e1] at e2
  have e3 := congrArg (fun o => o.map (·.1)) e2
  simp only [Option.map_some, Option.some.injEq] at e3
  exact h e3.symm

theorem encT_apart (s t : List UInt8) (hs : s.length ≤ 140737488355328) (ht : t.length ≤ 140737488355328) (h : s ≠ t) (k : Nat) : encT s ≠ (encT t).take k := by
  intro e
  have e1 := takeT_put [] t [] t.length ht (Int.le_refl _)
  have e2 := takeT_put [] s ((encT t).drop k) (s.length + t.length : Nat) hs (by omega)
  have e0 := takeT_put [] t [] (s.length + t.length : Nat) ht (by omega)
  rw [e, List.take_append_drop] at e2
  simp only [List.append_nil] at e0
  rw [e0] at e2
  have e3 := congrArg (·.1) e2
  exact h e3.symm

theorem take_str {P : Program} (t : TypeId) (ht : P.underlying t = some .string) (L : List UInt8) (k : Nat) (hk : k ≤ L.length) (w' : World) :
    (Instr.slice t (.string ⟨L.toArray⟩) none (some (.int .i64 (k : Int))) none).run P w' = .ok (.string ⟨(L.take k).toArray⟩) w' := by
  rw [run_slice_string_h w' t _ ht .i64 k (by omega) (by simp [ByteArray.size]; omega)]
  congr 2
  apply ByteArray.ext
  simp [ByteArray.data_extract]

/-- []byte(text) -/
theorem to_bytes (E : List UInt8) (w : World) (hEm : E.length ≤ maxLen) : ∃ c w', (convert 9 22 (.string ⟨E.toArray⟩)).run Tryd.prog w = .ok (.slice (some ⟨w.heap.size, 0, none⟩) E.length c) w' ∧
    Mod (fun _ => False) w w' ∧ Cells w' (some ⟨w.heap.size, 0, none⟩) (bv E) ∧ Room w' w.heap.size 0 E.length c ∧ E.length ≤ c ∧ c ≤ maxLen ∧ w.heap.size < w'.heap.size := by
  have h := Lib.run_convert_string_bytes (P := Tryd.prog) w 9 22 5 ⟨E.toArray⟩ Tryd.underlying9 Tryd.underlying22 Tryd.underlying5
  refine ⟨_, _, h, bytesWorld_mod (Mod.refl _ _) _ _, ?_, ?_, ?_, ?_, ?_⟩
  · exact bytesWorld_cells w 5 ⟨E.toArray⟩
  · exact bytesWorld_room w 5 ⟨E.toArray⟩
  · exact grownCap_ge w E.length 0 5
  · exact grownCap_le_maxLen w E.length 0 5 hEm
  · rw [Lib.bytesWorld_size]; exact Nat.lt_succ_self _

set_option maxRecDepth 100000 in
set_option maxHeartbeats 3000000 in
theorem wireApart_calls (n m : Int) (s t : ByteArray) (B : Option Addr) (cb : Nat) (l : List UInt8) (w : World) (ht : Tab w) (wn : (Lit.int .i64 n).wf = true) (wm : (Lit.int .i64 m).wf = true) (hs : s.size ≤ 1048576) (hti : t.size ≤ 1048576) (hb : BytesIn w B cb l) (hl2 : l.length ≤ 1048576) :
    Calls Tryd.prog 7 #[.int .i64 n, .int .i64 m, .string s, .string t, .slice B l.length cb] w fun e w' => e = .returned (.bool true) ∧ Below w.heap.size w w' := by
  have hn : In64 n := in64_wf wn
  have hm : In64 m := in64_wf wm
  clear wn wm
  have HS := Lib.hid (shown_calls w ht)
  have HB := Lib.hid hb
  have hbc := hb.cap
  clear ht hb
  have e1 := enc_len n hn
  have e2 := enc_len m hm
  obtain ⟨e3, -⟩ := encT_len' s (by omega)
  obtain ⟨e4, -⟩ := encT_len' t (by omega)
  have HPI := Lib.hid fun w => putInt_calls none 0 [] n w (.inl rfl) (by simp) (fun _ => rfl) hn
  have HPJ := Lib.hid fun w => putInt_calls none 0 [] m w (.inl rfl) (by simp) (fun _ => rfl) hm
  have HPT := Lib.hid fun w => putText_calls none 0 [] s w (.inl rfl) (by simp; omega) (fun _ => rfl)
  have HPU := Lib.hid fun w => putText_calls none 0 [] t w (.inl rfl) (by simp; omega) (fun _ => rfl)
  simp only [List.nil_append] at HPI HPJ HPT HPU
  have q1 := fun r => takeI_put [] n r hn
  have q2 := fun r => takeT_put [] s.data.toList r s.size (by simp; omega) (by simp)
  simp only [List.nil_append, List.length_nil, Nat.zero_add] at q1 q2
  have q3 := fun h => enc_apart n m hn hm h
  have q4 := fun h => enc_apart m n hm hn h
  have q5 := fun h => encT_apart s.data.toList t.data.toList (by simp; omega) (by simp; omega) h
  have q6 := fun h => encT_apart t.data.toList s.data.toList (by simp; omega) (by simp; omega) h
  generalize enc n = E at *
  generalize enc m = F at *
  generalize encT s.data.toList = G at *
  generalize encT t.data.toList = H at *
  have H1 := Lib.hid q1
  have H2 := Lib.hid q2
  have H3 := Lib.hid q3
  have H4 := Lib.hid q4
  have H5 := Lib.hid q5
  have H6 := Lib.hid q6
  clear q1 q2 q3 q4 q5 q6 hn hm
  obtain ⟨K1, hK1⟩ : ∃ K : Nat, K = min E.length F.length := ⟨_, rfl⟩
  obtain ⟨K2, hK2⟩ : ∃ K : Nat, K = min G.length H.length := ⟨_, rfl⟩
  have hif1 : (if F.length < E.length then (F.length : Int) else (E.length : Int)) = (K1 : Int) := by split <;> omega
  have hif2 : (if H.length < G.length then (H.length : Int) else (G.length : Int)) = (K2 : Int) := by split <;> omega
  have hst := fun (L : List UInt8) (k : Nat) (hk : k ≤ L.length) => take_str (P := Tryd.prog) 9 Tryd.underlying9 L k hk
  have hs1 := hst E K1 (by omega)
  have hs2 := hst F K1 (by omega)
  have hs3 := hst G K2 (by omega)
  have hs4 := hst H K2 (by omega)
  clear hst
  have hz1 : K1 ≤ E.length := by omega
  have hz2 : K1 ≤ F.length := by omega
  have hz3 : K2 ≤ G.length := by omega
  have hz4 : K2 ≤ H.length := by omega
  clear hK1 hK2
  go_enter Tryd.func7, Tryd.ntmps7
  go_wp2_with fail
  refine HS.out.mono ?_
  rintro e w1 ⟨rfl, hm1⟩
  go_wp2_with fail
  refine (HPI.out _).mono ?_
  rintro e w2 ⟨v, rfl, hown, hm2⟩
  obtain ⟨A1, c1, rfl, hc1, hA1, ha1, hx1⟩ := own_cells hown
  have HM := Lib.hid (Mod.trans hm1 hm2 (fun _ _ h => h))
  have hcv1 := run_bytes (P := Tryd.prog) c1 hA1 22 9 5 Tryd.underlying22 Tryd.underlying5 Tryd.underlying9
  clear hown hm1 hm2 HS hA1 ha1
  go_wp2_with fail
  refine (HPJ.out _).mono ?_
  rintro e w3 ⟨v, rfl, hown, hm2⟩
  obtain ⟨A2, c2, rfl, hc2, hA2, ha2, hx2⟩ := own_cells hown
  have HM2 := Lib.hid (Mod.trans HM.out hm2 (fun _ _ h => h))
  have hcv2 := run_bytes (P := Tryd.prog) c2 hA2 22 9 5 Tryd.underlying22 Tryd.underlying5 Tryd.underlying9
  clear hown hm2 HM hA2 hcv1 ha2
  go_wp2_with fail
  refine (HPT.out _).mono ?_
  rintro e w4 ⟨v, rfl, hown, hm2⟩
  obtain ⟨A3, c3, rfl, hc3, hA3, ha3, hx3⟩ := own_cells hown
  have HM := Lib.hid (Mod.trans HM2.out hm2 (fun _ _ h => h))
  have hcv1 := run_bytes (P := Tryd.prog) c3 hA3 22 9 5 Tryd.underlying22 Tryd.underlying5 Tryd.underlying9
  clear hown hm2 HM2 hA3 hcv2 ha3
  go_wp2_with fail
  refine (HPU.out _).mono ?_
  rintro e w5 ⟨v, rfl, hown, hm2⟩
  obtain ⟨A4, c4, rfl, hc4, hA4, ha4, hx4⟩ := own_cells hown
  have HM2 := Lib.hid (Mod.trans HM.out hm2 (fun _ _ h => h))
  have hcv2 := run_bytes (P := Tryd.prog) c4 hA4 22 9 5 Tryd.underlying22 Tryd.underlying5 Tryd.underlying9
  clear hown hm2 HM hA4 hcv1 ha4
  go_upto_region 6 with fail
  go_cut [16] from 37 (fun s16 wx => s16 = .bool true ∧ wx = w5)
  case first =>
    by_cases hnm : n = m
    · have d1 : (n == m) = true := by simpa using hnm
      go_wp2_with fail
      go_meet
      case rel => exact ⟨rfl, rfl⟩
    · have d1 : (n == m) = false := by simpa using hnm
      have x1 : (E == F.take K1) = false := by simpa using H3.out hnm K1
      have x2 : (F == E.take K1) = false := by simpa using H4.out (Ne.symm hnm) K1
      go_wp2_with fail
      go_meet
      case rel => exact ⟨rfl, rfl⟩
  case rest =>
    obtain ⟨rfl, rfl⟩ := hcut
    go_upto_region 7 with fail
    go_cut [17] from 37 (fun s17 wx => s17 = .bool true ∧ wx = wc)
    case first =>
      by_cases hst : s = t
      · have d2 : (s.toList == t.toList) = true := (Lib.bytes_beq_iff _ _).2 hst
        go_wp2_with fail
        go_meet
        case rel => exact ⟨rfl, rfl⟩
      · have d1 : (s.toList == t.toList) = false := (Lib.bytes_beq_false_iff _ _).2 hst
        have hst2 : s.data.toList ≠ t.data.toList := fun h => hst (by apply ByteArray.ext; exact Array.toList_inj.1 h)
        have x1 : (G == H.take K2) = false := by simpa using H5.out hst2 K2
        have x2 : (H == G.take K2) = false := by simpa using H6.out (Ne.symm hst2) K2
        go_wp2_with fail
        go_meet
        case rel => exact ⟨rfl, rfl⟩
    case rest =>
      obtain ⟨rfl, rfl⟩ := hcut
      obtain ⟨cE, wE, hE, hME, hCE, hRE, hNE, hxE, hgE⟩ := to_bytes E wc (by unfold maxLen; omega)
      clear hs1 hs2 hs3 hs4 hz1 hz2 hz3 hz4 hif1 hif2 H3 H4 H5 H6
      have hBE := HB.out.cells.keep (Mod.trans HM2.out hME (fun _ _ h => h)) (fun _ _ h => h)
      have hB0 : B = none → l.length = 0 := fun h => by rw [HB.out.nil h]; rfl
      have hwid : E.length + l.length ≤ 140737488355328 := by omega
      go_wp2_with (first
        | fail
        | (at_builtin; go_must (refine app_room _ _ bytes_t wc.heap.size E.length cE E l B l.length cb rfl rfl hCE hRE hgE hBE hB0 hxE rfl rfl rfl rfl hNE hwid ?_; intro A' c' w1 hA' had hcc hcm hmod)))
      have T1 := takeInt_calls A' c' (E ++ l) 0 w1 hA' (by rw [List.length_append]; omega) (by rw [List.length_append]; exact hcc) hcm had
      have HM3 := Lib.hid (Mod.trans HM2.out (Mod.trans hME hmod (fun i hi h => Nat.lt_irrefl _ (h ▸ hi))) (fun _ _ h => h))
      have k1 := H1.out l
      rw [show ((0 : Nat) : Int) = 0 from rfl] at k1
      rw [List.length_append, k1] at T1
      refine T1.mono ?_
      rintro e w2 ⟨rfl, hw⟩; subst hw
      unfold vI
      clear T1 hE hCE hRE hBE had hA' HM2 hME hmod k1 hNE hxE hgE hwid hcc hcm
      dsimp only
      obtain ⟨cE, wE, hE, hME, hCE, hRE, hNE, hxE, hgE⟩ := to_bytes G w2 (by unfold maxLen; omega)
      have hBE := HB.out.cells.keep (Mod.trans HM3.out hME (fun _ _ h => h)) (fun _ _ h => h)
      have hwid : G.length + l.length ≤ 140737488355328 := by omega
      go_wp2_with (first
        | fail
        | (at_builtin; go_must (refine app_room _ _ bytes_t w2.heap.size G.length cE G l B l.length cb rfl rfl hCE hRE hgE hBE hB0 hxE rfl rfl rfl rfl hNE hwid ?_; intro A' c' w1 hA' had hcc hcm hmod)))
      have T1 := takeText_calls A' c' (G ++ l) 0 s.size w1 hA' (by rw [List.length_append]; omega) (by rw [List.length_append]; exact hcc) hcm had
      have HM2 := Lib.hid (Mod.trans HM3.out (Mod.trans hME hmod (fun i hi h => Nat.lt_irrefl _ (h ▸ hi))) (fun _ _ h => h))
      have k1 := H2.out l
      rw [show ((0 : Nat) : Int) = 0 from rfl] at k1
      rw [List.length_append, k1] at T1
      refine T1.mono ?_
      rintro e w3 ⟨rfl, hw⟩; subst hw
      unfold vT
      clear T1 hE hCE hRE hBE had hA' HM3 hME hmod k1 hNE hxE hgE hwid hcc hcm
      dsimp only
      have hss : (⟨s.data.toList.toArray⟩ : ByteArray) = s := by simp
      rw [hss]
      have d9 : (s.toList == s.toList) = true := (Lib.bytes_beq_iff _ _).2 rfl
      go_wp2_with fail
      go_ret
      exact ⟨rfl, HM2.out.below (fun _ _ h => h)⟩
end Wire
end Go.Proofs.YtammcnencaemfaaDoor
