import Derived.Test.YtammcnencaemfaaDoorWireBackL
import Derived.Test.YtammcnencaemfaaDoorKs
namespace Go.Proofs.YtammcnencaemfaaDoor
open Go.RowKit K
namespace Wire

theorem dec_nil : dec [] = none := by
  cases h : dec [] with
  | none => rfl
  | some v => obtain ⟨n, k⟩ := v; obtain ⟨h1, h2, h3, h4, h5⟩ := dec_some _ _ _ h; simp at *; omega

theorem dec_short (n : Int) (hn : In64 n) (k : Nat) (hk : k < (enc n).length) : dec ((enc n).take k) = none := by
  cases h : dec ((enc n).take k) with
  | none => rfl
  | some v =>
    obtain ⟨m, j⟩ := v
    obtain ⟨h1, h2, h3, h4, h5⟩ := dec_some _ _ _ h
    exfalso
    rw [List.take_take, Nat.min_eq_left (by rw [List.length_take] at h4; omega)] at h5
    have e1 := dec_enc n hn []
    rw [List.append_nil] at e1
    have e2 := dec_enc m h1 ((enc n).drop j)
    rw [← h5, List.take_append_drop, e1] at e2
    have e3 := congrArg (fun o => o.map (·.2)) e2
    simp only [Option.map_some, Option.some.injEq, List.length_take] at e3
    rw [List.length_take] at h4
    omega

theorem takeI_short (n : Int) (hn : In64 n) (k : Nat) (hk : k < (enc n).length) : takeI ((enc n).take k) 0 = (0, 0, false) :=
  takeI_none _ 0 (Nat.zero_le _) (by rw [List.drop_zero]; exact dec_short n hn k hk)

theorem takeI_end (l : List UInt8) : takeI l l.length = (0, 0, false) :=
  takeI_none _ _ (Nat.le_refl _) (by rw [List.drop_length]; exact dec_nil)

theorem takeT_none (l : List UInt8) (at_ most : Int) (h : takeI l at_ = (0, 0, false)) : takeT l at_ most = ([], 0, false) := by
  unfold takeT; rw [h]; simp

theorem takeT_short (s : List UInt8) (hs : s.length ≤ 140737488355328) (k : Nat) (most : Int) (hk : k < (encT s).length) : takeT ((encT s).take k) 0 most = ([], 0, false) := by
  have hn := in64_len _ hs
  unfold encT at hk ⊢
  rw [List.length_append] at hk
  by_cases h : k < (enc s.length).length
  · rw [List.take_append_of_le_length (by omega)]
    exact takeT_none _ _ _ (takeI_short _ hn k h)
  · obtain ⟨j, rfl⟩ : ∃ j, k = (enc s.length).length + j := ⟨k - (enc s.length).length, by omega⟩
    rw [List.take_append, List.take_of_length_le (by omega), Nat.add_sub_cancel_left]
    have h2 := takeI_put [] s.length (s.take j) hn
    simp only [List.nil_append, List.length_nil, Nat.zero_add] at h2
    unfold takeT
    rw [show (0 : Int) = ((0 : Nat) : Int) from rfl, h2]
    dsimp only
    rw [if_pos]
    right; right; right
    simp only [List.length_append, List.length_take]
    omega

theorem takeT_less (s : List UInt8) (hs : s.length ≤ 140737488355328) (most : Int) (hm : most < s.length) : takeT (encT s) 0 most = ([], 0, false) := by
  have h2 := takeI_put [] s.length s (in64_len _ hs)
  simp only [List.nil_append, List.length_nil, Nat.zero_add] at h2
  unfold takeT encT
  rw [show (0 : Int) = ((0 : Nat) : Int) from rfl, h2]
  dsimp only
  rw [if_pos]
  right; right; left
  exact hm

theorem encT_len' (s : ByteArray) (h : s.size ≤ 140737488355328) : (encT s.data.toList).length ≤ 10 + s.size ∧ 0 < (encT s.data.toList).length := by
  have es : s.data.toList.length = s.size := by simp
  have e3 := enc_len _ (in64_len s.size (by omega))
  have e4 := enc_pos (s.size : Int)
  rw [encT, List.length_append, es]; omega

set_option maxRecDepth 100000 in
set_option maxHeartbeats 3000000 in
theorem wireShort_calls (n : Int) (s : ByteArray) (cut : Int) (w : World) (ht : Tab w) (wn : (Lit.int .i64 n).wf = true) (hs : s.size ≤ 140737488351232) (wc : (Lit.int .i64 cut).wf = true) :
    Calls Tryd.prog 8 #[.int .i64 n, .string s, .int .i64 cut] w fun e w' => e = .returned (.bool true) ∧ Below w.heap.size w w' := by
  have hn : In64 n := in64_wf wn
  have hc : In64 cut := in64_wf wc
  unfold In64 at hc
  clear wn wc
  have HS := Lib.hid (shown_calls w ht)
  clear ht
  have e1 := enc_len n hn
  have p1 := enc_pos n
  obtain ⟨e2, p2⟩ := encT_len' s (by omega)
  have q1 := takeI_short n hn
  have q2 := fun k => takeT_short s.data.toList (by simp; omega) k (s.size : Int)
  have q3 := takeT_less s.data.toList (by simp; omega) ((s.size : Int) - 1) (by simp; omega)
  have q4 := takeI_end (enc n)
  have hpi := fun w => putInt_calls none 0 [] n w (.inl rfl) (by simp) (fun _ => rfl) hn
  have hpt := fun w => putText_calls none 0 [] s w (.inl rfl) (by simp; omega) (fun _ => rfl)
  simp only [List.nil_append] at hpi hpt
  generalize enc n = E at *
  generalize encT s.data.toList = F at *
  have HPI := Lib.hid hpi
  have HPT := Lib.hid hpt
  have H1 := Lib.hid q1
  have H2 := Lib.hid q2
  have H3 := Lib.hid q3
  have H4 := Lib.hid q4
  clear hpi hpt q1 q2 q3 q4 hn
  have hsub : IntKind.i64.wrap ((s.size : Int) - 1) = (s.size : Int) - 1 := by rw [IntKind.wrap_i64]; omega
  obtain ⟨K, hK⟩ : ∃ K : Nat, (if cut < 0 then wrap64 (-(wrap64 (cut + 1))) else cut) = (K : Int) := by
    split
    · have : wrap64 (cut + 1) = cut + 1 := by unfold wrap64; omega
      rw [this]
      have : wrap64 (-(cut + 1)) = -(cut + 1) := by unfold wrap64; omega
      rw [this]; exact ⟨(-(cut + 1)).toNat, by omega⟩
    · exact ⟨cut.toNat, by omega⟩
  have r1 : (K : Int).tmod (E.length : Int) = ((K % E.length : Nat) : Int) := by
    rw [Int.tmod_eq_emod_of_nonneg (by omega)]; rfl
  have r2 : (K : Int).tmod (F.length : Int) = ((K % F.length : Nat) : Int) := by
    rw [Int.tmod_eq_emod_of_nonneg (by omega)]; rfl
  have l1 : K % E.length < E.length := Nat.mod_lt _ p1
  have l2 : K % F.length < F.length := Nat.mod_lt _ p2
  have z1 : ¬ (E.length : Int) = 0 := by omega
  have z2 : ¬ (F.length : Int) = 0 := by omega
  have z3 : ((E.length : Int) == 0) = false := by simpa using List.ne_nil_of_length_pos p1
  have z4 : ((F.length : Int) == 0) = false := by simpa using List.ne_nil_of_length_pos p2
  generalize K % E.length = k1 at *
  generalize K % F.length = k2 at *
  by_cases hlt : cut < 0
  · rw [if_pos hlt] at hK
    have hd : decide (cut < 0) = true := decide_eq_true hlt
    clear hlt hc
    go_enter Tryd.func8, Tryd.ntmps8
    go_wp2_with fail
    refine HS.out.mono ?_
    rintro e w1 ⟨rfl, hm1⟩
    go_wp2_with fail
    refine (HPI.out _).mono ?_
    rintro e w2 ⟨v, rfl, hown, hm2⟩
    obtain ⟨A1, c1, rfl, hc1, hA1, ha1, hx1⟩ := own_cells hown
    have HM := Lib.hid (Mod.trans hm1 hm2 (fun _ _ h => h))
    clear hown hm1 hm2 HS
    go_wp2_with fail
    refine (HPT.out _).mono ?_
    rintro e w3 ⟨v, rfl, hown, hm2⟩
    obtain ⟨A2, c2, rfl, hc2, hA2, ha2, hx2⟩ := own_cells hown
    have hA1' := hA1.keep hm2 (fun _ _ h => h)
    have HM2 := Lib.hid (Mod.trans HM.out hm2 (fun _ _ h => h))
    clear hown hm2 hA1 HM
    have hs1 := slice_to (P := Tryd.prog) 22 5 k1 E.length c1 A1 Tryd.underlying22 rfl ha1 (by omega) (by omega)
    have hs2 := slice_to (P := Tryd.prog) 22 5 k2 F.length c2 A2 Tryd.underlying22 rfl ha2 (by omega) (by omega)
    go_wp2_with fail
    have T1 := takeInt_calls A1 c1 (E.take k1) 0 w3 (hA1'.take k1) (by rw [List.length_take]; omega) (by rw [List.length_take]; omega) hx1 ha1
    have T2 := takeText_calls A2 c2 (F.take k2) 0 s.size w3 (hA2.take k2) (by rw [List.length_take]; omega) (by rw [List.length_take]; omega) hx2 ha2
    have T3 := takeText_calls A2 c2 F 0 ((s.size : Int) - 1) w3 hA2 (by omega) hc2 hx2 ha2
    have T4 := takeInt_calls A1 c1 E E.length w3 hA1' (by omega) hc1 hx1 ha1
    rw [List.length_take, Nat.min_eq_left (by omega), H1.out k1 l1] at T1
    rw [List.length_take, Nat.min_eq_left (by omega), H2.out k2 l2] at T2
    rw [H3.out] at T3
    rw [H4.out] at T4
    have G1 := Lib.hid T1
    have G2 := Lib.hid T2
    have G3 := Lib.hid T3
    have G4 := Lib.hid T4
    clear T1 T2 T3 T4 H1 H2 H3 H4
    refine G1.out.mono ?_
    rintro e w4 ⟨rfl, hw⟩; subst hw
    unfold vI
    go_wp2_with fail
    refine G2.out.mono ?_
    rintro e w5 ⟨rfl, hw⟩; subst hw
    unfold vT
    go_wp2_with fail
    refine G3.out.mono ?_
    rintro e w6 ⟨rfl, hw⟩; subst hw
    unfold vT
    go_wp2_with fail
    refine G4.out.mono ?_
    rintro e w7 ⟨rfl, hw⟩; subst hw
    unfold vI
    go_wp2_with fail

    go_ret
    exact ⟨rfl, HM2.out.below (fun _ _ h => h)⟩
  · rw [if_neg hlt] at hK
    have hd : decide (cut < 0) = false := decide_eq_false hlt
    clear hlt hc
    go_enter Tryd.func8, Tryd.ntmps8
    go_wp2_with fail
    refine HS.out.mono ?_
    rintro e w1 ⟨rfl, hm1⟩
    go_wp2_with fail
    refine (HPI.out _).mono ?_
    rintro e w2 ⟨v, rfl, hown, hm2⟩
    obtain ⟨A1, c1, rfl, hc1, hA1, ha1, hx1⟩ := own_cells hown
    have HM := Lib.hid (Mod.trans hm1 hm2 (fun _ _ h => h))
    clear hown hm1 hm2 HS
    go_wp2_with fail
    refine (HPT.out _).mono ?_
    rintro e w3 ⟨v, rfl, hown, hm2⟩
    obtain ⟨A2, c2, rfl, hc2, hA2, ha2, hx2⟩ := own_cells hown
    have hA1' := hA1.keep hm2 (fun _ _ h => h)
    have HM2 := Lib.hid (Mod.trans HM.out hm2 (fun _ _ h => h))
    clear hown hm2 hA1 HM
    have hs1 := slice_to (P := Tryd.prog) 22 5 k1 E.length c1 A1 Tryd.underlying22 rfl ha1 (by omega) (by omega)
    have hs2 := slice_to (P := Tryd.prog) 22 5 k2 F.length c2 A2 Tryd.underlying22 rfl ha2 (by omega) (by omega)
    go_wp2_with fail
    have T1 := takeInt_calls A1 c1 (E.take k1) 0 w3 (hA1'.take k1) (by rw [List.length_take]; omega) (by rw [List.length_take]; omega) hx1 ha1
    have T2 := takeText_calls A2 c2 (F.take k2) 0 s.size w3 (hA2.take k2) (by rw [List.length_take]; omega) (by rw [List.length_take]; omega) hx2 ha2
    have T3 := takeText_calls A2 c2 F 0 ((s.size : Int) - 1) w3 hA2 (by omega) hc2 hx2 ha2
    have T4 := takeInt_calls A1 c1 E E.length w3 hA1' (by omega) hc1 hx1 ha1
    rw [List.length_take, Nat.min_eq_left (by omega), H1.out k1 l1] at T1
    rw [List.length_take, Nat.min_eq_left (by omega), H2.out k2 l2] at T2
    rw [H3.out] at T3
    rw [H4.out] at T4
    have G1 := Lib.hid T1
    have G2 := Lib.hid T2
    have G3 := Lib.hid T3
    have G4 := Lib.hid T4
    clear T1 T2 T3 T4 H1 H2 H3 H4
    refine G1.out.mono ?_
    rintro e w4 ⟨rfl, hw⟩; subst hw
    unfold vI
    go_wp2_with fail
    refine G2.out.mono ?_
    rintro e w5 ⟨rfl, hw⟩; subst hw
    unfold vT
    go_wp2_with fail
    refine G3.out.mono ?_
    rintro e w6 ⟨rfl, hw⟩; subst hw
    unfold vT
    go_wp2_with fail
    refine G4.out.mono ?_
    rintro e w7 ⟨rfl, hw⟩; subst hw
    unfold vI
    go_wp2_with fail

    go_ret
    exact ⟨rfl, HM2.out.below (fun _ _ h => h)⟩
end Wire
end Go.Proofs.YtammcnencaemfaaDoor
