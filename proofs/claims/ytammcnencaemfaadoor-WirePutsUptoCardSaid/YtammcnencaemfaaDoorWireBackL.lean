/- The walk of the law WireBack. -/
import Derived.Test.YtammcnencaemfaaDoorWireS
import Derived.Test.YtammcnencaemfaaDoorKr
namespace Go.Proofs.YtammcnencaemfaaDoor
open Go.RowKit K
namespace Wire

theorem takeI_put (p : List UInt8) (n : Int) (r : List UInt8) (hn : In64 n) : takeI (p ++ (enc n ++ r)) (p.length : Int) = (n, ((p.length + (enc n).length : Nat) : Int), true) := by
  have h := takeI_some (p ++ (enc n ++ r)) p.length n (enc n).length (by simp) (by rw [List.drop_left]; exact dec_enc n hn r)
  rw [h]; simp

theorem takeT_put (p s r : List UInt8) (most : Int) (hs : s.length ≤ 140737488355328) (hm : (s.length : Int) ≤ most) :
    takeT (p ++ (encT s ++ r)) (p.length : Int) most = (s, ((p.length + (encT s).length : Nat) : Int), true) := by
  have h := takeI_put p s.length (s ++ r) (in64_len _ hs)
  unfold takeT encT
  rw [List.append_assoc, h]
  dsimp only
  rw [if_neg (by simp; omega)]
  have e : (p ++ (enc (s.length : Int) ++ (s ++ r))).drop ((p.length + (enc (s.length : Int)).length : Nat) : Int).toNat = s ++ r := by
    rw [Int.toNat_natCast, ← List.append_assoc, ← List.length_append, List.drop_left]
  rw [e, Int.toNat_natCast, List.take_left]
  simp only [List.length_append, Prod.mk.injEq, and_true, true_and]
  omega

/-- what is taken, put again, has just those bytes -/
theorem takeI_back (l : List UInt8) (at_ : Int) (h : (takeI l at_).2.2 = true) :
    ∃ (p q : Nat), at_ = p ∧ p + q ≤ l.length ∧ In64 (takeI l at_).1 ∧ (takeI l at_).2.1 = ((p : Int) + (q : Int)) ∧ (l.drop p).take q = enc (takeI l at_).1 := by
  rcases takeI_cases l at_ with h0 | ⟨n, p, k, rfl, hk, -, hpk, hn, hd, h0⟩
  · rw [h0] at h; cases h
  · obtain ⟨-, -, -, -, h5⟩ := dec_some _ _ _ hd
    rw [h0]
    exact ⟨p, k, rfl, hpk, hn, by simp, h5⟩

theorem takeT_back (l : List UInt8) (at_ most : Int) (h : (takeT l at_ most).2.2 = true) :
    ∃ (p q : Nat), at_ = p ∧ p + q ≤ l.length ∧ (takeT l at_ most).1.length ≤ q ∧ (takeT l at_ most).2.1 = ((p : Int) + (q : Int)) ∧ (l.drop p).take q = encT (takeT l at_ most).1 := by
  unfold takeT at h ⊢
  rcases takeI_cases l at_ with h0 | ⟨n, p, k, rfl, hk, -, hpk, hn, hd, h0⟩
  · rw [h0] at h; simp at h
  · obtain ⟨-, -, -, -, h5⟩ := dec_some _ _ _ hd
    rw [h0] at h ⊢
    dsimp only at h ⊢
    by_cases hc : True = False ∨ n < 0 ∨ most < n ∨ (l.length : Int) - ((p + k : Nat) : Int) < n
    · rw [if_pos (by simpa using hc)] at h; cases h
    · rw [if_neg (by simpa using hc)]
      obtain ⟨m, rfl⟩ := Int.eq_ofNat_of_zero_le (show 0 ≤ n by omega)
      simp only [Int.toNat_natCast]
      have hlen : ((l.drop (p + k)).take m).length = m := by simp; omega
      refine ⟨p, k + m, rfl, by omega, by rw [hlen]; omega, by omega, ?_⟩
      rw [encT, hlen, ← h5, List.take_add, List.drop_drop]

theorem encT_len (s : ByteArray) (h : s.size ≤ 1048576) : (encT s.data.toList).length ≤ 10 + s.size := by
  have es : s.data.toList.length = s.size := by simp
  have e3 := enc_len _ (in64_len s.size (by omega))
  rw [encT, List.length_append, es]; omega

theorem in64_wf {n : Int} (h : (Lit.int .i64 n).wf = true) : In64 n := by
  simp only [Lit.wf, Bool.and_eq_true, IntKind.min, IntKind.max] at h
  simp [IntKind.signed, IntKind.bits] at h
  unfold In64; omega

set_option maxRecDepth 100000 in
set_option maxHeartbeats 3000000 in
theorem wireBack_calls (n : Int) (s : ByteArray) (m : Int) (t : ByteArray) (A : Option Addr) (c : Nat) (l : List UInt8) (at_ : Int) (w : World) (ht : Tab w) (wn : (Lit.int .i64 n).wf = true) (hs : s.size ≤ 1048576) (wm : (Lit.int .i64 m).wf = true) (hti : t.size ≤ 1048576) (hb : BytesIn w A c l) (hl2 : l.length ≤ 1048576) :
    Calls Tryd.prog 6 #[.int .i64 n, .string s, .int .i64 m, .string t, .slice A l.length c, .int .i64 at_] w fun e w' => e = .returned (.bool true) ∧ Below w.heap.size w w' := by
  have hn : In64 n := in64_wf wn
  have hm : In64 m := in64_wf wm
  clear wn wm
  have HS := Lib.hid (shown_calls w ht)
  have HB := Lib.hid hb
  have hbc := hb.cap
  have hbm := hb.max
  clear hb ht
  have e1 := enc_len n hn
  have e2 := enc_len m hm
  have el1 := encT_len s (by omega)
  have el2 := encT_len t (by omega)
  go_enter Tryd.func6, Tryd.ntmps6
  go_wp2_with fail
  refine HS.out.mono ?_
  rintro e w1 ⟨rfl, hm1⟩
  go_wp2_with fail
  refine (putInt_calls none 0 [] n w1 (.inl rfl) (by simp) (fun _ => rfl) hn).mono ?_
  rintro e w2 ⟨v, rfl, hown, hm2⟩
  obtain ⟨L1, hL1⟩ : ∃ L, [] ++ enc n = L := ⟨_, rfl⟩
  rw [hL1] at hown
  have hl1 : L1.length ≤ 10 := by rw [← hL1]; simpa using e1
  have HL1 := Lib.hid hL1
  obtain ⟨A1, c1, rfl, hc1, hA1, -, -⟩ := own_cells hown
  have hM := Mod.trans hm1 hm2 (fun _ _ h => h)
  clear hown hm1 hm2 HS hL1
  have hM' := Lib.hid hM
  clear hM
  go_wp2_with fail
  refine (putText_calls A1 c1 L1 s w2 hA1 (by omega) (cells_nil hA1)).mono ?_
  rintro e w3 ⟨v, rfl, hown, hm2⟩
  obtain ⟨L2, hL2⟩ : ∃ L, L1 ++ encT s.data.toList = L := ⟨_, rfl⟩
  rw [hL2] at hown
  have hl2' : L2.length ≤ 20 + s.size := by rw [← hL2, List.length_append]; omega
  have HL2 := Lib.hid hL2
  obtain ⟨A2, c2, rfl, hc2, hA2, -, -⟩ := own_cells hown
  have hM := Lib.hid (Mod.trans hM'.out hm2 (fun _ _ h => h))
  clear hown hm2 hA1 hL2 hM'
  go_wp2_with fail
  refine (putInt_calls A2 c2 L2 m w3 hA2 (by omega) (cells_nil hA2) hm).mono ?_
  rintro e w4 ⟨v, rfl, hown, hm2⟩
  obtain ⟨L3, hL3⟩ : ∃ L, L2 ++ enc m = L := ⟨_, rfl⟩
  rw [hL3] at hown
  have hl3 : L3.length ≤ 30 + s.size := by rw [← hL3, List.length_append]; omega
  have HL3 := Lib.hid hL3
  obtain ⟨A3, c3, rfl, hc3, hA3, -, -⟩ := own_cells hown
  have hM' := Lib.hid (Mod.trans hM.out hm2 (fun _ _ h => h))
  clear hown hm2 hA2 hL3 hM
  go_wp2_with fail
  refine (putText_calls A3 c3 L3 t w4 hA3 (by omega) (cells_nil hA3)).mono ?_
  rintro e w5 ⟨v, rfl, hown, hm2⟩
  obtain ⟨L4, hL4⟩ : ∃ L, L3 ++ encT t.data.toList = L := ⟨_, rfl⟩
  rw [hL4] at hown
  have hl4 : L4.length ≤ 40 + s.size + t.size := by rw [← hL4, List.length_append]; omega
  obtain ⟨A4, c4, rfl, hc4, hA4, hadr4, hmax4⟩ := own_cells hown
  have HM := Lib.hid (Mod.trans hM'.out hm2 (fun _ _ h => h))
  clear hown hm2 hA3 hM'
  have hb2 := HB.out.cells.keep HM.out (fun _ _ h => h)
  -- what was put is taken
  have es : s.data.toList.length = s.size := by simp
  have et : t.data.toList.length = t.size := by simp
  obtain ⟨P1, P2, P3, k1, k2, k3, k4⟩ : ∃ P1 P2 P3 : Nat, takeI L4 0 = (n, (P1 : Int), true) ∧ takeT L4 P1 s.size = (s.data.toList, (P2 : Int), true) ∧ takeI L4 P2 = (m, (P3 : Int), true) ∧ takeT L4 P3 t.size = (t.data.toList, (L4.length : Int), true) := by
    have k1 := takeI_put [] n (encT s.data.toList ++ enc m ++ encT t.data.toList) hn
    have k2 := takeT_put (enc n) s.data.toList (enc m ++ encT t.data.toList) s.size (by omega) (by omega)
    have k3 := takeI_put (enc n ++ encT s.data.toList) m (encT t.data.toList) hm
    have k4 := takeT_put (enc n ++ encT s.data.toList ++ enc m) t.data.toList [] t.size (by omega) (by omega)
    have hLL : L4 = enc n ++ (encT s.data.toList ++ (enc m ++ encT t.data.toList)) := by
      rw [← hL4, ← HL3.out, ← HL2.out, ← HL1.out]; simp
    simp only [List.nil_append, List.append_nil, List.append_assoc, List.length_nil, List.length_append, Nat.zero_add] at k1 k2 k3 k4
    rw [← hLL] at k1 k2 k3 k4
    refine ⟨_, _, _, k1, k2, k3, ?_⟩
    rw [Nat.add_assoc, k4, hLL]; simp only [List.length_append, Nat.add_assoc]
  have HK1 := Lib.hid k1
  have HK2 := Lib.hid k2
  have HK3 := Lib.hid k3
  have HK4 := Lib.hid k4
  clear k1 k2 k3 k4 hL4 HL1 HL2 HL3 el1 el2 e1 e2 es et hl1 hl2' hl3
  have hs1 : (⟨s.data.toList.toArray⟩ : ByteArray) = s := by simp
  have ht1 : (⟨t.data.toList.toArray⟩ : ByteArray) = t := by simp
  go_wp2_with fail
  refine (takeInt_calls A4 c4 L4 0 w5 hA4 (by omega) hc4 hmax4 hadr4).mono ?_
  rintro e w' ⟨rfl, hw⟩; subst hw
  rw [HK1.out]; unfold vI
  go_wp2_with fail
  refine (takeText_calls A4 c4 L4 P1 s.size w' hA4 (by omega) hc4 hmax4 hadr4).mono ?_
  rintro e w2 ⟨rfl, hw⟩; subst hw
  rw [HK2.out]; unfold vT
  go_wp2_with fail
  refine (takeInt_calls A4 c4 L4 P2 w2 hA4 (by omega) hc4 hmax4 hadr4).mono ?_
  rintro e w3 ⟨rfl, hw⟩; subst hw
  rw [HK3.out]; unfold vI
  go_wp2_with fail
  refine (takeText_calls A4 c4 L4 P3 t.size w3 hA4 (by omega) hc4 hmax4 hadr4).mono ?_
  rintro e w4 ⟨rfl, hw⟩; subst hw
  rw [HK4.out]; unfold vT
  go_wp2_with fail
  refine (takeInt_calls A c l at_ w4 hb2 (by omega) hbc hbm HB.out.adr).mono ?_
  rintro e w5 ⟨rfl, hw⟩; subst hw
  unfold vI
  go_wp2_with fail
  have hback := takeI_back l at_
  have htback := takeT_back l at_ l.length
  obtain ⟨u, r, four, hR⟩ : ∃ u r four, takeI l at_ = (u, r, four) := ⟨_, _, _, rfl⟩
  rw [hR] at hback ⊢
  clear hR
  dsimp only at hback ⊢
  have HTB := Lib.hid htback
  clear htback
  cases four with
  | true =>
    obtain ⟨p, q, hp, hpq, hu, hr, hT⟩ := hback rfl
    subst hp hr
    obtain ⟨A', hsl, -, hA'⟩ := slice_any (P := Tryd.prog) 22 5 p q hb2 HB.out.adr Tryd.underlying22 rfl hpq hbc
    have hln : ((l.drop p).take q).length = q := by simp; omega
    rw [hT] at hA' hln
    have hcv : ∀ w', Mod (fun _ => False) w5.drew w' → (convert 22 9 (.slice A' q (c - p))).run Tryd.prog w' = .ok (.string ⟨(enc u).toArray⟩) w' := fun w' hm => by
      have := run_bytes (P := Tryd.prog) (c - p) (Cells.keep (S := fun _ => False) hA' (Mod.of_drew_l hm) (fun _ _ h => h)) 22 9 5 Tryd.underlying22 Tryd.underlying5 Tryd.underlying9
      rw [hln] at this
      exact this
    have hrf : Mod (fun _ => False) w5.drew w5.drew := Mod.refl _ _
    have d1 : decide ((p : Int) + (q : Int) < (p : Int)) = false := decide_eq_false (by omega)
    have d2 : decide ((l.length : Int) < (p : Int) + (q : Int)) = false := decide_eq_false (by omega)
    have hpi := fun w => putInt_calls none 0 [] u w (.inl rfl) (by simp) (fun _ => rfl) hu
    simp only [List.nil_append] at hpi
    have HPI := Lib.hid hpi
    clear hT hA' hback hpi hln
    have hsum : IntKind.i64.wrap ((p : Int) + (q : Int)) = (p : Int) + (q : Int) := by rw [IntKind.wrap_i64]; omega
    generalize enc u = E at *
    refine region_m (by kernel_rfl) ?_
    simp only [List.length_cons, List.length_nil, List.replicate]
    refine take0 (v := ?v1) (oi := ?o1) 0 ?hi1 (by kernel_rfl) (by kernel_rfl) (by kernel_rfl) ?hq1 ?hy1 ?_
    case hi1 => (simp only [List.getElem?_toArray, List.getElem?_cons_zero, List.getElem?_cons_succ]; rfl)
    case hq1 => exact fun _ _ _ h => h
    case hy1 => first | (refine ry_not ?_; rfl) | (refine ry_run (by rfl) (fun w' hw' => ?_); go_simp; try rfl)
    simp only [Act.put, List.setIfInBounds_toArray, List.set_cons_zero, List.set_cons_succ]
    refine take0 (v := ?v2) (oi := ?o2) 1 ?hi2 (by kernel_rfl) (by kernel_rfl) (by kernel_rfl) ?hq2 ?hy2 ?_
    case hi2 => (simp only [List.getElem?_toArray, List.getElem?_cons_zero, List.getElem?_cons_succ]; rfl)
    case hq2 => exact fun _ _ _ h => h
    case hy2 => first | (refine ry_not ?_; rfl) | (refine ry_run (by rfl) (fun w' hw' => ?_); go_simp; try rfl)
    simp only [Act.put, List.setIfInBounds_toArray, List.set_cons_zero, List.set_cons_succ]
    refine take0 (v := ?v3) (oi := ?o3) 2 ?hi3 (by kernel_rfl) (by kernel_rfl) (by kernel_rfl) ?hq3 ?hy3 ?_
    case hi3 => (simp only [List.getElem?_toArray, List.getElem?_cons_zero, List.getElem?_cons_succ]; rfl)
    case hq3 => exact fun _ _ _ h => h
    case hy3 => first | (refine ry_not ?_; rfl) | (refine ry_run (by rfl) (fun w' hw' => ?_); go_simp; try rfl)
    simp only [Act.put, List.setIfInBounds_toArray, List.set_cons_zero, List.set_cons_succ]
    refine take0 (v := ?v4) (oi := ?o4) 3 ?hi4 (by kernel_rfl) (by kernel_rfl) (by kernel_rfl) ?hq4 ?hy4 ?_
    case hi4 => (simp only [List.getElem?_toArray, List.getElem?_cons_zero, List.getElem?_cons_succ]; rfl)
    case hq4 => exact fun _ _ _ h => h
    case hy4 => first | (refine ry_not ?_; rfl) | (refine ry_run (by rfl) (fun w' hw' => ?_); go_simp; try rfl)
    simp only [Act.put, List.setIfInBounds_toArray, List.set_cons_zero, List.set_cons_succ]
    refine take0 (v := ?v5) (oi := ?o5) 4 ?hi5 (by kernel_rfl) (by kernel_rfl) (by kernel_rfl) ?hq5 ?hy5 ?_
    case hi5 => (simp only [List.getElem?_toArray, List.getElem?_cons_zero, List.getElem?_cons_succ]; rfl)
    case hq5 => exact fun _ _ _ h => h
    case hy5 => first | (refine ry_not ?_; rfl) | (refine ry_run (by rfl) (fun w' hw' => ?_); go_simp; try rfl)
    simp only [Act.put, List.setIfInBounds_toArray, List.set_cons_zero, List.set_cons_succ]
    refine take0 (v := ?v6) (oi := ?o6) 5 ?hi6 (by kernel_rfl) (by kernel_rfl) (by kernel_rfl) ?hq6 ?hy6 ?_
    case hi6 => (simp only [List.getElem?_toArray, List.getElem?_cons_zero, List.getElem?_cons_succ]; rfl)
    case hq6 => exact fun _ _ _ h => h
    case hy6 => first | (refine ry_not ?_; rfl) | (refine ry_run (by rfl) (fun w' hw' => ?_); go_simp; try rfl)
    simp only [Act.put, List.setIfInBounds_toArray, List.set_cons_zero, List.set_cons_succ]
    refine take0 (v := ?v7) (oi := ?o7) 6 ?hi7 (by kernel_rfl) (by kernel_rfl) (by kernel_rfl) ?hq7 ?hy7 ?_
    case hi7 => (simp only [List.getElem?_toArray, List.getElem?_cons_zero, List.getElem?_cons_succ]; rfl)
    case hq7 => exact fun _ _ _ h => h
    case hy7 => first | (refine ry_not ?_; rfl) | (refine ry_run (by rfl) (fun w' hw' => ?_); go_simp; try rfl)
    simp only [Act.put, List.setIfInBounds_toArray, List.set_cons_zero, List.set_cons_succ]
    refine take0 (v := ?v8) (oi := ?o8) 7 ?hi8 (by kernel_rfl) (by kernel_rfl) (by kernel_rfl) ?hq8 ?hy8 ?_
    case hi8 => (simp only [List.getElem?_toArray, List.getElem?_cons_zero, List.getElem?_cons_succ]; rfl)
    case hq8 => exact fun _ _ _ h => h
    case hy8 => first | (refine ry_not ?_; rfl) | (refine ry_run (by rfl) (fun w' hw' => ?_); go_simp; try rfl)
    simp only [Act.put, List.setIfInBounds_toArray, List.set_cons_zero, List.set_cons_succ]
    refine take0 (v := ?v9) (oi := ?o9) 8 ?hi9 (by kernel_rfl) (by kernel_rfl) (by kernel_rfl) ?hq9 ?hy9 ?_
    case hi9 => (simp only [List.getElem?_toArray, List.getElem?_cons_zero, List.getElem?_cons_succ]; rfl)
    case hq9 => exact fun _ _ _ h => h
    case hy9 => first | (refine ry_not ?_; rfl) | (refine ry_run (by rfl) (fun w' hw' => ?_); go_simp; try rfl)
    simp only [Act.put, List.setIfInBounds_toArray, List.set_cons_zero, List.set_cons_succ]
    refine take0 (v := ?v10) (oi := ?o10) 9 ?hi10 (by kernel_rfl) (by kernel_rfl) (by kernel_rfl) ?hq10 ?hy10 ?_
    case hi10 => (simp only [List.getElem?_toArray, List.getElem?_cons_zero, List.getElem?_cons_succ]; rfl)
    case hq10 => exact fun _ _ _ h => h
    case hy10 => first | (refine ry_not ?_; rfl) | (refine ry_run (by rfl) (fun w' hw' => ?_); go_simp; try rfl)
    simp only [Act.put, List.setIfInBounds_toArray, List.set_cons_zero, List.set_cons_succ]
    refine take0 (v := ?v11) (oi := ?o11) 10 ?hi11 (by kernel_rfl) (by kernel_rfl) (by kernel_rfl) ?hq11 ?hy11 ?_
    case hi11 => (simp only [List.getElem?_toArray, List.getElem?_cons_zero, List.getElem?_cons_succ]; rfl)
    case hq11 => exact fun _ _ _ h => h
    case hy11 => first | (refine ry_not ?_; rfl) | (refine ry_run (by rfl) (fun w' hw' => ?_); go_simp; try rfl)
    simp only [Act.put, List.setIfInBounds_toArray, List.set_cons_zero, List.set_cons_succ]
    refine take0 (v := ?v12) (oi := ?o12) 11 ?hi12 (by kernel_rfl) (by kernel_rfl) (by kernel_rfl) ?hq12 ?hy12 ?_
    case hi12 => (simp only [List.getElem?_toArray, List.getElem?_cons_zero, List.getElem?_cons_succ]; rfl)
    case hq12 => exact fun _ _ _ h => h
    case hy12 => first | (refine ry_not ?_; rfl) | (refine ry_run (by rfl) (fun w' hw' => ?_); go_simp; try rfl)
    simp only [Act.put, List.setIfInBounds_toArray, List.set_cons_zero, List.set_cons_succ]
    refine take0 (v := ?v13) (oi := ?o13) 12 ?hi13 (by kernel_rfl) (by kernel_rfl) (by kernel_rfl) ?hq13 ?hy13 ?_
    case hi13 => (simp only [List.getElem?_toArray, List.getElem?_cons_zero, List.getElem?_cons_succ]; rfl)
    case hq13 => exact fun _ _ _ h => h
    case hy13 => first | (refine ry_not ?_; rfl) | (refine ry_run (by rfl) (fun w' hw' => ?_); go_simp; try rfl)
    simp only [Act.put, List.setIfInBounds_toArray, List.set_cons_zero, List.set_cons_succ]
    refine take0 (v := ?v14) (oi := ?o14) 15 ?hi14 (by kernel_rfl) (by kernel_rfl) (by kernel_rfl) ?hq14 ?hy14 ?_
    case hi14 => (simp only [List.getElem?_toArray, List.getElem?_cons_zero, List.getElem?_cons_succ]; rfl)
    case hq14 => exact fun _ _ _ h => h
    case hy14 => first | (refine ry_not ?_; rfl) | (refine ry_run (by rfl) (fun w' hw' => ?_); go_simp; try rfl)
    simp only [Act.put, List.setIfInBounds_toArray, List.set_cons_zero, List.set_cons_succ]
    refine take0 (v := ?v15) (oi := ?o15) 16 ?hi15 (by kernel_rfl) (by kernel_rfl) (by kernel_rfl) ?hq15 ?hy15 ?_
    case hi15 => (simp only [List.getElem?_toArray, List.getElem?_cons_zero, List.getElem?_cons_succ]; rfl)
    case hq15 => exact fun _ _ _ h => h
    case hy15 => first | (refine ry_not ?_; rfl) | (refine ry_run (by rfl) (fun w' hw' => ?_); go_simp; try rfl)
    simp only [Act.put, List.setIfInBounds_toArray, List.set_cons_zero, List.set_cons_succ]
    refine take0 (v := ?v16) (oi := ?o16) 17 ?hi16 (by kernel_rfl) (by kernel_rfl) (by kernel_rfl) ?hq16 ?hy16 ?_
    case hi16 => (simp only [List.getElem?_toArray, List.getElem?_cons_zero, List.getElem?_cons_succ]; rfl)
    case hq16 => exact fun _ _ _ h => h
    case hy16 => first | (refine ry_not ?_; rfl) | (refine ry_run (by rfl) (fun w' hw' => ?_); go_simp; try rfl)
    simp only [Act.put, List.setIfInBounds_toArray, List.set_cons_zero, List.set_cons_succ]
    refine take0 (v := ?v17) (oi := ?o17) 18 ?hi17 (by kernel_rfl) (by kernel_rfl) (by kernel_rfl) ?hq17 ?hy17 ?_
    case hi17 => (simp only [List.getElem?_toArray, List.getElem?_cons_zero, List.getElem?_cons_succ]; rfl)
    case hq17 => exact fun _ _ _ h => h
    case hy17 => first | (refine ry_not ?_; rfl) | (refine ry_run (by rfl) (fun w' hw' => ?_); go_simp; try rfl)
    simp only [Act.put, List.setIfInBounds_toArray, List.set_cons_zero, List.set_cons_succ]
    refine take0 (v := ?v18) (oi := ?o18) 19 ?hi18 (by kernel_rfl) (by kernel_rfl) (by kernel_rfl) ?hq18 ?hy18 ?_
    case hi18 => (simp only [List.getElem?_toArray, List.getElem?_cons_zero, List.getElem?_cons_succ]; rfl)
    case hq18 => exact fun _ _ _ h => h
    case hy18 => first | (refine ry_not ?_; rfl) | (refine ry_run (by rfl) (fun w' hw' => ?_); go_simp; try rfl)
    simp only [Act.put, List.setIfInBounds_toArray, List.set_cons_zero, List.set_cons_succ]
    refine step0 (o := ?o19) 13 (by kernel_rfl) ?hi19 ?hw19 ?_
    case hi19 => (simp only [List.getElem?_toArray, List.getElem?_cons_zero, List.getElem?_cons_succ]; rfl)
    case hw19 => rfl
    go_simp
    refine (HPI.out _).mono ?_
    rintro e w1 ⟨v, rfl, hown, hm1⟩
    refine ⟨.inl hm1, ?_⟩
    obtain ⟨B, cap, rfl, hcap, hB, -, -⟩ := own_cells hown
    have hcv2 : ∀ w', Mod0 w1 w' → (convert 22 9 (.slice B E.length cap)).run Tryd.prog w' = .ok (.string ⟨E.toArray⟩) w' := fun w' h => run_bytes cap (Cells.keep hB h (fun _ _ h => h)) _ _ 5 Tryd.underlying22 Tryd.underlying5 Tryd.underlying9
    refine take0 (v := ?v20) (oi := ?o20) 14 ?hi20 (by kernel_rfl) (by kernel_rfl) (by kernel_rfl) ?hq20 ?hy20 ?_
    case hi20 => (simp only [List.getElem?_toArray, List.getElem?_cons_zero, List.getElem?_cons_succ]; rfl)
    case hq20 => exact fun _ _ _ h => h
    case hy20 => first | (refine ry_not ?_; rfl) | (refine ry_run (by rfl) (fun w' hw' => ?_); go_simp; try rfl)
    simp only [Act.put, List.setIfInBounds_toArray, List.set_cons_zero, List.set_cons_succ]
    refine take0 (v := ?v21) (oi := ?o21) 20 ?hi21 (by kernel_rfl) (by kernel_rfl) (by kernel_rfl) ?hq21 ?hy21 ?_
    case hi21 => (simp only [List.getElem?_toArray, List.getElem?_cons_zero, List.getElem?_cons_succ]; rfl)
    case hq21 => exact fun _ _ _ h => h
    case hy21 => first | (refine ry_not ?_; rfl) | (refine ry_run (by rfl) (fun w' hw' => ?_); go_simp; try rfl)
    simp only [Act.put, List.setIfInBounds_toArray, List.set_cons_zero, List.set_cons_succ]
    refine take0 (v := ?v22) (oi := ?o22) 21 ?hi22 (by kernel_rfl) (by kernel_rfl) (by kernel_rfl) ?hq22 ?hy22 ?_
    case hi22 => (simp only [List.getElem?_toArray, List.getElem?_cons_zero, List.getElem?_cons_succ]; rfl)
    case hq22 => exact fun _ _ _ h => h
    case hy22 => first | (refine ry_not ?_; rfl) | (refine ry_run (by rfl) (fun w' hw' => ?_); go_simp; try rfl)
    simp only [Act.put, List.setIfInBounds_toArray, List.set_cons_zero, List.set_cons_succ]
    refine take0 (v := ?v23) (oi := ?o23) 22 ?hi23 (by kernel_rfl) (by kernel_rfl) (by kernel_rfl) ?hq23 ?hy23 ?_
    case hi23 => (simp only [List.getElem?_toArray, List.getElem?_cons_zero, List.getElem?_cons_succ]; rfl)
    case hq23 => exact fun _ _ _ h => h
    case hy23 => first | (refine ry_not ?_; rfl) | (refine ry_run (by rfl) (fun w' hw' => ?_); go_simp; try rfl)
    simp only [Act.put, List.setIfInBounds_toArray, List.set_cons_zero, List.set_cons_succ]
    refine wpAnyM_done (by kernel_rfl) ?_
    go_simp
    go_wp2_with fail
    have HM2 := Lib.hid (Mod.trans HM.out (Mod.trans (Mod.of_drew_l hm1) (Mod.refl _ _) (fun _ _ h => h)) (fun _ _ h => h))
    clear HPI hcv hcv2 hown hsl hB d1 d2
    have hb3 := HB.out.cells.keep HM2.out (fun _ _ h => h)
    refine (takeText_calls A c l (p : Int) l.length _ hb3 (by omega) hbc hbm HB.out.adr).mono ?_
    rintro e w6 ⟨rfl, hw⟩; subst hw
    unfold vT
    go_wp2_with fail
    have htb := HTB.out
    clear HTB
    obtain ⟨V, r2, five, hR2⟩ : ∃ V r2 five, takeT l (p : Int) l.length = (V, r2, five) := ⟨_, _, _, rfl⟩
    rw [hR2] at htb ⊢
    clear hR2
    dsimp only at htb ⊢
    cases five with
    | true =>
      obtain ⟨p', q', hp', hpq', hV, hr', hT'⟩ := htb rfl
      obtain rfl : p' = p := by omega
      subst hr'
      obtain ⟨A'', hsl2, -, hA''⟩ := slice_any (P := Tryd.prog) 22 5 p' q' hb3 HB.out.adr Tryd.underlying22 rfl hpq' hbc
      have hln2 : ((l.drop p').take q').length = q' := by simp; omega
      rw [hT'] at hA'' hln2
      have hg1 : decide ((p' : Int) + (q' : Int) ≥ (p' : Int)) = true := decide_eq_true (by omega)
      have hg2 : decide ((p' : Int) + (q' : Int) ≤ (l.length : Int)) = true := decide_eq_true (by omega)
      have hsum2 : IntKind.i64.wrap ((p' : Int) + (q' : Int)) = (p' : Int) + (q' : Int) := by rw [IntKind.wrap_i64]; omega
      obtain ⟨u8, hu8⟩ : ∃ u8 : ByteArray, (⟨V.toArray⟩ : ByteArray) = u8 := ⟨_, rfl⟩
      have hu8' : u8.data.toList = V := by rw [← hu8]
      have hu8s : u8.size ≤ 1048576 := by rw [← hu8]; simp [ByteArray.size]; omega
      have hpt := fun w => putText_calls none 0 [] u8 w (.inl rfl) (by simp; omega) (fun _ => rfl)
      simp only [List.nil_append, hu8'] at hpt
      have HPT := Lib.hid hpt
      rw [hu8]
      clear hT' hpt hu8 hu8' htb
      generalize encT V = E2 at *
      have hrf2 : Mod (fun _ => False) (World.drew w6) (World.drew w6) := Mod.refl _ _
      have hcv3 : ∀ w', Mod (fun _ => False) (World.drew w6) w' → (convert 22 9 (.slice A'' q' (c - p'))).run Tryd.prog w' = .ok (.string ⟨E2.toArray⟩) w' := fun w' hm => by
        have := run_bytes (P := Tryd.prog) (c - p') (Cells.keep (S := fun _ => False) hA'' (Mod.of_drew_l hm) (fun _ _ h => h)) 22 9 5 Tryd.underlying22 Tryd.underlying5 Tryd.underlying9
        rw [hln2] at this
        exact this
      clear hA'' hln2
      refine region_m (by kernel_rfl) ?_
      simp only [List.length_cons, List.length_nil, List.replicate]
      refine take0 (v := ?v24) (oi := ?o24) 0 ?hi24 (by kernel_rfl) (by kernel_rfl) (by kernel_rfl) ?hq24 ?hy24 ?_
      case hi24 => (simp only [List.getElem?_toArray, List.getElem?_cons_zero, List.getElem?_cons_succ]; rfl)
      case hq24 => exact fun _ _ _ h => h
      case hy24 => first | (refine ry_not ?_; rfl) | (refine ry_run (by rfl) (fun w' hw' => ?_); go_simp; try rfl)
      simp only [Act.put, List.setIfInBounds_toArray, List.set_cons_zero, List.set_cons_succ]
      refine take0 (v := ?v25) (oi := ?o25) 1 ?hi25 (by kernel_rfl) (by kernel_rfl) (by kernel_rfl) ?hq25 ?hy25 ?_
      case hi25 => (simp only [List.getElem?_toArray, List.getElem?_cons_zero, List.getElem?_cons_succ]; rfl)
      case hq25 => exact fun _ _ _ h => h
      case hy25 => first | (refine ry_not ?_; rfl) | (refine ry_run (by rfl) (fun w' hw' => ?_); go_simp; try rfl)
      simp only [Act.put, List.setIfInBounds_toArray, List.set_cons_zero, List.set_cons_succ]
      refine take0 (v := ?v26) (oi := ?o26) 2 ?hi26 (by kernel_rfl) (by kernel_rfl) (by kernel_rfl) ?hq26 ?hy26 ?_
      case hi26 => (simp only [List.getElem?_toArray, List.getElem?_cons_zero, List.getElem?_cons_succ]; rfl)
      case hq26 => exact fun _ _ _ h => h
      case hy26 => first | (refine ry_not ?_; rfl) | (refine ry_run (by rfl) (fun w' hw' => ?_); go_simp; try rfl)
      simp only [Act.put, List.setIfInBounds_toArray, List.set_cons_zero, List.set_cons_succ]
      refine take0 (v := ?v27) (oi := ?o27) 3 ?hi27 (by kernel_rfl) (by kernel_rfl) (by kernel_rfl) ?hq27 ?hy27 ?_
      case hi27 => (simp only [List.getElem?_toArray, List.getElem?_cons_zero, List.getElem?_cons_succ]; rfl)
      case hq27 => exact fun _ _ _ h => h
      case hy27 => first | (refine ry_not ?_; rfl) | (refine ry_run (by rfl) (fun w' hw' => ?_); go_simp; try rfl)
      simp only [Act.put, List.setIfInBounds_toArray, List.set_cons_zero, List.set_cons_succ]
      refine take0 (v := ?v28) (oi := ?o28) 4 ?hi28 (by kernel_rfl) (by kernel_rfl) (by kernel_rfl) ?hq28 ?hy28 ?_
      case hi28 => (simp only [List.getElem?_toArray, List.getElem?_cons_zero, List.getElem?_cons_succ]; rfl)
      case hq28 => exact fun _ _ _ h => h
      case hy28 => first | (refine ry_not ?_; rfl) | (refine ry_run (by rfl) (fun w' hw' => ?_); go_simp; try rfl)
      simp only [Act.put, List.setIfInBounds_toArray, List.set_cons_zero, List.set_cons_succ]
      refine take0 (v := ?v29) (oi := ?o29) 5 ?hi29 (by kernel_rfl) (by kernel_rfl) (by kernel_rfl) ?hq29 ?hy29 ?_
      case hi29 => (simp only [List.getElem?_toArray, List.getElem?_cons_zero, List.getElem?_cons_succ]; rfl)
      case hq29 => exact fun _ _ _ h => h
      case hy29 => first | (refine ry_not ?_; rfl) | (refine ry_run (by rfl) (fun w' hw' => ?_); go_simp; try rfl)
      simp only [Act.put, List.setIfInBounds_toArray, List.set_cons_zero, List.set_cons_succ]
      refine take0 (v := ?v30) (oi := ?o30) 6 ?hi30 (by kernel_rfl) (by kernel_rfl) (by kernel_rfl) ?hq30 ?hy30 ?_
      case hi30 => (simp only [List.getElem?_toArray, List.getElem?_cons_zero, List.getElem?_cons_succ]; rfl)
      case hq30 => exact fun _ _ _ h => h
      case hy30 => first | (refine ry_not ?_; rfl) | (refine ry_run (by rfl) (fun w' hw' => ?_); go_simp; try rfl)
      simp only [Act.put, List.setIfInBounds_toArray, List.set_cons_zero, List.set_cons_succ]
      refine take0 (v := ?v31) (oi := ?o31) 7 ?hi31 (by kernel_rfl) (by kernel_rfl) (by kernel_rfl) ?hq31 ?hy31 ?_
      case hi31 => (simp only [List.getElem?_toArray, List.getElem?_cons_zero, List.getElem?_cons_succ]; rfl)
      case hq31 => exact fun _ _ _ h => h
      case hy31 => first | (refine ry_not ?_; rfl) | (refine ry_run (by rfl) (fun w' hw' => ?_); go_simp; try rfl)
      simp only [Act.put, List.setIfInBounds_toArray, List.set_cons_zero, List.set_cons_succ]
      refine take0 (v := ?v32) (oi := ?o32) 8 ?hi32 (by kernel_rfl) (by kernel_rfl) (by kernel_rfl) ?hq32 ?hy32 ?_
      case hi32 => (simp only [List.getElem?_toArray, List.getElem?_cons_zero, List.getElem?_cons_succ]; rfl)
      case hq32 => exact fun _ _ _ h => h
      case hy32 => first | (refine ry_not ?_; rfl) | (refine ry_run (by rfl) (fun w' hw' => ?_); go_simp; try rfl)
      simp only [Act.put, List.setIfInBounds_toArray, List.set_cons_zero, List.set_cons_succ]
      refine take0 (v := ?v33) (oi := ?o33) 9 ?hi33 (by kernel_rfl) (by kernel_rfl) (by kernel_rfl) ?hq33 ?hy33 ?_
      case hi33 => (simp only [List.getElem?_toArray, List.getElem?_cons_zero, List.getElem?_cons_succ]; rfl)
      case hq33 => exact fun _ _ _ h => h
      case hy33 => first | (refine ry_not ?_; rfl) | (refine ry_run (by rfl) (fun w' hw' => ?_); go_simp; try rfl)
      simp only [Act.put, List.setIfInBounds_toArray, List.set_cons_zero, List.set_cons_succ]
      refine take0 (v := ?v34) (oi := ?o34) 10 ?hi34 (by kernel_rfl) (by kernel_rfl) (by kernel_rfl) ?hq34 ?hy34 ?_
      case hi34 => (simp only [List.getElem?_toArray, List.getElem?_cons_zero, List.getElem?_cons_succ]; rfl)
      case hq34 => exact fun _ _ _ h => h
      case hy34 => first | (refine ry_not ?_; rfl) | (refine ry_run (by rfl) (fun w' hw' => ?_); go_simp; try rfl)
      simp only [Act.put, List.setIfInBounds_toArray, List.set_cons_zero, List.set_cons_succ]
      refine take0 (v := ?v35) (oi := ?o35) 11 ?hi35 (by kernel_rfl) (by kernel_rfl) (by kernel_rfl) ?hq35 ?hy35 ?_
      case hi35 => (simp only [List.getElem?_toArray, List.getElem?_cons_zero, List.getElem?_cons_succ]; rfl)
      case hq35 => exact fun _ _ _ h => h
      case hy35 => first | (refine ry_not ?_; rfl) | (refine ry_run (by rfl) (fun w' hw' => ?_); go_simp; try rfl)
      simp only [Act.put, List.setIfInBounds_toArray, List.set_cons_zero, List.set_cons_succ]
      refine take0 (v := ?v36) (oi := ?o36) 12 ?hi36 (by kernel_rfl) (by kernel_rfl) (by kernel_rfl) ?hq36 ?hy36 ?_
      case hi36 => (simp only [List.getElem?_toArray, List.getElem?_cons_zero, List.getElem?_cons_succ]; rfl)
      case hq36 => exact fun _ _ _ h => h
      case hy36 => first | (refine ry_not ?_; rfl) | (refine ry_run (by rfl) (fun w' hw' => ?_); go_simp; try rfl)
      simp only [Act.put, List.setIfInBounds_toArray, List.set_cons_zero, List.set_cons_succ]
      refine take0 (v := ?v37) (oi := ?o37) 13 ?hi37 (by kernel_rfl) (by kernel_rfl) (by kernel_rfl) ?hq37 ?hy37 ?_
      case hi37 => (simp only [List.getElem?_toArray, List.getElem?_cons_zero, List.getElem?_cons_succ]; rfl)
      case hq37 => exact fun _ _ _ h => h
      case hy37 => first | (refine ry_not ?_; rfl) | (refine ry_run (by rfl) (fun w' hw' => ?_); go_simp; try rfl)
      simp only [Act.put, List.setIfInBounds_toArray, List.set_cons_zero, List.set_cons_succ]
      refine take0 (v := ?v38) (oi := ?o38) 14 ?hi38 (by kernel_rfl) (by kernel_rfl) (by kernel_rfl) ?hq38 ?hy38 ?_
      case hi38 => (simp only [List.getElem?_toArray, List.getElem?_cons_zero, List.getElem?_cons_succ]; rfl)
      case hq38 => exact fun _ _ _ h => h
      case hy38 => first | (refine ry_not ?_; rfl) | (refine ry_run (by rfl) (fun w' hw' => ?_); go_simp; try rfl)
      simp only [Act.put, List.setIfInBounds_toArray, List.set_cons_zero, List.set_cons_succ]
      refine take0 (v := ?v39) (oi := ?o39) 15 ?hi39 (by kernel_rfl) (by kernel_rfl) (by kernel_rfl) ?hq39 ?hy39 ?_
      case hi39 => (simp only [List.getElem?_toArray, List.getElem?_cons_zero, List.getElem?_cons_succ]; rfl)
      case hq39 => exact fun _ _ _ h => h
      case hy39 => first | (refine ry_not ?_; rfl) | (refine ry_run (by rfl) (fun w' hw' => ?_); go_simp; try rfl)
      simp only [Act.put, List.setIfInBounds_toArray, List.set_cons_zero, List.set_cons_succ]
      refine take0 (v := ?v40) (oi := ?o40) 18 ?hi40 (by kernel_rfl) (by kernel_rfl) (by kernel_rfl) ?hq40 ?hy40 ?_
      case hi40 => (simp only [List.getElem?_toArray, List.getElem?_cons_zero, List.getElem?_cons_succ]; rfl)
      case hq40 => exact fun _ _ _ h => h
      case hy40 => first | (refine ry_not ?_; rfl) | (refine ry_run (by rfl) (fun w' hw' => ?_); go_simp; try rfl)
      simp only [Act.put, List.setIfInBounds_toArray, List.set_cons_zero, List.set_cons_succ]
      refine take0 (v := ?v41) (oi := ?o41) 19 ?hi41 (by kernel_rfl) (by kernel_rfl) (by kernel_rfl) ?hq41 ?hy41 ?_
      case hi41 => (simp only [List.getElem?_toArray, List.getElem?_cons_zero, List.getElem?_cons_succ]; rfl)
      case hq41 => exact fun _ _ _ h => h
      case hy41 => first | (refine ry_not ?_; rfl) | (refine ry_run (by rfl) (fun w' hw' => ?_); go_simp; try rfl)
      simp only [Act.put, List.setIfInBounds_toArray, List.set_cons_zero, List.set_cons_succ]
      refine take0 (v := ?v42) (oi := ?o42) 20 ?hi42 (by kernel_rfl) (by kernel_rfl) (by kernel_rfl) ?hq42 ?hy42 ?_
      case hi42 => (simp only [List.getElem?_toArray, List.getElem?_cons_zero, List.getElem?_cons_succ]; rfl)
      case hq42 => exact fun _ _ _ h => h
      case hy42 => first | (refine ry_not ?_; rfl) | (refine ry_run (by rfl) (fun w' hw' => ?_); go_simp; try rfl)
      simp only [Act.put, List.setIfInBounds_toArray, List.set_cons_zero, List.set_cons_succ]
      refine take0 (v := ?v43) (oi := ?o43) 21 ?hi43 (by kernel_rfl) (by kernel_rfl) (by kernel_rfl) ?hq43 ?hy43 ?_
      case hi43 => (simp only [List.getElem?_toArray, List.getElem?_cons_zero, List.getElem?_cons_succ]; rfl)
      case hq43 => exact fun _ _ _ h => h
      case hy43 => first | (refine ry_not ?_; rfl) | (refine ry_run (by rfl) (fun w' hw' => ?_); go_simp; try rfl)
      simp only [Act.put, List.setIfInBounds_toArray, List.set_cons_zero, List.set_cons_succ]
      refine take0 (v := ?v44) (oi := ?o44) 22 ?hi44 (by kernel_rfl) (by kernel_rfl) (by kernel_rfl) ?hq44 ?hy44 ?_
      case hi44 => (simp only [List.getElem?_toArray, List.getElem?_cons_zero, List.getElem?_cons_succ]; rfl)
      case hq44 => exact fun _ _ _ h => h
      case hy44 => first | (refine ry_not ?_; rfl) | (refine ry_run (by rfl) (fun w' hw' => ?_); go_simp; try rfl)
      simp only [Act.put, List.setIfInBounds_toArray, List.set_cons_zero, List.set_cons_succ]
      refine step0 (o := ?o45) 16 (by kernel_rfl) ?hi45 ?hw45 ?_
      case hi45 => (simp only [List.getElem?_toArray, List.getElem?_cons_zero, List.getElem?_cons_succ]; rfl)
      case hw45 => rfl
      go_simp
      refine (HPT.out _).mono ?_
      rintro e w8 ⟨v, rfl, hown, hm1⟩
      refine ⟨.inl hm1, ?_⟩
      obtain ⟨B, cap, rfl, hcap, hB, -, -⟩ := own_cells hown
      have hcv4 : ∀ w', Mod0 w8 w' → (convert 22 9 (.slice B E2.length cap)).run Tryd.prog w' = .ok (.string ⟨E2.toArray⟩) w' := fun w' h => run_bytes cap (Cells.keep hB h (fun _ _ h => h)) _ _ 5 Tryd.underlying22 Tryd.underlying5 Tryd.underlying9
      refine take0 (v := ?v46) (oi := ?o46) 17 ?hi46 (by kernel_rfl) (by kernel_rfl) (by kernel_rfl) ?hq46 ?hy46 ?_
      case hi46 => (simp only [List.getElem?_toArray, List.getElem?_cons_zero, List.getElem?_cons_succ]; rfl)
      case hq46 => exact fun _ _ _ h => h
      case hy46 => first | (refine ry_not ?_; rfl) | (refine ry_run (by rfl) (fun w' hw' => ?_); go_simp; try rfl)
      simp only [Act.put, List.setIfInBounds_toArray, List.set_cons_zero, List.set_cons_succ]
      refine take0 (v := ?v47) (oi := ?o47) 23 ?hi47 (by kernel_rfl) (by kernel_rfl) (by kernel_rfl) ?hq47 ?hy47 ?_
      case hi47 => (simp only [List.getElem?_toArray, List.getElem?_cons_zero, List.getElem?_cons_succ]; rfl)
      case hq47 => exact fun _ _ _ h => h
      case hy47 => first | (refine ry_not ?_; rfl) | (refine ry_run (by rfl) (fun w' hw' => ?_); go_simp; try rfl)
      simp only [Act.put, List.setIfInBounds_toArray, List.set_cons_zero, List.set_cons_succ]
      refine take0 (v := ?v48) (oi := ?o48) 24 ?hi48 (by kernel_rfl) (by kernel_rfl) (by kernel_rfl) ?hq48 ?hy48 ?_
      case hi48 => (simp only [List.getElem?_toArray, List.getElem?_cons_zero, List.getElem?_cons_succ]; rfl)
      case hq48 => exact fun _ _ _ h => h
      case hy48 => first | (refine ry_not ?_; rfl) | (refine ry_run (by rfl) (fun w' hw' => ?_); go_simp; try rfl)
      simp only [Act.put, List.setIfInBounds_toArray, List.set_cons_zero, List.set_cons_succ]
      refine take0 (v := ?v49) (oi := ?o49) 25 ?hi49 (by kernel_rfl) (by kernel_rfl) (by kernel_rfl) ?hq49 ?hy49 ?_
      case hi49 => (simp only [List.getElem?_toArray, List.getElem?_cons_zero, List.getElem?_cons_succ]; rfl)
      case hq49 => exact fun _ _ _ h => h
      case hy49 => first | (refine ry_not ?_; rfl) | (refine ry_run (by rfl) (fun w' hw' => ?_); go_simp; try rfl)
      simp only [Act.put, List.setIfInBounds_toArray, List.set_cons_zero, List.set_cons_succ]
      refine take0 (v := ?v50) (oi := ?o50) 26 ?hi50 (by kernel_rfl) (by kernel_rfl) (by kernel_rfl) ?hq50 ?hy50 ?_
      case hi50 => (simp only [List.getElem?_toArray, List.getElem?_cons_zero, List.getElem?_cons_succ]; rfl)
      case hq50 => exact fun _ _ _ h => h
      case hy50 => first | (refine ry_not ?_; rfl) | (refine ry_run (by rfl) (fun w' hw' => ?_); go_simp; try rfl)
      simp only [Act.put, List.setIfInBounds_toArray, List.set_cons_zero, List.set_cons_succ]
      refine take0 (v := ?v51) (oi := ?o51) 27 ?hi51 (by kernel_rfl) (by kernel_rfl) (by kernel_rfl) ?hq51 ?hy51 ?_
      case hi51 => (simp only [List.getElem?_toArray, List.getElem?_cons_zero, List.getElem?_cons_succ]; rfl)
      case hq51 => exact fun _ _ _ h => h
      case hy51 => first | (refine ry_not ?_; rfl) | (refine ry_run (by rfl) (fun w' hw' => ?_); go_simp; try rfl)
      simp only [Act.put, List.setIfInBounds_toArray, List.set_cons_zero, List.set_cons_succ]
      refine wpAnyM_done (by kernel_rfl) ?_
      go_simp
      go_wp2_with fail
      go_ret
      exact ⟨rfl, (Mod.trans HM2.out (Mod.of_drew_l hm1) (fun _ _ h => h)).below (fun _ _ h => h)⟩
    | false =>
      clear htb
      refine region_m (by kernel_rfl) ?_
      simp only [List.length_cons, List.length_nil, List.replicate]
      refine take0 (v := ?v52) (oi := ?o52) 0 ?hi52 (by kernel_rfl) (by kernel_rfl) (by kernel_rfl) ?hq52 ?hy52 ?_
      case hi52 => (simp only [List.getElem?_toArray, List.getElem?_cons_zero, List.getElem?_cons_succ]; rfl)
      case hq52 => exact fun _ _ _ h => h
      case hy52 => first | (refine ry_not ?_; rfl) | (refine ry_run (by rfl) (fun w' hw' => ?_); go_simp; try rfl)
      simp only [Act.put, List.setIfInBounds_toArray, List.set_cons_zero, List.set_cons_succ]
      refine take0 (v := ?v53) (oi := ?o53) 1 ?hi53 (by kernel_rfl) (by kernel_rfl) (by kernel_rfl) ?hq53 ?hy53 ?_
      case hi53 => (simp only [List.getElem?_toArray, List.getElem?_cons_zero, List.getElem?_cons_succ]; rfl)
      case hq53 => exact fun _ _ _ h => h
      case hy53 => first | (refine ry_not ?_; rfl) | (refine ry_run (by rfl) (fun w' hw' => ?_); go_simp; try rfl)
      simp only [Act.put, List.setIfInBounds_toArray, List.set_cons_zero, List.set_cons_succ]
      refine take0 (v := ?v54) (oi := ?o54) 2 ?hi54 (by kernel_rfl) (by kernel_rfl) (by kernel_rfl) ?hq54 ?hy54 ?_
      case hi54 => (simp only [List.getElem?_toArray, List.getElem?_cons_zero, List.getElem?_cons_succ]; rfl)
      case hq54 => exact fun _ _ _ h => h
      case hy54 => first | (refine ry_not ?_; rfl) | (refine ry_run (by rfl) (fun w' hw' => ?_); go_simp; try rfl)
      simp only [Act.put, List.setIfInBounds_toArray, List.set_cons_zero, List.set_cons_succ]
      refine take0 (v := ?v55) (oi := ?o55) 3 ?hi55 (by kernel_rfl) (by kernel_rfl) (by kernel_rfl) ?hq55 ?hy55 ?_
      case hi55 => (simp only [List.getElem?_toArray, List.getElem?_cons_zero, List.getElem?_cons_succ]; rfl)
      case hq55 => exact fun _ _ _ h => h
      case hy55 => first | (refine ry_not ?_; rfl) | (refine ry_run (by rfl) (fun w' hw' => ?_); go_simp; try rfl)
      simp only [Act.put, List.setIfInBounds_toArray, List.set_cons_zero, List.set_cons_succ]
      refine take0 (v := ?v56) (oi := ?o56) 4 ?hi56 (by kernel_rfl) (by kernel_rfl) (by kernel_rfl) ?hq56 ?hy56 ?_
      case hi56 => (simp only [List.getElem?_toArray, List.getElem?_cons_zero, List.getElem?_cons_succ]; rfl)
      case hq56 => exact fun _ _ _ h => h
      case hy56 => first | (refine ry_not ?_; rfl) | (refine ry_run (by rfl) (fun w' hw' => ?_); go_simp; try rfl)
      simp only [Act.put, List.setIfInBounds_toArray, List.set_cons_zero, List.set_cons_succ]
      refine take0 (v := ?v57) (oi := ?o57) 5 ?hi57 (by kernel_rfl) (by kernel_rfl) (by kernel_rfl) ?hq57 ?hy57 ?_
      case hi57 => (simp only [List.getElem?_toArray, List.getElem?_cons_zero, List.getElem?_cons_succ]; rfl)
      case hq57 => exact fun _ _ _ h => h
      case hy57 => first | (refine ry_not ?_; rfl) | (refine ry_run (by rfl) (fun w' hw' => ?_); go_simp; try rfl)
      simp only [Act.put, List.setIfInBounds_toArray, List.set_cons_zero, List.set_cons_succ]
      refine take0 (v := ?v58) (oi := ?o58) 6 ?hi58 (by kernel_rfl) (by kernel_rfl) (by kernel_rfl) ?hq58 ?hy58 ?_
      case hi58 => (simp only [List.getElem?_toArray, List.getElem?_cons_zero, List.getElem?_cons_succ]; rfl)
      case hq58 => exact fun _ _ _ h => h
      case hy58 => first | (refine ry_not ?_; rfl) | (refine ry_run (by rfl) (fun w' hw' => ?_); go_simp; try rfl)
      simp only [Act.put, List.setIfInBounds_toArray, List.set_cons_zero, List.set_cons_succ]
      refine take0 (v := ?v59) (oi := ?o59) 7 ?hi59 (by kernel_rfl) (by kernel_rfl) (by kernel_rfl) ?hq59 ?hy59 ?_
      case hi59 => (simp only [List.getElem?_toArray, List.getElem?_cons_zero, List.getElem?_cons_succ]; rfl)
      case hq59 => exact fun _ _ _ h => h
      case hy59 => first | (refine ry_not ?_; rfl) | (refine ry_run (by rfl) (fun w' hw' => ?_); go_simp; try rfl)
      simp only [Act.put, List.setIfInBounds_toArray, List.set_cons_zero, List.set_cons_succ]
      refine take0 (v := ?v60) (oi := ?o60) 8 ?hi60 (by kernel_rfl) (by kernel_rfl) (by kernel_rfl) ?hq60 ?hy60 ?_
      case hi60 => (simp only [List.getElem?_toArray, List.getElem?_cons_zero, List.getElem?_cons_succ]; rfl)
      case hq60 => exact fun _ _ _ h => h
      case hy60 => first | (refine ry_not ?_; rfl) | (refine ry_run (by rfl) (fun w' hw' => ?_); go_simp; try rfl)
      simp only [Act.put, List.setIfInBounds_toArray, List.set_cons_zero, List.set_cons_succ]
      refine take0 (v := ?v61) (oi := ?o61) 9 ?hi61 (by kernel_rfl) (by kernel_rfl) (by kernel_rfl) ?hq61 ?hy61 ?_
      case hi61 => (simp only [List.getElem?_toArray, List.getElem?_cons_zero, List.getElem?_cons_succ]; rfl)
      case hq61 => exact fun _ _ _ h => h
      case hy61 => first | (refine ry_not ?_; rfl) | (refine ry_run (by rfl) (fun w' hw' => ?_); go_simp; try rfl)
      simp only [Act.put, List.setIfInBounds_toArray, List.set_cons_zero, List.set_cons_succ]
      refine take0 (v := ?v62) (oi := ?o62) 10 ?hi62 (by kernel_rfl) (by kernel_rfl) (by kernel_rfl) ?hq62 ?hy62 ?_
      case hi62 => (simp only [List.getElem?_toArray, List.getElem?_cons_zero, List.getElem?_cons_succ]; rfl)
      case hq62 => exact fun _ _ _ h => h
      case hy62 => first | (refine ry_not ?_; rfl) | (refine ry_run (by rfl) (fun w' hw' => ?_); go_simp; try rfl)
      simp only [Act.put, List.setIfInBounds_toArray, List.set_cons_zero, List.set_cons_succ]
      refine take0 (v := ?v63) (oi := ?o63) 11 ?hi63 (by kernel_rfl) (by kernel_rfl) (by kernel_rfl) ?hq63 ?hy63 ?_
      case hi63 => (simp only [List.getElem?_toArray, List.getElem?_cons_zero, List.getElem?_cons_succ]; rfl)
      case hq63 => exact fun _ _ _ h => h
      case hy63 => first | (refine ry_not ?_; rfl) | (refine ry_run (by rfl) (fun w' hw' => ?_); go_simp; try rfl)
      simp only [Act.put, List.setIfInBounds_toArray, List.set_cons_zero, List.set_cons_succ]
      refine take0 (v := ?v64) (oi := ?o64) 12 ?hi64 (by kernel_rfl) (by kernel_rfl) (by kernel_rfl) ?hq64 ?hy64 ?_
      case hi64 => (simp only [List.getElem?_toArray, List.getElem?_cons_zero, List.getElem?_cons_succ]; rfl)
      case hq64 => exact fun _ _ _ h => h
      case hy64 => first | (refine ry_not ?_; rfl) | (refine ry_run (by rfl) (fun w' hw' => ?_); go_simp; try rfl)
      simp only [Act.put, List.setIfInBounds_toArray, List.set_cons_zero, List.set_cons_succ]
      refine take0 (v := ?v65) (oi := ?o65) 13 ?hi65 (by kernel_rfl) (by kernel_rfl) (by kernel_rfl) ?hq65 ?hy65 ?_
      case hi65 => (simp only [List.getElem?_toArray, List.getElem?_cons_zero, List.getElem?_cons_succ]; rfl)
      case hq65 => exact fun _ _ _ h => h
      case hy65 => first | (refine ry_not ?_; rfl) | (refine ry_run (by rfl) (fun w' hw' => ?_); go_simp; try rfl)
      simp only [Act.put, List.setIfInBounds_toArray, List.set_cons_zero, List.set_cons_succ]
      refine take0 (v := ?v66) (oi := ?o66) 14 ?hi66 (by kernel_rfl) (by kernel_rfl) (by kernel_rfl) ?hq66 ?hy66 ?_
      case hi66 => (simp only [List.getElem?_toArray, List.getElem?_cons_zero, List.getElem?_cons_succ]; rfl)
      case hq66 => exact fun _ _ _ h => h
      case hy66 => first | (refine ry_not ?_; rfl) | (refine ry_run (by rfl) (fun w' hw' => ?_); go_simp; try rfl)
      simp only [Act.put, List.setIfInBounds_toArray, List.set_cons_zero, List.set_cons_succ]
      refine take0 (v := ?v67) (oi := ?o67) 15 ?hi67 (by kernel_rfl) (by kernel_rfl) (by kernel_rfl) ?hq67 ?hy67 ?_
      case hi67 => (simp only [List.getElem?_toArray, List.getElem?_cons_zero, List.getElem?_cons_succ]; rfl)
      case hq67 => exact fun _ _ _ h => h
      case hy67 => first | (refine ry_not ?_; rfl) | (refine ry_run (by rfl) (fun w' hw' => ?_); go_simp; try rfl)
      simp only [Act.put, List.setIfInBounds_toArray, List.set_cons_zero, List.set_cons_succ]
      refine take0 (v := ?v68) (oi := ?o68) 18 ?hi68 (by kernel_rfl) (by kernel_rfl) (by kernel_rfl) ?hq68 ?hy68 ?_
      case hi68 => (simp only [List.getElem?_toArray, List.getElem?_cons_zero, List.getElem?_cons_succ]; rfl)
      case hq68 => exact fun _ _ _ h => h
      case hy68 => first | (refine ry_not ?_; rfl) | (refine ry_run (by rfl) (fun w' hw' => ?_); go_simp; try rfl)
      simp only [Act.put, List.setIfInBounds_toArray, List.set_cons_zero, List.set_cons_succ]
      refine take0 (v := ?v69) (oi := ?o69) 19 ?hi69 (by kernel_rfl) (by kernel_rfl) (by kernel_rfl) ?hq69 ?hy69 ?_
      case hi69 => (simp only [List.getElem?_toArray, List.getElem?_cons_zero, List.getElem?_cons_succ]; rfl)
      case hq69 => exact fun _ _ _ h => h
      case hy69 => first | (refine ry_not ?_; rfl) | (refine ry_run (by rfl) (fun w' hw' => ?_); go_simp; try rfl)
      simp only [Act.put, List.setIfInBounds_toArray, List.set_cons_zero, List.set_cons_succ]
      refine take0 (v := ?v70) (oi := ?o70) 20 ?hi70 (by kernel_rfl) (by kernel_rfl) (by kernel_rfl) ?hq70 ?hy70 ?_
      case hi70 => (simp only [List.getElem?_toArray, List.getElem?_cons_zero, List.getElem?_cons_succ]; rfl)
      case hq70 => exact fun _ _ _ h => h
      case hy70 => first | (refine ry_not ?_; rfl) | (refine ry_run (by rfl) (fun w' hw' => ?_); go_simp; try rfl)
      simp only [Act.put, List.setIfInBounds_toArray, List.set_cons_zero, List.set_cons_succ]
      refine take0 (v := ?v71) (oi := ?o71) 21 ?hi71 (by kernel_rfl) (by kernel_rfl) (by kernel_rfl) ?hq71 ?hy71 ?_
      case hi71 => (simp only [List.getElem?_toArray, List.getElem?_cons_zero, List.getElem?_cons_succ]; rfl)
      case hq71 => exact fun _ _ _ h => h
      case hy71 => first | (refine ry_not ?_; rfl) | (refine ry_run (by rfl) (fun w' hw' => ?_); go_simp; try rfl)
      simp only [Act.put, List.setIfInBounds_toArray, List.set_cons_zero, List.set_cons_succ]
      refine take0 (v := ?v72) (oi := ?o72) 22 ?hi72 (by kernel_rfl) (by kernel_rfl) (by kernel_rfl) ?hq72 ?hy72 ?_
      case hi72 => (simp only [List.getElem?_toArray, List.getElem?_cons_zero, List.getElem?_cons_succ]; rfl)
      case hq72 => exact fun _ _ _ h => h
      case hy72 => first | (refine ry_not ?_; rfl) | (refine ry_run (by rfl) (fun w' hw' => ?_); go_simp; try rfl)
      simp only [Act.put, List.setIfInBounds_toArray, List.set_cons_zero, List.set_cons_succ]
      refine take0 (v := ?v73) (oi := ?o73) 16 ?hi73 (by kernel_rfl) (by kernel_rfl) (by kernel_rfl) ?hq73 ?hy73 ?_
      case hi73 => (simp only [List.getElem?_toArray, List.getElem?_cons_zero, List.getElem?_cons_succ]; rfl)
      case hq73 => exact fun _ _ _ h => h
      case hy73 => first | (refine ry_not ?_; rfl) | (refine ry_run (by rfl) (fun w' hw' => ?_); go_simp; try rfl)
      simp only [Act.put, List.setIfInBounds_toArray, List.set_cons_zero, List.set_cons_succ]
      refine take0 (v := ?v74) (oi := ?o74) 17 ?hi74 (by kernel_rfl) (by kernel_rfl) (by kernel_rfl) ?hq74 ?hy74 ?_
      case hi74 => (simp only [List.getElem?_toArray, List.getElem?_cons_zero, List.getElem?_cons_succ]; rfl)
      case hq74 => exact fun _ _ _ h => h
      case hy74 => first | (refine ry_not ?_; rfl) | (refine ry_run (by rfl) (fun w' hw' => ?_); go_simp; try rfl)
      simp only [Act.put, List.setIfInBounds_toArray, List.set_cons_zero, List.set_cons_succ]
      refine take0 (v := ?v75) (oi := ?o75) 23 ?hi75 (by kernel_rfl) (by kernel_rfl) (by kernel_rfl) ?hq75 ?hy75 ?_
      case hi75 => (simp only [List.getElem?_toArray, List.getElem?_cons_zero, List.getElem?_cons_succ]; rfl)
      case hq75 => exact fun _ _ _ h => h
      case hy75 => first | (refine ry_not ?_; rfl) | (refine ry_run (by rfl) (fun w' hw' => ?_); go_simp; try rfl)
      simp only [Act.put, List.setIfInBounds_toArray, List.set_cons_zero, List.set_cons_succ]
      refine take0 (v := ?v76) (oi := ?o76) 24 ?hi76 (by kernel_rfl) (by kernel_rfl) (by kernel_rfl) ?hq76 ?hy76 ?_
      case hi76 => (simp only [List.getElem?_toArray, List.getElem?_cons_zero, List.getElem?_cons_succ]; rfl)
      case hq76 => exact fun _ _ _ h => h
      case hy76 => first | (refine ry_not ?_; rfl) | (refine ry_run (by rfl) (fun w' hw' => ?_); go_simp; try rfl)
      simp only [Act.put, List.setIfInBounds_toArray, List.set_cons_zero, List.set_cons_succ]
      refine take0 (v := ?v77) (oi := ?o77) 25 ?hi77 (by kernel_rfl) (by kernel_rfl) (by kernel_rfl) ?hq77 ?hy77 ?_
      case hi77 => (simp only [List.getElem?_toArray, List.getElem?_cons_zero, List.getElem?_cons_succ]; rfl)
      case hq77 => exact fun _ _ _ h => h
      case hy77 => first | (refine ry_not ?_; rfl) | (refine ry_run (by rfl) (fun w' hw' => ?_); go_simp; try rfl)
      simp only [Act.put, List.setIfInBounds_toArray, List.set_cons_zero, List.set_cons_succ]
      refine take0 (v := ?v78) (oi := ?o78) 26 ?hi78 (by kernel_rfl) (by kernel_rfl) (by kernel_rfl) ?hq78 ?hy78 ?_
      case hi78 => (simp only [List.getElem?_toArray, List.getElem?_cons_zero, List.getElem?_cons_succ]; rfl)
      case hq78 => exact fun _ _ _ h => h
      case hy78 => first | (refine ry_not ?_; rfl) | (refine ry_run (by rfl) (fun w' hw' => ?_); go_simp; try rfl)
      simp only [Act.put, List.setIfInBounds_toArray, List.set_cons_zero, List.set_cons_succ]
      refine take0 (v := ?v79) (oi := ?o79) 27 ?hi79 (by kernel_rfl) (by kernel_rfl) (by kernel_rfl) ?hq79 ?hy79 ?_
      case hi79 => (simp only [List.getElem?_toArray, List.getElem?_cons_zero, List.getElem?_cons_succ]; rfl)
      case hq79 => exact fun _ _ _ h => h
      case hy79 => first | (refine ry_not ?_; rfl) | (refine ry_run (by rfl) (fun w' hw' => ?_); go_simp; try rfl)
      simp only [Act.put, List.setIfInBounds_toArray, List.set_cons_zero, List.set_cons_succ]
      refine wpAnyM_done (by kernel_rfl) ?_
      go_simp
      go_wp2_with fail
      go_ret
      exact ⟨rfl, (HM2.out.drewN 1).below (fun _ _ h => h)⟩
  | false =>
    clear hback
    refine region_m (by kernel_rfl) ?_
    simp only [List.length_cons, List.length_nil, List.replicate]
    refine take0 (v := ?v80) (oi := ?o80) 0 ?hi80 (by kernel_rfl) (by kernel_rfl) (by kernel_rfl) ?hq80 ?hy80 ?_
    case hi80 => (simp only [List.getElem?_toArray, List.getElem?_cons_zero, List.getElem?_cons_succ]; rfl)
    case hq80 => exact fun _ _ _ h => h
    case hy80 => first | (refine ry_not ?_; rfl) | (refine ry_run (by rfl) (fun w' hw' => ?_); go_simp; try rfl)
    simp only [Act.put, List.setIfInBounds_toArray, List.set_cons_zero, List.set_cons_succ]
    refine take0 (v := ?v81) (oi := ?o81) 1 ?hi81 (by kernel_rfl) (by kernel_rfl) (by kernel_rfl) ?hq81 ?hy81 ?_
    case hi81 => (simp only [List.getElem?_toArray, List.getElem?_cons_zero, List.getElem?_cons_succ]; rfl)
    case hq81 => exact fun _ _ _ h => h
    case hy81 => first | (refine ry_not ?_; rfl) | (refine ry_run (by rfl) (fun w' hw' => ?_); go_simp; try rfl)
    simp only [Act.put, List.setIfInBounds_toArray, List.set_cons_zero, List.set_cons_succ]
    refine take0 (v := ?v82) (oi := ?o82) 2 ?hi82 (by kernel_rfl) (by kernel_rfl) (by kernel_rfl) ?hq82 ?hy82 ?_
    case hi82 => (simp only [List.getElem?_toArray, List.getElem?_cons_zero, List.getElem?_cons_succ]; rfl)
    case hq82 => exact fun _ _ _ h => h
    case hy82 => first | (refine ry_not ?_; rfl) | (refine ry_run (by rfl) (fun w' hw' => ?_); go_simp; try rfl)
    simp only [Act.put, List.setIfInBounds_toArray, List.set_cons_zero, List.set_cons_succ]
    refine take0 (v := ?v83) (oi := ?o83) 3 ?hi83 (by kernel_rfl) (by kernel_rfl) (by kernel_rfl) ?hq83 ?hy83 ?_
    case hi83 => (simp only [List.getElem?_toArray, List.getElem?_cons_zero, List.getElem?_cons_succ]; rfl)
    case hq83 => exact fun _ _ _ h => h
    case hy83 => first | (refine ry_not ?_; rfl) | (refine ry_run (by rfl) (fun w' hw' => ?_); go_simp; try rfl)
    simp only [Act.put, List.setIfInBounds_toArray, List.set_cons_zero, List.set_cons_succ]
    refine take0 (v := ?v84) (oi := ?o84) 4 ?hi84 (by kernel_rfl) (by kernel_rfl) (by kernel_rfl) ?hq84 ?hy84 ?_
    case hi84 => (simp only [List.getElem?_toArray, List.getElem?_cons_zero, List.getElem?_cons_succ]; rfl)
    case hq84 => exact fun _ _ _ h => h
    case hy84 => first | (refine ry_not ?_; rfl) | (refine ry_run (by rfl) (fun w' hw' => ?_); go_simp; try rfl)
    simp only [Act.put, List.setIfInBounds_toArray, List.set_cons_zero, List.set_cons_succ]
    refine take0 (v := ?v85) (oi := ?o85) 5 ?hi85 (by kernel_rfl) (by kernel_rfl) (by kernel_rfl) ?hq85 ?hy85 ?_
    case hi85 => (simp only [List.getElem?_toArray, List.getElem?_cons_zero, List.getElem?_cons_succ]; rfl)
    case hq85 => exact fun _ _ _ h => h
    case hy85 => first | (refine ry_not ?_; rfl) | (refine ry_run (by rfl) (fun w' hw' => ?_); go_simp; try rfl)
    simp only [Act.put, List.setIfInBounds_toArray, List.set_cons_zero, List.set_cons_succ]
    refine take0 (v := ?v86) (oi := ?o86) 6 ?hi86 (by kernel_rfl) (by kernel_rfl) (by kernel_rfl) ?hq86 ?hy86 ?_
    case hi86 => (simp only [List.getElem?_toArray, List.getElem?_cons_zero, List.getElem?_cons_succ]; rfl)
    case hq86 => exact fun _ _ _ h => h
    case hy86 => first | (refine ry_not ?_; rfl) | (refine ry_run (by rfl) (fun w' hw' => ?_); go_simp; try rfl)
    simp only [Act.put, List.setIfInBounds_toArray, List.set_cons_zero, List.set_cons_succ]
    refine take0 (v := ?v87) (oi := ?o87) 7 ?hi87 (by kernel_rfl) (by kernel_rfl) (by kernel_rfl) ?hq87 ?hy87 ?_
    case hi87 => (simp only [List.getElem?_toArray, List.getElem?_cons_zero, List.getElem?_cons_succ]; rfl)
    case hq87 => exact fun _ _ _ h => h
    case hy87 => first | (refine ry_not ?_; rfl) | (refine ry_run (by rfl) (fun w' hw' => ?_); go_simp; try rfl)
    simp only [Act.put, List.setIfInBounds_toArray, List.set_cons_zero, List.set_cons_succ]
    refine take0 (v := ?v88) (oi := ?o88) 8 ?hi88 (by kernel_rfl) (by kernel_rfl) (by kernel_rfl) ?hq88 ?hy88 ?_
    case hi88 => (simp only [List.getElem?_toArray, List.getElem?_cons_zero, List.getElem?_cons_succ]; rfl)
    case hq88 => exact fun _ _ _ h => h
    case hy88 => first | (refine ry_not ?_; rfl) | (refine ry_run (by rfl) (fun w' hw' => ?_); go_simp; try rfl)
    simp only [Act.put, List.setIfInBounds_toArray, List.set_cons_zero, List.set_cons_succ]
    refine take0 (v := ?v89) (oi := ?o89) 9 ?hi89 (by kernel_rfl) (by kernel_rfl) (by kernel_rfl) ?hq89 ?hy89 ?_
    case hi89 => (simp only [List.getElem?_toArray, List.getElem?_cons_zero, List.getElem?_cons_succ]; rfl)
    case hq89 => exact fun _ _ _ h => h
    case hy89 => first | (refine ry_not ?_; rfl) | (refine ry_run (by rfl) (fun w' hw' => ?_); go_simp; try rfl)
    simp only [Act.put, List.setIfInBounds_toArray, List.set_cons_zero, List.set_cons_succ]
    refine take0 (v := ?v90) (oi := ?o90) 10 ?hi90 (by kernel_rfl) (by kernel_rfl) (by kernel_rfl) ?hq90 ?hy90 ?_
    case hi90 => (simp only [List.getElem?_toArray, List.getElem?_cons_zero, List.getElem?_cons_succ]; rfl)
    case hq90 => exact fun _ _ _ h => h
    case hy90 => first | (refine ry_not ?_; rfl) | (refine ry_run (by rfl) (fun w' hw' => ?_); go_simp; try rfl)
    simp only [Act.put, List.setIfInBounds_toArray, List.set_cons_zero, List.set_cons_succ]
    refine take0 (v := ?v91) (oi := ?o91) 11 ?hi91 (by kernel_rfl) (by kernel_rfl) (by kernel_rfl) ?hq91 ?hy91 ?_
    case hi91 => (simp only [List.getElem?_toArray, List.getElem?_cons_zero, List.getElem?_cons_succ]; rfl)
    case hq91 => exact fun _ _ _ h => h
    case hy91 => first | (refine ry_not ?_; rfl) | (refine ry_run (by rfl) (fun w' hw' => ?_); go_simp; try rfl)
    simp only [Act.put, List.setIfInBounds_toArray, List.set_cons_zero, List.set_cons_succ]
    refine take0 (v := ?v92) (oi := ?o92) 12 ?hi92 (by kernel_rfl) (by kernel_rfl) (by kernel_rfl) ?hq92 ?hy92 ?_
    case hi92 => (simp only [List.getElem?_toArray, List.getElem?_cons_zero, List.getElem?_cons_succ]; rfl)
    case hq92 => exact fun _ _ _ h => h
    case hy92 => first | (refine ry_not ?_; rfl) | (refine ry_run (by rfl) (fun w' hw' => ?_); go_simp; try rfl)
    simp only [Act.put, List.setIfInBounds_toArray, List.set_cons_zero, List.set_cons_succ]
    refine take0 (v := ?v93) (oi := ?o93) 15 ?hi93 (by kernel_rfl) (by kernel_rfl) (by kernel_rfl) ?hq93 ?hy93 ?_
    case hi93 => (simp only [List.getElem?_toArray, List.getElem?_cons_zero, List.getElem?_cons_succ]; rfl)
    case hq93 => exact fun _ _ _ h => h
    case hy93 => first | (refine ry_not ?_; rfl) | (refine ry_run (by rfl) (fun w' hw' => ?_); go_simp; try rfl)
    simp only [Act.put, List.setIfInBounds_toArray, List.set_cons_zero, List.set_cons_succ]
    refine take0 (v := ?v94) (oi := ?o94) 16 ?hi94 (by kernel_rfl) (by kernel_rfl) (by kernel_rfl) ?hq94 ?hy94 ?_
    case hi94 => (simp only [List.getElem?_toArray, List.getElem?_cons_zero, List.getElem?_cons_succ]; rfl)
    case hq94 => exact fun _ _ _ h => h
    case hy94 => first | (refine ry_not ?_; rfl) | (refine ry_run (by rfl) (fun w' hw' => ?_); go_simp; try rfl)
    simp only [Act.put, List.setIfInBounds_toArray, List.set_cons_zero, List.set_cons_succ]
    refine take0 (v := ?v95) (oi := ?o95) 17 ?hi95 (by kernel_rfl) (by kernel_rfl) (by kernel_rfl) ?hq95 ?hy95 ?_
    case hi95 => (simp only [List.getElem?_toArray, List.getElem?_cons_zero, List.getElem?_cons_succ]; rfl)
    case hq95 => exact fun _ _ _ h => h
    case hy95 => first | (refine ry_not ?_; rfl) | (refine ry_run (by rfl) (fun w' hw' => ?_); go_simp; try rfl)
    simp only [Act.put, List.setIfInBounds_toArray, List.set_cons_zero, List.set_cons_succ]
    refine take0 (v := ?v96) (oi := ?o96) 18 ?hi96 (by kernel_rfl) (by kernel_rfl) (by kernel_rfl) ?hq96 ?hy96 ?_
    case hi96 => (simp only [List.getElem?_toArray, List.getElem?_cons_zero, List.getElem?_cons_succ]; rfl)
    case hq96 => exact fun _ _ _ h => h
    case hy96 => first | (refine ry_not ?_; rfl) | (refine ry_run (by rfl) (fun w' hw' => ?_); go_simp; try rfl)
    simp only [Act.put, List.setIfInBounds_toArray, List.set_cons_zero, List.set_cons_succ]
    refine take0 (v := ?v97) (oi := ?o97) 19 ?hi97 (by kernel_rfl) (by kernel_rfl) (by kernel_rfl) ?hq97 ?hy97 ?_
    case hi97 => (simp only [List.getElem?_toArray, List.getElem?_cons_zero, List.getElem?_cons_succ]; rfl)
    case hq97 => exact fun _ _ _ h => h
    case hy97 => first | (refine ry_not ?_; rfl) | (refine ry_run (by rfl) (fun w' hw' => ?_); go_simp; try rfl)
    simp only [Act.put, List.setIfInBounds_toArray, List.set_cons_zero, List.set_cons_succ]
    refine take0 (v := ?v98) (oi := ?o98) 13 ?hi98 (by kernel_rfl) (by kernel_rfl) (by kernel_rfl) ?hq98 ?hy98 ?_
    case hi98 => (simp only [List.getElem?_toArray, List.getElem?_cons_zero, List.getElem?_cons_succ]; rfl)
    case hq98 => exact fun _ _ _ h => h
    case hy98 => first | (refine ry_not ?_; rfl) | (refine ry_run (by rfl) (fun w' hw' => ?_); go_simp; try rfl)
    simp only [Act.put, List.setIfInBounds_toArray, List.set_cons_zero, List.set_cons_succ]
    refine take0 (v := ?v99) (oi := ?o99) 14 ?hi99 (by kernel_rfl) (by kernel_rfl) (by kernel_rfl) ?hq99 ?hy99 ?_
    case hi99 => (simp only [List.getElem?_toArray, List.getElem?_cons_zero, List.getElem?_cons_succ]; rfl)
    case hq99 => exact fun _ _ _ h => h
    case hy99 => first | (refine ry_not ?_; rfl) | (refine ry_run (by rfl) (fun w' hw' => ?_); go_simp; try rfl)
    simp only [Act.put, List.setIfInBounds_toArray, List.set_cons_zero, List.set_cons_succ]
    refine take0 (v := ?v100) (oi := ?o100) 20 ?hi100 (by kernel_rfl) (by kernel_rfl) (by kernel_rfl) ?hq100 ?hy100 ?_
    case hi100 => (simp only [List.getElem?_toArray, List.getElem?_cons_zero, List.getElem?_cons_succ]; rfl)
    case hq100 => exact fun _ _ _ h => h
    case hy100 => first | (refine ry_not ?_; rfl) | (refine ry_run (by rfl) (fun w' hw' => ?_); go_simp; try rfl)
    simp only [Act.put, List.setIfInBounds_toArray, List.set_cons_zero, List.set_cons_succ]
    refine take0 (v := ?v101) (oi := ?o101) 21 ?hi101 (by kernel_rfl) (by kernel_rfl) (by kernel_rfl) ?hq101 ?hy101 ?_
    case hi101 => (simp only [List.getElem?_toArray, List.getElem?_cons_zero, List.getElem?_cons_succ]; rfl)
    case hq101 => exact fun _ _ _ h => h
    case hy101 => first | (refine ry_not ?_; rfl) | (refine ry_run (by rfl) (fun w' hw' => ?_); go_simp; try rfl)
    simp only [Act.put, List.setIfInBounds_toArray, List.set_cons_zero, List.set_cons_succ]
    refine take0 (v := ?v102) (oi := ?o102) 22 ?hi102 (by kernel_rfl) (by kernel_rfl) (by kernel_rfl) ?hq102 ?hy102 ?_
    case hi102 => (simp only [List.getElem?_toArray, List.getElem?_cons_zero, List.getElem?_cons_succ]; rfl)
    case hq102 => exact fun _ _ _ h => h
    case hy102 => first | (refine ry_not ?_; rfl) | (refine ry_run (by rfl) (fun w' hw' => ?_); go_simp; try rfl)
    simp only [Act.put, List.setIfInBounds_toArray, List.set_cons_zero, List.set_cons_succ]
    refine wpAnyM_done (by kernel_rfl) ?_
    go_simp
    go_wp2_with fail
    have HM2 := Lib.hid (Mod.trans HM.out (Mod.of_drew_l (Mod.refl _ _)) (fun _ _ h => h))
    have hb3 := HB.out.cells.keep HM2.out (fun _ _ h => h)
    refine (takeText_calls A c l at_ l.length _ hb3 (by omega) hbc hbm HB.out.adr).mono ?_
    rintro e w6 ⟨rfl, hw⟩; subst hw
    unfold vT
    go_wp2_with fail
    have htb := HTB.out
    clear HTB
    obtain ⟨V, r2, five, hR2⟩ : ∃ V r2 five, takeT l at_ l.length = (V, r2, five) := ⟨_, _, _, rfl⟩
    rw [hR2] at htb ⊢
    clear hR2
    dsimp only at htb ⊢
    cases five with
    | true =>
      obtain ⟨p', q', hp', hpq', hV, hr', hT'⟩ := htb rfl
      subst hp'
      subst hr'
      obtain ⟨A'', hsl2, -, hA''⟩ := slice_any (P := Tryd.prog) 22 5 p' q' hb3 HB.out.adr Tryd.underlying22 rfl hpq' hbc
      have hln2 : ((l.drop p').take q').length = q' := by simp; omega
      rw [hT'] at hA'' hln2
      have hg1 : decide ((p' : Int) + (q' : Int) ≥ (p' : Int)) = true := decide_eq_true (by omega)
      have hg2 : decide ((p' : Int) + (q' : Int) ≤ (l.length : Int)) = true := decide_eq_true (by omega)
      have hsum2 : IntKind.i64.wrap ((p' : Int) + (q' : Int)) = (p' : Int) + (q' : Int) := by rw [IntKind.wrap_i64]; omega
      obtain ⟨u8, hu8⟩ : ∃ u8 : ByteArray, (⟨V.toArray⟩ : ByteArray) = u8 := ⟨_, rfl⟩
      have hu8' : u8.data.toList = V := by rw [← hu8]
      have hu8s : u8.size ≤ 1048576 := by rw [← hu8]; simp [ByteArray.size]; omega
      have hpt := fun w => putText_calls none 0 [] u8 w (.inl rfl) (by simp; omega) (fun _ => rfl)
      simp only [List.nil_append, hu8'] at hpt
      have HPT := Lib.hid hpt
      rw [hu8]
      clear hT' hpt hu8 hu8' htb
      generalize encT V = E2 at *
      have hrf2 : Mod (fun _ => False) (World.drew w5.drew) (World.drew w5.drew) := Mod.refl _ _
      have hcv3 : ∀ w', Mod (fun _ => False) (World.drew w5.drew) w' → (convert 22 9 (.slice A'' q' (c - p'))).run Tryd.prog w' = .ok (.string ⟨E2.toArray⟩) w' := fun w' hm => by
        have := run_bytes (P := Tryd.prog) (c - p') (Cells.keep (S := fun _ => False) hA'' (Mod.of_drew_l hm) (fun _ _ h => h)) 22 9 5 Tryd.underlying22 Tryd.underlying5 Tryd.underlying9
        rw [hln2] at this
        exact this
      clear hA'' hln2
      refine region_m (by kernel_rfl) ?_
      simp only [List.length_cons, List.length_nil, List.replicate]
      refine take0 (v := ?v103) (oi := ?o103) 0 ?hi103 (by kernel_rfl) (by kernel_rfl) (by kernel_rfl) ?hq103 ?hy103 ?_
      case hi103 => (simp only [List.getElem?_toArray, List.getElem?_cons_zero, List.getElem?_cons_succ]; rfl)
      case hq103 => exact fun _ _ _ h => h
      case hy103 => first | (refine ry_not ?_; rfl) | (refine ry_run (by rfl) (fun w' hw' => ?_); go_simp; try rfl)
      simp only [Act.put, List.setIfInBounds_toArray, List.set_cons_zero, List.set_cons_succ]
      refine take0 (v := ?v104) (oi := ?o104) 1 ?hi104 (by kernel_rfl) (by kernel_rfl) (by kernel_rfl) ?hq104 ?hy104 ?_
      case hi104 => (simp only [List.getElem?_toArray, List.getElem?_cons_zero, List.getElem?_cons_succ]; rfl)
      case hq104 => exact fun _ _ _ h => h
      case hy104 => first | (refine ry_not ?_; rfl) | (refine ry_run (by rfl) (fun w' hw' => ?_); go_simp; try rfl)
      simp only [Act.put, List.setIfInBounds_toArray, List.set_cons_zero, List.set_cons_succ]
      refine take0 (v := ?v105) (oi := ?o105) 2 ?hi105 (by kernel_rfl) (by kernel_rfl) (by kernel_rfl) ?hq105 ?hy105 ?_
      case hi105 => (simp only [List.getElem?_toArray, List.getElem?_cons_zero, List.getElem?_cons_succ]; rfl)
      case hq105 => exact fun _ _ _ h => h
      case hy105 => first | (refine ry_not ?_; rfl) | (refine ry_run (by rfl) (fun w' hw' => ?_); go_simp; try rfl)
      simp only [Act.put, List.setIfInBounds_toArray, List.set_cons_zero, List.set_cons_succ]
      refine take0 (v := ?v106) (oi := ?o106) 3 ?hi106 (by kernel_rfl) (by kernel_rfl) (by kernel_rfl) ?hq106 ?hy106 ?_
      case hi106 => (simp only [List.getElem?_toArray, List.getElem?_cons_zero, List.getElem?_cons_succ]; rfl)
      case hq106 => exact fun _ _ _ h => h
      case hy106 => first | (refine ry_not ?_; rfl) | (refine ry_run (by rfl) (fun w' hw' => ?_); go_simp; try rfl)
      simp only [Act.put, List.setIfInBounds_toArray, List.set_cons_zero, List.set_cons_succ]
      refine take0 (v := ?v107) (oi := ?o107) 4 ?hi107 (by kernel_rfl) (by kernel_rfl) (by kernel_rfl) ?hq107 ?hy107 ?_
      case hi107 => (simp only [List.getElem?_toArray, List.getElem?_cons_zero, List.getElem?_cons_succ]; rfl)
      case hq107 => exact fun _ _ _ h => h
      case hy107 => first | (refine ry_not ?_; rfl) | (refine ry_run (by rfl) (fun w' hw' => ?_); go_simp; try rfl)
      simp only [Act.put, List.setIfInBounds_toArray, List.set_cons_zero, List.set_cons_succ]
      refine take0 (v := ?v108) (oi := ?o108) 5 ?hi108 (by kernel_rfl) (by kernel_rfl) (by kernel_rfl) ?hq108 ?hy108 ?_
      case hi108 => (simp only [List.getElem?_toArray, List.getElem?_cons_zero, List.getElem?_cons_succ]; rfl)
      case hq108 => exact fun _ _ _ h => h
      case hy108 => first | (refine ry_not ?_; rfl) | (refine ry_run (by rfl) (fun w' hw' => ?_); go_simp; try rfl)
      simp only [Act.put, List.setIfInBounds_toArray, List.set_cons_zero, List.set_cons_succ]
      refine take0 (v := ?v109) (oi := ?o109) 6 ?hi109 (by kernel_rfl) (by kernel_rfl) (by kernel_rfl) ?hq109 ?hy109 ?_
      case hi109 => (simp only [List.getElem?_toArray, List.getElem?_cons_zero, List.getElem?_cons_succ]; rfl)
      case hq109 => exact fun _ _ _ h => h
      case hy109 => first | (refine ry_not ?_; rfl) | (refine ry_run (by rfl) (fun w' hw' => ?_); go_simp; try rfl)
      simp only [Act.put, List.setIfInBounds_toArray, List.set_cons_zero, List.set_cons_succ]
      refine take0 (v := ?v110) (oi := ?o110) 7 ?hi110 (by kernel_rfl) (by kernel_rfl) (by kernel_rfl) ?hq110 ?hy110 ?_
      case hi110 => (simp only [List.getElem?_toArray, List.getElem?_cons_zero, List.getElem?_cons_succ]; rfl)
      case hq110 => exact fun _ _ _ h => h
      case hy110 => first | (refine ry_not ?_; rfl) | (refine ry_run (by rfl) (fun w' hw' => ?_); go_simp; try rfl)
      simp only [Act.put, List.setIfInBounds_toArray, List.set_cons_zero, List.set_cons_succ]
      refine take0 (v := ?v111) (oi := ?o111) 8 ?hi111 (by kernel_rfl) (by kernel_rfl) (by kernel_rfl) ?hq111 ?hy111 ?_
      case hi111 => (simp only [List.getElem?_toArray, List.getElem?_cons_zero, List.getElem?_cons_succ]; rfl)
      case hq111 => exact fun _ _ _ h => h
      case hy111 => first | (refine ry_not ?_; rfl) | (refine ry_run (by rfl) (fun w' hw' => ?_); go_simp; try rfl)
      simp only [Act.put, List.setIfInBounds_toArray, List.set_cons_zero, List.set_cons_succ]
      refine take0 (v := ?v112) (oi := ?o112) 9 ?hi112 (by kernel_rfl) (by kernel_rfl) (by kernel_rfl) ?hq112 ?hy112 ?_
      case hi112 => (simp only [List.getElem?_toArray, List.getElem?_cons_zero, List.getElem?_cons_succ]; rfl)
      case hq112 => exact fun _ _ _ h => h
      case hy112 => first | (refine ry_not ?_; rfl) | (refine ry_run (by rfl) (fun w' hw' => ?_); go_simp; try rfl)
      simp only [Act.put, List.setIfInBounds_toArray, List.set_cons_zero, List.set_cons_succ]
      refine take0 (v := ?v113) (oi := ?o113) 10 ?hi113 (by kernel_rfl) (by kernel_rfl) (by kernel_rfl) ?hq113 ?hy113 ?_
      case hi113 => (simp only [List.getElem?_toArray, List.getElem?_cons_zero, List.getElem?_cons_succ]; rfl)
      case hq113 => exact fun _ _ _ h => h
      case hy113 => first | (refine ry_not ?_; rfl) | (refine ry_run (by rfl) (fun w' hw' => ?_); go_simp; try rfl)
      simp only [Act.put, List.setIfInBounds_toArray, List.set_cons_zero, List.set_cons_succ]
      refine take0 (v := ?v114) (oi := ?o114) 11 ?hi114 (by kernel_rfl) (by kernel_rfl) (by kernel_rfl) ?hq114 ?hy114 ?_
      case hi114 => (simp only [List.getElem?_toArray, List.getElem?_cons_zero, List.getElem?_cons_succ]; rfl)
      case hq114 => exact fun _ _ _ h => h
      case hy114 => first | (refine ry_not ?_; rfl) | (refine ry_run (by rfl) (fun w' hw' => ?_); go_simp; try rfl)
      simp only [Act.put, List.setIfInBounds_toArray, List.set_cons_zero, List.set_cons_succ]
      refine take0 (v := ?v115) (oi := ?o115) 12 ?hi115 (by kernel_rfl) (by kernel_rfl) (by kernel_rfl) ?hq115 ?hy115 ?_
      case hi115 => (simp only [List.getElem?_toArray, List.getElem?_cons_zero, List.getElem?_cons_succ]; rfl)
      case hq115 => exact fun _ _ _ h => h
      case hy115 => first | (refine ry_not ?_; rfl) | (refine ry_run (by rfl) (fun w' hw' => ?_); go_simp; try rfl)
      simp only [Act.put, List.setIfInBounds_toArray, List.set_cons_zero, List.set_cons_succ]
      refine take0 (v := ?v116) (oi := ?o116) 13 ?hi116 (by kernel_rfl) (by kernel_rfl) (by kernel_rfl) ?hq116 ?hy116 ?_
      case hi116 => (simp only [List.getElem?_toArray, List.getElem?_cons_zero, List.getElem?_cons_succ]; rfl)
      case hq116 => exact fun _ _ _ h => h
      case hy116 => first | (refine ry_not ?_; rfl) | (refine ry_run (by rfl) (fun w' hw' => ?_); go_simp; try rfl)
      simp only [Act.put, List.setIfInBounds_toArray, List.set_cons_zero, List.set_cons_succ]
      refine take0 (v := ?v117) (oi := ?o117) 14 ?hi117 (by kernel_rfl) (by kernel_rfl) (by kernel_rfl) ?hq117 ?hy117 ?_
      case hi117 => (simp only [List.getElem?_toArray, List.getElem?_cons_zero, List.getElem?_cons_succ]; rfl)
      case hq117 => exact fun _ _ _ h => h
      case hy117 => first | (refine ry_not ?_; rfl) | (refine ry_run (by rfl) (fun w' hw' => ?_); go_simp; try rfl)
      simp only [Act.put, List.setIfInBounds_toArray, List.set_cons_zero, List.set_cons_succ]
      refine take0 (v := ?v118) (oi := ?o118) 15 ?hi118 (by kernel_rfl) (by kernel_rfl) (by kernel_rfl) ?hq118 ?hy118 ?_
      case hi118 => (simp only [List.getElem?_toArray, List.getElem?_cons_zero, List.getElem?_cons_succ]; rfl)
      case hq118 => exact fun _ _ _ h => h
      case hy118 => first | (refine ry_not ?_; rfl) | (refine ry_run (by rfl) (fun w' hw' => ?_); go_simp; try rfl)
      simp only [Act.put, List.setIfInBounds_toArray, List.set_cons_zero, List.set_cons_succ]
      refine take0 (v := ?v119) (oi := ?o119) 18 ?hi119 (by kernel_rfl) (by kernel_rfl) (by kernel_rfl) ?hq119 ?hy119 ?_
      case hi119 => (simp only [List.getElem?_toArray, List.getElem?_cons_zero, List.getElem?_cons_succ]; rfl)
      case hq119 => exact fun _ _ _ h => h
      case hy119 => first | (refine ry_not ?_; rfl) | (refine ry_run (by rfl) (fun w' hw' => ?_); go_simp; try rfl)
      simp only [Act.put, List.setIfInBounds_toArray, List.set_cons_zero, List.set_cons_succ]
      refine take0 (v := ?v120) (oi := ?o120) 19 ?hi120 (by kernel_rfl) (by kernel_rfl) (by kernel_rfl) ?hq120 ?hy120 ?_
      case hi120 => (simp only [List.getElem?_toArray, List.getElem?_cons_zero, List.getElem?_cons_succ]; rfl)
      case hq120 => exact fun _ _ _ h => h
      case hy120 => first | (refine ry_not ?_; rfl) | (refine ry_run (by rfl) (fun w' hw' => ?_); go_simp; try rfl)
      simp only [Act.put, List.setIfInBounds_toArray, List.set_cons_zero, List.set_cons_succ]
      refine take0 (v := ?v121) (oi := ?o121) 20 ?hi121 (by kernel_rfl) (by kernel_rfl) (by kernel_rfl) ?hq121 ?hy121 ?_
      case hi121 => (simp only [List.getElem?_toArray, List.getElem?_cons_zero, List.getElem?_cons_succ]; rfl)
      case hq121 => exact fun _ _ _ h => h
      case hy121 => first | (refine ry_not ?_; rfl) | (refine ry_run (by rfl) (fun w' hw' => ?_); go_simp; try rfl)
      simp only [Act.put, List.setIfInBounds_toArray, List.set_cons_zero, List.set_cons_succ]
      refine take0 (v := ?v122) (oi := ?o122) 21 ?hi122 (by kernel_rfl) (by kernel_rfl) (by kernel_rfl) ?hq122 ?hy122 ?_
      case hi122 => (simp only [List.getElem?_toArray, List.getElem?_cons_zero, List.getElem?_cons_succ]; rfl)
      case hq122 => exact fun _ _ _ h => h
      case hy122 => first | (refine ry_not ?_; rfl) | (refine ry_run (by rfl) (fun w' hw' => ?_); go_simp; try rfl)
      simp only [Act.put, List.setIfInBounds_toArray, List.set_cons_zero, List.set_cons_succ]
      refine take0 (v := ?v123) (oi := ?o123) 22 ?hi123 (by kernel_rfl) (by kernel_rfl) (by kernel_rfl) ?hq123 ?hy123 ?_
      case hi123 => (simp only [List.getElem?_toArray, List.getElem?_cons_zero, List.getElem?_cons_succ]; rfl)
      case hq123 => exact fun _ _ _ h => h
      case hy123 => first | (refine ry_not ?_; rfl) | (refine ry_run (by rfl) (fun w' hw' => ?_); go_simp; try rfl)
      simp only [Act.put, List.setIfInBounds_toArray, List.set_cons_zero, List.set_cons_succ]
      refine step0 (o := ?o124) 16 (by kernel_rfl) ?hi124 ?hw124 ?_
      case hi124 => (simp only [List.getElem?_toArray, List.getElem?_cons_zero, List.getElem?_cons_succ]; rfl)
      case hw124 => rfl
      go_simp
      refine (HPT.out _).mono ?_
      rintro e w8 ⟨v, rfl, hown, hm1⟩
      refine ⟨.inl hm1, ?_⟩
      obtain ⟨B, cap, rfl, hcap, hB, -, -⟩ := own_cells hown
      have hcv4 : ∀ w', Mod0 w8 w' → (convert 22 9 (.slice B E2.length cap)).run Tryd.prog w' = .ok (.string ⟨E2.toArray⟩) w' := fun w' h => run_bytes cap (Cells.keep hB h (fun _ _ h => h)) _ _ 5 Tryd.underlying22 Tryd.underlying5 Tryd.underlying9
      refine take0 (v := ?v125) (oi := ?o125) 17 ?hi125 (by kernel_rfl) (by kernel_rfl) (by kernel_rfl) ?hq125 ?hy125 ?_
      case hi125 => (simp only [List.getElem?_toArray, List.getElem?_cons_zero, List.getElem?_cons_succ]; rfl)
      case hq125 => exact fun _ _ _ h => h
      case hy125 => first | (refine ry_not ?_; rfl) | (refine ry_run (by rfl) (fun w' hw' => ?_); go_simp; try rfl)
      simp only [Act.put, List.setIfInBounds_toArray, List.set_cons_zero, List.set_cons_succ]
      refine take0 (v := ?v126) (oi := ?o126) 23 ?hi126 (by kernel_rfl) (by kernel_rfl) (by kernel_rfl) ?hq126 ?hy126 ?_
      case hi126 => (simp only [List.getElem?_toArray, List.getElem?_cons_zero, List.getElem?_cons_succ]; rfl)
      case hq126 => exact fun _ _ _ h => h
      case hy126 => first | (refine ry_not ?_; rfl) | (refine ry_run (by rfl) (fun w' hw' => ?_); go_simp; try rfl)
      simp only [Act.put, List.setIfInBounds_toArray, List.set_cons_zero, List.set_cons_succ]
      refine take0 (v := ?v127) (oi := ?o127) 24 ?hi127 (by kernel_rfl) (by kernel_rfl) (by kernel_rfl) ?hq127 ?hy127 ?_
      case hi127 => (simp only [List.getElem?_toArray, List.getElem?_cons_zero, List.getElem?_cons_succ]; rfl)
      case hq127 => exact fun _ _ _ h => h
      case hy127 => first | (refine ry_not ?_; rfl) | (refine ry_run (by rfl) (fun w' hw' => ?_); go_simp; try rfl)
      simp only [Act.put, List.setIfInBounds_toArray, List.set_cons_zero, List.set_cons_succ]
      refine take0 (v := ?v128) (oi := ?o128) 25 ?hi128 (by kernel_rfl) (by kernel_rfl) (by kernel_rfl) ?hq128 ?hy128 ?_
      case hi128 => (simp only [List.getElem?_toArray, List.getElem?_cons_zero, List.getElem?_cons_succ]; rfl)
      case hq128 => exact fun _ _ _ h => h
      case hy128 => first | (refine ry_not ?_; rfl) | (refine ry_run (by rfl) (fun w' hw' => ?_); go_simp; try rfl)
      simp only [Act.put, List.setIfInBounds_toArray, List.set_cons_zero, List.set_cons_succ]
      refine take0 (v := ?v129) (oi := ?o129) 26 ?hi129 (by kernel_rfl) (by kernel_rfl) (by kernel_rfl) ?hq129 ?hy129 ?_
      case hi129 => (simp only [List.getElem?_toArray, List.getElem?_cons_zero, List.getElem?_cons_succ]; rfl)
      case hq129 => exact fun _ _ _ h => h
      case hy129 => first | (refine ry_not ?_; rfl) | (refine ry_run (by rfl) (fun w' hw' => ?_); go_simp; try rfl)
      simp only [Act.put, List.setIfInBounds_toArray, List.set_cons_zero, List.set_cons_succ]
      refine take0 (v := ?v130) (oi := ?o130) 27 ?hi130 (by kernel_rfl) (by kernel_rfl) (by kernel_rfl) ?hq130 ?hy130 ?_
      case hi130 => (simp only [List.getElem?_toArray, List.getElem?_cons_zero, List.getElem?_cons_succ]; rfl)
      case hq130 => exact fun _ _ _ h => h
      case hy130 => first | (refine ry_not ?_; rfl) | (refine ry_run (by rfl) (fun w' hw' => ?_); go_simp; try rfl)
      simp only [Act.put, List.setIfInBounds_toArray, List.set_cons_zero, List.set_cons_succ]
      refine wpAnyM_done (by kernel_rfl) ?_
      go_simp
      go_wp2_with fail
      go_ret
      exact ⟨rfl, (Mod.trans HM2.out (Mod.of_drew_l hm1) (fun _ _ h => h)).below (fun _ _ h => h)⟩
    | false =>
      clear htb
      refine region_m (by kernel_rfl) ?_
      simp only [List.length_cons, List.length_nil, List.replicate]
      refine take0 (v := ?v131) (oi := ?o131) 0 ?hi131 (by kernel_rfl) (by kernel_rfl) (by kernel_rfl) ?hq131 ?hy131 ?_
      case hi131 => (simp only [List.getElem?_toArray, List.getElem?_cons_zero, List.getElem?_cons_succ]; rfl)
      case hq131 => exact fun _ _ _ h => h
      case hy131 => first | (refine ry_not ?_; rfl) | (refine ry_run (by rfl) (fun w' hw' => ?_); go_simp; try rfl)
      simp only [Act.put, List.setIfInBounds_toArray, List.set_cons_zero, List.set_cons_succ]
      refine take0 (v := ?v132) (oi := ?o132) 1 ?hi132 (by kernel_rfl) (by kernel_rfl) (by kernel_rfl) ?hq132 ?hy132 ?_
      case hi132 => (simp only [List.getElem?_toArray, List.getElem?_cons_zero, List.getElem?_cons_succ]; rfl)
      case hq132 => exact fun _ _ _ h => h
      case hy132 => first | (refine ry_not ?_; rfl) | (refine ry_run (by rfl) (fun w' hw' => ?_); go_simp; try rfl)
      simp only [Act.put, List.setIfInBounds_toArray, List.set_cons_zero, List.set_cons_succ]
      refine take0 (v := ?v133) (oi := ?o133) 2 ?hi133 (by kernel_rfl) (by kernel_rfl) (by kernel_rfl) ?hq133 ?hy133 ?_
      case hi133 => (simp only [List.getElem?_toArray, List.getElem?_cons_zero, List.getElem?_cons_succ]; rfl)
      case hq133 => exact fun _ _ _ h => h
      case hy133 => first | (refine ry_not ?_; rfl) | (refine ry_run (by rfl) (fun w' hw' => ?_); go_simp; try rfl)
      simp only [Act.put, List.setIfInBounds_toArray, List.set_cons_zero, List.set_cons_succ]
      refine take0 (v := ?v134) (oi := ?o134) 3 ?hi134 (by kernel_rfl) (by kernel_rfl) (by kernel_rfl) ?hq134 ?hy134 ?_
      case hi134 => (simp only [List.getElem?_toArray, List.getElem?_cons_zero, List.getElem?_cons_succ]; rfl)
      case hq134 => exact fun _ _ _ h => h
      case hy134 => first | (refine ry_not ?_; rfl) | (refine ry_run (by rfl) (fun w' hw' => ?_); go_simp; try rfl)
      simp only [Act.put, List.setIfInBounds_toArray, List.set_cons_zero, List.set_cons_succ]
      refine take0 (v := ?v135) (oi := ?o135) 4 ?hi135 (by kernel_rfl) (by kernel_rfl) (by kernel_rfl) ?hq135 ?hy135 ?_
      case hi135 => (simp only [List.getElem?_toArray, List.getElem?_cons_zero, List.getElem?_cons_succ]; rfl)
      case hq135 => exact fun _ _ _ h => h
      case hy135 => first | (refine ry_not ?_; rfl) | (refine ry_run (by rfl) (fun w' hw' => ?_); go_simp; try rfl)
      simp only [Act.put, List.setIfInBounds_toArray, List.set_cons_zero, List.set_cons_succ]
      refine take0 (v := ?v136) (oi := ?o136) 5 ?hi136 (by kernel_rfl) (by kernel_rfl) (by kernel_rfl) ?hq136 ?hy136 ?_
      case hi136 => (simp only [List.getElem?_toArray, List.getElem?_cons_zero, List.getElem?_cons_succ]; rfl)
      case hq136 => exact fun _ _ _ h => h
      case hy136 => first | (refine ry_not ?_; rfl) | (refine ry_run (by rfl) (fun w' hw' => ?_); go_simp; try rfl)
      simp only [Act.put, List.setIfInBounds_toArray, List.set_cons_zero, List.set_cons_succ]
      refine take0 (v := ?v137) (oi := ?o137) 6 ?hi137 (by kernel_rfl) (by kernel_rfl) (by kernel_rfl) ?hq137 ?hy137 ?_
      case hi137 => (simp only [List.getElem?_toArray, List.getElem?_cons_zero, List.getElem?_cons_succ]; rfl)
      case hq137 => exact fun _ _ _ h => h
      case hy137 => first | (refine ry_not ?_; rfl) | (refine ry_run (by rfl) (fun w' hw' => ?_); go_simp; try rfl)
      simp only [Act.put, List.setIfInBounds_toArray, List.set_cons_zero, List.set_cons_succ]
      refine take0 (v := ?v138) (oi := ?o138) 7 ?hi138 (by kernel_rfl) (by kernel_rfl) (by kernel_rfl) ?hq138 ?hy138 ?_
      case hi138 => (simp only [List.getElem?_toArray, List.getElem?_cons_zero, List.getElem?_cons_succ]; rfl)
      case hq138 => exact fun _ _ _ h => h
      case hy138 => first | (refine ry_not ?_; rfl) | (refine ry_run (by rfl) (fun w' hw' => ?_); go_simp; try rfl)
      simp only [Act.put, List.setIfInBounds_toArray, List.set_cons_zero, List.set_cons_succ]
      refine take0 (v := ?v139) (oi := ?o139) 8 ?hi139 (by kernel_rfl) (by kernel_rfl) (by kernel_rfl) ?hq139 ?hy139 ?_
      case hi139 => (simp only [List.getElem?_toArray, List.getElem?_cons_zero, List.getElem?_cons_succ]; rfl)
      case hq139 => exact fun _ _ _ h => h
      case hy139 => first | (refine ry_not ?_; rfl) | (refine ry_run (by rfl) (fun w' hw' => ?_); go_simp; try rfl)
      simp only [Act.put, List.setIfInBounds_toArray, List.set_cons_zero, List.set_cons_succ]
      refine take0 (v := ?v140) (oi := ?o140) 9 ?hi140 (by kernel_rfl) (by kernel_rfl) (by kernel_rfl) ?hq140 ?hy140 ?_
      case hi140 => (simp only [List.getElem?_toArray, List.getElem?_cons_zero, List.getElem?_cons_succ]; rfl)
      case hq140 => exact fun _ _ _ h => h
      case hy140 => first | (refine ry_not ?_; rfl) | (refine ry_run (by rfl) (fun w' hw' => ?_); go_simp; try rfl)
      simp only [Act.put, List.setIfInBounds_toArray, List.set_cons_zero, List.set_cons_succ]
      refine take0 (v := ?v141) (oi := ?o141) 10 ?hi141 (by kernel_rfl) (by kernel_rfl) (by kernel_rfl) ?hq141 ?hy141 ?_
      case hi141 => (simp only [List.getElem?_toArray, List.getElem?_cons_zero, List.getElem?_cons_succ]; rfl)
      case hq141 => exact fun _ _ _ h => h
      case hy141 => first | (refine ry_not ?_; rfl) | (refine ry_run (by rfl) (fun w' hw' => ?_); go_simp; try rfl)
      simp only [Act.put, List.setIfInBounds_toArray, List.set_cons_zero, List.set_cons_succ]
      refine take0 (v := ?v142) (oi := ?o142) 11 ?hi142 (by kernel_rfl) (by kernel_rfl) (by kernel_rfl) ?hq142 ?hy142 ?_
      case hi142 => (simp only [List.getElem?_toArray, List.getElem?_cons_zero, List.getElem?_cons_succ]; rfl)
      case hq142 => exact fun _ _ _ h => h
      case hy142 => first | (refine ry_not ?_; rfl) | (refine ry_run (by rfl) (fun w' hw' => ?_); go_simp; try rfl)
      simp only [Act.put, List.setIfInBounds_toArray, List.set_cons_zero, List.set_cons_succ]
      refine take0 (v := ?v143) (oi := ?o143) 12 ?hi143 (by kernel_rfl) (by kernel_rfl) (by kernel_rfl) ?hq143 ?hy143 ?_
      case hi143 => (simp only [List.getElem?_toArray, List.getElem?_cons_zero, List.getElem?_cons_succ]; rfl)
      case hq143 => exact fun _ _ _ h => h
      case hy143 => first | (refine ry_not ?_; rfl) | (refine ry_run (by rfl) (fun w' hw' => ?_); go_simp; try rfl)
      simp only [Act.put, List.setIfInBounds_toArray, List.set_cons_zero, List.set_cons_succ]
      refine take0 (v := ?v144) (oi := ?o144) 13 ?hi144 (by kernel_rfl) (by kernel_rfl) (by kernel_rfl) ?hq144 ?hy144 ?_
      case hi144 => (simp only [List.getElem?_toArray, List.getElem?_cons_zero, List.getElem?_cons_succ]; rfl)
      case hq144 => exact fun _ _ _ h => h
      case hy144 => first | (refine ry_not ?_; rfl) | (refine ry_run (by rfl) (fun w' hw' => ?_); go_simp; try rfl)
      simp only [Act.put, List.setIfInBounds_toArray, List.set_cons_zero, List.set_cons_succ]
      refine take0 (v := ?v145) (oi := ?o145) 14 ?hi145 (by kernel_rfl) (by kernel_rfl) (by kernel_rfl) ?hq145 ?hy145 ?_
      case hi145 => (simp only [List.getElem?_toArray, List.getElem?_cons_zero, List.getElem?_cons_succ]; rfl)
      case hq145 => exact fun _ _ _ h => h
      case hy145 => first | (refine ry_not ?_; rfl) | (refine ry_run (by rfl) (fun w' hw' => ?_); go_simp; try rfl)
      simp only [Act.put, List.setIfInBounds_toArray, List.set_cons_zero, List.set_cons_succ]
      refine take0 (v := ?v146) (oi := ?o146) 15 ?hi146 (by kernel_rfl) (by kernel_rfl) (by kernel_rfl) ?hq146 ?hy146 ?_
      case hi146 => (simp only [List.getElem?_toArray, List.getElem?_cons_zero, List.getElem?_cons_succ]; rfl)
      case hq146 => exact fun _ _ _ h => h
      case hy146 => first | (refine ry_not ?_; rfl) | (refine ry_run (by rfl) (fun w' hw' => ?_); go_simp; try rfl)
      simp only [Act.put, List.setIfInBounds_toArray, List.set_cons_zero, List.set_cons_succ]
      refine take0 (v := ?v147) (oi := ?o147) 18 ?hi147 (by kernel_rfl) (by kernel_rfl) (by kernel_rfl) ?hq147 ?hy147 ?_
      case hi147 => (simp only [List.getElem?_toArray, List.getElem?_cons_zero, List.getElem?_cons_succ]; rfl)
      case hq147 => exact fun _ _ _ h => h
      case hy147 => first | (refine ry_not ?_; rfl) | (refine ry_run (by rfl) (fun w' hw' => ?_); go_simp; try rfl)
      simp only [Act.put, List.setIfInBounds_toArray, List.set_cons_zero, List.set_cons_succ]
      refine take0 (v := ?v148) (oi := ?o148) 19 ?hi148 (by kernel_rfl) (by kernel_rfl) (by kernel_rfl) ?hq148 ?hy148 ?_
      case hi148 => (simp only [List.getElem?_toArray, List.getElem?_cons_zero, List.getElem?_cons_succ]; rfl)
      case hq148 => exact fun _ _ _ h => h
      case hy148 => first | (refine ry_not ?_; rfl) | (refine ry_run (by rfl) (fun w' hw' => ?_); go_simp; try rfl)
      simp only [Act.put, List.setIfInBounds_toArray, List.set_cons_zero, List.set_cons_succ]
      refine take0 (v := ?v149) (oi := ?o149) 20 ?hi149 (by kernel_rfl) (by kernel_rfl) (by kernel_rfl) ?hq149 ?hy149 ?_
      case hi149 => (simp only [List.getElem?_toArray, List.getElem?_cons_zero, List.getElem?_cons_succ]; rfl)
      case hq149 => exact fun _ _ _ h => h
      case hy149 => first | (refine ry_not ?_; rfl) | (refine ry_run (by rfl) (fun w' hw' => ?_); go_simp; try rfl)
      simp only [Act.put, List.setIfInBounds_toArray, List.set_cons_zero, List.set_cons_succ]
      refine take0 (v := ?v150) (oi := ?o150) 21 ?hi150 (by kernel_rfl) (by kernel_rfl) (by kernel_rfl) ?hq150 ?hy150 ?_
      case hi150 => (simp only [List.getElem?_toArray, List.getElem?_cons_zero, List.getElem?_cons_succ]; rfl)
      case hq150 => exact fun _ _ _ h => h
      case hy150 => first | (refine ry_not ?_; rfl) | (refine ry_run (by rfl) (fun w' hw' => ?_); go_simp; try rfl)
      simp only [Act.put, List.setIfInBounds_toArray, List.set_cons_zero, List.set_cons_succ]
      refine take0 (v := ?v151) (oi := ?o151) 22 ?hi151 (by kernel_rfl) (by kernel_rfl) (by kernel_rfl) ?hq151 ?hy151 ?_
      case hi151 => (simp only [List.getElem?_toArray, List.getElem?_cons_zero, List.getElem?_cons_succ]; rfl)
      case hq151 => exact fun _ _ _ h => h
      case hy151 => first | (refine ry_not ?_; rfl) | (refine ry_run (by rfl) (fun w' hw' => ?_); go_simp; try rfl)
      simp only [Act.put, List.setIfInBounds_toArray, List.set_cons_zero, List.set_cons_succ]
      refine take0 (v := ?v152) (oi := ?o152) 16 ?hi152 (by kernel_rfl) (by kernel_rfl) (by kernel_rfl) ?hq152 ?hy152 ?_
      case hi152 => (simp only [List.getElem?_toArray, List.getElem?_cons_zero, List.getElem?_cons_succ]; rfl)
      case hq152 => exact fun _ _ _ h => h
      case hy152 => first | (refine ry_not ?_; rfl) | (refine ry_run (by rfl) (fun w' hw' => ?_); go_simp; try rfl)
      simp only [Act.put, List.setIfInBounds_toArray, List.set_cons_zero, List.set_cons_succ]
      refine take0 (v := ?v153) (oi := ?o153) 17 ?hi153 (by kernel_rfl) (by kernel_rfl) (by kernel_rfl) ?hq153 ?hy153 ?_
      case hi153 => (simp only [List.getElem?_toArray, List.getElem?_cons_zero, List.getElem?_cons_succ]; rfl)
      case hq153 => exact fun _ _ _ h => h
      case hy153 => first | (refine ry_not ?_; rfl) | (refine ry_run (by rfl) (fun w' hw' => ?_); go_simp; try rfl)
      simp only [Act.put, List.setIfInBounds_toArray, List.set_cons_zero, List.set_cons_succ]
      refine take0 (v := ?v154) (oi := ?o154) 23 ?hi154 (by kernel_rfl) (by kernel_rfl) (by kernel_rfl) ?hq154 ?hy154 ?_
      case hi154 => (simp only [List.getElem?_toArray, List.getElem?_cons_zero, List.getElem?_cons_succ]; rfl)
      case hq154 => exact fun _ _ _ h => h
      case hy154 => first | (refine ry_not ?_; rfl) | (refine ry_run (by rfl) (fun w' hw' => ?_); go_simp; try rfl)
      simp only [Act.put, List.setIfInBounds_toArray, List.set_cons_zero, List.set_cons_succ]
      refine take0 (v := ?v155) (oi := ?o155) 24 ?hi155 (by kernel_rfl) (by kernel_rfl) (by kernel_rfl) ?hq155 ?hy155 ?_
      case hi155 => (simp only [List.getElem?_toArray, List.getElem?_cons_zero, List.getElem?_cons_succ]; rfl)
      case hq155 => exact fun _ _ _ h => h
      case hy155 => first | (refine ry_not ?_; rfl) | (refine ry_run (by rfl) (fun w' hw' => ?_); go_simp; try rfl)
      simp only [Act.put, List.setIfInBounds_toArray, List.set_cons_zero, List.set_cons_succ]
      refine take0 (v := ?v156) (oi := ?o156) 25 ?hi156 (by kernel_rfl) (by kernel_rfl) (by kernel_rfl) ?hq156 ?hy156 ?_
      case hi156 => (simp only [List.getElem?_toArray, List.getElem?_cons_zero, List.getElem?_cons_succ]; rfl)
      case hq156 => exact fun _ _ _ h => h
      case hy156 => first | (refine ry_not ?_; rfl) | (refine ry_run (by rfl) (fun w' hw' => ?_); go_simp; try rfl)
      simp only [Act.put, List.setIfInBounds_toArray, List.set_cons_zero, List.set_cons_succ]
      refine take0 (v := ?v157) (oi := ?o157) 26 ?hi157 (by kernel_rfl) (by kernel_rfl) (by kernel_rfl) ?hq157 ?hy157 ?_
      case hi157 => (simp only [List.getElem?_toArray, List.getElem?_cons_zero, List.getElem?_cons_succ]; rfl)
      case hq157 => exact fun _ _ _ h => h
      case hy157 => first | (refine ry_not ?_; rfl) | (refine ry_run (by rfl) (fun w' hw' => ?_); go_simp; try rfl)
      simp only [Act.put, List.setIfInBounds_toArray, List.set_cons_zero, List.set_cons_succ]
      refine take0 (v := ?v158) (oi := ?o158) 27 ?hi158 (by kernel_rfl) (by kernel_rfl) (by kernel_rfl) ?hq158 ?hy158 ?_
      case hi158 => (simp only [List.getElem?_toArray, List.getElem?_cons_zero, List.getElem?_cons_succ]; rfl)
      case hq158 => exact fun _ _ _ h => h
      case hy158 => first | (refine ry_not ?_; rfl) | (refine ry_run (by rfl) (fun w' hw' => ?_); go_simp; try rfl)
      simp only [Act.put, List.setIfInBounds_toArray, List.set_cons_zero, List.set_cons_succ]
      refine wpAnyM_done (by kernel_rfl) ?_
      go_simp
      go_wp2_with fail
      go_ret
      exact ⟨rfl, (HM2.out.drewN 1).below (fun _ _ h => h)⟩
end Wire
end Go.Proofs.YtammcnencaemfaaDoor
