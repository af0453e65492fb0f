/- Joined texts: ObjIb, ObjKb. -/
import Derived.Test.YtpoljpjcmigobaaDoorJ18
/- The walk of the reference's RightBranch. -/
namespace Go.Proofs.YtpoljpjcmigobaaDoor
set_option linter.unusedVariables false
set_option linter.unusedSimpArgs false
open Go.RowKit K Wire
namespace Obj

theorem rightBranch_stop {level : Int} {kids : List Link} {p : Link} (hp : p ∈ kids) (h : linkOk p = false) : rightBranch level kids = false := by
  have : kids.all linkOk = false := by
    rw [List.all_eq_false]; exact ⟨p, hp, by rw [h]; decide⟩
  unfold rightBranch; rw [this]; simp
theorem linkOk_key {p : Link} (h : inR (p.last.size : Int) 1 64 = false) : linkOk p = false := by unfold linkOk; rw [h]; rfl
theorem linkOk_id {p : Link} (h : decide (p.id.size = 32) = false) : linkOk p = false := by unfold linkOk; rw [h]; simp
theorem linkOk_small {p : Link} (h : p.many < 1) : linkOk p = false := by unfold linkOk; rw [inR_no (.inl h)]; simp
theorem linkOk_big {p : Link} (h : 4096 < p.many) : linkOk p = false := by unfold linkOk; rw [inR_no (.inr h)]; simp

set_option maxRecDepth 100000 in
set_option maxHeartbeats 8000000 in
theorem rightBranch_calls (level : Int) (A : Option Addr) (c : Nat) (kids : List Link) (w : World) (hA : Cells w A (kids.flatMap lc)) (hc : kids.length ≤ 100000000) :
    Calls Tryd.prog 85 #[.agg #[.int .i64 level, .slice A kids.length c]] w fun e w' => e = .returned (.bool (rightBranch level kids)) ∧ Mod (fun _ => False) w w' := by
  by_cases a1 : level < 1
  ·
    have HF : Hid (rightBranch level kids = false) := Lib.hid (by unfold rightBranch; first | (rw [inR_no (n := level) (by omega)]; rfl) | (rw [inR_no (n := (kids.length : Int)) (by omega)]; simp))
    clear hA
    go_enter Tryd.func85, Tryd.ntmps85
    go_wp2_with fail
    go_ret
    exact ⟨by rw [HF.out]; rfl, by (repeat (first | with_reducible exact Mod.refl _ _ | with_reducible apply Mod.drew | with_reducible apply Mod.drewN | with_reducible apply Mod.alloc | refine Mod.set1 ?_ (by first | exact rfl | simp) _ _))⟩
  by_cases a2 : 20 < level
  ·
    have HF : Hid (rightBranch level kids = false) := Lib.hid (by unfold rightBranch; first | (rw [inR_no (n := level) (by omega)]; rfl) | (rw [inR_no (n := (kids.length : Int)) (by omega)]; simp))
    clear hA
    go_enter Tryd.func85, Tryd.ntmps85
    go_wp2_with fail
    go_ret
    exact ⟨by rw [HF.out]; rfl, by (repeat (first | with_reducible exact Mod.refl _ _ | with_reducible apply Mod.drew | with_reducible apply Mod.drewN | with_reducible apply Mod.alloc | refine Mod.set1 ?_ (by first | exact rfl | simp) _ _))⟩
  by_cases a3 : (kids.length : Int) < 1
  ·
    have HF : Hid (rightBranch level kids = false) := Lib.hid (by unfold rightBranch; first | (rw [inR_no (n := level) (by omega)]; rfl) | (rw [inR_no (n := (kids.length : Int)) (by omega)]; simp))
    clear hA
    go_enter Tryd.func85, Tryd.ntmps85
    go_wp2_with fail
    go_ret
    exact ⟨by rw [HF.out]; rfl, by (repeat (first | with_reducible exact Mod.refl _ _ | with_reducible apply Mod.drew | with_reducible apply Mod.drewN | with_reducible apply Mod.alloc | refine Mod.set1 ?_ (by first | exact rfl | simp) _ _))⟩
  by_cases a4 : 64 < (kids.length : Int)
  ·
    have HF : Hid (rightBranch level kids = false) := Lib.hid (by unfold rightBranch; first | (rw [inR_no (n := level) (by omega)]; rfl) | (rw [inR_no (n := (kids.length : Int)) (by omega)]; simp))
    clear hA
    go_enter Tryd.func85, Tryd.ntmps85
    go_wp2_with fail
    go_ret
    exact ⟨by rw [HF.out]; rfl, by (repeat (first | with_reducible exact Mod.refl _ _ | with_reducible apply Mod.drew | with_reducible apply Mod.drewN | with_reducible apply Mod.alloc | refine Mod.set1 ?_ (by first | exact rfl | simp) _ _))⟩
  have hX := Has.new w [.int .i64 level, .slice A kids.length c] 72
  have hM0 := (Mod.refl (fun _ => False) w).alloc (.cells #[.int .i64 level, .slice A kids.length c] 72)
  have HX := Lib.hid hX
  have HA := Lib.hid hA
  have HM0 := Lib.hid hM0
  clear hX hM0 hA
  go_enter Tryd.func85, Tryd.ntmps85
  go_wp2_with fail
  go_loopw [3, 4] (fun s i wr => ∃ (k : Nat) (z : Int), i = .int .i64 k ∧ s = .int .i64 z ∧ k ≤ kids.length ∧ 0 ≤ z ∧ z ≤ 4096 * k ∧ Hid (z = ((kids.take k).map (·.many)).sum) ∧ Hid ((kids.take k).all linkOk = true) ∧ Hid (risesN (kids.map (·.last)) (k - 1) = true) ∧ Hid (Mod (fun _ => False) w wr) ∧ Hid (Has wr w.heap.size [.int .i64 level, .slice A kids.length c] 72)) (fun _ i _ => kids.length - (intOf i).toNat)
  case atStart => exact ⟨0, 0, by go_num, rfl, by omega, by omega, by omega, Lib.hid rfl, Lib.hid rfl, Lib.hid rfl, HM0, HX⟩
  case round =>
    obtain ⟨k, z, rfl, rfl, hk, hz0, hz1, HZ, HO, HU, HM, HX⟩ := hrel
    have x1 := HX.out.cell (o := 1) rfl
    by_cases hlt : k < kids.length
    · have i1 : (k : Int) < (kids.length : Int) := by omega
      have i0 : (0 : Int) ≤ (k : Int) := by omega
      rcases HA.out.keep HM.out (fun _ _ h => h) with h | ⟨ba, o, rfl, hcell⟩
      · have := flat_len lc_len kids; rw [h] at this; simp at this; omega
      have y0 := hcell _ _ (flat_get lc_len kids k 0 hlt (by omega))
      have y1 := hcell _ _ (flat_get lc_len kids k 1 hlt (by omega))
      have y2 := hcell _ _ (flat_get lc_len kids k 2 hlt (by omega))
      rw [Nat.add_zero] at y0
      rw [← Nat.add_assoc] at y1 y2
      have hbl : ba < wr.heap.size := World.block_lt_of_cell? wr _ y0
      have ht : ((kids.take (k + 1)).map (·.many)).sum = ((kids.take k).map (·.many)).sum + kids[k].many := by
        rw [List.take_succ_eq_append_getElem hlt, List.map_append, List.sum_append]; simp
      have ho : (kids.take (k + 1)).all linkOk = ((kids.take k).all linkOk && linkOk kids[k]) := by
        rw [List.take_succ_eq_append_getElem hlt, List.all_append]; simp
      rw [← HZ.out] at ht
      rw [HO.out] at ho
      have HMEM := Lib.hid (List.getElem_mem hlt)
      have hprev : ∀ j (hj : k = j + 1), ∃ pr : ByteArray, wr.cell? ⟨ba, o + j * 3, none⟩ = some (.string pr) ∧ (ltS pr kids[k].last = true → risesN (kids.map (·.last)) k = true) ∧ (ltS pr kids[k].last = false → rightBranch level kids = false) := by
        intro j hj
        have hjl : j < kids.length := by omega
        have z0 := hcell _ _ (flat_get lc_len kids j 0 hjl (by omega))
        rw [Nat.add_zero] at z0
        have g1 : (kids.map (·.last)).getD j ByteArray.empty = kids[j].last := by simp [List.getD, hjl]
        have g2 : (kids.map (·.last)).getD (j + 1) ByteArray.empty = kids[k].last := by subst hj; simp [List.getD, hlt]
        have hsn := risesN_succ (kids.map (·.last)) j
        have hst := @rises_stop (kids.map (·.last)) j (by simp; omega)
        rw [g1, g2] at hsn hst
        have hu := HU.out
        rw [show k - 1 = j by omega] at hu
        rw [hu, Bool.true_and] at hsn
        refine ⟨kids[j].last, z0, fun h => ?_, fun h => ?_⟩
        · rw [hj, hsn]; exact h
        · unfold rightBranch; rw [hst h]; simp
      generalize kids[k] = p at *
      have HT := Lib.hid ht
      have HOO := Lib.hid ho
      have HPR := Lib.hid hprev
      obtain ⟨bk, hbk⟩ : ∃ bk, inR (p.last.size : Int) 1 64 = bk := ⟨_, rfl⟩
      obtain ⟨bi, hbi⟩ : ∃ bi, decide (p.id.size = 32) = bi := ⟨_, rfl⟩
      have hI := isKey_calls p.last
      have hI2 := isId_calls p.id
      rw [hbk] at hI
      rw [hbi] at hI2
      have HI := Lib.hid hI
      have HI2 := Lib.hid hI2
      have HBK := Lib.hid hbk
      have HBI := Lib.hid hbi
      clear hcell ht ho hI hI2 hbk hbi hprev
      go_wp2_with fail
      refine (HI.out _).mono ?_
      rintro e w1 ⟨rfl, hm1⟩
      have hk1 := (Has.new wr [.string p.last, .string p.id, .int .i64 p.many] 67).keep hm1 (fun h => h)
      have c1 := hk1.cell (o := 1) rfl
      have HK1 := Lib.hid hk1
      have HM1 := Lib.hid (Mod.trans ((Mod.refl (fun _ => False) wr).alloc (.cells #[.string p.last, .string p.id, .int .i64 p.many] 67)) hm1 (fun _ _ h => h))
      clear hk1 hm1
      go_wp2_with fail
      refine (HI2.out _).mono ?_
      rintro e w2 ⟨rfl, hm2⟩
      have hk2 := HK1.out.keep hm2 (fun h => h)
      have c0 := hk2.cell (o := 0) rfl
      have c2 := hk2.cell (o := 2) rfl
      have hM2 := Mod.trans HM1.out hm2 (fun _ _ h => h)
      have hx2 := HX.out.keep hM2 (fun h => h)
      have x1 := hx2.cell (o := 1) rfl
      have HX2 := Lib.hid hx2
      have HST := Lib.hid hM2
      have HM2 := Lib.hid (Mod.trans HM.out hM2 (fun _ _ h => h))
      clear hk2 hm2 hM2 hx2 c1 y0 y1 y2
      cases bk with
      | false =>
        have HF := Lib.hid (rightBranch_stop (level := level) (kids := kids) HMEM.out (by exact linkOk_key HBK.out))
        clear HOO HST
        go_wp2_with fail
        go_quiet (fail)
        go_wp2_with fail
        go_ret
        exact ⟨by rw [HF.out]; rfl, HM2.out.drewN _⟩
      | true =>
      cases bi with
      | false =>
        have HF := Lib.hid (rightBranch_stop (level := level) (kids := kids) HMEM.out (by exact linkOk_id HBI.out))
        clear HOO HST
        go_wp2_with fail
        go_quiet (fail)
        go_wp2_with fail
        go_ret
        exact ⟨by rw [HF.out]; rfl, HM2.out.drewN _⟩
      | true =>
      by_cases b3 : p.many < 1
      · have hv1 : decide (p.many < 1) = true := decide_eq_true b3
        have HF := Lib.hid (rightBranch_stop (level := level) (kids := kids) HMEM.out (by exact linkOk_small b3))
        clear HOO HST
        go_wp2_with fail
        go_quiet (fail)
        go_wp2_with fail
        go_ret
        exact ⟨by rw [HF.out]; rfl, HM2.out.drewN _⟩
      have hv1 : decide (p.many < 1) = false := decide_eq_false b3
      by_cases b4 : 4096 < p.many
      · have hv2 : decide (4096 < p.many) = true := decide_eq_true b4
        have HF := Lib.hid (rightBranch_stop (level := level) (kids := kids) HMEM.out (by exact linkOk_big b4))
        clear HOO HST
        go_wp2_with fail
        go_quiet (fail)
        go_wp2_with fail
        go_ret
        exact ⟨by rw [HF.out]; rfl, HM2.out.drewN _⟩
      have hv2 : decide (4096 < p.many) = false := decide_eq_false b4
      have hpo : linkOk p = true := by
        unfold linkOk; rw [HBK.out, HBI.out]; simp [inR]; omega
      have HPO := Lib.hid hpo
      have w1 : IntKind.i64.wrap (z + p.many) = z + p.many := by rw [IntKind.wrap_i64]; omega
      clear hpo
      by_cases hk0 : k = 0
      · subst hk0
        go_wp2_with fail
        go_quiet (fail)
        go_wp2_with fail
        go_roundw
        case rel => exact ⟨1, z + p.many, by go_num, rfl, by omega, by omega, by omega, Lib.hid HT.out.symm, Lib.hid (by rw [HOO.out, HPO.out]; rfl), Lib.hid rfl, Lib.hid (HM2.out.drewN _), Lib.hid (HX2.out.drewN _)⟩
        case measure => simp [intOf]; omega
      · obtain ⟨j, hj⟩ : ∃ j, k = j + 1 := ⟨k - 1, by omega⟩
        obtain ⟨pr, z0, hyes, hno⟩ := HPR.out j hj
        have z0 := (HST.out.cell (p := ⟨ba, o + j * 3, none⟩) hbl (fun h => h)).trans z0
        have n0 : 0 < k := by omega
        have hw1 : IntKind.i64.wrap ((k : Int) - 1) = (j : Int) := by rw [IntKind.wrap_i64]; omega
        have j0 : (0 : Int) ≤ (j : Int) := by omega
        have j1 : (j : Int) < (kids.length : Int) := by omega
        obtain ⟨lt, hlts⟩ : ∃ lt, ltS pr p.last = lt := ⟨_, rfl⟩
        rw [hlts] at hyes hno
        have hlts2 : Go.Op.bytesLess pr.toList p.last.toList = lt := hlts
        have HY := Lib.hid hyes
        have HN := Lib.hid hno
        clear hk0 hj hlts hyes hno
        cases lt with
        | true =>
          go_wp2_with fail
          go_quiet (fail)
          go_wp2_with fail
          go_roundw
          case rel => exact ⟨k + 1, z + p.many, by go_num, rfl, by omega, by omega, by omega, Lib.hid HT.out.symm, Lib.hid (by rw [HOO.out, HPO.out]; rfl), Lib.hid (HY.out (by simp)), Lib.hid (HM2.out.drewN _), Lib.hid (HX2.out.drewN _)⟩
          case measure => simp [intOf]; omega
        | false =>
          have HF := Lib.hid (HN.out rfl)
          clear HOO HST
          go_wp2_with fail
          go_quiet (fail)
          go_wp2_with fail
          go_ret
          exact ⟨by rw [HF.out]; rfl, HM2.out.drewN _⟩
    · have hkl : k = kids.length := by omega
      have i1 : ¬ (k : Int) < (kids.length : Int) := by omega
      have hz := HZ.out
      have ho := HO.out
      have hu := HU.out
      rw [hkl, List.take_length] at hz ho
      have hr : rightBranch level kids = decide (z ≤ 4096) := by
        unfold rightBranch rises; rw [ho, ← hz, List.length_map, ← hkl, hu]
        have e1 : inR level 1 20 = true := by simp [inR]; omega
        have e2 : inR (k : Int) 1 64 = true := by simp [inR]; omega
        rw [e1, e2]; rfl
      have HR := Lib.hid hr
      clear hz ho hu hr
      go_wp2_with fail
      go_ret
      exact ⟨by rw [HR.out]; rfl, HM.out⟩
end Obj
end Go.Proofs.YtpoljpjcmigobaaDoor
/- The walk of the reference's Branch. -/
namespace Go.Proofs.YtpoljpjcmigobaaDoor
set_option linter.unusedVariables false
set_option linter.unusedSimpArgs false
open Go.RowKit K Wire
namespace Obj
def branchH (level : Int) (kids : List Link) : List UInt8 := 66 :: (enc level ++ enc (kids.length : Int))
def branchP (level : Int) (kids : List Link) (k : Nat) : List UInt8 := branchH level kids ++ (kids.take k).flatMap linkB
set_option maxRecDepth 100000 in
set_option maxHeartbeats 2000000 in
theorem rBranch_calls (level : Int) (A : Option Addr) (c : Nat) (kids : List Link) (w : World) (hA : Cells w A (kids.flatMap lc)) (hc : kids.length ≤ 100000000) (hlv : In64 level) (hs : ∀ p ∈ kids, In64 p.many) (hl : (branchB level kids).length ≤ 100000000) :
    Calls Tryd.prog 65 #[.agg #[.int .i64 level, .slice A kids.length c]] w fun e w' => e = .returned (putV (branchB level kids) (!rightBranch level kids)) ∧ Mod (fun _ => False) w w' := by
  have HL := Lib.hid hl
  have HS := Lib.hid hs
  have HLV := Lib.hid hlv
  have hX := (Has.new w [.int .i64 level, .slice A kids.length c] 72).alloc (.cells #[.string ⟨#[]⟩, .string ⟨#[]⟩] 59)
  have hR := (Has.new (w.alloc (.cells #[.int .i64 level, .slice A kids.length c] 72)) [.string ⟨#[]⟩, .string ⟨#[]⟩] 59)
  have hA0 := (hA.alloc (.cells #[.int .i64 level, .slice A kids.length c] 72)).alloc (.cells #[.string ⟨#[]⟩, .string ⟨#[]⟩] 59)
  have hM0 := ((Mod.refl (fun _ => False) w).alloc (.cells #[.int .i64 level, .slice A kids.length c] 72)).alloc (.cells #[.string ⟨#[]⟩, .string ⟨#[]⟩] 59)
  rw [size_alloc] at hR
  have hx0 := hX.cell (o := 0) rfl
  have hx1 := hX.cell (o := 1) rfl
  have HX := Lib.hid hX
  have HR := Lib.hid hR
  have HA0 := Lib.hid hA0
  have HM0 := Lib.hid hM0
  have hRC := rightBranch_calls level A c kids _ hA0 hc
  have HRC := Lib.hid hRC
  clear hl hs hlv hX hR hA0 hM0 hA hRC
  go_enter Tryd.func65, Tryd.ntmps65
  go_wp2_with fail
  refine HRC.out.mono ?_
  rintro e w1 ⟨rfl, hm1⟩
  have hX1 := HX.out.keep hm1 (fun h => h)
  have hR1 := HR.out.keep hm1 (fun h => h)
  have hA1 := HA0.out.keep hm1 (fun _ _ h => h)
  have hsz1 : w.heap.size + 2 ≤ w1.heap.size := by have := hm1.size; simp only [size_alloc] at this; omega
  have hlt0 : w.heap.size < w1.heap.size := by omega
  have hM1 := Mod.trans HM0.out hm1 (fun _ _ h => h)
  have x0 := hX1.cell (o := 0) rfl
  have hv0 := (own_lit (w := w1) (n := w1.heap.size) (m := 1) (cs := bv [66]) (e := 5) (base := w1.heap.size) (size := 1) rfl (Nat.le_refl _) (by unfold maxLen; omega) rfl)
  have HX1 := Lib.hid hX1
  have HR1 := Lib.hid hR1
  have HA1 := Lib.hid hA1
  have HM1 := Lib.hid hM1
  have HV0 := Lib.hid hv0
  have hle := enc_len level HLV.out
  have hkn : In64 (kids.length : Int) := by unfold In64; omega
  have hke := enc_len _ hkn
  clear hX1 hR1 hA1 hM1 hv0 HX HR HA0 HM0 HRC hx0 hx1 hm1
  obtain ⟨ok, hok⟩ : ∃ ok, rightBranch level kids = ok := ⟨_, rfl⟩
  rw [hok]
  have HOK := Lib.hid hok
  clear hok
  go_wp2_with fail
  refine (number_calls level _ HLV.out).mono ?_
  rintro e w2 ⟨v2, rfl, ho2, hm2⟩
  obtain ⟨b2, o2, c2, rfl, hn2⟩ := own_news ho2 (enc_pos level)
  have HV2 := Lib.hid (own_keep HV0.out hm2 (fun _ _ _ h => h))
  have HN2 := Lib.hid hn2
  have hM2 : Mod (fun _ => False) w1 w2 := Mod.trans ((Mod.refl (fun _ => False) w1).alloc _) hm2 (fun _ _ h => h)
  have hz2 := hM2.size
  have HM2 := Lib.hid hM2
  clear ho2 hm2 hM2 hn2 HV0
  go_wp2_with (first
    | (at_builtin
       go_must (refine app (.tmp 9) (.tmp 12) obj_bytes_t w1.heap.size (.slice (some ⟨w1.heap.size, 0, none⟩) 1 1) 1 (bv [66]) HV2.out ⟨b2, o2, none⟩ (enc level).length c2 (bv (enc level)) rfl rfl rfl rfl (by simp [bv]) HN2.out (bv_one _) (by omega) (by unfold maxLen; omega) (by omega) ?_; intro v3 w3 ho hm3)
       have hM3 := Mod.trans HM2.out hm3 (fun i hi h => by have := h.1; omega)
       have x1 := (HX1.out.keep hM3 (fun h => h)).cell (o := 1) rfl
       rw [← bv_append] at ho
       have HV3 := Lib.hid ho
       have HM3 := Lib.hid hM3
       clear hm3 hM3 ho))
  refine (number_calls (kids.length : Int) _ hkn).mono ?_
  rintro e w4 ⟨v4, rfl, ho4, hm4⟩
  obtain ⟨b4, o4, c4, rfl, hn4⟩ := own_news ho4 (enc_pos _)
  have HV4 := Lib.hid (own_keep HV3.out hm4 (fun _ _ _ h => h))
  have HN4 := Lib.hid hn4
  have hM4 : Mod (fun _ => False) w1 w4 := Mod.trans HM3.out hm4 (fun _ _ h => h)
  have hz4 := hM4.size
  have HM4 := Lib.hid hM4
  clear ho4 hm4 hM4 hn4 x0 x1
  go_wp2_with (first
    | (at_builtin
       go_must (refine app (.tmp 14) (.tmp 18) obj_bytes_t w1.heap.size v3 (1 + (enc level).length) (bv ([66] ++ enc level)) HV4.out ⟨b4, o4, none⟩ (enc (kids.length : Int)).length c4 (bv (enc (kids.length : Int))) rfl rfl rfl rfl (by simp [bv]) HN4.out (bv_one _) (by omega) (by unfold maxLen; omega) (by omega) ?_; intro v5 w5 ho hm5)
       have hM5 := Mod.trans HM4.out hm5 (fun i hi h => by have := h.1; omega)
       have hv5 : w5.ownsRow w1.heap.size 5 1 v5 (branchP level kids 0).length (bv (branchP level kids 0)) := by
         have e1 : branchP level kids 0 = [66] ++ enc level ++ enc (kids.length : Int) := by simp [branchP, branchH]
         have e2 : (branchP level kids 0).length = 1 + (enc level).length + (enc (kids.length : Int)).length := by rw [e1]; simp; omega
         rw [e2, e1, bv_append]; exact ho
       have HV5 := Lib.hid hv5
       have HM5 := Lib.hid hM5
       clear hm5 hM5 ho hv5))
  have hpre : ∀ k, (branchP level kids k).length ≤ 100000000 := fun k => by
    have h1 := HL.out
    have h2 := flatMap_take linkB kids k
    simp only [branchB, branchP, branchH, List.length_append, List.length_cons] at h1 ⊢
    omega
  have hfull : branchP level kids kids.length = branchB level kids := by simp [branchP, branchH, branchB]
  have HP := Lib.hid hpre
  have HFU := Lib.hid hfull
  clear hpre hfull HV4 HV3 HV2 HN2 HN4 HM2 HM3 HM4 hz2 hz4 hle hke
  go_loopw [5, 6] (fun v i wr => ∃ (k : Nat), i = .int .i64 k ∧ k ≤ kids.length ∧ (ok = false → k = 0) ∧ Hid (wr.ownsRow w1.heap.size 5 1 v (branchP level kids k).length (bv (branchP level kids k))) ∧ Hid (Mod (fun _ => False) w1 wr)) (fun _ i _ => kids.length - (intOf i).toNat)
  case atStart => exact ⟨0, by go_num, by omega, fun _ => rfl, HV5, HM5⟩
  case round =>
    obtain ⟨k, rfl, hk, hk0, HV, HM⟩ := hrel
    have x1 := (HX1.out.keep HM.out (fun h => h)).cell (o := 1) rfl
    have hz := HM.out.size
    cases ok with
    | true =>
      by_cases hlt : k < kids.length
      · have i1 : (k : Int) < (kids.length : Int) := by omega
        have i0 : (0 : Int) ≤ (k : Int) := by omega
        rcases HA1.out.keep HM.out (fun _ _ h => h) with h | ⟨ba, o, rfl, hcell⟩
        · have := flat_len lc_len kids; rw [h] at this; simp at this; omega
        have hbl1 : ba < w1.heap.size := by
          rcases HA1.out with h | ⟨ba', o', hb', hcell1⟩
          · have := flat_len lc_len kids; rw [h] at this; simp at this; omega
          · obtain ⟨rfl, rfl⟩ : ba = ba' ∧ o = o' := by simpa using hb'
            exact World.block_lt_of_cell? w1 _ (hcell1 _ _ (flat_get lc_len kids k 0 hlt (by omega)))
        have y0 := hcell _ _ (flat_get lc_len kids k 0 hlt (by omega))
        have y1 := hcell _ _ (flat_get lc_len kids k 1 hlt (by omega))
        have y2 := hcell _ _ (flat_get lc_len kids k 2 hlt (by omega))
        rw [Nat.add_zero] at y0
        rw [← Nat.add_assoc] at y1 y2
        have hbl : ba < wr.heap.size := World.block_lt_of_cell? wr _ y0
        have hin := HS.out kids[k] (List.getElem_mem hlt)
        have hst : branchP level kids (k + 1) = branchP level kids k ++ linkB kids[k] := by
          simp only [branchP]
          rw [List.take_succ_eq_append_getElem hlt, List.flatMap_append]
          simp
        have hpk := HP.out (k + 1)
        rw [hst] at hpk
        generalize kids[k] = p at *
        have HIN := Lib.hid hin
        have HST := Lib.hid hst
        have hpl : p.id.data.toList.length = p.id.size := by simp
        have hpk2 : (branchP level kids k).length + (encT p.last.data.toList).length + p.id.size + (enc p.many).length ≤ 100000000 := by
          simp only [linkB, List.length_append] at hpk; omega
        have hlst := encT_least p.last
        have s1 : p.last.size ≤ 100000000 := by omega
        generalize branchP level kids k = L at *
        clear hcell hin hst hpk HP
        go_wp2_with fail
        refine (rtext_calls p.last _ s1).mono ?_
        rintro e w9 ⟨v9, rfl, ho9, hm9⟩
        obtain ⟨b9, o9, c9, rfl, hn9⟩ := own_news ho9 (encT_pos _)
        have HV9 := Lib.hid (own_keep HV.out hm9 (fun _ _ _ h => h))
        have HN9 := Lib.hid hn9
        have hM9 : Mod (fun _ => False) w1 w9 := Mod.trans HM.out hm9 (fun _ _ h => h)
        have x1 := (HX1.out.keep hM9 (fun h => h)).cell (o := 1) rfl
        have y1 := (hm9.cell (p := ⟨ba, o + k * 3 + 1, none⟩) hbl (fun h => h)).trans y1
        have y2 := (hm9.cell (p := ⟨ba, o + k * 3 + 2, none⟩) hbl (fun h => h)).trans y2
        have hbl9 : ba < w9.heap.size := World.block_lt_of_cell? w9 _ y1
        have hz9 := hM9.size
        have HM9 := Lib.hid hM9
        clear ho9 hm9 hM9 hn9 y0
        go_wp2_with (first
          | (at_builtin
             (refine app_str (.tmp 39) (.tmp 45) obj_bytes_t (fun i z hi hz => by cases hi; cases hz; rfl) Tryd.underlying9 w1.heap.size va (L.length + (encT p.last.data.toList).length) (bv (L ++ encT p.last.data.toList)) HVa.out p.id rfl rfl rfl rfl (by unfold maxLen; omega) (by omega) (by omega) ?_; intro v6 w6 ho hm6)
             have hM6 := Mod.trans HMa.out hm6 (fun i hi h => by have := h.1; omega)
             have x1 := (HX1.out.keep hM6 (fun h => h)).cell (o := 1) rfl
             have y2 := (hm6.cell (p := ⟨ba, o + k * 3 + 2, none⟩) hbla (fun h => by have := h.1; dsimp only at this; omega)).trans y2
             rw [← bv_append] at ho
             have HV6 := Lib.hid ho
             have HM6 := Lib.hid hM6
             clear hm6 hM6 ho)
          | (at_builtin
             go_must (refine app (.tmp 30) (.tmp 37) obj_bytes_t w1.heap.size u5 L.length (bv L) HV9.out ⟨b9, o9, none⟩ (encT p.last.data.toList).length c9 (bv (encT p.last.data.toList)) rfl rfl rfl rfl (by simp [bv]) HN9.out (bv_one _) (by omega) (by unfold maxLen; omega) (by omega) ?_; intro va wa ho hma)
             have hMa := Mod.trans HM9.out hma (fun i hi h => by have := h.1; omega)
             have x1 := (HX1.out.keep hMa (fun h => h)).cell (o := 1) rfl
             have y1 := (hma.cell (p := ⟨ba, o + k * 3 + 1, none⟩) hbl9 (fun h => by have := h.1; dsimp only at this; omega)).trans y1
             have y2 := (hma.cell (p := ⟨ba, o + k * 3 + 2, none⟩) hbl9 (fun h => by have := h.1; dsimp only at this; omega)).trans y2
             have hbla : ba < wa.heap.size := World.block_lt_of_cell? wa _ y1
             rw [← bv_append] at ho
             have HVa := Lib.hid ho
             have hza := hMa.size
             have HMa := Lib.hid hMa
             clear hma hMa ho))
        refine (number_calls p.many _ HIN.out).mono ?_
        rintro e w7 ⟨v7, rfl, ho7, hm7⟩
        obtain ⟨b7, o7, c7, rfl, hn7⟩ := own_news ho7 (enc_pos _)
        have HV7 := Lib.hid (own_keep HV6.out hm7 (fun _ _ _ h => h))
        have HN7 := Lib.hid hn7
        have hM7 : Mod (fun _ => False) w1 w7 := Mod.trans HM6.out hm7 (fun _ _ h => h)
        have hz7 := hM7.size
        have HM7 := Lib.hid hM7
        clear ho7 hm7 hM7 hn7 x1 y1 y2
        go_wp2_with (first
          | (at_builtin
             go_must (refine app (.tmp 47) (.tmp 54) obj_bytes_t w1.heap.size v6 (L.length + (encT p.last.data.toList).length + p.id.size) (bv (L ++ encT p.last.data.toList ++ p.id.data.toList)) HV7.out ⟨b7, o7, none⟩ (enc p.many).length c7 (bv (enc p.many)) rfl rfl rfl rfl (by simp [bv]) HN7.out (bv_one _) (by omega) (by unfold maxLen; omega) (by omega) ?_; intro v8 w8 ho hm8)
             have hM8 := Mod.trans HM7.out hm8 (fun i hi h => by have := h.1; omega)
             have hv8 : w8.ownsRow w1.heap.size 5 1 v8 (branchP level kids (k + 1)).length (bv (branchP level kids (k + 1))) := by
               rw [HST.out]
               have e2 : (L ++ linkB p).length = L.length + (encT p.last.data.toList).length + p.id.size + (enc p.many).length := by simp [linkB]; omega
               have e3 : L ++ linkB p = L ++ encT p.last.data.toList ++ p.id.data.toList ++ enc p.many := by simp [linkB]
               rw [e2, e3, bv_append]; exact ho
             have HV8 := Lib.hid hv8
             have HM8 := Lib.hid hM8
             clear hm8 hM8 ho hv8))
        go_roundw
        case rel => exact ⟨k + 1, by go_num, by omega, (fun h => by cases h), HV8, HM8⟩
        case measure => simp [intOf]; omega
      · have hkl : k = kids.length := by omega
        have i1 : ¬ (k : Int) < (kids.length : Int) := by omega
        have hv := HV.out
        rw [hkl, HFU.out] at hv
        obtain ⟨A2, c2', rfl, _, hcl, _, _⟩ := own_cells hv
        have hP := put_calls A2 c2' (branchB level kids) true wr hcl (fun _ => branch_len level kids HLV.out HS.out HOK.out)
        have HP9 := Lib.hid hP
        have HR9 := Lib.hid (HR1.out.keep HM.out (fun h => h))
        have HM9 := Lib.hid (Mod.trans HM1.out HM.out (fun _ _ h => h))
        clear hv hcl hP hkl
        go_wp2_with fail
        refine HP9.out.mono ?_
        rintro e w8 ⟨rfl, hm8⟩
        have hr8 := HR9.out.keep hm8 (fun h => h)
        have z0 := hr8.cell (o := 0) rfl
        have z1 := hr8.cell (o := 1) rfl
        have k0 := hr8.frozen 0
        have k1 := hr8.frozen 1
        have HM8 := Lib.hid (Mod.trans HM9.out hm8 (fun _ _ h => h))
        rw [Bool.not_true, putV_f]
        clear hr8 hm8
        go_wp2_with fail
        refine bodyPost_ret (v := putV (branchB level kids) false) (by simp [results, Tryd.results65, go_sem, putV_f, z0, z1]) rfl ⟨(HOK.out ▸ rfl), ?_⟩
        exact (HM8.out.setCell (p := ⟨w.heap.size + 1, 0, none⟩) (.inr (by simp)) _).setCell (p := ⟨w.heap.size + 1, 1, none⟩) (.inr (by simp)) _
    | false =>
      have hk00 := hk0 rfl
      subst hk00
      have hv := HV.out
      have hput : ∀ A2 c2' w', Calls Tryd.prog 63 #[.slice A2 (branchP level kids 0).length c2', .bool false] w' fun e w'' => e = .returned (putV (branchB level kids) (!false)) ∧ Mod (fun _ => False) w' w'' := fun A2 c2' w' => put_false A2 c2' (branchB level kids) _ w'
      obtain ⟨A2, c2', rfl, _, hcl, _, _⟩ := own_cells hv
      have HP9 := Lib.hid (hput A2 c2' wr)
      have HR9 := Lib.hid (HR1.out.keep HM.out (fun h => h))
      have HM9 := Lib.hid (Mod.trans HM1.out HM.out (fun _ _ h => h))
      clear hv hcl hput
      by_cases hlt : 0 < kids.length
      · have i1 : (0 : Int) < (kids.length : Int) := by omega
        go_wp2_with fail
        refine HP9.out.mono ?_
        rintro e w8 ⟨rfl, hm8⟩
        have hr8 := HR9.out.keep hm8 (fun h => h)
        have z0 := hr8.cell (o := 0) rfl
        have z1 := hr8.cell (o := 1) rfl
        have k0 := hr8.frozen 0
        have k1 := hr8.frozen 1
        have HM8 := Lib.hid (Mod.trans HM9.out hm8 (fun _ _ h => h))
        rw [Bool.not_false, putV_t]
        clear hr8 hm8
        go_wp2_with fail
        refine bodyPost_ret (v := putV (branchB level kids) true) (by simp [results, Tryd.results65, go_sem, putV_t, z0, z1]) rfl ⟨(HOK.out ▸ rfl), ?_⟩
        exact (HM8.out.setCell (p := ⟨w.heap.size + 1, 0, none⟩) (.inr (by simp)) _).setCell (p := ⟨w.heap.size + 1, 1, none⟩) (.inr (by simp)) _
      · have i1 : ¬ (0 : Int) < (kids.length : Int) := by omega
        go_wp2_with fail
        refine HP9.out.mono ?_
        rintro e w8 ⟨rfl, hm8⟩
        have hr8 := HR9.out.keep hm8 (fun h => h)
        have z0 := hr8.cell (o := 0) rfl
        have z1 := hr8.cell (o := 1) rfl
        have k0 := hr8.frozen 0
        have k1 := hr8.frozen 1
        have HM8 := Lib.hid (Mod.trans HM9.out hm8 (fun _ _ h => h))
        rw [Bool.not_false, putV_t]
        clear hr8 hm8
        go_wp2_with fail
        refine bodyPost_ret (v := putV (branchB level kids) true) (by simp [results, Tryd.results65, go_sem, putV_t, z0, z1]) rfl ⟨(HOK.out ▸ rfl), ?_⟩
        exact (HM8.out.setCell (p := ⟨w.heap.size + 1, 0, none⟩) (.inr (by simp)) _).setCell (p := ⟨w.heap.size + 1, 1, none⟩) (.inr (by simp)) _
end Obj
end Go.Proofs.YtpoljpjcmigobaaDoor
