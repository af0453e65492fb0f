/- The walk of object's Branch. -/
import Derived.Test.YtenamjldkaggcaaDoorObjN
namespace Go.Proofs.YtenamjldkaggcaaDoor
set_option linter.unusedVariables false
set_option linter.unusedSimpArgs false
open Go.RowKit K Wire
namespace Obj
theorem branch_len (level : Int) (kids : List Link) (hlv : In64 level) (hs : ∀ p ∈ kids, In64 p.many) (h : rightBranch level kids = true) : (branchB level kids).length ≤ 1048576 := by
  simp only [rightBranch, Bool.and_eq_true] at h
  obtain ⟨⟨⟨⟨_, hn⟩, ha⟩, _⟩, _⟩ := h
  simp only [inR, Bool.and_eq_true, decide_eq_true_eq] at hn
  have h1 := flatMap_most linkB 116 kids fun p hp => by
    have h2 := List.all_eq_true.1 ha p hp
    simp only [linkOk, inR, Bool.and_eq_true, decide_eq_true_eq] at h2
    have := encT_len p.last (by omega)
    have := enc_len p.many (hs p hp)
    have e : p.id.data.toList.length = p.id.size := by simp
    simp only [linkB, List.length_append]
    omega
  have := enc_len level hlv
  have := enc_len (kids.length : Int) (by unfold In64; omega)
  simp only [branchB, List.length_append, List.length_cons]
  omega
set_option maxRecDepth 100000 in
set_option maxHeartbeats 1000000 in
theorem branch_calls (level : Int) (A : Option Addr) (c : Nat) (kids : List Link) (w : World) (hK : Hash.Keys w) (hA : Cells w A (kids.flatMap lc)) (hc : kids.length ≤ 100000000) (hlv : In64 level) (hs : ∀ p ∈ kids, In64 p.many) (hl : (branchB level kids).length ≤ 100000000) :
    Calls Tryd.prog 17 #[.agg #[.int .i64 level, .slice A kids.length c]] w fun e w' => e = .returned (putV (branchB level kids) (!rightBranch level kids)) ∧ Mod (fun _ => False) w w' := by
  have HL := Lib.hid hl
  have HK := Lib.hid hK
  have HA := Lib.hid hA
  have HS := Lib.hid hs
  have HLV := Lib.hid hlv
  clear hl hK hA hs hlv
  go_enter Tryd.func17, Tryd.ntmps17
  go_wp2_with fail
  refine (begin_at 66 _).mono ?_
  rintro e w1 ⟨b, rfl, h1⟩
  have hX := ((Has.new w [.int .i64 level, .slice A kids.length c] 42).alloc (.cells #[.string ⟨#[]⟩, .string ⟨#[]⟩] 27))
  have hab : ∀ a, A = some a → kids ≠ [] → a.block ≠ b := by
    intro a ha hne
    rcases HA.out with h | ⟨ba, o, rfl, hcell⟩
    · have := flat_len lc_len kids; rw [h] at this; simp at this; exact absurd (List.eq_nil_of_length_eq_zero (by omega)) hne
    · have h0 : 0 < kids.length := List.length_pos_iff.2 hne
      have hbl : ba < w.heap.size := World.block_lt_of_cell? w _ (hcell _ _ (flat_get lc_len kids 0 0 h0 (by omega)))
      have hbb := h1.base
      simp only [size_alloc] at hbb
      cases ha
      show ba ≠ b
      omega
  have HAB := Lib.hid hab
  have hR := (Has.new (w.alloc (.cells #[.int .i64 level, .slice A kids.length c] 42)) [.string ⟨#[]⟩, .string ⟨#[]⟩] 27)
  have hA0 := (HA.out.alloc (.cells #[.int .i64 level, .slice A kids.length c] 42)).alloc (.cells #[.string ⟨#[]⟩, .string ⟨#[]⟩] 27)
  have hM0 := ((Mod.refl (fun _ => False) w).alloc (.cells #[.int .i64 level, .slice A kids.length c] 42)).alloc (.cells #[.string ⟨#[]⟩, .string ⟨#[]⟩] 27)
  simp only [size_alloc] at hR
  generalize hw0 : (w.alloc _).alloc _ = w0 at h1 hX hR hA0 hM0
  have HX := Lib.hid hX
  have HR := Lib.hid hR
  have HA0 := Lib.hid hA0
  have HM0 := Lib.hid hM0
  have x0 := (hX.keep h1.mod (fun h => h)).cell (o := 0) rfl
  have H1 := Lib.hid h1
  clear hX hR hA0 hM0 h1 HA hw0 hab
  go_wp2_with fail
  refine (int_at H1.out level 1 20 HLV.out (by simp)).mono ?_
  rintro e w2 ⟨rfl, h2, _⟩
  have x1 := (HX.out.keep h2.mod (fun h => h)).cell (o := 1) rfl
  have H2 := Lib.hid h2
  clear h2 x0
  go_wp2_with fail
  refine (int_at H2.out (kids.length : Int) 1 64 (by unfold In64; omega) (by have := HL.out; simp only [branchB, W.int, List.length_append, List.length_cons, List.length_nil] at this ⊢; omega)).mono ?_
  rintro e w3 ⟨rfl, h3, _⟩
  have x1 := (HX.out.keep h3.mod (fun h => h)).cell (o := 1) rfl
  have hpre : ∀ k, ((kids.take k).foldl (fun x a => linkW a x) (branchW0 level kids)).l.length ≤ 100000000 := fun k => by
    rw [fold_l linkW linkB linkW_l]
    have h1 := HL.out
    have h2 := flatMap_take linkB kids k
    simp only [branchB, branchW0, W.int, List.length_append, List.length_cons, List.length_nil] at h1 ⊢
    omega
  have HP := Lib.hid hpre
  have hid : ∀ p ∈ kids, p.id.size ≤ 100000000 ∧ p.last.size ≤ 100000000 := fun p hp => by
    have h1 := HL.out
    have h2 := flatMap_least linkB p kids hp
    have h3 := encT_least p.last
    have e : p.id.data.toList.length = p.id.size := by simp
    simp only [branchB, linkB, List.length_append, List.length_cons] at h1 h2
    omega
  have HI := Lib.hid hid
  have H3 : Hid (At w0 b (branchW0 level kids) w3) := Lib.hid h3
  clear h3 hpre hid
  go_wp2_with fail
  go_loopw [20] (fun i wr => ∃ (k : Nat), i = .int .i64 k ∧ k ≤ kids.length ∧ Hid (At w0 b ((kids.take k).foldl (fun x a => linkW a x) (branchW0 level kids)) wr)) (fun i _ => kids.length - (intOf i).toNat)
  case atStart => exact ⟨0, by go_num, by omega, H3⟩
  case round =>
    obtain ⟨k, rfl, hk, H⟩ := hrel
    by_cases hlt : k < kids.length
    · have i1 : (k : Int) < (kids.length : Int) := by omega
      rcases HA0.out.keep H.out.mod (fun _ _ h => h) with h | ⟨ba, o, rfl, hcell⟩
      · have := flat_len lc_len kids; rw [h] at this; simp at this; omega
      have y0 := hcell _ _ (flat_get lc_len kids k 0 hlt (by omega))
      have y1 := hcell _ _ (flat_get lc_len kids k 1 hlt (by omega))
      have y2 := hcell _ _ (flat_get lc_len kids k 2 hlt (by omega))
      rw [Nat.add_zero] at y0
      rw [← Nat.add_assoc] at y1 y2
      have hbl : ba < wr.heap.size := World.block_lt_of_cell? wr _ y0
      have hin := HS.out kids[k] (List.getElem_mem hlt)
      have hii := HI.out kids[k] (List.getElem_mem hlt)
      have HT := Lib.hid (take_fold linkW kids (branchW0 level kids) k hlt)
      have hpk := HP.out k
      have HPK := Lib.hid hpk
      have hpk1 := HP.out (k + 1)
      rw [HT.out] at hpk1
      have HPK1 := Lib.hid hpk1
      generalize kids[k] = p at *
      have HIN := Lib.hid hin
      have HII := Lib.hid hii
      generalize (kids.take k).foldl (fun x a => linkW a x) (branchW0 level kids) = xk at *
      clear hcell hpk hpk1 hin hii HAB
      go_wp2_with fail
      refine (text_at (H.out.alloc _) p.last 1 64 HII.out.2 HPK.out).mono ?_
      rintro e w4 ⟨rfl, h4, hk4⟩
      have hp4 := hk4 _ _ _ (Has.new wr [.string p.last, .string p.id, .int .i64 p.many] _) (by have := H.out.ex.choose_spec.has.lt; omega) (by decide)
      have z1 := hp4.cell (o := 1) rfl
      have hb4 : wr.heap.size ≠ b := by have := H.out.ex.choose_spec.has.lt; omega
      have HP4 := Lib.hid hp4
      have H4 := Lib.hid h4
      clear h4 hk4 hp4
      go_wp2_with fail
      refine (id_at H4.out p.id HII.out.1 ?_).mono ?_
      · have h1 := HPK1.out
        rw [linkW_l] at h1
        simp only [linkB, W.text, List.length_append] at h1 ⊢
        omega
      rintro e w6 ⟨rfl, h6, hk6⟩
      have z2 := (hk6 _ _ _ HP4.out hb4 (by decide)).cell (o := 2) rfl
      have H6 := Lib.hid h6
      clear h6 hk6
      go_wp2_with fail
      refine (int_at H6.out p.many 1 4096 HIN.out ?_).mono ?_
      · have h1 := HPK1.out
        rw [linkW_l] at h1
        simp only [linkB, W.id, W.text, List.length_append] at h1 ⊢
        omega
      rintro e w5 ⟨rfl, h5, _⟩
      have H5 : Hid (At w0 b (linkW p xk) w5) := Lib.hid h5
      clear h5
      go_wp2_with fail
      go_roundw
      case rel => exact ⟨k + 1, by go_num, by omega, Lib.hid (by rw [HT.out]; exact H5.out)⟩
      case measure => simp [intOf]; omega
    · have hkl : k = kids.length := by omega
      have i1 : ¬ (k : Int) < (kids.length : Int) := by omega
      have h6 := H.out
      rw [hkl, List.take_length] at h6
      have x1 := (HX.out.keep h6.mod (fun h => h)).cell (o := 1) rfl
      have H6 := Lib.hid h6
      clear h6 H hkl
      go_wp2_with fail
      refine (risingL_at H6.out A c kids (HA0.out.keep H6.out.mod (fun _ _ h => h)) HAB.out hc).mono ?_
      rintro e w9 ⟨rfl, h9, _⟩
      have x1 := (HX.out.keep h9.mod (fun h => h)).cell (o := 1) rfl
      have H9 := Lib.hid h9
      clear h9
      go_wp2_with fail
      refine (sumL_at H9.out A c kids 4096 (HA0.out.keep H9.out.mod (fun _ _ h => h)) hc (by omega) HS.out).mono ?_
      rintro e w7 ⟨rfl, h7, _⟩
      have h7 : At w0 b (branchW level kids) w7 := h7
      have hO := object_at h7 (HK.out.keep (Mod.trans HM0.out h7.mod (fun _ _ h => h)) (fun h => h)) (fun hb => by rw [branchW_bad] at hb; rw [branchW_l]; exact branch_len level kids HLV.out HS.out (by simpa using hb))
      rw [branchW_l, branchW_bad] at hO
      have H7 := Lib.hid h7.mod
      clear h7
      cases hr : rightBranch level kids with
      | true =>
        rw [hr, Bool.not_true] at hO
        have HR' := Lib.hid hr
        have HO := Lib.hid hO
        clear hO hr
        go_wp2_with fail
        refine HO.out.mono ?_
        rintro e w8 ⟨rfl, hm8⟩
        have hm8' := Mod.trans H7.out hm8 (fun _ _ h => h)
        have hr8 := HR.out.keep hm8' (fun h => h)
        have z0 := hr8.cell (o := 0) rfl
        have z1 := hr8.cell (o := 1) rfl
        have k0 := hr8.frozen 0
        have k1 := hr8.frozen 1
        have HM8 := Lib.hid (Mod.trans HM0.out hm8' (fun _ _ h => h))
        rw [putV_f]
        clear hr8 hm8 hm8'
        go_wp2_with fail
        refine bodyPost_ret (v := putV (branchB level kids) false) (by simp [results, Tryd.results17, go_sem, putV_f, z0, z1]) rfl ⟨by rw [HR'.out]; rfl, ?_⟩
        exact (HM8.out.setCell (p := ⟨w.heap.size + 1, 0, none⟩) (.inr (by simp)) _).setCell (p := ⟨w.heap.size + 1, 1, none⟩) (.inr (by simp)) _
      | false =>
        rw [hr, Bool.not_false] at hO
        have HR' := Lib.hid hr
        have HO := Lib.hid hO
        clear hO hr
        go_wp2_with fail
        refine HO.out.mono ?_
        rintro e w8 ⟨rfl, hm8⟩
        have hm8' := Mod.trans H7.out hm8 (fun _ _ h => h)
        have hr8 := HR.out.keep hm8' (fun h => h)
        have z0 := hr8.cell (o := 0) rfl
        have z1 := hr8.cell (o := 1) rfl
        have k0 := hr8.frozen 0
        have k1 := hr8.frozen 1
        have HM8 := Lib.hid (Mod.trans HM0.out hm8' (fun _ _ h => h))
        rw [putV_t]
        clear hr8 hm8 hm8'
        go_wp2_with fail
        refine bodyPost_ret (v := putV (branchB level kids) true) (by simp [results, Tryd.results17, go_sem, putV_t, z0, z1]) rfl ⟨by rw [HR'.out]; rfl, ?_⟩
        exact (HM8.out.setCell (p := ⟨w.heap.size + 1, 0, none⟩) (.inr (by simp)) _).setCell (p := ⟨w.heap.size + 1, 1, none⟩) (.inr (by simp)) _
end Obj
end Go.Proofs.YtenamjldkaggcaaDoor
