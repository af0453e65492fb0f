/- The walk of object's Leaf. -/
import Derived.Test.YtenamjldkaggcaaDoorObjM
namespace Go.Proofs.YtenamjldkaggcaaDoor
set_option linter.unusedVariables false
set_option linter.unusedSimpArgs false
open Go.RowKit K Wire
namespace Obj

theorem encT_len (s : ByteArray) (h : s.size ≤ 1048576) : (encT s.data.toList).length ≤ 10 + s.size := by
  have e3 := enc_len (s.size : Int) (by unfold In64; omega)
  have e : s.data.toList.length = s.size := by simp
  simp only [encT, List.length_append, e]
  omega
theorem encT_least (s : ByteArray) : s.size ≤ (encT s.data.toList).length := by
  have e : s.data.toList.length = s.size := by simp
  simp only [encT, List.length_append, e]
  omega
theorem leaf_len (kids : List Pair) (h : rightLeaf kids = true) : (leafB kids).length ≤ 1048576 := by
  simp only [rightLeaf, Bool.and_eq_true] at h
  obtain ⟨⟨hn, ha⟩, _⟩ := h
  simp only [inR, Bool.and_eq_true, decide_eq_true_eq] at hn
  have h1 := flatMap_most pairB 212 kids fun p hp => by
    have h2 := List.all_eq_true.1 ha p hp
    simp only [pairOk, inR, Bool.and_eq_true, decide_eq_true_eq] at h2
    have := encT_len p.key (by omega)
    have := encT_len p.val (by omega)
    simp only [pairB, List.length_append]
    omega
  have := enc_len (kids.length : Int) (by unfold In64; omega)
  simp only [leafB, List.length_append, List.length_cons]
  omega
set_option maxRecDepth 100000 in
set_option maxHeartbeats 1000000 in
theorem leaf_calls (A : Option Addr) (c : Nat) (kids : List Pair) (w : World) (hK : Hash.Keys w) (hA : Cells w A (kids.flatMap kc)) (hc : kids.length ≤ 100000000) (hl : (leafB kids).length ≤ 100000000) :
    Calls Tryd.prog 15 #[.slice A kids.length c] w fun e w' => e = .returned (putV (leafB kids) (!rightLeaf kids)) ∧ Mod (fun _ => False) w w' := by
  have HL := Lib.hid hl
  have HK := Lib.hid hK
  have HA := Lib.hid hA
  clear hl hK hA
  go_enter Tryd.func15, Tryd.ntmps15
  go_wp2_with fail
  refine (begin_at 76 _).mono ?_
  rintro e w1 ⟨b, rfl, h1⟩
  have hR := Has.new w [.string ⟨#[]⟩, .string ⟨#[]⟩] 27
  have hA0 := HA.out.alloc (.cells #[.string ⟨#[]⟩, .string ⟨#[]⟩] 27)
  have hM0 := (Mod.refl (fun _ => False) w).alloc (.cells #[.string ⟨#[]⟩, .string ⟨#[]⟩] 27)
  have hab : ∀ a, A = some a → kids ≠ [] → a.block ≠ b := by
    intro a ha hne
    rcases HA.out with h | ⟨ba, o, rfl, hcell⟩
    · have := flat_len kc_len kids; rw [h] at this; simp at this; exact absurd (List.eq_nil_of_length_eq_zero (by omega)) hne
    · have h0 : 0 < kids.length := List.length_pos_iff.2 hne
      have hbl : ba < w.heap.size := World.block_lt_of_cell? w _ (hcell _ _ (flat_get kc_len kids 0 0 h0 (by omega)))
      have hbb := h1.base
      simp only [size_alloc] at hbb
      cases ha
      show ba ≠ b
      omega
  have HAB := Lib.hid hab
  generalize hw0 : w.alloc _ = w0 at h1 hR hA0 hM0
  have HR := Lib.hid hR
  have HA0 := Lib.hid hA0
  have HM0 := Lib.hid hM0
  have H1 := Lib.hid h1
  clear hR hA0 hM0 h1 HA hw0 hab
  go_wp2_with fail
  refine (int_at H1.out (kids.length : Int) 0 64 (by unfold In64; omega) (by simp)).mono ?_
  rintro e w3 ⟨rfl, h3, _⟩
  have hpre : ∀ k, ((kids.take k).foldl (fun x a => pairW a x) (leafW0 kids)).l.length ≤ 100000000 := fun k => by
    rw [fold_l pairW pairB pairW_l]
    have h1 := HL.out
    have h2 := flatMap_take pairB kids k
    simp only [leafB, leafW0, W.int, List.length_append, List.length_cons, List.length_nil] at h1 ⊢
    omega
  have HP := Lib.hid hpre
  have hid : ∀ p ∈ kids, p.key.size ≤ 100000000 ∧ p.val.size ≤ 100000000 := fun p hp => by
    have h1 := HL.out
    have h2 := flatMap_least pairB p kids hp
    have h3 := encT_least p.key
    have h4 := encT_least p.val
    simp only [leafB, pairB, List.length_append, List.length_cons] at h1 h2
    omega
  have HI := Lib.hid hid
  have H3 : Hid (At w0 b (leafW0 kids) w3) := Lib.hid h3
  clear h3 hpre hid
  go_wp2_with fail
  go_loopw [14] (fun i wr => ∃ (k : Nat), i = .int .i64 k ∧ k ≤ kids.length ∧ Hid (At w0 b ((kids.take k).foldl (fun x a => pairW a x) (leafW0 kids)) wr)) (fun i _ => kids.length - (intOf i).toNat)
  case atStart => exact ⟨0, by go_num, by omega, H3⟩
  case round =>
    obtain ⟨k, rfl, hk, H⟩ := hrel
    by_cases hlt : k < kids.length
    · have i1 : (k : Int) < (kids.length : Int) := by omega
      rcases HA0.out.keep H.out.mod (fun _ _ h => h) with h | ⟨ba, o, rfl, hcell⟩
      · have := flat_len kc_len kids; rw [h] at this; simp at this; omega
      have y0 := hcell _ _ (flat_get kc_len kids k 0 hlt (by omega))
      have y1 := hcell _ _ (flat_get kc_len kids k 1 hlt (by omega))
      rw [Nat.add_zero] at y0
      rw [← Nat.add_assoc] at y1
      have hbl : ba < wr.heap.size := World.block_lt_of_cell? wr _ y0
      have hii := HI.out kids[k] (List.getElem_mem hlt)
      have HT := Lib.hid (take_fold pairW kids (leafW0 kids) k hlt)
      have hpk := HP.out k
      have HPK := Lib.hid hpk
      have hpk1 := HP.out (k + 1)
      rw [HT.out] at hpk1
      have HPK1 := Lib.hid hpk1
      generalize kids[k] = p at *
      have HII := Lib.hid hii
      generalize (kids.take k).foldl (fun x a => pairW a x) (leafW0 kids) = xk at *
      clear hcell hpk hpk1 hii HAB
      go_wp2_with fail
      refine (text_at (H.out.alloc _) p.key 1 64 HII.out.1 HPK.out).mono ?_
      rintro e w4 ⟨rfl, h4, hk4⟩
      have z1 := (hk4 _ _ _ (Has.new wr [.string p.key, .string p.val] _) (by have := H.out.ex.choose_spec.has.lt; omega) (by decide)).cell (o := 1) rfl
      have H4 := Lib.hid h4
      clear h4 hk4
      go_wp2_with fail
      refine (text_at H4.out p.val 0 128 HII.out.2 ?_).mono ?_
      · have h1 := HPK1.out
        rw [pairW_l] at h1
        simp only [pairB, W.text, List.length_append] at h1 ⊢
        omega
      rintro e w5 ⟨rfl, h5, _⟩
      have H5 : Hid (At w0 b (pairW p xk) w5) := Lib.hid h5
      clear h5
      go_wp2_with fail
      go_roundw
      case rel => exact ⟨k + 1, by go_num, by omega, Lib.hid (by rw [HT.out]; exact H5.out)⟩
      case measure => simp [intOf]; omega
    · have hkl : k = kids.length := by omega
      have i1 : ¬ (k : Int) < (kids.length : Int) := by omega
      have h6 := H.out
      rw [hkl, List.take_length] at h6
      have H6 := Lib.hid h6
      clear h6 H hkl
      go_wp2_with fail
      refine (risingP_at H6.out A c kids (HA0.out.keep H6.out.mod (fun _ _ h => h)) HAB.out hc).mono ?_
      rintro e w7 ⟨rfl, h7, _⟩
      have h7 : At w0 b (leafW kids) w7 := h7
      have hO := object_at h7 (HK.out.keep (Mod.trans HM0.out h7.mod (fun _ _ h => h)) (fun h => h)) (fun hb => by rw [leafW_bad] at hb; rw [leafW_l]; exact leaf_len kids (by simpa using hb))
      rw [leafW_l, leafW_bad] at hO
      have H7 := Lib.hid h7.mod
      clear h7
      cases hr : rightLeaf kids with
      | true =>
        rw [hr, Bool.not_true] at hO
        have HR' := Lib.hid hr
        have HO := Lib.hid hO
        clear hO hr
        go_wp2_with fail
        refine HO.out.mono ?_
        rintro e w8 ⟨rfl, hm8⟩
        have hm8' := Mod.trans H7.out hm8 (fun _ _ h => h)
        have hr8 := HR.out.keep hm8' (fun h => h)
        have z0 := hr8.cell (o := 0) rfl
        have z1 := hr8.cell (o := 1) rfl
        have k0 := hr8.frozen 0
        have k1 := hr8.frozen 1
        have HM8 := Lib.hid (Mod.trans HM0.out hm8' (fun _ _ h => h))
        rw [putV_f]
        clear hr8 hm8 hm8'
        go_wp2_with fail
        refine bodyPost_ret (v := putV (leafB kids) false) (by simp [results, Tryd.results15, go_sem, putV_f, z0, z1]) rfl ⟨by rw [HR'.out]; rfl, ?_⟩
        exact (HM8.out.setCell (p := ⟨w.heap.size, 0, none⟩) (.inr (by simp)) _).setCell (p := ⟨w.heap.size, 1, none⟩) (.inr (by simp)) _
      | false =>
        rw [hr, Bool.not_false] at hO
        have HR' := Lib.hid hr
        have HO := Lib.hid hO
        clear hO hr
        go_wp2_with fail
        refine HO.out.mono ?_
        rintro e w8 ⟨rfl, hm8⟩
        have hm8' := Mod.trans H7.out hm8 (fun _ _ h => h)
        have hr8 := HR.out.keep hm8' (fun h => h)
        have z0 := hr8.cell (o := 0) rfl
        have z1 := hr8.cell (o := 1) rfl
        have k0 := hr8.frozen 0
        have k1 := hr8.frozen 1
        have HM8 := Lib.hid (Mod.trans HM0.out hm8' (fun _ _ h => h))
        rw [putV_t]
        clear hr8 hm8 hm8'
        go_wp2_with fail
        refine bodyPost_ret (v := putV (leafB kids) true) (by simp [results, Tryd.results15, go_sem, putV_t, z0, z1]) rfl ⟨by rw [HR'.out]; rfl, ?_⟩
        exact (HM8.out.setCell (p := ⟨w.heap.size, 0, none⟩) (.inr (by simp)) _).setCell (p := ⟨w.heap.size, 1, none⟩) (.inr (by simp)) _
end Obj
end Go.Proofs.YtenamjldkaggcaaDoor
