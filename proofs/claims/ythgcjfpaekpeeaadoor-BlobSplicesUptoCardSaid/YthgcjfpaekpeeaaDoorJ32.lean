/- Joined texts: BlobO. -/
import Derived.Test.YthgcjfpaekpeeaaDoorJ31
/- The walk of the reference's above: the next level. -/
namespace Go.Proofs.YthgcjfpaekpeeaaDoor
set_option linter.unusedVariables false
set_option linter.unusedSimpArgs false
open Go.RowKit K Wire Go.Maps
namespace Blob
open Go.Proofs.YthgcjfpaekpeeaaDoor.Obj

theorem PartsOk.left {a b : List Part} (h : PartsOk (a ++ b)) : PartsOk a := by have := (h.take a.length).1; rwa [List.take_left] at this
theorem PartsOk.right {a b : List Part} (h : PartsOk (a ++ b)) : PartsOk b := by have := (h.take a.length).2; rwa [List.drop_left] at this
structure RaIs (level : Int) (l : List Part) (w : World) (k : Nat) (P O : Value) (sz : Int) (wr : World) : Prop where
  ex : ∃ (done : List (List Part)) (acc : List Part) (va : Value), gr [] l = done ++ gr acc (l.drop k) ∧ Has wr w.heap.size [.int .i64 level, va] 96 ∧
    wr.ownsRow w.heap.size 25 2 va acc.length (acc.flatMap pc) ∧ wr.ownsRow w.heap.size 25 2 P done.length ((done.map (fanPart level)).flatMap pc) ∧
    wr.ownsRow w.heap.size 60 2 O done.length ((done.map (fanOb level)).flatMap oc) ∧ sz = sizes acc ∧ (∀ g, va.ownBlock = some g → P.ownBlock ≠ some g) ∧ acc.length ≤ 31 ∧ done.length + acc.length ≤ k ∧ PartsOk (acc ++ l.drop k) ∧ (k = l.length → acc = [])
  mod : Mod (fun _ => False) w wr

set_option maxRecDepth 100000 in
set_option maxHeartbeats 8000000 in
theorem rAbove_calls (level : Int) (A : Option Addr) (c : Nat) (l : List Part) (w : World) (hA : Cells w A (l.flatMap pc)) (hlv : 1 ≤ level ∧ level ≤ 20) (hl : PartsOk l) (hn : l.length ≤ 450000) :
    Calls Tryd.prog 28 #[.slice A l.length c, .int .i64 level] w fun e w' => ∃ P O, e = .returned (.tuple #[P, O]) ∧
      w'.ownsRow w.heap.size 25 2 P (gr [] l).length (((gr [] l).map (fanPart level)).flatMap pc) ∧ w'.ownsRow w.heap.size 60 2 O (gr [] l).length (((gr [] l).map (fanOb level)).flatMap oc) ∧ Mod (fun _ => False) w w' := by
  have hm0 := (Mod.refl (fun _ => False) w).alloc (.cells #[.int .i64 level, .slice none 0 0] 96)
  have h0 : RaIs level l w 0 (.slice none 0 0) (.slice none 0 0) 0 (w.alloc (.cells #[.int .i64 level, .slice none 0 0] 96)) :=
    ⟨⟨[], [], .slice none 0 0, rfl, Has.new w _ _, World.ownsRow_nil _ _ _ _, World.ownsRow_nil _ _ _ _, World.ownsRow_nil _ _ _ _, rfl, (fun g h => by cases h), by simp, by simp, hl, fun _ => rfl⟩, hm0⟩
  have H0 := Lib.hid h0
  have HA := Lib.hid hA
  clear h0 hm0 hA hl
  go_enter Tryd.func28, Tryd.ntmps28
  go_wp2_with fail
  go_loopw [6, 7, 9, 10] (fun P O s i wr => ∃ (k : Nat) (sz : Int), i = .int .i64 k ∧ s = .int .i64 sz ∧ k ≤ l.length ∧ Hid (RaIs level l w k P O sz wr)) (fun _ _ _ i _ => l.length - (intOf i).toNat)
  case atStart => exact ⟨0, 0, by go_num, rfl, by omega, H0⟩
  case round =>
    obtain ⟨k, sz, rfl, rfl, hk, HX⟩ := hrel
    by_cases hlt : k < l.length
    · have i1 : (k : Int) < (l.length : Int) := by omega
      have i0 : (0 : Int) ≤ (k : Int) := by omega
      obtain ⟨done, acc, va, hgr, hbox, hoa, hop, hoo, hsz, hap, hal, hdl, hok, hemp⟩ := HX.out.ex
      rcases HA.out with h | ⟨ba, bo, rfl, hcell⟩
      · have := flat_len pc_len l; rw [h] at this; simp at this; omega
      have x0 := hcell _ _ (flat_get pc_len l k 0 hlt (by omega))
      have x1 := hcell _ _ (flat_get pc_len l k 1 hlt (by omega))
      rw [Nat.add_zero] at x0
      rw [← Nat.add_assoc] at x1
      have hba : ba < w.heap.size := World.block_lt_of_cell? w _ x0
      have hm := HX.out.mod
      rw [List.drop_eq_getElem_cons hlt] at hgr hok
      obtain ⟨p, hp⟩ : ∃ p, l[k] = p := ⟨_, rfl⟩
      rw [hp] at x0 x1 hgr hok
      have hok2 : PartsOk ((acc ++ [p]) ++ l.drop (k + 1)) := by simpa using hok
      have hokl := hok2.left
      have hsum := hokl.sum
      have hsp := hokl.one p (by simp)
      have hszn := sizes_nonneg (l := acc) (fun q hq => hokl.one q (by simp [hq]))
      have hsa : sizes (acc ++ [p]) = sz + p.size := by rw [sizes_append, hsz]; simp [sizes]
      rw [hsa] at hsum
      rw [← hsz] at hszn
      have hs1 := hsp.1
      have hsid := hsp.2
      have x0r := (hm.cell (p := ⟨ba, bo + k * 2, none⟩) hba (fun h => h)).trans x0
      have x1r := (hm.cell (p := ⟨ba, bo + k * 2 + 1, none⟩) hba (fun h => h)).trans x1
      have hbar : ba < wr.heap.size := Nat.lt_of_lt_of_le hba hm.size
      have hbx : w.heap.size < wr.heap.size := hbox.lt
      have hnb : ∀ g, (va.ownBlock = some g ∨ wr.heap.size ≤ g) → w.heap.size ≤ g := fun g h => by
        rcases h with h | h
        · exact (hoa.lt g h).1
        · omega
      have hnf : ¬ (va.ownBlock = some w.heap.size ∨ wr.heap.size ≤ w.heap.size) := by
        rintro (h | h)
        · exact absurd rfl (has_ne hbox (own_row hoa h) (by decide))
        · omega
      have fv0 := fun (w' : World) (mm : Mod (fun g => va.ownBlock = some g ∨ wr.heap.size ≤ g) wr.drew w') => (mm.cell (p := ⟨w.heap.size, 1, none⟩) hbx hnf).trans (hbox.cell (o := 1) rfl)
      have fv1 := fun (w' : World) (mm : Mod (fun g => va.ownBlock = some g ∨ wr.heap.size ≤ g) wr.drew w') => (mm.cell (p := ⟨ba, bo + k * 2, none⟩) hbar (fun h => by have := hnb _ h; dsimp only at this; omega)).trans x0r
      have fv2 := fun (w' : World) (mm : Mod (fun g => va.ownBlock = some g ∨ wr.heap.size ≤ g) wr.drew w') => (mm.cell (p := ⟨ba, bo + k * 2 + 1, none⟩) hbar (fun h => by have := hnb _ h; dsimp only at this; omega)).trans x1r
      have HGR := Lib.hid hgr
      have HOK := Lib.hid hok2
      have HP := Lib.hid hop
      have HO := Lib.hid hoo
      have HOA := Lib.hid hoa
      have HBOX := Lib.hid hbox
      have HSA := Lib.hid hsa
      have HAP := Lib.hid hap
      have HM := Lib.hid hm
      have HNF := Lib.hid hnf
      have HNB := Lib.hid hnb
      clear hgr hok hok2 hokl hop hoo hoa hbox hsa hap hm hnf hnb hsz hcell hp hsp x0 x1
      go_wp2_with fail
      refine region_mT (fun g => va.ownBlock = some g ∨ wr.heap.size ≤ g) (by kernel_rfl) ?_
      simp only [List.length_cons, List.length_nil, List.replicate]
      refine take0T (v := ?v1) (oi := ?o1) 0 ?hi1 (by kernel_rfl) (by kernel_rfl) (by kernel_rfl) ?hq1 ?hy1 ?_
      case hi1 => (simp only [List.getElem?_toArray, List.getElem?_cons_zero, List.getElem?_cons_succ]; rfl)
      case hq1 => exact fun _ _ _ h => h
      case hy1 => first | (refine ry_notS ?_; rfl) | (refine ry_runS (by rfl) (fun w' hw' => ?_); go_simp; try rfl)
      simp only [Act.put, List.setIfInBounds_toArray, List.set_cons_zero, List.set_cons_succ]
      refine take0T (v := ?v2) (oi := ?o2) 1 ?hi2 (by kernel_rfl) (by kernel_rfl) (by kernel_rfl) ?hq2 ?hy2 ?_
      case hi2 => (simp only [List.getElem?_toArray, List.getElem?_cons_zero, List.getElem?_cons_succ]; rfl)
      case hq2 => exact fun _ _ _ h => h
      case hy2 => first | (refine ry_notS ?_; rfl) | (refine ry_runS (by rfl) (fun w' hw' => ?_); go_simp; try rfl)
      simp only [Act.put, List.setIfInBounds_toArray, List.set_cons_zero, List.set_cons_succ]
      refine take0T (v := ?v3) (oi := ?o3) 2 ?hi3 (by kernel_rfl) (by kernel_rfl) (by kernel_rfl) ?hq3 ?hy3 ?_
      case hi3 => (simp only [List.getElem?_toArray, List.getElem?_cons_zero, List.getElem?_cons_succ]; rfl)
      case hq3 => exact fun _ _ _ h => h
      case hy3 => first | (refine ry_notS ?_; rfl) | (refine ry_runS (by rfl) (fun w' hw' => ?_); go_simp; try rfl)
      simp only [Act.put, List.setIfInBounds_toArray, List.set_cons_zero, List.set_cons_succ]
      refine take0T (v := ?v4) (oi := ?o4) 3 ?hi4 (by kernel_rfl) (by kernel_rfl) (by kernel_rfl) ?hq4 ?hy4 ?_
      case hi4 => (simp only [List.getElem?_toArray, List.getElem?_cons_zero, List.getElem?_cons_succ]; rfl)
      case hq4 => exact fun _ _ _ h => h
      case hy4 => first | (refine ry_notS ?_; rfl) | (refine ry_runS (by rfl) (fun w' hw' => ?_); go_simp; try rfl)
      simp only [Act.put, List.setIfInBounds_toArray, List.set_cons_zero, List.set_cons_succ]
      refine take0T (v := ?v5) (oi := ?o5) 4 ?hi5 (by kernel_rfl) (by kernel_rfl) (by kernel_rfl) ?hq5 ?hy5 ?_
      case hi5 => (simp only [List.getElem?_toArray, List.getElem?_cons_zero, List.getElem?_cons_succ]; rfl)
      case hq5 => exact fun _ _ _ h => h
      case hy5 => first | (refine ry_notS ?_; rfl) | (refine ry_runS (by rfl) (fun w' hw' => ?_); go_simp; try rfl)
      simp only [Act.put, List.setIfInBounds_toArray, List.set_cons_zero, List.set_cons_succ]
      refine take0T (v := ?v6) (oi := ?o6) 5 ?hi6 (by kernel_rfl) (by kernel_rfl) (by kernel_rfl) ?hq6 ?hy6 ?_
      case hi6 => (simp only [List.getElem?_toArray, List.getElem?_cons_zero, List.getElem?_cons_succ]; rfl)
      case hq6 => exact fun _ _ _ h => h
      case hy6 => first | (refine ry_notS ?_; rfl) | (refine ry_runS (by rfl) (fun w' hw' => ?_); go_simp; try rfl)
      simp only [Act.put, List.setIfInBounds_toArray, List.set_cons_zero, List.set_cons_succ]
      refine step0T (o := ?o7) 6 (by kernel_rfl) ?hi7 ?hw7 ?_
      case hi7 => (simp only [List.getElem?_toArray, List.getElem?_cons_zero, List.getElem?_cons_succ]; rfl)
      case hw7 => rfl
      go_simp
      refine ⟨.inl (Mod.alloc (Mod.refl _ _) _), ?_⟩
      refine step0T (o := ?o8) 7 (by kernel_rfl) ?hi8 ?hw8 ?_
      case hi8 => (simp only [List.getElem?_toArray, List.getElem?_cons_zero, List.getElem?_cons_succ]; rfl)
      case hw8 => rfl
      refine appG_step (.tmp 23) (.tmp 28) part_t w.heap.size va acc.length (acc.flatMap pc) ((own_keep HOA.out ((Mod.refl (fun _ => False) wr).drew) (fun _ _ _ h => h)).alloc _) (some ⟨wr.heap.size, 0, none⟩) 1 1 [.string p.id, .int .i64 p.size] rfl rfl rfl rfl (cells_lit rfl) (by intro u hu; simp at hu; rcases hu with rfl | rfl <;> rfl) (by omega) (by unfold maxLen; omega) (by simp; omega) ?_
      intro v5 w5 ho5 hm5 hr5
      refine ⟨.inl (hm5.mono fun _ _ h => .inl h), ?_⟩
      have hM5 := Mod.trans (((Mod.refl (fun k => va.ownBlock = some k) wr).drew).alloc (.cells #[.string p.id, .int .i64 p.size] 25)) hm5 (fun _ _ h => h)
      have H5 := HBOX.out.keep hM5 (fun h => HNF.out (.inl h))
      obtain ⟨A5, c5, rfl, _, hcl5, _, _⟩ := own_cells ho5
      have q0 := H5.cell (o := 1) rfl
      have r0 := H5.frozen 1
      simp only [Act.put, List.setIfInBounds_toArray, List.set_cons_zero, List.set_cons_succ]
      refine take0T (v := ?v9) (oi := ?o9) 8 ?hi9 (by kernel_rfl) (by kernel_rfl) (by kernel_rfl) ?hq9 ?hy9 ?_
      case hi9 => (simp only [List.getElem?_toArray, List.getElem?_cons_zero, List.getElem?_cons_succ]; rfl)
      case hq9 => exact fun _ _ _ h => h
      case hy9 => first | (refine ry_notS ?_; rfl) | (refine ry_runS (by rfl) (fun w' hw' => ?_); go_simp; try rfl)
      simp only [Act.put, List.setIfInBounds_toArray, List.set_cons_zero, List.set_cons_succ]
      refine step0T (o := ?o10) 9 (by kernel_rfl) ?hi10 ?hw10 ?_
      case hi10 => (simp only [List.getElem?_toArray, List.getElem?_cons_zero, List.getElem?_cons_succ]; rfl)
      case hw10 => rfl
      go_simp
      refine ⟨.inr (by kernel_rfl), ?_⟩
      refine wpAnyT_done (by kernel_rfl) ?_
      clear fv0 fv1 fv2
      have hmS : Mod (fun g => g = w.heap.size) w5 (w5.setCell ⟨w.heap.size, 1, none⟩ (.slice A5 (acc.length + 1) c5)) := (Mod.refl (fun g => g = w.heap.size) w5).set1 rfl _ _
      have hbx6 := H5.set 1 (.slice A5 (acc.length + 1) c5)
      have hoa6 := own_store ho5 H5 (by decide) 1 (.slice A5 (acc.length + 1) c5)
      have hop5 := own_keep HP.out hM5 (fun g _ hg h => HAP.out g h hg)
      have hoo5 := own_keep HO.out hM5 (fun g _ hg h => by
        obtain ⟨cur, fr, h1⟩ := own_row HO.out hg
        obtain ⟨cur', fr', h2⟩ := own_row HOA.out h
        rw [h1] at h2; injection h2 with h2; injection h2 with _ h2; exact absurd h2 (by decide))
      have hop6 := own_store hop5 H5 (by decide) 1 (.slice A5 (acc.length + 1) c5)
      have hoo6 := own_store hoo5 H5 (by decide) 1 (.slice A5 (acc.length + 1) c5)
      have hap6 : ∀ g, (Value.slice A5 (acc.length + 1) c5).ownBlock = some g → u6.ownBlock ≠ some g := fun g hg hp => by
        rcases hr5 g hg with h | h
        · exact HAP.out g h hp
        · have := (HP.out.lt g hp).2; simp at h; omega
      have hM6 : Mod (fun g => w.heap.size ≤ g) wr (w5.setCell ⟨w.heap.size, 1, none⟩ (.slice A5 (acc.length + 1) c5)) := Mod.trans (hM5.mono fun g _ h => (HOA.out.lt g h).1) (hmS.mono (S' := fun g => w.heap.size ≤ g) fun g _ h => Nat.le_of_eq h.symm) (fun _ _ h => h)
      have hoob : ∀ g, u7.ownBlock = some g → g < wr.heap.size := fun g hg => (HO.out.lt g hg).2
      obtain ⟨w6, hw6⟩ : ∃ w6, w5.setCell ⟨w.heap.size, 1, none⟩ (.slice A5 (acc.length + 1) c5) = w6 := ⟨_, rfl⟩
      rw [hw6] at hbx6 hoa6 hop6 hoo6 hM6
      rw [hw6]
      have hbxs : w.heap.size < w6.heap.size := hbx6.lt
      have hx06 := (hM6.cell (p := ⟨ba, bo + k * 2, none⟩) hbar (by show ¬ w.heap.size ≤ ba; omega)).trans x0r
      have hx16 := (hM6.cell (p := ⟨ba, bo + k * 2 + 1, none⟩) hbar (by show ¬ w.heap.size ≤ ba; omega)).trans x1r
      have hba6 : ba < w6.heap.size := Nat.lt_of_lt_of_le hbar hM6.size
      obtain ⟨n, hnn⟩ : ∃ n, acc.length + 1 = n := ⟨_, rfl⟩
      rw [hnn] at hbx6 hoa6 hap6
      have hb6c := hbx6.cell (o := 1) rfl
      have hb6d := hbx6.cell (o := 0) rfl
      have gv0 := fun (w' : World) (mm : Mod0 w6.drew w') => ((Mod.of_drew_l mm).cell (p := ⟨w.heap.size, 1, none⟩) hbxs (fun h => h)).trans hb6c
      have gv1 := fun (w' : World) (mm : Mod0 w6.drew w') => ((Mod.of_drew_l mm).cell (p := ⟨ba, bo + k * 2, none⟩) hba6 (fun h => h)).trans hx06
      have HEN := Lib.hid (fun w1 => rEnds_calls n p.id w1 hsid (by omega))
      have HBX6 := Lib.hid hbx6
      have HOA6 := Lib.hid hoa6
      have HOP6 := Lib.hid hop6
      have HOO6 := Lib.hid hoo6
      have HAP6 := Lib.hid hap6
      have HM6 := Lib.hid hM6
      have HNN := Lib.hid hnn
      have HOOB := Lib.hid hoob
      clear hmS hbx6 hoa6 hop5 hoo5 hop6 hoo6 hap6 hM6 hw6 hM5 H5 ho5 hm5 hr5 q0 r0 hcl5 HP HO HAP HNF HNB hnn hoob x0r x1r HBOX
      go_wp2_with fail
      refine region_m (by kernel_rfl) ?_
      simp only [List.length_cons, List.length_nil, List.replicate]
      refine take0 (v := ?v11) (oi := ?o11) 0 ?hi11 (by kernel_rfl) (by kernel_rfl) (by kernel_rfl) ?hq11 ?hy11 ?_
      case hi11 => (simp only [List.getElem?_toArray, List.getElem?_cons_zero, List.getElem?_cons_succ]; rfl)
      case hq11 => exact fun _ _ _ h => h
      case hy11 => first | (refine ry_not ?_; rfl) | (refine ry_run (by rfl) (fun w' hw' => ?_); go_simp; try rfl)
      simp only [Act.put, List.setIfInBounds_toArray, List.set_cons_zero, List.set_cons_succ]
      refine take0 (v := ?v12) (oi := ?o12) 1 ?hi12 (by kernel_rfl) (by kernel_rfl) (by kernel_rfl) ?hq12 ?hy12 ?_
      case hi12 => (simp only [List.getElem?_toArray, List.getElem?_cons_zero, List.getElem?_cons_succ]; rfl)
      case hq12 => exact fun _ _ _ h => h
      case hy12 => first | (refine ry_not ?_; rfl) | (refine ry_run (by rfl) (fun w' hw' => ?_); go_simp; try rfl)
      simp only [Act.put, List.setIfInBounds_toArray, List.set_cons_zero, List.set_cons_succ]
      refine take0 (v := ?v13) (oi := ?o13) 2 ?hi13 (by kernel_rfl) (by kernel_rfl) (by kernel_rfl) ?hq13 ?hy13 ?_
      case hi13 => (simp only [List.getElem?_toArray, List.getElem?_cons_zero, List.getElem?_cons_succ]; rfl)
      case hq13 => exact fun _ _ _ h => h
      case hy13 => first | (refine ry_not ?_; rfl) | (refine ry_run (by rfl) (fun w' hw' => ?_); go_simp; try rfl)
      simp only [Act.put, List.setIfInBounds_toArray, List.set_cons_zero, List.set_cons_succ]
      refine take0 (v := ?v14) (oi := ?o14) 3 ?hi14 (by kernel_rfl) (by kernel_rfl) (by kernel_rfl) ?hq14 ?hy14 ?_
      case hi14 => (simp only [List.getElem?_toArray, List.getElem?_cons_zero, List.getElem?_cons_succ]; rfl)
      case hq14 => exact fun _ _ _ h => h
      case hy14 => first | (refine ry_not ?_; rfl) | (refine ry_run (by rfl) (fun w' hw' => ?_); go_simp; try rfl)
      simp only [Act.put, List.setIfInBounds_toArray, List.set_cons_zero, List.set_cons_succ]
      refine take0 (v := ?v15) (oi := ?o15) 4 ?hi15 (by kernel_rfl) (by kernel_rfl) (by kernel_rfl) ?hq15 ?hy15 ?_
      case hi15 => (simp only [List.getElem?_toArray, List.getElem?_cons_zero, List.getElem?_cons_succ]; rfl)
      case hq15 => exact fun _ _ _ h => h
      case hy15 => first | (refine ry_not ?_; rfl) | (refine ry_run (by rfl) (fun w' hw' => ?_); go_simp; try rfl)
      simp only [Act.put, List.setIfInBounds_toArray, List.set_cons_zero, List.set_cons_succ]
      refine take0 (v := ?v16) (oi := ?o16) 5 ?hi16 (by kernel_rfl) (by kernel_rfl) (by kernel_rfl) ?hq16 ?hy16 ?_
      case hi16 => (simp only [List.getElem?_toArray, List.getElem?_cons_zero, List.getElem?_cons_succ]; rfl)
      case hq16 => exact fun _ _ _ h => h
      case hy16 => first | (refine ry_not ?_; rfl) | (refine ry_run (by rfl) (fun w' hw' => ?_); go_simp; try rfl)
      simp only [Act.put, List.setIfInBounds_toArray, List.set_cons_zero, List.set_cons_succ]
      refine take0 (v := ?v17) (oi := ?o17) 6 ?hi17 (by kernel_rfl) (by kernel_rfl) (by kernel_rfl) ?hq17 ?hy17 ?_
      case hi17 => (simp only [List.getElem?_toArray, List.getElem?_cons_zero, List.getElem?_cons_succ]; rfl)
      case hq17 => exact fun _ _ _ h => h
      case hy17 => first | (refine ry_not ?_; rfl) | (refine ry_run (by rfl) (fun w' hw' => ?_); go_simp; try rfl)
      simp only [Act.put, List.setIfInBounds_toArray, List.set_cons_zero, List.set_cons_succ]
      refine take0 (v := ?v18) (oi := ?o18) 7 ?hi18 (by kernel_rfl) (by kernel_rfl) (by kernel_rfl) ?hq18 ?hy18 ?_
      case hi18 => (simp only [List.getElem?_toArray, List.getElem?_cons_zero, List.getElem?_cons_succ]; rfl)
      case hq18 => exact fun _ _ _ h => h
      case hy18 => first | (refine ry_not ?_; rfl) | (refine ry_run (by rfl) (fun w' hw' => ?_); go_simp; try rfl)
      simp only [Act.put, List.setIfInBounds_toArray, List.set_cons_zero, List.set_cons_succ]
      refine step0 (o := ?o19) 8 (by kernel_rfl) ?hi19 ?hw19 ?_
      case hi19 => (simp only [List.getElem?_toArray, List.getElem?_cons_zero, List.getElem?_cons_succ]; rfl)
      case hw19 => rfl
      go_simp
      refine (HEN.out _).mono ?_
      rintro e w7 ⟨rfl, hm7⟩
      refine ⟨.inl hm7, ?_⟩
      refine take0 (v := ?v20) (oi := ?o20) 9 ?hi20 (by kernel_rfl) (by kernel_rfl) (by kernel_rfl) ?hq20 ?hy20 ?_
      case hi20 => (simp only [List.getElem?_toArray, List.getElem?_cons_zero, List.getElem?_cons_succ]; rfl)
      case hq20 => exact fun _ _ _ h => h
      case hy20 => first | (refine ry_not ?_; rfl) | (refine ry_run (by rfl) (fun w' hw' => ?_); go_simp; try rfl)
      simp only [Act.put, List.setIfInBounds_toArray, List.set_cons_zero, List.set_cons_succ]
      refine wpAnyM_done (by kernel_rfl) ?_
      have hm7' := Mod.of_drew_l hm7
      have hbx7 := HBX6.out.keep hm7' (fun h => h)
      have HOP := Lib.hid (own_keep HOP6.out hm7' (fun _ _ _ h => h))
      have HOO := Lib.hid (own_keep HOO6.out hm7' (fun _ _ _ h => h))
      have hoa7 := own_keep HOA6.out hm7' (fun _ _ _ h => h)
      have HM7 := Lib.hid (Mod.trans HM.out (Mod.trans HM6.out hm7' (fun _ _ h => h.elim)) (fun i hi h => by omega))
      have HM67 := Lib.hid (Mod.trans HM6.out hm7' (fun _ _ h => h.elim))
      have hzr7 := HM67.out.size
      have HZ7 := Lib.hid hzr7
      have hb7c := hbx7.cell (o := 1) rfl
      have hb7d := hbx7.cell (o := 0) rfl
      have hlen : (acc ++ [p]).length = n := by rw [List.length_append, ← HNN.out]; rfl
      have hnpos : 1 ≤ n := by rw [← HNN.out]; omega
      have hn32 : n ≤ 32 := by rw [← HNN.out]; omega
      have hokl := HOK.out.left
      have hright := fan_right (level := level) hlv hokl.one hokl.sum (by rw [hlen]; omega)
      have hfl := fan_len (level := level) hlv hokl.one hokl.sum (by rw [hlen]; omega)
      have hF := rFan_calls level A5 c5 (acc ++ [p]) w7 (by
        obtain ⟨A9, c9, he, _, hcl9, _, _⟩ := own_cells hoa7
        injection he with he1 _ he2
        subst he1
        simpa [pc] using hcl9) (by omega) (by unfold In64; omega)
        (fun q hq => by have := hokl.one q hq; have := size_le (fun p hp => (hokl.one p hp).1) q hq; have := hokl.sum; unfold In64; omega) hfl
      have hfo := fanOb_of hright
      have hid := sha_size (fanB level (acc ++ [p]))
      simp only [hright, Bool.not_true, putV_f, hlen] at hF
      have hfp : fanPart level (acc ++ [p]) = ⟨(fanOb level (acc ++ [p])).id, sz + p.size⟩ := by unfold fanPart; rw [HSA.out]
      rw [hfo] at hfp
      unfold shaS at hfo hid hfp
      obtain ⟨ID, hID⟩ : ∃ ID : ByteArray, (⟨(Hash.sha (fanB level (acc ++ [p]))).toArray⟩ : ByteArray) = ID := ⟨_, rfl⟩
      obtain ⟨BY, hBY⟩ : ∃ BY : ByteArray, (⟨(fanB level (acc ++ [p])).toArray⟩ : ByteArray) = BY := ⟨_, rfl⟩
      simp only [hID, hBY] at hF hfo hid hfp
      have HFAN := Lib.hid hF
      have HFO := Lib.hid hfo
      have HFP := Lib.hid hfp
      have HBX := Lib.hid hbx7
      have HOA := Lib.hid hoa7
      clear hm7 hm7' hbx7 hoa7 hF hfo hfp hright hfl hokl hID hBY hid hb6c hb6d gv0 gv1 hx06 hx16 hzr7 HOP6 HOO6 HBX6 HOA6 HEN hlen
      have hoob2 := HOOB.out
      by_cases he : endsG n p.id = true
      · have HEND := Lib.hid (show endsG (acc.length + 1) p.id = true ∨ l.drop (k + 1) = [] from .inl (by rw [HNN.out]; exact he))
        simp only [he]
        clear he hoob2
        go_wp2_with fail
        refine HFAN.out.mono ?_
        rintro e w8 ⟨rfl, hm8⟩
        have hM8 := (Mod.trans HM7.out hm8 (fun _ _ h => h)).alloc (.cells #[.string ID, .string BY] 60)
        have hb9 := Has.new w8 [.string ID, .string BY] 60
        have hm9 := hm8.alloc (.cells #[.string ID, .string BY] 60)
        have y0 := hb9.cell (o := 0) rfl
        have y1 := hb9.cell (o := 1) rfl
        have hop9 := own_keep HOP.out hm9 (fun _ _ _ h => h)
        have hoo9 := own_keep HOO.out hm9 (fun _ _ _ h => h)
        have hbx9 := HBX.out.keep hm9 (fun h => h)
        have HB9 := Lib.hid hb9
        have HOP9 := Lib.hid hop9
        have HOO9 := Lib.hid hoo9
        have HBX9 := Lib.hid hbx9
        have HM9 := Lib.hid hM8
        have hbw : w.heap.size ≤ w8.heap.size + 1 := by have := hM8.size; simpa using this
        clear hb9 hop9 hoo9 hbx9 hM8 hm9 hm8 HFAN HM7
        go_wp2_with (first
          | (at_builtin
             (refine app (.tmp 60) (.tmp 65) part_t w.heap.size u6 done.length ((done.map (fanPart level)).flatMap pc) (HOP9.out.alloc _) ⟨w8.heap.size + 1, 0, none⟩ 1 1 [.string ID, .int .i64 (sz + p.size)] rfl rfl rfl (by simp [Act.eval]) rfl (by have := cells_new (w8.alloc (.cells #[.string ID, .string BY] 60)) [.string ID, .int .i64 (sz + p.size)] 25; rw [size_alloc] at this; exact this) (by intro u hu; simp at hu; rcases hu with rfl | rfl <;> rfl) (by omega) (by unfold maxLen; omega) (by simp; omega) ?_; intro v10 w10 ho10 hm10)
             have hm10b := Mod.trans ((Mod.refl (fun k => w.heap.size ≤ k ∧ u6.ownBlock = some k) (w8.alloc (.cells #[.string ID, .string BY] 60))).alloc (.cells #[.string ID, .int .i64 (sz + p.size)] 25)) hm10 (fun _ _ h => h)
             have HO10 := Lib.hid ho10
             have HM10 := Lib.hid hm10b
             have hb10 := HB9.out.keep hm10b (fun h => absurd rfl (has_ne HB9.out (own_row HOP9.out h.2) (by decide)))
             have HB10 := Lib.hid hb10
             have z0 := hb10.cell (o := 0) rfl
             have z1 := hb10.cell (o := 1) rfl
             have hnew2 := cells_new w10 [.string ID, .string BY] 60
             have hbw10 : w.heap.size ≤ w10.heap.size := by have := hm10b.size; rw [size_alloc] at this; omega
             clear hm10 ho10 hm10b hb10)
          | (at_builtin
             go_must (refine app (.tmp 67) (.tmp 69) objs_t w.heap.size u7 done.length ((done.map (fanOb level)).flatMap oc) ((own_keep HOO9.out HM10.out (fun k _ hk h => by
                obtain ⟨cur, fr, h1⟩ := own_row HOO9.out hk
                obtain ⟨cur', fr', h2⟩ := own_row HOP9.out h.2
                rw [h1] at h2; injection h2 with h2; injection h2 with _ h2; exact absurd h2 (by decide))).alloc _) ⟨w10.heap.size, 0, none⟩ 1 1 [.string ID, .string BY] rfl rfl rfl rfl rfl hnew2 (by intro u hu; simp at hu; rcases hu with rfl | rfl <;> rfl) (by omega) (by unfold maxLen; omega) (by simp; omega) ?_; intro v11 w11 ho11 hm11)
             have hm11b := Mod.trans ((Mod.refl (fun k => w.heap.size ≤ k ∧ u7.ownBlock = some k) w10).alloc (.cells #[.string ID, .string BY] 60)) hm11 (fun _ _ h => h)
             have hbx10 := HBX9.out.keep HM10.out (fun h => absurd rfl (has_ne HBX9.out (own_row HOP9.out h.2) (by decide)))
             have hoo10 := own_keep HOO9.out HM10.out (fun k _ hk h => by
                obtain ⟨cur, fr, h1⟩ := own_row HOO9.out hk
                obtain ⟨cur', fr', h2⟩ := own_row HOP9.out h.2
                rw [h1] at h2; injection h2 with h2; injection h2 with _ h2; exact absurd h2 (by decide))
             have hbx11 := hbx10.keep hm11b (fun h => absurd rfl (has_ne hbx10 (own_row hoo10 h.2) (by decide)))
             have hop11 := own_keep HO10.out hm11b (fun k _ hk h => by
                obtain ⟨cur, fr, h1⟩ := own_row HO10.out hk
                obtain ⟨cur', fr', h2⟩ := own_row hoo10 h.2
                rw [h1] at h2; injection h2 with h2; injection h2 with _ h2; exact absurd h2 (by decide))
             have HO11 := Lib.hid ho11
             have HBX11 := Lib.hid hbx11
             have HOP11 := Lib.hid hop11
             have HM11 := Lib.hid (Mod.trans (Mod.trans HM9.out HM10.out (fun i hi h => by have := h.1; omega)) hm11b (fun i hi h => by have := h.1; omega))
             have q1 := hbx11.cell (o := 1) rfl
             have qf := hbx11.frozen 1
             clear hm11 ho11 hm11b hbx10 hoo10 hbx11 hop11))
        have hnx : RaIs level l w (k + 1) v10 v11 0 (w11.setCell ⟨w.heap.size, 1, none⟩ (.slice none 0 0)) := by
          have hm12 : Mod (fun k => k = w.heap.size) w11 (w11.setCell ⟨w.heap.size, 1, none⟩ (.slice none 0 0)) := (Mod.refl (fun k => k = w.heap.size) w11).set1 rfl _ _
          refine ⟨⟨done ++ [acc ++ [p]], [], .slice none 0 0, ?_, HBX11.out.set 1 _, World.ownsRow_nil _ _ _ _, ?_, ?_, rfl, (fun g h => by cases h), by simp, by simp; omega, ?_, fun _ => rfl⟩, Mod.trans HM11.out hm12 (fun i hi h => by omega)⟩
          · rw [HGR.out, gr_end HEND.out]; simp
          · rw [List.map_append, List.flatMap_append, List.length_append]
            simp only [List.map_cons, List.map_nil, HFP.out, List.length_cons, List.length_nil]
            exact own_store HOP11.out HBX11.out (by decide) 1 (.slice none 0 0)
          · rw [List.map_append, List.flatMap_append, List.length_append]
            simp only [List.map_cons, List.map_nil, HFO.out, List.length_cons, List.length_nil]
            exact own_store HO11.out HBX11.out (by decide) 1 (.slice none 0 0)
          · exact HOK.out.right
        have HNX := Lib.hid hnx
        clear hnx
        go_roundw
        case rel => exact ⟨k + 1, 0, by go_num, rfl, by omega, HNX⟩
        case measure => simp [intOf]; omega
      · have he0 : endsG n p.id = false := by simpa using he
        simp only [he0]
        clear he
        by_cases hlast : k + 1 = l.length
        · have HEND := Lib.hid (show endsG (acc.length + 1) p.id = true ∨ l.drop (k + 1) = [] from .inr (by rw [hlast, List.drop_length]))
          have b1 : ((k : Int) == (l.length : Int) - 1) = true := by simp; omega
          clear he0 hoob2
          go_wp2_with fail
          refine HFAN.out.mono ?_
          rintro e w8 ⟨rfl, hm8⟩
          have hM8 := (Mod.trans HM7.out hm8 (fun _ _ h => h)).alloc (.cells #[.string ID, .string BY] 60)
          have hb9 := Has.new w8 [.string ID, .string BY] 60
          have hm9 := hm8.alloc (.cells #[.string ID, .string BY] 60)
          have y0 := hb9.cell (o := 0) rfl
          have y1 := hb9.cell (o := 1) rfl
          have hop9 := own_keep HOP.out hm9 (fun _ _ _ h => h)
          have hoo9 := own_keep HOO.out hm9 (fun _ _ _ h => h)
          have hbx9 := HBX.out.keep hm9 (fun h => h)
          have HB9 := Lib.hid hb9
          have HOP9 := Lib.hid hop9
          have HOO9 := Lib.hid hoo9
          have HBX9 := Lib.hid hbx9
          have HM9 := Lib.hid hM8
          have hbw : w.heap.size ≤ w8.heap.size + 1 := by have := hM8.size; simpa using this
          clear hb9 hop9 hoo9 hbx9 hM8 hm9 hm8 HFAN HM7
          go_wp2_with (first
            | (at_builtin
               (refine app (.tmp 60) (.tmp 65) part_t w.heap.size u6 done.length ((done.map (fanPart level)).flatMap pc) (HOP9.out.alloc _) ⟨w8.heap.size + 1, 0, none⟩ 1 1 [.string ID, .int .i64 (sz + p.size)] rfl rfl rfl (by simp [Act.eval]) rfl (by have := cells_new (w8.alloc (.cells #[.string ID, .string BY] 60)) [.string ID, .int .i64 (sz + p.size)] 25; rw [size_alloc] at this; exact this) (by intro u hu; simp at hu; rcases hu with rfl | rfl <;> rfl) (by omega) (by unfold maxLen; omega) (by simp; omega) ?_; intro v10 w10 ho10 hm10)
               have hm10b := Mod.trans ((Mod.refl (fun k => w.heap.size ≤ k ∧ u6.ownBlock = some k) (w8.alloc (.cells #[.string ID, .string BY] 60))).alloc (.cells #[.string ID, .int .i64 (sz + p.size)] 25)) hm10 (fun _ _ h => h)
               have HO10 := Lib.hid ho10
               have HM10 := Lib.hid hm10b
               have hb10 := HB9.out.keep hm10b (fun h => absurd rfl (has_ne HB9.out (own_row HOP9.out h.2) (by decide)))
               have HB10 := Lib.hid hb10
               have z0 := hb10.cell (o := 0) rfl
               have z1 := hb10.cell (o := 1) rfl
               have hnew2 := cells_new w10 [.string ID, .string BY] 60
               have hbw10 : w.heap.size ≤ w10.heap.size := by have := hm10b.size; rw [size_alloc] at this; omega
               clear hm10 ho10 hm10b hb10)
            | (at_builtin
               go_must (refine app (.tmp 67) (.tmp 69) objs_t w.heap.size u7 done.length ((done.map (fanOb level)).flatMap oc) ((own_keep HOO9.out HM10.out (fun k _ hk h => by
                  obtain ⟨cur, fr, h1⟩ := own_row HOO9.out hk
                  obtain ⟨cur', fr', h2⟩ := own_row HOP9.out h.2
                  rw [h1] at h2; injection h2 with h2; injection h2 with _ h2; exact absurd h2 (by decide))).alloc _) ⟨w10.heap.size, 0, none⟩ 1 1 [.string ID, .string BY] rfl rfl rfl rfl rfl hnew2 (by intro u hu; simp at hu; rcases hu with rfl | rfl <;> rfl) (by omega) (by unfold maxLen; omega) (by simp; omega) ?_; intro v11 w11 ho11 hm11)
               have hm11b := Mod.trans ((Mod.refl (fun k => w.heap.size ≤ k ∧ u7.ownBlock = some k) w10).alloc (.cells #[.string ID, .string BY] 60)) hm11 (fun _ _ h => h)
               have hbx10 := HBX9.out.keep HM10.out (fun h => absurd rfl (has_ne HBX9.out (own_row HOP9.out h.2) (by decide)))
               have hoo10 := own_keep HOO9.out HM10.out (fun k _ hk h => by
                  obtain ⟨cur, fr, h1⟩ := own_row HOO9.out hk
                  obtain ⟨cur', fr', h2⟩ := own_row HOP9.out h.2
                  rw [h1] at h2; injection h2 with h2; injection h2 with _ h2; exact absurd h2 (by decide))
               have hbx11 := hbx10.keep hm11b (fun h => absurd rfl (has_ne hbx10 (own_row hoo10 h.2) (by decide)))
               have hop11 := own_keep HO10.out hm11b (fun k _ hk h => by
                  obtain ⟨cur, fr, h1⟩ := own_row HO10.out hk
                  obtain ⟨cur', fr', h2⟩ := own_row hoo10 h.2
                  rw [h1] at h2; injection h2 with h2; injection h2 with _ h2; exact absurd h2 (by decide))
               have HO11 := Lib.hid ho11
               have HBX11 := Lib.hid hbx11
               have HOP11 := Lib.hid hop11
               have HM11 := Lib.hid (Mod.trans (Mod.trans HM9.out HM10.out (fun i hi h => by have := h.1; omega)) hm11b (fun i hi h => by have := h.1; omega))
               have q1 := hbx11.cell (o := 1) rfl
               have qf := hbx11.frozen 1
               clear hm11 ho11 hm11b hbx10 hoo10 hbx11 hop11))
          have hnx : RaIs level l w (k + 1) v10 v11 0 (w11.setCell ⟨w.heap.size, 1, none⟩ (.slice none 0 0)) := by
            have hm12 : Mod (fun k => k = w.heap.size) w11 (w11.setCell ⟨w.heap.size, 1, none⟩ (.slice none 0 0)) := (Mod.refl (fun k => k = w.heap.size) w11).set1 rfl _ _
            refine ⟨⟨done ++ [acc ++ [p]], [], .slice none 0 0, ?_, HBX11.out.set 1 _, World.ownsRow_nil _ _ _ _, ?_, ?_, rfl, (fun g h => by cases h), by simp, by simp; omega, ?_, fun _ => rfl⟩, Mod.trans HM11.out hm12 (fun i hi h => by omega)⟩
            · rw [HGR.out, gr_end HEND.out]; simp
            · rw [List.map_append, List.flatMap_append, List.length_append]
              simp only [List.map_cons, List.map_nil, HFP.out, List.length_cons, List.length_nil]
              exact own_store HOP11.out HBX11.out (by decide) 1 (.slice none 0 0)
            · rw [List.map_append, List.flatMap_append, List.length_append]
              simp only [List.map_cons, List.map_nil, HFO.out, List.length_cons, List.length_nil]
              exact own_store HO11.out HBX11.out (by decide) 1 (.slice none 0 0)
            · exact HOK.out.right
          have HNX := Lib.hid hnx
          clear hnx
          go_roundw
          case rel => exact ⟨k + 1, 0, by go_num, rfl, by omega, HNX⟩
          case measure => simp [intOf]; omega
        · have b1 : ((k : Int) == (l.length : Int) - 1) = false := by simp; omega
          have hnx : RaIs level l w (k + 1) u6 u7 (sz + p.size) w7 := by
            have hne : n ≠ 32 := ends_small he0
            refine ⟨⟨done, acc ++ [p], .slice A5 n c5, ?_, HBX.out, ?_, HOP.out, HOO.out, HSA.out.symm, HAP6.out, ?_, ?_, HOK.out, fun h => absurd h hlast⟩, HM7.out⟩
            · rw [HGR.out, gr_on (by rw [HNN.out]; exact he0)]
            · have := HOA.out
              rw [← HNN.out] at this ⊢
              simpa [pc] using this
            · simp; have := HNN.out; omega
            · simp; omega
          have HNX := Lib.hid hnx
          clear hnx hoob2 he0
          go_wp2_with fail
          go_roundw
          case rel => exact ⟨k + 1, sz + p.size, by go_num, rfl, by omega, HNX⟩
          case measure => simp [intOf]; omega
    · have i1 : ¬ (k : Int) < (l.length : Int) := by omega
      have hkl : k = l.length := by omega
      obtain ⟨done, acc, va, hgr, hbox, hoa, hop, hoo, hsz, hap, hal, hdl, hok, hemp⟩ := HX.out.ex
      obtain rfl := hemp hkl
      rw [hkl, List.drop_length, gr_nil] at hgr
      simp only [List.isEmpty_nil, if_true, List.append_nil] at hgr
      have HP := Lib.hid hop
      have HO := Lib.hid hoo
      have HGR := Lib.hid hgr
      clear hgr hbox hoa hop hoo hsz hap hal hdl hok hemp
      go_wp2_with fail
      go_ret2
      rw [HGR.out]
      exact ⟨u6, u7, rfl, HP.out, HO.out, HX.out.mod⟩
end Blob
end Go.Proofs.YthgcjfpaekpeeaaDoor
