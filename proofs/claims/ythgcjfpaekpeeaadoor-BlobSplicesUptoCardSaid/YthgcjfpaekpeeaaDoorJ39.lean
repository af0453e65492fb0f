/- Joined texts: BlobV. -/
import Derived.Test.YthgcjfpaekpeeaaDoorJ38
/- The reference's walk goes to a file's bytes. -/
namespace Go.Proofs.YthgcjfpaekpeeaaDoor
set_option linter.unusedVariables false
set_option linter.unusedSimpArgs false
open Go.RowKit K Wire Go.Maps
namespace Blob
open Go.Proofs.YthgcjfpaekpeeaaDoor.Obj

theorem rowOf_trans {w w1 : World} {v v1 v2 : Value} (h : RowOf w v v1) (k : RowOf w1 v1 v2) (hs : w.heap.size ≤ w1.heap.size) : RowOf w v v2 := fun i hi => by
  rcases k i hi with h1 | h1
  · exact h i h1
  · exact .inr (by omega)
theorem own_blk {w : World} {B e s n m c b o q : Nat} {xs : List Value} {u : Value} (h : w.ownsRow B e s (.slice (some ⟨b, o, none⟩) m c) n xs) (_ : w.cell? ⟨b, q, none⟩ = some u) : (Value.slice (some ⟨b, o, none⟩) m c).ownBlock = some b := by
  rcases h.2 with ⟨h, _⟩ | ⟨g, cap, cur, h, _⟩
  · cases h
  · injection h with h1
    injection h1 with h1
    injection h1 with h1 h2 h3
    subst h1; subst h2
    rfl
/-- what holds between two kids -/
structure RgIs (B0 bw : Nat) (A : Option Addr) (c : Nat) (objs : List Ob) (lo hi L : Int) (kids : List Part) (at_ : Int) (x0 : BS) (b17 Bk : Nat) (v vp : Value) (w : World) (j : Nat) (a : Int) (wr : World) : Prop where
  ex : ∃ va vd vp' parts', WkIs B0 bw A c objs va vd vp' (rdF objs lo hi (L - 1).toNat (kids.take j) at_ x0).2.asked (rdF objs lo hi (L - 1).toNat (kids.take j) at_ x0).2.data parts' (rdF objs lo hi (L - 1).toNat (kids.take j) at_ x0).2.bad wr ∧
    (∀ g, v.ownBlock = some g → vp'.ownBlock ≠ some g) ∧ Mod (WS B0 vp w) w wr ∧ RowOf w vp vp'
  eqn : a = at_ + sizes (kids.take j)
  box : Has wr b17 [.int .i64 L, v] 96
  own : wr.ownsRow Bk 25 2 v kids.length (kids.flatMap pc)

set_option maxRecDepth 100000 in
set_option maxHeartbeats 8000000 in
theorem goes_step {B0 bw : Nat} {A : Option Addr} {c : Nat} {objs : List Ob} (hob : ObsOk objs) {lo hi : Int} (hlo : 0 ≤ lo ∧ lo ≤ hi ∧ hi ≤ 262144) (level : Int) (hlv : -1 ≤ level ∧ level ≤ 20)
    (IH : ∀ L : Int, 1 ≤ L → L ≤ 20 → (level < 0 ∨ L = level) → ∀ (p : Part) (at_ : Int) (x : BS) (va vd vp : Value) (parts : List Part) (w : World), Nums (L - 1) p at_ x → WkIs B0 bw A c objs va vd vp x.asked x.data parts x.bad w →
      Calls Tryd.prog 35 #[.pointer (some ⟨bw, 0, none⟩), .agg #[.string p.id, .int .i64 p.size], .int .i64 at_, .int .i64 lo, .int .i64 hi, .int .i64 (L - 1)] w (GoPost B0 bw A c objs vp (rdS objs lo hi (L - 1).toNat p at_ x) w))
    (p : Part) (at_ : Int) (x : BS) (va vd vp : Value) (parts : List Part) (w : World) (hn : Nums level p at_ x) (h : WkIs B0 bw A c objs va vd vp x.asked x.data parts x.bad w) :
    Calls Tryd.prog 35 #[.pointer (some ⟨bw, 0, none⟩), .agg #[.string p.id, .int .i64 p.size], .int .i64 at_, .int .i64 lo, .int .i64 hi, .int .i64 level] w (GoPost B0 bw A c objs vp (rdB objs lo hi level p at_ x) w) := by
  have hna := nums_ask hn hlv.1
  have HN := Lib.hid hn
  obtain ⟨hsz, hat, hend, _, hnd⟩ := hn
  have hm1 := (Mod.refl (fun _ => False) w).alloc (.cells #[.string p.id, .int .i64 p.size] 25)
  have hb1 := Has.new w [.string p.id, .int .i64 p.size] 25
  have h1 := h.keep0 hm1
  have x0 := hb1.cell (o := 0) rfl
  have x1 := hb1.cell (o := 1) rfl
  have x4 := h1.box.cell (o := 4) rfl
  obtain ⟨Y, hY⟩ : ∃ Y, rdB objs lo hi level p at_ x = Y := ⟨_, rfl⟩
  rw [hY]
  have HM1 := Lib.hid (hm1.mono (S' := WS B0 vp w) fun _ _ h => h.elim)
  have HB1 := Lib.hid hb1
  have HIH := Lib.hid IH
  have HY := Lib.hid hY
  have H1 := Lib.hid h1
  have hB0 : B0 ≤ w.heap.size := by have := h.box.lt; have := h.le; omega
  have HXM := Lib.hid h.many
  have HVP := Lib.hid (fun k hk => (h.op.lt k hk).2)
  have hwr : IntKind.i64.wrap (at_ + p.size) = at_ + p.size := by rw [IntKind.wrap_i64]; omega
  clear h hm1 hb1 h1 IH hY
  by_cases hb0 : x.bad = 0
  · by_cases hme : at_ < hi ∧ lo < at_ + p.size
    · obtain ⟨me1, me2⟩ := hme
      have me3 : ¬ hi ≤ at_ := by omega
      have me4 : ¬ at_ + p.size ≤ lo := by omega
      have b0 : (x.bad != 0) = false := by simpa using hb0
      have hy := HY.out
      rw [rdB_at hb0 ⟨me1, me2⟩] at hy
      have h1 := H1.out
      rw [hb0] at h1 x4
      have hnv : ∀ k, va.ownBlock = some k → B0 ≤ k := fun k hk => (h1.oa.lt k hk).1
      have hnb : ¬ (va.ownBlock = some bw ∨ w.heap.size + 1 ≤ bw) := by
        rintro (e | e)
        · exact box_ne h1.box h1.oa (by decide) e rfl
        · have := h1.box.lt; simp at this; omega
      have hnp : ¬ (va.ownBlock = some w.heap.size ∨ w.heap.size + 1 ≤ w.heap.size) := by
        rintro (e | e)
        · exact box_ne HB1.out h1.oa (by decide) e rfl
        · omega
      have fv0 := fun (w' : World) (mm : Mod (fun k => va.ownBlock = some k ∨ w.heap.size + 1 ≤ k) (w.alloc (.cells #[.string p.id, .int .i64 p.size] 25)).drew w') => (mm.cell (p := ⟨bw, 1, none⟩) h1.box.lt hnb).trans (h1.box.cell (o := 1) rfl)
      have fv1 := fun (w' : World) (mm : Mod (fun k => va.ownBlock = some k ∨ w.heap.size + 1 ≤ k) (w.alloc (.cells #[.string p.id, .int .i64 p.size] 25)).drew w') => (mm.cell (p := ⟨w.heap.size, 0, none⟩) HB1.out.lt hnp).trans (HB1.out.cell (o := 0) rfl)
      have HW1 := Lib.hid h1
      have HYY := Lib.hid hy
      have HNB := Lib.hid hnb
      have HNP := Lib.hid hnp
      clear hnv hnb hnp h1 hy H1
      simp only [hb0] at b0
      go_enter Tryd.func35, Tryd.ntmps35
      go_wp2_with fail
      refine region_mT (fun k => va.ownBlock = some k ∨ w.heap.size + 1 ≤ k) (by kernel_rfl) ?_
      simp only [List.length_cons, List.length_nil, List.replicate]
      refine take0T (v := ?v1) (oi := ?o1) 0 ?hi1 (by kernel_rfl) (by kernel_rfl) (by kernel_rfl) ?hq1 ?hy1 ?_
      case hi1 => (simp only [List.getElem?_toArray, List.getElem?_cons_zero, List.getElem?_cons_succ]; rfl)
      case hq1 => exact fun _ _ _ h => h
      case hy1 => first | (refine ry_notS ?_; rfl) | (refine ry_runS (by rfl) (fun w' hw' => ?_); go_simp; try rfl)
      simp only [Act.put, List.setIfInBounds_toArray, List.set_cons_zero, List.set_cons_succ]
      refine take0T (v := ?v2) (oi := ?o2) 1 ?hi2 (by kernel_rfl) (by kernel_rfl) (by kernel_rfl) ?hq2 ?hy2 ?_
      case hi2 => (simp only [List.getElem?_toArray, List.getElem?_cons_zero, List.getElem?_cons_succ]; rfl)
      case hq2 => exact fun _ _ _ h => h
      case hy2 => first | (refine ry_notS ?_; rfl) | (refine ry_runS (by rfl) (fun w' hw' => ?_); go_simp; try rfl)
      simp only [Act.put, List.setIfInBounds_toArray, List.set_cons_zero, List.set_cons_succ]
      refine take0T (v := ?v3) (oi := ?o3) 2 ?hi3 (by kernel_rfl) (by kernel_rfl) (by kernel_rfl) ?hq3 ?hy3 ?_
      case hi3 => (simp only [List.getElem?_toArray, List.getElem?_cons_zero, List.getElem?_cons_succ]; rfl)
      case hq3 => exact fun _ _ _ h => h
      case hy3 => first | (refine ry_notS ?_; rfl) | (refine ry_runS (by rfl) (fun w' hw' => ?_); go_simp; try rfl)
      simp only [Act.put, List.setIfInBounds_toArray, List.set_cons_zero, List.set_cons_succ]
      refine take0T (v := ?v4) (oi := ?o4) 3 ?hi4 (by kernel_rfl) (by kernel_rfl) (by kernel_rfl) ?hq4 ?hy4 ?_
      case hi4 => (simp only [List.getElem?_toArray, List.getElem?_cons_zero, List.getElem?_cons_succ]; rfl)
      case hq4 => exact fun _ _ _ h => h
      case hy4 => first | (refine ry_notS ?_; rfl) | (refine ry_runS (by rfl) (fun w' hw' => ?_); go_simp; try rfl)
      simp only [Act.put, List.setIfInBounds_toArray, List.set_cons_zero, List.set_cons_succ]
      refine take0T (v := ?v5) (oi := ?o5) 4 ?hi5 (by kernel_rfl) (by kernel_rfl) (by kernel_rfl) ?hq5 ?hy5 ?_
      case hi5 => (simp only [List.getElem?_toArray, List.getElem?_cons_zero, List.getElem?_cons_succ]; rfl)
      case hq5 => exact fun _ _ _ h => h
      case hy5 => first | (refine ry_notS ?_; rfl) | (refine ry_runS (by rfl) (fun w' hw' => ?_); go_simp; try rfl)
      simp only [Act.put, List.setIfInBounds_toArray, List.set_cons_zero, List.set_cons_succ]
      refine take0T (v := ?v6) (oi := ?o6) 5 ?hi6 (by kernel_rfl) (by kernel_rfl) (by kernel_rfl) ?hq6 ?hy6 ?_
      case hi6 => (simp only [List.getElem?_toArray, List.getElem?_cons_zero, List.getElem?_cons_succ]; rfl)
      case hq6 => exact fun _ _ _ h => h
      case hy6 => first | (refine ry_notS ?_; rfl) | (refine ry_runS (by rfl) (fun w' hw' => ?_); go_simp; try rfl)
      simp only [Act.put, List.setIfInBounds_toArray, List.set_cons_zero, List.set_cons_succ]
      refine take0T (v := ?v7) (oi := ?o7) 6 ?hi7 (by kernel_rfl) (by kernel_rfl) (by kernel_rfl) ?hq7 ?hy7 ?_
      case hi7 => (simp only [List.getElem?_toArray, List.getElem?_cons_zero, List.getElem?_cons_succ]; rfl)
      case hq7 => exact fun _ _ _ h => h
      case hy7 => first | (refine ry_notS ?_; rfl) | (refine ry_runS (by rfl) (fun w' hw' => ?_); go_simp; try rfl)
      simp only [Act.put, List.setIfInBounds_toArray, List.set_cons_zero, List.set_cons_succ]
      refine step0T (o := ?o8) 7 (by kernel_rfl) ?hi8 ?hw8 ?_
      case hi8 => (simp only [List.getElem?_toArray, List.getElem?_cons_zero, List.getElem?_cons_succ]; rfl)
      case hw8 => rfl
      go_simp
      refine ⟨.inl (Mod.alloc (Mod.refl _ _) _), ?_⟩
      refine step0T (o := ?o9) 8 (by kernel_rfl) ?hi9 ?hw9 ?_
      case hi9 => (simp only [List.getElem?_toArray, List.getElem?_cons_zero, List.getElem?_cons_succ]; rfl)
      case hw9 => rfl
      refine appG_step (.tmp 43) (.tmp 46) strs_t B0 va x.asked.length (x.asked.map .string) ((own_keep HW1.out.oa ((Mod.refl (fun _ => False) _).drew) (fun _ _ _ h => h)).alloc _) (some ⟨w.heap.size + 1, 0, none⟩) 1 1 [.string p.id] rfl rfl rfl rfl (cells_lit (by simp)) (by intro u hu; simp at hu; rcases hu with rfl; rfl) (by omega) (by unfold maxLen; omega) (by simp; omega) ?_
      intro v5 w5 ho5 hm5 hr5
      refine ⟨.inl (hm5.mono fun _ _ h => .inl h), ?_⟩
      have hM5 := Mod.trans (((Mod.refl (fun k => va.ownBlock = some k) (w.alloc (.cells #[.string p.id, .int .i64 p.size] 25))).drew).alloc (.cells #[.string p.id] 9)) hm5 (fun _ _ h => h)
      have hbx5 := HW1.out.box.keep hM5 (fun h => HNB.out (.inl h))
      obtain ⟨A5, c5, rfl, _, _, _, _⟩ := own_cells ho5
      have q0 := hbx5.cell (o := 1) rfl
      have r0 := hbx5.frozen 1
      simp only [Act.put, List.setIfInBounds_toArray, List.set_cons_zero, List.set_cons_succ]
      refine take0T (v := ?v10) (oi := ?o10) 9 ?hi10 (by kernel_rfl) (by kernel_rfl) (by kernel_rfl) ?hq10 ?hy10 ?_
      case hi10 => (simp only [List.getElem?_toArray, List.getElem?_cons_zero, List.getElem?_cons_succ]; rfl)
      case hq10 => exact fun _ _ _ h => h
      case hy10 => first | (refine ry_notS ?_; rfl) | (refine ry_runS (by rfl) (fun w' hw' => ?_); go_simp; try rfl)
      simp only [Act.put, List.setIfInBounds_toArray, List.set_cons_zero, List.set_cons_succ]
      refine take0T (v := ?v11) (oi := ?o11) 10 ?hi11 (by kernel_rfl) (by kernel_rfl) (by kernel_rfl) ?hq11 ?hy11 ?_
      case hi11 => (simp only [List.getElem?_toArray, List.getElem?_cons_zero, List.getElem?_cons_succ]; rfl)
      case hq11 => exact fun _ _ _ h => h
      case hy11 => first | (refine ry_notS ?_; rfl) | (refine ry_runS (by rfl) (fun w' hw' => ?_); go_simp; try rfl)
      simp only [Act.put, List.setIfInBounds_toArray, List.set_cons_zero, List.set_cons_succ]
      refine step0T (o := ?o12) 11 (by kernel_rfl) ?hi12 ?hw12 ?_
      case hi12 => (simp only [List.getElem?_toArray, List.getElem?_cons_zero, List.getElem?_cons_succ]; rfl)
      case hw12 => rfl
      go_simp
      refine ⟨.inr (by kernel_rfl), ?_⟩
      refine wpAnyT_done (by kernel_rfl) ?_
      clear fv0 fv1
      have hwp := HW1.out.putA p.id hM5 ho5
      have hpb5 := HB1.out.keep hM5 (fun h => HNP.out (.inl h))
      have hpb6 := hpb5.other (p := ⟨bw, 1, none⟩) (has_ne2 hbx5 hpb5 (by decide)) (.slice A5 (x.asked.length + 1) c5)
      obtain ⟨w6, hw6⟩ : ∃ w6, w5.setCell ⟨bw, 1, none⟩ (.slice A5 (x.asked.length + 1) c5) = w6 := ⟨_, rfl⟩
      rw [hw6] at hwp hpb6
      rw [hw6]
      have HW6 := Lib.hid hwp.1
      have HM6 := Lib.hid (WS.trans HM1.out hwp.2 (rowOf_same rfl))
      have HPB6 := Lib.hid hpb6
      have hzw : w.heap.size + 1 ≤ w6.heap.size := hpb6.lt
      have fv0 := fun (w' : World) (mm : Mod0 w6.drew w') => ((HW6.out.keep0 (Mod.of_drew_l mm)).box.cell (o := 0) rfl)
      have fv1 := fun (w' : World) (mm : Mod0 w6.drew w') => ((HPB6.out.keep (Mod.of_drew_l mm) (fun h => h)).cell (o := 0) rfl)
      clear hwp hpb5 hpb6 hw6 hM5 hm5 ho5 hr5 hbx5 q0 r0 HW1 HB1 HNB HNP x0 x1 x4
      go_wp2_with fail
      refine region_mT (fun _ => False) (by kernel_rfl) ?_
      simp only [List.length_cons, List.length_nil, List.replicate]
      refine take0T (v := ?v13) (oi := ?o13) 0 ?hi13 (by kernel_rfl) (by kernel_rfl) (by kernel_rfl) ?hq13 ?hy13 ?_
      case hi13 => (simp only [List.getElem?_toArray, List.getElem?_cons_zero, List.getElem?_cons_succ]; rfl)
      case hq13 => exact fun _ _ _ h => h
      case hy13 => first | (refine ry_notS ?_; rfl) | (refine ry_runS (by rfl) (fun w' hw' => ?_); go_simp; try rfl)
      simp only [Act.put, List.setIfInBounds_toArray, List.set_cons_zero, List.set_cons_succ]
      refine take0T (v := ?v14) (oi := ?o14) 1 ?hi14 (by kernel_rfl) (by kernel_rfl) (by kernel_rfl) ?hq14 ?hy14 ?_
      case hi14 => (simp only [List.getElem?_toArray, List.getElem?_cons_zero, List.getElem?_cons_succ]; rfl)
      case hq14 => exact fun _ _ _ h => h
      case hy14 => first | (refine ry_notS ?_; rfl) | (refine ry_runS (by rfl) (fun w' hw' => ?_); go_simp; try rfl)
      simp only [Act.put, List.setIfInBounds_toArray, List.set_cons_zero, List.set_cons_succ]
      refine take0T (v := ?v15) (oi := ?o15) 2 ?hi15 (by kernel_rfl) (by kernel_rfl) (by kernel_rfl) ?hq15 ?hy15 ?_
      case hi15 => (simp only [List.getElem?_toArray, List.getElem?_cons_zero, List.getElem?_cons_succ]; rfl)
      case hq15 => exact fun _ _ _ h => h
      case hy15 => first | (refine ry_notS ?_; rfl) | (refine ry_runS (by rfl) (fun w' hw' => ?_); go_simp; try rfl)
      simp only [Act.put, List.setIfInBounds_toArray, List.set_cons_zero, List.set_cons_succ]
      refine take0T (v := ?v16) (oi := ?o16) 3 ?hi16 (by kernel_rfl) (by kernel_rfl) (by kernel_rfl) ?hq16 ?hy16 ?_
      case hi16 => (simp only [List.getElem?_toArray, List.getElem?_cons_zero, List.getElem?_cons_succ]; rfl)
      case hq16 => exact fun _ _ _ h => h
      case hy16 => first | (refine ry_notS ?_; rfl) | (refine ry_runS (by rfl) (fun w' hw' => ?_); go_simp; try rfl)
      simp only [Act.put, List.setIfInBounds_toArray, List.set_cons_zero, List.set_cons_succ]
      refine take0T (v := ?v17) (oi := ?o17) 4 ?hi17 (by kernel_rfl) (by kernel_rfl) (by kernel_rfl) ?hq17 ?hy17 ?_
      case hi17 => (simp only [List.getElem?_toArray, List.getElem?_cons_zero, List.getElem?_cons_succ]; rfl)
      case hq17 => exact fun _ _ _ h => h
      case hy17 => first | (refine ry_notS ?_; rfl) | (refine ry_runS (by rfl) (fun w' hw' => ?_); go_simp; try rfl)
      simp only [Act.put, List.setIfInBounds_toArray, List.set_cons_zero, List.set_cons_succ]
      refine take0T (v := ?v18) (oi := ?o18) 5 ?hi18 (by kernel_rfl) (by kernel_rfl) (by kernel_rfl) ?hq18 ?hy18 ?_
      case hi18 => (simp only [List.getElem?_toArray, List.getElem?_cons_zero, List.getElem?_cons_succ]; rfl)
      case hq18 => exact fun _ _ _ h => h
      case hy18 => first | (refine ry_notS ?_; rfl) | (refine ry_runS (by rfl) (fun w' hw' => ?_); go_simp; try rfl)
      simp only [Act.put, List.setIfInBounds_toArray, List.set_cons_zero, List.set_cons_succ]
      refine step0T (o := ?o19) 6 (by kernel_rfl) ?hi19 ?hw19 ?_
      case hi19 => (simp only [List.getElem?_toArray, List.getElem?_cons_zero, List.getElem?_cons_succ]; rfl)
      case hw19 => rfl
      go_simp
      refine (find_calls A c objs p.id _ (HW6.out.keep0 ((Mod.refl (fun _ => False) w6).drew)).row hob.many).mono ?_
      rintro e w7 ⟨rfl, rfl⟩
      refine ⟨.inl (Mod.refl _ _), ?_⟩
      refine take0T (v := ?v20) (oi := ?o20) 7 ?hi20 (by kernel_rfl) (by kernel_rfl) (by kernel_rfl) ?hq20 ?hy20 ?_
      case hi20 => (simp only [List.getElem?_toArray, List.getElem?_cons_zero, List.getElem?_cons_succ]; rfl)
      case hq20 => exact fun _ _ _ h => h
      case hy20 => first | (refine ry_notS ?_; rfl) | (refine ry_runS (by rfl) (fun w' hw' => ?_); go_simp; try rfl)
      simp only [Act.put, List.setIfInBounds_toArray, List.set_cons_zero, List.set_cons_succ]
      refine take0T (v := ?v21) (oi := ?o21) 8 ?hi21 (by kernel_rfl) (by kernel_rfl) (by kernel_rfl) ?hq21 ?hy21 ?_
      case hi21 => (simp only [List.getElem?_toArray, List.getElem?_cons_zero, List.getElem?_cons_succ]; rfl)
      case hq21 => exact fun _ _ _ h => h
      case hy21 => first | (refine ry_notS ?_; rfl) | (refine ry_runS (by rfl) (fun w' hw' => ?_); go_simp; try rfl)
      simp only [Act.put, List.setIfInBounds_toArray, List.set_cons_zero, List.set_cons_succ]
      refine take0T (v := ?v22) (oi := ?o22) 9 ?hi22 (by kernel_rfl) (by kernel_rfl) (by kernel_rfl) ?hq22 ?hy22 ?_
      case hi22 => (simp only [List.getElem?_toArray, List.getElem?_cons_zero, List.getElem?_cons_succ]; rfl)
      case hq22 => exact fun _ _ _ h => h
      case hy22 => first | (refine ry_notS ?_; rfl) | (refine ry_runS (by rfl) (fun w' hw' => ?_); go_simp; try rfl)
      simp only [Act.put, List.setIfInBounds_toArray, List.set_cons_zero, List.set_cons_succ]
      refine take0T (v := ?v23) (oi := ?o23) 10 ?hi23 (by kernel_rfl) (by kernel_rfl) (by kernel_rfl) ?hq23 ?hy23 ?_
      case hi23 => (simp only [List.getElem?_toArray, List.getElem?_cons_zero, List.getElem?_cons_succ]; rfl)
      case hq23 => exact fun _ _ _ h => h
      case hy23 => first | (refine ry_notS ?_; rfl) | (refine ry_runS (by rfl) (fun w' hw' => ?_); go_simp; try rfl)
      simp only [Act.put, List.setIfInBounds_toArray, List.set_cons_zero, List.set_cons_succ]
      refine take0T (v := ?v24) (oi := ?o24) 11 ?hi24 (by kernel_rfl) (by kernel_rfl) (by kernel_rfl) ?hq24 ?hy24 ?_
      case hi24 => (simp only [List.getElem?_toArray, List.getElem?_cons_zero, List.getElem?_cons_succ]; rfl)
      case hq24 => exact fun _ _ _ h => h
      case hy24 => first | (refine ry_notS ?_; rfl) | (refine ry_runS (by rfl) (fun w' hw' => ?_); go_simp; try rfl)
      simp only [Act.put, List.setIfInBounds_toArray, List.set_cons_zero, List.set_cons_succ]
      refine wpAnyT_done (by kernel_rfl) ?_
      clear fv0 fv1
      have hW7 := HW6.out.keep0 ((Mod.refl (fun _ => False) w6).drew)
      have hM7 := HM6.out.drew
      have hpb7 := HPB6.out.drew
      obtain ⟨w7, hw7⟩ : ∃ w7, w6.drew = w7 := ⟨_, rfl⟩
      rw [hw7] at hW7 hM7 hpb7
      rw [hw7]
      have hzw7 : w.heap.size + 1 ≤ w7.heap.size := hpb7.lt
      have HW7 := Lib.hid hW7
      have HM7 := Lib.hid hM7
      have HPB7 := Lib.hid hpb7
      have y1 := hpb7.cell (o := 1) rfl
      have y0 := hpb7.cell (o := 0) rfl
      clear hw7 hW7 hM7 hpb7 HW6 HM6 HPB6 hzw
      have hy := HYY.out
      unfold nodeOf at hy
      cases hf : findL objs p.id with
      | none =>
        rw [hf] at hy
        dsimp only at hy
        simp only [show gotE none = 3 from rfl, show gotB none = ⟨#[]⟩ from rfl]
        subst hy
        go_wp2_with fail
        refine (fail_calls 3 (HW7.out)).mono ?_
        rintro e w18 ⟨rfl, rfl⟩
        have hsb := WkIs.setBad (HW7.out) 3
        have HSB1 := Lib.hid hsb.1
        have HSB2 := Lib.hid (WS.trans (HM7.out) hsb.2 (rowOf_same rfl))
        clear hsb
        go_wp2_with fail
        first | go_end0 | refine bodyPost_ret (results_none rfl _ _ _) rfl ?_
        unfold GoPost
        exact ⟨rfl, _, _, _, _, HSB1.out, HSB2.out, rowOf_same rfl⟩
      | some b =>
        have hbs : b.size ≤ 100000000 := by obtain ⟨o, ho, hb⟩ := findL_mem hf; rw [← hb]; exact hob.small o ho
        rw [hf] at hy
        dsimp only at hy
        simp only [show gotE (some b) = 0 from rfl, show gotB (some b) = b from rfl]
        have HYB := Lib.hid hy
        clear hy
        go_wp2_with fail
        refine (refTakeChunk_calls b w7 hbs).mono ?_
        rintro e w8 ⟨rfl, hm8⟩
        unfold chunkT errV
        have hW8 := HW7.out.keep0 hm8
        have hpb8 := HPB7.out.keep hm8 (fun h => h)
        have HM8 := Lib.hid (Mod.trans HM7.out hm8 (fun _ _ h => h.elim))
        have hzw8 := Nat.le_trans hzw7 hm8.size
        have HW8 := Lib.hid hW8
        have HPB8 := Lib.hid hpb8
        have z1 := hpb8.cell (o := 1) rfl
        have z0 := hpb8.cell (o := 0) rfl
        clear hm8 hW8 hpb8 y0 y1 HW7 HM7 HPB7
        have hy := HYB.out
        unfold nodeB at hy
        cases hc : okChunk b with
        | true =>
          rw [if_pos hc] at hy
          have hb1 : 1 ≤ b.size := by
            have h2 : ChunkP b := by simpa [okChunk] using hc
            obtain ⟨h, _⟩ := h2; omega
          obtain ⟨S, hS⟩ : ∃ S, b.extract 1 b.size = S := ⟨_, rfl⟩
          have hsx : (S.size : Int) = (b.size : Int) - 1 := by rw [← hS, ByteArray.size_extract]; omega
          simp only [if_true, hS]
          rw [hS, ← hsx] at hy
          clear hS hc hsx HYB
          have hsiz : Hid ((S.size : Int) = p.size → (S.size : Int) = p.size) := Lib.hid id
          by_cases h1 : (S.size : Int) = p.size
          · have b1 : ((S.size : Int) == p.size) = true := by simpa using h1
            have b2 : ((S.size : Int) != p.size) = false := by simpa using h1
            have hsiz := Lib.hid h1
            by_cases h2 : level ≤ 0
            · rw [if_pos ⟨h1, h2⟩] at hy
              dsimp only at hy
              have h3 : ¬ 0 < level := by omega
              have hlp : parts.length + 1 ≤ 300000000 + (x.asked ++ [p.id]).length := by have := HW8.out.many; simp at this ⊢; have := HXM.out; omega
              have hnb : ¬ (vp.ownBlock = some bw ∨ w8.heap.size ≤ bw) := by
                rintro (e | e)
                · exact box_ne HW8.out.box HW8.out.op (by decide) e rfl
                · have := HW8.out.box.lt; omega
              have hnp : ¬ (vp.ownBlock = some w.heap.size ∨ w8.heap.size ≤ w.heap.size) := by
                rintro (e | e)
                · have := (HVP.out _ e); omega
                · omega
              have fv0 := fun (w' : World) (mm : Mod (fun k => vp.ownBlock = some k ∨ w8.heap.size ≤ k) w8.drew w') => (mm.cell (p := ⟨bw, 3, none⟩) HW8.out.box.lt hnb).trans (HW8.out.box.cell (o := 3) rfl)
              have fv1 := fun (w' : World) (mm : Mod (fun k => vp.ownBlock = some k ∨ w8.heap.size ≤ k) w8.drew w') => (mm.cell (p := ⟨w.heap.size, 0, none⟩) HPB8.out.lt hnp).trans z0
              have fv2 := fun (w' : World) (mm : Mod (fun k => vp.ownBlock = some k ∨ w8.heap.size ≤ k) w8.drew w') => (mm.cell (p := ⟨w.heap.size, 1, none⟩) HPB8.out.lt hnp).trans z1
              have hB8 : B0 ≤ w8.heap.size := by omega
              have hpl6 : parts.length ≤ 306000000 := by simp at hlp; omega
              have HNB := Lib.hid hnb
              have HNP := Lib.hid hnp
              have HLP := Lib.hid hlp
              have HYC := Lib.hid hy
              clear h1 hnb hnp hlp hy
              go_wp2_with fail
              refine region_mT (fun k => vp.ownBlock = some k ∨ w8.heap.size ≤ k) (by kernel_rfl) ?_
              simp only [List.length_cons, List.length_nil, List.replicate]
              refine take0T (v := ?v25) (oi := ?o25) 0 ?hi25 (by kernel_rfl) (by kernel_rfl) (by kernel_rfl) ?hq25 ?hy25 ?_
              case hi25 => (simp only [List.getElem?_toArray, List.getElem?_cons_zero, List.getElem?_cons_succ]; rfl)
              case hq25 => exact fun _ _ _ h => h
              case hy25 => first | (refine ry_notS ?_; rfl) | (refine ry_runS (by rfl) (fun w' hw' => ?_); go_simp; try rfl)
              simp only [Act.put, List.setIfInBounds_toArray, List.set_cons_zero, List.set_cons_succ]
              refine take0T (v := ?v26) (oi := ?o26) 1 ?hi26 (by kernel_rfl) (by kernel_rfl) (by kernel_rfl) ?hq26 ?hy26 ?_
              case hi26 => (simp only [List.getElem?_toArray, List.getElem?_cons_zero, List.getElem?_cons_succ]; rfl)
              case hq26 => exact fun _ _ _ h => h
              case hy26 => first | (refine ry_notS ?_; rfl) | (refine ry_runS (by rfl) (fun w' hw' => ?_); go_simp; try rfl)
              simp only [Act.put, List.setIfInBounds_toArray, List.set_cons_zero, List.set_cons_succ]
              refine take0T (v := ?v27) (oi := ?o27) 2 ?hi27 (by kernel_rfl) (by kernel_rfl) (by kernel_rfl) ?hq27 ?hy27 ?_
              case hi27 => (simp only [List.getElem?_toArray, List.getElem?_cons_zero, List.getElem?_cons_succ]; rfl)
              case hq27 => exact fun _ _ _ h => h
              case hy27 => first | (refine ry_notS ?_; rfl) | (refine ry_runS (by rfl) (fun w' hw' => ?_); go_simp; try rfl)
              simp only [Act.put, List.setIfInBounds_toArray, List.set_cons_zero, List.set_cons_succ]
              refine take0T (v := ?v28) (oi := ?o28) 3 ?hi28 (by kernel_rfl) (by kernel_rfl) (by kernel_rfl) ?hq28 ?hy28 ?_
              case hi28 => (simp only [List.getElem?_toArray, List.getElem?_cons_zero, List.getElem?_cons_succ]; rfl)
              case hq28 => exact fun _ _ _ h => h
              case hy28 => first | (refine ry_notS ?_; rfl) | (refine ry_runS (by rfl) (fun w' hw' => ?_); go_simp; try rfl)
              simp only [Act.put, List.setIfInBounds_toArray, List.set_cons_zero, List.set_cons_succ]
              refine take0T (v := ?v29) (oi := ?o29) 4 ?hi29 (by kernel_rfl) (by kernel_rfl) (by kernel_rfl) ?hq29 ?hy29 ?_
              case hi29 => (simp only [List.getElem?_toArray, List.getElem?_cons_zero, List.getElem?_cons_succ]; rfl)
              case hq29 => exact fun _ _ _ h => h
              case hy29 => first | (refine ry_notS ?_; rfl) | (refine ry_runS (by rfl) (fun w' hw' => ?_); go_simp; try rfl)
              simp only [Act.put, List.setIfInBounds_toArray, List.set_cons_zero, List.set_cons_succ]
              refine take0T (v := ?v30) (oi := ?o30) 5 ?hi30 (by kernel_rfl) (by kernel_rfl) (by kernel_rfl) ?hq30 ?hy30 ?_
              case hi30 => (simp only [List.getElem?_toArray, List.getElem?_cons_zero, List.getElem?_cons_succ]; rfl)
              case hq30 => exact fun _ _ _ h => h
              case hy30 => first | (refine ry_notS ?_; rfl) | (refine ry_runS (by rfl) (fun w' hw' => ?_); go_simp; try rfl)
              simp only [Act.put, List.setIfInBounds_toArray, List.set_cons_zero, List.set_cons_succ]
              refine step0T (o := ?o31) 6 (by kernel_rfl) ?hi31 ?hw31 ?_
              case hi31 => (simp only [List.getElem?_toArray, List.getElem?_cons_zero, List.getElem?_cons_succ]; rfl)
              case hw31 => rfl
              go_simp
              refine ⟨.inl (Mod.alloc (Mod.refl _ _) _), ?_⟩
              refine step0T (o := ?o32) 7 (by kernel_rfl) ?hi32 ?hw32 ?_
              case hi32 => (simp only [List.getElem?_toArray, List.getElem?_cons_zero, List.getElem?_cons_succ]; rfl)
              case hw32 => rfl
              refine appG_step (.tmp 87) (.tmp 89) part_t B0 vp parts.length (parts.flatMap pc) ((own_keep HW8.out.op ((Mod.refl (fun _ => False) _).drew) (fun _ _ _ h => h)).alloc _) (some ⟨w8.heap.size, 0, none⟩) 1 1 [.string p.id, .int .i64 p.size] rfl rfl rfl rfl (cells_lit rfl) (by intro u hu; simp at hu; rcases hu with rfl | rfl <;> rfl) (by omega) (by unfold maxLen; omega) (by simp; omega) ?_
              intro v9 w9 ho9 hm9 hr9
              refine ⟨.inl (hm9.mono fun _ _ h => .inl h), ?_⟩
              have hM9 := Mod.trans (((Mod.refl (fun k => vp.ownBlock = some k) w8).drew).alloc (.cells #[.string p.id, .int .i64 p.size] 25)) hm9 (fun _ _ h => h)
              have hbx9 := HW8.out.box.keep hM9 (fun h => HNB.out (.inl h))
              obtain ⟨A9, c9, rfl, _, _, _, _⟩ := own_cells ho9
              have q0 := hbx9.cell (o := 3) rfl
              have r0 := hbx9.frozen 3
              simp only [Act.put, List.setIfInBounds_toArray, List.set_cons_zero, List.set_cons_succ]
              refine take0T (v := ?v33) (oi := ?o33) 8 ?hi33 (by kernel_rfl) (by kernel_rfl) (by kernel_rfl) ?hq33 ?hy33 ?_
              case hi33 => (simp only [List.getElem?_toArray, List.getElem?_cons_zero, List.getElem?_cons_succ]; rfl)
              case hq33 => exact fun _ _ _ h => h
              case hy33 => first | (refine ry_notS ?_; rfl) | (refine ry_runS (by rfl) (fun w' hw' => ?_); go_simp; try rfl)
              simp only [Act.put, List.setIfInBounds_toArray, List.set_cons_zero, List.set_cons_succ]
              refine take0T (v := ?v34) (oi := ?o34) 9 ?hi34 (by kernel_rfl) (by kernel_rfl) (by kernel_rfl) ?hq34 ?hy34 ?_
              case hi34 => (simp only [List.getElem?_toArray, List.getElem?_cons_zero, List.getElem?_cons_succ]; rfl)
              case hq34 => exact fun _ _ _ h => h
              case hy34 => first | (refine ry_notS ?_; rfl) | (refine ry_runS (by rfl) (fun w' hw' => ?_); go_simp; try rfl)
              simp only [Act.put, List.setIfInBounds_toArray, List.set_cons_zero, List.set_cons_succ]
              refine step0T (o := ?o35) 10 (by kernel_rfl) ?hi35 ?hw35 ?_
              case hi35 => (simp only [List.getElem?_toArray, List.getElem?_cons_zero, List.getElem?_cons_succ]; rfl)
              case hw35 => rfl
              go_simp
              refine ⟨.inr (by kernel_rfl), ?_⟩
              refine wpAnyT_done (by kernel_rfl) ?_
              clear fv0 fv1 fv2
              have hwp := HW8.out.putP p hM9 ho9 HLP.out
              have hrw : RowOf w vp (.slice A9 (parts.length + 1) c9) := rowOf_later hr9 (by simp; omega)
              have hpb9 := HPB8.out.keep hM9 (fun h => HNP.out (.inl h))
              have hpb10 := hpb9.other (p := ⟨bw, 3, none⟩) (has_ne2 hbx9 hpb9 (by decide)) (.slice A9 (parts.length + 1) c9)
              obtain ⟨w10, hw10⟩ : ∃ w10, w9.setCell ⟨bw, 3, none⟩ (.slice A9 (parts.length + 1) c9) = w10 := ⟨_, rfl⟩
              rw [hw10] at hwp hpb10
              rw [hw10]
              have HW10 := Lib.hid hwp.1
              have HM10 := Lib.hid (WS.trans HM8.out hwp.2 (rowOf_same rfl))
              have HPB10 := Lib.hid hpb10
              have HRW := Lib.hid hrw
              have z1 := hpb10.cell (o := 1) rfl
              have hsl := fun w' => run_some S (max lo at_ - at_) (min hi (at_ + p.size) - at_) (by omega) (by omega) (by have := hsiz.out; omega) w'
              have hse : some_ S.data.toList (max lo at_ - at_) (min hi (at_ + p.size) - at_) = some_ S.data.toList (max (lo - at_) 0) (min (hi - at_) p.size) := by
                rw [show max lo at_ - at_ = max (lo - at_) 0 by omega, show min hi (at_ + p.size) - at_ = min (hi - at_) p.size by omega]
              have hyc := HYC.out
              obtain ⟨PC, hPC⟩ : ∃ PC, some_ S.data.toList (max (lo - at_) 0) (min (hi - at_) p.size) = PC := ⟨_, rfl⟩
              have hpl := some_le S.data.toList (max (lo - at_) 0) (min (hi - at_) p.size) p.size (by omega) (by omega) (by omega)
              rw [hse] at hsl
              simp only [hPC] at hsl hyc hpl
              have hps : (⟨PC.toArray⟩ : ByteArray).size = PC.length := by simp [ByteArray.size]
              have hw1 : IntKind.i64.wrap (max lo at_ - at_) = max lo at_ - at_ := by rw [IntKind.wrap_i64]; omega
              have hw2 : IntKind.i64.wrap (min hi (at_ + p.size) - at_) = min hi (at_ + p.size) - at_ := by rw [IntKind.wrap_i64]; omega
              have hnb : ¬ (vd.ownBlock = some bw) := fun e => box_ne HW10.out.box HW10.out.od (by decide) e rfl
              have fv0 := fun (w' : World) (mm : Mod (fun k => vd.ownBlock = some k) w10.drew w') => (mm.cell (p := ⟨bw, 2, none⟩) HW10.out.box.lt hnb).trans (HW10.out.box.cell (o := 2) rfl)
              have HYC2 := Lib.hid hyc
              have hB10 : B0 ≤ w10.heap.size := by have := HW10.out.box.lt; have := HW10.out.le; omega
              have HNB2 := Lib.hid hnb
              clear hwp hrw hpb9 hpb10 hw10 hM9 hm9 ho9 hr9 hbx9 q0 r0 hse hyc hPC hnb HYC
              go_wp2_with fail
              refine region_mT (fun k => vd.ownBlock = some k) (by kernel_rfl) ?_
              simp only [List.length_cons, List.length_nil, List.replicate]
              refine take0T (v := ?v36) (oi := ?o36) 0 ?hi36 (by kernel_rfl) (by kernel_rfl) (by kernel_rfl) ?hq36 ?hy36 ?_
              case hi36 => (simp only [List.getElem?_toArray, List.getElem?_cons_zero, List.getElem?_cons_succ]; rfl)
              case hq36 => exact fun _ _ _ h => h
              case hy36 => first | (refine ry_notS ?_; rfl) | (refine ry_runS (by rfl) (fun w' hw' => ?_); go_simp; try rfl)
              simp only [Act.put, List.setIfInBounds_toArray, List.set_cons_zero, List.set_cons_succ]
              refine take0T (v := ?v37) (oi := ?o37) 1 ?hi37 (by kernel_rfl) (by kernel_rfl) (by kernel_rfl) ?hq37 ?hy37 ?_
              case hi37 => (simp only [List.getElem?_toArray, List.getElem?_cons_zero, List.getElem?_cons_succ]; rfl)
              case hq37 => exact fun _ _ _ h => h
              case hy37 => first | (refine ry_notS ?_; rfl) | (refine ry_runS (by rfl) (fun w' hw' => ?_); go_simp; try rfl)
              simp only [Act.put, List.setIfInBounds_toArray, List.set_cons_zero, List.set_cons_succ]
              refine take0T (v := ?v38) (oi := ?o38) 2 ?hi38 (by kernel_rfl) (by kernel_rfl) (by kernel_rfl) ?hq38 ?hy38 ?_
              case hi38 => (simp only [List.getElem?_toArray, List.getElem?_cons_zero, List.getElem?_cons_succ]; rfl)
              case hq38 => exact fun _ _ _ h => h
              case hy38 => first | (refine ry_notS ?_; rfl) | (refine ry_runS (by rfl) (fun w' hw' => ?_); go_simp; try rfl)
              simp only [Act.put, List.setIfInBounds_toArray, List.set_cons_zero, List.set_cons_succ]
              refine take0T (v := ?v39) (oi := ?o39) 3 ?hi39 (by kernel_rfl) (by kernel_rfl) (by kernel_rfl) ?hq39 ?hy39 ?_
              case hi39 => (simp only [List.getElem?_toArray, List.getElem?_cons_zero, List.getElem?_cons_succ]; rfl)
              case hq39 => exact fun _ _ _ h => h
              case hy39 => first | (refine ry_notS ?_; rfl) | (refine ry_runS (by rfl) (fun w' hw' => ?_); go_simp; try rfl)
              simp only [Act.put, List.setIfInBounds_toArray, List.set_cons_zero, List.set_cons_succ]
              refine take0T (v := ?v40) (oi := ?o40) 4 ?hi40 (by kernel_rfl) (by kernel_rfl) (by kernel_rfl) ?hq40 ?hy40 ?_
              case hi40 => (simp only [List.getElem?_toArray, List.getElem?_cons_zero, List.getElem?_cons_succ]; rfl)
              case hq40 => exact fun _ _ _ h => h
              case hy40 => first | (refine ry_notS ?_; rfl) | (refine ry_runS (by rfl) (fun w' hw' => ?_); go_simp; try rfl)
              simp only [Act.put, List.setIfInBounds_toArray, List.set_cons_zero, List.set_cons_succ]
              refine take0T (v := ?v41) (oi := ?o41) 5 ?hi41 (by kernel_rfl) (by kernel_rfl) (by kernel_rfl) ?hq41 ?hy41 ?_
              case hi41 => (simp only [List.getElem?_toArray, List.getElem?_cons_zero, List.getElem?_cons_succ]; rfl)
              case hq41 => exact fun _ _ _ h => h
              case hy41 => first | (refine ry_notS ?_; rfl) | (refine ry_runS (by rfl) (fun w' hw' => ?_); go_simp; try rfl)
              simp only [Act.put, List.setIfInBounds_toArray, List.set_cons_zero, List.set_cons_succ]
              refine take0T (v := ?v42) (oi := ?o42) 6 ?hi42 (by kernel_rfl) (by kernel_rfl) (by kernel_rfl) ?hq42 ?hy42 ?_
              case hi42 => (simp only [List.getElem?_toArray, List.getElem?_cons_zero, List.getElem?_cons_succ]; rfl)
              case hq42 => exact fun _ _ _ h => h
              case hy42 => first | (refine ry_notS ?_; rfl) | (refine ry_runS (by rfl) (fun w' hw' => ?_); go_simp; try rfl)
              simp only [Act.put, List.setIfInBounds_toArray, List.set_cons_zero, List.set_cons_succ]
              refine take0T (v := ?v43) (oi := ?o43) 7 ?hi43 (by kernel_rfl) (by kernel_rfl) (by kernel_rfl) ?hq43 ?hy43 ?_
              case hi43 => (simp only [List.getElem?_toArray, List.getElem?_cons_zero, List.getElem?_cons_succ]; rfl)
              case hq43 => exact fun _ _ _ h => h
              case hy43 => first | (refine ry_notS ?_; rfl) | (refine ry_runS (by rfl) (fun w' hw' => ?_); go_simp; try rfl)
              simp only [Act.put, List.setIfInBounds_toArray, List.set_cons_zero, List.set_cons_succ]
              refine take0T (v := ?v44) (oi := ?o44) 8 ?hi44 (by kernel_rfl) (by kernel_rfl) (by kernel_rfl) ?hq44 ?hy44 ?_
              case hi44 => (simp only [List.getElem?_toArray, List.getElem?_cons_zero, List.getElem?_cons_succ]; rfl)
              case hq44 => exact fun _ _ _ h => h
              case hy44 => first | (refine ry_notS ?_; rfl) | (refine ry_runS (by rfl) (fun w' hw' => ?_); go_simp; try rfl)
              simp only [Act.put, List.setIfInBounds_toArray, List.set_cons_zero, List.set_cons_succ]
              refine step0T (o := ?o45) 9 (by kernel_rfl) ?hi45 ?hw45 ?_
              case hi45 => (simp only [List.getElem?_toArray, List.getElem?_cons_zero, List.getElem?_cons_succ]; rfl)
              case hw45 => rfl
              refine appStr_step (.tmp 110) (.tmp 114) obj_bytes_t (fun i z hi hz => by cases hi; cases hz; rfl) Tryd.underlying9 B0 vd x.data.length (bv x.data) (own_keep HW10.out.od ((Mod.refl (fun _ => False) w10).drew) (fun _ _ _ h => h)) ⟨PC.toArray⟩ rfl rfl rfl (by unfold maxLen; omega) (by omega) (by show B0 ≤ w10.heap.size; omega) ?_
              intro v11 w11 ho11 hm11
              refine ⟨.inl (hm11.mono fun _ _ h => h.2), ?_⟩
              have hM11 : Mod (fun k => vd.ownBlock = some k) w10 w11 := Mod.of_drew_l (hm11.mono fun _ _ h => h.2)
              have hbx11 := HW10.out.box.keep hM11 HNB2.out
              obtain ⟨A11, c11, rfl, _, _, _, _⟩ := own_cells ho11
              have q0 := hbx11.cell (o := 2) rfl
              have r0 := hbx11.frozen 2
              simp only [Act.put, List.setIfInBounds_toArray, List.set_cons_zero, List.set_cons_succ]
              refine take0T (v := ?v46) (oi := ?o46) 10 ?hi46 (by kernel_rfl) (by kernel_rfl) (by kernel_rfl) ?hq46 ?hy46 ?_
              case hi46 => (simp only [List.getElem?_toArray, List.getElem?_cons_zero, List.getElem?_cons_succ]; rfl)
              case hq46 => exact fun _ _ _ h => h
              case hy46 => first | (refine ry_notS ?_; rfl) | (refine ry_runS (by rfl) (fun w' hw' => ?_); go_simp; try rfl)
              simp only [Act.put, List.setIfInBounds_toArray, List.set_cons_zero, List.set_cons_succ]
              refine take0T (v := ?v47) (oi := ?o47) 11 ?hi47 (by kernel_rfl) (by kernel_rfl) (by kernel_rfl) ?hq47 ?hy47 ?_
              case hi47 => (simp only [List.getElem?_toArray, List.getElem?_cons_zero, List.getElem?_cons_succ]; rfl)
              case hq47 => exact fun _ _ _ h => h
              case hy47 => first | (refine ry_notS ?_; rfl) | (refine ry_runS (by rfl) (fun w' hw' => ?_); go_simp; try rfl)
              simp only [Act.put, List.setIfInBounds_toArray, List.set_cons_zero, List.set_cons_succ]
              refine step0T (o := ?o48) 12 (by kernel_rfl) ?hi48 ?hw48 ?_
              case hi48 => (simp only [List.getElem?_toArray, List.getElem?_cons_zero, List.getElem?_cons_succ]; rfl)
              case hw48 => rfl
              go_simp
              refine ⟨.inr (by kernel_rfl), ?_⟩
              refine wpAnyT_done (by kernel_rfl) ?_
              have hwd := HW10.out.putD PC hM11 ho11
              have HWD1 := Lib.hid hwd.1
              have HWD2 := Lib.hid (WS.trans HM10.out hwd.2 HRW.out)
              have hy := HYC2.out
              subst hy
              clear hwd hM11 hm11 ho11 hbx11 q0 r0 fv0
              go_wp2_with fail
              first | go_end0 | refine bodyPost_ret (results_none rfl _ _ _) rfl ?_
              unfold GoPost
              exact ⟨rfl, _, _, _, _, by show WkIs _ _ _ _ _ _ _ _ _ _ _ x.bad _; rw [hb0]; exact HWD1.out, HWD2.out, HRW.out⟩
            · rw [if_neg (fun h => h2 h.2)] at hy
              dsimp only at hy
              have h3 : 0 < level := by omega
              clear h1
              subst hy
              go_wp2_with fail
              refine (fail_calls 101 (HW8.out)).mono ?_
              rintro e w18 ⟨rfl, rfl⟩
              have hsb := WkIs.setBad (HW8.out) 101
              have HSB1 := Lib.hid hsb.1
              have HSB2 := Lib.hid (WS.trans (HM8.out) hsb.2 (rowOf_same rfl))
              clear hsb
              go_wp2_with fail
              first | go_end0 | refine bodyPost_ret (results_none rfl _ _ _) rfl ?_
              unfold GoPost
              exact ⟨rfl, _, _, _, _, HSB1.out, HSB2.out, rowOf_same rfl⟩
          · have b1 : ((S.size : Int) == p.size) = false := by simpa using h1
            have b2 : ((S.size : Int) != p.size) = true := by simpa using h1
            rw [if_neg (fun h => h1 h.1)] at hy
            dsimp only at hy
            clear h1
            subst hy
            go_wp2_with fail
            refine (fail_calls 101 (HW8.out)).mono ?_
            rintro e w18 ⟨rfl, rfl⟩
            have hsb := WkIs.setBad (HW8.out) 101
            have HSB1 := Lib.hid hsb.1
            have HSB2 := Lib.hid (WS.trans (HM8.out) hsb.2 (rowOf_same rfl))
            clear hsb
            go_wp2_with fail
            first | go_end0 | refine bodyPost_ret (results_none rfl _ _ _) rfl ?_
            unfold GoPost
            exact ⟨rfl, _, _, _, _, HSB1.out, HSB2.out, rowOf_same rfl⟩
        | false =>
          rw [if_neg (by rw [hc]; decide)] at hy
          simp only [if_false, Bool.false_eq_true]
          go_wp2_with fail
          refine (rTakeFan_calls b w8 hbs).mono ?_
          rintro e w9 ⟨v, rfl, hv, hm9⟩
          obtain ⟨hag1, hag2⟩ := fans_agree b.data.toList
          simp only [← hag1, ← hag2] at hv ⊢
          clear hag1 hag2
          have hof := outFan_facts b.data.toList
          obtain ⟨F, hF⟩ : ∃ F, okFan b.data.toList = F := ⟨_, rfl⟩
          obtain ⟨O, hO⟩ : ∃ O, outFan b.data.toList = O := ⟨_, rfl⟩
          obtain ⟨L, kids⟩ := O
          have hfl : nodeOf objs p level = .fan L kids → (level < 0 ∨ L = level) ∧ 1 ≤ L ∧ L ≤ 20 ∧ 1 ≤ kids.length ∧ kids.length ≤ 32 ∧ (kids.map (·.size)).sum = p.size ∧ (∀ k ∈ kids, 1 ≤ k.size ∧ k.size ≤ 262144 ∧ k.id.size = 32) := fan_level
          have hnd2 : nodeOf objs p level = if F = true ∧ (kids.map (·.size)).sum = p.size ∧ (level < 0 ∨ L = level) then Node.fan L kids else Node.bad 101 := by
            unfold nodeOf nodeB
            rw [hf]
            dsimp only
            rw [if_neg (by rw [hc]; decide), hF, hO]
          rw [hF, hO] at hy
          rw [hO] at hof hv
          simp only [hF, hO]
          dsimp only at hy hof hv ⊢
          obtain ⟨Ak, ck, rfl, _, hck, _, _⟩ := own_cells hv
          have hm10 := hm9.alloc (.cells #[.int .i64 L, .slice Ak kids.length ck] 96)
          have hb17 := Has.new w9 [.int .i64 L, .slice Ak kids.length ck] 96
          have hv10 := hv.alloc (.cells #[.int .i64 L, .slice Ak kids.length ck] 96)
          have hW10 := HW8.out.keep0 hm10
          have hpb10 := HPB8.out.keep hm10 (fun h => h)
          have hM10 := Mod.trans HM8.out hm10 (fun _ _ h => h.elim)
          have hck10 := hck.alloc (.cells #[.int .i64 L, .slice Ak kids.length ck] 96)
          have hz9 := hm9.size
          obtain ⟨b17, hb17e⟩ : ∃ b17, w9.heap.size = b17 := ⟨_, rfl⟩
          rw [hb17e] at hb17
          have c0 := hb17.cell (o := 0) rfl
          have c1 := hb17.cell (o := 1) rfl
          have z1 := hpb10.cell (o := 1) rfl
          have HOF := Lib.hid hof
          have HFL := Lib.hid hfl
          have HND := Lib.hid hnd2
          have HY3 := Lib.hid hy
          have HV10 := Lib.hid hv10
          have HCK := Lib.hid hck10
          have HW10 := Lib.hid hW10
          have HPB10 := Lib.hid hpb10
          have HM10 := Lib.hid hM10
          have HB17 := Lib.hid hb17
          have hkl : kids.length ≤ 32 := hof.1
          clear hof hfl hnd2 hy hv10 hck10 hW10 hpb10 hM10 hb17 hm9 hm10 hv hck hF hO z0 HYB HYY HW8 HPB8 HM8
          go_wp2_with fail
          try simp only [hb17e]
          obtain ⟨w10, hw10⟩ : ∃ w10, w9.alloc (.cells #[.int .i64 L, .slice Ak kids.length ck] 96) = w10 := ⟨_, rfl⟩
          rw [hw10] at c0 c1 z1 HV10 HCK HW10 HPB10 HM10 HB17
          rw [hw10]
          clear hw10 hb17e
          go_loopw [18, 19] (fun sm i wr => ∃ (j : Nat) (z : Int), i = .int .i64 j ∧ sm = .int .i64 z ∧ j ≤ kids.length ∧ Hid (z = sizes (kids.take j)) ∧ wr = w10) (fun _ i _ => kids.length - (intOf i).toNat)
          case atStart => exact ⟨0, 0, by go_num, rfl, by omega, Lib.hid (by simp [sizes]), rfl⟩
          case round =>
            obtain ⟨j, z, rfl, rfl, hj, HZ, rfl⟩ := hrel
            by_cases hjl : j < kids.length
            · have j1 : (j : Int) < (kids.length : Int) := by omega
              have j0 : (0 : Int) ≤ (j : Int) := by omega
              rcases HCK.out with h | ⟨bb, b5, rfl, hc5⟩
              · have := flat_len pc_len kids; rw [h] at this; simp at this; omega
              have z0 := hc5 _ _ (flat_get pc_len kids j 0 hjl (by omega))
              have z2 := hc5 _ _ (flat_get pc_len kids j 1 hjl (by omega))
              rw [Nat.add_zero] at z0
              rw [← Nat.add_assoc] at z2
              have hst := sizes_snoc hjl
              rw [← HZ.out] at hst
              have hs0 := sizes_take HOF.out.2 j
              have hs1 := sizes_take HOF.out.2 (j + 1)
              rw [hst] at hs1
              rw [← HZ.out] at hs0
              obtain ⟨k, hk⟩ : ∃ k, kids[j] = k := ⟨_, rfl⟩
              rw [hk] at z0 z2 hst hs1
              have HST := Lib.hid hst
              clear hc5 hst hk
              go_wp2_with fail
              go_roundw
              case rel => exact ⟨j + 1, z + k.size, by go_num, rfl, by omega, Lib.hid HST.out.symm, trivial⟩
              case measure => simp [intOf]; omega
            · have hjk : j = kids.length := by omega
              have j1 : ¬ (j : Int) < (kids.length : Int) := by omega
              have hz := HZ.out
              rw [hjk, List.take_length] at hz
              have hy := HY3.out
              have hnd3 := HND.out
              have hszk : sizes kids = (kids.map (·.size)).sum := rfl
              rw [← hszk, ← hz] at hy hnd3
              clear hszk hz HZ
              cases F with
              | false =>
                rw [if_neg (fun h => by cases h.1)] at hy
                dsimp only at hy
                simp only [show errV false = Value.int .i64 81 from rfl]
                subst hy
                go_wp2_with fail
                refine (fail_calls 101 (HW10.out)).mono ?_
                rintro e w18 ⟨rfl, rfl⟩
                have hsb := WkIs.setBad (HW10.out) 101
                have HSB1 := Lib.hid hsb.1
                have HSB2 := Lib.hid (WS.trans (HM10.out) hsb.2 (rowOf_same rfl))
                clear hsb
                go_wp2_with fail
                first | go_end0 | refine bodyPost_ret (results_none rfl _ _ _) rfl ?_
                unfold GoPost
                exact ⟨rfl, _, _, _, _, HSB1.out, HSB2.out, rowOf_same rfl⟩
              | true =>
                simp only [show errV true = Value.int .i64 0 from rfl]
                by_cases h1 : z = p.size
                · have b1 : (z == p.size) = true := by simpa using h1
                  have b2 : (z != p.size) = false := by simpa using h1
                  by_cases h2 : level < 0
                  · have h3 : ¬ 0 ≤ level := by omega
                    rw [if_pos ⟨rfl, h1, .inl h2⟩] at hy hnd3
                    clear h1
                    have hfl := HFL.out hnd3
                    have hr0 : RgIs B0 bw A c objs lo hi L kids at_ (x.ask p.id) b17 w8.heap.size (.slice Ak kids.length ck) vp w 0 at_ wr :=
                      ⟨⟨_, _, _, _, by show WkIs _ _ _ _ _ _ _ _ _ _ _ x.bad _; rw [hb0]; exact HW10.out, fun g hg hp => by have := (HV10.out.lt g hg).1; have := HVP.out g hp; omega, HM10.out, rowOf_same rfl⟩, by simp [sizes], HB17.out, HV10.out⟩
                    have HR0 := Lib.hid hr0
                    have hL1 : 1 ≤ L := hfl.2.1
                    have hL2 : L ≤ 20 := hfl.2.2.1
                    have HFL2 := Lib.hid hfl
                    have hy2 : (rdF objs lo hi (L - 1).toNat kids at_ (x.ask p.id)).2 = Y := hy
                    have HY4 := Lib.hid hy2
                    clear hr0 hfl hy hy2 hnd3 HFL HND HY3 HCK HW10
                    go_wp2_with fail
                    go_loopw [2, 20] (fun av i wr => ∃ (j : Nat) (a : Int), i = .int .i64 j ∧ av = .int .i64 a ∧ j ≤ kids.length ∧ Hid (RgIs B0 bw A c objs lo hi L kids at_ (x.ask p.id) b17 w8.heap.size (.slice Ak kids.length ck) vp w j a wr)) (fun _ i _ => kids.length - (intOf i).toNat)
                    case atStart => exact ⟨0, at_, by go_num, rfl, by omega, HR0⟩
                    case round =>
                      obtain ⟨j, a, rfl, rfl, hj, HG⟩ := hrel
                      have c0 := HG.out.box.cell (o := 0) rfl
                      have c1 := HG.out.box.cell (o := 1) rfl
                      by_cases hjl : j < kids.length
                      · have j1 : (j : Int) < (kids.length : Int) := by omega
                        have j0 : (0 : Int) ≤ (j : Int) := by omega
                        obtain ⟨A2, c2, he, _, hck, _, _⟩ := own_cells HG.out.own
                        obtain ⟨rfl, rfl⟩ : Ak = A2 ∧ ck = c2 := by simpa using he
                        clear he
                        rcases hck with h | ⟨bb, b5, rfl, hc5⟩
                        · have := flat_len pc_len kids; rw [h] at this; simp at this; omega
                        have z0 := hc5 _ _ (flat_get pc_len kids j 0 hjl (by omega))
                        have z2 := hc5 _ _ (flat_get pc_len kids j 1 hjl (by omega))
                        rw [Nat.add_zero] at z0
                        rw [← Nat.add_assoc] at z2
                        obtain ⟨va7, vd7, vp7, parts7, hwk7, hap7, hmm7, hrr7⟩ := HG.out.ex
                        have hnum := nums_next (objs := objs) (lo := lo) (hi := hi) HN.out hjl ⟨HFL2.out.1, hL1, hL2⟩ HFL2.out.2.2.2.2.2.1 HFL2.out.2.2.2.2.2.2
                        rw [← HG.out.eqn] at hnum
                        have hst := sizes_snoc hjl
                        have hsn : rdF objs lo hi (L - 1).toNat (kids.take (j + 1)) at_ (x.ask p.id) = (a + kids[j].size, rdS objs lo hi (L - 1).toNat kids[j] a (rdF objs lo hi (L - 1).toNat (kids.take j) at_ (x.ask p.id)).2) := by
                          rw [List.take_succ_eq_append_getElem hjl, rdF_snoc, rdF_at, ← HG.out.eqn]
                        have HCA := Lib.hid (HIH.out L hL1 hL2 HFL2.out.1 _ _ _ _ _ _ _ wr.drew hnum (hwk7.keep0 ((Mod.refl (fun _ => False) wr).drew)))
                        have hpe := hnum.2.2.1
                        have hpa := hnum.2.1
                        have hps := hnum.1
                        have hnbx : ¬ WS B0 vp7 wr b17 := by
                          rintro (h | h)
                          · exact Ty.not (Has.row HG.out.box) (by decide) h
                          · exact box_ne HG.out.box hwk7.op (by decide) h rfl
                        have hnrw : ¬ WS B0 vp7 wr bb := by
                          rintro (h | h)
                          · exact Ty.not (own_row HG.out.own (k := bb) (own_blk HG.out.own z0)) (by decide) h
                          · exact hap7 bb (own_blk HG.out.own z0) h
                        have hbl := World.block_lt_of_cell? _ _ z0
                        have fv0 := fun (w' : World) (mm : Mod (WS B0 vp7 wr) wr.drew w') => (mm.cell (p := ⟨b17, 0, none⟩) HG.out.box.lt hnbx).trans c0
                        have fv1 := fun (w' : World) (mm : Mod (WS B0 vp7 wr) wr.drew w') => (mm.cell (p := ⟨b17, 1, none⟩) HG.out.box.lt hnbx).trans c1
                        have fv2 := fun (w' : World) (mm : Mod (WS B0 vp7 wr) wr.drew w') => (mm.cell (p := ⟨bb, b5 + j * 2, none⟩) hbl hnrw).trans z0
                        have fv3 := fun (w' : World) (mm : Mod (WS B0 vp7 wr) wr.drew w') => (mm.cell (p := ⟨bb, b5 + j * 2 + 1, none⟩) hbl hnrw).trans z2
                        have HSN := Lib.hid hsn
                        have HST := Lib.hid hst
                        have HNX := Lib.hid hnbx
                        have HNR := Lib.hid hnrw
                        have HAP := Lib.hid hap7
                        have HMM := Lib.hid hmm7
                        have HRR := Lib.hid hrr7
                        generalize kids[j] = k at *
                        have hw1 : IntKind.i64.wrap (L - 1) = L - 1 := by rw [IntKind.wrap_i64]; omega
                        have hw2 : IntKind.i64.wrap (a + k.size) = a + k.size := by rw [IntKind.wrap_i64]; omega
                        clear hnum hst hsn hc5 hwk7 hap7 hmm7 hrr7 hnbx hnrw
                        go_wp2_with fail
                        refine region_mT (WS B0 vp7 wr) (by kernel_rfl) ?_
                        simp only [List.length_cons, List.length_nil, List.replicate]
                        refine take0T (v := ?v49) (oi := ?o49) 0 ?hi49 (by kernel_rfl) (by kernel_rfl) (by kernel_rfl) ?hq49 ?hy49 ?_
                        case hi49 => (simp only [List.getElem?_toArray, List.getElem?_cons_zero, List.getElem?_cons_succ]; rfl)
                        case hq49 => exact fun _ _ _ h => h
                        case hy49 => first | (refine ry_notS ?_; rfl) | (refine ry_runS (by rfl) (fun w' hw' => ?_); go_simp; try rfl)
                        simp only [Act.put, List.setIfInBounds_toArray, List.set_cons_zero, List.set_cons_succ]
                        refine take0T (v := ?v50) (oi := ?o50) 1 ?hi50 (by kernel_rfl) (by kernel_rfl) (by kernel_rfl) ?hq50 ?hy50 ?_
                        case hi50 => (simp only [List.getElem?_toArray, List.getElem?_cons_zero, List.getElem?_cons_succ]; rfl)
                        case hq50 => exact fun _ _ _ h => h
                        case hy50 => first | (refine ry_notS ?_; rfl) | (refine ry_runS (by rfl) (fun w' hw' => ?_); go_simp; try rfl)
                        simp only [Act.put, List.setIfInBounds_toArray, List.set_cons_zero, List.set_cons_succ]
                        refine take0T (v := ?v51) (oi := ?o51) 2 ?hi51 (by kernel_rfl) (by kernel_rfl) (by kernel_rfl) ?hq51 ?hy51 ?_
                        case hi51 => (simp only [List.getElem?_toArray, List.getElem?_cons_zero, List.getElem?_cons_succ]; rfl)
                        case hq51 => exact fun _ _ _ h => h
                        case hy51 => first | (refine ry_notS ?_; rfl) | (refine ry_runS (by rfl) (fun w' hw' => ?_); go_simp; try rfl)
                        simp only [Act.put, List.setIfInBounds_toArray, List.set_cons_zero, List.set_cons_succ]
                        refine take0T (v := ?v52) (oi := ?o52) 3 ?hi52 (by kernel_rfl) (by kernel_rfl) (by kernel_rfl) ?hq52 ?hy52 ?_
                        case hi52 => (simp only [List.getElem?_toArray, List.getElem?_cons_zero, List.getElem?_cons_succ]; rfl)
                        case hq52 => exact fun _ _ _ h => h
                        case hy52 => first | (refine ry_notS ?_; rfl) | (refine ry_runS (by rfl) (fun w' hw' => ?_); go_simp; try rfl)
                        simp only [Act.put, List.setIfInBounds_toArray, List.set_cons_zero, List.set_cons_succ]
                        refine take0T (v := ?v53) (oi := ?o53) 4 ?hi53 (by kernel_rfl) (by kernel_rfl) (by kernel_rfl) ?hq53 ?hy53 ?_
                        case hi53 => (simp only [List.getElem?_toArray, List.getElem?_cons_zero, List.getElem?_cons_succ]; rfl)
                        case hq53 => exact fun _ _ _ h => h
                        case hy53 => first | (refine ry_notS ?_; rfl) | (refine ry_runS (by rfl) (fun w' hw' => ?_); go_simp; try rfl)
                        simp only [Act.put, List.setIfInBounds_toArray, List.set_cons_zero, List.set_cons_succ]
                        refine take0T (v := ?v54) (oi := ?o54) 5 ?hi54 (by kernel_rfl) (by kernel_rfl) (by kernel_rfl) ?hq54 ?hy54 ?_
                        case hi54 => (simp only [List.getElem?_toArray, List.getElem?_cons_zero, List.getElem?_cons_succ]; rfl)
                        case hq54 => exact fun _ _ _ h => h
                        case hy54 => first | (refine ry_notS ?_; rfl) | (refine ry_runS (by rfl) (fun w' hw' => ?_); go_simp; try rfl)
                        simp only [Act.put, List.setIfInBounds_toArray, List.set_cons_zero, List.set_cons_succ]
                        refine take0T (v := ?v55) (oi := ?o55) 6 ?hi55 (by kernel_rfl) (by kernel_rfl) (by kernel_rfl) ?hq55 ?hy55 ?_
                        case hi55 => (simp only [List.getElem?_toArray, List.getElem?_cons_zero, List.getElem?_cons_succ]; rfl)
                        case hq55 => exact fun _ _ _ h => h
                        case hy55 => first | (refine ry_notS ?_; rfl) | (refine ry_runS (by rfl) (fun w' hw' => ?_); go_simp; try rfl)
                        simp only [Act.put, List.setIfInBounds_toArray, List.set_cons_zero, List.set_cons_succ]
                        refine take0T (v := ?v56) (oi := ?o56) 7 ?hi56 (by kernel_rfl) (by kernel_rfl) (by kernel_rfl) ?hq56 ?hy56 ?_
                        case hi56 => (simp only [List.getElem?_toArray, List.getElem?_cons_zero, List.getElem?_cons_succ]; rfl)
                        case hq56 => exact fun _ _ _ h => h
                        case hy56 => first | (refine ry_notS ?_; rfl) | (refine ry_runS (by rfl) (fun w' hw' => ?_); go_simp; try rfl)
                        simp only [Act.put, List.setIfInBounds_toArray, List.set_cons_zero, List.set_cons_succ]
                        refine take0T (v := ?v57) (oi := ?o57) 8 ?hi57 (by kernel_rfl) (by kernel_rfl) (by kernel_rfl) ?hq57 ?hy57 ?_
                        case hi57 => (simp only [List.getElem?_toArray, List.getElem?_cons_zero, List.getElem?_cons_succ]; rfl)
                        case hq57 => exact fun _ _ _ h => h
                        case hy57 => first | (refine ry_notS ?_; rfl) | (refine ry_runS (by rfl) (fun w' hw' => ?_); go_simp; try rfl)
                        simp only [Act.put, List.setIfInBounds_toArray, List.set_cons_zero, List.set_cons_succ]
                        refine take0T (v := ?v58) (oi := ?o58) 9 ?hi58 (by kernel_rfl) (by kernel_rfl) (by kernel_rfl) ?hq58 ?hy58 ?_
                        case hi58 => (simp only [List.getElem?_toArray, List.getElem?_cons_zero, List.getElem?_cons_succ]; rfl)
                        case hq58 => exact fun _ _ _ h => h
                        case hy58 => first | (refine ry_notS ?_; rfl) | (refine ry_runS (by rfl) (fun w' hw' => ?_); go_simp; try rfl)
                        simp only [Act.put, List.setIfInBounds_toArray, List.set_cons_zero, List.set_cons_succ]
                        refine take0T (v := ?v59) (oi := ?o59) 10 ?hi59 (by kernel_rfl) (by kernel_rfl) (by kernel_rfl) ?hq59 ?hy59 ?_
                        case hi59 => (simp only [List.getElem?_toArray, List.getElem?_cons_zero, List.getElem?_cons_succ]; rfl)
                        case hq59 => exact fun _ _ _ h => h
                        case hy59 => first | (refine ry_notS ?_; rfl) | (refine ry_runS (by rfl) (fun w' hw' => ?_); go_simp; try rfl)
                        simp only [Act.put, List.setIfInBounds_toArray, List.set_cons_zero, List.set_cons_succ]
                        refine take0T (v := ?v60) (oi := ?o60) 11 ?hi60 (by kernel_rfl) (by kernel_rfl) (by kernel_rfl) ?hq60 ?hy60 ?_
                        case hi60 => (simp only [List.getElem?_toArray, List.getElem?_cons_zero, List.getElem?_cons_succ]; rfl)
                        case hq60 => exact fun _ _ _ h => h
                        case hy60 => first | (refine ry_notS ?_; rfl) | (refine ry_runS (by rfl) (fun w' hw' => ?_); go_simp; try rfl)
                        simp only [Act.put, List.setIfInBounds_toArray, List.set_cons_zero, List.set_cons_succ]
                        refine step0T (o := ?o61) 12 (by kernel_rfl) ?hi61 ?hw61 ?_
                        case hi61 => (simp only [List.getElem?_toArray, List.getElem?_cons_zero, List.getElem?_cons_succ]; rfl)
                        case hw61 => rfl
                        go_simp
                        refine HCA.out.mono ?_
                        rintro e w12 ⟨rfl, va8, vd8, vp8, parts8, hwk8, hm8, hr8⟩
                        refine ⟨.inl hm8, ?_⟩
                        refine wpAnyT_done (by kernel_rfl) ?_
                        clear fv0 fv1 fv2 fv3
                        have hm8' : Mod (WS B0 vp7 wr) wr w12 := Mod.of_drew_l hm8
                        have hbx8 := HG.out.box.keep hm8' HNX.out
                        have hown8 := own_keep HG.out.own hm8' (fun g _ hg hs => by
                          rcases hs with h | h
                          · exact Ty.not (own_row HG.out.own hg) (by decide) h
                          · exact HAP.out g hg h)
                        have z3 := (hm8'.cell (p := ⟨bb, b5 + j * 2 + 1, none⟩) hbl HNR.out).trans z2
                        have z4 := (hm8'.cell (p := ⟨bb, b5 + j * 2, none⟩) hbl HNR.out).trans z0
                        have d0 := hbx8.cell (o := 0) rfl
                        have d1 := hbx8.cell (o := 1) rfl
                        have hnx : RgIs B0 bw A c objs lo hi L kids at_ (x.ask p.id) b17 w8.heap.size (.slice (some ⟨bb, b5, none⟩) kids.length ck) vp w (j + 1) (a + k.size) w12 := by
                          refine ⟨⟨va8, vd8, vp8, parts8, by rw [HSN.out]; exact hwk8, fun g hg hp => ?_, WS.trans HMM.out hm8' HRR.out, rowOf_trans HRR.out hr8 HMM.out.size⟩, by rw [HST.out, HG.out.eqn]; omega, hbx8, hown8⟩
                          rcases hr8 g hp with h | h
                          · exact HAP.out g hg h
                          · have := (HG.out.own.lt g hg).2; simp at h; omega
                        have HNXT := Lib.hid hnx
                        clear hnx hm8 hm8' hbx8 hown8 hwk8 hr8 c0 c1 z0 z2
                        go_wp2_with fail
                        go_roundw
                        case rel => exact ⟨j + 1, a + k.size, by go_num, rfl, by omega, HNXT⟩
                        case measure => simp [intOf]; omega
                      · have hjk : j = kids.length := by omega
                        have j1 : ¬ (j : Int) < (kids.length : Int) := by omega
                        obtain ⟨va7, vd7, vp7, parts7, hwk7, hap7, hmm7, hrr7⟩ := HG.out.ex
                        rw [hjk, List.take_length, HY4.out] at hwk7
                        have HWK := Lib.hid hwk7
                        have HMM := Lib.hid hmm7
                        have HRR := Lib.hid hrr7
                        clear hwk7 hap7 hmm7 hrr7
                        go_wp2_with fail
                        first | go_end0 | refine bodyPost_ret (results_none rfl _ _ _) rfl ?_
                        unfold GoPost
                        exact ⟨rfl, _, _, _, _, HWK.out, HMM.out, HRR.out⟩
                  · have h3 : 0 ≤ level := by omega
                    by_cases h4 : L = level
                    · have b3 : (L == level) = true := by simpa using h4
                      have b4 : (L != level) = false := by simpa using h4
                      rw [if_pos ⟨rfl, h1, .inr h4⟩] at hy hnd3
                      clear h1 h4
                      have hfl := HFL.out hnd3
                      have hr0 : RgIs B0 bw A c objs lo hi L kids at_ (x.ask p.id) b17 w8.heap.size (.slice Ak kids.length ck) vp w 0 at_ wr :=
                        ⟨⟨_, _, _, _, by show WkIs _ _ _ _ _ _ _ _ _ _ _ x.bad _; rw [hb0]; exact HW10.out, fun g hg hp => by have := (HV10.out.lt g hg).1; have := HVP.out g hp; omega, HM10.out, rowOf_same rfl⟩, by simp [sizes], HB17.out, HV10.out⟩
                      have HR0 := Lib.hid hr0
                      have hL1 : 1 ≤ L := hfl.2.1
                      have hL2 : L ≤ 20 := hfl.2.2.1
                      have HFL2 := Lib.hid hfl
                      have hy2 : (rdF objs lo hi (L - 1).toNat kids at_ (x.ask p.id)).2 = Y := hy
                      have HY4 := Lib.hid hy2
                      clear hr0 hfl hy hy2 hnd3 HFL HND HY3 HCK HW10
                      go_wp2_with fail
                      go_loopw [2, 20] (fun av i wr => ∃ (j : Nat) (a : Int), i = .int .i64 j ∧ av = .int .i64 a ∧ j ≤ kids.length ∧ Hid (RgIs B0 bw A c objs lo hi L kids at_ (x.ask p.id) b17 w8.heap.size (.slice Ak kids.length ck) vp w j a wr)) (fun _ i _ => kids.length - (intOf i).toNat)
                      case atStart => exact ⟨0, at_, by go_num, rfl, by omega, HR0⟩
                      case round =>
                        obtain ⟨j, a, rfl, rfl, hj, HG⟩ := hrel
                        have c0 := HG.out.box.cell (o := 0) rfl
                        have c1 := HG.out.box.cell (o := 1) rfl
                        by_cases hjl : j < kids.length
                        · have j1 : (j : Int) < (kids.length : Int) := by omega
                          have j0 : (0 : Int) ≤ (j : Int) := by omega
                          obtain ⟨A2, c2, he, _, hck, _, _⟩ := own_cells HG.out.own
                          obtain ⟨rfl, rfl⟩ : Ak = A2 ∧ ck = c2 := by simpa using he
                          clear he
                          rcases hck with h | ⟨bb, b5, rfl, hc5⟩
                          · have := flat_len pc_len kids; rw [h] at this; simp at this; omega
                          have z0 := hc5 _ _ (flat_get pc_len kids j 0 hjl (by omega))
                          have z2 := hc5 _ _ (flat_get pc_len kids j 1 hjl (by omega))
                          rw [Nat.add_zero] at z0
                          rw [← Nat.add_assoc] at z2
                          obtain ⟨va7, vd7, vp7, parts7, hwk7, hap7, hmm7, hrr7⟩ := HG.out.ex
                          have hnum := nums_next (objs := objs) (lo := lo) (hi := hi) HN.out hjl ⟨HFL2.out.1, hL1, hL2⟩ HFL2.out.2.2.2.2.2.1 HFL2.out.2.2.2.2.2.2
                          rw [← HG.out.eqn] at hnum
                          have hst := sizes_snoc hjl
                          have hsn : rdF objs lo hi (L - 1).toNat (kids.take (j + 1)) at_ (x.ask p.id) = (a + kids[j].size, rdS objs lo hi (L - 1).toNat kids[j] a (rdF objs lo hi (L - 1).toNat (kids.take j) at_ (x.ask p.id)).2) := by
                            rw [List.take_succ_eq_append_getElem hjl, rdF_snoc, rdF_at, ← HG.out.eqn]
                          have HCA := Lib.hid (HIH.out L hL1 hL2 HFL2.out.1 _ _ _ _ _ _ _ wr.drew hnum (hwk7.keep0 ((Mod.refl (fun _ => False) wr).drew)))
                          have hpe := hnum.2.2.1
                          have hpa := hnum.2.1
                          have hps := hnum.1
                          have hnbx : ¬ WS B0 vp7 wr b17 := by
                            rintro (h | h)
                            · exact Ty.not (Has.row HG.out.box) (by decide) h
                            · exact box_ne HG.out.box hwk7.op (by decide) h rfl
                          have hnrw : ¬ WS B0 vp7 wr bb := by
                            rintro (h | h)
                            · exact Ty.not (own_row HG.out.own (k := bb) (own_blk HG.out.own z0)) (by decide) h
                            · exact hap7 bb (own_blk HG.out.own z0) h
                          have hbl := World.block_lt_of_cell? _ _ z0
                          have fv0 := fun (w' : World) (mm : Mod (WS B0 vp7 wr) wr.drew w') => (mm.cell (p := ⟨b17, 0, none⟩) HG.out.box.lt hnbx).trans c0
                          have fv1 := fun (w' : World) (mm : Mod (WS B0 vp7 wr) wr.drew w') => (mm.cell (p := ⟨b17, 1, none⟩) HG.out.box.lt hnbx).trans c1
                          have fv2 := fun (w' : World) (mm : Mod (WS B0 vp7 wr) wr.drew w') => (mm.cell (p := ⟨bb, b5 + j * 2, none⟩) hbl hnrw).trans z0
                          have fv3 := fun (w' : World) (mm : Mod (WS B0 vp7 wr) wr.drew w') => (mm.cell (p := ⟨bb, b5 + j * 2 + 1, none⟩) hbl hnrw).trans z2
                          have HSN := Lib.hid hsn
                          have HST := Lib.hid hst
                          have HNX := Lib.hid hnbx
                          have HNR := Lib.hid hnrw
                          have HAP := Lib.hid hap7
                          have HMM := Lib.hid hmm7
                          have HRR := Lib.hid hrr7
                          generalize kids[j] = k at *
                          have hw1 : IntKind.i64.wrap (L - 1) = L - 1 := by rw [IntKind.wrap_i64]; omega
                          have hw2 : IntKind.i64.wrap (a + k.size) = a + k.size := by rw [IntKind.wrap_i64]; omega
                          clear hnum hst hsn hc5 hwk7 hap7 hmm7 hrr7 hnbx hnrw
                          go_wp2_with fail
                          refine region_mT (WS B0 vp7 wr) (by kernel_rfl) ?_
                          simp only [List.length_cons, List.length_nil, List.replicate]
                          refine take0T (v := ?v62) (oi := ?o62) 0 ?hi62 (by kernel_rfl) (by kernel_rfl) (by kernel_rfl) ?hq62 ?hy62 ?_
                          case hi62 => (simp only [List.getElem?_toArray, List.getElem?_cons_zero, List.getElem?_cons_succ]; rfl)
                          case hq62 => exact fun _ _ _ h => h
                          case hy62 => first | (refine ry_notS ?_; rfl) | (refine ry_runS (by rfl) (fun w' hw' => ?_); go_simp; try rfl)
                          simp only [Act.put, List.setIfInBounds_toArray, List.set_cons_zero, List.set_cons_succ]
                          refine take0T (v := ?v63) (oi := ?o63) 1 ?hi63 (by kernel_rfl) (by kernel_rfl) (by kernel_rfl) ?hq63 ?hy63 ?_
                          case hi63 => (simp only [List.getElem?_toArray, List.getElem?_cons_zero, List.getElem?_cons_succ]; rfl)
                          case hq63 => exact fun _ _ _ h => h
                          case hy63 => first | (refine ry_notS ?_; rfl) | (refine ry_runS (by rfl) (fun w' hw' => ?_); go_simp; try rfl)
                          simp only [Act.put, List.setIfInBounds_toArray, List.set_cons_zero, List.set_cons_succ]
                          refine take0T (v := ?v64) (oi := ?o64) 2 ?hi64 (by kernel_rfl) (by kernel_rfl) (by kernel_rfl) ?hq64 ?hy64 ?_
                          case hi64 => (simp only [List.getElem?_toArray, List.getElem?_cons_zero, List.getElem?_cons_succ]; rfl)
                          case hq64 => exact fun _ _ _ h => h
                          case hy64 => first | (refine ry_notS ?_; rfl) | (refine ry_runS (by rfl) (fun w' hw' => ?_); go_simp; try rfl)
                          simp only [Act.put, List.setIfInBounds_toArray, List.set_cons_zero, List.set_cons_succ]
                          refine take0T (v := ?v65) (oi := ?o65) 3 ?hi65 (by kernel_rfl) (by kernel_rfl) (by kernel_rfl) ?hq65 ?hy65 ?_
                          case hi65 => (simp only [List.getElem?_toArray, List.getElem?_cons_zero, List.getElem?_cons_succ]; rfl)
                          case hq65 => exact fun _ _ _ h => h
                          case hy65 => first | (refine ry_notS ?_; rfl) | (refine ry_runS (by rfl) (fun w' hw' => ?_); go_simp; try rfl)
                          simp only [Act.put, List.setIfInBounds_toArray, List.set_cons_zero, List.set_cons_succ]
                          refine take0T (v := ?v66) (oi := ?o66) 4 ?hi66 (by kernel_rfl) (by kernel_rfl) (by kernel_rfl) ?hq66 ?hy66 ?_
                          case hi66 => (simp only [List.getElem?_toArray, List.getElem?_cons_zero, List.getElem?_cons_succ]; rfl)
                          case hq66 => exact fun _ _ _ h => h
                          case hy66 => first | (refine ry_notS ?_; rfl) | (refine ry_runS (by rfl) (fun w' hw' => ?_); go_simp; try rfl)
                          simp only [Act.put, List.setIfInBounds_toArray, List.set_cons_zero, List.set_cons_succ]
                          refine take0T (v := ?v67) (oi := ?o67) 5 ?hi67 (by kernel_rfl) (by kernel_rfl) (by kernel_rfl) ?hq67 ?hy67 ?_
                          case hi67 => (simp only [List.getElem?_toArray, List.getElem?_cons_zero, List.getElem?_cons_succ]; rfl)
                          case hq67 => exact fun _ _ _ h => h
                          case hy67 => first | (refine ry_notS ?_; rfl) | (refine ry_runS (by rfl) (fun w' hw' => ?_); go_simp; try rfl)
                          simp only [Act.put, List.setIfInBounds_toArray, List.set_cons_zero, List.set_cons_succ]
                          refine take0T (v := ?v68) (oi := ?o68) 6 ?hi68 (by kernel_rfl) (by kernel_rfl) (by kernel_rfl) ?hq68 ?hy68 ?_
                          case hi68 => (simp only [List.getElem?_toArray, List.getElem?_cons_zero, List.getElem?_cons_succ]; rfl)
                          case hq68 => exact fun _ _ _ h => h
                          case hy68 => first | (refine ry_notS ?_; rfl) | (refine ry_runS (by rfl) (fun w' hw' => ?_); go_simp; try rfl)
                          simp only [Act.put, List.setIfInBounds_toArray, List.set_cons_zero, List.set_cons_succ]
                          refine take0T (v := ?v69) (oi := ?o69) 7 ?hi69 (by kernel_rfl) (by kernel_rfl) (by kernel_rfl) ?hq69 ?hy69 ?_
                          case hi69 => (simp only [List.getElem?_toArray, List.getElem?_cons_zero, List.getElem?_cons_succ]; rfl)
                          case hq69 => exact fun _ _ _ h => h
                          case hy69 => first | (refine ry_notS ?_; rfl) | (refine ry_runS (by rfl) (fun w' hw' => ?_); go_simp; try rfl)
                          simp only [Act.put, List.setIfInBounds_toArray, List.set_cons_zero, List.set_cons_succ]
                          refine take0T (v := ?v70) (oi := ?o70) 8 ?hi70 (by kernel_rfl) (by kernel_rfl) (by kernel_rfl) ?hq70 ?hy70 ?_
                          case hi70 => (simp only [List.getElem?_toArray, List.getElem?_cons_zero, List.getElem?_cons_succ]; rfl)
                          case hq70 => exact fun _ _ _ h => h
                          case hy70 => first | (refine ry_notS ?_; rfl) | (refine ry_runS (by rfl) (fun w' hw' => ?_); go_simp; try rfl)
                          simp only [Act.put, List.setIfInBounds_toArray, List.set_cons_zero, List.set_cons_succ]
                          refine take0T (v := ?v71) (oi := ?o71) 9 ?hi71 (by kernel_rfl) (by kernel_rfl) (by kernel_rfl) ?hq71 ?hy71 ?_
                          case hi71 => (simp only [List.getElem?_toArray, List.getElem?_cons_zero, List.getElem?_cons_succ]; rfl)
                          case hq71 => exact fun _ _ _ h => h
                          case hy71 => first | (refine ry_notS ?_; rfl) | (refine ry_runS (by rfl) (fun w' hw' => ?_); go_simp; try rfl)
                          simp only [Act.put, List.setIfInBounds_toArray, List.set_cons_zero, List.set_cons_succ]
                          refine take0T (v := ?v72) (oi := ?o72) 10 ?hi72 (by kernel_rfl) (by kernel_rfl) (by kernel_rfl) ?hq72 ?hy72 ?_
                          case hi72 => (simp only [List.getElem?_toArray, List.getElem?_cons_zero, List.getElem?_cons_succ]; rfl)
                          case hq72 => exact fun _ _ _ h => h
                          case hy72 => first | (refine ry_notS ?_; rfl) | (refine ry_runS (by rfl) (fun w' hw' => ?_); go_simp; try rfl)
                          simp only [Act.put, List.setIfInBounds_toArray, List.set_cons_zero, List.set_cons_succ]
                          refine take0T (v := ?v73) (oi := ?o73) 11 ?hi73 (by kernel_rfl) (by kernel_rfl) (by kernel_rfl) ?hq73 ?hy73 ?_
                          case hi73 => (simp only [List.getElem?_toArray, List.getElem?_cons_zero, List.getElem?_cons_succ]; rfl)
                          case hq73 => exact fun _ _ _ h => h
                          case hy73 => first | (refine ry_notS ?_; rfl) | (refine ry_runS (by rfl) (fun w' hw' => ?_); go_simp; try rfl)
                          simp only [Act.put, List.setIfInBounds_toArray, List.set_cons_zero, List.set_cons_succ]
                          refine step0T (o := ?o74) 12 (by kernel_rfl) ?hi74 ?hw74 ?_
                          case hi74 => (simp only [List.getElem?_toArray, List.getElem?_cons_zero, List.getElem?_cons_succ]; rfl)
                          case hw74 => rfl
                          go_simp
                          refine HCA.out.mono ?_
                          rintro e w12 ⟨rfl, va8, vd8, vp8, parts8, hwk8, hm8, hr8⟩
                          refine ⟨.inl hm8, ?_⟩
                          refine wpAnyT_done (by kernel_rfl) ?_
                          clear fv0 fv1 fv2 fv3
                          have hm8' : Mod (WS B0 vp7 wr) wr w12 := Mod.of_drew_l hm8
                          have hbx8 := HG.out.box.keep hm8' HNX.out
                          have hown8 := own_keep HG.out.own hm8' (fun g _ hg hs => by
                            rcases hs with h | h
                            · exact Ty.not (own_row HG.out.own hg) (by decide) h
                            · exact HAP.out g hg h)
                          have z3 := (hm8'.cell (p := ⟨bb, b5 + j * 2 + 1, none⟩) hbl HNR.out).trans z2
                          have z4 := (hm8'.cell (p := ⟨bb, b5 + j * 2, none⟩) hbl HNR.out).trans z0
                          have d0 := hbx8.cell (o := 0) rfl
                          have d1 := hbx8.cell (o := 1) rfl
                          have hnx : RgIs B0 bw A c objs lo hi L kids at_ (x.ask p.id) b17 w8.heap.size (.slice (some ⟨bb, b5, none⟩) kids.length ck) vp w (j + 1) (a + k.size) w12 := by
                            refine ⟨⟨va8, vd8, vp8, parts8, by rw [HSN.out]; exact hwk8, fun g hg hp => ?_, WS.trans HMM.out hm8' HRR.out, rowOf_trans HRR.out hr8 HMM.out.size⟩, by rw [HST.out, HG.out.eqn]; omega, hbx8, hown8⟩
                            rcases hr8 g hp with h | h
                            · exact HAP.out g hg h
                            · have := (HG.out.own.lt g hg).2; simp at h; omega
                          have HNXT := Lib.hid hnx
                          clear hnx hm8 hm8' hbx8 hown8 hwk8 hr8 c0 c1 z0 z2
                          go_wp2_with fail
                          go_roundw
                          case rel => exact ⟨j + 1, a + k.size, by go_num, rfl, by omega, HNXT⟩
                          case measure => simp [intOf]; omega
                        · have hjk : j = kids.length := by omega
                          have j1 : ¬ (j : Int) < (kids.length : Int) := by omega
                          obtain ⟨va7, vd7, vp7, parts7, hwk7, hap7, hmm7, hrr7⟩ := HG.out.ex
                          rw [hjk, List.take_length, HY4.out] at hwk7
                          have HWK := Lib.hid hwk7
                          have HMM := Lib.hid hmm7
                          have HRR := Lib.hid hrr7
                          clear hwk7 hap7 hmm7 hrr7
                          go_wp2_with fail
                          first | go_end0 | refine bodyPost_ret (results_none rfl _ _ _) rfl ?_
                          unfold GoPost
                          exact ⟨rfl, _, _, _, _, HWK.out, HMM.out, HRR.out⟩
                    · have b3 : (L == level) = false := by simpa using h4
                      have b4 : (L != level) = true := by simpa using h4
                      rw [if_neg (fun h => by rcases h.2.2 with h | h; omega; exact h4 h)] at hy
                      dsimp only at hy
                      clear h1 h4
                      subst hy
                      go_wp2_with fail
                      refine (fail_calls 101 (HW10.out)).mono ?_
                      rintro e w18 ⟨rfl, rfl⟩
                      have hsb := WkIs.setBad (HW10.out) 101
                      have HSB1 := Lib.hid hsb.1
                      have HSB2 := Lib.hid (WS.trans (HM10.out) hsb.2 (rowOf_same rfl))
                      clear hsb
                      go_wp2_with fail
                      first | go_end0 | refine bodyPost_ret (results_none rfl _ _ _) rfl ?_
                      unfold GoPost
                      exact ⟨rfl, _, _, _, _, HSB1.out, HSB2.out, rowOf_same rfl⟩
                · have b1 : (z == p.size) = false := by simpa using h1
                  have b2 : (z != p.size) = true := by simpa using h1
                  rw [if_neg (fun h => h1 h.2.1)] at hy
                  dsimp only at hy
                  clear h1
                  subst hy
                  go_wp2_with fail
                  refine (fail_calls 101 (HW10.out)).mono ?_
                  rintro e w18 ⟨rfl, rfl⟩
                  have hsb := WkIs.setBad (HW10.out) 101
                  have HSB1 := Lib.hid hsb.1
                  have HSB2 := Lib.hid (WS.trans (HM10.out) hsb.2 (rowOf_same rfl))
                  clear hsb
                  go_wp2_with fail
                  first | go_end0 | refine bodyPost_ret (results_none rfl _ _ _) rfl ?_
                  unfold GoPost
                  exact ⟨rfl, _, _, _, _, HSB1.out, HSB2.out, rowOf_same rfl⟩
    · have hrd : Y = x := by rw [← HY.out]; unfold rdB; rw [if_pos (.inr hme)]
      subst hrd
      have b0 : (Y.bad != 0) = false := by simpa using hb0
      by_cases me1 : at_ < hi
      · have me3 : ¬ hi ≤ at_ := by omega
        have me4 : at_ + p.size ≤ lo := by omega
        go_enter Tryd.func35, Tryd.ntmps35
        go_wp2_with fail
        go_end0
        unfold GoPost
        exact ⟨rfl, _, _, _, _, H1.out, HM1.out, rowOf_same rfl⟩
      · have me3 : hi ≤ at_ := by omega
        go_enter Tryd.func35, Tryd.ntmps35
        go_wp2_with fail
        go_end0
        unfold GoPost
        exact ⟨rfl, _, _, _, _, H1.out, HM1.out, rowOf_same rfl⟩
  · have hrd : Y = x := by rw [← HY.out]; unfold rdB; rw [if_pos (.inl hb0)]
    subst hrd
    have b0 : (Y.bad != 0) = true := by simpa using hb0
    go_enter Tryd.func35, Tryd.ntmps35
    go_wp2_with fail
    go_end0
    unfold GoPost
    exact ⟨rfl, _, _, _, _, H1.out, HM1.out, rowOf_same rfl⟩
end Blob
end Go.Proofs.YthgcjfpaekpeeaaDoor
