/- Joined texts: ProB. -/
import Derived.Test.YtpoljpjcmigobaaDoorJ23
import Derived.Deep.Cut
/- The walks of prolly's many and fits. -/
namespace Go.Proofs.YtpoljpjcmigobaaDoor
set_option linter.unusedVariables false
set_option linter.unusedSimpArgs false
open Go.RowKit K Wire
namespace Prolly
open Go.Proofs.YtpoljpjcmigobaaDoor.Obj Go.Proofs.YtpoljpjcmigobaaDoor.Blob

structure ObsOk (objs : List Ob) : Prop where
  many : objs.length ≤ 100000000
  small : ∀ o ∈ objs, o.bytes.size ≤ 100000000
theorem findL_mem {objs : List Ob} {id b : ByteArray} : findL objs id = some b → ∃ o ∈ objs, o.bytes = b := by
  induction objs with
  | nil => intro h; cases h
  | cons o l ih =>
    intro h
    unfold findL at h
    split at h
    · injection h with h; exact ⟨o, List.mem_cons_self .., h⟩
    · obtain ⟨x, hx, hb⟩ := ih h; exact ⟨x, List.mem_cons_of_mem _ hx, hb⟩
theorem manyL_append (a b : List Link) : manyL (a ++ b) = manyL a + manyL b := by simp [manyL]
theorem many_take {l : List Link} (h : ∀ k ∈ l, 1 ≤ k.many ∧ k.many ≤ 4096) : ∀ j, 0 ≤ manyL (l.take j) ∧ manyL (l.take j) ≤ 4096 * (l.length : Int) := by
  have h1 : ∀ l' : List Link, (∀ k ∈ l', 1 ≤ k.many ∧ k.many ≤ 4096) → 0 ≤ manyL l' ∧ manyL l' ≤ 4096 * (l'.length : Int) := by
    intro l'
    induction l' with
    | nil => intro _; simp [manyL]
    | cons a l' ih =>
      intro h
      have h1 := ih (fun k hk => h k (List.mem_cons_of_mem _ hk))
      have h2 := h a (List.mem_cons_self ..)
      have e : manyL (a :: l') = a.many + manyL l' := by simp [manyL]
      simp only [List.length_cons]; omega
  intro j
  have := h1 (l.take j) (fun k hk => h k (List.mem_of_mem_take hk))
  rw [List.length_take] at this
  omega
theorem many_snoc {l : List Link} {j : Nat} (h : j < l.length) : manyL (l.take (j + 1)) = manyL (l.take j) + (l[j]).many := by
  rw [List.take_succ_eq_append_getElem h, manyL_append]; simp [manyL]
set_option maxRecDepth 100000 in
set_option maxHeartbeats 1000000 in
theorem many_calls (A : Option Addr) (c : Nat) (l : List Link) (w : World) (hA : Cells w A (l.flatMap lc)) (hc : l.length ≤ 64) (hs : ∀ k ∈ l, 1 ≤ k.many ∧ k.many ≤ 4096) :
    Calls Tryd.prog 30 #[.slice A l.length c] w fun e w' => e = .returned (.int .i64 (manyL l)) ∧ Mod (fun _ => False) w w' := by
  have HA := Lib.hid hA
  have HS := Lib.hid hs
  clear hA hs
  go_enter Tryd.func30, Tryd.ntmps30
  go_wp2_with fail
  go_loopw [3, 8] (fun n i wr => ∃ (k : Nat) (z : Int), i = .int .i64 k ∧ n = .int .i64 z ∧ k ≤ l.length ∧ Hid (z = manyL (l.take k)) ∧ Hid (Mod (fun _ => False) w wr)) (fun _ i _ => l.length - (intOf i).toNat)
  case atStart => exact ⟨0, 0, by go_num, rfl, by omega, Lib.hid (by simp [manyL]), Lib.hid (Mod.refl _ _)⟩
  case round =>
    obtain ⟨k, z, rfl, rfl, hk, HZ, HM⟩ := hrel
    by_cases hlt : k < l.length
    · have i1 : (k : Int) < (l.length : Int) := by omega
      rcases HA.out.keep HM.out (fun _ _ h => h) with h | ⟨ba, o, rfl, hcell⟩
      · have := flat_len lc_len l; rw [h] at this; simp at this; omega
      have x0 := hcell _ _ (flat_get lc_len l k 0 hlt (by omega))
      have x1 := hcell _ _ (flat_get lc_len l k 1 hlt (by omega))
      have x2 := hcell _ _ (flat_get lc_len l k 2 hlt (by omega))
      rw [Nat.add_zero] at x0
      rw [← Nat.add_assoc] at x1 x2
      have hbl : ba < wr.heap.size := World.block_lt_of_cell? wr _ x0
      have hst := many_snoc hlt
      have h0 := many_take HS.out k
      have h1 := many_take HS.out (k + 1)
      rw [hst] at h1
      rw [← HZ.out] at hst h0 h1
      generalize l[k] = p at *
      have HT := Lib.hid hst
      clear hcell hst
      go_wp2_with fail
      go_roundw
      case rel => exact ⟨k + 1, z + p.many, by go_num, rfl, by omega, Lib.hid HT.out.symm, Lib.hid (HM.out.alloc _)⟩
      case measure => simp [intOf]; omega
    · have hkl : k = l.length := by omega
      have i1 : ¬ (k : Int) < (l.length : Int) := by omega
      have hz := HZ.out
      rw [hkl, List.take_length] at hz
      have HZ2 := Lib.hid hz
      clear hz
      go_wp2_with fail
      go_ret
      exact ⟨by rw [HZ2.out]; rfl, HM.out⟩

/-- is a node as its link says? -/
def fitsB (ps : List Pair) (L : Int) (kids : List Link) (k : Link) (level : Int) : Bool :=
  if level < 0 then true else if level ≠ L then false
  else if level = 0 then decide (0 < ps.length ∧ (ps.length : Int) = k.many ∧ lastK ps = k.last)
  else decide (manyL kids = k.many ∧ lastL kids = k.last)
theorem lastK_at {ps : List Pair} (h : 0 < ps.length) : lastK ps = ps[ps.length - 1].key := by
  unfold lastK; simp [List.getD, show ps.length - 1 < ps.length by omega]
theorem lastL_at {ks : List Link} (h : 0 < ks.length) : lastL ks = ks[ks.length - 1].last := by
  unfold lastL; simp [List.getD, show ks.length - 1 < ks.length by omega]
set_option maxRecDepth 100000 in
set_option maxHeartbeats 2000000 in
theorem fits_calls (Ap Ak : Option Addr) (cp ck : Nat) (ps : List Pair) (L : Int) (kids : List Link) (k : Link) (level : Int) (w : World) (hP : Cells w Ap (ps.flatMap kc)) (hK : Cells w Ak (kids.flatMap lc))
    (hpl : ps.length ≤ 64) (hkl : kids.length ≤ 64) (hs : ∀ k ∈ kids, 1 ≤ k.many ∧ k.many ≤ 4096) (hne : L ≠ 0 → 0 < kids.length) :
    Calls Tryd.prog 68 #[.agg #[.slice Ap ps.length cp, .int .i64 L, .slice Ak kids.length ck], .agg #[.string k.last, .string k.id, .int .i64 k.many], .int .i64 level] w
      fun e w' => e = .returned (.bool (fitsB ps L kids k level)) ∧ Mod (fun _ => False) w w' := by
  obtain ⟨FB, hFB⟩ : ∃ FB, fitsB ps L kids k level = FB := ⟨_, rfl⟩
  rw [hFB]
  unfold fitsB at hFB
  generalize hnp : ps.length = np at *
  have hm0 := ((Mod.refl (fun _ => False) w).alloc (.cells #[.slice Ap np cp, .int .i64 L, .slice Ak kids.length ck] 80)).alloc (.cells #[.string k.last, .string k.id, .int .i64 k.many] 67)
  have hb0 : Has ((w.alloc (.cells #[.slice Ap np cp, .int .i64 L, .slice Ak kids.length ck] 80)).alloc (.cells #[.string k.last, .string k.id, .int .i64 k.many] 67)) w.heap.size [.slice Ap np cp, .int .i64 L, .slice Ak kids.length ck] 80 := (Has.new w _ _).alloc _
  have hb1 : Has ((w.alloc (.cells #[.slice Ap np cp, .int .i64 L, .slice Ak kids.length ck] 80)).alloc (.cells #[.string k.last, .string k.id, .int .i64 k.many] 67)) (w.heap.size + 1) [.string k.last, .string k.id, .int .i64 k.many] 67 := Has.lit (by simp)
  have hP0 := hP.keep hm0 (fun _ _ h => h)
  have hK0 := hK.keep hm0 (fun _ _ h => h)
  have HS := Lib.hid hs
  by_cases hl : level < 0
  · rw [if_pos hl] at hFB
    subst hFB
    clear hP hK hP0 hK0 hb0 hb1 hm0 hs
    go_enter Tryd.func68, Tryd.ntmps68
    go_wp2_with fail
    go_ret
    exact ⟨rfl, by (repeat (first | with_reducible exact Mod.refl _ _ | with_reducible apply Mod.drew | with_reducible apply Mod.drewN | with_reducible apply Mod.alloc | refine Mod.set1 ?_ (by first | exact rfl | simp) _ _))⟩
  rw [if_neg hl] at hFB
  have x1 := hb0.cell (o := 1) rfl
  by_cases hL : level = L
  · rw [if_neg (fun h => h hL)] at hFB
    subst hL
    by_cases h0 : level = 0
    · rw [if_pos h0] at hFB
      subst h0
      by_cases hz : np = 0
      · rw [decide_eq_false (fun h => by omega)] at hFB
        subst hFB
        subst hz
        have x0 := hb0.cell (o := 0) rfl
        clear hP hK hP0 hK0 hs
        go_enter Tryd.func68, Tryd.ntmps68
        go_wp2_with fail
        refine region_m (by kernel_rfl) ?_
        simp only [List.length_cons, List.length_nil, List.replicate]
        refine take0 (v := ?v1) (oi := ?o1) 0 ?hi1 (by kernel_rfl) (by kernel_rfl) (by kernel_rfl) ?hq1 ?hy1 ?_
        case hi1 => (simp only [List.getElem?_toArray, List.getElem?_cons_zero, List.getElem?_cons_succ]; rfl)
        case hq1 => exact fun _ _ _ h => h
        case hy1 => first | (refine ry_not ?_; rfl) | (refine ry_run (by rfl) (fun w' hw' => ?_); go_simp; try rfl)
        simp only [Act.put, List.setIfInBounds_toArray, List.set_cons_zero, List.set_cons_succ]
        refine take0 (v := ?v2) (oi := ?o2) 1 ?hi2 (by kernel_rfl) (by kernel_rfl) (by kernel_rfl) ?hq2 ?hy2 ?_
        case hi2 => (simp only [List.getElem?_toArray, List.getElem?_cons_zero, List.getElem?_cons_succ]; rfl)
        case hq2 => exact fun _ _ _ h => h
        case hy2 => first | (refine ry_not ?_; rfl) | (refine ry_run (by rfl) (fun w' hw' => ?_); go_simp; try rfl)
        simp only [Act.put, List.setIfInBounds_toArray, List.set_cons_zero, List.set_cons_succ]
        refine take0 (v := ?v3) (oi := ?o3) 2 ?hi3 (by kernel_rfl) (by kernel_rfl) (by kernel_rfl) ?hq3 ?hy3 ?_
        case hi3 => (simp only [List.getElem?_toArray, List.getElem?_cons_zero, List.getElem?_cons_succ]; rfl)
        case hq3 => exact fun _ _ _ h => h
        case hy3 => first | (refine ry_not ?_; rfl) | (refine ry_run (by rfl) (fun w' hw' => ?_); go_simp; try rfl)
        simp only [Act.put, List.setIfInBounds_toArray, List.set_cons_zero, List.set_cons_succ]
        refine take0 (v := ?v4) (oi := ?o4) 3 ?hi4 (by kernel_rfl) (by kernel_rfl) (by kernel_rfl) ?hq4 ?hy4 ?_
        case hi4 => (simp only [List.getElem?_toArray, List.getElem?_cons_zero, List.getElem?_cons_succ]; rfl)
        case hq4 => exact fun _ _ _ h => h
        case hy4 => first | (refine ry_not ?_; rfl) | (refine ry_run (by rfl) (fun w' hw' => ?_); go_simp; try rfl)
        simp only [Act.put, List.setIfInBounds_toArray, List.set_cons_zero, List.set_cons_succ]
        refine take0 (v := ?v5) (oi := ?o5) 4 ?hi5 (by kernel_rfl) (by kernel_rfl) (by kernel_rfl) ?hq5 ?hy5 ?_
        case hi5 => (simp only [List.getElem?_toArray, List.getElem?_cons_zero, List.getElem?_cons_succ]; rfl)
        case hq5 => exact fun _ _ _ h => h
        case hy5 => first | (refine ry_not ?_; rfl) | (refine ry_run (by rfl) (fun w' hw' => ?_); go_simp; try rfl)
        simp only [Act.put, List.setIfInBounds_toArray, List.set_cons_zero, List.set_cons_succ]
        refine take0 (v := ?v6) (oi := ?o6) 5 ?hi6 (by kernel_rfl) (by kernel_rfl) (by kernel_rfl) ?hq6 ?hy6 ?_
        case hi6 => (simp only [List.getElem?_toArray, List.getElem?_cons_zero, List.getElem?_cons_succ]; rfl)
        case hq6 => exact fun _ _ _ h => h
        case hy6 => first | (refine ry_not ?_; rfl) | (refine ry_run (by rfl) (fun w' hw' => ?_); go_simp; try rfl)
        simp only [Act.put, List.setIfInBounds_toArray, List.set_cons_zero, List.set_cons_succ]
        refine take0 (v := ?v7) (oi := ?o7) 6 ?hi7 (by kernel_rfl) (by kernel_rfl) (by kernel_rfl) ?hq7 ?hy7 ?_
        case hi7 => (simp only [List.getElem?_toArray, List.getElem?_cons_zero, List.getElem?_cons_succ]; rfl)
        case hq7 => exact fun _ _ _ h => h
        case hy7 => first | (refine ry_not ?_; rfl) | (refine ry_run (by rfl) (fun w' hw' => ?_); go_simp; try rfl)
        simp only [Act.put, List.setIfInBounds_toArray, List.set_cons_zero, List.set_cons_succ]
        refine take0 (v := ?v8) (oi := ?o8) 7 ?hi8 (by kernel_rfl) (by kernel_rfl) (by kernel_rfl) ?hq8 ?hy8 ?_
        case hi8 => (simp only [List.getElem?_toArray, List.getElem?_cons_zero, List.getElem?_cons_succ]; rfl)
        case hq8 => exact fun _ _ _ h => h
        case hy8 => first | (refine ry_not ?_; rfl) | (refine ry_run (by rfl) (fun w' hw' => ?_); go_simp; try rfl)
        simp only [Act.put, List.setIfInBounds_toArray, List.set_cons_zero, List.set_cons_succ]
        refine take0 (v := ?v9) (oi := ?o9) 8 ?hi9 (by kernel_rfl) (by kernel_rfl) (by kernel_rfl) ?hq9 ?hy9 ?_
        case hi9 => (simp only [List.getElem?_toArray, List.getElem?_cons_zero, List.getElem?_cons_succ]; rfl)
        case hq9 => exact fun _ _ _ h => h
        case hy9 => first | (refine ry_not ?_; rfl) | (refine ry_run (by rfl) (fun w' hw' => ?_); go_simp; try rfl)
        simp only [Act.put, List.setIfInBounds_toArray, List.set_cons_zero, List.set_cons_succ]
        refine take0 (v := ?v10) (oi := ?o10) 9 ?hi10 (by kernel_rfl) (by kernel_rfl) (by kernel_rfl) ?hq10 ?hy10 ?_
        case hi10 => (simp only [List.getElem?_toArray, List.getElem?_cons_zero, List.getElem?_cons_succ]; rfl)
        case hq10 => exact fun _ _ _ h => h
        case hy10 => first | (refine ry_not ?_; rfl) | (refine ry_run (by rfl) (fun w' hw' => ?_); go_simp; try rfl)
        simp only [Act.put, List.setIfInBounds_toArray, List.set_cons_zero, List.set_cons_succ]
        refine take0 (v := ?v11) (oi := ?o11) 10 ?hi11 (by kernel_rfl) (by kernel_rfl) (by kernel_rfl) ?hq11 ?hy11 ?_
        case hi11 => (simp only [List.getElem?_toArray, List.getElem?_cons_zero, List.getElem?_cons_succ]; rfl)
        case hq11 => exact fun _ _ _ h => h
        case hy11 => first | (refine ry_not ?_; rfl) | (refine ry_run (by rfl) (fun w' hw' => ?_); go_simp; try rfl)
        simp only [Act.put, List.setIfInBounds_toArray, List.set_cons_zero, List.set_cons_succ]
        refine take0 (v := ?v12) (oi := ?o12) 11 ?hi12 (by kernel_rfl) (by kernel_rfl) (by kernel_rfl) ?hq12 ?hy12 ?_
        case hi12 => (simp only [List.getElem?_toArray, List.getElem?_cons_zero, List.getElem?_cons_succ]; rfl)
        case hq12 => exact fun _ _ _ h => h
        case hy12 => first | (refine ry_not ?_; rfl) | (refine ry_run (by rfl) (fun w' hw' => ?_); go_simp; try rfl)
        simp only [Act.put, List.setIfInBounds_toArray, List.set_cons_zero, List.set_cons_succ]
        refine take0 (v := ?v13) (oi := ?o13) 12 ?hi13 (by kernel_rfl) (by kernel_rfl) (by kernel_rfl) ?hq13 ?hy13 ?_
        case hi13 => (simp only [List.getElem?_toArray, List.getElem?_cons_zero, List.getElem?_cons_succ]; rfl)
        case hq13 => exact fun _ _ _ h => h
        case hy13 => first | (refine ry_not ?_; rfl) | (refine ry_run (by rfl) (fun w' hw' => ?_); go_simp; try rfl)
        simp only [Act.put, List.setIfInBounds_toArray, List.set_cons_zero, List.set_cons_succ]
        refine take0 (v := ?v14) (oi := ?o14) 13 ?hi14 (by kernel_rfl) (by kernel_rfl) (by kernel_rfl) ?hq14 ?hy14 ?_
        case hi14 => (simp only [List.getElem?_toArray, List.getElem?_cons_zero, List.getElem?_cons_succ]; rfl)
        case hq14 => exact fun _ _ _ h => h
        case hy14 => first | (refine ry_not ?_; rfl) | (refine ry_run (by rfl) (fun w' hw' => ?_); go_simp; try rfl)
        simp only [Act.put, List.setIfInBounds_toArray, List.set_cons_zero, List.set_cons_succ]
        refine take0 (v := ?v15) (oi := ?o15) 14 ?hi15 (by kernel_rfl) (by kernel_rfl) (by kernel_rfl) ?hq15 ?hy15 ?_
        case hi15 => (simp only [List.getElem?_toArray, List.getElem?_cons_zero, List.getElem?_cons_succ]; rfl)
        case hq15 => exact fun _ _ _ h => h
        case hy15 => first | (refine ry_not ?_; rfl) | (refine ry_run (by rfl) (fun w' hw' => ?_); go_simp; try rfl)
        simp only [Act.put, List.setIfInBounds_toArray, List.set_cons_zero, List.set_cons_succ]
        refine take0 (v := ?v16) (oi := ?o16) 15 ?hi16 (by kernel_rfl) (by kernel_rfl) (by kernel_rfl) ?hq16 ?hy16 ?_
        case hi16 => (simp only [List.getElem?_toArray, List.getElem?_cons_zero, List.getElem?_cons_succ]; rfl)
        case hq16 => exact fun _ _ _ h => h
        case hy16 => first | (refine ry_not ?_; rfl) | (refine ry_run (by rfl) (fun w' hw' => ?_); go_simp; try rfl)
        simp only [Act.put, List.setIfInBounds_toArray, List.set_cons_zero, List.set_cons_succ]
        refine take0 (v := ?v17) (oi := ?o17) 16 ?hi17 (by kernel_rfl) (by kernel_rfl) (by kernel_rfl) ?hq17 ?hy17 ?_
        case hi17 => (simp only [List.getElem?_toArray, List.getElem?_cons_zero, List.getElem?_cons_succ]; rfl)
        case hq17 => exact fun _ _ _ h => h
        case hy17 => first | (refine ry_not ?_; rfl) | (refine ry_run (by rfl) (fun w' hw' => ?_); go_simp; try rfl)
        simp only [Act.put, List.setIfInBounds_toArray, List.set_cons_zero, List.set_cons_succ]
        refine take0 (v := ?v18) (oi := ?o18) 17 ?hi18 (by kernel_rfl) (by kernel_rfl) (by kernel_rfl) ?hq18 ?hy18 ?_
        case hi18 => (simp only [List.getElem?_toArray, List.getElem?_cons_zero, List.getElem?_cons_succ]; rfl)
        case hq18 => exact fun _ _ _ h => h
        case hy18 => first | (refine ry_not ?_; rfl) | (refine ry_run (by rfl) (fun w' hw' => ?_); go_simp; try rfl)
        simp only [Act.put, List.setIfInBounds_toArray, List.set_cons_zero, List.set_cons_succ]
        refine take0 (v := ?v19) (oi := ?o19) 18 ?hi19 (by kernel_rfl) (by kernel_rfl) (by kernel_rfl) ?hq19 ?hy19 ?_
        case hi19 => (simp only [List.getElem?_toArray, List.getElem?_cons_zero, List.getElem?_cons_succ]; rfl)
        case hq19 => exact fun _ _ _ h => h
        case hy19 => first | (refine ry_not ?_; rfl) | (refine ry_run (by rfl) (fun w' hw' => ?_); go_simp; try rfl)
        simp only [Act.put, List.setIfInBounds_toArray, List.set_cons_zero, List.set_cons_succ]
        refine take0 (v := ?v20) (oi := ?o20) 19 ?hi20 (by kernel_rfl) (by kernel_rfl) (by kernel_rfl) ?hq20 ?hy20 ?_
        case hi20 => (simp only [List.getElem?_toArray, List.getElem?_cons_zero, List.getElem?_cons_succ]; rfl)
        case hq20 => exact fun _ _ _ h => h
        case hy20 => first | (refine ry_not ?_; rfl) | (refine ry_run (by rfl) (fun w' hw' => ?_); go_simp; try rfl)
        simp only [Act.put, List.setIfInBounds_toArray, List.set_cons_zero, List.set_cons_succ]
        refine take0 (v := ?v21) (oi := ?o21) 20 ?hi21 (by kernel_rfl) (by kernel_rfl) (by kernel_rfl) ?hq21 ?hy21 ?_
        case hi21 => (simp only [List.getElem?_toArray, List.getElem?_cons_zero, List.getElem?_cons_succ]; rfl)
        case hq21 => exact fun _ _ _ h => h
        case hy21 => first | (refine ry_not ?_; rfl) | (refine ry_run (by rfl) (fun w' hw' => ?_); go_simp; try rfl)
        simp only [Act.put, List.setIfInBounds_toArray, List.set_cons_zero, List.set_cons_succ]
        refine wpAnyM_done (by kernel_rfl) ?_
        go_wp2_with fail
        go_ret
        exact ⟨rfl, by (repeat (first | with_reducible exact Mod.refl _ _ | with_reducible apply Mod.drew | with_reducible apply Mod.drewN | with_reducible apply Mod.alloc | refine Mod.set1 ?_ (by first | exact rfl | simp) _ _))⟩
      · have hpz : 0 < ps.length := by omega
        obtain ⟨n, rfl⟩ : ∃ n, np = n + 1 := ⟨np - 1, by omega⟩
        have hlk := lastK_at hpz
        rw [hlk] at hFB
        rcases hP0 with h | ⟨ba, o, rfl, hcell⟩
        · have := flat_len kc_len ps; rw [h] at this; simp at this; omega
        have y0 := hcell _ _ (flat_get kc_len ps (ps.length - 1) 0 (by omega) (by omega))
        obtain ⟨P, hPE⟩ : ∃ P, ps[ps.length - 1] = P := ⟨_, rfl⟩
        simp only [hPE] at y0 hFB
        rw [Nat.add_zero] at y0
        have hbl : ba < ((w.alloc (.cells #[.slice (some ⟨ba, o, none⟩) (n + 1) cp, .int .i64 0, .slice Ak kids.length ck] 80)).alloc (.cells #[.string k.last, .string k.id, .int .i64 k.many] 67)).heap.size := World.block_lt_of_cell? _ _ y0
        have x0 := hb0.cell (o := 0) rfl
        clear hcell hPE hlk
        rw [show ps.length - 1 = n by omega] at y0
        have fv0 := fun (w' : World) (mm : Mod0 ((w.alloc (.cells #[.slice (some ⟨ba, o, none⟩) (n + 1) cp, .int .i64 0, .slice Ak kids.length ck] 80)).alloc (.cells #[.string k.last, .string k.id, .int .i64 k.many] 67)).drew w') => ((Mod.of_drew_l mm).cell (p := ⟨w.heap.size, 0, none⟩) hb0.lt (fun h => h)).trans x0
        have fv1 := fun (w' : World) (mm : Mod0 ((w.alloc (.cells #[.slice (some ⟨ba, o, none⟩) (n + 1) cp, .int .i64 0, .slice Ak kids.length ck] 80)).alloc (.cells #[.string k.last, .string k.id, .int .i64 k.many] 67)).drew w') => ((Mod.of_drew_l mm).cell (p := ⟨w.heap.size + 1, 2, none⟩) hb1.lt (fun h => h)).trans (hb1.cell (o := 2) rfl)
        have fv2 := fun (w' : World) (mm : Mod0 ((w.alloc (.cells #[.slice (some ⟨ba, o, none⟩) (n + 1) cp, .int .i64 0, .slice Ak kids.length ck] 80)).alloc (.cells #[.string k.last, .string k.id, .int .i64 k.many] 67)).drew w') => ((Mod.of_drew_l mm).cell (p := ⟨w.heap.size + 1, 0, none⟩) hb1.lt (fun h => h)).trans (hb1.cell (o := 0) rfl)
        have fv3 := fun (w' : World) (mm : Mod0 ((w.alloc (.cells #[.slice (some ⟨ba, o, none⟩) (n + 1) cp, .int .i64 0, .slice Ak kids.length ck] 80)).alloc (.cells #[.string k.last, .string k.id, .int .i64 k.many] 67)).drew w') => ((Mod.of_drew_l mm).cell (p := ⟨ba, o + n * 2, none⟩) hbl (fun h => h)).trans y0
        have w1 : IntKind.i64.wrap (n : Int) = (n : Int) := by rw [IntKind.wrap_i64]; omega
        have w2 : IntKind.i64.wrap ((n : Int) + 1) = (n : Int) + 1 := by rw [IntKind.wrap_i64]; omega
        have n0 : (0 : Int) ≤ (n : Int) := by omega
        have n1 : (n : Int) < (n : Int) + 1 := by omega
        have nc : (((n + 1 : Nat) : Int)) = (n : Int) + 1 := by omega
        rw [nc] at hFB
        clear hP hK hK0 hs hb0 hb1 x0 y0
        by_cases hm : (n : Int) + 1 = k.many
        · have b1 : ((n : Int) + 1 == k.many) = true := by simpa using hm
          by_cases he : P.key = k.last
          · have b2 : (P.key.toList == k.last.toList) = true := (Lib.bytes_beq_iff _ _).2 he
            rw [decide_eq_true ⟨by omega, hm, he⟩] at hFB
            subst hFB
            clear he hm
            go_enter Tryd.func68, Tryd.ntmps68
            go_wp2_with fail
            refine region_m (by kernel_rfl) ?_
            simp only [List.length_cons, List.length_nil, List.replicate]
            refine take0 (v := ?v22) (oi := ?o22) 0 ?hi22 (by kernel_rfl) (by kernel_rfl) (by kernel_rfl) ?hq22 ?hy22 ?_
            case hi22 => (simp only [List.getElem?_toArray, List.getElem?_cons_zero, List.getElem?_cons_succ]; rfl)
            case hq22 => exact fun _ _ _ h => h
            case hy22 => first | (refine ry_not ?_; rfl) | (refine ry_run (by rfl) (fun w' hw' => ?_); go_simp; try rfl)
            simp only [Act.put, List.setIfInBounds_toArray, List.set_cons_zero, List.set_cons_succ]
            refine take0 (v := ?v23) (oi := ?o23) 1 ?hi23 (by kernel_rfl) (by kernel_rfl) (by kernel_rfl) ?hq23 ?hy23 ?_
            case hi23 => (simp only [List.getElem?_toArray, List.getElem?_cons_zero, List.getElem?_cons_succ]; rfl)
            case hq23 => exact fun _ _ _ h => h
            case hy23 => first | (refine ry_not ?_; rfl) | (refine ry_run (by rfl) (fun w' hw' => ?_); go_simp; try rfl)
            simp only [Act.put, List.setIfInBounds_toArray, List.set_cons_zero, List.set_cons_succ]
            refine take0 (v := ?v24) (oi := ?o24) 2 ?hi24 (by kernel_rfl) (by kernel_rfl) (by kernel_rfl) ?hq24 ?hy24 ?_
            case hi24 => (simp only [List.getElem?_toArray, List.getElem?_cons_zero, List.getElem?_cons_succ]; rfl)
            case hq24 => exact fun _ _ _ h => h
            case hy24 => first | (refine ry_not ?_; rfl) | (refine ry_run (by rfl) (fun w' hw' => ?_); go_simp; try rfl)
            simp only [Act.put, List.setIfInBounds_toArray, List.set_cons_zero, List.set_cons_succ]
            refine take0 (v := ?v25) (oi := ?o25) 3 ?hi25 (by kernel_rfl) (by kernel_rfl) (by kernel_rfl) ?hq25 ?hy25 ?_
            case hi25 => (simp only [List.getElem?_toArray, List.getElem?_cons_zero, List.getElem?_cons_succ]; rfl)
            case hq25 => exact fun _ _ _ h => h
            case hy25 => first | (refine ry_not ?_; rfl) | (refine ry_run (by rfl) (fun w' hw' => ?_); go_simp; try rfl)
            simp only [Act.put, List.setIfInBounds_toArray, List.set_cons_zero, List.set_cons_succ]
            refine take0 (v := ?v26) (oi := ?o26) 4 ?hi26 (by kernel_rfl) (by kernel_rfl) (by kernel_rfl) ?hq26 ?hy26 ?_
            case hi26 => (simp only [List.getElem?_toArray, List.getElem?_cons_zero, List.getElem?_cons_succ]; rfl)
            case hq26 => exact fun _ _ _ h => h
            case hy26 => first | (refine ry_not ?_; rfl) | (refine ry_run (by rfl) (fun w' hw' => ?_); go_simp; try rfl)
            simp only [Act.put, List.setIfInBounds_toArray, List.set_cons_zero, List.set_cons_succ]
            refine take0 (v := ?v27) (oi := ?o27) 5 ?hi27 (by kernel_rfl) (by kernel_rfl) (by kernel_rfl) ?hq27 ?hy27 ?_
            case hi27 => (simp only [List.getElem?_toArray, List.getElem?_cons_zero, List.getElem?_cons_succ]; rfl)
            case hq27 => exact fun _ _ _ h => h
            case hy27 => first | (refine ry_not ?_; rfl) | (refine ry_run (by rfl) (fun w' hw' => ?_); go_simp; try rfl)
            simp only [Act.put, List.setIfInBounds_toArray, List.set_cons_zero, List.set_cons_succ]
            refine take0 (v := ?v28) (oi := ?o28) 6 ?hi28 (by kernel_rfl) (by kernel_rfl) (by kernel_rfl) ?hq28 ?hy28 ?_
            case hi28 => (simp only [List.getElem?_toArray, List.getElem?_cons_zero, List.getElem?_cons_succ]; rfl)
            case hq28 => exact fun _ _ _ h => h
            case hy28 => first | (refine ry_not ?_; rfl) | (refine ry_run (by rfl) (fun w' hw' => ?_); go_simp; try rfl)
            simp only [Act.put, List.setIfInBounds_toArray, List.set_cons_zero, List.set_cons_succ]
            refine take0 (v := ?v29) (oi := ?o29) 7 ?hi29 (by kernel_rfl) (by kernel_rfl) (by kernel_rfl) ?hq29 ?hy29 ?_
            case hi29 => (simp only [List.getElem?_toArray, List.getElem?_cons_zero, List.getElem?_cons_succ]; rfl)
            case hq29 => exact fun _ _ _ h => h
            case hy29 => first | (refine ry_not ?_; rfl) | (refine ry_run (by rfl) (fun w' hw' => ?_); go_simp; try rfl)
            simp only [Act.put, List.setIfInBounds_toArray, List.set_cons_zero, List.set_cons_succ]
            refine take0 (v := ?v30) (oi := ?o30) 8 ?hi30 (by kernel_rfl) (by kernel_rfl) (by kernel_rfl) ?hq30 ?hy30 ?_
            case hi30 => (simp only [List.getElem?_toArray, List.getElem?_cons_zero, List.getElem?_cons_succ]; rfl)
            case hq30 => exact fun _ _ _ h => h
            case hy30 => first | (refine ry_not ?_; rfl) | (refine ry_run (by rfl) (fun w' hw' => ?_); go_simp; try rfl)
            simp only [Act.put, List.setIfInBounds_toArray, List.set_cons_zero, List.set_cons_succ]
            refine take0 (v := ?v31) (oi := ?o31) 9 ?hi31 (by kernel_rfl) (by kernel_rfl) (by kernel_rfl) ?hq31 ?hy31 ?_
            case hi31 => (simp only [List.getElem?_toArray, List.getElem?_cons_zero, List.getElem?_cons_succ]; rfl)
            case hq31 => exact fun _ _ _ h => h
            case hy31 => first | (refine ry_not ?_; rfl) | (refine ry_run (by rfl) (fun w' hw' => ?_); go_simp; try rfl)
            simp only [Act.put, List.setIfInBounds_toArray, List.set_cons_zero, List.set_cons_succ]
            refine take0 (v := ?v32) (oi := ?o32) 10 ?hi32 (by kernel_rfl) (by kernel_rfl) (by kernel_rfl) ?hq32 ?hy32 ?_
            case hi32 => (simp only [List.getElem?_toArray, List.getElem?_cons_zero, List.getElem?_cons_succ]; rfl)
            case hq32 => exact fun _ _ _ h => h
            case hy32 => first | (refine ry_not ?_; rfl) | (refine ry_run (by rfl) (fun w' hw' => ?_); go_simp; try rfl)
            simp only [Act.put, List.setIfInBounds_toArray, List.set_cons_zero, List.set_cons_succ]
            refine take0 (v := ?v33) (oi := ?o33) 11 ?hi33 (by kernel_rfl) (by kernel_rfl) (by kernel_rfl) ?hq33 ?hy33 ?_
            case hi33 => (simp only [List.getElem?_toArray, List.getElem?_cons_zero, List.getElem?_cons_succ]; rfl)
            case hq33 => exact fun _ _ _ h => h
            case hy33 => first | (refine ry_not ?_; rfl) | (refine ry_run (by rfl) (fun w' hw' => ?_); go_simp; try rfl)
            simp only [Act.put, List.setIfInBounds_toArray, List.set_cons_zero, List.set_cons_succ]
            refine take0 (v := ?v34) (oi := ?o34) 12 ?hi34 (by kernel_rfl) (by kernel_rfl) (by kernel_rfl) ?hq34 ?hy34 ?_
            case hi34 => (simp only [List.getElem?_toArray, List.getElem?_cons_zero, List.getElem?_cons_succ]; rfl)
            case hq34 => exact fun _ _ _ h => h
            case hy34 => first | (refine ry_not ?_; rfl) | (refine ry_run (by rfl) (fun w' hw' => ?_); go_simp; try rfl)
            simp only [Act.put, List.setIfInBounds_toArray, List.set_cons_zero, List.set_cons_succ]
            refine take0 (v := ?v35) (oi := ?o35) 13 ?hi35 (by kernel_rfl) (by kernel_rfl) (by kernel_rfl) ?hq35 ?hy35 ?_
            case hi35 => (simp only [List.getElem?_toArray, List.getElem?_cons_zero, List.getElem?_cons_succ]; rfl)
            case hq35 => exact fun _ _ _ h => h
            case hy35 => first | (refine ry_not ?_; rfl) | (refine ry_run (by rfl) (fun w' hw' => ?_); go_simp; try rfl)
            simp only [Act.put, List.setIfInBounds_toArray, List.set_cons_zero, List.set_cons_succ]
            refine take0 (v := ?v36) (oi := ?o36) 14 ?hi36 (by kernel_rfl) (by kernel_rfl) (by kernel_rfl) ?hq36 ?hy36 ?_
            case hi36 => (simp only [List.getElem?_toArray, List.getElem?_cons_zero, List.getElem?_cons_succ]; rfl)
            case hq36 => exact fun _ _ _ h => h
            case hy36 => first | (refine ry_not ?_; rfl) | (refine ry_run (by rfl) (fun w' hw' => ?_); go_simp; try rfl)
            simp only [Act.put, List.setIfInBounds_toArray, List.set_cons_zero, List.set_cons_succ]
            refine take0 (v := ?v37) (oi := ?o37) 15 ?hi37 (by kernel_rfl) (by kernel_rfl) (by kernel_rfl) ?hq37 ?hy37 ?_
            case hi37 => (simp only [List.getElem?_toArray, List.getElem?_cons_zero, List.getElem?_cons_succ]; rfl)
            case hq37 => exact fun _ _ _ h => h
            case hy37 => first | (refine ry_not ?_; rfl) | (refine ry_run (by rfl) (fun w' hw' => ?_); go_simp; try rfl)
            simp only [Act.put, List.setIfInBounds_toArray, List.set_cons_zero, List.set_cons_succ]
            refine take0 (v := ?v38) (oi := ?o38) 16 ?hi38 (by kernel_rfl) (by kernel_rfl) (by kernel_rfl) ?hq38 ?hy38 ?_
            case hi38 => (simp only [List.getElem?_toArray, List.getElem?_cons_zero, List.getElem?_cons_succ]; rfl)
            case hq38 => exact fun _ _ _ h => h
            case hy38 => first | (refine ry_not ?_; rfl) | (refine ry_run (by rfl) (fun w' hw' => ?_); go_simp; try rfl)
            simp only [Act.put, List.setIfInBounds_toArray, List.set_cons_zero, List.set_cons_succ]
            refine take0 (v := ?v39) (oi := ?o39) 17 ?hi39 (by kernel_rfl) (by kernel_rfl) (by kernel_rfl) ?hq39 ?hy39 ?_
            case hi39 => (simp only [List.getElem?_toArray, List.getElem?_cons_zero, List.getElem?_cons_succ]; rfl)
            case hq39 => exact fun _ _ _ h => h
            case hy39 => first | (refine ry_not ?_; rfl) | (refine ry_run (by rfl) (fun w' hw' => ?_); go_simp; try rfl)
            simp only [Act.put, List.setIfInBounds_toArray, List.set_cons_zero, List.set_cons_succ]
            refine take0 (v := ?v40) (oi := ?o40) 18 ?hi40 (by kernel_rfl) (by kernel_rfl) (by kernel_rfl) ?hq40 ?hy40 ?_
            case hi40 => (simp only [List.getElem?_toArray, List.getElem?_cons_zero, List.getElem?_cons_succ]; rfl)
            case hq40 => exact fun _ _ _ h => h
            case hy40 => first | (refine ry_not ?_; rfl) | (refine ry_run (by rfl) (fun w' hw' => ?_); go_simp; try rfl)
            simp only [Act.put, List.setIfInBounds_toArray, List.set_cons_zero, List.set_cons_succ]
            refine take0 (v := ?v41) (oi := ?o41) 19 ?hi41 (by kernel_rfl) (by kernel_rfl) (by kernel_rfl) ?hq41 ?hy41 ?_
            case hi41 => (simp only [List.getElem?_toArray, List.getElem?_cons_zero, List.getElem?_cons_succ]; rfl)
            case hq41 => exact fun _ _ _ h => h
            case hy41 => first | (refine ry_not ?_; rfl) | (refine ry_run (by rfl) (fun w' hw' => ?_); go_simp; try rfl)
            simp only [Act.put, List.setIfInBounds_toArray, List.set_cons_zero, List.set_cons_succ]
            refine take0 (v := ?v42) (oi := ?o42) 20 ?hi42 (by kernel_rfl) (by kernel_rfl) (by kernel_rfl) ?hq42 ?hy42 ?_
            case hi42 => (simp only [List.getElem?_toArray, List.getElem?_cons_zero, List.getElem?_cons_succ]; rfl)
            case hq42 => exact fun _ _ _ h => h
            case hy42 => first | (refine ry_not ?_; rfl) | (refine ry_run (by rfl) (fun w' hw' => ?_); go_simp; try rfl)
            simp only [Act.put, List.setIfInBounds_toArray, List.set_cons_zero, List.set_cons_succ]
            refine wpAnyM_done (by kernel_rfl) ?_
            go_wp2_with fail
            go_ret
            exact ⟨rfl, by (repeat (first | with_reducible exact Mod.refl _ _ | with_reducible apply Mod.drew | with_reducible apply Mod.drewN | with_reducible apply Mod.alloc | refine Mod.set1 ?_ (by first | exact rfl | simp) _ _))⟩
          · have b2 : (P.key.toList == k.last.toList) = false := (Lib.bytes_beq_false_iff _ _).2 he
            rw [decide_eq_false (fun h => he h.2.2)] at hFB
            subst hFB
            clear he hm
            go_enter Tryd.func68, Tryd.ntmps68
            go_wp2_with fail
            refine region_m (by kernel_rfl) ?_
            simp only [List.length_cons, List.length_nil, List.replicate]
            refine take0 (v := ?v43) (oi := ?o43) 0 ?hi43 (by kernel_rfl) (by kernel_rfl) (by kernel_rfl) ?hq43 ?hy43 ?_
            case hi43 => (simp only [List.getElem?_toArray, List.getElem?_cons_zero, List.getElem?_cons_succ]; rfl)
            case hq43 => exact fun _ _ _ h => h
            case hy43 => first | (refine ry_not ?_; rfl) | (refine ry_run (by rfl) (fun w' hw' => ?_); go_simp; try rfl)
            simp only [Act.put, List.setIfInBounds_toArray, List.set_cons_zero, List.set_cons_succ]
            refine take0 (v := ?v44) (oi := ?o44) 1 ?hi44 (by kernel_rfl) (by kernel_rfl) (by kernel_rfl) ?hq44 ?hy44 ?_
            case hi44 => (simp only [List.getElem?_toArray, List.getElem?_cons_zero, List.getElem?_cons_succ]; rfl)
            case hq44 => exact fun _ _ _ h => h
            case hy44 => first | (refine ry_not ?_; rfl) | (refine ry_run (by rfl) (fun w' hw' => ?_); go_simp; try rfl)
            simp only [Act.put, List.setIfInBounds_toArray, List.set_cons_zero, List.set_cons_succ]
            refine take0 (v := ?v45) (oi := ?o45) 2 ?hi45 (by kernel_rfl) (by kernel_rfl) (by kernel_rfl) ?hq45 ?hy45 ?_
            case hi45 => (simp only [List.getElem?_toArray, List.getElem?_cons_zero, List.getElem?_cons_succ]; rfl)
            case hq45 => exact fun _ _ _ h => h
            case hy45 => first | (refine ry_not ?_; rfl) | (refine ry_run (by rfl) (fun w' hw' => ?_); go_simp; try rfl)
            simp only [Act.put, List.setIfInBounds_toArray, List.set_cons_zero, List.set_cons_succ]
            refine take0 (v := ?v46) (oi := ?o46) 3 ?hi46 (by kernel_rfl) (by kernel_rfl) (by kernel_rfl) ?hq46 ?hy46 ?_
            case hi46 => (simp only [List.getElem?_toArray, List.getElem?_cons_zero, List.getElem?_cons_succ]; rfl)
            case hq46 => exact fun _ _ _ h => h
            case hy46 => first | (refine ry_not ?_; rfl) | (refine ry_run (by rfl) (fun w' hw' => ?_); go_simp; try rfl)
            simp only [Act.put, List.setIfInBounds_toArray, List.set_cons_zero, List.set_cons_succ]
            refine take0 (v := ?v47) (oi := ?o47) 4 ?hi47 (by kernel_rfl) (by kernel_rfl) (by kernel_rfl) ?hq47 ?hy47 ?_
            case hi47 => (simp only [List.getElem?_toArray, List.getElem?_cons_zero, List.getElem?_cons_succ]; rfl)
            case hq47 => exact fun _ _ _ h => h
            case hy47 => first | (refine ry_not ?_; rfl) | (refine ry_run (by rfl) (fun w' hw' => ?_); go_simp; try rfl)
            simp only [Act.put, List.setIfInBounds_toArray, List.set_cons_zero, List.set_cons_succ]
            refine take0 (v := ?v48) (oi := ?o48) 5 ?hi48 (by kernel_rfl) (by kernel_rfl) (by kernel_rfl) ?hq48 ?hy48 ?_
            case hi48 => (simp only [List.getElem?_toArray, List.getElem?_cons_zero, List.getElem?_cons_succ]; rfl)
            case hq48 => exact fun _ _ _ h => h
            case hy48 => first | (refine ry_not ?_; rfl) | (refine ry_run (by rfl) (fun w' hw' => ?_); go_simp; try rfl)
            simp only [Act.put, List.setIfInBounds_toArray, List.set_cons_zero, List.set_cons_succ]
            refine take0 (v := ?v49) (oi := ?o49) 6 ?hi49 (by kernel_rfl) (by kernel_rfl) (by kernel_rfl) ?hq49 ?hy49 ?_
            case hi49 => (simp only [List.getElem?_toArray, List.getElem?_cons_zero, List.getElem?_cons_succ]; rfl)
            case hq49 => exact fun _ _ _ h => h
            case hy49 => first | (refine ry_not ?_; rfl) | (refine ry_run (by rfl) (fun w' hw' => ?_); go_simp; try rfl)
            simp only [Act.put, List.setIfInBounds_toArray, List.set_cons_zero, List.set_cons_succ]
            refine take0 (v := ?v50) (oi := ?o50) 7 ?hi50 (by kernel_rfl) (by kernel_rfl) (by kernel_rfl) ?hq50 ?hy50 ?_
            case hi50 => (simp only [List.getElem?_toArray, List.getElem?_cons_zero, List.getElem?_cons_succ]; rfl)
            case hq50 => exact fun _ _ _ h => h
            case hy50 => first | (refine ry_not ?_; rfl) | (refine ry_run (by rfl) (fun w' hw' => ?_); go_simp; try rfl)
            simp only [Act.put, List.setIfInBounds_toArray, List.set_cons_zero, List.set_cons_succ]
            refine take0 (v := ?v51) (oi := ?o51) 8 ?hi51 (by kernel_rfl) (by kernel_rfl) (by kernel_rfl) ?hq51 ?hy51 ?_
            case hi51 => (simp only [List.getElem?_toArray, List.getElem?_cons_zero, List.getElem?_cons_succ]; rfl)
            case hq51 => exact fun _ _ _ h => h
            case hy51 => first | (refine ry_not ?_; rfl) | (refine ry_run (by rfl) (fun w' hw' => ?_); go_simp; try rfl)
            simp only [Act.put, List.setIfInBounds_toArray, List.set_cons_zero, List.set_cons_succ]
            refine take0 (v := ?v52) (oi := ?o52) 9 ?hi52 (by kernel_rfl) (by kernel_rfl) (by kernel_rfl) ?hq52 ?hy52 ?_
            case hi52 => (simp only [List.getElem?_toArray, List.getElem?_cons_zero, List.getElem?_cons_succ]; rfl)
            case hq52 => exact fun _ _ _ h => h
            case hy52 => first | (refine ry_not ?_; rfl) | (refine ry_run (by rfl) (fun w' hw' => ?_); go_simp; try rfl)
            simp only [Act.put, List.setIfInBounds_toArray, List.set_cons_zero, List.set_cons_succ]
            refine take0 (v := ?v53) (oi := ?o53) 10 ?hi53 (by kernel_rfl) (by kernel_rfl) (by kernel_rfl) ?hq53 ?hy53 ?_
            case hi53 => (simp only [List.getElem?_toArray, List.getElem?_cons_zero, List.getElem?_cons_succ]; rfl)
            case hq53 => exact fun _ _ _ h => h
            case hy53 => first | (refine ry_not ?_; rfl) | (refine ry_run (by rfl) (fun w' hw' => ?_); go_simp; try rfl)
            simp only [Act.put, List.setIfInBounds_toArray, List.set_cons_zero, List.set_cons_succ]
            refine take0 (v := ?v54) (oi := ?o54) 11 ?hi54 (by kernel_rfl) (by kernel_rfl) (by kernel_rfl) ?hq54 ?hy54 ?_
            case hi54 => (simp only [List.getElem?_toArray, List.getElem?_cons_zero, List.getElem?_cons_succ]; rfl)
            case hq54 => exact fun _ _ _ h => h
            case hy54 => first | (refine ry_not ?_; rfl) | (refine ry_run (by rfl) (fun w' hw' => ?_); go_simp; try rfl)
            simp only [Act.put, List.setIfInBounds_toArray, List.set_cons_zero, List.set_cons_succ]
            refine take0 (v := ?v55) (oi := ?o55) 12 ?hi55 (by kernel_rfl) (by kernel_rfl) (by kernel_rfl) ?hq55 ?hy55 ?_
            case hi55 => (simp only [List.getElem?_toArray, List.getElem?_cons_zero, List.getElem?_cons_succ]; rfl)
            case hq55 => exact fun _ _ _ h => h
            case hy55 => first | (refine ry_not ?_; rfl) | (refine ry_run (by rfl) (fun w' hw' => ?_); go_simp; try rfl)
            simp only [Act.put, List.setIfInBounds_toArray, List.set_cons_zero, List.set_cons_succ]
            refine take0 (v := ?v56) (oi := ?o56) 13 ?hi56 (by kernel_rfl) (by kernel_rfl) (by kernel_rfl) ?hq56 ?hy56 ?_
            case hi56 => (simp only [List.getElem?_toArray, List.getElem?_cons_zero, List.getElem?_cons_succ]; rfl)
            case hq56 => exact fun _ _ _ h => h
            case hy56 => first | (refine ry_not ?_; rfl) | (refine ry_run (by rfl) (fun w' hw' => ?_); go_simp; try rfl)
            simp only [Act.put, List.setIfInBounds_toArray, List.set_cons_zero, List.set_cons_succ]
            refine take0 (v := ?v57) (oi := ?o57) 14 ?hi57 (by kernel_rfl) (by kernel_rfl) (by kernel_rfl) ?hq57 ?hy57 ?_
            case hi57 => (simp only [List.getElem?_toArray, List.getElem?_cons_zero, List.getElem?_cons_succ]; rfl)
            case hq57 => exact fun _ _ _ h => h
            case hy57 => first | (refine ry_not ?_; rfl) | (refine ry_run (by rfl) (fun w' hw' => ?_); go_simp; try rfl)
            simp only [Act.put, List.setIfInBounds_toArray, List.set_cons_zero, List.set_cons_succ]
            refine take0 (v := ?v58) (oi := ?o58) 15 ?hi58 (by kernel_rfl) (by kernel_rfl) (by kernel_rfl) ?hq58 ?hy58 ?_
            case hi58 => (simp only [List.getElem?_toArray, List.getElem?_cons_zero, List.getElem?_cons_succ]; rfl)
            case hq58 => exact fun _ _ _ h => h
            case hy58 => first | (refine ry_not ?_; rfl) | (refine ry_run (by rfl) (fun w' hw' => ?_); go_simp; try rfl)
            simp only [Act.put, List.setIfInBounds_toArray, List.set_cons_zero, List.set_cons_succ]
            refine take0 (v := ?v59) (oi := ?o59) 16 ?hi59 (by kernel_rfl) (by kernel_rfl) (by kernel_rfl) ?hq59 ?hy59 ?_
            case hi59 => (simp only [List.getElem?_toArray, List.getElem?_cons_zero, List.getElem?_cons_succ]; rfl)
            case hq59 => exact fun _ _ _ h => h
            case hy59 => first | (refine ry_not ?_; rfl) | (refine ry_run (by rfl) (fun w' hw' => ?_); go_simp; try rfl)
            simp only [Act.put, List.setIfInBounds_toArray, List.set_cons_zero, List.set_cons_succ]
            refine take0 (v := ?v60) (oi := ?o60) 17 ?hi60 (by kernel_rfl) (by kernel_rfl) (by kernel_rfl) ?hq60 ?hy60 ?_
            case hi60 => (simp only [List.getElem?_toArray, List.getElem?_cons_zero, List.getElem?_cons_succ]; rfl)
            case hq60 => exact fun _ _ _ h => h
            case hy60 => first | (refine ry_not ?_; rfl) | (refine ry_run (by rfl) (fun w' hw' => ?_); go_simp; try rfl)
            simp only [Act.put, List.setIfInBounds_toArray, List.set_cons_zero, List.set_cons_succ]
            refine take0 (v := ?v61) (oi := ?o61) 18 ?hi61 (by kernel_rfl) (by kernel_rfl) (by kernel_rfl) ?hq61 ?hy61 ?_
            case hi61 => (simp only [List.getElem?_toArray, List.getElem?_cons_zero, List.getElem?_cons_succ]; rfl)
            case hq61 => exact fun _ _ _ h => h
            case hy61 => first | (refine ry_not ?_; rfl) | (refine ry_run (by rfl) (fun w' hw' => ?_); go_simp; try rfl)
            simp only [Act.put, List.setIfInBounds_toArray, List.set_cons_zero, List.set_cons_succ]
            refine take0 (v := ?v62) (oi := ?o62) 19 ?hi62 (by kernel_rfl) (by kernel_rfl) (by kernel_rfl) ?hq62 ?hy62 ?_
            case hi62 => (simp only [List.getElem?_toArray, List.getElem?_cons_zero, List.getElem?_cons_succ]; rfl)
            case hq62 => exact fun _ _ _ h => h
            case hy62 => first | (refine ry_not ?_; rfl) | (refine ry_run (by rfl) (fun w' hw' => ?_); go_simp; try rfl)
            simp only [Act.put, List.setIfInBounds_toArray, List.set_cons_zero, List.set_cons_succ]
            refine take0 (v := ?v63) (oi := ?o63) 20 ?hi63 (by kernel_rfl) (by kernel_rfl) (by kernel_rfl) ?hq63 ?hy63 ?_
            case hi63 => (simp only [List.getElem?_toArray, List.getElem?_cons_zero, List.getElem?_cons_succ]; rfl)
            case hq63 => exact fun _ _ _ h => h
            case hy63 => first | (refine ry_not ?_; rfl) | (refine ry_run (by rfl) (fun w' hw' => ?_); go_simp; try rfl)
            simp only [Act.put, List.setIfInBounds_toArray, List.set_cons_zero, List.set_cons_succ]
            refine wpAnyM_done (by kernel_rfl) ?_
            go_wp2_with fail
            go_ret
            exact ⟨rfl, by (repeat (first | with_reducible exact Mod.refl _ _ | with_reducible apply Mod.drew | with_reducible apply Mod.drewN | with_reducible apply Mod.alloc | refine Mod.set1 ?_ (by first | exact rfl | simp) _ _))⟩
        · have b1 : ((n : Int) + 1 == k.many) = false := by simpa using hm
          rw [decide_eq_false (fun h => hm h.2.1)] at hFB
          subst hFB
          clear hm
          go_enter Tryd.func68, Tryd.ntmps68
          go_wp2_with fail
          refine region_m (by kernel_rfl) ?_
          simp only [List.length_cons, List.length_nil, List.replicate]
          refine take0 (v := ?v64) (oi := ?o64) 0 ?hi64 (by kernel_rfl) (by kernel_rfl) (by kernel_rfl) ?hq64 ?hy64 ?_
          case hi64 => (simp only [List.getElem?_toArray, List.getElem?_cons_zero, List.getElem?_cons_succ]; rfl)
          case hq64 => exact fun _ _ _ h => h
          case hy64 => first | (refine ry_not ?_; rfl) | (refine ry_run (by rfl) (fun w' hw' => ?_); go_simp; try rfl)
          simp only [Act.put, List.setIfInBounds_toArray, List.set_cons_zero, List.set_cons_succ]
          refine take0 (v := ?v65) (oi := ?o65) 1 ?hi65 (by kernel_rfl) (by kernel_rfl) (by kernel_rfl) ?hq65 ?hy65 ?_
          case hi65 => (simp only [List.getElem?_toArray, List.getElem?_cons_zero, List.getElem?_cons_succ]; rfl)
          case hq65 => exact fun _ _ _ h => h
          case hy65 => first | (refine ry_not ?_; rfl) | (refine ry_run (by rfl) (fun w' hw' => ?_); go_simp; try rfl)
          simp only [Act.put, List.setIfInBounds_toArray, List.set_cons_zero, List.set_cons_succ]
          refine take0 (v := ?v66) (oi := ?o66) 2 ?hi66 (by kernel_rfl) (by kernel_rfl) (by kernel_rfl) ?hq66 ?hy66 ?_
          case hi66 => (simp only [List.getElem?_toArray, List.getElem?_cons_zero, List.getElem?_cons_succ]; rfl)
          case hq66 => exact fun _ _ _ h => h
          case hy66 => first | (refine ry_not ?_; rfl) | (refine ry_run (by rfl) (fun w' hw' => ?_); go_simp; try rfl)
          simp only [Act.put, List.setIfInBounds_toArray, List.set_cons_zero, List.set_cons_succ]
          refine take0 (v := ?v67) (oi := ?o67) 3 ?hi67 (by kernel_rfl) (by kernel_rfl) (by kernel_rfl) ?hq67 ?hy67 ?_
          case hi67 => (simp only [List.getElem?_toArray, List.getElem?_cons_zero, List.getElem?_cons_succ]; rfl)
          case hq67 => exact fun _ _ _ h => h
          case hy67 => first | (refine ry_not ?_; rfl) | (refine ry_run (by rfl) (fun w' hw' => ?_); go_simp; try rfl)
          simp only [Act.put, List.setIfInBounds_toArray, List.set_cons_zero, List.set_cons_succ]
          refine take0 (v := ?v68) (oi := ?o68) 4 ?hi68 (by kernel_rfl) (by kernel_rfl) (by kernel_rfl) ?hq68 ?hy68 ?_
          case hi68 => (simp only [List.getElem?_toArray, List.getElem?_cons_zero, List.getElem?_cons_succ]; rfl)
          case hq68 => exact fun _ _ _ h => h
          case hy68 => first | (refine ry_not ?_; rfl) | (refine ry_run (by rfl) (fun w' hw' => ?_); go_simp; try rfl)
          simp only [Act.put, List.setIfInBounds_toArray, List.set_cons_zero, List.set_cons_succ]
          refine take0 (v := ?v69) (oi := ?o69) 5 ?hi69 (by kernel_rfl) (by kernel_rfl) (by kernel_rfl) ?hq69 ?hy69 ?_
          case hi69 => (simp only [List.getElem?_toArray, List.getElem?_cons_zero, List.getElem?_cons_succ]; rfl)
          case hq69 => exact fun _ _ _ h => h
          case hy69 => first | (refine ry_not ?_; rfl) | (refine ry_run (by rfl) (fun w' hw' => ?_); go_simp; try rfl)
          simp only [Act.put, List.setIfInBounds_toArray, List.set_cons_zero, List.set_cons_succ]
          refine take0 (v := ?v70) (oi := ?o70) 6 ?hi70 (by kernel_rfl) (by kernel_rfl) (by kernel_rfl) ?hq70 ?hy70 ?_
          case hi70 => (simp only [List.getElem?_toArray, List.getElem?_cons_zero, List.getElem?_cons_succ]; rfl)
          case hq70 => exact fun _ _ _ h => h
          case hy70 => first | (refine ry_not ?_; rfl) | (refine ry_run (by rfl) (fun w' hw' => ?_); go_simp; try rfl)
          simp only [Act.put, List.setIfInBounds_toArray, List.set_cons_zero, List.set_cons_succ]
          refine take0 (v := ?v71) (oi := ?o71) 7 ?hi71 (by kernel_rfl) (by kernel_rfl) (by kernel_rfl) ?hq71 ?hy71 ?_
          case hi71 => (simp only [List.getElem?_toArray, List.getElem?_cons_zero, List.getElem?_cons_succ]; rfl)
          case hq71 => exact fun _ _ _ h => h
          case hy71 => first | (refine ry_not ?_; rfl) | (refine ry_run (by rfl) (fun w' hw' => ?_); go_simp; try rfl)
          simp only [Act.put, List.setIfInBounds_toArray, List.set_cons_zero, List.set_cons_succ]
          refine take0 (v := ?v72) (oi := ?o72) 8 ?hi72 (by kernel_rfl) (by kernel_rfl) (by kernel_rfl) ?hq72 ?hy72 ?_
          case hi72 => (simp only [List.getElem?_toArray, List.getElem?_cons_zero, List.getElem?_cons_succ]; rfl)
          case hq72 => exact fun _ _ _ h => h
          case hy72 => first | (refine ry_not ?_; rfl) | (refine ry_run (by rfl) (fun w' hw' => ?_); go_simp; try rfl)
          simp only [Act.put, List.setIfInBounds_toArray, List.set_cons_zero, List.set_cons_succ]
          refine take0 (v := ?v73) (oi := ?o73) 9 ?hi73 (by kernel_rfl) (by kernel_rfl) (by kernel_rfl) ?hq73 ?hy73 ?_
          case hi73 => (simp only [List.getElem?_toArray, List.getElem?_cons_zero, List.getElem?_cons_succ]; rfl)
          case hq73 => exact fun _ _ _ h => h
          case hy73 => first | (refine ry_not ?_; rfl) | (refine ry_run (by rfl) (fun w' hw' => ?_); go_simp; try rfl)
          simp only [Act.put, List.setIfInBounds_toArray, List.set_cons_zero, List.set_cons_succ]
          refine take0 (v := ?v74) (oi := ?o74) 10 ?hi74 (by kernel_rfl) (by kernel_rfl) (by kernel_rfl) ?hq74 ?hy74 ?_
          case hi74 => (simp only [List.getElem?_toArray, List.getElem?_cons_zero, List.getElem?_cons_succ]; rfl)
          case hq74 => exact fun _ _ _ h => h
          case hy74 => first | (refine ry_not ?_; rfl) | (refine ry_run (by rfl) (fun w' hw' => ?_); go_simp; try rfl)
          simp only [Act.put, List.setIfInBounds_toArray, List.set_cons_zero, List.set_cons_succ]
          refine take0 (v := ?v75) (oi := ?o75) 11 ?hi75 (by kernel_rfl) (by kernel_rfl) (by kernel_rfl) ?hq75 ?hy75 ?_
          case hi75 => (simp only [List.getElem?_toArray, List.getElem?_cons_zero, List.getElem?_cons_succ]; rfl)
          case hq75 => exact fun _ _ _ h => h
          case hy75 => first | (refine ry_not ?_; rfl) | (refine ry_run (by rfl) (fun w' hw' => ?_); go_simp; try rfl)
          simp only [Act.put, List.setIfInBounds_toArray, List.set_cons_zero, List.set_cons_succ]
          refine take0 (v := ?v76) (oi := ?o76) 12 ?hi76 (by kernel_rfl) (by kernel_rfl) (by kernel_rfl) ?hq76 ?hy76 ?_
          case hi76 => (simp only [List.getElem?_toArray, List.getElem?_cons_zero, List.getElem?_cons_succ]; rfl)
          case hq76 => exact fun _ _ _ h => h
          case hy76 => first | (refine ry_not ?_; rfl) | (refine ry_run (by rfl) (fun w' hw' => ?_); go_simp; try rfl)
          simp only [Act.put, List.setIfInBounds_toArray, List.set_cons_zero, List.set_cons_succ]
          refine take0 (v := ?v77) (oi := ?o77) 13 ?hi77 (by kernel_rfl) (by kernel_rfl) (by kernel_rfl) ?hq77 ?hy77 ?_
          case hi77 => (simp only [List.getElem?_toArray, List.getElem?_cons_zero, List.getElem?_cons_succ]; rfl)
          case hq77 => exact fun _ _ _ h => h
          case hy77 => first | (refine ry_not ?_; rfl) | (refine ry_run (by rfl) (fun w' hw' => ?_); go_simp; try rfl)
          simp only [Act.put, List.setIfInBounds_toArray, List.set_cons_zero, List.set_cons_succ]
          refine take0 (v := ?v78) (oi := ?o78) 14 ?hi78 (by kernel_rfl) (by kernel_rfl) (by kernel_rfl) ?hq78 ?hy78 ?_
          case hi78 => (simp only [List.getElem?_toArray, List.getElem?_cons_zero, List.getElem?_cons_succ]; rfl)
          case hq78 => exact fun _ _ _ h => h
          case hy78 => first | (refine ry_not ?_; rfl) | (refine ry_run (by rfl) (fun w' hw' => ?_); go_simp; try rfl)
          simp only [Act.put, List.setIfInBounds_toArray, List.set_cons_zero, List.set_cons_succ]
          refine take0 (v := ?v79) (oi := ?o79) 15 ?hi79 (by kernel_rfl) (by kernel_rfl) (by kernel_rfl) ?hq79 ?hy79 ?_
          case hi79 => (simp only [List.getElem?_toArray, List.getElem?_cons_zero, List.getElem?_cons_succ]; rfl)
          case hq79 => exact fun _ _ _ h => h
          case hy79 => first | (refine ry_not ?_; rfl) | (refine ry_run (by rfl) (fun w' hw' => ?_); go_simp; try rfl)
          simp only [Act.put, List.setIfInBounds_toArray, List.set_cons_zero, List.set_cons_succ]
          refine take0 (v := ?v80) (oi := ?o80) 16 ?hi80 (by kernel_rfl) (by kernel_rfl) (by kernel_rfl) ?hq80 ?hy80 ?_
          case hi80 => (simp only [List.getElem?_toArray, List.getElem?_cons_zero, List.getElem?_cons_succ]; rfl)
          case hq80 => exact fun _ _ _ h => h
          case hy80 => first | (refine ry_not ?_; rfl) | (refine ry_run (by rfl) (fun w' hw' => ?_); go_simp; try rfl)
          simp only [Act.put, List.setIfInBounds_toArray, List.set_cons_zero, List.set_cons_succ]
          refine take0 (v := ?v81) (oi := ?o81) 17 ?hi81 (by kernel_rfl) (by kernel_rfl) (by kernel_rfl) ?hq81 ?hy81 ?_
          case hi81 => (simp only [List.getElem?_toArray, List.getElem?_cons_zero, List.getElem?_cons_succ]; rfl)
          case hq81 => exact fun _ _ _ h => h
          case hy81 => first | (refine ry_not ?_; rfl) | (refine ry_run (by rfl) (fun w' hw' => ?_); go_simp; try rfl)
          simp only [Act.put, List.setIfInBounds_toArray, List.set_cons_zero, List.set_cons_succ]
          refine take0 (v := ?v82) (oi := ?o82) 18 ?hi82 (by kernel_rfl) (by kernel_rfl) (by kernel_rfl) ?hq82 ?hy82 ?_
          case hi82 => (simp only [List.getElem?_toArray, List.getElem?_cons_zero, List.getElem?_cons_succ]; rfl)
          case hq82 => exact fun _ _ _ h => h
          case hy82 => first | (refine ry_not ?_; rfl) | (refine ry_run (by rfl) (fun w' hw' => ?_); go_simp; try rfl)
          simp only [Act.put, List.setIfInBounds_toArray, List.set_cons_zero, List.set_cons_succ]
          refine take0 (v := ?v83) (oi := ?o83) 19 ?hi83 (by kernel_rfl) (by kernel_rfl) (by kernel_rfl) ?hq83 ?hy83 ?_
          case hi83 => (simp only [List.getElem?_toArray, List.getElem?_cons_zero, List.getElem?_cons_succ]; rfl)
          case hq83 => exact fun _ _ _ h => h
          case hy83 => first | (refine ry_not ?_; rfl) | (refine ry_run (by rfl) (fun w' hw' => ?_); go_simp; try rfl)
          simp only [Act.put, List.setIfInBounds_toArray, List.set_cons_zero, List.set_cons_succ]
          refine take0 (v := ?v84) (oi := ?o84) 20 ?hi84 (by kernel_rfl) (by kernel_rfl) (by kernel_rfl) ?hq84 ?hy84 ?_
          case hi84 => (simp only [List.getElem?_toArray, List.getElem?_cons_zero, List.getElem?_cons_succ]; rfl)
          case hq84 => exact fun _ _ _ h => h
          case hy84 => first | (refine ry_not ?_; rfl) | (refine ry_run (by rfl) (fun w' hw' => ?_); go_simp; try rfl)
          simp only [Act.put, List.setIfInBounds_toArray, List.set_cons_zero, List.set_cons_succ]
          refine wpAnyM_done (by kernel_rfl) ?_
          go_wp2_with fail
          go_ret
          exact ⟨rfl, by (repeat (first | with_reducible exact Mod.refl _ _ | with_reducible apply Mod.drew | with_reducible apply Mod.drewN | with_reducible apply Mod.alloc | refine Mod.set1 ?_ (by first | exact rfl | simp) _ _))⟩
    · rw [if_neg h0] at hFB
      have hkz := hne h0
      have hll := lastL_at hkz
      rw [hll] at hFB
      obtain ⟨n, hn⟩ : ∃ n, kids.length = n + 1 := ⟨kids.length - 1, by omega⟩
      rcases hK0 with h | ⟨ba, o, rfl, hcell⟩
      · have := flat_len lc_len kids; rw [h] at this; simp at this; omega
      have hK1 : Cells _ (some ⟨ba, o, none⟩) (kids.flatMap lc) := .inr ⟨ba, o, rfl, hcell⟩
      have y0 := hcell _ _ (flat_get lc_len kids (kids.length - 1) 0 (by omega) (by omega))
      obtain ⟨P, hPE⟩ : ∃ P, kids[kids.length - 1] = P := ⟨_, rfl⟩
      simp only [hPE] at y0 hFB
      rw [Nat.add_zero, show kids.length - 1 = n by omega] at y0
      have hmc := fun w1 (hc : Cells w1 (some ⟨ba, o, none⟩) (kids.flatMap lc)) => many_calls (some ⟨ba, o, none⟩) ck kids w1 hc hkl hs
      rw [hn] at hmc
      rw [hn] at hb0 hb1 hm0 y0 hK1 x1
      rw [hn]
      obtain ⟨W, hW⟩ : ∃ W, (w.alloc (.cells #[.slice Ap np cp, .int .i64 level, .slice (some ⟨ba, o, none⟩) (n + 1) ck] 80)).alloc (.cells #[.string k.last, .string k.id, .int .i64 k.many] 67) = W := ⟨_, rfl⟩
      have hbl : ba < W.heap.size := by rw [← hW]; exact World.block_lt_of_cell? _ _ y0
      rw [hW] at hb0 hb1 hm0 y0 hK1 x1
      have fv0 := fun (w' : World) (mm : Mod0 W.drew w') => ((Mod.of_drew_l mm).cell (p := ⟨w.heap.size, 2, none⟩) hb0.lt (fun h => h)).trans (hb0.cell (o := 2) rfl)
      have fv1 := fun (w' : World) (mm : Mod0 W.drew w') => ((Mod.of_drew_l mm).cell (p := ⟨w.heap.size + 1, 2, none⟩) hb1.lt (fun h => h)).trans (hb1.cell (o := 2) rfl)
      have hg0 := fun (w1 : World) (m1 : Mod0 W.drew w1) (w' : World) (mm : Mod0 w1 w') => ((Mod.of_drew_l (Mod.trans m1 mm (fun _ _ h => h))).cell (p := ⟨w.heap.size, 2, none⟩) hb0.lt (fun h => h)).trans (hb0.cell (o := 2) rfl)
      have hg1 := fun (w1 : World) (m1 : Mod0 W.drew w1) (w' : World) (mm : Mod0 w1 w') => ((Mod.of_drew_l (Mod.trans m1 mm (fun _ _ h => h))).cell (p := ⟨w.heap.size + 1, 0, none⟩) hb1.lt (fun h => h)).trans (hb1.cell (o := 0) rfl)
      have hg2 := fun (w1 : World) (m1 : Mod0 W.drew w1) (w' : World) (mm : Mod0 w1 w') => ((Mod.of_drew_l (Mod.trans m1 mm (fun _ _ h => h))).cell (p := ⟨ba, o + n * 3, none⟩) hbl (fun h => h)).trans y0
      have HG := Lib.hid (And.intro hg0 (And.intro hg1 hg2))
      have HK1 := Lib.hid hK1
      have HMN := Lib.hid hmc
      have HM0 := Lib.hid hm0
      have w2 : IntKind.i64.wrap (n : Int) = (n : Int) := by rw [IntKind.wrap_i64]; omega
      have n0 : (0 : Int) ≤ (n : Int) := by omega
      have n1 : (n : Int) < (n : Int) + 1 := by omega
      have b0 : (level == 0) = false := by simpa using h0
      have b9 : (level != level) = false := by simp
      clear hP hK hP0 hs hb0 y0 hcell hll hPE hK1 hmc hm0 hg0 hg1 hg2 hne
      have hb1' := hb1
      by_cases hm : manyL kids = k.many
      · have b1 : (manyL kids == k.many) = true := by simpa using hm
        by_cases he : P.last = k.last
        · have b2 : (P.last.toList == k.last.toList) = true := (Lib.bytes_beq_iff _ _).2 he
          rw [decide_eq_true ⟨hm, he⟩] at hFB
          subst hFB
          clear he hm
          go_enter Tryd.func68, Tryd.ntmps68
          go_wp2_with fail
          refine region_mT (fun _ => False) (by kernel_rfl) ?_
          simp only [List.length_cons, List.length_nil, List.replicate]
          refine take0T (v := ?v85) (oi := ?o85) 0 ?hi85 (by kernel_rfl) (by kernel_rfl) (by kernel_rfl) ?hq85 ?hy85 ?_
          case hi85 => (simp only [List.getElem?_toArray, List.getElem?_cons_zero, List.getElem?_cons_succ]; rfl)
          case hq85 => exact fun _ _ _ h => h
          case hy85 => first | (refine ry_notT ?_; rfl) | (refine ry_runF (by rfl) (by rfl) (fun w' => ?_); go_simp; try rfl) | (refine ry_runT (by rfl) (by rfl) (fun w' hw' => ?_); go_simp; try rfl)
          simp only [Act.put, List.setIfInBounds_toArray, List.set_cons_zero, List.set_cons_succ]
          refine take0T (v := ?v86) (oi := ?o86) 1 ?hi86 (by kernel_rfl) (by kernel_rfl) (by kernel_rfl) ?hq86 ?hy86 ?_
          case hi86 => (simp only [List.getElem?_toArray, List.getElem?_cons_zero, List.getElem?_cons_succ]; rfl)
          case hq86 => exact fun _ _ _ h => h
          case hy86 => first | (refine ry_notT ?_; rfl) | (refine ry_runF (by rfl) (by rfl) (fun w' => ?_); go_simp; try rfl) | (refine ry_runT (by rfl) (by rfl) (fun w' hw' => ?_); go_simp; try rfl)
          simp only [Act.put, List.setIfInBounds_toArray, List.set_cons_zero, List.set_cons_succ]
          refine take0T (v := ?v87) (oi := ?o87) 2 ?hi87 (by kernel_rfl) (by kernel_rfl) (by kernel_rfl) ?hq87 ?hy87 ?_
          case hi87 => (simp only [List.getElem?_toArray, List.getElem?_cons_zero, List.getElem?_cons_succ]; rfl)
          case hq87 => exact fun _ _ _ h => h
          case hy87 => first | (refine ry_notT ?_; rfl) | (refine ry_runF (by rfl) (by rfl) (fun w' => ?_); go_simp; try rfl) | (refine ry_runT (by rfl) (by rfl) (fun w' hw' => ?_); go_simp; try rfl)
          simp only [Act.put, List.setIfInBounds_toArray, List.set_cons_zero, List.set_cons_succ]
          refine take0T (v := ?v88) (oi := ?o88) 4 ?hi88 (by kernel_rfl) (by kernel_rfl) (by kernel_rfl) ?hq88 ?hy88 ?_
          case hi88 => (simp only [List.getElem?_toArray, List.getElem?_cons_zero, List.getElem?_cons_succ]; rfl)
          case hq88 => exact fun _ _ _ h => h
          case hy88 => first | (refine ry_notT ?_; rfl) | (refine ry_runF (by rfl) (by rfl) (fun w' => ?_); go_simp; try rfl) | (refine ry_runT (by rfl) (by rfl) (fun w' hw' => ?_); go_simp; try rfl)
          simp only [Act.put, List.setIfInBounds_toArray, List.set_cons_zero, List.set_cons_succ]
          refine take0T (v := ?v89) (oi := ?o89) 5 ?hi89 (by kernel_rfl) (by kernel_rfl) (by kernel_rfl) ?hq89 ?hy89 ?_
          case hi89 => (simp only [List.getElem?_toArray, List.getElem?_cons_zero, List.getElem?_cons_succ]; rfl)
          case hq89 => exact fun _ _ _ h => h
          case hy89 => first | (refine ry_notT ?_; rfl) | (refine ry_runF (by rfl) (by rfl) (fun w' => ?_); go_simp; try rfl) | (refine ry_runT (by rfl) (by rfl) (fun w' hw' => ?_); go_simp; try rfl)
          simp only [Act.put, List.setIfInBounds_toArray, List.set_cons_zero, List.set_cons_succ]
          refine step0T (o := ?o90) 3 (by kernel_rfl) ?hi90 ?hw90 ?_
          case hi90 => (simp only [List.getElem?_toArray, List.getElem?_cons_zero, List.getElem?_cons_succ]; rfl)
          case hw90 => rfl
          go_simp
          refine (HMN.out _ (HK1.out.keep ((Mod.refl (fun _ => False) _).drew) (fun _ _ h => h))).mono ?_
          rintro e w1 ⟨rfl, hm1⟩
          refine ⟨.inl hm1, ?_⟩
          have gv0 := HG.out.1 w1 hm1
          have gv1 := HG.out.2.1 w1 hm1
          have gv2 := HG.out.2.2 w1 hm1
          refine take0T (v := ?v91) (oi := ?o91) 6 ?hi91 (by kernel_rfl) (by kernel_rfl) (by kernel_rfl) ?hq91 ?hy91 ?_
          case hi91 => (simp only [List.getElem?_toArray, List.getElem?_cons_zero, List.getElem?_cons_succ]; rfl)
          case hq91 => exact fun _ _ _ h => h
          case hy91 => first | (refine ry_notT ?_; rfl) | (refine ry_runF (by rfl) (by rfl) (fun w' => ?_); go_simp; try rfl) | (refine ry_runT (by rfl) (by rfl) (fun w' hw' => ?_); go_simp; try rfl)
          simp only [Act.put, List.setIfInBounds_toArray, List.set_cons_zero, List.set_cons_succ]
          refine take0T (v := ?v92) (oi := ?o92) 7 ?hi92 (by kernel_rfl) (by kernel_rfl) (by kernel_rfl) ?hq92 ?hy92 ?_
          case hi92 => (simp only [List.getElem?_toArray, List.getElem?_cons_zero, List.getElem?_cons_succ]; rfl)
          case hq92 => exact fun _ _ _ h => h
          case hy92 => first | (refine ry_notT ?_; rfl) | (refine ry_runF (by rfl) (by rfl) (fun w' => ?_); go_simp; try rfl) | (refine ry_runT (by rfl) (by rfl) (fun w' hw' => ?_); go_simp; try rfl)
          simp only [Act.put, List.setIfInBounds_toArray, List.set_cons_zero, List.set_cons_succ]
          refine take0T (v := ?v93) (oi := ?o93) 8 ?hi93 (by kernel_rfl) (by kernel_rfl) (by kernel_rfl) ?hq93 ?hy93 ?_
          case hi93 => (simp only [List.getElem?_toArray, List.getElem?_cons_zero, List.getElem?_cons_succ]; rfl)
          case hq93 => exact fun _ _ _ h => h
          case hy93 => first | (refine ry_notT ?_; rfl) | (refine ry_runF (by rfl) (by rfl) (fun w' => ?_); go_simp; try rfl) | (refine ry_runT (by rfl) (by rfl) (fun w' hw' => ?_); go_simp; try rfl)
          simp only [Act.put, List.setIfInBounds_toArray, List.set_cons_zero, List.set_cons_succ]
          refine take0T (v := ?v94) (oi := ?o94) 9 ?hi94 (by kernel_rfl) (by kernel_rfl) (by kernel_rfl) ?hq94 ?hy94 ?_
          case hi94 => (simp only [List.getElem?_toArray, List.getElem?_cons_zero, List.getElem?_cons_succ]; rfl)
          case hq94 => exact fun _ _ _ h => h
          case hy94 => first | (refine ry_notT ?_; rfl) | (refine ry_runF (by rfl) (by rfl) (fun w' => ?_); go_simp; try rfl) | (refine ry_runT (by rfl) (by rfl) (fun w' hw' => ?_); go_simp; try rfl)
          simp only [Act.put, List.setIfInBounds_toArray, List.set_cons_zero, List.set_cons_succ]
          refine take0T (v := ?v95) (oi := ?o95) 10 ?hi95 (by kernel_rfl) (by kernel_rfl) (by kernel_rfl) ?hq95 ?hy95 ?_
          case hi95 => (simp only [List.getElem?_toArray, List.getElem?_cons_zero, List.getElem?_cons_succ]; rfl)
          case hq95 => exact fun _ _ _ h => h
          case hy95 => first | (refine ry_notT ?_; rfl) | (refine ry_runF (by rfl) (by rfl) (fun w' => ?_); go_simp; try rfl) | (refine ry_runT (by rfl) (by rfl) (fun w' hw' => ?_); go_simp; try rfl)
          simp only [Act.put, List.setIfInBounds_toArray, List.set_cons_zero, List.set_cons_succ]
          refine take0T (v := ?v96) (oi := ?o96) 11 ?hi96 (by kernel_rfl) (by kernel_rfl) (by kernel_rfl) ?hq96 ?hy96 ?_
          case hi96 => (simp only [List.getElem?_toArray, List.getElem?_cons_zero, List.getElem?_cons_succ]; rfl)
          case hq96 => exact fun _ _ _ h => h
          case hy96 => first | (refine ry_notT ?_; rfl) | (refine ry_runF (by rfl) (by rfl) (fun w' => ?_); go_simp; try rfl) | (refine ry_runT (by rfl) (by rfl) (fun w' hw' => ?_); go_simp; try rfl)
          simp only [Act.put, List.setIfInBounds_toArray, List.set_cons_zero, List.set_cons_succ]
          refine take0T (v := ?v97) (oi := ?o97) 12 ?hi97 (by kernel_rfl) (by kernel_rfl) (by kernel_rfl) ?hq97 ?hy97 ?_
          case hi97 => (simp only [List.getElem?_toArray, List.getElem?_cons_zero, List.getElem?_cons_succ]; rfl)
          case hq97 => exact fun _ _ _ h => h
          case hy97 => first | (refine ry_notT ?_; rfl) | (refine ry_runF (by rfl) (by rfl) (fun w' => ?_); go_simp; try rfl) | (refine ry_runT (by rfl) (by rfl) (fun w' hw' => ?_); go_simp; try rfl)
          simp only [Act.put, List.setIfInBounds_toArray, List.set_cons_zero, List.set_cons_succ]
          refine take0T (v := ?v98) (oi := ?o98) 13 ?hi98 (by kernel_rfl) (by kernel_rfl) (by kernel_rfl) ?hq98 ?hy98 ?_
          case hi98 => (simp only [List.getElem?_toArray, List.getElem?_cons_zero, List.getElem?_cons_succ]; rfl)
          case hq98 => exact fun _ _ _ h => h
          case hy98 => first | (refine ry_notT ?_; rfl) | (refine ry_runF (by rfl) (by rfl) (fun w' => ?_); go_simp; try rfl) | (refine ry_runT (by rfl) (by rfl) (fun w' hw' => ?_); go_simp; try rfl)
          simp only [Act.put, List.setIfInBounds_toArray, List.set_cons_zero, List.set_cons_succ]
          refine take0T (v := ?v99) (oi := ?o99) 14 ?hi99 (by kernel_rfl) (by kernel_rfl) (by kernel_rfl) ?hq99 ?hy99 ?_
          case hi99 => (simp only [List.getElem?_toArray, List.getElem?_cons_zero, List.getElem?_cons_succ]; rfl)
          case hq99 => exact fun _ _ _ h => h
          case hy99 => first | (refine ry_notT ?_; rfl) | (refine ry_runF (by rfl) (by rfl) (fun w' => ?_); go_simp; try rfl) | (refine ry_runT (by rfl) (by rfl) (fun w' hw' => ?_); go_simp; try rfl)
          simp only [Act.put, List.setIfInBounds_toArray, List.set_cons_zero, List.set_cons_succ]
          refine take0T (v := ?v100) (oi := ?o100) 15 ?hi100 (by kernel_rfl) (by kernel_rfl) (by kernel_rfl) ?hq100 ?hy100 ?_
          case hi100 => (simp only [List.getElem?_toArray, List.getElem?_cons_zero, List.getElem?_cons_succ]; rfl)
          case hq100 => exact fun _ _ _ h => h
          case hy100 => first | (refine ry_notT ?_; rfl) | (refine ry_runF (by rfl) (by rfl) (fun w' => ?_); go_simp; try rfl) | (refine ry_runT (by rfl) (by rfl) (fun w' hw' => ?_); go_simp; try rfl)
          simp only [Act.put, List.setIfInBounds_toArray, List.set_cons_zero, List.set_cons_succ]
          refine take0T (v := ?v101) (oi := ?o101) 16 ?hi101 (by kernel_rfl) (by kernel_rfl) (by kernel_rfl) ?hq101 ?hy101 ?_
          case hi101 => (simp only [List.getElem?_toArray, List.getElem?_cons_zero, List.getElem?_cons_succ]; rfl)
          case hq101 => exact fun _ _ _ h => h
          case hy101 => first | (refine ry_notT ?_; rfl) | (refine ry_runF (by rfl) (by rfl) (fun w' => ?_); go_simp; try rfl) | (refine ry_runT (by rfl) (by rfl) (fun w' hw' => ?_); go_simp; try rfl)
          simp only [Act.put, List.setIfInBounds_toArray, List.set_cons_zero, List.set_cons_succ]
          refine take0T (v := ?v102) (oi := ?o102) 17 ?hi102 (by kernel_rfl) (by kernel_rfl) (by kernel_rfl) ?hq102 ?hy102 ?_
          case hi102 => (simp only [List.getElem?_toArray, List.getElem?_cons_zero, List.getElem?_cons_succ]; rfl)
          case hq102 => exact fun _ _ _ h => h
          case hy102 => first | (refine ry_notT ?_; rfl) | (refine ry_runF (by rfl) (by rfl) (fun w' => ?_); go_simp; try rfl) | (refine ry_runT (by rfl) (by rfl) (fun w' hw' => ?_); go_simp; try rfl)
          simp only [Act.put, List.setIfInBounds_toArray, List.set_cons_zero, List.set_cons_succ]
          refine take0T (v := ?v103) (oi := ?o103) 18 ?hi103 (by kernel_rfl) (by kernel_rfl) (by kernel_rfl) ?hq103 ?hy103 ?_
          case hi103 => (simp only [List.getElem?_toArray, List.getElem?_cons_zero, List.getElem?_cons_succ]; rfl)
          case hq103 => exact fun _ _ _ h => h
          case hy103 => first | (refine ry_notT ?_; rfl) | (refine ry_runF (by rfl) (by rfl) (fun w' => ?_); go_simp; try rfl) | (refine ry_runT (by rfl) (by rfl) (fun w' hw' => ?_); go_simp; try rfl)
          simp only [Act.put, List.setIfInBounds_toArray, List.set_cons_zero, List.set_cons_succ]
          refine take0T (v := ?v104) (oi := ?o104) 19 ?hi104 (by kernel_rfl) (by kernel_rfl) (by kernel_rfl) ?hq104 ?hy104 ?_
          case hi104 => (simp only [List.getElem?_toArray, List.getElem?_cons_zero, List.getElem?_cons_succ]; rfl)
          case hq104 => exact fun _ _ _ h => h
          case hy104 => first | (refine ry_notT ?_; rfl) | (refine ry_runF (by rfl) (by rfl) (fun w' => ?_); go_simp; try rfl) | (refine ry_runT (by rfl) (by rfl) (fun w' hw' => ?_); go_simp; try rfl)
          simp only [Act.put, List.setIfInBounds_toArray, List.set_cons_zero, List.set_cons_succ]
          refine take0T (v := ?v105) (oi := ?o105) 20 ?hi105 (by kernel_rfl) (by kernel_rfl) (by kernel_rfl) ?hq105 ?hy105 ?_
          case hi105 => (simp only [List.getElem?_toArray, List.getElem?_cons_zero, List.getElem?_cons_succ]; rfl)
          case hq105 => exact fun _ _ _ h => h
          case hy105 => first | (refine ry_notT ?_; rfl) | (refine ry_runF (by rfl) (by rfl) (fun w' => ?_); go_simp; try rfl) | (refine ry_runT (by rfl) (by rfl) (fun w' hw' => ?_); go_simp; try rfl)
          simp only [Act.put, List.setIfInBounds_toArray, List.set_cons_zero, List.set_cons_succ]
          refine take0T (v := ?v106) (oi := ?o106) 21 ?hi106 (by kernel_rfl) (by kernel_rfl) (by kernel_rfl) ?hq106 ?hy106 ?_
          case hi106 => (simp only [List.getElem?_toArray, List.getElem?_cons_zero, List.getElem?_cons_succ]; rfl)
          case hq106 => exact fun _ _ _ h => h
          case hy106 => first | (refine ry_notT ?_; rfl) | (refine ry_runF (by rfl) (by rfl) (fun w' => ?_); go_simp; try rfl) | (refine ry_runT (by rfl) (by rfl) (fun w' hw' => ?_); go_simp; try rfl)
          simp only [Act.put, List.setIfInBounds_toArray, List.set_cons_zero, List.set_cons_succ]
          refine take0T (v := ?v107) (oi := ?o107) 22 ?hi107 (by kernel_rfl) (by kernel_rfl) (by kernel_rfl) ?hq107 ?hy107 ?_
          case hi107 => (simp only [List.getElem?_toArray, List.getElem?_cons_zero, List.getElem?_cons_succ]; rfl)
          case hq107 => exact fun _ _ _ h => h
          case hy107 => first | (refine ry_notT ?_; rfl) | (refine ry_runF (by rfl) (by rfl) (fun w' => ?_); go_simp; try rfl) | (refine ry_runT (by rfl) (by rfl) (fun w' hw' => ?_); go_simp; try rfl)
          simp only [Act.put, List.setIfInBounds_toArray, List.set_cons_zero, List.set_cons_succ]
          refine take0T (v := ?v108) (oi := ?o108) 23 ?hi108 (by kernel_rfl) (by kernel_rfl) (by kernel_rfl) ?hq108 ?hy108 ?_
          case hi108 => (simp only [List.getElem?_toArray, List.getElem?_cons_zero, List.getElem?_cons_succ]; rfl)
          case hq108 => exact fun _ _ _ h => h
          case hy108 => first | (refine ry_notT ?_; rfl) | (refine ry_runF (by rfl) (by rfl) (fun w' => ?_); go_simp; try rfl) | (refine ry_runT (by rfl) (by rfl) (fun w' hw' => ?_); go_simp; try rfl)
          simp only [Act.put, List.setIfInBounds_toArray, List.set_cons_zero, List.set_cons_succ]
          refine wpAnyT_done (by kernel_rfl) ?_
          have HMF := Lib.hid (Mod.trans HM0.out (Mod.of_drew_l hm1) (fun _ _ h => h))
          clear hm1
          go_wp2_with fail
          go_ret
          exact ⟨rfl, HMF.out⟩
        · have b2 : (P.last.toList == k.last.toList) = false := (Lib.bytes_beq_false_iff _ _).2 he
          rw [decide_eq_false (fun h => he h.2)] at hFB
          subst hFB
          clear he hm
          go_enter Tryd.func68, Tryd.ntmps68
          go_wp2_with fail
          refine region_mT (fun _ => False) (by kernel_rfl) ?_
          simp only [List.length_cons, List.length_nil, List.replicate]
          refine take0T (v := ?v109) (oi := ?o109) 0 ?hi109 (by kernel_rfl) (by kernel_rfl) (by kernel_rfl) ?hq109 ?hy109 ?_
          case hi109 => (simp only [List.getElem?_toArray, List.getElem?_cons_zero, List.getElem?_cons_succ]; rfl)
          case hq109 => exact fun _ _ _ h => h
          case hy109 => first | (refine ry_notT ?_; rfl) | (refine ry_runF (by rfl) (by rfl) (fun w' => ?_); go_simp; try rfl) | (refine ry_runT (by rfl) (by rfl) (fun w' hw' => ?_); go_simp; try rfl)
          simp only [Act.put, List.setIfInBounds_toArray, List.set_cons_zero, List.set_cons_succ]
          refine take0T (v := ?v110) (oi := ?o110) 1 ?hi110 (by kernel_rfl) (by kernel_rfl) (by kernel_rfl) ?hq110 ?hy110 ?_
          case hi110 => (simp only [List.getElem?_toArray, List.getElem?_cons_zero, List.getElem?_cons_succ]; rfl)
          case hq110 => exact fun _ _ _ h => h
          case hy110 => first | (refine ry_notT ?_; rfl) | (refine ry_runF (by rfl) (by rfl) (fun w' => ?_); go_simp; try rfl) | (refine ry_runT (by rfl) (by rfl) (fun w' hw' => ?_); go_simp; try rfl)
          simp only [Act.put, List.setIfInBounds_toArray, List.set_cons_zero, List.set_cons_succ]
          refine take0T (v := ?v111) (oi := ?o111) 2 ?hi111 (by kernel_rfl) (by kernel_rfl) (by kernel_rfl) ?hq111 ?hy111 ?_
          case hi111 => (simp only [List.getElem?_toArray, List.getElem?_cons_zero, List.getElem?_cons_succ]; rfl)
          case hq111 => exact fun _ _ _ h => h
          case hy111 => first | (refine ry_notT ?_; rfl) | (refine ry_runF (by rfl) (by rfl) (fun w' => ?_); go_simp; try rfl) | (refine ry_runT (by rfl) (by rfl) (fun w' hw' => ?_); go_simp; try rfl)
          simp only [Act.put, List.setIfInBounds_toArray, List.set_cons_zero, List.set_cons_succ]
          refine take0T (v := ?v112) (oi := ?o112) 4 ?hi112 (by kernel_rfl) (by kernel_rfl) (by kernel_rfl) ?hq112 ?hy112 ?_
          case hi112 => (simp only [List.getElem?_toArray, List.getElem?_cons_zero, List.getElem?_cons_succ]; rfl)
          case hq112 => exact fun _ _ _ h => h
          case hy112 => first | (refine ry_notT ?_; rfl) | (refine ry_runF (by rfl) (by rfl) (fun w' => ?_); go_simp; try rfl) | (refine ry_runT (by rfl) (by rfl) (fun w' hw' => ?_); go_simp; try rfl)
          simp only [Act.put, List.setIfInBounds_toArray, List.set_cons_zero, List.set_cons_succ]
          refine take0T (v := ?v113) (oi := ?o113) 5 ?hi113 (by kernel_rfl) (by kernel_rfl) (by kernel_rfl) ?hq113 ?hy113 ?_
          case hi113 => (simp only [List.getElem?_toArray, List.getElem?_cons_zero, List.getElem?_cons_succ]; rfl)
          case hq113 => exact fun _ _ _ h => h
          case hy113 => first | (refine ry_notT ?_; rfl) | (refine ry_runF (by rfl) (by rfl) (fun w' => ?_); go_simp; try rfl) | (refine ry_runT (by rfl) (by rfl) (fun w' hw' => ?_); go_simp; try rfl)
          simp only [Act.put, List.setIfInBounds_toArray, List.set_cons_zero, List.set_cons_succ]
          refine step0T (o := ?o114) 3 (by kernel_rfl) ?hi114 ?hw114 ?_
          case hi114 => (simp only [List.getElem?_toArray, List.getElem?_cons_zero, List.getElem?_cons_succ]; rfl)
          case hw114 => rfl
          go_simp
          refine (HMN.out _ (HK1.out.keep ((Mod.refl (fun _ => False) _).drew) (fun _ _ h => h))).mono ?_
          rintro e w1 ⟨rfl, hm1⟩
          refine ⟨.inl hm1, ?_⟩
          have gv0 := HG.out.1 w1 hm1
          have gv1 := HG.out.2.1 w1 hm1
          have gv2 := HG.out.2.2 w1 hm1
          refine take0T (v := ?v115) (oi := ?o115) 6 ?hi115 (by kernel_rfl) (by kernel_rfl) (by kernel_rfl) ?hq115 ?hy115 ?_
          case hi115 => (simp only [List.getElem?_toArray, List.getElem?_cons_zero, List.getElem?_cons_succ]; rfl)
          case hq115 => exact fun _ _ _ h => h
          case hy115 => first | (refine ry_notT ?_; rfl) | (refine ry_runF (by rfl) (by rfl) (fun w' => ?_); go_simp; try rfl) | (refine ry_runT (by rfl) (by rfl) (fun w' hw' => ?_); go_simp; try rfl)
          simp only [Act.put, List.setIfInBounds_toArray, List.set_cons_zero, List.set_cons_succ]
          refine take0T (v := ?v116) (oi := ?o116) 7 ?hi116 (by kernel_rfl) (by kernel_rfl) (by kernel_rfl) ?hq116 ?hy116 ?_
          case hi116 => (simp only [List.getElem?_toArray, List.getElem?_cons_zero, List.getElem?_cons_succ]; rfl)
          case hq116 => exact fun _ _ _ h => h
          case hy116 => first | (refine ry_notT ?_; rfl) | (refine ry_runF (by rfl) (by rfl) (fun w' => ?_); go_simp; try rfl) | (refine ry_runT (by rfl) (by rfl) (fun w' hw' => ?_); go_simp; try rfl)
          simp only [Act.put, List.setIfInBounds_toArray, List.set_cons_zero, List.set_cons_succ]
          refine take0T (v := ?v117) (oi := ?o117) 8 ?hi117 (by kernel_rfl) (by kernel_rfl) (by kernel_rfl) ?hq117 ?hy117 ?_
          case hi117 => (simp only [List.getElem?_toArray, List.getElem?_cons_zero, List.getElem?_cons_succ]; rfl)
          case hq117 => exact fun _ _ _ h => h
          case hy117 => first | (refine ry_notT ?_; rfl) | (refine ry_runF (by rfl) (by rfl) (fun w' => ?_); go_simp; try rfl) | (refine ry_runT (by rfl) (by rfl) (fun w' hw' => ?_); go_simp; try rfl)
          simp only [Act.put, List.setIfInBounds_toArray, List.set_cons_zero, List.set_cons_succ]
          refine take0T (v := ?v118) (oi := ?o118) 9 ?hi118 (by kernel_rfl) (by kernel_rfl) (by kernel_rfl) ?hq118 ?hy118 ?_
          case hi118 => (simp only [List.getElem?_toArray, List.getElem?_cons_zero, List.getElem?_cons_succ]; rfl)
          case hq118 => exact fun _ _ _ h => h
          case hy118 => first | (refine ry_notT ?_; rfl) | (refine ry_runF (by rfl) (by rfl) (fun w' => ?_); go_simp; try rfl) | (refine ry_runT (by rfl) (by rfl) (fun w' hw' => ?_); go_simp; try rfl)
          simp only [Act.put, List.setIfInBounds_toArray, List.set_cons_zero, List.set_cons_succ]
          refine take0T (v := ?v119) (oi := ?o119) 10 ?hi119 (by kernel_rfl) (by kernel_rfl) (by kernel_rfl) ?hq119 ?hy119 ?_
          case hi119 => (simp only [List.getElem?_toArray, List.getElem?_cons_zero, List.getElem?_cons_succ]; rfl)
          case hq119 => exact fun _ _ _ h => h
          case hy119 => first | (refine ry_notT ?_; rfl) | (refine ry_runF (by rfl) (by rfl) (fun w' => ?_); go_simp; try rfl) | (refine ry_runT (by rfl) (by rfl) (fun w' hw' => ?_); go_simp; try rfl)
          simp only [Act.put, List.setIfInBounds_toArray, List.set_cons_zero, List.set_cons_succ]
          refine take0T (v := ?v120) (oi := ?o120) 11 ?hi120 (by kernel_rfl) (by kernel_rfl) (by kernel_rfl) ?hq120 ?hy120 ?_
          case hi120 => (simp only [List.getElem?_toArray, List.getElem?_cons_zero, List.getElem?_cons_succ]; rfl)
          case hq120 => exact fun _ _ _ h => h
          case hy120 => first | (refine ry_notT ?_; rfl) | (refine ry_runF (by rfl) (by rfl) (fun w' => ?_); go_simp; try rfl) | (refine ry_runT (by rfl) (by rfl) (fun w' hw' => ?_); go_simp; try rfl)
          simp only [Act.put, List.setIfInBounds_toArray, List.set_cons_zero, List.set_cons_succ]
          refine take0T (v := ?v121) (oi := ?o121) 12 ?hi121 (by kernel_rfl) (by kernel_rfl) (by kernel_rfl) ?hq121 ?hy121 ?_
          case hi121 => (simp only [List.getElem?_toArray, List.getElem?_cons_zero, List.getElem?_cons_succ]; rfl)
          case hq121 => exact fun _ _ _ h => h
          case hy121 => first | (refine ry_notT ?_; rfl) | (refine ry_runF (by rfl) (by rfl) (fun w' => ?_); go_simp; try rfl) | (refine ry_runT (by rfl) (by rfl) (fun w' hw' => ?_); go_simp; try rfl)
          simp only [Act.put, List.setIfInBounds_toArray, List.set_cons_zero, List.set_cons_succ]
          refine take0T (v := ?v122) (oi := ?o122) 13 ?hi122 (by kernel_rfl) (by kernel_rfl) (by kernel_rfl) ?hq122 ?hy122 ?_
          case hi122 => (simp only [List.getElem?_toArray, List.getElem?_cons_zero, List.getElem?_cons_succ]; rfl)
          case hq122 => exact fun _ _ _ h => h
          case hy122 => first | (refine ry_notT ?_; rfl) | (refine ry_runF (by rfl) (by rfl) (fun w' => ?_); go_simp; try rfl) | (refine ry_runT (by rfl) (by rfl) (fun w' hw' => ?_); go_simp; try rfl)
          simp only [Act.put, List.setIfInBounds_toArray, List.set_cons_zero, List.set_cons_succ]
          refine take0T (v := ?v123) (oi := ?o123) 14 ?hi123 (by kernel_rfl) (by kernel_rfl) (by kernel_rfl) ?hq123 ?hy123 ?_
          case hi123 => (simp only [List.getElem?_toArray, List.getElem?_cons_zero, List.getElem?_cons_succ]; rfl)
          case hq123 => exact fun _ _ _ h => h
          case hy123 => first | (refine ry_notT ?_; rfl) | (refine ry_runF (by rfl) (by rfl) (fun w' => ?_); go_simp; try rfl) | (refine ry_runT (by rfl) (by rfl) (fun w' hw' => ?_); go_simp; try rfl)
          simp only [Act.put, List.setIfInBounds_toArray, List.set_cons_zero, List.set_cons_succ]
          refine take0T (v := ?v124) (oi := ?o124) 15 ?hi124 (by kernel_rfl) (by kernel_rfl) (by kernel_rfl) ?hq124 ?hy124 ?_
          case hi124 => (simp only [List.getElem?_toArray, List.getElem?_cons_zero, List.getElem?_cons_succ]; rfl)
          case hq124 => exact fun _ _ _ h => h
          case hy124 => first | (refine ry_notT ?_; rfl) | (refine ry_runF (by rfl) (by rfl) (fun w' => ?_); go_simp; try rfl) | (refine ry_runT (by rfl) (by rfl) (fun w' hw' => ?_); go_simp; try rfl)
          simp only [Act.put, List.setIfInBounds_toArray, List.set_cons_zero, List.set_cons_succ]
          refine take0T (v := ?v125) (oi := ?o125) 16 ?hi125 (by kernel_rfl) (by kernel_rfl) (by kernel_rfl) ?hq125 ?hy125 ?_
          case hi125 => (simp only [List.getElem?_toArray, List.getElem?_cons_zero, List.getElem?_cons_succ]; rfl)
          case hq125 => exact fun _ _ _ h => h
          case hy125 => first | (refine ry_notT ?_; rfl) | (refine ry_runF (by rfl) (by rfl) (fun w' => ?_); go_simp; try rfl) | (refine ry_runT (by rfl) (by rfl) (fun w' hw' => ?_); go_simp; try rfl)
          simp only [Act.put, List.setIfInBounds_toArray, List.set_cons_zero, List.set_cons_succ]
          refine take0T (v := ?v126) (oi := ?o126) 17 ?hi126 (by kernel_rfl) (by kernel_rfl) (by kernel_rfl) ?hq126 ?hy126 ?_
          case hi126 => (simp only [List.getElem?_toArray, List.getElem?_cons_zero, List.getElem?_cons_succ]; rfl)
          case hq126 => exact fun _ _ _ h => h
          case hy126 => first | (refine ry_notT ?_; rfl) | (refine ry_runF (by rfl) (by rfl) (fun w' => ?_); go_simp; try rfl) | (refine ry_runT (by rfl) (by rfl) (fun w' hw' => ?_); go_simp; try rfl)
          simp only [Act.put, List.setIfInBounds_toArray, List.set_cons_zero, List.set_cons_succ]
          refine take0T (v := ?v127) (oi := ?o127) 18 ?hi127 (by kernel_rfl) (by kernel_rfl) (by kernel_rfl) ?hq127 ?hy127 ?_
          case hi127 => (simp only [List.getElem?_toArray, List.getElem?_cons_zero, List.getElem?_cons_succ]; rfl)
          case hq127 => exact fun _ _ _ h => h
          case hy127 => first | (refine ry_notT ?_; rfl) | (refine ry_runF (by rfl) (by rfl) (fun w' => ?_); go_simp; try rfl) | (refine ry_runT (by rfl) (by rfl) (fun w' hw' => ?_); go_simp; try rfl)
          simp only [Act.put, List.setIfInBounds_toArray, List.set_cons_zero, List.set_cons_succ]
          refine take0T (v := ?v128) (oi := ?o128) 19 ?hi128 (by kernel_rfl) (by kernel_rfl) (by kernel_rfl) ?hq128 ?hy128 ?_
          case hi128 => (simp only [List.getElem?_toArray, List.getElem?_cons_zero, List.getElem?_cons_succ]; rfl)
          case hq128 => exact fun _ _ _ h => h
          case hy128 => first | (refine ry_notT ?_; rfl) | (refine ry_runF (by rfl) (by rfl) (fun w' => ?_); go_simp; try rfl) | (refine ry_runT (by rfl) (by rfl) (fun w' hw' => ?_); go_simp; try rfl)
          simp only [Act.put, List.setIfInBounds_toArray, List.set_cons_zero, List.set_cons_succ]
          refine take0T (v := ?v129) (oi := ?o129) 20 ?hi129 (by kernel_rfl) (by kernel_rfl) (by kernel_rfl) ?hq129 ?hy129 ?_
          case hi129 => (simp only [List.getElem?_toArray, List.getElem?_cons_zero, List.getElem?_cons_succ]; rfl)
          case hq129 => exact fun _ _ _ h => h
          case hy129 => first | (refine ry_notT ?_; rfl) | (refine ry_runF (by rfl) (by rfl) (fun w' => ?_); go_simp; try rfl) | (refine ry_runT (by rfl) (by rfl) (fun w' hw' => ?_); go_simp; try rfl)
          simp only [Act.put, List.setIfInBounds_toArray, List.set_cons_zero, List.set_cons_succ]
          refine take0T (v := ?v130) (oi := ?o130) 21 ?hi130 (by kernel_rfl) (by kernel_rfl) (by kernel_rfl) ?hq130 ?hy130 ?_
          case hi130 => (simp only [List.getElem?_toArray, List.getElem?_cons_zero, List.getElem?_cons_succ]; rfl)
          case hq130 => exact fun _ _ _ h => h
          case hy130 => first | (refine ry_notT ?_; rfl) | (refine ry_runF (by rfl) (by rfl) (fun w' => ?_); go_simp; try rfl) | (refine ry_runT (by rfl) (by rfl) (fun w' hw' => ?_); go_simp; try rfl)
          simp only [Act.put, List.setIfInBounds_toArray, List.set_cons_zero, List.set_cons_succ]
          refine take0T (v := ?v131) (oi := ?o131) 22 ?hi131 (by kernel_rfl) (by kernel_rfl) (by kernel_rfl) ?hq131 ?hy131 ?_
          case hi131 => (simp only [List.getElem?_toArray, List.getElem?_cons_zero, List.getElem?_cons_succ]; rfl)
          case hq131 => exact fun _ _ _ h => h
          case hy131 => first | (refine ry_notT ?_; rfl) | (refine ry_runF (by rfl) (by rfl) (fun w' => ?_); go_simp; try rfl) | (refine ry_runT (by rfl) (by rfl) (fun w' hw' => ?_); go_simp; try rfl)
          simp only [Act.put, List.setIfInBounds_toArray, List.set_cons_zero, List.set_cons_succ]
          refine take0T (v := ?v132) (oi := ?o132) 23 ?hi132 (by kernel_rfl) (by kernel_rfl) (by kernel_rfl) ?hq132 ?hy132 ?_
          case hi132 => (simp only [List.getElem?_toArray, List.getElem?_cons_zero, List.getElem?_cons_succ]; rfl)
          case hq132 => exact fun _ _ _ h => h
          case hy132 => first | (refine ry_notT ?_; rfl) | (refine ry_runF (by rfl) (by rfl) (fun w' => ?_); go_simp; try rfl) | (refine ry_runT (by rfl) (by rfl) (fun w' hw' => ?_); go_simp; try rfl)
          simp only [Act.put, List.setIfInBounds_toArray, List.set_cons_zero, List.set_cons_succ]
          refine wpAnyT_done (by kernel_rfl) ?_
          have HMF := Lib.hid (Mod.trans HM0.out (Mod.of_drew_l hm1) (fun _ _ h => h))
          clear hm1
          go_wp2_with fail
          go_ret
          exact ⟨rfl, HMF.out⟩
      · have b1 : (manyL kids == k.many) = false := by simpa using hm
        rw [decide_eq_false (fun h => hm h.1)] at hFB
        subst hFB
        clear hm
        go_enter Tryd.func68, Tryd.ntmps68
        go_wp2_with fail
        refine region_mT (fun _ => False) (by kernel_rfl) ?_
        simp only [List.length_cons, List.length_nil, List.replicate]
        refine take0T (v := ?v133) (oi := ?o133) 0 ?hi133 (by kernel_rfl) (by kernel_rfl) (by kernel_rfl) ?hq133 ?hy133 ?_
        case hi133 => (simp only [List.getElem?_toArray, List.getElem?_cons_zero, List.getElem?_cons_succ]; rfl)
        case hq133 => exact fun _ _ _ h => h
        case hy133 => first | (refine ry_notT ?_; rfl) | (refine ry_runF (by rfl) (by rfl) (fun w' => ?_); go_simp; try rfl) | (refine ry_runT (by rfl) (by rfl) (fun w' hw' => ?_); go_simp; try rfl)
        simp only [Act.put, List.setIfInBounds_toArray, List.set_cons_zero, List.set_cons_succ]
        refine take0T (v := ?v134) (oi := ?o134) 1 ?hi134 (by kernel_rfl) (by kernel_rfl) (by kernel_rfl) ?hq134 ?hy134 ?_
        case hi134 => (simp only [List.getElem?_toArray, List.getElem?_cons_zero, List.getElem?_cons_succ]; rfl)
        case hq134 => exact fun _ _ _ h => h
        case hy134 => first | (refine ry_notT ?_; rfl) | (refine ry_runF (by rfl) (by rfl) (fun w' => ?_); go_simp; try rfl) | (refine ry_runT (by rfl) (by rfl) (fun w' hw' => ?_); go_simp; try rfl)
        simp only [Act.put, List.setIfInBounds_toArray, List.set_cons_zero, List.set_cons_succ]
        refine take0T (v := ?v135) (oi := ?o135) 2 ?hi135 (by kernel_rfl) (by kernel_rfl) (by kernel_rfl) ?hq135 ?hy135 ?_
        case hi135 => (simp only [List.getElem?_toArray, List.getElem?_cons_zero, List.getElem?_cons_succ]; rfl)
        case hq135 => exact fun _ _ _ h => h
        case hy135 => first | (refine ry_notT ?_; rfl) | (refine ry_runF (by rfl) (by rfl) (fun w' => ?_); go_simp; try rfl) | (refine ry_runT (by rfl) (by rfl) (fun w' hw' => ?_); go_simp; try rfl)
        simp only [Act.put, List.setIfInBounds_toArray, List.set_cons_zero, List.set_cons_succ]
        refine take0T (v := ?v136) (oi := ?o136) 4 ?hi136 (by kernel_rfl) (by kernel_rfl) (by kernel_rfl) ?hq136 ?hy136 ?_
        case hi136 => (simp only [List.getElem?_toArray, List.getElem?_cons_zero, List.getElem?_cons_succ]; rfl)
        case hq136 => exact fun _ _ _ h => h
        case hy136 => first | (refine ry_notT ?_; rfl) | (refine ry_runF (by rfl) (by rfl) (fun w' => ?_); go_simp; try rfl) | (refine ry_runT (by rfl) (by rfl) (fun w' hw' => ?_); go_simp; try rfl)
        simp only [Act.put, List.setIfInBounds_toArray, List.set_cons_zero, List.set_cons_succ]
        refine take0T (v := ?v137) (oi := ?o137) 5 ?hi137 (by kernel_rfl) (by kernel_rfl) (by kernel_rfl) ?hq137 ?hy137 ?_
        case hi137 => (simp only [List.getElem?_toArray, List.getElem?_cons_zero, List.getElem?_cons_succ]; rfl)
        case hq137 => exact fun _ _ _ h => h
        case hy137 => first | (refine ry_notT ?_; rfl) | (refine ry_runF (by rfl) (by rfl) (fun w' => ?_); go_simp; try rfl) | (refine ry_runT (by rfl) (by rfl) (fun w' hw' => ?_); go_simp; try rfl)
        simp only [Act.put, List.setIfInBounds_toArray, List.set_cons_zero, List.set_cons_succ]
        refine step0T (o := ?o138) 3 (by kernel_rfl) ?hi138 ?hw138 ?_
        case hi138 => (simp only [List.getElem?_toArray, List.getElem?_cons_zero, List.getElem?_cons_succ]; rfl)
        case hw138 => rfl
        go_simp
        refine (HMN.out _ (HK1.out.keep ((Mod.refl (fun _ => False) _).drew) (fun _ _ h => h))).mono ?_
        rintro e w1 ⟨rfl, hm1⟩
        refine ⟨.inl hm1, ?_⟩
        refine take0T (v := ?v139) (oi := ?o139) 6 ?hi139 (by kernel_rfl) (by kernel_rfl) (by kernel_rfl) ?hq139 ?hy139 ?_
        case hi139 => (simp only [List.getElem?_toArray, List.getElem?_cons_zero, List.getElem?_cons_succ]; rfl)
        case hq139 => exact fun _ _ _ h => h
        case hy139 => first | (refine ry_notT ?_; rfl) | (refine ry_runF (by rfl) (by rfl) (fun w' => ?_); go_simp; try rfl) | (refine ry_runT (by rfl) (by rfl) (fun w' hw' => ?_); go_simp; try rfl)
        simp only [Act.put, List.setIfInBounds_toArray, List.set_cons_zero, List.set_cons_succ]
        refine take0T (v := ?v140) (oi := ?o140) 7 ?hi140 (by kernel_rfl) (by kernel_rfl) (by kernel_rfl) ?hq140 ?hy140 ?_
        case hi140 => (simp only [List.getElem?_toArray, List.getElem?_cons_zero, List.getElem?_cons_succ]; rfl)
        case hq140 => exact fun _ _ _ h => h
        case hy140 => first | (refine ry_notT ?_; rfl) | (refine ry_runF (by rfl) (by rfl) (fun w' => ?_); go_simp; try rfl) | (refine ry_runT (by rfl) (by rfl) (fun w' hw' => ?_); go_simp; try rfl)
        simp only [Act.put, List.setIfInBounds_toArray, List.set_cons_zero, List.set_cons_succ]
        refine take0T (v := ?v141) (oi := ?o141) 8 ?hi141 (by kernel_rfl) (by kernel_rfl) (by kernel_rfl) ?hq141 ?hy141 ?_
        case hi141 => (simp only [List.getElem?_toArray, List.getElem?_cons_zero, List.getElem?_cons_succ]; rfl)
        case hq141 => exact fun _ _ _ h => h
        case hy141 => first | (refine ry_notT ?_; rfl) | (refine ry_runF (by rfl) (by rfl) (fun w' => ?_); go_simp; try rfl) | (refine ry_runT (by rfl) (by rfl) (fun w' hw' => ?_); go_simp; try rfl)
        simp only [Act.put, List.setIfInBounds_toArray, List.set_cons_zero, List.set_cons_succ]
        refine take0T (v := ?v142) (oi := ?o142) 9 ?hi142 (by kernel_rfl) (by kernel_rfl) (by kernel_rfl) ?hq142 ?hy142 ?_
        case hi142 => (simp only [List.getElem?_toArray, List.getElem?_cons_zero, List.getElem?_cons_succ]; rfl)
        case hq142 => exact fun _ _ _ h => h
        case hy142 => first | (refine ry_notT ?_; rfl) | (refine ry_runF (by rfl) (by rfl) (fun w' => ?_); go_simp; try rfl) | (refine ry_runT (by rfl) (by rfl) (fun w' hw' => ?_); go_simp; try rfl)
        simp only [Act.put, List.setIfInBounds_toArray, List.set_cons_zero, List.set_cons_succ]
        refine take0T (v := ?v143) (oi := ?o143) 10 ?hi143 (by kernel_rfl) (by kernel_rfl) (by kernel_rfl) ?hq143 ?hy143 ?_
        case hi143 => (simp only [List.getElem?_toArray, List.getElem?_cons_zero, List.getElem?_cons_succ]; rfl)
        case hq143 => exact fun _ _ _ h => h
        case hy143 => first | (refine ry_notT ?_; rfl) | (refine ry_runF (by rfl) (by rfl) (fun w' => ?_); go_simp; try rfl) | (refine ry_runT (by rfl) (by rfl) (fun w' hw' => ?_); go_simp; try rfl)
        simp only [Act.put, List.setIfInBounds_toArray, List.set_cons_zero, List.set_cons_succ]
        refine take0T (v := ?v144) (oi := ?o144) 11 ?hi144 (by kernel_rfl) (by kernel_rfl) (by kernel_rfl) ?hq144 ?hy144 ?_
        case hi144 => (simp only [List.getElem?_toArray, List.getElem?_cons_zero, List.getElem?_cons_succ]; rfl)
        case hq144 => exact fun _ _ _ h => h
        case hy144 => first | (refine ry_notT ?_; rfl) | (refine ry_runF (by rfl) (by rfl) (fun w' => ?_); go_simp; try rfl) | (refine ry_runT (by rfl) (by rfl) (fun w' hw' => ?_); go_simp; try rfl)
        simp only [Act.put, List.setIfInBounds_toArray, List.set_cons_zero, List.set_cons_succ]
        refine take0T (v := ?v145) (oi := ?o145) 12 ?hi145 (by kernel_rfl) (by kernel_rfl) (by kernel_rfl) ?hq145 ?hy145 ?_
        case hi145 => (simp only [List.getElem?_toArray, List.getElem?_cons_zero, List.getElem?_cons_succ]; rfl)
        case hq145 => exact fun _ _ _ h => h
        case hy145 => first | (refine ry_notT ?_; rfl) | (refine ry_runF (by rfl) (by rfl) (fun w' => ?_); go_simp; try rfl) | (refine ry_runT (by rfl) (by rfl) (fun w' hw' => ?_); go_simp; try rfl)
        simp only [Act.put, List.setIfInBounds_toArray, List.set_cons_zero, List.set_cons_succ]
        refine take0T (v := ?v146) (oi := ?o146) 13 ?hi146 (by kernel_rfl) (by kernel_rfl) (by kernel_rfl) ?hq146 ?hy146 ?_
        case hi146 => (simp only [List.getElem?_toArray, List.getElem?_cons_zero, List.getElem?_cons_succ]; rfl)
        case hq146 => exact fun _ _ _ h => h
        case hy146 => first | (refine ry_notT ?_; rfl) | (refine ry_runF (by rfl) (by rfl) (fun w' => ?_); go_simp; try rfl) | (refine ry_runT (by rfl) (by rfl) (fun w' hw' => ?_); go_simp; try rfl)
        simp only [Act.put, List.setIfInBounds_toArray, List.set_cons_zero, List.set_cons_succ]
        refine take0T (v := ?v147) (oi := ?o147) 14 ?hi147 (by kernel_rfl) (by kernel_rfl) (by kernel_rfl) ?hq147 ?hy147 ?_
        case hi147 => (simp only [List.getElem?_toArray, List.getElem?_cons_zero, List.getElem?_cons_succ]; rfl)
        case hq147 => exact fun _ _ _ h => h
        case hy147 => first | (refine ry_notT ?_; rfl) | (refine ry_runF (by rfl) (by rfl) (fun w' => ?_); go_simp; try rfl) | (refine ry_runT (by rfl) (by rfl) (fun w' hw' => ?_); go_simp; try rfl)
        simp only [Act.put, List.setIfInBounds_toArray, List.set_cons_zero, List.set_cons_succ]
        refine take0T (v := ?v148) (oi := ?o148) 15 ?hi148 (by kernel_rfl) (by kernel_rfl) (by kernel_rfl) ?hq148 ?hy148 ?_
        case hi148 => (simp only [List.getElem?_toArray, List.getElem?_cons_zero, List.getElem?_cons_succ]; rfl)
        case hq148 => exact fun _ _ _ h => h
        case hy148 => first | (refine ry_notT ?_; rfl) | (refine ry_runF (by rfl) (by rfl) (fun w' => ?_); go_simp; try rfl) | (refine ry_runT (by rfl) (by rfl) (fun w' hw' => ?_); go_simp; try rfl)
        simp only [Act.put, List.setIfInBounds_toArray, List.set_cons_zero, List.set_cons_succ]
        refine take0T (v := ?v149) (oi := ?o149) 16 ?hi149 (by kernel_rfl) (by kernel_rfl) (by kernel_rfl) ?hq149 ?hy149 ?_
        case hi149 => (simp only [List.getElem?_toArray, List.getElem?_cons_zero, List.getElem?_cons_succ]; rfl)
        case hq149 => exact fun _ _ _ h => h
        case hy149 => first | (refine ry_notT ?_; rfl) | (refine ry_runF (by rfl) (by rfl) (fun w' => ?_); go_simp; try rfl) | (refine ry_runT (by rfl) (by rfl) (fun w' hw' => ?_); go_simp; try rfl)
        simp only [Act.put, List.setIfInBounds_toArray, List.set_cons_zero, List.set_cons_succ]
        refine take0T (v := ?v150) (oi := ?o150) 17 ?hi150 (by kernel_rfl) (by kernel_rfl) (by kernel_rfl) ?hq150 ?hy150 ?_
        case hi150 => (simp only [List.getElem?_toArray, List.getElem?_cons_zero, List.getElem?_cons_succ]; rfl)
        case hq150 => exact fun _ _ _ h => h
        case hy150 => first | (refine ry_notT ?_; rfl) | (refine ry_runF (by rfl) (by rfl) (fun w' => ?_); go_simp; try rfl) | (refine ry_runT (by rfl) (by rfl) (fun w' hw' => ?_); go_simp; try rfl)
        simp only [Act.put, List.setIfInBounds_toArray, List.set_cons_zero, List.set_cons_succ]
        refine take0T (v := ?v151) (oi := ?o151) 18 ?hi151 (by kernel_rfl) (by kernel_rfl) (by kernel_rfl) ?hq151 ?hy151 ?_
        case hi151 => (simp only [List.getElem?_toArray, List.getElem?_cons_zero, List.getElem?_cons_succ]; rfl)
        case hq151 => exact fun _ _ _ h => h
        case hy151 => first | (refine ry_notT ?_; rfl) | (refine ry_runF (by rfl) (by rfl) (fun w' => ?_); go_simp; try rfl) | (refine ry_runT (by rfl) (by rfl) (fun w' hw' => ?_); go_simp; try rfl)
        simp only [Act.put, List.setIfInBounds_toArray, List.set_cons_zero, List.set_cons_succ]
        refine take0T (v := ?v152) (oi := ?o152) 19 ?hi152 (by kernel_rfl) (by kernel_rfl) (by kernel_rfl) ?hq152 ?hy152 ?_
        case hi152 => (simp only [List.getElem?_toArray, List.getElem?_cons_zero, List.getElem?_cons_succ]; rfl)
        case hq152 => exact fun _ _ _ h => h
        case hy152 => first | (refine ry_notT ?_; rfl) | (refine ry_runF (by rfl) (by rfl) (fun w' => ?_); go_simp; try rfl) | (refine ry_runT (by rfl) (by rfl) (fun w' hw' => ?_); go_simp; try rfl)
        simp only [Act.put, List.setIfInBounds_toArray, List.set_cons_zero, List.set_cons_succ]
        refine take0T (v := ?v153) (oi := ?o153) 20 ?hi153 (by kernel_rfl) (by kernel_rfl) (by kernel_rfl) ?hq153 ?hy153 ?_
        case hi153 => (simp only [List.getElem?_toArray, List.getElem?_cons_zero, List.getElem?_cons_succ]; rfl)
        case hq153 => exact fun _ _ _ h => h
        case hy153 => first | (refine ry_notT ?_; rfl) | (refine ry_runF (by rfl) (by rfl) (fun w' => ?_); go_simp; try rfl) | (refine ry_runT (by rfl) (by rfl) (fun w' hw' => ?_); go_simp; try rfl)
        simp only [Act.put, List.setIfInBounds_toArray, List.set_cons_zero, List.set_cons_succ]
        refine take0T (v := ?v154) (oi := ?o154) 21 ?hi154 (by kernel_rfl) (by kernel_rfl) (by kernel_rfl) ?hq154 ?hy154 ?_
        case hi154 => (simp only [List.getElem?_toArray, List.getElem?_cons_zero, List.getElem?_cons_succ]; rfl)
        case hq154 => exact fun _ _ _ h => h
        case hy154 => first | (refine ry_notT ?_; rfl) | (refine ry_runF (by rfl) (by rfl) (fun w' => ?_); go_simp; try rfl) | (refine ry_runT (by rfl) (by rfl) (fun w' hw' => ?_); go_simp; try rfl)
        simp only [Act.put, List.setIfInBounds_toArray, List.set_cons_zero, List.set_cons_succ]
        refine take0T (v := ?v155) (oi := ?o155) 22 ?hi155 (by kernel_rfl) (by kernel_rfl) (by kernel_rfl) ?hq155 ?hy155 ?_
        case hi155 => (simp only [List.getElem?_toArray, List.getElem?_cons_zero, List.getElem?_cons_succ]; rfl)
        case hq155 => exact fun _ _ _ h => h
        case hy155 => first | (refine ry_notT ?_; rfl) | (refine ry_runF (by rfl) (by rfl) (fun w' => ?_); go_simp; try rfl) | (refine ry_runT (by rfl) (by rfl) (fun w' hw' => ?_); go_simp; try rfl)
        simp only [Act.put, List.setIfInBounds_toArray, List.set_cons_zero, List.set_cons_succ]
        refine take0T (v := ?v156) (oi := ?o156) 23 ?hi156 (by kernel_rfl) (by kernel_rfl) (by kernel_rfl) ?hq156 ?hy156 ?_
        case hi156 => (simp only [List.getElem?_toArray, List.getElem?_cons_zero, List.getElem?_cons_succ]; rfl)
        case hq156 => exact fun _ _ _ h => h
        case hy156 => first | (refine ry_notT ?_; rfl) | (refine ry_runF (by rfl) (by rfl) (fun w' => ?_); go_simp; try rfl) | (refine ry_runT (by rfl) (by rfl) (fun w' hw' => ?_); go_simp; try rfl)
        simp only [Act.put, List.setIfInBounds_toArray, List.set_cons_zero, List.set_cons_succ]
        refine wpAnyT_done (by kernel_rfl) ?_
        have HMF := Lib.hid (Mod.trans HM0.out (Mod.of_drew_l hm1) (fun _ _ h => h))
        clear hm1
        go_wp2_with fail
        go_ret
        exact ⟨rfl, HMF.out⟩
  · rw [if_pos hL] at hFB
    subst hFB
    have b1 : (level == L) = false := by simpa using hL
    have b2 : (level != L) = true := by simpa using hL
    clear hP hK hP0 hK0 hs
    go_enter Tryd.func68, Tryd.ntmps68
    go_wp2_with fail
    go_ret
    exact ⟨rfl, by (repeat (first | with_reducible exact Mod.refl _ _ | with_reducible apply Mod.drew | with_reducible apply Mod.drewN | with_reducible apply Mod.alloc | refine Mod.set1 ?_ (by first | exact rfl | simp) _ _))⟩
end Prolly
end Go.Proofs.YtpoljpjcmigobaaDoor
