/- Joined texts: ProB. -/
import Derived.Test.YtpoljpjcmigobaaDoorJ23
import Derived.Deep.Cut
/- The walks of prolly's many and fits. -/
namespace Go.Proofs.YtpoljpjcmigobaaDoor
set_option linter.unusedVariables false
set_option linter.unusedSimpArgs false
open Go.RowKit K Wire
namespace Prolly
open Go.Proofs.YtpoljpjcmigobaaDoor.Obj Go.Proofs.YtpoljpjcmigobaaDoor.Blob

structure ObsOk (objs : List Ob) : Prop where
  many : objs.length ≤ 100000000
  small : ∀ o ∈ objs, o.bytes.size ≤ 100000000
theorem findL_mem {objs : List Ob} {id b : ByteArray} : findL objs id = some b → ∃ o ∈ objs, o.bytes = b := by
  induction objs with
  | nil => intro h; cases h
  | cons o l ih =>
    intro h
    unfold findL at h
    split at h
    · injection h with h; exact ⟨o, List.mem_cons_self .., h⟩
    · obtain ⟨x, hx, hb⟩ := ih h; exact ⟨x, List.mem_cons_of_mem _ hx, hb⟩
theorem manyL_append (a b : List Link) : manyL (a ++ b) = manyL a + manyL b := by simp [manyL]
theorem many_take {l : List Link} (h : ∀ k ∈ l, 1 ≤ k.many ∧ k.many ≤ 4096) : ∀ j, 0 ≤ manyL (l.take j) ∧ manyL (l.take j) ≤ 4096 * (l.length : Int) := by
  have h1 : ∀ l' : List Link, (∀ k ∈ l', 1 ≤ k.many ∧ k.many ≤ 4096) → 0 ≤ manyL l' ∧ manyL l' ≤ 4096 * (l'.length : Int) := by
    intro l'
    induction l' with
    | nil => intro _; simp [manyL]
    | cons a l' ih =>
      intro h
      have h1 := ih (fun k hk => h k (List.mem_cons_of_mem _ hk))
      have h2 := h a (List.mem_cons_self ..)
      have e : manyL (a :: l') = a.many + manyL l' := by simp [manyL]
      simp only [List.length_cons]; omega
  intro j
  have := h1 (l.take j) (fun k hk => h k (List.mem_of_mem_take hk))
  rw [List.length_take] at this
  omega
theorem many_snoc {l : List Link} {j : Nat} (h : j < l.length) : manyL (l.take (j + 1)) = manyL (l.take j) + (l[j]).many := by
  rw [List.take_succ_eq_append_getElem h, manyL_append]; simp [manyL]
set_option maxRecDepth 100000 in
set_option maxHeartbeats 1000000 in
theorem many_calls (A : Option Addr) (c : Nat) (l : List Link) (w : World) (hA : Cells w A (l.flatMap lc)) (hc : l.length ≤ 64) (hs : ∀ k ∈ l, 1 ≤ k.many ∧ k.many ≤ 4096) :
    Calls Tryd.prog 30 #[.slice A l.length c] w fun e w' => e = .returned (.int .i64 (manyL l)) ∧ Mod (fun _ => False) w w' := by
  have HA := Lib.hid hA
  have HS := Lib.hid hs
  clear hA hs
  go_enter Tryd.func30, Tryd.ntmps30
  go_wp2_with fail
  go_loopw [3, 8] (fun n i wr => ∃ (k : Nat) (z : Int), i = .int .i64 k ∧ n = .int .i64 z ∧ k ≤ l.length ∧ Hid (z = manyL (l.take k)) ∧ Hid (Mod (fun _ => False) w wr)) (fun _ i _ => l.length - (intOf i).toNat)
  case atStart => exact ⟨0, 0, by go_num, rfl, by omega, Lib.hid (by simp [manyL]), Lib.hid (Mod.refl _ _)⟩
  case round =>
    obtain ⟨k, z, rfl, rfl, hk, HZ, HM⟩ := hrel
    by_cases hlt : k < l.length
    · have i1 : (k : Int) < (l.length : Int) := by omega
      rcases HA.out.keep HM.out (fun _ _ h => h) with h | ⟨ba, o, rfl, hcell⟩
      · have := flat_len lc_len l; rw [h] at this; simp at this; omega
      have x0 := hcell _ _ (flat_get lc_len l k 0 hlt (by omega))
      have x1 := hcell _ _ (flat_get lc_len l k 1 hlt (by omega))
      have x2 := hcell _ _ (flat_get lc_len l k 2 hlt (by omega))
      rw [Nat.add_zero] at x0
      rw [← Nat.add_assoc] at x1 x2
      have hbl : ba < wr.heap.size := World.block_lt_of_cell? wr _ x0
      have hst := many_snoc hlt
      have h0 := many_take HS.out k
      have h1 := many_take HS.out (k + 1)
      rw [hst] at h1
      rw [← HZ.out] at hst h0 h1
      generalize l[k] = p at *
      have HT := Lib.hid hst
      clear hcell hst
      go_wp2_with fail
      go_roundw
      case rel => exact ⟨k + 1, z + p.many, by go_num, rfl, by omega, Lib.hid HT.out.symm, Lib.hid (HM.out.alloc _)⟩
      case measure => simp [intOf]; omega
    · have hkl : k = l.length := by omega
      have i1 : ¬ (k : Int) < (l.length : Int) := by omega
      have hz := HZ.out
      rw [hkl, List.take_length] at hz
      have HZ2 := Lib.hid hz
      clear hz
      go_wp2_with fail
      go_ret
      exact ⟨by rw [HZ2.out]; rfl, HM.out⟩

/-- is a node as its link says? -/
def fitsB (ps : List Pair) (L : Int) (kids : List Link) (k : Link) (level : Int) : Bool :=
  if level < 0 then true else if level ≠ L then false
  else if level = 0 then decide (0 < ps.length ∧ (ps.length : Int) = k.many ∧ lastK ps = k.last)
  else decide (manyL kids = k.many ∧ lastL kids = k.last)
theorem lastK_at {ps : List Pair} (h : 0 < ps.length) : lastK ps = ps[ps.length - 1].key := by
  unfold lastK; simp [List.getD, show ps.length - 1 < ps.length by omega]
theorem lastL_at {ks : List Link} (h : 0 < ks.length) : lastL ks = ks[ks.length - 1].last := by
  unfold lastL; simp [List.getD, show ks.length - 1 < ks.length by omega]
set_option maxRecDepth 100000 in
set_option maxHeartbeats 2000000 in
theorem fits_calls (Ap Ak : Option Addr) (cp ck : Nat) (ps : List Pair) (L : Int) (kids : List Link) (k : Link) (level : Int) (w : World) (hP : Cells w Ap (ps.flatMap kc)) (hK : Cells w Ak (kids.flatMap lc))
    (hpl : ps.length ≤ 64) (hkl : kids.length ≤ 64) (hs : ∀ k ∈ kids, 1 ≤ k.many ∧ k.many ≤ 4096) (hne : L ≠ 0 → 0 < kids.length) :
    Calls Tryd.prog 68 #[.agg #[.slice Ap ps.length cp, .int .i64 L, .slice Ak kids.length ck], .agg #[.string k.last, .string k.id, .int .i64 k.many], .int .i64 level] w
      fun e w' => e = .returned (.bool (fitsB ps L kids k level)) ∧ Mod (fun _ => False) w w' := by
  obtain ⟨FB, hFB⟩ : ∃ FB, fitsB ps L kids k level = FB := ⟨_, rfl⟩
  rw [hFB]
  unfold fitsB at hFB
  generalize hnp : ps.length = np at *
  have hm0 := ((Mod.refl (fun _ => False) w).alloc (.cells #[.slice Ap np cp, .int .i64 L, .slice Ak kids.length ck] 80)).alloc (.cells #[.string k.last, .string k.id, .int .i64 k.many] 67)
  have hb0 : Has ((w.alloc (.cells #[.slice Ap np cp, .int .i64 L, .slice Ak kids.length ck] 80)).alloc (.cells #[.string k.last, .string k.id, .int .i64 k.many] 67)) w.heap.size [.slice Ap np cp, .int .i64 L, .slice Ak kids.length ck] 80 := (Has.new w _ _).alloc _
  have hb1 : Has ((w.alloc (.cells #[.slice Ap np cp, .int .i64 L, .slice Ak kids.length ck] 80)).alloc (.cells #[.string k.last, .string k.id, .int .i64 k.many] 67)) (w.heap.size + 1) [.string k.last, .string k.id, .int .i64 k.many] 67 := Has.lit (by simp)
  have hP0 := hP.keep hm0 (fun _ _ h => h)
  have hK0 := hK.keep hm0 (fun _ _ h => h)
  have HS := Lib.hid hs
  by_cases hl : level < 0
  · rw [if_pos hl] at hFB
    subst hFB
    clear hP hK hP0 hK0 hb0 hb1 hm0 hs
    go_enter Tryd.func68, Tryd.ntmps68
    go_wp2_with fail
    go_ret
    exact ⟨rfl, by (repeat (first | with_reducible exact Mod.refl _ _ | with_reducible apply Mod.drew | with_reducible apply Mod.drewN | with_reducible apply Mod.alloc | refine Mod.set1 ?_ (by first | exact rfl | simp) _ _))⟩
  rw [if_neg hl] at hFB
  have x1 := hb0.cell (o := 1) rfl
  by_cases hL : level = L
  · rw [if_neg (fun h => h hL)] at hFB
    subst hL
    by_cases h0 : level = 0
    · rw [if_pos h0] at hFB
      subst h0
      by_cases hz : np = 0
      · rw [decide_eq_false (fun h => by omega)] at hFB
        subst hFB
        subst hz
        have x0 := hb0.cell (o := 0) rfl
        clear hP hK hP0 hK0 hs
        go_enter Tryd.func68, Tryd.ntmps68
        go_wp2_with fail
        refine region_m (by kernel_rfl) ?_
        simp only [List.length_cons, List.length_nil, List.replicate]
        refine take1 0 ?_
        refine take1 1 ?_
        refine take1 2 ?_
        refine take1 3 ?_
        refine take1 4 ?_
        refine take1 5 ?_
        refine take1 6 ?_
        refine take1 7 ?_
        refine take1 8 ?_
        refine take1 9 ?_
        refine take1 10 ?_
        refine take1 11 ?_
        refine take1 12 ?_
        refine take1 13 ?_
        refine take1 14 ?_
        refine take1 15 ?_
        refine take1 16 ?_
        refine take1 17 ?_
        refine take1 18 ?_
        refine take1 19 ?_
        refine take1 20 ?_
        refine wpAnyM_done (by kernel_rfl) ?_
        go_wp2_with fail
        go_ret
        exact ⟨rfl, by (repeat (first | with_reducible exact Mod.refl _ _ | with_reducible apply Mod.drew | with_reducible apply Mod.drewN | with_reducible apply Mod.alloc | refine Mod.set1 ?_ (by first | exact rfl | simp) _ _))⟩
      · have hpz : 0 < ps.length := by omega
        obtain ⟨n, rfl⟩ : ∃ n, np = n + 1 := ⟨np - 1, by omega⟩
        have hlk := lastK_at hpz
        rw [hlk] at hFB
        rcases hP0 with h | ⟨ba, o, rfl, hcell⟩
        · have := flat_len kc_len ps; rw [h] at this; simp at this; omega
        have y0 := hcell _ _ (flat_get kc_len ps (ps.length - 1) 0 (by omega) (by omega))
        obtain ⟨P, hPE⟩ : ∃ P, ps[ps.length - 1] = P := ⟨_, rfl⟩
        simp only [hPE] at y0 hFB
        rw [Nat.add_zero] at y0
        have hbl : ba < ((w.alloc (.cells #[.slice (some ⟨ba, o, none⟩) (n + 1) cp, .int .i64 0, .slice Ak kids.length ck] 80)).alloc (.cells #[.string k.last, .string k.id, .int .i64 k.many] 67)).heap.size := World.block_lt_of_cell? _ _ y0
        have x0 := hb0.cell (o := 0) rfl
        clear hcell hPE hlk
        rw [show ps.length - 1 = n by omega] at y0
        have fv0 := fun (w' : World) (mm : Mod0 ((w.alloc (.cells #[.slice (some ⟨ba, o, none⟩) (n + 1) cp, .int .i64 0, .slice Ak kids.length ck] 80)).alloc (.cells #[.string k.last, .string k.id, .int .i64 k.many] 67)).drew w') => ((Mod.of_drew_l mm).cell (p := ⟨w.heap.size, 0, none⟩) hb0.lt (fun h => h)).trans x0
        have fv1 := fun (w' : World) (mm : Mod0 ((w.alloc (.cells #[.slice (some ⟨ba, o, none⟩) (n + 1) cp, .int .i64 0, .slice Ak kids.length ck] 80)).alloc (.cells #[.string k.last, .string k.id, .int .i64 k.many] 67)).drew w') => ((Mod.of_drew_l mm).cell (p := ⟨w.heap.size + 1, 2, none⟩) hb1.lt (fun h => h)).trans (hb1.cell (o := 2) rfl)
        have fv2 := fun (w' : World) (mm : Mod0 ((w.alloc (.cells #[.slice (some ⟨ba, o, none⟩) (n + 1) cp, .int .i64 0, .slice Ak kids.length ck] 80)).alloc (.cells #[.string k.last, .string k.id, .int .i64 k.many] 67)).drew w') => ((Mod.of_drew_l mm).cell (p := ⟨w.heap.size + 1, 0, none⟩) hb1.lt (fun h => h)).trans (hb1.cell (o := 0) rfl)
        have fv3 := fun (w' : World) (mm : Mod0 ((w.alloc (.cells #[.slice (some ⟨ba, o, none⟩) (n + 1) cp, .int .i64 0, .slice Ak kids.length ck] 80)).alloc (.cells #[.string k.last, .string k.id, .int .i64 k.many] 67)).drew w') => ((Mod.of_drew_l mm).cell (p := ⟨ba, o + n * 2, none⟩) hbl (fun h => h)).trans y0
        have w1 : IntKind.i64.wrap (n : Int) = (n : Int) := by rw [IntKind.wrap_i64]; omega
        have w2 : IntKind.i64.wrap ((n : Int) + 1) = (n : Int) + 1 := by rw [IntKind.wrap_i64]; omega
        have n0 : (0 : Int) ≤ (n : Int) := by omega
        have n1 : (n : Int) < (n : Int) + 1 := by omega
        have nc : (((n + 1 : Nat) : Int)) = (n : Int) + 1 := by omega
        rw [nc] at hFB
        clear hP hK hK0 hs hb0 hb1 x0 y0
        by_cases hm : (n : Int) + 1 = k.many
        · have b1 : ((n : Int) + 1 == k.many) = true := by simpa using hm
          by_cases he : P.key = k.last
          · have b2 : (P.key.toList == k.last.toList) = true := (Lib.bytes_beq_iff _ _).2 he
            rw [decide_eq_true ⟨by omega, hm, he⟩] at hFB
            subst hFB
            clear he hm
            go_enter Tryd.func68, Tryd.ntmps68
            go_wp2_with fail
            refine region_m (by kernel_rfl) ?_
            simp only [List.length_cons, List.length_nil, List.replicate]
            refine take1 0 ?_
            refine take1 1 ?_
            refine take1 2 ?_
            refine take1 3 ?_
            refine take1 4 ?_
            refine take1 5 ?_
            refine take1 6 ?_
            refine take1 7 ?_
            refine take1 8 ?_
            refine take1 9 ?_
            refine take1 10 ?_
            refine take1 11 ?_
            refine take1 12 ?_
            refine take1 13 ?_
            refine take1 14 ?_
            refine take1 15 ?_
            refine take1 16 ?_
            refine take1 17 ?_
            refine take1 18 ?_
            refine take1 19 ?_
            refine take1 20 ?_
            refine wpAnyM_done (by kernel_rfl) ?_
            go_wp2_with fail
            go_ret
            exact ⟨rfl, by (repeat (first | with_reducible exact Mod.refl _ _ | with_reducible apply Mod.drew | with_reducible apply Mod.drewN | with_reducible apply Mod.alloc | refine Mod.set1 ?_ (by first | exact rfl | simp) _ _))⟩
          · have b2 : (P.key.toList == k.last.toList) = false := (Lib.bytes_beq_false_iff _ _).2 he
            rw [decide_eq_false (fun h => he h.2.2)] at hFB
            subst hFB
            clear he hm
            go_enter Tryd.func68, Tryd.ntmps68
            go_wp2_with fail
            refine region_m (by kernel_rfl) ?_
            simp only [List.length_cons, List.length_nil, List.replicate]
            refine take1 0 ?_
            refine take1 1 ?_
            refine take1 2 ?_
            refine take1 3 ?_
            refine take1 4 ?_
            refine take1 5 ?_
            refine take1 6 ?_
            refine take1 7 ?_
            refine take1 8 ?_
            refine take1 9 ?_
            refine take1 10 ?_
            refine take1 11 ?_
            refine take1 12 ?_
            refine take1 13 ?_
            refine take1 14 ?_
            refine take1 15 ?_
            refine take1 16 ?_
            refine take1 17 ?_
            refine take1 18 ?_
            refine take1 19 ?_
            refine take1 20 ?_
            refine wpAnyM_done (by kernel_rfl) ?_
            go_wp2_with fail
            go_ret
            exact ⟨rfl, by (repeat (first | with_reducible exact Mod.refl _ _ | with_reducible apply Mod.drew | with_reducible apply Mod.drewN | with_reducible apply Mod.alloc | refine Mod.set1 ?_ (by first | exact rfl | simp) _ _))⟩
        · have b1 : ((n : Int) + 1 == k.many) = false := by simpa using hm
          rw [decide_eq_false (fun h => hm h.2.1)] at hFB
          subst hFB
          clear hm
          go_enter Tryd.func68, Tryd.ntmps68
          go_wp2_with fail
          refine region_m (by kernel_rfl) ?_
          simp only [List.length_cons, List.length_nil, List.replicate]
          refine take1 0 ?_
          refine take1 1 ?_
          refine take1 2 ?_
          refine take1 3 ?_
          refine take1 4 ?_
          refine take1 5 ?_
          refine take1 6 ?_
          refine take1 7 ?_
          refine take1 8 ?_
          refine take1 9 ?_
          refine take1 10 ?_
          refine take1 11 ?_
          refine take1 12 ?_
          refine take1 13 ?_
          refine take1 14 ?_
          refine take1 15 ?_
          refine take1 16 ?_
          refine take1 17 ?_
          refine take1 18 ?_
          refine take1 19 ?_
          refine take1 20 ?_
          refine wpAnyM_done (by kernel_rfl) ?_
          go_wp2_with fail
          go_ret
          exact ⟨rfl, by (repeat (first | with_reducible exact Mod.refl _ _ | with_reducible apply Mod.drew | with_reducible apply Mod.drewN | with_reducible apply Mod.alloc | refine Mod.set1 ?_ (by first | exact rfl | simp) _ _))⟩
    · rw [if_neg h0] at hFB
      have hkz := hne h0
      have hll := lastL_at hkz
      rw [hll] at hFB
      obtain ⟨n, hn⟩ : ∃ n, kids.length = n + 1 := ⟨kids.length - 1, by omega⟩
      rcases hK0 with h | ⟨ba, o, rfl, hcell⟩
      · have := flat_len lc_len kids; rw [h] at this; simp at this; omega
      have hK1 : Cells _ (some ⟨ba, o, none⟩) (kids.flatMap lc) := .inr ⟨ba, o, rfl, hcell⟩
      have y0 := hcell _ _ (flat_get lc_len kids (kids.length - 1) 0 (by omega) (by omega))
      obtain ⟨P, hPE⟩ : ∃ P, kids[kids.length - 1] = P := ⟨_, rfl⟩
      simp only [hPE] at y0 hFB
      rw [Nat.add_zero, show kids.length - 1 = n by omega] at y0
      have hmc := fun w1 (hc : Cells w1 (some ⟨ba, o, none⟩) (kids.flatMap lc)) => many_calls (some ⟨ba, o, none⟩) ck kids w1 hc hkl hs
      rw [hn] at hmc
      rw [hn] at hb0 hb1 hm0 y0 hK1 x1
      rw [hn]
      obtain ⟨W, hW⟩ : ∃ W, (w.alloc (.cells #[.slice Ap np cp, .int .i64 level, .slice (some ⟨ba, o, none⟩) (n + 1) ck] 80)).alloc (.cells #[.string k.last, .string k.id, .int .i64 k.many] 67) = W := ⟨_, rfl⟩
      have hbl : ba < W.heap.size := by rw [← hW]; exact World.block_lt_of_cell? _ _ y0
      rw [hW] at hb0 hb1 hm0 y0 hK1 x1
      have fv0 := fun (w' : World) (mm : Mod0 W.drew w') => ((Mod.of_drew_l mm).cell (p := ⟨w.heap.size, 2, none⟩) hb0.lt (fun h => h)).trans (hb0.cell (o := 2) rfl)
      have fv1 := fun (w' : World) (mm : Mod0 W.drew w') => ((Mod.of_drew_l mm).cell (p := ⟨w.heap.size + 1, 2, none⟩) hb1.lt (fun h => h)).trans (hb1.cell (o := 2) rfl)
      have hg0 := fun (w1 : World) (m1 : Mod0 W.drew w1) (w' : World) (mm : Mod0 w1 w') => ((Mod.of_drew_l (Mod.trans m1 mm (fun _ _ h => h))).cell (p := ⟨w.heap.size, 2, none⟩) hb0.lt (fun h => h)).trans (hb0.cell (o := 2) rfl)
      have hg1 := fun (w1 : World) (m1 : Mod0 W.drew w1) (w' : World) (mm : Mod0 w1 w') => ((Mod.of_drew_l (Mod.trans m1 mm (fun _ _ h => h))).cell (p := ⟨w.heap.size + 1, 0, none⟩) hb1.lt (fun h => h)).trans (hb1.cell (o := 0) rfl)
      have hg2 := fun (w1 : World) (m1 : Mod0 W.drew w1) (w' : World) (mm : Mod0 w1 w') => ((Mod.of_drew_l (Mod.trans m1 mm (fun _ _ h => h))).cell (p := ⟨ba, o + n * 3, none⟩) hbl (fun h => h)).trans y0
      have HG := Lib.hid (And.intro hg0 (And.intro hg1 hg2))
      have HK1 := Lib.hid hK1
      have HMN := Lib.hid hmc
      have HM0 := Lib.hid hm0
      have w2 : IntKind.i64.wrap (n : Int) = (n : Int) := by rw [IntKind.wrap_i64]; omega
      have n0 : (0 : Int) ≤ (n : Int) := by omega
      have n1 : (n : Int) < (n : Int) + 1 := by omega
      have b0 : (level == 0) = false := by simpa using h0
      have b9 : (level != level) = false := by simp
      clear hP hK hP0 hs hb0 y0 hcell hll hPE hK1 hmc hm0 hg0 hg1 hg2 hne
      have hb1' := hb1
      by_cases hm : manyL kids = k.many
      · have b1 : (manyL kids == k.many) = true := by simpa using hm
        by_cases he : P.last = k.last
        · have b2 : (P.last.toList == k.last.toList) = true := (Lib.bytes_beq_iff _ _).2 he
          rw [decide_eq_true ⟨hm, he⟩] at hFB
          subst hFB
          clear he hm
          go_enter Tryd.func68, Tryd.ntmps68
          go_wp2_with fail
          refine region_mT (fun _ => False) (by kernel_rfl) ?_
          simp only [List.length_cons, List.length_nil, List.replicate]
          refine take1T 0 ?_
          refine take1T 1 ?_
          refine take1T 2 ?_
          refine take1T 4 ?_
          refine take1T 5 ?_
          refine step1T 3 ?_
          go_simp
          refine (HMN.out _ (HK1.out.keep ((Mod.refl (fun _ => False) _).drew) (fun _ _ h => h))).mono ?_
          rintro e w1 ⟨rfl, hm1⟩
          refine ⟨.inl hm1, ?_⟩
          have gv0 := HG.out.1 w1 hm1
          have gv1 := HG.out.2.1 w1 hm1
          have gv2 := HG.out.2.2 w1 hm1
          refine take1T 6 ?_
          refine take1T 7 ?_
          refine take1T 8 ?_
          refine take1T 9 ?_
          refine take1T 10 ?_
          refine take1T 11 ?_
          refine take1T 12 ?_
          refine take1T 13 ?_
          refine take1T 14 ?_
          refine take1T 15 ?_
          refine take1T 16 ?_
          refine take1T 17 ?_
          refine take1T 18 ?_
          refine take1T 19 ?_
          refine take1T 20 ?_
          refine take1T 21 ?_
          refine take1T 22 ?_
          refine take1T 23 ?_
          refine wpAnyT_done (by kernel_rfl) ?_
          have HMF := Lib.hid (Mod.trans HM0.out (Mod.of_drew_l hm1) (fun _ _ h => h))
          clear hm1
          go_wp2_with fail
          go_ret
          exact ⟨rfl, HMF.out⟩
        · have b2 : (P.last.toList == k.last.toList) = false := (Lib.bytes_beq_false_iff _ _).2 he
          rw [decide_eq_false (fun h => he h.2)] at hFB
          subst hFB
          clear he hm
          go_enter Tryd.func68, Tryd.ntmps68
          go_wp2_with fail
          refine region_mT (fun _ => False) (by kernel_rfl) ?_
          simp only [List.length_cons, List.length_nil, List.replicate]
          refine take1T 0 ?_
          refine take1T 1 ?_
          refine take1T 2 ?_
          refine take1T 4 ?_
          refine take1T 5 ?_
          refine step1T 3 ?_
          go_simp
          refine (HMN.out _ (HK1.out.keep ((Mod.refl (fun _ => False) _).drew) (fun _ _ h => h))).mono ?_
          rintro e w1 ⟨rfl, hm1⟩
          refine ⟨.inl hm1, ?_⟩
          have gv0 := HG.out.1 w1 hm1
          have gv1 := HG.out.2.1 w1 hm1
          have gv2 := HG.out.2.2 w1 hm1
          refine take1T 6 ?_
          refine take1T 7 ?_
          refine take1T 8 ?_
          refine take1T 9 ?_
          refine take1T 10 ?_
          refine take1T 11 ?_
          refine take1T 12 ?_
          refine take1T 13 ?_
          refine take1T 14 ?_
          refine take1T 15 ?_
          refine take1T 16 ?_
          refine take1T 17 ?_
          refine take1T 18 ?_
          refine take1T 19 ?_
          refine take1T 20 ?_
          refine take1T 21 ?_
          refine take1T 22 ?_
          refine take1T 23 ?_
          refine wpAnyT_done (by kernel_rfl) ?_
          have HMF := Lib.hid (Mod.trans HM0.out (Mod.of_drew_l hm1) (fun _ _ h => h))
          clear hm1
          go_wp2_with fail
          go_ret
          exact ⟨rfl, HMF.out⟩
      · have b1 : (manyL kids == k.many) = false := by simpa using hm
        rw [decide_eq_false (fun h => hm h.1)] at hFB
        subst hFB
        clear hm
        go_enter Tryd.func68, Tryd.ntmps68
        go_wp2_with fail
        refine region_mT (fun _ => False) (by kernel_rfl) ?_
        simp only [List.length_cons, List.length_nil, List.replicate]
        refine take1T 0 ?_
        refine take1T 1 ?_
        refine take1T 2 ?_
        refine take1T 4 ?_
        refine take1T 5 ?_
        refine step1T 3 ?_
        go_simp
        refine (HMN.out _ (HK1.out.keep ((Mod.refl (fun _ => False) _).drew) (fun _ _ h => h))).mono ?_
        rintro e w1 ⟨rfl, hm1⟩
        refine ⟨.inl hm1, ?_⟩
        refine take1T 6 ?_
        refine take1T 7 ?_
        refine take1T 8 ?_
        refine take1T 9 ?_
        refine take1T 10 ?_
        refine take1T 11 ?_
        refine take1T 12 ?_
        refine take1T 13 ?_
        refine take1T 14 ?_
        refine take1T 15 ?_
        refine take1T 16 ?_
        refine take1T 17 ?_
        refine take1T 18 ?_
        refine take1T 19 ?_
        refine take1T 20 ?_
        refine take1T 21 ?_
        refine take1T 22 ?_
        refine take1T 23 ?_
        refine wpAnyT_done (by kernel_rfl) ?_
        have HMF := Lib.hid (Mod.trans HM0.out (Mod.of_drew_l hm1) (fun _ _ h => h))
        clear hm1
        go_wp2_with fail
        go_ret
        exact ⟨rfl, HMF.out⟩
  · rw [if_pos hL] at hFB
    subst hFB
    have b1 : (level == L) = false := by simpa using hL
    have b2 : (level != L) = true := by simpa using hL
    clear hP hK hP0 hK0 hs
    go_enter Tryd.func68, Tryd.ntmps68
    go_wp2_with fail
    go_ret
    exact ⟨rfl, by (repeat (first | with_reducible exact Mod.refl _ _ | with_reducible apply Mod.drew | with_reducible apply Mod.drewN | with_reducible apply Mod.alloc | refine Mod.set1 ?_ (by first | exact rfl | simp) _ _))⟩
end Prolly
end Go.Proofs.YtpoljpjcmigobaaDoor
