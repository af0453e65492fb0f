/- The walks of the net: New, Sent, Left. -/
import Derived.Test.YtocpifoimoaibaaNetW
namespace Go.Proofs.Ytocpifoimoaibaa
set_option linter.unusedVariables false
set_option linter.unusedSimpArgs false
open Go.RowKit K
namespace Net

def fv (f : Fate) : Value := .agg #[.int .i64 f.k, .int .i64 f.a, .int .u8 (f.b.toNat : Int)]
def badF (f : Fate) : Bool := decide (f.k < 0) || decide (4 < f.k)
def anyBad (l : List Fate) : Bool := l.any badF

set_option maxRecDepth 100000 in
theorem bad_calls (f : Fate) (w : World) : Calls Try.prog 20 #[fv f] w fun e w' => e = .returned (.bool (badF f)) ∧ Mod (fun _ => False) w w' := by
  obtain ⟨k, a, b⟩ := f
  unfold fv badF
  by_cases h1 : k < 0
  · go_enter Try.func20, Try.ntmps20
    go_wp2_with fail
    go_ret
    exact ⟨by simp [h1], by (repeat (first | with_reducible exact Mod.refl _ _ | with_reducible apply Mod.drew | with_reducible apply Mod.drewN | with_reducible apply Mod.alloc | refine Mod.set1 ?_ (by first | exact rfl | simp) _ _))⟩
  · by_cases h2 : 4 < k
    all_goals
      go_enter Try.func20, Try.ntmps20
      go_wp2_with fail
      go_ret
      exact ⟨by simp [h1, h2], by (repeat (first | with_reducible exact Mod.refl _ _ | with_reducible apply Mod.drew | with_reducible apply Mod.drewN | with_reducible apply Mod.alloc | refine Mod.set1 ?_ (by first | exact rfl | simp) _ _))⟩

/-- where the first one is that is not right; below 0: none -/
def IdxPost (l : List Fate) (w : World) (e : Ending) (w' : World) : Prop := ∃ z : Int, e = .returned (.int .i64 z) ∧ (decide (0 ≤ z) = anyBad l) ∧ Mod (fun _ => False) w w'

set_option maxRecDepth 100000 in
set_option maxHeartbeats 1000000 in
theorem index_calls (A : Option Addr) (c : Nat) (l : List Fate) (w : World) (hA : Cells w A (fcs l)) (hc : l.length ≤ c) (hm : c ≤ maxLen) :
    Calls Try.prog 24 #[.slice A l.length c, .func (.func 20) #[] #[]] w (IdxPost l w) := by
  unfold maxLen at hm
  have HA := Lib.hid hA
  clear hA
  go_enter Try.func24, Try.ntmps24
  go_wp2_with fail
  go_loopw [8] (fun i w' => ∃ k : Nat, i = .int .i64 k ∧ k ≤ l.length ∧ Hid (anyBad (l.take k) = false) ∧ Hid (Mod (fun _ => False) w w')) (fun i _ => l.length - (intOf i).toNat)
  case atStart => exact ⟨0, by go_num, by omega, Lib.hid rfl, Lib.hid (Mod.refl _ _)⟩
  case round =>
    obtain ⟨k, rfl, hk, HB, HM⟩ := hrel
    by_cases hlt : k < l.length
    · have i1 : (k : Int) < (l.length : Int) := by omega
      rcases HA.out.keep HM.out (fun _ _ h => h) with h | ⟨b, o, rfl, hcell⟩
      · have := fcs_len l; rw [h] at this; simp at this; omega
      have g := fcs_get l k hlt
      have c0 := hcell _ _ g.1
      have c1 := hcell _ _ g.2.1
      have c2 := hcell _ _ g.2.2
      rw [← Nat.add_assoc] at c1 c2
      have htk : anyBad (l.take (k + 1)) = (anyBad (l.take k) || badF l[k]) := by unfold anyBad; rw [List.take_succ_eq_append_getElem hlt, List.any_append]; simp only [List.any_cons, List.any_nil, Bool.or_false]
      have hin : badF l[k] = true → anyBad l = true := fun h => by unfold anyBad; exact List.any_eq_true.2 ⟨_, List.getElem_mem hlt, h⟩
      generalize l[k] = f at *
      have HF := Lib.hid (bad_calls f)
      have HT := Lib.hid htk
      have HI := Lib.hid hin
      unfold fv at HF
      clear hcell g htk hin
      by_cases hb : badF f = true
      · rw [hb] at HF
        go_wp2_with fail
        refine (HF.out _).mono ?_
        rintro e w1 ⟨rfl, hm1⟩
        have HM2 := Lib.hid (Mod.trans HM.out hm1 (fun _ _ h => h))
        clear hm1
        go_wp2_with fail
        go_ret
        exact ⟨k, rfl, by rw [HI.out hb]; simp, HM2.out⟩
      · rw [Bool.not_eq_true] at hb
        rw [hb] at HF
        go_wp2_with fail
        refine (HF.out _).mono ?_
        rintro e w1 ⟨rfl, hm1⟩
        have HM2 := Lib.hid (Mod.trans HM.out hm1 (fun _ _ h => h))
        clear hm1
        go_wp2_with fail
        go_roundw
        case rel => exact ⟨k + 1, by go_num, by omega, Lib.hid (by rw [HT.out, HB.out, hb]; rfl), HM2⟩
        case measure => simp [intOf]; omega
    · have hkl : k = l.length := by omega
      have i1 : ¬ (k : Int) < (l.length : Int) := by omega
      go_wp2_with fail
      go_ret
      have hb := HB.out
      rw [hkl, List.take_length] at hb
      exact ⟨-1, rfl, by rw [hb]; decide, HM.out⟩

set_option maxRecDepth 100000 in
theorem contains_calls (A : Option Addr) (c : Nat) (l : List Fate) (w : World) (hA : Cells w A (fcs l)) (hc : l.length ≤ c) (hm : c ≤ maxLen) :
    Calls Try.prog 19 #[.slice A l.length c, .func (.func 20) #[] #[]] w fun e w' => e = .returned (.bool (anyBad l)) ∧ Mod (fun _ => False) w w' := by
  have HI := Lib.hid (index_calls A c l w hA hc hm)
  clear hA
  go_enter Try.func19, Try.ntmps19
  go_wp2_with fail
  refine HI.out.mono ?_
  rintro e w1 ⟨z, rfl, hz, hm1⟩
  have HZ := Lib.hid hz
  have HM := Lib.hid hm1
  clear hz hm1
  go_wp2_with fail
  go_ret
  refine ⟨?_, HM.out⟩
  have := HZ.out
  rw [← this]
  rfl

def ClonePost (l : List Fate) (w : World) (e : Ending) (w' : World) : Prop := ∃ A c, e = .returned (.slice A l.length c) ∧ FatesAt w' A c l ∧ (∀ a, A = some a → w.heap.size ≤ a.block) ∧ Mod (fun _ => False) w w'

theorem own_fates {w : World} {base : Nat} {v : Value} {l : List Fate} (h : w.ownsRow base 35 3 v l.length (fcs l)) : ∃ A c, v = .slice A l.length c ∧ FatesAt w A c l ∧ ∀ a, A = some a → base ≤ a.block := by
  obtain ⟨A, c, rfl, h1, h2, h3, h4⟩ := own_cells h
  refine ⟨A, c, rfl, ⟨h2, h1, h4, h3, fun a ha => ?_⟩, fun a ha => ?_⟩
  · subst ha; exact own_row h rfl
  · subst ha; exact (h.lt a.block rfl).1

set_option maxRecDepth 100000 in
set_option maxHeartbeats 1000000 in
theorem clone_calls (A : Option Addr) (c : Nat) (l : List Fate) (w : World) (hA : Cells w A (fcs l)) (hb : l.length * 24 ≤ 140737488355328) :
    Calls Try.prog 21 #[.slice A l.length c] w (ClonePost l w) := by
  cases A with
  | none =>
    have hl : l = [] := by
      rcases hA with h | ⟨b, o, h, _⟩
      · cases l; rfl; cases h
      · cases h
    subst hl
    have hq := Lib.run_eql_slice_nil (P := Try.prog) w 22 35 none 0 c 0 0 Try.underlying22
    clear hA hb
    go_enter Try.func21, Try.ntmps21
    go_wp2_with fail
    go_ret
    exact ⟨none, 0, rfl, ⟨.inl rfl, Nat.le_refl _, by unfold maxLen; omega, .inl rfl, (fun a h => by cases h)⟩, (fun a h => by cases h), Mod.refl _ _⟩
  | some ad =>
    have HA := Lib.hid hA
    have hq := Lib.run_eql_slice_nil (P := Try.prog) w 22 35 (some ad) l.length c 0 0 Try.underlying22
    clear hA
    go_enter Try.func21, Try.ntmps21
    go_wp2_with (first
      | (at_builtin
         go_must (refine appG _ _ T_fate w.heap.size (.slice (some ⟨w.heap.size, 0, none⟩) 0 0) 0 [] (own_lit rfl (Nat.le_refl _) (Nat.zero_le _) rfl) _ l.length c (fcs l) rfl rfl rfl rfl (fcs_len l) (HA.out.alloc _) (fcs_one l) (by omega) (by unfold maxLen; omega) (by simp) ?_; intro v' w2 hown2 hm2 hrow)
         simp only [Nat.zero_add, List.nil_append] at hown2
         have H2 := Lib.hid hown2
         have M2 := Lib.hid hm2
         clear hown2 hm2 hrow))
    go_ret
    obtain ⟨A2, c2, rfl, h1, h2⟩ := own_fates H2.out
    refine ⟨A2, c2, rfl, h1, h2, Mod.trans (Mod.alloc (Mod.refl _ _) _) M2.out (fun i hi h => ?_)⟩
    simp [Value.ownBlock] at h; omega
/-- a way, as a function value -/
def wayV (b ww : Nat) : Value := .func (.func 25) #[] #[.pointer (some ⟨b, 0, none⟩), .pointer (some ⟨ww, 0, none⟩)]

set_option maxRecDepth 100000 in
theorem mkway_calls (bn : Nat) (w : World) : Calls Try.prog 22 #[.pointer (some ⟨bn, 0, none⟩)] w fun e w' => e = .returned (wayV w.heap.size (w.heap.size + 1)) ∧ WayAt w' bn w.heap.size (w.heap.size + 1) (.slice none 0 0) [] ∧ Mod (fun _ => False) w w' ∧ w'.heap.size = w.heap.size + 2 := by
  go_enter Try.func22, Try.ntmps22
  go_wp2_with fail
  go_ret
  refine ⟨rfl, ⟨(Has.new w _ _).alloc _, Has.lit (by simp), World.ownsRow_nil _ _ _ _⟩, ?_, by simp⟩
  (repeat (first | with_reducible exact Mod.refl _ _ | with_reducible apply Mod.drew | with_reducible apply Mod.drewN | with_reducible apply Mod.alloc | refine Mod.set1 ?_ (by first | exact rfl | simp) _ _))

/-- where a net stands -/
structure NP where
  bn : Nat
  b1 : Nat
  b2 : Nat
  w1 : Nat
  w2 : Nat
  A : Option Addr
  c : Nat
  v1 : Value
  v2 : Value
/-- its blocks -/
def NP.fp (p : NP) (k : Nat) : Prop := k = p.bn ∨ k = p.b1 ∨ k = p.b2 ∨ k = p.w1 ∨ k = p.w2 ∨ p.v1.ownBlock = some k ∨ p.v2.ownBlock = some k ∨ ∃ a, p.A = some a ∧ a.block = k
structure NetAt (w : World) (sf : Value) (p : NP) (sent : Nat) (l : List Fate) (wt wb : List ByteArray) : Prop where
  net : NetHas w p.bn sf (wayV p.b1 p.w1) (wayV p.b2 p.w2) sent p.A p.c l
  there : WayAt w p.bn p.b1 p.w1 p.v1 wt
  back : WayAt w p.bn p.b2 p.w2 p.v2 wb
  ne : p.w1 ≠ p.w2
  row : ∀ k, p.v1.ownBlock = some k → p.v2.ownBlock = some k → False
theorem NetAt.keep {w w' : World} {S : Nat → Prop} {sf : Value} {p : NP} {sent : Nat} {l : List Fate} {wt wb : List ByteArray} (h : NetAt w sf p sent l wt wb) (m : Mod S w w') (hs : ∀ k, p.fp k → ¬ S k) : NetAt w' sf p sent l wt wb :=
  ⟨⟨h.net.1.keep m (hs _ (.inl rfl)), h.net.2.keep m (fun a ha => hs _ (by unfold NP.fp; exact .inr (.inr (.inr (.inr (.inr (.inr (.inr ⟨a, ha, rfl⟩))))))))⟩,
   h.there.keep m (hs _ (.inr (.inl rfl))) (hs _ (by unfold NP.fp; simp)) (fun k hk => hs _ (by unfold NP.fp; simp [hk])),
   h.back.keep m (hs _ (by unfold NP.fp; simp)) (hs _ (by unfold NP.fp; simp)) (fun k hk => hs _ (by unfold NP.fp; simp [hk])), h.ne, h.row⟩
theorem NetAt.lt {w : World} {sf : Value} {p : NP} {sent : Nat} {l : List Fate} {wt wb : List ByteArray} (h : NetAt w sf p sent l wt wb) : ∀ k, p.fp k → k < w.heap.size := by
  rintro k (rfl | rfl | rfl | rfl | rfl | hk | hk | ⟨a, ha, rfl⟩)
  · exact h.net.1.lt
  · exact h.there.box.lt
  · exact h.back.box.lt
  · exact h.there.var.lt
  · exact h.back.var.lt
  · exact (h.there.own.lt k hk).2
  · exact (h.back.own.lt k hk).2
  · obtain ⟨cur, fr, hr⟩ := h.net.2.row a ha
    exact (Array.getElem?_eq_some_iff.1 hr).1

/-- what comes on a way, in memory -/
def GoPost (sf : Value) (p : NP) (sent : Nat) (l : List Fate) (out wt wb : List ByteArray) (w : World) (e : Ending) (w' : World) : Prop :=
  ∃ r p', e = .returned r ∧ w'.ownsRow w.heap.size 9 1 r out.length (sv out) ∧ NetAt w' sf p' sent l wt wb ∧ p'.bn = p.bn ∧ Mod p.fp w w' ∧ (∀ k, p'.fp k → p.fp k ∨ w.heap.size ≤ k) ∧ (∀ k, r.ownBlock = some k → ¬ p'.fp k)

theorem there_calls (sf : Value) (p : NP) (sent : Nat) (l : List Fate) (wt wb : List ByteArray) (s : ByteArray) (w : World) (h : NetAt w sf p sent l wt wb) (hl : FWf l) (hs : s.size ≤ maxLen) (h0 : 0 < s.size) (hwl : wt.length ≤ 1000000) :
    Calls Try.prog 25 #[.string s, .pointer (some ⟨p.b1, 0, none⟩), .pointer (some ⟨p.w1, 0, none⟩)] w (GoPost sf p sent l.tail (goes (hd l) s wt).1 (goes (hd l) s wt).2 wb w) := by
  have hlt := h.lt
  refine (way_calls p.bn p.b1 p.w1 sf (wayV p.b1 p.w1) (wayV p.b2 p.w2) sent p.A p.c l p.v1 wt s w h.net h.there hl hs h0 hwl).mono ?_
  rintro e w' ⟨r, A', c', v', rfl, hr, hN, hsr, hW, hm, hrow, hd⟩
  have hsub : ∀ k, (k = p.bn ∨ k = p.w1 ∨ p.v1.ownBlock = some k) → p.fp k := by
    rintro k (h | h | h)
    · exact .inl h
    · exact .inr (.inr (.inr (.inl h)))
    · exact .inr (.inr (.inr (.inr (.inr (.inl h)))))
  have hnb : ∀ k, k = p.b2 ∨ k = p.w2 ∨ p.v2.ownBlock = some k → ¬ (k = p.bn ∨ k = p.w1 ∨ p.v1.ownBlock = some k) := by
    rintro k hk (h1 | h1 | h1)
    · rcases hk with rfl | rfl | hk
      · exact has_ne2 h.net.1 h.back.box (by decide) h1
      · exact has_ne2 h.net.1 h.back.var (by decide) h1
      · exact has_ne h.net.1 (own_row h.back.own hk) (by decide) h1
    · rcases hk with rfl | rfl | hk
      · exact has_ne2 h.there.var h.back.box (by decide) h1
      · exact h.ne h1.symm
      · exact has_ne h.there.var (own_row h.back.own hk) (by decide) h1
    · rcases hk with rfl | rfl | hk
      · exact has_ne h.back.box (own_row h.there.own h1) (by decide) rfl
      · exact has_ne h.back.var (own_row h.there.own h1) (by decide) rfl
      · exact h.row k h1 hk
  have hv2 : ∀ k, p.v2.ownBlock = some k → k < w.heap.size := fun k hk => (h.back.own.lt k hk).2
  have hfp : ∀ k, NP.fp { p with A := A', c := c', v1 := v' } k → p.fp k ∨ (w.heap.size ≤ k ∧ v'.ownBlock = some k) := by
    rintro k (hk | hk | hk | hk | hk | hk | hk | ⟨a, ha, rfl⟩)
    · exact .inl (.inl hk)
    · exact .inl (.inr (.inl hk))
    · exact .inl (.inr (.inr (.inl hk)))
    · exact .inl (.inr (.inr (.inr (.inl hk))))
    · exact .inl (.inr (.inr (.inr (.inr (.inl hk)))))
    · rcases hrow k hk with h1 | h1
      · exact .inl (hsub k (.inr (.inr h1)))
      · exact .inr ⟨h1, hk⟩
    · exact .inl (.inr (.inr (.inr (.inr (.inr (.inr (.inl hk)))))))
    · obtain ⟨a0, h1, h2⟩ := hsr a ha
      exact .inl (.inr (.inr (.inr (.inr (.inr (.inr (.inr ⟨a0, h1, h2.symm⟩)))))))
  refine ⟨r, { p with A := A', c := c', v1 := v' }, rfl, hr, ⟨hN, hW, h.back.keep hm (hnb _ (.inl rfl)) (hnb _ (.inr (.inl rfl))) (fun k hk => hnb k (.inr (.inr hk))), h.ne, ?_⟩, rfl, hm.mono (fun k _ hk => hsub k hk), fun k hk => (hfp k hk).imp id And.left, fun k hk hf => ?_⟩
  · intro k h1 h2
    rcases hrow k h1 with h3 | h3
    · exact h.row k h3 h2
    · have := hv2 k h2; omega
  · have hk2 := (hr.lt k hk).1
    rcases hfp k hf with h1 | ⟨h1, h2⟩
    · have := hlt k h1; omega
    · rcases hd with h3 | h3
      · rw [h3] at hk; cases hk
      · rw [h3] at h2; cases h2

theorem back_calls (sf : Value) (p : NP) (sent : Nat) (l : List Fate) (wt wb : List ByteArray) (s : ByteArray) (w : World) (h : NetAt w sf p sent l wt wb) (hl : FWf l) (hs : s.size ≤ maxLen) (h0 : 0 < s.size) (hwl : wb.length ≤ 1000000) :
    Calls Try.prog 25 #[.string s, .pointer (some ⟨p.b2, 0, none⟩), .pointer (some ⟨p.w2, 0, none⟩)] w (GoPost sf p sent l.tail (goes (hd l) s wb).1 wt (goes (hd l) s wb).2 w) := by
  have hlt := h.lt
  refine (way_calls p.bn p.b2 p.w2 sf (wayV p.b1 p.w1) (wayV p.b2 p.w2) sent p.A p.c l p.v2 wb s w h.net h.back hl hs h0 hwl).mono ?_
  rintro e w' ⟨r, A', c', v', rfl, hr, hN, hsr, hW, hm, hrow, hd⟩
  have hsub : ∀ k, (k = p.bn ∨ k = p.w2 ∨ p.v2.ownBlock = some k) → p.fp k := by
    rintro k (h | h | h)
    · exact .inl h
    · exact .inr (.inr (.inr (.inr (.inl h))))
    · exact .inr (.inr (.inr (.inr (.inr (.inr (.inl h))))))
  have hnb : ∀ k, k = p.b1 ∨ k = p.w1 ∨ p.v1.ownBlock = some k → ¬ (k = p.bn ∨ k = p.w2 ∨ p.v2.ownBlock = some k) := by
    rintro k hk (h1 | h1 | h1)
    · rcases hk with rfl | rfl | hk
      · exact has_ne2 h.net.1 h.there.box (by decide) h1
      · exact has_ne2 h.net.1 h.there.var (by decide) h1
      · exact has_ne h.net.1 (own_row h.there.own hk) (by decide) h1
    · rcases hk with rfl | rfl | hk
      · exact has_ne2 h.back.var h.there.box (by decide) h1
      · exact h.ne h1
      · exact has_ne h.back.var (own_row h.there.own hk) (by decide) h1
    · rcases hk with rfl | rfl | hk
      · exact has_ne h.there.box (own_row h.back.own h1) (by decide) rfl
      · exact has_ne h.there.var (own_row h.back.own h1) (by decide) rfl
      · exact h.row k hk h1
  have hv2 : ∀ k, p.v1.ownBlock = some k → k < w.heap.size := fun k hk => (h.there.own.lt k hk).2
  have hfp : ∀ k, NP.fp { p with A := A', c := c', v2 := v' } k → p.fp k ∨ (w.heap.size ≤ k ∧ v'.ownBlock = some k) := by
    rintro k (hk | hk | hk | hk | hk | hk | hk | ⟨a, ha, rfl⟩)
    · exact .inl (.inl hk)
    · exact .inl (.inr (.inl hk))
    · exact .inl (.inr (.inr (.inl hk)))
    · exact .inl (.inr (.inr (.inr (.inl hk))))
    · exact .inl (.inr (.inr (.inr (.inr (.inl hk)))))
    · exact .inl (.inr (.inr (.inr (.inr (.inr (.inl hk))))))
    · rcases hrow k hk with h1 | h1
      · exact .inl (hsub k (.inr (.inr h1)))
      · exact .inr ⟨h1, hk⟩
    · obtain ⟨a0, h1, h2⟩ := hsr a ha
      exact .inl (.inr (.inr (.inr (.inr (.inr (.inr (.inr ⟨a0, h1, h2.symm⟩)))))))
  refine ⟨r, { p with A := A', c := c', v2 := v' }, rfl, hr, ⟨hN, h.there.keep hm (hnb _ (.inl rfl)) (hnb _ (.inr (.inl rfl))) (fun k hk => hnb k (.inr (.inr hk))), hW, h.ne, ?_⟩, rfl, hm.mono (fun k _ hk => hsub k hk), fun k hk => (hfp k hk).imp id And.left, fun k hk hf => ?_⟩
  · intro k h1 h2
    rcases hrow k h2 with h3 | h3
    · exact h.row k h1 h3
    · have := hv2 k h1; omega
  · have hk2 := (hr.lt k hk).1
    rcases hfp k hf with h1 | ⟨h1, h2⟩
    · have := hlt k h1; omega
    · rcases hd with h3 | h3
      · rw [h3] at hk; cases hk
      · rw [h3] at h2; cases h2

end Net
end Go.Proofs.Ytocpifoimoaibaa
