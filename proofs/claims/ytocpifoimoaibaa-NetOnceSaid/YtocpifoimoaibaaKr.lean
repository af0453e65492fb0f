/- A drawn region whose operations read what stays, or go on into newer worlds: what reads may be run first, whatever the order. -/
import Derived.Test.YtocpifoimoaibaaK
import Derived.Orders
namespace Go.Proofs.Ytocpifoimoaibaa
set_option linter.unusedVariables false
set_option linter.unusedSimpArgs false
open Go
namespace K

section
variable {P : Program} {ops : Array Oper} {Q : Exit → Act → World → Prop} {md : Region.Mode} {R : World → World → Prop}

/-- The operation reads the same, at a later frame. -/
def Same (ops : Array Oper) (o : Oper) (a a' : Act) : Prop := execOp a'.eval o = execOp a.eval o ∧ Region.wanted o (yielded ops a'.tmps) = Region.wanted o (yielded ops a.tmps)

/-- The operation gives v in this world and in every later one. -/
def RYields (R : World → World → Prop) (P : Program) (ops : Array Oper) (o : Oper) (v : Value) (a : Act) (w : World) : Prop :=
  (Region.wanted o (yielded ops a.tmps) = true ∧ ∀ w', R w w' → (execOp a.eval o).run P w' = .ok (.value v) w') ∨
  (Region.wanted o (yielded ops a.tmps) = false ∧ v = undef)

theorem RYields.wpOp {i : Nat} {o : Oper} {v : Value} {a : Act} {w : World} (hrefl : R w w) (hi : ops[i]? = some o) (hy : RYields R P ops o v a w)
    {K : Act → World → Prop} (h : K (a.put o.dst v) w) : wpOp P ops Q i K a w := by
  unfold Go.wpOp
  simp only [hi]
  rcases hy with ⟨hw, hv⟩ | ⟨hw, rfl⟩
  · simp only [hw, if_true, Oper.wp, hv w hrefl, Oper.upon]; exact .inl h
  · simp only [hw, Bool.false_eq_true, if_false]; exact h

theorem RYields.of_same {o : Oper} {v : Value} {a a' : Act} {w w' : World} (tr : ∀ x y z, R x y → R y z → R x z) (hy : RYields R P ops o v a w) (hs : Same ops o a a') (hw : R w w') : RYields R P ops o v a' w' := by
  unfold RYields at *
  rw [hs.1, hs.2]
  rcases hy with ⟨h1, h2⟩ | h
  · exact .inl ⟨h1, fun w'' h => h2 w'' (tr _ _ _ hw h)⟩
  · exact .inr h

theorem wpOp_put' {j : Nat} {oi oj : Oper} {v : Value} (hj : ops[j]? = some oj) (hap : oi.apart ops oj = true)
    (hsi : ∀ cs b, oi.op ≠ .select cs b) (hsj : ∀ cs b, oj.op ≠ .select cs b)
    (hQ : ∀ c a w, Q (.panic c) (a.put oi.dst v) w → Q (.panic c) a w) {K : Act → World → Prop} {a : Act} {w : World}
    (h : wpOp P ops Q j K (a.put oi.dst v) w) :
    wpOp P ops Q j (fun a' w' => Same ops oi a a' ∧ K (a'.put oi.dst v) w') a w := by
  obtain ⟨h1, h2, h3⟩ := Oper.apart_spec hap
  have keep : ∀ (a1 : Act), Same ops oi a a1 → ∀ u, Same ops oi a (a1.put oj.dst u) := fun a1 hy u =>
    ⟨(execOp_put oi hsi a1 oj.dst u h3).trans hy.1, (wanted_put oi a1 oj.dst u h3).trans hy.2⟩
  have rfl0 : Same ops oi a a := ⟨rfl, rfl⟩
  have keepD : ∀ d, Same ops oi a { a with defers := d :: a.defers } := fun d => ⟨rfl, rfl⟩
  unfold wpOp at *
  simp only [hj] at *
  rw [wanted_put oj a oi.dst v h1] at h
  split
  · rename_i hw
    simp only [hw, if_true] at h
    rcases h with h | ⟨hasks, hlets⟩
    case inr => exact .inr ⟨by unfold Oper.asks at *; rw [execOp_put oj hsj a oi.dst v h1] at hasks; exact hasks, hlets⟩
    refine .inl ?_
    unfold Oper.wp at *
    rw [execOp_put oj hsj a oi.dst v h1] at h
    generalize (execOp a.eval oj).run P w = r at *
    cases r with
    | ok n w' =>
      cases n <;> simp only [Oper.upon] at h ⊢
      case value u => exact ⟨keep a rfl0 u, by rw [← Act.put_comm a v u h2]; exact h⟩
      case skip => exact ⟨keep a rfl0 _, by rw [← Act.put_comm a v undef h2]; exact h⟩
      case defer d =>
        refine ⟨keep _ (keepD d) _, ?_⟩
        rw [← Act.put_comm _ v undef h2, ← Act.put_defers]
        exact h
      case enter f args =>
        refine Calls.mono h fun e w'' he => ?_
        cases e with
        | returned u => exact ⟨keep a rfl0 u, by rw [← Act.put_comm a v u h2]; exact he⟩
        | panicked c => exact hQ _ _ _ he
        | outgrown => exact he
      case row row args => exact Rows.mono h fun u w'' he => ⟨keep a rfl0 u, by rw [← Act.put_comm a v u h2]; exact he⟩
    | halt x w' =>
      cases x <;> simp only [Oper.upon] at h ⊢
      case panic u => exact hQ _ _ _ h
  · rename_i hw
    simp only [hw] at h
    exact ⟨keep a rfl0 _, by rw [← Act.put_comm a v undef h2]; exact h⟩

/-- Is the operation before or behind each other one, by an edge? -/
def pivot (md : Region.Mode) (ops : Array Oper) (j : Nat) : Bool :=
  (List.range ops.size).all fun i => i == j || (match ops[j]? with | some o => o.after.any fun e => Region.binds md e && e.on == i | none => false) ||
    (match ops[i]? with | some o => o.after.any fun e => Region.binds md e && e.on == j | none => false)

/-- As 'wpAny', each step leading into a later world, or being comparable with all. -/
def wpAnyM (R : World → World → Prop) (P : Program) (md : Region.Mode) (ops : Array Oper) (Q : Exit → Act → World → Prop) : Nat → Array Bool → Act → World → Prop
  | 0, listed, a, w => Region.ready md ops listed = [] ∧ Q .normal a w
  | fuel + 1, listed, a, w =>
    (Region.ready md ops listed = [] → Q .normal a w) ∧
    ∀ i ∈ Region.ready md ops listed, wpOp P ops Q i (fun a' w' => (R w w' ∨ pivot md ops i = true) ∧ wpAnyM R P md ops Q fuel (listed.setIfInBounds i true) a' w') a w

theorem wpAny_of_M : ∀ (fuel : Nat) (listed : Array Bool) (a : Act) (w : World), wpAnyM R P md ops Q fuel listed a w → wpAny P md ops Q fuel listed a w
  | 0, _, _, _, h => h
  | fuel + 1, _, _, _, h => ⟨h.1, fun i hi => wpOp_mono (fun a' w' h' => wpAny_of_M fuel _ a' w' h'.2) (h.2 i hi)⟩

theorem ready_not_wait {listed : Array Bool} {i : Nat} (hr : i ∈ Region.ready md ops listed) {o : Oper} {j : Nat} (hj : j ∈ Region.ready md ops listed) (ho : ops[j]? = some o) :
    (o.after.any fun e => Region.binds md e && e.on == i) = false := by
  obtain ⟨_, oj, hoj, hall⟩ := mem_ready.1 hj
  obtain rfl := Option.some.inj (hoj.symm.trans ho)
  have h0 := (mem_ready.1 hr).1
  cases h : (oj.after.any fun e => Region.binds md e && e.on == i) with
  | false => rfl
  | true =>
    obtain ⟨e, he, hb⟩ := Array.any_eq_true'.1 h
    simp only [Bool.and_eq_true, beq_iff_eq] at hb
    have h1 := hall e he hb.1
    rw [hb.2] at h1
    rcases Nat.lt_or_ge i listed.size with h' | h'
    · simp [h'] at h0 h1; rw [h0] at h1; cases h1
    · simp [Array.getElem?_eq_none h'] at h1

theorem not_pivot {listed : Array Bool} {i j : Nat} (hi : i ∈ Region.ready md ops listed) (hj : j ∈ Region.ready md ops listed) (hne : j ≠ i) : pivot md ops j = false := by
  cases h : pivot md ops j with
  | false => rfl
  | true =>
    obtain ⟨_, oi, hoi, _⟩ := mem_ready.1 hi
    obtain ⟨_, oj, hoj, _⟩ := mem_ready.1 hj
    have h1 := List.all_eq_true.1 h i (List.mem_range.2 (Array.getElem?_eq_some_iff.1 hoi).1)
    rw [hoi, hoj] at h1
    simp only [Bool.or_eq_true, beq_iff_eq] at h1
    rcases h1 with (h1 | h1) | h1
    · exact absurd h1.symm hne
    · rw [ready_not_wait hi hj hoj] at h1; cases h1
    · rw [ready_not_wait hj hi hoi] at h1; cases h1

theorem wpAnyM_first (tr : ∀ x y z, R x y → R y z → R x z) (refl : ∀ x, R x x) {i : Nat} {oi : Oper} {v : Value} (hi : ops[i]? = some oi) (hsel : ∀ (j : Nat) (o : Oper) cs b, ops[j]? = some o → o.op ≠ .select cs b)
    (hQ : ∀ c a w, Q (.panic c) (a.put oi.dst v) w → Q (.panic c) a w) :
    ∀ (fuel : Nat) (listed : Array Bool) (a : Act) (w : World),
      (∀ j oj, ops[j]? = some oj → j ≠ i → listed.getD j true = false → (∀ e ∈ oj.after, Region.binds md e = true → e.on ≠ i) → oi.apart ops oj = true) →
      i ∈ Region.ready md ops listed → RYields R P ops oi v a w →
      wpAnyM R P md ops Q fuel (listed.setIfInBounds i true) (a.put oi.dst v) w → wpAnyM R P md ops Q (fuel + 1) listed a w := by
  intro fuel
  induction fuel with
  | zero =>
    intro listed a w _ hr hy H
    refine ⟨fun h => (by rw [h] at hr; cases hr), fun j hj => ?_⟩
    by_cases hji : j = i
    · subst hji; exact hy.wpOp (refl _) hi ⟨.inl (refl _), H⟩
    · have := ready_mono hj hji
      rw [H.1] at this
      cases this
  | succ fuel ih =>
    intro listed a w hfree hr hy H
    refine ⟨fun h => (by rw [h] at hr; cases hr), fun j hj => ?_⟩
    by_cases hji : j = i
    · subst hji; exact hy.wpOp (refl _) hi ⟨.inl (refl _), H⟩
    · have h1 := H.2 j (ready_mono hj hji)
      have hpv := not_pivot hr hj hji
      obtain ⟨hjun, oj, hoj, hall⟩ := mem_ready.1 hj
      have hnot : ∀ e ∈ oj.after, Region.binds md e = true → e.on ≠ i := fun e he hb heq => by
        have h1 := hall e he hb
        have h0 := (mem_ready.1 hr).1
        rw [heq] at h1
        rcases Nat.lt_or_ge i listed.size with h' | h'
        · simp [h'] at h0 h1; rw [h0] at h1; cases h1
        · simp [Array.getElem?_eq_none h'] at h1
      have h2 := wpOp_put' hoj (hfree j oj hoj hji hjun hnot) (fun cs b => hsel i oi cs b hi) (fun cs b => hsel j oj cs b hoj) hQ h1
      have hfree' : ∀ k ok, ops[k]? = some ok → k ≠ i → (listed.setIfInBounds j true).getD k true = false →
          (∀ e ∈ ok.after, Region.binds md e = true → e.on ≠ i) → oi.apart ops ok = true := fun k ok hk hki hun hno => by
        refine hfree k ok hk hki ?_ hno
        by_cases hjk : j = k
        · subst hjk; exact hjun
        · rw [getD_set_ne true hjk] at hun; exact hun
      refine wpOp_mono (fun a' w' h3 => ?_) h2
      obtain ⟨hs, hR, hM⟩ := h3
      have hR : R w w' := by
        rcases hR with h | h
        · exact h
        · rw [hpv] at h; cases h
      refine ⟨.inl hR, ih (listed.setIfInBounds j true) a' w' hfree' (ready_mono hr (Ne.symm hji)) (hy.of_same tr hs hR) ?_⟩
      rw [Array.setIfInBounds_comm _ _ hji]
      exact hM

theorem wpAnyM_take (tr : ∀ x y z, R x y → R y z → R x z) (refl : ∀ x, R x x) (i : Nat) {oi : Oper} {v : Value} {fuel : Nat} {listed : Array Bool} {a : Act} {w : World} (hi : ops[i]? = some oi)
    (hs : Region.noSelect ops = true) (hf : Region.free md ops listed i = true) (hr : (Region.ready md ops listed).contains i = true)
    (hQ : ∀ c a w, Q (.panic c) (a.put oi.dst v) w → Q (.panic c) a w) (hy : RYields R P ops oi v a w)
    (h : wpAnyM R P md ops Q fuel (listed.setIfInBounds i true) (a.put oi.dst v) w) : wpAnyM R P md ops Q (fuel + 1) listed a w :=
  wpAnyM_first tr refl hi (Region.noSelect_spec hs) hQ fuel listed a w (Region.free_spec hi hf) (by simpa using hr) hy h

theorem wpAnyM_step (i : Nat) {fuel : Nat} {listed : Array Bool} {a : Act} {w : World} (hr : Region.ready md ops listed = [i])
    (h : wpOp P ops Q i (fun a' w' => (R w w' ∨ pivot md ops i = true) ∧ wpAnyM R P md ops Q fuel (listed.setIfInBounds i true) a' w') a w) : wpAnyM R P md ops Q (fuel + 1) listed a w :=
  ⟨(fun h0 => by rw [hr] at h0; cases h0), fun j hj => by rw [hr] at hj; obtain rfl := List.mem_singleton.1 hj; exact h⟩

theorem wpAnyM_two (i j : Nat) {fuel : Nat} {listed : Array Bool} {a : Act} {w : World} (hr : Region.ready md ops listed = [i, j])
    (h : wpOp P ops Q i (fun a' w' => (R w w' ∨ pivot md ops i = true) ∧ wpAnyM R P md ops Q fuel (listed.setIfInBounds i true) a' w') a w)
    (h' : wpOp P ops Q j (fun a' w' => (R w w' ∨ pivot md ops j = true) ∧ wpAnyM R P md ops Q fuel (listed.setIfInBounds j true) a' w') a w) : wpAnyM R P md ops Q (fuel + 1) listed a w :=
  ⟨(fun h0 => by rw [hr] at h0; cases h0), fun k hk => by
    rw [hr] at hk
    rcases List.mem_cons.1 hk with rfl | hk
    · exact h
    · obtain rfl := List.mem_singleton.1 hk; exact h'⟩

theorem wpAnyM_done {fuel : Nat} {listed : Array Bool} {a : Act} {w : World} (hr : Region.ready md ops listed = []) (h : Q .normal a w) : wpAnyM R P md ops Q fuel listed a w := by
  cases fuel with
  | zero => exact ⟨hr, h⟩
  | succ _ => exact ⟨fun _ => h, by rw [hr]; simp⟩

end

/-- the relation of this text: nothing that was there has turned -/
abbrev Mod0 : World → World → Prop := Mod (fun _ => False)
theorem mod0_trans : ∀ (x y z : World), Mod0 x y → Mod0 y z → Mod0 x z := fun _ _ _ h k => Mod.trans h k (fun _ _ h => h)

theorem region_m {P : Program} {Q : Exit → Act → World → Prop} {id : Nat} {l : List Oper} {a : Act} {w : World} (hm : P.follows .mixedOrders = true)
    (h : wpAnyM Mod0 P .any l.toArray Q l.length (List.replicate l.length false).toArray a w.drew) : (Code.region id l.toArray true).wp P Q a w := by
  refine wp_region_any hm ?_
  have := wpAny_of_M _ _ _ _ h
  simpa using this

theorem take0 {P : Program} {ops : Array Oper} {Q : Exit → Act → World → Prop} (i : Nat) {oi : Oper} {v : Value} {fuel : Nat} {listed : Array Bool} {a : Act} {w : World} (hi : ops[i]? = some oi)
    (hs : Region.noSelect ops = true) (hf : Region.free .any ops listed i = true) (hr : (Region.ready .any ops listed).contains i = true)
    (hQ : ∀ c a w, Q (.panic c) (a.put oi.dst v) w → Q (.panic c) a w) (hy : RYields Mod0 P ops oi v a w)
    (h : wpAnyM Mod0 P .any ops Q fuel (listed.setIfInBounds i true) (a.put oi.dst v) w) : wpAnyM Mod0 P .any ops Q (fuel + 1) listed a w :=
  wpAnyM_take mod0_trans (fun _ => Mod.refl _ _) i hi hs hf hr hQ hy h

theorem ry_run {P : Program} {ops : Array Oper} {o : Oper} {v : Value} {a : Act} {w : World} (hw : Region.wanted o (yielded ops a.tmps) = true) (h : ∀ w', Mod0 w w' → (execOp a.eval o).run P w' = .ok (.value v) w') : RYields Mod0 P ops o v a w := .inl ⟨hw, h⟩
theorem ry_not {P : Program} {ops : Array Oper} {o : Oper} {a : Act} {w : World} (hw : Region.wanted o (yielded ops a.tmps) = false) : RYields Mod0 P ops o undef a w := .inr ⟨hw, rfl⟩

theorem step0 {P : Program} {ops : Array Oper} {Q : Exit → Act → World → Prop} (i : Nat) {o : Oper} {fuel : Nat} {listed : Array Bool} {a : Act} {w : World} (hr : Region.ready .any ops listed = [i]) (hi : ops[i]? = some o)
    (hw : Region.wanted o (yielded ops a.tmps) = true)
    (h : o.wp P a w (fun a' w' => (Mod0 w w' ∨ pivot .any ops i = true) ∧ wpAnyM Mod0 P .any ops Q fuel (listed.setIfInBounds i true) a' w') Q) : wpAnyM Mod0 P .any ops Q (fuel + 1) listed a w :=
  wpAnyM_step i hr (by unfold wpOp; simp only [hi, hw, if_true]; exact .inl h)


/-! the same, where blocks of S may turn on the way -/
theorem region_mS (S : Nat → Prop) {P : Program} {Q : Exit → Act → World → Prop} {id : Nat} {l : List Oper} {a : Act} {w : World} (hm : P.follows .mixedOrders = true)
    (h : wpAnyM (Mod S) P .any l.toArray Q l.length (List.replicate l.length false).toArray a w.drew) : (Code.region id l.toArray true).wp P Q a w := by
  refine wp_region_any hm ?_
  have := wpAny_of_M _ _ _ _ h
  simpa using this

theorem take0S {S : Nat → Prop} {P : Program} {ops : Array Oper} {Q : Exit → Act → World → Prop} (i : Nat) {oi : Oper} {v : Value} {fuel : Nat} {listed : Array Bool} {a : Act} {w : World} (hi : ops[i]? = some oi)
    (hs : Region.noSelect ops = true) (hf : Region.free .any ops listed i = true) (hr : (Region.ready .any ops listed).contains i = true)
    (hQ : ∀ c a w, Q (.panic c) (a.put oi.dst v) w → Q (.panic c) a w) (hy : RYields (Mod S) P ops oi v a w)
    (h : wpAnyM (Mod S) P .any ops Q fuel (listed.setIfInBounds i true) (a.put oi.dst v) w) : wpAnyM (Mod S) P .any ops Q (fuel + 1) listed a w :=
  wpAnyM_take (R := Mod S) (fun _ _ _ h k => Mod.trans h k (fun _ _ h => h)) (fun _ => Mod.refl S _) i hi hs hf hr hQ hy h

theorem ry_runS {S : Nat → Prop} {P : Program} {ops : Array Oper} {o : Oper} {v : Value} {a : Act} {w : World} (hw : Region.wanted o (yielded ops a.tmps) = true) (h : ∀ w', Mod S w w' → (execOp a.eval o).run P w' = .ok (.value v) w') : RYields (Mod S) P ops o v a w := .inl ⟨hw, h⟩
theorem ry_notS {S : Nat → Prop} {P : Program} {ops : Array Oper} {o : Oper} {a : Act} {w : World} (hw : Region.wanted o (yielded ops a.tmps) = false) : RYields (Mod S) P ops o undef a w := .inr ⟨hw, rfl⟩

theorem step0S {S : Nat → Prop} {P : Program} {ops : Array Oper} {Q : Exit → Act → World → Prop} (i : Nat) {o : Oper} {fuel : Nat} {listed : Array Bool} {a : Act} {w : World} (hr : Region.ready .any ops listed = [i]) (hi : ops[i]? = some o)
    (hw : Region.wanted o (yielded ops a.tmps) = true)
    (h : o.wp P a w (fun a' w' => (Mod S w w' ∨ pivot .any ops i = true) ∧ wpAnyM (Mod S) P .any ops Q fuel (listed.setIfInBounds i true) a' w') Q) : wpAnyM (Mod S) P .any ops Q (fuel + 1) listed a w :=
  wpAnyM_step i hr (by unfold wpOp; simp only [hi, hw, if_true]; exact .inl h)

/-- append, as a step of a drawn region -/
theorem app_step {P : Program} {w : World} {o : Oper} {a : Act} {K : Act → World → Prop} {Q : Exit → Act → World → Prop} (s x : Operand) {t e size bytes : Nat} (T : SliceT P t e size bytes)
    (base : Nat) (v : Value) (n : Nat) (xs : List Value) (hown : w.ownsRow base e size v n xs) (ad : Addr) (m c : Nat) (news : List Value)
    (ho : o.op = .call { callee := .builtin .append, args := #[s, x], argTypes := #[t, t] })
    (hs : a.eval s = v) (hx : a.eval x = .slice (some ad) m c) (hl : news.length = m * size) (hnews : ∀ j u, news[j]? = some u → w.cell? (ad.add j) = some u) (h1 : ∀ u ∈ news, u.oneCell' = true)
    (hb : (n + m) * bytes ≤ 140737488355328) (hm : n + m ≤ maxLen) (hbase : base ≤ w.heap.size)
    (h : ∀ v' w', w'.ownsRow base e size v' (n + m) (xs ++ news) → Mod (fun k => base ≤ k ∧ v.ownBlock = some k) w w' → K (a.put o.dst v') w') : o.wp P a w K Q := by
  obtain ⟨ht, hsz, i, z, hi, hz, hsize, hby, hzs⟩ := T
  refine wp_append_own w s x t ho base e i z size bytes ht hi hz hsize hby hzs hsz v n xs hs hown ad m c news hx hl hnews h1 hm hb hbase fun v' w' h2 h3 _ => h v' w' h2 ?_
  exact Mod.grown (Mod.refl _ _) h3 fun k hk _ => ⟨(hown.lt k hk).1, hk⟩

end K
end Go.Proofs.Ytocpifoimoaibaa
