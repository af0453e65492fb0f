/- Joined texts: Kz, BlobN. -/
import Derived.Test.YthgcjfpaekpeeaaDoorJ1
import Derived.Orders
import Derived.Test.YthgcjfpaekpeeaaDoorJ30
/- A drawn region whose last operation waits on all others, by way of others too: its store turns what the others read, and yet they may be run first. -/
namespace Go.Proofs.YthgcjfpaekpeeaaDoor
set_option linter.unusedVariables false
set_option linter.unusedSimpArgs false
open Go
namespace K

section
variable {P : Program} {ops : Array Oper} {Q : Exit → Act → World → Prop} {md : Region.Mode} {R : World → World → Prop}

/-- does operation j wait on i, by way of others too? -/
def waits (md : Region.Mode) (ops : Array Oper) : Nat → Nat → Nat → Bool
  | 0, _, _ => false
  | f + 1, j, i => match ops[j]? with | some o => o.after.any fun e => Region.binds md e && (e.on == i || waits md ops f e.on i) | none => false
/-- Is the operation before or behind each other one? -/
def pivotT (md : Region.Mode) (ops : Array Oper) (j : Nat) : Bool :=
  (List.range ops.size).all fun i => i == j || waits md ops ops.size j i || waits md ops ops.size i j
/-- What is listed stands behind what it waits on. -/
def Closed (md : Region.Mode) (ops : Array Oper) (listed : Array Bool) : Prop :=
  ∀ j, listed.getD j false = true → ∀ o, ops[j]? = some o → ∀ e ∈ o.after, Region.binds md e = true → listed.getD e.on false = true
def closedB (md : Region.Mode) (ops : Array Oper) (listed : Array Bool) : Bool :=
  (List.range ops.size).all fun j => !listed.getD j false || (match ops[j]? with | some o => o.after.all fun e => !Region.binds md e || listed.getD e.on false | none => true)
theorem closedB_spec {listed : Array Bool} (h : closedB md ops listed = true) : Closed md ops listed := by
  intro j hj o ho e he hb
  have h1 := List.all_eq_true.1 h j (List.mem_range.2 (Array.getElem?_eq_some_iff.1 ho).1)
  rw [ho, hj] at h1
  simp only [Bool.not_true, Bool.false_or] at h1
  have h2 := Array.all_eq_true_iff_forall_mem.1 h1 e he
  rw [hb] at h2
  simpa using h2
theorem waits_no {listed : Array Bool} (hc : Closed md ops listed) {i : Nat} (hi : listed.getD i false = false) : ∀ (f j : Nat), (∀ o, ops[j]? = some o → ∀ e ∈ o.after, Region.binds md e = true → listed.getD e.on false = true) → waits md ops f j i = false
  | 0, _, _ => rfl
  | f + 1, j, h => by
    unfold waits
    cases ho : ops[j]? with
    | none => rfl
    | some o =>
      dsimp only
      cases hh : (o.after.any fun e => Region.binds md e && (e.on == i || waits md ops f e.on i)) with
      | false => rfl
      | true =>
        obtain ⟨e, he, hb⟩ := Array.any_eq_true'.1 hh
        simp only [Bool.and_eq_true, Bool.or_eq_true, beq_iff_eq] at hb
        have h1 := h o ho e he hb.1
        rcases hb.2 with hb2 | hb2
        · rw [hb2, hi] at h1; cases h1
        · rw [waits_no hc hi f e.on (fun o' ho' e' he' hb' => hc e.on h1 o' ho' e' he' hb')] at hb2; cases hb2
theorem not_listed {listed : Array Bool} {i : Nat} (h : listed.getD i true = false) : listed.getD i false = false := by
  rcases Nat.lt_or_ge i listed.size with h' | h'
  · simpa [h'] using h
  · simp [Array.getElem?_eq_none h'] at h
theorem not_pivotT {listed : Array Bool} (hc : Closed md ops listed) {i j : Nat} (hi : i ∈ Region.ready md ops listed) (hj : j ∈ Region.ready md ops listed) (hne : j ≠ i) : pivotT md ops j = false := by
  cases h : pivotT md ops j with
  | false => rfl
  | true =>
    obtain ⟨hi0, oi, hoi, hai⟩ := mem_ready.1 hi
    obtain ⟨hj0, oj, hoj, haj⟩ := mem_ready.1 hj
    have h1 := List.all_eq_true.1 h i (List.mem_range.2 (Array.getElem?_eq_some_iff.1 hoi).1)
    simp only [Bool.or_eq_true, beq_iff_eq] at h1
    rcases h1 with (h1 | h1) | h1
    · exact absurd h1.symm hne
    · rw [waits_no hc (not_listed hi0) _ j (fun o ho e he hb => by obtain rfl := Option.some.inj (hoj.symm.trans ho); exact haj e he hb)] at h1; cases h1
    · rw [waits_no hc (not_listed hj0) _ i (fun o ho e he hb => by obtain rfl := Option.some.inj (hoi.symm.trans ho); exact hai e he hb)] at h1; cases h1
theorem Closed.set {listed : Array Bool} (hc : Closed md ops listed) {j : Nat} (hj : j ∈ Region.ready md ops listed) : Closed md ops (listed.setIfInBounds j true) := by
  obtain ⟨hj0, oj, hoj, haj⟩ := mem_ready.1 hj
  intro k hk o ho e he hb
  refine getD_set_true ?_
  by_cases hjk : j = k
  · subst hjk
    obtain rfl := Option.some.inj (hoj.symm.trans ho)
    exact haj e he hb
  · rw [getD_set_ne false hjk] at hk
    exact hc k hk o ho e he hb

def wpAnyT (R : World → World → Prop) (P : Program) (md : Region.Mode) (ops : Array Oper) (Q : Exit → Act → World → Prop) : Nat → Array Bool → Act → World → Prop
  | 0, listed, a, w => Region.ready md ops listed = [] ∧ Q .normal a w
  | fuel + 1, listed, a, w =>
    (Region.ready md ops listed = [] → Q .normal a w) ∧
    ∀ i ∈ Region.ready md ops listed, wpOp P ops Q i (fun a' w' => (R w w' ∨ pivotT md ops i = true) ∧ wpAnyT R P md ops Q fuel (listed.setIfInBounds i true) a' w') a w

theorem wpAny_of_T : ∀ (fuel : Nat) (listed : Array Bool) (a : Act) (w : World), wpAnyT R P md ops Q fuel listed a w → wpAny P md ops Q fuel listed a w
  | 0, _, _, _, h => h
  | fuel + 1, _, _, _, h => ⟨h.1, fun i hi => wpOp_mono (fun a' w' h' => wpAny_of_T fuel _ a' w' h'.2) (h.2 i hi)⟩

theorem wpAnyT_first (tr : ∀ x y z, R x y → R y z → R x z) (refl : ∀ x, R x x) {i : Nat} {oi : Oper} {v : Value} (hi : ops[i]? = some oi) (hsel : ∀ (j : Nat) (o : Oper) cs b, ops[j]? = some o → o.op ≠ .select cs b)
    (hQ : ∀ c a w, Q (.panic c) (a.put oi.dst v) w → Q (.panic c) a w) :
    ∀ (fuel : Nat) (listed : Array Bool) (a : Act) (w : World), Closed md ops listed →
      (∀ j oj, ops[j]? = some oj → j ≠ i → listed.getD j true = false → (∀ e ∈ oj.after, Region.binds md e = true → e.on ≠ i) → oi.apart ops oj = true) →
      i ∈ Region.ready md ops listed → RYields R P ops oi v a w →
      wpAnyT R P md ops Q fuel (listed.setIfInBounds i true) (a.put oi.dst v) w → wpAnyT R P md ops Q (fuel + 1) listed a w := by
  intro fuel
  induction fuel with
  | zero =>
    intro listed a w hc _ hr hy H
    refine ⟨fun h => (by rw [h] at hr; cases hr), fun j hj => ?_⟩
    by_cases hji : j = i
    · subst hji; exact hy.wpOp (refl _) hi ⟨.inl (refl _), H⟩
    · have := ready_mono hj hji
      rw [H.1] at this
      cases this
  | succ fuel ih =>
    intro listed a w hc hfree hr hy H
    refine ⟨fun h => (by rw [h] at hr; cases hr), fun j hj => ?_⟩
    by_cases hji : j = i
    · subst hji; exact hy.wpOp (refl _) hi ⟨.inl (refl _), H⟩
    · have h1 := H.2 j (ready_mono hj hji)
      have hpv := not_pivotT hc hr hj hji
      obtain ⟨hjun, oj, hoj, hall⟩ := mem_ready.1 hj
      have hnot : ∀ e ∈ oj.after, Region.binds md e = true → e.on ≠ i := fun e he hb heq => by
        have h1 := hall e he hb
        have h0 := not_listed (mem_ready.1 hr).1
        rw [heq, h0] at h1
        cases h1
      have h2 := wpOp_put' hoj (hfree j oj hoj hji hjun hnot) (fun cs b => hsel i oi cs b hi) (fun cs b => hsel j oj cs b hoj) hQ h1
      have hfree' : ∀ k ok, ops[k]? = some ok → k ≠ i → (listed.setIfInBounds j true).getD k true = false →
          (∀ e ∈ ok.after, Region.binds md e = true → e.on ≠ i) → oi.apart ops ok = true := fun k ok hk hki hun hno => by
        refine hfree k ok hk hki ?_ hno
        by_cases hjk : j = k
        · subst hjk; exact hjun
        · rw [getD_set_ne true hjk] at hun; exact hun
      refine wpOp_mono (fun a' w' h3 => ?_) h2
      obtain ⟨hs, hR, hM⟩ := h3
      have hR : R w w' := by
        rcases hR with h | h
        · exact h
        · rw [hpv] at h; cases h
      refine ⟨.inl hR, ih (listed.setIfInBounds j true) a' w' (hc.set hj) hfree' (ready_mono hr (Ne.symm hji)) (hy.of_same tr hs hR) ?_⟩
      rw [Array.setIfInBounds_comm _ _ hji]
      exact hM
theorem wpAnyT_step (i : Nat) {fuel : Nat} {listed : Array Bool} {a : Act} {w : World} (hr : Region.ready md ops listed = [i])
    (h : wpOp P ops Q i (fun a' w' => (R w w' ∨ pivotT md ops i = true) ∧ wpAnyT R P md ops Q fuel (listed.setIfInBounds i true) a' w') a w) : wpAnyT R P md ops Q (fuel + 1) listed a w :=
  ⟨(fun h0 => by rw [hr] at h0; cases h0), fun j hj => by rw [hr] at hj; obtain rfl := List.mem_singleton.1 hj; exact h⟩
theorem wpAnyT_done {fuel : Nat} {listed : Array Bool} {a : Act} {w : World} (hr : Region.ready md ops listed = []) (h : Q .normal a w) : wpAnyT R P md ops Q fuel listed a w := by
  cases fuel with
  | zero => exact ⟨hr, h⟩
  | succ _ => exact ⟨fun _ => h, by rw [hr]; simp⟩
end

theorem region_mT (S : Nat → Prop) {P : Program} {Q : Exit → Act → World → Prop} {id : Nat} {l : List Oper} {a : Act} {w : World} (hm : P.follows .mixedOrders = true)
    (h : wpAnyT (Mod S) P .any l.toArray Q l.length (List.replicate l.length false).toArray a w.drew) : (Code.region id l.toArray true).wp P Q a w := by
  refine wp_region_any hm ?_
  have := wpAny_of_T _ _ _ _ h
  simpa using this
theorem take0T {S : Nat → Prop} {P : Program} {ops : Array Oper} {Q : Exit → Act → World → Prop} (i : Nat) {oi : Oper} {v : Value} {fuel : Nat} {listed : Array Bool} {a : Act} {w : World} (hi : ops[i]? = some oi)
    (hs : Region.noSelect ops = true) (hf : Region.free .any ops listed i = true) (hr : ((Region.ready .any ops listed).contains i && closedB .any ops listed) = true)
    (hQ : ∀ c a w, Q (.panic c) (a.put oi.dst v) w → Q (.panic c) a w) (hy : RYields (Mod S) P ops oi v a w)
    (h : wpAnyT (Mod S) P .any ops Q fuel (listed.setIfInBounds i true) (a.put oi.dst v) w) : wpAnyT (Mod S) P .any ops Q (fuel + 1) listed a w := by
  rw [Bool.and_eq_true] at hr
  exact wpAnyT_first (R := Mod S) (fun _ _ _ h k => Mod.trans h k (fun _ _ h => h)) (fun _ => Mod.refl S _) hi (Region.noSelect_spec hs) hQ fuel listed a w (closedB_spec hr.2) (Region.free_spec hi hf) (by simpa using hr.1) hy h
theorem step0T {S : Nat → Prop} {P : Program} {ops : Array Oper} {Q : Exit → Act → World → Prop} (i : Nat) {o : Oper} {fuel : Nat} {listed : Array Bool} {a : Act} {w : World} (hr : Region.ready .any ops listed = [i]) (hi : ops[i]? = some o)
    (hw : Region.wanted o (yielded ops a.tmps) = true)
    (h : o.wp P a w (fun a' w' => (Mod S w w' ∨ pivotT .any ops i = true) ∧ wpAnyT (Mod S) P .any ops Q fuel (listed.setIfInBounds i true) a' w') Q) : wpAnyT (Mod S) P .any ops Q (fuel + 1) listed a w :=
  wpAnyT_step i hr (by unfold wpOp; simp only [hi, hw, if_true]; exact .inl h)
theorem stepNoT {S : Nat → Prop} {P : Program} {ops : Array Oper} {Q : Exit → Act → World → Prop} (i : Nat) {o : Oper} {fuel : Nat} {listed : Array Bool} {a : Act} {w : World} (hr : Region.ready .any ops listed = [i]) (hi : ops[i]? = some o)
    (hw : Region.wanted o (yielded ops a.tmps) = false)
    (h : wpAnyT (Mod S) P .any ops Q fuel (listed.setIfInBounds i true) (a.put o.dst undef) w) : wpAnyT (Mod S) P .any ops Q (fuel + 1) listed a w :=
  wpAnyT_step i hr (by unfold wpOp; simp only [hi, hw, Bool.false_eq_true, if_false]; exact ⟨.inl (Mod.refl _ _), h⟩)
theorem two0T {S : Nat → Prop} {P : Program} {ops : Array Oper} {Q : Exit → Act → World → Prop} {oi oj : Oper} (i j : Nat) {fuel : Nat} {listed : Array Bool} {a : Act} {w : World} (hr : Region.ready .any ops listed = [i, j]) (hi : ops[i]? = some oi) (hj : ops[j]? = some oj)
    (hwi : Region.wanted oi (yielded ops a.tmps) = true) (hwj : Region.wanted oj (yielded ops a.tmps) = true)
    (h : oi.wp P a w (fun a' w' => (Mod S w w' ∨ pivotT .any ops i = true) ∧ wpAnyT (Mod S) P .any ops Q fuel (listed.setIfInBounds i true) a' w') Q)
    (h' : oj.wp P a w (fun a' w' => (Mod S w w' ∨ pivotT .any ops j = true) ∧ wpAnyT (Mod S) P .any ops Q fuel (listed.setIfInBounds j true) a' w') Q) : wpAnyT (Mod S) P .any ops Q (fuel + 1) listed a w :=
  ⟨(fun h0 => by rw [hr] at h0; cases h0), fun k hk => by
    rw [hr] at hk
    rcases List.mem_cons.1 hk with rfl | hk
    · unfold wpOp; simp only [hi, hwi, if_true]; exact .inl h
    · obtain rfl := List.mem_singleton.1 hk; unfold wpOp; simp only [hj, hwj, if_true]; exact .inl h'⟩
/-- append of a text's bytes, as a step of a drawn region -/
theorem appStr_step {P : Program} {w : World} {o : Oper} {a : Act} {KK : Act → World → Prop} {Q : Exit → Act → World → Prop} (s x : Operand) {t u e : Nat} (T : SliceT P t e 1 1)
    (hz0 : ∀ i z, P.info? e = some i → i.zero = some z → z = .int .u8 0) (hu : P.underlying u = some .string)
    (base : Nat) (v : Value) (n : Nat) (xs : List Value) (hown : w.ownsRow base e 1 v n xs) (str : ByteArray)
    (ho : o.op = .call { callee := .builtin .append, args := #[s, x], argTypes := #[t, u] })
    (hs : a.eval s = v) (hx : a.eval x = .string str)
    (hm : n + str.size ≤ maxLen) (hb : n + str.size ≤ 140737488355328) (hbase : base ≤ w.heap.size)
    (h : ∀ v' w', w'.ownsRow base e 1 v' (n + str.size) (xs ++ bv str.data.toList) → Mod (fun k => base ≤ k ∧ v.ownBlock = some k) w w' → KK (a.put o.dst v') w') : o.wp P a w KK Q := by
  obtain ⟨ht, hsz, i, z, hi, hz, hsize, hby, hzs⟩ := T
  obtain ⟨v', w', hr, h2, h3, h4⟩ := Lib.run_append_own_string (P := P) (w := w) base t u o.type e i ht hu hi (by rw [hz, hz0 i z hi hz]) hsize hby v n xs hown str hm hb hbase
  unfold Oper.wp execOp
  simp only [ho, resolve, invoke, builtin, Sem.run_bind, Sem.run_pure, Result.andThen_ok, List.map_toArray, List.map_cons, List.map_nil, hs, hx, hr]
  exact h v' w' h2 (Mod.grown (Mod.refl _ _) h3 fun k hk _ => ⟨(hown.lt k hk).1, hk⟩)
/-- append of a slice's elements, nil included, as a step of a drawn region -/
theorem appG_step {P : Program} {w : World} {o : Oper} {a : Act} {KK : Act → World → Prop} {Q : Exit → Act → World → Prop} (s x : Operand) {t e size bytes : Nat} (T : SliceT P t e size bytes)
    (base : Nat) (v : Value) (n : Nat) (xs : List Value) (hown : w.ownsRow base e size v n xs) (A : Option Addr) (m c : Nat) (news : List Value)
    (ho : o.op = .call { callee := .builtin .append, args := #[s, x], argTypes := #[t, t] })
    (hs : a.eval s = v) (hx : a.eval x = .slice A m c) (hl : news.length = m * size) (hA : Cells w A news) (h1 : ∀ u ∈ news, u.oneCell' = true)
    (hb : (n + m) * bytes ≤ 140737488355328) (hm : n + m ≤ maxLen) (hbase : base ≤ w.heap.size)
    (h : ∀ v' w', w'.ownsRow base e size v' (n + m) (xs ++ news) → Mod (fun k => v.ownBlock = some k) w w' → RowOf w v v' → KK (a.put o.dst v') w') : o.wp P a w KK Q := by
  obtain ⟨ht, hsz, i, z, hi, hz, hsize, hby, hzs⟩ := T
  cases A with
  | some ad =>
    have hnews : ∀ j u, news[j]? = some u → w.cell? (ad.add j) = some u := by
      rcases hA with hA | ⟨b, o, hA, hc⟩
      · intro j u hj; rw [hA] at hj; simp at hj
      · obtain rfl := Option.some.inj hA
        intro j u hj; rw [Addr.add_lit]; exact hc j u hj
    obtain ⟨v', w', hr, h2, h3, h4⟩ := run_append_own2 (P := P) w base t o.type e i z size bytes ht hi hz hsize hby hzs hsz v n xs hown ad m c news hl hnews h1 hm hb hbase
    unfold Oper.wp execOp
    simp only [ho, resolve, invoke, builtin, Sem.run_bind, Sem.run_pure, Result.andThen_ok, List.map_toArray, List.map_cons, List.map_nil, hs, hx, hr]
    exact h v' w' h2 (Mod.grown (Mod.refl _ _) h3 fun k hk _ => hk) h4
  | none =>
    have hn : news = [] := by
      rcases hA with hA | ⟨b, o, hA, _⟩
      · exact hA
      · cases hA
    subst hn
    have hm0 : m = 0 := by
      rcases Nat.eq_zero_or_pos m with h | h
      · exact h
      · have := Nat.mul_pos h hsz; simp at hl; omega
    subst hm0
    have hrun : (Builtin.append_ #[t, t] o.type #[v, .slice none 0 c]).run P w = .ok v w := by
      rcases hown.2 with ⟨rfl, rfl⟩ | ⟨g, cap, cur, rfl, hbg, hg, hnc, hcm, hcs, htake⟩
      · simp [Builtin.append_, run_underlying ht, sizeOf, typeInfo, hi, Builtin.lenOf, Builtin.firstCells]
      · simp [Builtin.append_, run_underlying ht, sizeOf, typeInfo, hi, Builtin.lenOf, Builtin.firstCells, hnc, storeCells]
    unfold Oper.wp execOp
    simp only [ho, resolve, invoke, builtin, Sem.run_bind, Sem.run_pure, Result.andThen_ok, List.map_toArray, List.map_cons, List.map_nil, hs, hx, hrun]
    exact h v w (by simpa using hown) (Mod.refl _ _) (rowOf_same rfl)
end K
end Go.Proofs.YthgcjfpaekpeeaaDoor
/- Plain words for blob: one step of going to a file's bytes, of telling its chunks. -/
namespace Go.Proofs.YthgcjfpaekpeeaaDoor
set_option linter.unusedVariables false
set_option linter.unusedSimpArgs false
open Go.RowKit K Wire
namespace Blob
open Go.Proofs.YthgcjfpaekpeeaaDoor.Obj

noncomputable def rdB (objs : List Ob) (lo hi level : Int) (p : Part) (at_ : Int) (x : BS) : BS :=
  if x.bad ≠ 0 ∨ ¬ (at_ < hi ∧ lo < at_ + p.size) then x else
    match nodeOf objs p level with
    | .bad e => { x.ask p.id with bad := e }
    | .chunk s => { x.ask p.id with data := x.data ++ some_ s.data.toList (max (lo - at_) 0) (min (hi - at_) p.size) }
    | .fan L kids => (kids.foldl (fun y k => (y.1 + k.size, rdS objs lo hi (L - 1).toNat k y.1 y.2)) (at_, x.ask p.id)).2
noncomputable def chkB (objs : List Ob) (level : Int) (p : Part) (x : BS) : BS :=
  if x.bad ≠ 0 then x else
    match nodeOf objs p level with
    | .bad e => { x.ask p.id with bad := e }
    | .chunk _ => { x.ask p.id with parts := x.parts ++ [p] }
    | .fan L kids => kids.foldl (fun y k => chkS objs (L - 1).toNat k y) (x.ask p.id)
theorem fan_level {objs : List Ob} {p : Part} {level L : Int} {kids : List Part} (h : nodeOf objs p level = .fan L kids) : (level < 0 ∨ L = level) ∧ 1 ≤ L ∧ L ≤ 20 ∧ 1 ≤ kids.length ∧ kids.length ≤ 32 ∧ (kids.map (·.size)).sum = p.size ∧ (∀ k ∈ kids, 1 ≤ k.size ∧ k.size ≤ 262144 ∧ k.id.size = 32) := by
  obtain ⟨b, _, hb⟩ := node_fan h
  obtain ⟨_, _, _, hs, h1, h2, h3, h4, h5, hk⟩ := fan_facts hb
  exact ⟨h1, h2, h3, h4, h5, hs, hk⟩
theorem rdS_eq (objs : List Ob) (lo hi : Int) (l : Nat) (p : Part) (at_ : Int) (x : BS) : rdS objs lo hi l p at_ x = rdB objs lo hi (l : Int) p at_ x := by
  cases l with
  | zero =>
    unfold rdS rdB
    cases hn : nodeOf objs p ((0 : Nat) : Int) with
    | bad e => rfl
    | chunk s => rfl
    | fan L kids => have := fan_level hn; omega
  | succ l =>
    unfold rdS rdB
    have e : ((l + 1 : Nat) : Int) = (l : Int) + 1 := by omega
    rw [e]
    cases hn : nodeOf objs p ((l : Int) + 1) with
    | bad e => rfl
    | chunk s => rfl
    | fan L kids =>
      have := fan_level hn
      have : (L - 1).toNat = l := by omega
      simp only [this]
theorem chkS_eq (objs : List Ob) (l : Nat) (p : Part) (x : BS) (h : l ≠ 0) : chkS objs l p x = chkB objs (l : Int) p x := by
  cases l with
  | zero => exact absurd rfl h
  | succ l =>
    unfold chkS chkB
    have e : ((l + 1 : Nat) : Int) = (l : Int) + 1 := by omega
    rw [e]
    cases hn : nodeOf objs p ((l : Int) + 1) with
    | bad e => rfl
    | chunk s => rfl
    | fan L kids =>
      have := fan_level hn
      have : (L - 1).toNat = l := by omega
      simp only [this]
theorem rdS_bad (objs : List Ob) (lo hi : Int) (l : Nat) (p : Part) (at_ : Int) (x : BS) (h : x.bad ≠ 0) : rdS objs lo hi l p at_ x = x := by
  rw [rdS_eq]; unfold rdB; rw [if_pos (.inl h)]
/-- the kids' bytes, one behind the other -/
noncomputable def rdF (objs : List Ob) (lo hi : Int) (l : Nat) (kids : List Part) (at_ : Int) (x : BS) : Int × BS := kids.foldl (fun y k => (y.1 + k.size, rdS objs lo hi l k y.1 y.2)) (at_, x)
theorem rdF_nil (objs : List Ob) (lo hi : Int) (l : Nat) (at_ : Int) (x : BS) : rdF objs lo hi l [] at_ x = (at_, x) := rfl
theorem rdF_cons (objs : List Ob) (lo hi : Int) (l : Nat) (k : Part) (kids : List Part) (at_ : Int) (x : BS) : rdF objs lo hi l (k :: kids) at_ x = rdF objs lo hi l kids (at_ + k.size) (rdS objs lo hi l k at_ x) := rfl
theorem rdF_snoc (objs : List Ob) (lo hi : Int) (l : Nat) (kids : List Part) (k : Part) (at_ : Int) (x : BS) : rdF objs lo hi l (kids ++ [k]) at_ x = ((rdF objs lo hi l kids at_ x).1 + k.size, rdS objs lo hi l k (rdF objs lo hi l kids at_ x).1 (rdF objs lo hi l kids at_ x).2) := by
  unfold rdF; rw [List.foldl_append]; rfl
theorem rdF_append (objs : List Ob) (lo hi : Int) (l : Nat) (a b : List Part) (at_ : Int) (x : BS) : rdF objs lo hi l (a ++ b) at_ x = rdF objs lo hi l b (rdF objs lo hi l a at_ x).1 (rdF objs lo hi l a at_ x).2 := by
  unfold rdF; rw [List.foldl_append]
theorem rdF_bad (objs : List Ob) (lo hi : Int) (l : Nat) : ∀ (kids : List Part) (at_ : Int) (x : BS), x.bad ≠ 0 → (rdF objs lo hi l kids at_ x).2 = x
  | [], _, _, _ => rfl
  | k :: kids, at_, x, h => by rw [rdF_cons, rdS_bad objs lo hi l k at_ x h]; exact rdF_bad objs lo hi l kids _ x h
theorem rdF_at (objs : List Ob) (lo hi : Int) (l : Nat) : ∀ (kids : List Part) (at_ : Int) (x : BS), (rdF objs lo hi l kids at_ x).1 = at_ + sizes kids
  | [], at_, _ => by simp [rdF_nil, sizes]
  | k :: kids, at_, x => by
    rw [rdF_cons, rdF_at objs lo hi l kids]
    have : sizes (k :: kids) = k.size + sizes kids := by simp [sizes]
    omega
theorem rdF_m (objs : List Ob) (lo hi : Int) (l : Nat) (m : BS → Int) (g : Part → Int) : ∀ (kids : List Part) (at_ : Int) (x : BS), (∀ k ∈ kids, ∀ (a : Int) (y : BS), m (rdS objs lo hi l k a y) ≤ m y + g k) → m (rdF objs lo hi l kids at_ x).2 ≤ m x + (kids.map g).sum
  | [], _, _, _ => by simp [rdF_nil]
  | k :: kids, at_, x, h => by
    have h1 := h k (List.mem_cons_self ..) at_ x
    have h2 := rdF_m objs lo hi l m g kids (at_ + k.size) (rdS objs lo hi l k at_ x) (fun k' hk => h k' (List.mem_cons_of_mem _ hk))
    rw [rdF_cons]
    simp only [List.map_cons, List.sum_cons]; omega
theorem rdS_asked (objs : List Ob) (lo hi : Int) : ∀ (l : Nat) (p : Part) (at_ : Int) (x : BS), 1 ≤ p.size → ((rdS objs lo hi l p at_ x).asked.length : Int) ≤ x.asked.length + ((l : Int) + 1) * p.size
  | 0, p, at_, x, h => by
    unfold rdS
    split
    · simp; omega
    · cases hn : nodeOf objs p 0 with
      | bad e => simp only [BS.ask, List.length_append, List.length_cons, List.length_nil]; omega
      | chunk s => simp only [BS.ask, List.length_append, List.length_cons, List.length_nil]; omega
      | fan L kids => simp only [BS.ask, List.length_append, List.length_cons, List.length_nil]; omega
  | l + 1, p, at_, x, h => by
    have e : (((l + 1 : Nat) : Int) + 1) * p.size = ((l : Int) + 1) * p.size + p.size := by push_cast; rw [Int.add_mul ((l : Int) + 1) 1, Int.one_mul]
    have h0 : 0 ≤ ((l : Int) + 1) * p.size := Int.mul_nonneg (by omega) (by omega)
    rw [e]
    unfold rdS
    split
    · omega
    · cases hn : nodeOf objs p ((l : Int) + 1) with
      | bad e => simp only [BS.ask, List.length_append, List.length_cons, List.length_nil]; omega
      | chunk s => simp only [BS.ask, List.length_append, List.length_cons, List.length_nil]; omega
      | fan L kids =>
        obtain ⟨_, _, _, _, _, hs, hk⟩ := fan_level hn
        have := rdF_m objs lo hi l (fun y : BS => (y.asked.length : Int)) (fun k => ((l : Int) + 1) * k.size) kids at_ (x.ask p.id) (fun k hk' a y => rdS_asked objs lo hi l k a y (hk k hk').1)
        rw [sum_mul, hs] at this
        simp only [rdF, BS.ask, List.length_append, List.length_cons, List.length_nil] at this ⊢
        omega
theorem some_le (s : List UInt8) (a b : Int) (n : Int) (h : b ≤ n) (h0 : 0 ≤ n) (ha : 0 ≤ a) : ((some_ s a b).length : Int) ≤ n := by
  unfold some_
  rw [List.length_take]; omega
theorem rdS_data (objs : List Ob) (lo hi : Int) : ∀ (l : Nat) (p : Part) (at_ : Int) (x : BS), 1 ≤ p.size → ((rdS objs lo hi l p at_ x).data.length : Int) ≤ x.data.length + p.size
  | 0, p, at_, x, h => by
    unfold rdS
    split
    · omega
    · cases hn : nodeOf objs p 0 with
      | bad e => simp only [BS.ask]; omega
      | chunk s => have := some_le s.data.toList (max (lo - at_) 0) (min (hi - at_) p.size) p.size (by omega) (by omega) (by omega); simp only [BS.ask, List.length_append]; omega
      | fan L kids => simp only [BS.ask]; omega
  | l + 1, p, at_, x, h => by
    unfold rdS
    split
    · omega
    · cases hn : nodeOf objs p ((l : Int) + 1) with
      | bad e => simp only [BS.ask]; omega
      | chunk s => have := some_le s.data.toList (max (lo - at_) 0) (min (hi - at_) p.size) p.size (by omega) (by omega) (by omega); simp only [BS.ask, List.length_append]; omega
      | fan L kids =>
        obtain ⟨_, _, _, _, _, hs, hk⟩ := fan_level hn
        have := rdF_m objs lo hi l (fun y : BS => (y.data.length : Int)) (fun k => k.size) kids at_ (x.ask p.id) (fun k hk' a y => rdS_data objs lo hi l k a y (hk k hk').1)
        rw [hs] at this
        simp only [rdF, BS.ask] at this ⊢
        omega
theorem rdR_eq (objs : List Ob) (lo hi : Int) (p : Part) (x : BS) (hb : x.bad = 0) (h : 0 < hi ∧ lo < p.size) : rdB objs lo hi (-1) p 0 x = rdR objs lo hi p x := by
  unfold rdB rdR
  rw [if_neg (by omega)]
  cases nodeOf objs p (-1) <;> simp only [Int.sub_zero]
/-- the chunks of kids, one behind the other -/
noncomputable def chkF (objs : List Ob) (l : Nat) (kids : List Part) (x : BS) : BS := kids.foldl (fun y k => chkS objs l k y) x
theorem chkF_nil (objs : List Ob) (l : Nat) (x : BS) : chkF objs l [] x = x := rfl
theorem chkF_snoc (objs : List Ob) (l : Nat) (kids : List Part) (k : Part) (x : BS) : chkF objs l (kids ++ [k]) x = chkS objs l k (chkF objs l kids x) := by
  unfold chkF; rw [List.foldl_append]; rfl
theorem chkF_append (objs : List Ob) (l : Nat) (a b : List Part) (x : BS) : chkF objs l (a ++ b) x = chkF objs l b (chkF objs l a x) := by
  unfold chkF; rw [List.foldl_append]
end Blob
end Go.Proofs.YthgcjfpaekpeeaaDoor
