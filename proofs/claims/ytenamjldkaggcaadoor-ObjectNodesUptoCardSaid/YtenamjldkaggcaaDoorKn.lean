/- More words of this proof's own: append with all that is known of the new row; blocks that are apart by their types. -/
import Derived.Test.YtenamjldkaggcaaDoorKa
import Derived.Test.YtenamjldkaggcaaDoorKr
import Derived.Laws.AppendOwn
import Derived.Laws.AppendOwnNone
namespace Go.Proofs.YtenamjldkaggcaaDoor
set_option linter.unusedVariables false
set_option linter.unusedSimpArgs false
open Go.RowKit
namespace K

/-- the row of v' is v's, or a new one -/
def RowOf (w : World) (v v' : Value) : Prop := ∀ k, v'.ownBlock = some k → v.ownBlock = some k ∨ w.heap.size ≤ k
theorem rowOf_same {w : World} {v v' : Value} (h : v'.ownBlock = v.ownBlock) : RowOf w v v' := fun k hk => .inl (h ▸ hk)
theorem rowOf_nil (w : World) (v : Value) : RowOf w v (.slice none 0 0) := fun k hk => by cases hk

theorem run_append_own2 {P : Program} (w : World) (base : Nat) (t ty e : TypeId) (i : TypeInfo) (z : Value) (size bytes : Nat) (ht : P.underlying t = some (.slice e)) (hi : P.info? e = some i) (hz : i.zero = some z)
    (hsize : i.size = size) (hby : i.bytes = bytes) (hzs : z.cells.size = size) (hsz : 0 < size)
    (v : Value) (n : Nat) (xs : List Value) (hown : w.ownsRow base e size v n xs)
    (a : Addr) (m c : Nat) (news : List Value) (hl : news.length = m * size) (hnews : ∀ j u, news[j]? = some u → w.cell? (a.add j) = some u) (h1 : ∀ u ∈ news, u.oneCell' = true)
    (h63 : n + m ≤ maxLen) (hbytes : (n + m) * bytes ≤ 140737488355328) (hbase : base ≤ w.heap.size) :
    ∃ v' w', (Builtin.append_ #[t, t] ty #[v, .slice (some a) m c]).run P w = .ok v' w' ∧ w'.ownsRow base e size v' (n + m) (xs ++ news) ∧ w.grownBy w' v.ownBlock ∧ RowOf w v v' := by
  obtain ⟨v', w', hr, h2, h3, h4⟩ := run_append_own (P := P) w base t ty e i z size bytes ht hi hz hsize hby hzs hsz v n xs hown a m c news hl hnews h1 h63 hbytes hbase
  refine ⟨v', w', hr, h2, h3, ?_⟩
  have hsmall : n + m ≤ 9223372036854775807 := by simp only [maxLen] at h63; omega
  have hown0 := hown
  rcases hown.2 with ⟨rfl, rfl⟩ | ⟨g, cap, cur, rfl, hbg, hg, hnc, hcm, hcs, htake⟩
  · have hx : xs = [] := List.eq_nil_of_length_eq_zero (by simpa using hown.1)
    subst hx
    obtain ⟨v2, w2, hr2, h22, _, _⟩ := run_append_own (P := P) w w.heap.size t ty e i z size bytes ht hi hz hsize hby hzs hsz _ 0 [] (World.ownsRow_nil w w.heap.size e size) a m c news hl hnews h1 h63 hbytes (Nat.le_refl _)
    rw [hr] at hr2
    obtain ⟨rfl, rfl⟩ : v' = v2 ∧ w' = w2 := by simpa using hr2
    exact fun k hb => .inr (h22.lt k hb).1
  · subst hsize
    by_cases hroom : n + m ≤ cap
    · have hfit : n * i.size + news.length ≤ cur.size := by rw [hl, hcs, ← Nat.add_mul]; exact Nat.mul_le_mul_right _ hroom
      have hr2 := run_append_room (P := P) w t ty e i ht hi g n cap cur hg a m c news hl hnews h1 hroom hfit
      rw [hr] at hr2
      obtain ⟨rfl, rfl⟩ := (show v' = _ ∧ w' = _ by simpa using hr2)
      exact rowOf_same rfl
    · have holds : ∀ j u, xs[j]? = some u → w.cell? ((⟨g, 0, none⟩ : Addr).add j) = some u := hown0.cells (g := g) rfl
      have hr2 := run_append_grow (P := P) w t ty e i z ht hi hz ⟨g, 0, none⟩ n cap xs hown.1 holds a m c news hl hnews (by omega) (by omega) (growslice_fits (by omega) (hby ▸ hbytes))
      rw [hr] at hr2
      obtain ⟨rfl, rfl⟩ := (show v' = _ ∧ w' = _ by simpa using hr2)
      exact fun k hk => .inr (by simp [Value.ownBlock] at hk; omega)

/-- append of a slice's elements, nil included: the row is the old one, or a new one -/
theorem appG {P : Program} {w : World} {ops : Array Oper} {rest : List Oper} {o : Oper} {a : Act} {Q : Exit → Act → World → Prop} (s x : Operand) {t e size bytes : Nat} (T : SliceT P t e size bytes)
    (base : Nat) (v : Value) (n : Nat) (xs : List Value) (hown : w.ownsRow base e size v n xs) (A : Option Addr) (m c : Nat) (news : List Value)
    (hgd : o.guard = none) (ho : o.op = .call { callee := .builtin .append, args := #[s, x], argTypes := #[t, t] })
    (hs : a.eval s = v) (hx : a.eval x = .slice A m c) (hl : news.length = m * size) (hA : Cells w A news) (h1 : ∀ u ∈ news, u.oneCell' = true)
    (hb : (n + m) * bytes ≤ 140737488355328) (hm : n + m ≤ maxLen) (hbase : base ≤ w.heap.size)
    (h : ∀ v' w', w'.ownsRow base e size v' (n + m) (xs ++ news) → Mod (fun k => v.ownBlock = some k) w w' → RowOf w v v' → wpList P ops Q rest (a.put o.dst v') w') : wpList P ops Q (o :: rest) a w := by
  obtain ⟨ht, hsz, i, z, hi, hz, hsize, hby, hzs⟩ := T
  cases A with
  | some ad =>
    have hnews : ∀ j u, news[j]? = some u → w.cell? (ad.add j) = some u := by
      rcases hA with hA | ⟨b, o, hA, hc⟩
      · intro j u hj; rw [hA] at hj; simp at hj
      · obtain rfl := Option.some.inj hA
        intro j u hj; rw [Addr.add_lit]; exact hc j u hj
    obtain ⟨v', w', hr, h2, h3, h4⟩ := run_append_own2 (P := P) w base t o.type e i z size bytes ht hi hz hsize hby hzs hsz v n xs hown ad m c news hl hnews h1 hm hb hbase
    refine wpList_plain hgd fun K hK => ?_
    unfold Oper.wp execOp
    simp only [ho, resolve, invoke, builtin, Sem.run_bind, Sem.run_pure, Result.andThen_ok, List.map_toArray, List.map_cons, List.map_nil, hs, hx, hr]
    exact hK _ _ (h v' w' h2 (Mod.grown (Mod.refl _ _) h3 fun k hk _ => hk) h4)
  | none =>
    have hn : news = [] := by
      rcases hA with hA | ⟨b, o, hA, _⟩
      · exact hA
      · cases hA
    subst hn
    have hm0 : m = 0 := by
      rcases Nat.eq_zero_or_pos m with h | h
      · exact h
      · have := Nat.mul_pos h hsz; simp at hl; omega
    subst hm0
    have hrun : (Builtin.append_ #[t, t] o.type #[v, .slice none 0 c]).run P w = .ok v w := by
      rcases hown.2 with ⟨rfl, rfl⟩ | ⟨g, cap, cur, rfl, hbg, hg, hnc, hcm, hcs, htake⟩
      · simp [Builtin.append_, run_underlying ht, sizeOf, typeInfo, hi, Builtin.lenOf, Builtin.firstCells]
      · simp [Builtin.append_, run_underlying ht, sizeOf, typeInfo, hi, Builtin.lenOf, Builtin.firstCells, hnc, storeCells]
    refine wpList_plain hgd fun K hK => ?_
    unfold Oper.wp execOp
    simp only [ho, resolve, invoke, builtin, Sem.run_bind, Sem.run_pure, Result.andThen_ok, List.map_toArray, List.map_cons, List.map_nil, hs, hx, hrun]
    exact hK _ _ (h v w (by simpa using hown) (Mod.refl _ _) (rowOf_same rfl))

theorem cells_lit {w : World} {n : Nat} {cs : List Value} {T : TypeId} (h : w.heap.size = n) : Cells (w.alloc (.cells cs.toArray T)) (some ⟨n, 0, none⟩) cs := h ▸ lit_cells w cs T
theorem own_lit {w : World} {n m : Nat} {cs : List Value} {e : TypeId} {base : Nat} (h : w.heap.size = n) (hb : base ≤ n) (hm : m ≤ maxLen) {size : Nat} (hs : cs.length = m * size) : (w.alloc (.cells cs.toArray e)).ownsRow base e size (.slice (some ⟨n, 0, none⟩) m m) m cs := by
  subst h; exact World.ownsRow_lit w cs.toArray m hb hm (by simpa using hs)
theorem Has.lit {w : World} {n : Nat} {cs : List Value} {T : TypeId} (h : w.heap.size = n) : Has (w.alloc (.cells cs.toArray T)) n cs T := h ▸ Has.new w cs T

theorem own_of_has {w : World} {g m : Nat} {cs : List Value} {e : TypeId} {base : Nat} (h : Has w g cs e) (hb : base ≤ g) (hm : m ≤ maxLen) {size : Nat} (hs : cs.length = m * size) : w.ownsRow base e size (.slice (some ⟨g, 0, none⟩) m m) m cs :=
  ⟨hs, .inr ⟨g, m, cs.toArray, rfl, hb, h, Nat.le_refl _, hm, by simpa using hs, by simpa using List.take_of_length_le (by omega)⟩⟩

theorem has_ne {w : World} {b g : Nat} {cs : List Value} {T U : TypeId} (h : Has w b cs T) (k : ∃ cur fr, w.heap[g]? = some (.cells cur U fr)) (hT : T ≠ U) : g ≠ b := by
  rintro rfl
  obtain ⟨cur, fr, k⟩ := k
  rw [Has, k] at h
  simp at h
  exact hT h.2.1.symm
theorem has_ne2 {w : World} {b g : Nat} {cs ds : List Value} {T U : TypeId} (h : Has w b cs T) (k : Has w g ds U) (hT : T ≠ U) : g ≠ b := has_ne h ⟨_, _, k⟩ hT
theorem own_row {w : World} {base e size n : Nat} {v : Value} {xs : List Value} (h : w.ownsRow base e size v n xs) {k : Nat} (hk : v.ownBlock = some k) : ∃ cur fr, w.heap[k]? = some (.cells cur e fr) := by
  rcases h.2 with ⟨rfl, _⟩ | ⟨g, cap, cur, rfl, hg, hh, _⟩
  · cases hk
  · obtain rfl : g = k := by simpa [Value.ownBlock] using hk
    exact ⟨cur, _, hh⟩

theorem rowOf_later {w w1 : World} {v v' : Value} (h : RowOf w1 v v') (hs : w.heap.size ≤ w1.heap.size) : RowOf w v v' := fun k hk => by
  rcases h k hk with h | h
  · exact .inl h
  · exact .inr (by omega)

theorem row_keep {w w' : World} {S : Nat → Prop} {k T : Nat} (h : ∃ cur fr, w.heap[k]? = some (.cells cur T fr)) (m : Mod S w w') (hs : ¬ S k) : ∃ cur fr, w'.heap[k]? = some (.cells cur T fr) := by
  obtain ⟨cur, fr, hr⟩ := h
  exact ⟨cur, fr, (m.block _ (Array.getElem?_eq_some_iff.1 hr).1 hs).trans hr⟩
theorem str_full (s : ByteArray) (h : 0 < s.size) : s.toList.isEmpty = false := by
  rw [ByteArray.toList_eq]
  cases h' : s.data.toList with
  | nil => have h1 : s.data.toList.length = 0 := by rw [h']; rfl
           have h2 : s.data.toList.length = s.size := by simp
           omega
  | cons _ _ => rfl
theorem str_none (s : ByteArray) (h : s.size = 0) : s = ByteArray.empty := by
  have h2 : s.data.toList.length = 0 := by simpa using h
  have h3 : s.data.toList = [] := List.eq_nil_of_length_eq_zero h2
  cases s with | mk d => cases d with | mk l => simp at h3; subst h3; rfl

/-- []byte(text), which may be written -/
theorem to_bytes (s : ByteArray) (w : World) (hEm : s.size ≤ maxLen) : ∃ c w', (convert 9 75 (.string s)).run Tryd.prog w = .ok (.slice (some ⟨w.heap.size, 0, none⟩) s.size c) w' ∧
    Mod (fun _ => False) w w' ∧ (∀ j u, (bv s.data.toList)[j]? = some u → w'.cell? ⟨w.heap.size, j, none⟩ = some u) ∧ s.size ≤ c ∧ c ≤ maxLen ∧ w.heap.size < w'.heap.size ∧ (∀ j, j < s.size → w'.frozen? ⟨w.heap.size, j, none⟩ = false) ∧ (∃ cur fr, w'.heap[w.heap.size]? = some (.cells cur 5 fr) ∧ fr ≠ (0, 0)) := by
  have h := Lib.run_convert_string_bytes (P := Tryd.prog) w 9 75 5 s Tryd.underlying9 Tryd.underlying75 Tryd.underlying5
  refine ⟨_, _, h, bytesWorld_mod (Mod.refl _ _) _ _, ?_, ?_, ?_, ?_, ?_, ⟨_, _, Lib.bytesWorld_at_new w 5 s, by simp⟩⟩
  · rcases bytesWorld_cells w 5 s with h | ⟨b, o, hA, hc⟩
    · intro j u hj; rw [h] at hj; simp at hj
    · obtain ⟨rfl, rfl⟩ : w.heap.size = b ∧ 0 = o := by simpa using hA
      intro j u hj; have := hc j u hj; rwa [Nat.zero_add] at this
  · exact grownCap_ge w s.size 0 5
  · exact grownCap_le_maxLen w s.size 0 5 hEm
  · rw [Lib.bytesWorld_size]; exact Nat.lt_succ_self _
  · intro j hj
    have hs : (Lib.bytesCells w 5 s).size = grownCap w s.size 0 5 := by
      simp [Lib.bytesCells]
      have h1 : s.data.size = s.size := rfl
      have h2 := grownCap_ge w s.size 0 5
      omega
    have h2 := grownCap_ge w s.size 0 5
    simp only [World.frozen?]
    rw [Lib.bytesWorld_at_new, hs]
    simp; omega


end K
end Go.Proofs.YtenamjldkaggcaaDoor
