/- Words for the net: fates, frames, what a way makes of a frame; append with all that is known of the new row. -/
import Derived.Test.YtocpifoimoaibaaKa
import Derived.Test.YtocpifoimoaibaaKr
import Derived.Laws.AppendOwn
import Derived.Laws.AppendOwnNone
namespace Go.Proofs.Ytocpifoimoaibaa
set_option linter.unusedVariables false
set_option linter.unusedSimpArgs false
open Go.RowKit K
namespace K

/-- the row of v' is v's, or a new one -/
def RowOf (w : World) (v v' : Value) : Prop := ∀ k, v'.ownBlock = some k → v.ownBlock = some k ∨ w.heap.size ≤ k
theorem rowOf_same {w : World} {v v' : Value} (h : v'.ownBlock = v.ownBlock) : RowOf w v v' := fun k hk => .inl (h ▸ hk)
theorem rowOf_nil (w : World) (v : Value) : RowOf w v (.slice none 0 0) := fun k hk => by cases hk

theorem run_append_own2 {P : Program} (w : World) (base : Nat) (t ty e : TypeId) (i : TypeInfo) (z : Value) (size bytes : Nat) (ht : P.underlying t = some (.slice e)) (hi : P.info? e = some i) (hz : i.zero = some z)
    (hsize : i.size = size) (hby : i.bytes = bytes) (hzs : z.cells.size = size) (hsz : 0 < size)
    (v : Value) (n : Nat) (xs : List Value) (hown : w.ownsRow base e size v n xs)
    (a : Addr) (m c : Nat) (news : List Value) (hl : news.length = m * size) (hnews : ∀ j u, news[j]? = some u → w.cell? (a.add j) = some u) (h1 : ∀ u ∈ news, u.oneCell' = true)
    (h63 : n + m ≤ maxLen) (hbytes : (n + m) * bytes ≤ 140737488355328) (hbase : base ≤ w.heap.size) :
    ∃ v' w', (Builtin.append_ #[t, t] ty #[v, .slice (some a) m c]).run P w = .ok v' w' ∧ w'.ownsRow base e size v' (n + m) (xs ++ news) ∧ w.grownBy w' v.ownBlock ∧ RowOf w v v' := by
  obtain ⟨v', w', hr, h2, h3, h4⟩ := run_append_own (P := P) w base t ty e i z size bytes ht hi hz hsize hby hzs hsz v n xs hown a m c news hl hnews h1 h63 hbytes hbase
  refine ⟨v', w', hr, h2, h3, ?_⟩
  have hsmall : n + m ≤ 9223372036854775807 := by simp only [maxLen] at h63; omega
  have hown0 := hown
  rcases hown.2 with ⟨rfl, rfl⟩ | ⟨g, cap, cur, rfl, hbg, hg, hnc, hcm, hcs, htake⟩
  · have hx : xs = [] := List.eq_nil_of_length_eq_zero (by simpa using hown.1)
    subst hx
    obtain ⟨v2, w2, hr2, h22, _, _⟩ := run_append_own (P := P) w w.heap.size t ty e i z size bytes ht hi hz hsize hby hzs hsz _ 0 [] (World.ownsRow_nil w w.heap.size e size) a m c news hl hnews h1 h63 hbytes (Nat.le_refl _)
    rw [hr] at hr2
    obtain ⟨rfl, rfl⟩ : v' = v2 ∧ w' = w2 := by simpa using hr2
    exact fun k hb => .inr (h22.lt k hb).1
  · subst hsize
    by_cases hroom : n + m ≤ cap
    · have hfit : n * i.size + news.length ≤ cur.size := by rw [hl, hcs, ← Nat.add_mul]; exact Nat.mul_le_mul_right _ hroom
      have hr2 := run_append_room (P := P) w t ty e i ht hi g n cap cur hg a m c news hl hnews h1 hroom hfit
      rw [hr] at hr2
      obtain ⟨rfl, rfl⟩ := (show v' = _ ∧ w' = _ by simpa using hr2)
      exact rowOf_same rfl
    · have holds : ∀ j u, xs[j]? = some u → w.cell? ((⟨g, 0, none⟩ : Addr).add j) = some u := hown0.cells (g := g) rfl
      have hr2 := run_append_grow (P := P) w t ty e i z ht hi hz ⟨g, 0, none⟩ n cap xs hown.1 holds a m c news hl hnews (by omega) (by omega) (growslice_fits (by omega) (hby ▸ hbytes))
      rw [hr] at hr2
      obtain ⟨rfl, rfl⟩ := (show v' = _ ∧ w' = _ by simpa using hr2)
      exact fun k hk => .inr (by simp [Value.ownBlock] at hk; omega)

/-- append of a slice's elements, nil included: the row is the old one, or a new one -/
theorem appG {P : Program} {w : World} {ops : Array Oper} {rest : List Oper} {o : Oper} {a : Act} {Q : Exit → Act → World → Prop} (s x : Operand) {t e size bytes : Nat} (T : SliceT P t e size bytes)
    (base : Nat) (v : Value) (n : Nat) (xs : List Value) (hown : w.ownsRow base e size v n xs) (A : Option Addr) (m c : Nat) (news : List Value)
    (hgd : o.guard = none) (ho : o.op = .call { callee := .builtin .append, args := #[s, x], argTypes := #[t, t] })
    (hs : a.eval s = v) (hx : a.eval x = .slice A m c) (hl : news.length = m * size) (hA : Cells w A news) (h1 : ∀ u ∈ news, u.oneCell' = true)
    (hb : (n + m) * bytes ≤ 140737488355328) (hm : n + m ≤ maxLen) (hbase : base ≤ w.heap.size)
    (h : ∀ v' w', w'.ownsRow base e size v' (n + m) (xs ++ news) → Mod (fun k => v.ownBlock = some k) w w' → RowOf w v v' → wpList P ops Q rest (a.put o.dst v') w') : wpList P ops Q (o :: rest) a w := by
  obtain ⟨ht, hsz, i, z, hi, hz, hsize, hby, hzs⟩ := T
  cases A with
  | some ad =>
    have hnews : ∀ j u, news[j]? = some u → w.cell? (ad.add j) = some u := by
      rcases hA with hA | ⟨b, o, hA, hc⟩
      · intro j u hj; rw [hA] at hj; simp at hj
      · obtain rfl := Option.some.inj hA
        intro j u hj; rw [Addr.add_lit]; exact hc j u hj
    obtain ⟨v', w', hr, h2, h3, h4⟩ := run_append_own2 (P := P) w base t o.type e i z size bytes ht hi hz hsize hby hzs hsz v n xs hown ad m c news hl hnews h1 hm hb hbase
    refine wpList_plain hgd fun K hK => ?_
    unfold Oper.wp execOp
    simp only [ho, resolve, invoke, builtin, Sem.run_bind, Sem.run_pure, Result.andThen_ok, List.map_toArray, List.map_cons, List.map_nil, hs, hx, hr]
    exact hK _ _ (h v' w' h2 (Mod.grown (Mod.refl _ _) h3 fun k hk _ => hk) h4)
  | none =>
    have hn : news = [] := by
      rcases hA with hA | ⟨b, o, hA, _⟩
      · exact hA
      · cases hA
    subst hn
    have hm0 : m = 0 := by
      rcases Nat.eq_zero_or_pos m with h | h
      · exact h
      · have := Nat.mul_pos h hsz; simp at hl; omega
    subst hm0
    have hrun : (Builtin.append_ #[t, t] o.type #[v, .slice none 0 c]).run P w = .ok v w := by
      rcases hown.2 with ⟨rfl, rfl⟩ | ⟨g, cap, cur, rfl, hbg, hg, hnc, hcm, hcs, htake⟩
      · simp [Builtin.append_, run_underlying ht, sizeOf, typeInfo, hi, Builtin.lenOf, Builtin.firstCells]
      · simp [Builtin.append_, run_underlying ht, sizeOf, typeInfo, hi, Builtin.lenOf, Builtin.firstCells, hnc, storeCells]
    refine wpList_plain hgd fun K hK => ?_
    unfold Oper.wp execOp
    simp only [ho, resolve, invoke, builtin, Sem.run_bind, Sem.run_pure, Result.andThen_ok, List.map_toArray, List.map_cons, List.map_nil, hs, hx, hrun]
    exact hK _ _ (h v w (by simpa using hown) (Mod.refl _ _) (rowOf_same rfl))

theorem cells_lit {w : World} {n : Nat} {cs : List Value} {T : TypeId} (h : w.heap.size = n) : Cells (w.alloc (.cells cs.toArray T)) (some ⟨n, 0, none⟩) cs := h ▸ lit_cells w cs T
theorem own_lit {w : World} {n m : Nat} {cs : List Value} {e : TypeId} {base : Nat} (h : w.heap.size = n) (hb : base ≤ n) (hm : m ≤ maxLen) {size : Nat} (hs : cs.length = m * size) : (w.alloc (.cells cs.toArray e)).ownsRow base e size (.slice (some ⟨n, 0, none⟩) m m) m cs := by
  subst h; exact World.ownsRow_lit w cs.toArray m hb hm (by simpa using hs)
theorem Has.lit {w : World} {n : Nat} {cs : List Value} {T : TypeId} (h : w.heap.size = n) : Has (w.alloc (.cells cs.toArray T)) n cs T := h ▸ Has.new w cs T

theorem own_of_has {w : World} {g m : Nat} {cs : List Value} {e : TypeId} {base : Nat} (h : Has w g cs e) (hb : base ≤ g) (hm : m ≤ maxLen) {size : Nat} (hs : cs.length = m * size) : w.ownsRow base e size (.slice (some ⟨g, 0, none⟩) m m) m cs :=
  ⟨hs, .inr ⟨g, m, cs.toArray, rfl, hb, h, Nat.le_refl _, hm, by simpa using hs, by simpa using List.take_of_length_le (by omega)⟩⟩

end K
namespace Net
structure Fate where
  k : Int
  a : Int
  b : UInt8
def fc (f : Fate) : List Value := [.int .i64 f.k, .int .i64 f.a, .int .u8 (f.b.toNat : Int)]
def fcs (l : List Fate) : List Value := l.flatMap fc
theorem fcs_len (l : List Fate) : (fcs l).length = l.length * 3 := by
  induction l with
  | nil => rfl
  | cons f l ih =>
    have e : fcs (f :: l) = .int .i64 f.k :: .int .i64 f.a :: .int .u8 (f.b.toNat : Int) :: fcs l := rfl
    rw [e]; simp only [List.length_cons, ih]; omega
theorem fcs_get (l : List Fate) (i : Nat) (h : i < l.length) : (fcs l)[i * 3]? = some (.int .i64 l[i].k) ∧ (fcs l)[i * 3 + 1]? = some (.int .i64 l[i].a) ∧ (fcs l)[i * 3 + 2]? = some (.int .u8 (l[i].b.toNat : Int)) := by
  induction l generalizing i with
  | nil => simp at h
  | cons f l ih =>
    cases i with
    | zero => exact ⟨rfl, rfl, rfl⟩
    | succ i =>
      have := ih i (by simpa using h)
      have e : fcs (f :: l) = .int .i64 f.k :: .int .i64 f.a :: .int .u8 (f.b.toNat : Int) :: fcs l := rfl
      rw [e]
      rw [show (i + 1) * 3 = i * 3 + 1 + 1 + 1 by omega]
      simpa using this
theorem fcs_one (l : List Fate) : ∀ u ∈ fcs l, u.oneCell' = true := by
  intro u hu
  simp only [fcs, List.mem_flatMap, fc, List.mem_cons, List.not_mem_nil, or_false] at hu
  obtain ⟨f, _, rfl | rfl | rfl⟩ := hu <;> rfl
/-- frames as cells -/
def sv (l : List ByteArray) : List Value := l.map .string
theorem sv_len (l : List ByteArray) : (sv l).length = l.length := by simp [sv]
theorem sv_app (l m : List ByteArray) : sv (l ++ m) = sv l ++ sv m := by simp [sv]
theorem sv_one (l : List ByteArray) : ∀ u ∈ sv l, u.oneCell' = true := by
  intro u hu; simp only [sv, List.mem_map] at hu; obtain ⟨c, _, rfl⟩ := hu; rfl
theorem sv_get (l : List ByteArray) (k : Nat) (h : k < l.length) : (sv l)[k]? = some (.string l[k]) := by simp [sv, h]

/-- a byte turned -/
def place (n : Nat) (a : Int) : Nat := ((if a < 0 then -1 - a else a) % (n : Int)).toNat
def trn (s : List UInt8) (a : Int) (b : UInt8) : List UInt8 := s.set (place s.length a) (s.getD (place s.length a) 0 ^^^ b)
def trnB (s : ByteArray) (a : Int) (b : UInt8) : ByteArray := ⟨(trn s.data.toList a b).toArray⟩
/-- what comes of a frame on its way, and what waits then -/
def goes (f : Fate) (s : ByteArray) (waits : List ByteArray) : List ByteArray × List ByteArray :=
  if f.k = 1 then ([], waits) else if f.k = 3 then ([], waits ++ [s]) else
  if f.k = 2 then (trnB s f.a f.b :: waits, []) else if f.k = 4 then (s :: s :: waits, []) else (s :: waits, [])
def fate0 : Fate := ⟨0, 0, 0⟩
end Net
end Go.Proofs.Ytocpifoimoaibaa
