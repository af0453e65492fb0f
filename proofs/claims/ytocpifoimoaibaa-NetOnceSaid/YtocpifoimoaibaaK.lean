/- Words of this proof's own: what a block holds ('Has'), which blocks a call may turn ('Mod'), and a drawn region whose last operations are forced. -/
import Derived.Test.YtocpifoimoaibaaProg
import Derived.Tactics
import Derived.WalkKit
import Derived.OwnWalk
import Derived.Below
import Derived.Laws.AppendOwn
import Derived.Laws.OwnMore
import Derived.Laws.MakeOwn
import Derived.LoopTactic
import Derived.StillTailTactics
import Derived.BigQuiet
import Derived.Deep.QuietTactic
import Derived.Deep.Draws
import Derived.Lib.Hide
import Derived.Deep.DeepMust
import Derived.Lib.AppendStr
import Derived.WalkSpells
import Derived.Laws.BytesArg
import Derived.Laws.AppendOwnNone
import Derived.Lib.SlicesS
namespace Go.Proofs.Ytocpifoimoaibaa
set_option linter.unusedVariables false
set_option linter.unusedSimpArgs false
open Go.RowKit
namespace K

theorem region_tail {P : Program} {id : Nat} {Q : Exit → Act → World → Prop} {a : Act} {w : World} {l : List Oper} (n : Nat) (hm : P.follows .mixedOrders = true) (hB : Region.lexTailB .any l.toArray n = true)
    (h : wpStill P l.toArray w.drew (fun a' => wpList P l.toArray Q (l.drop n) a' w.drew) (l.take n) a) : (Code.region id l.toArray true).wp P Q a w :=
  wp_region_still_tail n hm hB h

/-- Block b holds the cells cs of type T, and may be written. -/
def Has (w : World) (b : Nat) (cs : List Value) (T : TypeId) : Prop := w.heap[b]? = some (.cells cs.toArray T (0, 0))

/-- Of the blocks that were there only those in S may have turned. -/
structure Mod (S : Nat → Prop) (w w' : World) : Prop where
  os : w'.os = w.os
  tape : w'.tape = w.tape
  output : w'.output = w.output
  size : w.heap.size ≤ w'.heap.size
  block : ∀ k, k < w.heap.size → ¬ S k → w'.heap[k]? = w.heap[k]?

theorem Mod.refl (S : Nat → Prop) (w : World) : Mod S w w := ⟨rfl, rfl, rfl, Nat.le_refl _, fun _ _ _ => rfl⟩
theorem Mod.drew {S : Nat → Prop} {a w : World} (h : Mod S a w) : Mod S a w.drew := ⟨h.os, h.tape, h.output, h.size, h.block⟩
theorem Mod.drewN {S : Nat → Prop} {a w : World} (h : Mod S a w) (n : Nat) : Mod S a (w.drewN n) := ⟨h.os, h.tape, h.output, h.size, h.block⟩
theorem Mod.of_drew {S : Nat → Prop} {a w : World} (h : Mod S a w.drew) : Mod S a w := ⟨h.os, h.tape, h.output, h.size, h.block⟩
theorem Mod.of_drew_l {S : Nat → Prop} {a w : World} (h : Mod S a.drew w) : Mod S a w := ⟨h.os, h.tape, h.output, h.size, h.block⟩
theorem Mod.alloc {S : Nat → Prop} {a w : World} (h : Mod S a w) (o : Obj) : Mod S a (w.alloc o) :=
  ⟨h.os, h.tape, h.output, Nat.le_trans h.size (by simp), fun k hk hs => by
    rw [Below.heap_alloc _ _ _ (Nat.lt_of_lt_of_le hk h.size)]; exact h.block k hk hs⟩
theorem Mod.setCell {S : Nat → Prop} {a w : World} (h : Mod S a w) {p : Addr} (hp : S p.block ∨ a.heap.size ≤ p.block) (u : Value) : Mod S a (w.setCell p u) :=
  ⟨h.os, h.tape, h.output, by simp only [World.setCell, Array.size_modify]; exact h.size, fun k hk hs => by
    rw [Below.heap_setCell _ _ _ _ (by rintro rfl; rcases hp with hp | hp; exact hs hp; omega)]; exact h.block k hk hs⟩
/-- a store into a block of S, and into a newer one -/
theorem Mod.set1 {S : Nat → Prop} {a w : World} {b : Nat} (h : Mod S a w) (hp : S b) (o : Nat) (u : Value) : Mod S a (w.setCell ⟨b, o, none⟩ u) := h.setCell (p := ⟨b, o, none⟩) (.inl hp) u
theorem Mod.set2 {S : Nat → Prop} {a w : World} {b : Nat} (h : Mod S a w) (hp : a.heap.size ≤ b) (o : Nat) (u : Value) : Mod S a (w.setCell ⟨b, o, none⟩ u) := h.setCell (p := ⟨b, o, none⟩) (.inr hp) u
/-- Two steps: what the second may turn lies in S, or is newer. -/
theorem Mod.trans {S S' : Nat → Prop} {a b c : World} (h : Mod S a b) (k : Mod S' b c) (hs : ∀ i, i < a.heap.size → S' i → S i) : Mod S a c :=
  ⟨k.os.trans h.os, k.tape.trans h.tape, k.output.trans h.output, Nat.le_trans h.size k.size,
    fun i hi hn => (k.block i (Nat.lt_of_lt_of_le hi h.size) (fun h' => hn (hs i hi h'))).trans (h.block i hi hn)⟩
theorem Mod.mono {S S' : Nat → Prop} {a b : World} (h : Mod S a b) (hs : ∀ i, i < a.heap.size → S i → S' i) : Mod S' a b :=
  ⟨h.os, h.tape, h.output, h.size, fun i hi hn => h.block i hi (fun h' => hn (hs i hi h'))⟩
theorem Mod.below {S : Nat → Prop} {a b : World} (h : Mod S a b) (hs : ∀ i, i < a.heap.size → ¬ S i) : Below a.heap.size a b :=
  ⟨h.os, h.tape, h.output, h.size, fun i hi => h.block i hi (hs i hi)⟩
theorem Mod.of_below {S : Nat → Prop} {a b : World} (h : Below a.heap.size a b) : Mod S a b :=
  ⟨h.os, h.tape, h.output, h.size, fun i hi _ => h.block i hi⟩
theorem Mod.cell {S : Nat → Prop} {a b : World} (h : Mod S a b) {p : Addr} (hp : p.block < a.heap.size) (hs : ¬ S p.block) : b.cell? p = a.cell? p := World.cell?_of_block (w := a) (h.block _ hp hs)
theorem Mod.frozen {S : Nat → Prop} {a b : World} (h : Mod S a b) {p : Addr} (hp : p.block < a.heap.size) (hs : ¬ S p.block) : b.frozen? p = a.frozen? p := World.frozen?_of_block (w := a) (h.block _ hp hs)

theorem Has.lt {w : World} {b : Nat} {cs : List Value} {T : TypeId} (h : Has w b cs T) : b < w.heap.size := by
  rcases Nat.lt_or_ge b w.heap.size with h' | h'
  · exact h'
  · rw [Has, Array.getElem?_eq_none h'] at h; cases h
theorem Has.cell {w : World} {b : Nat} {cs : List Value} {T : TypeId} (h : Has w b cs T) {o : Nat} {v : Value} (hv : cs[o]? = some v) : w.cell? ⟨b, o, none⟩ = some v := by
  simp only [World.cell?]; rw [h]; simpa using hv
theorem Has.frozen {w : World} {b : Nat} {cs : List Value} {T : TypeId} (h : Has w b cs T) (o : Nat) : w.frozen? ⟨b, o, none⟩ = false := by
  simp only [World.frozen?]; rw [h]; simp
theorem Has.keep {w w' : World} {b : Nat} {cs : List Value} {T : TypeId} {S : Nat → Prop} (h : Has w b cs T) (m : Mod S w w') (hs : ¬ S b) : Has w' b cs T := (m.block b h.lt hs).trans h
theorem Has.drew {w : World} {b : Nat} {cs : List Value} {T : TypeId} (h : Has w b cs T) : Has w.drew b cs T := h
theorem Has.drewN {w : World} {b : Nat} {cs : List Value} {T : TypeId} (h : Has w b cs T) (n : Nat) : Has (w.drewN n) b cs T := h
theorem Has.alloc {w : World} {b : Nat} {cs : List Value} {T : TypeId} (h : Has w b cs T) (o : Obj) : Has (w.alloc o) b cs T := by
  unfold Has; rw [Below.heap_alloc _ _ _ h.lt]; exact h
theorem Has.new (w : World) (cs : List Value) (T : TypeId) : Has (w.alloc (.cells cs.toArray T)) w.heap.size cs T := by
  unfold Has; show (w.heap.push _)[w.heap.size]? = _; simp
theorem Has.set {w : World} {b : Nat} {cs : List Value} {T : TypeId} (h : Has w b cs T) (o : Nat) (v : Value) : Has (w.setCell ⟨b, o, none⟩ v) b (cs.set o v) T := by
  unfold Has at *; simp only [World.setCell, Array.getElem?_modify]; rw [h]; simp
theorem Has.set' {w : World} {b : Nat} {cs cs' : List Value} {T : TypeId} {o : Nat} {v : Value} (h : Has w b cs T) (e : cs.set o v = cs') : Has (w.setCell ⟨b, o, none⟩ v) b cs' T := e ▸ h.set o v
theorem Has.other {w : World} {b : Nat} {cs : List Value} {T : TypeId} (h : Has w b cs T) {p : Addr} (hp : b ≠ p.block) (v : Value) : Has (w.setCell p v) b cs T := by
  unfold Has at *; rw [Below.heap_setCell _ _ _ _ hp]; exact h

/-- A slice of the call's own, kept where its row's block does not turn. -/
theorem own_keep {S : Nat → Prop} {w w' : World} {base : Nat} {e : TypeId} {size : Nat} {v : Value} {n : Nat} {xs : List Value} (h : w.ownsRow base e size v n xs) (m : Mod S w w')
    (hs : ∀ k, base ≤ k → v.ownBlock = some k → ¬ S k) : w'.ownsRow base e size v n xs := by
  obtain ⟨h1, h2⟩ := h
  refine ⟨h1, ?_⟩
  rcases h2 with h2 | ⟨g, cap, cur, hv, hg, hh, r⟩
  · exact Or.inl h2
  · have hlt : g < w.heap.size := Has.lt (w := w) (cs := cur.toList) (T := e) hh
    exact Or.inr ⟨g, cap, cur, hv, hg, by rw [m.block g hlt (hs g hg (by rw [hv]; rfl))]; exact hh, r⟩
theorem own_base {w : World} {base base' : Nat} {e : TypeId} {size : Nat} {v : Value} {n : Nat} {xs : List Value} (h : w.ownsRow base e size v n xs) (hb : base' ≤ base) : w.ownsRow base' e size v n xs := by
  obtain ⟨h1, h2⟩ := h
  refine ⟨h1, ?_⟩
  rcases h2 with h2 | ⟨g, cap, cur, hv, hg, r⟩
  · exact Or.inl h2
  · exact Or.inr ⟨g, cap, cur, hv, Nat.le_trans hb hg, r⟩
theorem Mod.grown {S : Nat → Prop} {a w w' : World} {row : Option Nat} (h : Mod S a w) (hg : w.grownBy w' row) (hr : ∀ k, row = some k → k < a.heap.size → S k) : Mod S a w' :=
  ⟨hg.os.trans h.os, hg.tape.trans h.tape, hg.output.trans h.output, Nat.le_trans h.size hg.size, fun k hk hn => by
    rw [hg.block k (Nat.lt_of_lt_of_le hk h.size) (fun e => hn (hr k e.symm hk))]; exact h.block k hk hn⟩
theorem Has.grown {w w' : World} {b : Nat} {cs : List Value} {T : TypeId} {row : Option Nat} (h : Has w b cs T) (hg : w.grownBy w' row) (hr : row ≠ some b) : Has w' b cs T :=
  (hg.block b h.lt (fun e => hr e.symm)).trans h

/-- t is a slice type with elements e, of so many cells, so many bytes each -/
def SliceT (P : Program) (t e size bytes : Nat) : Prop :=
  P.underlying t = some (.slice e) ∧ 0 < size ∧ ∃ i z, P.info? e = some i ∧ i.zero = some z ∧ i.size = size ∧ i.bytes = bytes ∧ z.cells.size = size

/-- append of some elements that lie in a row: the row may be the old one, or a new one -/
theorem app {P : Program} {w : World} {ops : Array Oper} {rest : List Oper} {o : Oper} {a : Act} {Q : Exit → Act → World → Prop} (s x : Operand) {t e size bytes : Nat} (T : SliceT P t e size bytes)
    (base : Nat) (v : Value) (n : Nat) (xs : List Value) (hown : w.ownsRow base e size v n xs) (ad : Addr) (m c : Nat) (news : List Value)
    (hgd : o.guard = none) (ho : o.op = .call { callee := .builtin .append, args := #[s, x], argTypes := #[t, t] })
    (hs : a.eval s = v) (hx : a.eval x = .slice (some ad) m c) (hl : news.length = m * size) (hnews : ∀ j u, news[j]? = some u → w.cell? (ad.add j) = some u) (h1 : ∀ u ∈ news, u.oneCell' = true)
    (hb : (n + m) * bytes ≤ 140737488355328) (hm : n + m ≤ maxLen) (hbase : base ≤ w.heap.size)
    (h : ∀ v' w', w'.ownsRow base e size v' (n + m) (xs ++ news) → Mod (fun k => base ≤ k ∧ v.ownBlock = some k) w w' → wpList P ops Q rest (a.put o.dst v') w') : wpList P ops Q (o :: rest) a w := by
  obtain ⟨ht, hsz, i, z, hi, hz, hsize, hby, hzs⟩ := T
  refine wpList_append_own w hgd s x t ho base e i z size bytes ht hi hz hsize hby hzs hsz v n xs hs hown ad m c news hx hl hnews h1 hm hb hbase fun v' w' h2 h3 _ => h v' w' h2 ?_
  exact Mod.grown (Mod.refl _ _) h3 fun k hk _ => ⟨(hown.lt k hk).1, hk⟩

/-- the cells xs stand in memory from A on -/
def Cells (w : World) (A : Option Addr) (xs : List Value) : Prop := xs = [] ∨ ∃ b o, A = some ⟨b, o, none⟩ ∧ ∀ j u, xs[j]? = some u → w.cell? ⟨b, o + j, none⟩ = some u
/-- a slice's address: nil, or into a row -/
def Adr (A : Option Addr) (c : Nat) : Prop := c = 0 ∨ ∃ b o, A = some ⟨b, o, none⟩
theorem Cells.drewN {w : World} {A : Option Addr} {xs : List Value} (h : Cells w A xs) (m : Nat) : Cells (w.drewN m) A xs := h
theorem own_cells {w : World} {base : Nat} {e : TypeId} {size : Nat} {v : Value} {n : Nat} {xs : List Value} (h : w.ownsRow base e size v n xs) : ∃ A cap, v = .slice A n cap ∧ n ≤ cap ∧ Cells w A xs ∧ Adr A cap ∧ cap ≤ maxLen := by
  obtain ⟨h1, ⟨hv, hn⟩ | ⟨g, cap, cur, hv, hg, hh, hc, hm, hs, ht⟩⟩ := h
  · subst hn; simp at h1; exact ⟨none, 0, hv, Nat.le_refl _, .inl h1, .inl rfl, by unfold maxLen; omega⟩
  · have h : w.ownsRow base e size (.slice (some ⟨g, 0, none⟩) n cap) n xs := ⟨h1, .inr ⟨g, cap, cur, rfl, hg, hh, hc, hm, hs, ht⟩⟩
    refine ⟨_, cap, hv, hc, .inr ⟨g, 0, rfl, fun j u hj => ?_⟩, .inr ⟨g, 0, rfl⟩, hm⟩
    have hlt : j < n * size := by
      rcases Nat.lt_or_ge j xs.length with hl | hl
      · omega
      · rw [List.getElem?_eq_none hl] at hj; cases hj
    rw [Nat.zero_add, h.cellAt j hlt, hj]
theorem Cells.keep {S : Nat → Prop} {w w' : World} {A : Option Addr} {xs : List Value} (h : Cells w A xs) (m : Mod S w w') (hs : ∀ a, A = some a → ¬ S a.block) : Cells w' A xs := by
  rcases h with h | ⟨b, o, hA, hc⟩
  · exact .inl h
  · refine .inr ⟨b, o, hA, fun j u hj => ?_⟩
    have := hc j u hj
    rw [m.cell (World.block_lt_of_cell? w _ this) (show ¬ S b from hs _ hA)]; exact this

/-- bytes as cells -/
def bv (l : List UInt8) : List Value := l.map fun c => Value.int .u8 (c.toNat : Int)
theorem bv_length (l : List UInt8) : (bv l).length = l.length := by simp [bv]
theorem bv_append (l m : List UInt8) : bv (l ++ m) = bv l ++ bv m := by simp [bv]
theorem bv_one (l : List UInt8) : ∀ u ∈ bv l, u.oneCell' = true := by
  intro u hu; simp only [bv, List.mem_map] at hu; obtain ⟨c, _, rfl⟩ := hu; rfl
theorem bv_get (l : List UInt8) (k : Nat) (h : k < l.length) : (bv l)[k]? = some (.int .u8 (l[k].toNat : Int)) := by simp [bv, h]
theorem bv_drop (l : List UInt8) (k : Nat) : bv (l.drop k) = (bv l).drop k := by simp [bv]
theorem bv_take (l : List UInt8) (k : Nat) : bv (l.take k) = (bv l).take k := by simp [bv]

theorem app_str {P : Program} {w : World} {ops : Array Oper} {rest : List Oper} {o : Oper} {a : Act} {Q : Exit → Act → World → Prop} (s x : Operand) {t u e : Nat} (T : SliceT P t e 1 1)
    (hz0 : ∀ i z, P.info? e = some i → i.zero = some z → z = .int .u8 0) (hu : P.underlying u = some .string)
    (base : Nat) (v : Value) (n : Nat) (xs : List Value) (hown : w.ownsRow base e 1 v n xs) (str : ByteArray)
    (hgd : o.guard = none) (ho : o.op = .call { callee := .builtin .append, args := #[s, x], argTypes := #[t, u] })
    (hs : a.eval s = v) (hx : a.eval x = .string str)
    (hm : n + str.size ≤ maxLen) (hb : n + str.size ≤ 140737488355328) (hbase : base ≤ w.heap.size)
    (h : ∀ v' w', w'.ownsRow base e 1 v' (n + str.size) (xs ++ bv str.data.toList) → Mod (fun k => base ≤ k ∧ v.ownBlock = some k) w w' → wpList P ops Q rest (a.put o.dst v') w') : wpList P ops Q (o :: rest) a w := by
  obtain ⟨ht, hsz, i, z, hi, hz, hsize, hby, hzs⟩ := T
  refine Lib.wpList_append_own_string w hgd s x t u ho base e i ht hu hi (by rw [hz, hz0 i z hi hz]) hsize hby v n xs hs hown str hx hm hb hbase fun v' w' h2 h3 _ => h v' w' h2 ?_
  exact Mod.grown (Mod.refl _ _) h3 fun k hk _ => ⟨(hown.lt k hk).1, hk⟩

/-- string(bytes) -/
theorem run_bytes {P : Program} {w : World} {A : Option Addr} {l : List UInt8} (c : Nat) (h : Cells w A (bv l)) (src dst e : TypeId) (hs : P.underlying src = some (.slice e)) (he : P.underlying e = some (.int .u8)) (hd : P.underlying dst = some .string) :
    (convert src dst (.slice A l.length c)).run P w = .ok (.string ⟨l.toArray⟩) w := by
  have hstr : strOfNums (l.map fun b => (b.toNat : Int)) = ⟨l.toArray⟩ := by
    unfold strOfNums
    simp only [List.map_map]
    congr 1
    congr 1
    conv => rhs; rw [← List.map_id l]
    apply List.map_congr_left
    intro b _
    simp
  rcases h with h | ⟨b, o, rfl, hc⟩
  · have : l = [] := by cases l; rfl; simp [bv] at h
    subst this
    cases A with
    | none => exact run_convert_bytes_nil w src e hs he _ _ dst hd
    | some a =>
      have hl : (loadCells a 0).run P w = .ok (([] : List Int).map (Value.int .u8)).toArray w := rfl
      rw [run_convert_bytes_string w src dst e _ _ c hs he hd]
      show (Conv.bytesToString (.slice (some a) 0 c)).run P w = _
      rw [run_bytesToString w _ 0 c [] hl, foldl_push_bytes]
      simp [ByteArray.empty, ByteArray.emptyWithCapacity]
      rfl
  · have := run_convert_bytes_arg w src e hs he b o l.length c (l.map fun b => (b.toNat : Int)) (by simp) (fun i hi => by
      rw [hc i _ (bv_get l i hi)]; simp [hi]) dst hd
    rw [this, hstr]

theorem cell_new_old (w : World) (o : Obj) (p : Addr) (h : p.block < w.heap.size) : (w.alloc o).cell? p = w.cell? p := World.cell?_of_block (w := w) (Below.heap_alloc w o _ h)

/-- '==' of texts, as the walk spells it -/
theorem str_eq {l m : List UInt8} (h : l = m) : ((⟨l.toArray⟩ : ByteArray).toList == (⟨m.toArray⟩ : ByteArray).toList) = true := (Lib.bytes_beq_iff _ _).2 (by rw [h])
theorem str_ne {l m : List UInt8} (h : l ≠ m) : ((⟨l.toArray⟩ : ByteArray).toList == (⟨m.toArray⟩ : ByteArray).toList) = false := (Lib.bytes_beq_false_iff _ _).2 (by intro h2; exact h (by simpa using h2))

/-- x[p : p + q] of a slice -/
theorem run_slice2 {P : Program} (w : World) (t e : TypeId) (b o n c p q : Nat) (ht : P.underlying t = some (.slice e)) (he : (P.info? e).map (·.size) = some 1) (h : p + q ≤ c) (hp : p < c) :
    (Instr.slice t (.slice (some ⟨b, o, none⟩) n c) (some (.int .i64 p)) (some (.int .i64 ((p : Int) + (q : Int)))) none).run P w = .ok (.slice (some ⟨b, o + p, none⟩) q (c - p)) w := by
  have e1 : ((p : Int) + (q : Int)).toNat = p + q := by omega
  have e2 : ¬ c = p := by omega
  obtain ⟨i, hi, hs⟩ : ∃ i, P.info? e = some i ∧ i.size = 1 := by
    cases h : P.info? e with
    | none => rw [h] at he; cases he
    | some i => rw [h] at he; exact ⟨i, rfl, by simpa using he⟩
  have hso : (sizeOf e).run P w = .ok 1 w := by simp [sizeOf, typeInfo, hi, hs]
  have e3 : (⟨b, o, none⟩ : Addr).add p = ⟨b, o + p, none⟩ := by unfold Addr.add; split <;> simp_all
  simp only [Instr.slice, Instr.sliceBounds, Instr.sliceBound]
  simp [run_underlying ht, asIntOf]
  rw [if_pos (by omega), if_pos (by omega), hso]
  simp only [Result.andThen, if_neg e2, Nat.mul_one, e3, e1]
  rw [Nat.add_sub_cancel_left]

/-- x[p : p + q] of any slice of bytes: where it lies, what it holds -/
theorem slice_any {P : Program} {w : World} {A : Option Addr} {c : Nat} {l : List UInt8} (t e p q : Nat) (hA : Cells w A (bv l)) (hadr : Adr A c) (ht : P.underlying t = some (.slice e)) (he : (P.info? e).map (·.size) = some 1)
    (h : p + q ≤ l.length) (hl : l.length ≤ c) :
    ∃ A', (∀ w', (Instr.slice t (.slice A l.length c) (some (.int .i64 p)) (some (.int .i64 ((p : Int) + (q : Int)))) none).run P w' = .ok (.slice A' q (c - p)) w') ∧ Adr A' (c - p) ∧ Cells w A' (bv ((l.drop p).take q)) := by
  by_cases hp : p < c
  · obtain hc | ⟨b, o, rfl⟩ := hadr
    · omega
    refine ⟨_, fun w' => run_slice2 w' t e b o l.length c p q ht he (by omega) hp, .inr ⟨_, _, rfl⟩, ?_⟩
    rcases hA with hA | ⟨b', o', hb, hcell⟩
    · have : l = [] := by cases l; rfl; simp [bv] at hA
      subst this
      exact .inl (by simp [bv])
    · obtain ⟨rfl, rfl⟩ : b = b' ∧ o = o' := by simpa using hb
      refine .inr ⟨_, _, rfl, fun j u hj => ?_⟩
      rw [bv_take, List.getElem?_take] at hj
      split at hj
      · rw [bv_drop, List.getElem?_drop] at hj
        rw [Nat.add_assoc]; exact hcell _ u hj
      · cases hj
  · obtain rfl : q = 0 := by omega
    obtain rfl : p = c := by omega
    obtain ⟨i, hi, hs⟩ : ∃ i, P.info? e = some i ∧ i.size = 1 := by
      cases h : P.info? e with
      | none => rw [h] at he; cases he
      | some i => rw [h] at he; exact ⟨i, rfl, by simpa using he⟩
    refine ⟨A, fun w' => ?_, ?_, .inl (by simp [bv])⟩
    · have hso : (sizeOf e).run P w' = .ok 1 w' := by simp [sizeOf, typeInfo, hi, hs]
      simp only [Instr.slice, Instr.sliceBounds, Instr.sliceBound]
      simp [run_underlying ht, asIntOf, hso, Result.andThen]
    · exact .inl (Nat.sub_self _)

/-- the cells of a one-element row that was just made -/
theorem one_new (w : World) (u : Value) (e : TypeId) : ∀ j x, [u][j]? = some x → (w.alloc (.cells #[u] e)).cell? ((⟨w.heap.size, 0, none⟩ : Addr).add j) = some x := by
  intro j x hj
  cases j with
  | zero => simp at hj; subst hj; exact (Has.new w [u] e).cell rfl
  | succ j => simp at hj

end K
end Go.Proofs.Ytocpifoimoaibaa
