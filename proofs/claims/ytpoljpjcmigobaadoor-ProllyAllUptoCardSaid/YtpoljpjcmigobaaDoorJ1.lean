/- Joined texts: K, Kb, Ks, Ka, Kr, Kn. -/
import Derived.Test.YtpoljpjcmigobaaDoorProg
import Derived.Tactics
import Derived.WalkKit
import Derived.OwnWalk
import Derived.Below
import Derived.Laws.AppendOwn
import Derived.Laws.OwnMore
import Derived.Laws.MakeOwn
import Derived.LoopTactic
import Derived.StillTailTactics
import Derived.BigQuiet
import Derived.Deep.QuietTactic
import Derived.Deep.Draws
import Derived.Lib.Hide
import Derived.Deep.DeepMust
import Derived.Lib.AppendStr
import Derived.WalkSpells
import Derived.Laws.BytesArg
import Derived.Laws.AppendOwnNone
import Derived.Lib.SlicesS
import Derived.Lib.SlBytesConst
import Derived.ProofKit
import Derived.ArgAppend
import Derived.Lib.ConvBytes
import Derived.Orders
/- Words of this proof's own: what a block holds ('Has'), which blocks a call may turn ('Mod'), and a drawn region whose last operations are forced. -/
namespace Go.Proofs.YtpoljpjcmigobaaDoor
set_option linter.unusedVariables false
set_option linter.unusedSimpArgs false
open Go.RowKit
namespace K

theorem region_tail {P : Program} {id : Nat} {Q : Exit → Act → World → Prop} {a : Act} {w : World} {l : List Oper} (n : Nat) (hm : P.follows .mixedOrders = true) (hB : Region.lexTailB .any l.toArray n = true)
    (h : wpStill P l.toArray w.drew (fun a' => wpList P l.toArray Q (l.drop n) a' w.drew) (l.take n) a) : (Code.region id l.toArray true).wp P Q a w :=
  wp_region_still_tail n hm hB h

/-- Block b holds the cells cs of type T, and may be written. -/
def Has (w : World) (b : Nat) (cs : List Value) (T : TypeId) : Prop := w.heap[b]? = some (.cells cs.toArray T (0, 0))

/-- Of the blocks that were there only those in S may have turned. -/
structure Mod (S : Nat → Prop) (w w' : World) : Prop where
  os : w'.os = w.os
  tape : w'.tape = w.tape
  output : w'.output = w.output
  size : w.heap.size ≤ w'.heap.size
  block : ∀ k, k < w.heap.size → ¬ S k → w'.heap[k]? = w.heap[k]?

theorem Mod.refl (S : Nat → Prop) (w : World) : Mod S w w := ⟨rfl, rfl, rfl, Nat.le_refl _, fun _ _ _ => rfl⟩
theorem Mod.drew {S : Nat → Prop} {a w : World} (h : Mod S a w) : Mod S a w.drew := ⟨h.os, h.tape, h.output, h.size, h.block⟩
theorem Mod.drewN {S : Nat → Prop} {a w : World} (h : Mod S a w) (n : Nat) : Mod S a (w.drewN n) := ⟨h.os, h.tape, h.output, h.size, h.block⟩
theorem Mod.of_drew {S : Nat → Prop} {a w : World} (h : Mod S a w.drew) : Mod S a w := ⟨h.os, h.tape, h.output, h.size, h.block⟩
theorem Mod.of_drew_l {S : Nat → Prop} {a w : World} (h : Mod S a.drew w) : Mod S a w := ⟨h.os, h.tape, h.output, h.size, h.block⟩
theorem Mod.alloc {S : Nat → Prop} {a w : World} (h : Mod S a w) (o : Obj) : Mod S a (w.alloc o) :=
  ⟨h.os, h.tape, h.output, Nat.le_trans h.size (by simp), fun k hk hs => by
    rw [Below.heap_alloc _ _ _ (Nat.lt_of_lt_of_le hk h.size)]; exact h.block k hk hs⟩
theorem Mod.setCell {S : Nat → Prop} {a w : World} (h : Mod S a w) {p : Addr} (hp : S p.block ∨ a.heap.size ≤ p.block) (u : Value) : Mod S a (w.setCell p u) :=
  ⟨h.os, h.tape, h.output, by simp only [World.setCell, Array.size_modify]; exact h.size, fun k hk hs => by
    rw [Below.heap_setCell _ _ _ _ (by rintro rfl; rcases hp with hp | hp; exact hs hp; omega)]; exact h.block k hk hs⟩
/-- a store into a block of S, and into a newer one -/
theorem Mod.set1 {S : Nat → Prop} {a w : World} {b : Nat} (h : Mod S a w) (hp : S b) (o : Nat) (u : Value) : Mod S a (w.setCell ⟨b, o, none⟩ u) := h.setCell (p := ⟨b, o, none⟩) (.inl hp) u
theorem Mod.set2 {S : Nat → Prop} {a w : World} {b : Nat} (h : Mod S a w) (hp : a.heap.size ≤ b) (o : Nat) (u : Value) : Mod S a (w.setCell ⟨b, o, none⟩ u) := h.setCell (p := ⟨b, o, none⟩) (.inr hp) u
/-- Two steps: what the second may turn lies in S, or is newer. -/
theorem Mod.trans {S S' : Nat → Prop} {a b c : World} (h : Mod S a b) (k : Mod S' b c) (hs : ∀ i, i < a.heap.size → S' i → S i) : Mod S a c :=
  ⟨k.os.trans h.os, k.tape.trans h.tape, k.output.trans h.output, Nat.le_trans h.size k.size,
    fun i hi hn => (k.block i (Nat.lt_of_lt_of_le hi h.size) (fun h' => hn (hs i hi h'))).trans (h.block i hi hn)⟩
theorem Mod.mono {S S' : Nat → Prop} {a b : World} (h : Mod S a b) (hs : ∀ i, i < a.heap.size → S i → S' i) : Mod S' a b :=
  ⟨h.os, h.tape, h.output, h.size, fun i hi hn => h.block i hi (fun h' => hn (hs i hi h'))⟩
theorem Mod.below {S : Nat → Prop} {a b : World} (h : Mod S a b) (hs : ∀ i, i < a.heap.size → ¬ S i) : Below a.heap.size a b :=
  ⟨h.os, h.tape, h.output, h.size, fun i hi => h.block i hi (hs i hi)⟩
theorem Mod.of_below {S : Nat → Prop} {a b : World} (h : Below a.heap.size a b) : Mod S a b :=
  ⟨h.os, h.tape, h.output, h.size, fun i hi _ => h.block i hi⟩
theorem Mod.cell {S : Nat → Prop} {a b : World} (h : Mod S a b) {p : Addr} (hp : p.block < a.heap.size) (hs : ¬ S p.block) : b.cell? p = a.cell? p := World.cell?_of_block (w := a) (h.block _ hp hs)
theorem Mod.frozen {S : Nat → Prop} {a b : World} (h : Mod S a b) {p : Addr} (hp : p.block < a.heap.size) (hs : ¬ S p.block) : b.frozen? p = a.frozen? p := World.frozen?_of_block (w := a) (h.block _ hp hs)

theorem Has.lt {w : World} {b : Nat} {cs : List Value} {T : TypeId} (h : Has w b cs T) : b < w.heap.size := by
  rcases Nat.lt_or_ge b w.heap.size with h' | h'
  · exact h'
  · rw [Has, Array.getElem?_eq_none h'] at h; cases h
theorem Has.cell {w : World} {b : Nat} {cs : List Value} {T : TypeId} (h : Has w b cs T) {o : Nat} {v : Value} (hv : cs[o]? = some v) : w.cell? ⟨b, o, none⟩ = some v := by
  simp only [World.cell?]; rw [h]; simpa using hv
theorem Has.frozen {w : World} {b : Nat} {cs : List Value} {T : TypeId} (h : Has w b cs T) (o : Nat) : w.frozen? ⟨b, o, none⟩ = false := by
  simp only [World.frozen?]; rw [h]; simp
theorem Has.keep {w w' : World} {b : Nat} {cs : List Value} {T : TypeId} {S : Nat → Prop} (h : Has w b cs T) (m : Mod S w w') (hs : ¬ S b) : Has w' b cs T := (m.block b h.lt hs).trans h
theorem Has.drew {w : World} {b : Nat} {cs : List Value} {T : TypeId} (h : Has w b cs T) : Has w.drew b cs T := h
theorem Has.drewN {w : World} {b : Nat} {cs : List Value} {T : TypeId} (h : Has w b cs T) (n : Nat) : Has (w.drewN n) b cs T := h
theorem Has.alloc {w : World} {b : Nat} {cs : List Value} {T : TypeId} (h : Has w b cs T) (o : Obj) : Has (w.alloc o) b cs T := by
  unfold Has; rw [Below.heap_alloc _ _ _ h.lt]; exact h
theorem Has.new (w : World) (cs : List Value) (T : TypeId) : Has (w.alloc (.cells cs.toArray T)) w.heap.size cs T := by
  unfold Has; show (w.heap.push _)[w.heap.size]? = _; simp
theorem Has.set {w : World} {b : Nat} {cs : List Value} {T : TypeId} (h : Has w b cs T) (o : Nat) (v : Value) : Has (w.setCell ⟨b, o, none⟩ v) b (cs.set o v) T := by
  unfold Has at *; simp only [World.setCell, Array.getElem?_modify]; rw [h]; simp
theorem Has.set' {w : World} {b : Nat} {cs cs' : List Value} {T : TypeId} {o : Nat} {v : Value} (h : Has w b cs T) (e : cs.set o v = cs') : Has (w.setCell ⟨b, o, none⟩ v) b cs' T := e ▸ h.set o v
theorem Has.other {w : World} {b : Nat} {cs : List Value} {T : TypeId} (h : Has w b cs T) {p : Addr} (hp : b ≠ p.block) (v : Value) : Has (w.setCell p v) b cs T := by
  unfold Has at *; rw [Below.heap_setCell _ _ _ _ hp]; exact h

/-- A slice of the call's own, kept where its row's block does not turn. -/
theorem own_keep {S : Nat → Prop} {w w' : World} {base : Nat} {e : TypeId} {size : Nat} {v : Value} {n : Nat} {xs : List Value} (h : w.ownsRow base e size v n xs) (m : Mod S w w')
    (hs : ∀ k, base ≤ k → v.ownBlock = some k → ¬ S k) : w'.ownsRow base e size v n xs := by
  obtain ⟨h1, h2⟩ := h
  refine ⟨h1, ?_⟩
  rcases h2 with h2 | ⟨g, cap, cur, hv, hg, hh, r⟩
  · exact Or.inl h2
  · have hlt : g < w.heap.size := Has.lt (w := w) (cs := cur.toList) (T := e) hh
    exact Or.inr ⟨g, cap, cur, hv, hg, by rw [m.block g hlt (hs g hg (by rw [hv]; rfl))]; exact hh, r⟩
theorem own_base {w : World} {base base' : Nat} {e : TypeId} {size : Nat} {v : Value} {n : Nat} {xs : List Value} (h : w.ownsRow base e size v n xs) (hb : base' ≤ base) : w.ownsRow base' e size v n xs := by
  obtain ⟨h1, h2⟩ := h
  refine ⟨h1, ?_⟩
  rcases h2 with h2 | ⟨g, cap, cur, hv, hg, r⟩
  · exact Or.inl h2
  · exact Or.inr ⟨g, cap, cur, hv, Nat.le_trans hb hg, r⟩
theorem Mod.grown {S : Nat → Prop} {a w w' : World} {row : Option Nat} (h : Mod S a w) (hg : w.grownBy w' row) (hr : ∀ k, row = some k → k < a.heap.size → S k) : Mod S a w' :=
  ⟨hg.os.trans h.os, hg.tape.trans h.tape, hg.output.trans h.output, Nat.le_trans h.size hg.size, fun k hk hn => by
    rw [hg.block k (Nat.lt_of_lt_of_le hk h.size) (fun e => hn (hr k e.symm hk))]; exact h.block k hk hn⟩
theorem Has.grown {w w' : World} {b : Nat} {cs : List Value} {T : TypeId} {row : Option Nat} (h : Has w b cs T) (hg : w.grownBy w' row) (hr : row ≠ some b) : Has w' b cs T :=
  (hg.block b h.lt (fun e => hr e.symm)).trans h

/-- t is a slice type with elements e, of so many cells, so many bytes each -/
def SliceT (P : Program) (t e size bytes : Nat) : Prop :=
  P.underlying t = some (.slice e) ∧ 0 < size ∧ ∃ i z, P.info? e = some i ∧ i.zero = some z ∧ i.size = size ∧ i.bytes = bytes ∧ z.cells.size = size

/-- append of some elements that lie in a row: the row may be the old one, or a new one -/
theorem app {P : Program} {w : World} {ops : Array Oper} {rest : List Oper} {o : Oper} {a : Act} {Q : Exit → Act → World → Prop} (s x : Operand) {t e size bytes : Nat} (T : SliceT P t e size bytes)
    (base : Nat) (v : Value) (n : Nat) (xs : List Value) (hown : w.ownsRow base e size v n xs) (ad : Addr) (m c : Nat) (news : List Value)
    (hgd : o.guard = none) (ho : o.op = .call { callee := .builtin .append, args := #[s, x], argTypes := #[t, t] })
    (hs : a.eval s = v) (hx : a.eval x = .slice (some ad) m c) (hl : news.length = m * size) (hnews : ∀ j u, news[j]? = some u → w.cell? (ad.add j) = some u) (h1 : ∀ u ∈ news, u.oneCell' = true)
    (hb : (n + m) * bytes ≤ 140737488355328) (hm : n + m ≤ maxLen) (hbase : base ≤ w.heap.size)
    (h : ∀ v' w', w'.ownsRow base e size v' (n + m) (xs ++ news) → Mod (fun k => base ≤ k ∧ v.ownBlock = some k) w w' → wpList P ops Q rest (a.put o.dst v') w') : wpList P ops Q (o :: rest) a w := by
  obtain ⟨ht, hsz, i, z, hi, hz, hsize, hby, hzs⟩ := T
  refine wpList_append_own w hgd s x t ho base e i z size bytes ht hi hz hsize hby hzs hsz v n xs hs hown ad m c news hx hl hnews h1 hm hb hbase fun v' w' h2 h3 _ => h v' w' h2 ?_
  exact Mod.grown (Mod.refl _ _) h3 fun k hk _ => ⟨(hown.lt k hk).1, hk⟩

/-- the cells xs stand in memory from A on -/
def Cells (w : World) (A : Option Addr) (xs : List Value) : Prop := xs = [] ∨ ∃ b o, A = some ⟨b, o, none⟩ ∧ ∀ j u, xs[j]? = some u → w.cell? ⟨b, o + j, none⟩ = some u
/-- a slice's address: nil, or into a row -/
def Adr (A : Option Addr) (c : Nat) : Prop := c = 0 ∨ ∃ b o, A = some ⟨b, o, none⟩
theorem Cells.drewN {w : World} {A : Option Addr} {xs : List Value} (h : Cells w A xs) (m : Nat) : Cells (w.drewN m) A xs := h
theorem own_cells {w : World} {base : Nat} {e : TypeId} {size : Nat} {v : Value} {n : Nat} {xs : List Value} (h : w.ownsRow base e size v n xs) : ∃ A cap, v = .slice A n cap ∧ n ≤ cap ∧ Cells w A xs ∧ Adr A cap ∧ cap ≤ maxLen := by
  obtain ⟨h1, ⟨hv, hn⟩ | ⟨g, cap, cur, hv, hg, hh, hc, hm, hs, ht⟩⟩ := h
  · subst hn; simp at h1; exact ⟨none, 0, hv, Nat.le_refl _, .inl h1, .inl rfl, by unfold maxLen; omega⟩
  · have h : w.ownsRow base e size (.slice (some ⟨g, 0, none⟩) n cap) n xs := ⟨h1, .inr ⟨g, cap, cur, rfl, hg, hh, hc, hm, hs, ht⟩⟩
    refine ⟨_, cap, hv, hc, .inr ⟨g, 0, rfl, fun j u hj => ?_⟩, .inr ⟨g, 0, rfl⟩, hm⟩
    have hlt : j < n * size := by
      rcases Nat.lt_or_ge j xs.length with hl | hl
      · omega
      · rw [List.getElem?_eq_none hl] at hj; cases hj
    rw [Nat.zero_add, h.cellAt j hlt, hj]
theorem Cells.keep {S : Nat → Prop} {w w' : World} {A : Option Addr} {xs : List Value} (h : Cells w A xs) (m : Mod S w w') (hs : ∀ a, A = some a → ¬ S a.block) : Cells w' A xs := by
  rcases h with h | ⟨b, o, hA, hc⟩
  · exact .inl h
  · refine .inr ⟨b, o, hA, fun j u hj => ?_⟩
    have := hc j u hj
    rw [m.cell (World.block_lt_of_cell? w _ this) (show ¬ S b from hs _ hA)]; exact this

/-- bytes as cells -/
def bv (l : List UInt8) : List Value := l.map fun c => Value.int .u8 (c.toNat : Int)
theorem bv_length (l : List UInt8) : (bv l).length = l.length := by simp [bv]
theorem bv_append (l m : List UInt8) : bv (l ++ m) = bv l ++ bv m := by simp [bv]
theorem bv_one (l : List UInt8) : ∀ u ∈ bv l, u.oneCell' = true := by
  intro u hu; simp only [bv, List.mem_map] at hu; obtain ⟨c, _, rfl⟩ := hu; rfl
theorem bv_get (l : List UInt8) (k : Nat) (h : k < l.length) : (bv l)[k]? = some (.int .u8 (l[k].toNat : Int)) := by simp [bv, h]
theorem bv_drop (l : List UInt8) (k : Nat) : bv (l.drop k) = (bv l).drop k := by simp [bv]
theorem bv_take (l : List UInt8) (k : Nat) : bv (l.take k) = (bv l).take k := by simp [bv]

theorem app_str {P : Program} {w : World} {ops : Array Oper} {rest : List Oper} {o : Oper} {a : Act} {Q : Exit → Act → World → Prop} (s x : Operand) {t u e : Nat} (T : SliceT P t e 1 1)
    (hz0 : ∀ i z, P.info? e = some i → i.zero = some z → z = .int .u8 0) (hu : P.underlying u = some .string)
    (base : Nat) (v : Value) (n : Nat) (xs : List Value) (hown : w.ownsRow base e 1 v n xs) (str : ByteArray)
    (hgd : o.guard = none) (ho : o.op = .call { callee := .builtin .append, args := #[s, x], argTypes := #[t, u] })
    (hs : a.eval s = v) (hx : a.eval x = .string str)
    (hm : n + str.size ≤ maxLen) (hb : n + str.size ≤ 140737488355328) (hbase : base ≤ w.heap.size)
    (h : ∀ v' w', w'.ownsRow base e 1 v' (n + str.size) (xs ++ bv str.data.toList) → Mod (fun k => base ≤ k ∧ v.ownBlock = some k) w w' → wpList P ops Q rest (a.put o.dst v') w') : wpList P ops Q (o :: rest) a w := by
  obtain ⟨ht, hsz, i, z, hi, hz, hsize, hby, hzs⟩ := T
  refine Lib.wpList_append_own_string w hgd s x t u ho base e i ht hu hi (by rw [hz, hz0 i z hi hz]) hsize hby v n xs hs hown str hx hm hb hbase fun v' w' h2 h3 _ => h v' w' h2 ?_
  exact Mod.grown (Mod.refl _ _) h3 fun k hk _ => ⟨(hown.lt k hk).1, hk⟩

/-- string(bytes) -/
theorem run_bytes {P : Program} {w : World} {A : Option Addr} {l : List UInt8} (c : Nat) (h : Cells w A (bv l)) (src dst e : TypeId) (hs : P.underlying src = some (.slice e)) (he : P.underlying e = some (.int .u8)) (hd : P.underlying dst = some .string) :
    (convert src dst (.slice A l.length c)).run P w = .ok (.string ⟨l.toArray⟩) w := by
  have hstr : strOfNums (l.map fun b => (b.toNat : Int)) = ⟨l.toArray⟩ := by
    unfold strOfNums
    simp only [List.map_map]
    congr 1
    congr 1
    conv => rhs; rw [← List.map_id l]
    apply List.map_congr_left
    intro b _
    simp
  rcases h with h | ⟨b, o, rfl, hc⟩
  · have : l = [] := by cases l; rfl; simp [bv] at h
    subst this
    cases A with
    | none => exact run_convert_bytes_nil w src e hs he _ _ dst hd
    | some a =>
      have hl : (loadCells a 0).run P w = .ok (([] : List Int).map (Value.int .u8)).toArray w := rfl
      rw [run_convert_bytes_string w src dst e _ _ c hs he hd]
      show (Conv.bytesToString (.slice (some a) 0 c)).run P w = _
      rw [run_bytesToString w _ 0 c [] hl, foldl_push_bytes]
      simp [ByteArray.empty, ByteArray.emptyWithCapacity]
      rfl
  · have := run_convert_bytes_arg w src e hs he b o l.length c (l.map fun b => (b.toNat : Int)) (by simp) (fun i hi => by
      rw [hc i _ (bv_get l i hi)]; simp [hi]) dst hd
    rw [this, hstr]

theorem cell_new_old (w : World) (o : Obj) (p : Addr) (h : p.block < w.heap.size) : (w.alloc o).cell? p = w.cell? p := World.cell?_of_block (w := w) (Below.heap_alloc w o _ h)

/-- '==' of texts, as the walk spells it -/
theorem str_eq {l m : List UInt8} (h : l = m) : ((⟨l.toArray⟩ : ByteArray).toList == (⟨m.toArray⟩ : ByteArray).toList) = true := (Lib.bytes_beq_iff _ _).2 (by rw [h])
theorem str_ne {l m : List UInt8} (h : l ≠ m) : ((⟨l.toArray⟩ : ByteArray).toList == (⟨m.toArray⟩ : ByteArray).toList) = false := (Lib.bytes_beq_false_iff _ _).2 (by intro h2; exact h (by simpa using h2))

/-- x[p : p + q] of a slice -/
theorem run_slice2 {P : Program} (w : World) (t e : TypeId) (b o n c p q : Nat) (ht : P.underlying t = some (.slice e)) (he : (P.info? e).map (·.size) = some 1) (h : p + q ≤ c) (hp : p < c) :
    (Instr.slice t (.slice (some ⟨b, o, none⟩) n c) (some (.int .i64 p)) (some (.int .i64 ((p : Int) + (q : Int)))) none).run P w = .ok (.slice (some ⟨b, o + p, none⟩) q (c - p)) w := by
  have e1 : ((p : Int) + (q : Int)).toNat = p + q := by omega
  have e2 : ¬ c = p := by omega
  obtain ⟨i, hi, hs⟩ : ∃ i, P.info? e = some i ∧ i.size = 1 := by
    cases h : P.info? e with
    | none => rw [h] at he; cases he
    | some i => rw [h] at he; exact ⟨i, rfl, by simpa using he⟩
  have hso : (sizeOf e).run P w = .ok 1 w := by simp [sizeOf, typeInfo, hi, hs]
  have e3 : (⟨b, o, none⟩ : Addr).add p = ⟨b, o + p, none⟩ := by unfold Addr.add; split <;> simp_all
  simp only [Instr.slice, Instr.sliceBounds, Instr.sliceBound]
  simp [run_underlying ht, asIntOf]
  rw [if_pos (by omega), if_pos (by omega), hso]
  simp only [Result.andThen, if_neg e2, Nat.mul_one, e3, e1]
  rw [Nat.add_sub_cancel_left]

/-- x[p : p + q] of any slice of bytes: where it lies, what it holds -/
theorem slice_any {P : Program} {w : World} {A : Option Addr} {c : Nat} {l : List UInt8} (t e p q : Nat) (hA : Cells w A (bv l)) (hadr : Adr A c) (ht : P.underlying t = some (.slice e)) (he : (P.info? e).map (·.size) = some 1)
    (h : p + q ≤ l.length) (hl : l.length ≤ c) :
    ∃ A', (∀ w', (Instr.slice t (.slice A l.length c) (some (.int .i64 p)) (some (.int .i64 ((p : Int) + (q : Int)))) none).run P w' = .ok (.slice A' q (c - p)) w') ∧ Adr A' (c - p) ∧ Cells w A' (bv ((l.drop p).take q)) := by
  by_cases hp : p < c
  · obtain hc | ⟨b, o, rfl⟩ := hadr
    · omega
    refine ⟨_, fun w' => run_slice2 w' t e b o l.length c p q ht he (by omega) hp, .inr ⟨_, _, rfl⟩, ?_⟩
    rcases hA with hA | ⟨b', o', hb, hcell⟩
    · have : l = [] := by cases l; rfl; simp [bv] at hA
      subst this
      exact .inl (by simp [bv])
    · obtain ⟨rfl, rfl⟩ : b = b' ∧ o = o' := by simpa using hb
      refine .inr ⟨_, _, rfl, fun j u hj => ?_⟩
      rw [bv_take, List.getElem?_take] at hj
      split at hj
      · rw [bv_drop, List.getElem?_drop] at hj
        rw [Nat.add_assoc]; exact hcell _ u hj
      · cases hj
  · obtain rfl : q = 0 := by omega
    obtain rfl : p = c := by omega
    obtain ⟨i, hi, hs⟩ : ∃ i, P.info? e = some i ∧ i.size = 1 := by
      cases h : P.info? e with
      | none => rw [h] at he; cases he
      | some i => rw [h] at he; exact ⟨i, rfl, by simpa using he⟩
    refine ⟨A, fun w' => ?_, ?_, .inl (by simp [bv])⟩
    · have hso : (sizeOf e).run P w' = .ok 1 w' := by simp [sizeOf, typeInfo, hi, hs]
      simp only [Instr.slice, Instr.sliceBounds, Instr.sliceBound]
      simp [run_underlying ht, asIntOf, hso, Result.andThen]
    · exact .inl (Nat.sub_self _)

/-- the cells of a one-element row that was just made -/
theorem one_new (w : World) (u : Value) (e : TypeId) : ∀ j x, [u][j]? = some x → (w.alloc (.cells #[u] e)).cell? ((⟨w.heap.size, 0, none⟩ : Addr).add j) = some x := by
  intro j x hj
  cases j with
  | zero => simp at hj; subst hj; exact (Has.new w [u] e).cell rfl
  | succ j => simp at hj

end K
end Go.Proofs.YtpoljpjcmigobaaDoor
/- More words of this proof's own: rows that were just made. -/
namespace Go.Proofs.YtpoljpjcmigobaaDoor
set_option linter.unusedVariables false
set_option linter.unusedSimpArgs false
open Go.RowKit
namespace K

theorem size_alloc (w : World) (o : Obj) : (w.alloc o).heap.size = w.heap.size + 1 := by simp
theorem lit_cells (w : World) (cs : List Value) (T : TypeId) : Cells (w.alloc (.cells cs.toArray T)) (some ⟨w.heap.size, 0, none⟩) cs :=
  .inr ⟨_, 0, rfl, fun j u hj => by rw [Nat.zero_add]; exact (Has.new w cs T).cell hj⟩
theorem lit_cells_fr (w : World) (cs : List Value) (T : TypeId) (fr : Nat × Nat) : Cells (w.alloc (.cells cs.toArray T fr)) (some ⟨w.heap.size, 0, none⟩) cs :=
  .inr ⟨_, 0, rfl, fun j u hj => by
    rw [Nat.zero_add]
    have h : (w.alloc (.cells cs.toArray T fr)).heap[w.heap.size]? = some (.cells cs.toArray T fr) := by show (w.heap.push _)[w.heap.size]? = _; simp
    simp only [World.cell?]; rw [h]; simpa using hj⟩
theorem Cells.alloc {w : World} {A : Option Addr} {xs : List Value} (h : Cells w A xs) (o : Obj) : Cells (w.alloc o) A xs :=
  Cells.keep (S := fun _ => False) h (Mod.alloc (Mod.refl _ _) o) (fun _ _ h => h)
theorem Cells.drew {w : World} {A : Option Addr} {xs : List Value} (h : Cells w A xs) : Cells w.drew A xs := h

theorem cells_nil {w : World} {A : Option Addr} {l : List UInt8} (h : Cells w A (bv l)) : A = none → l = [] := by
  rintro rfl
  rcases h with h | ⟨b, o, h, -⟩
  · cases l
    · rfl
    · simp [bv] at h
  · cases h
/-- a slice of bytes that came in -/
structure BytesIn (w : World) (A : Option Addr) (c : Nat) (l : List UInt8) : Prop where
  cells : Cells w A (bv l)
  adr : Adr A c
  cap : l.length ≤ c
  max : c ≤ maxLen
  size : l.length ≤ 140737488351232
  nil : A = none → l = []

end K
end Go.Proofs.YtpoljpjcmigobaaDoor
/- x[:k] of a slice, and x[k:], where it has room. -/
namespace Go.Proofs.YtpoljpjcmigobaaDoor
set_option linter.unusedVariables false
set_option linter.unusedSimpArgs false
open Go
namespace K

/-- x[:k] within the room; the cells may lie beyond the length -/
theorem slice_to {P : Program} (t e k n c : Nat) (A : Option Addr) (ht : P.underlying t = some (.slice e)) (he : (P.info? e).map (·.size) = some 1) (hadr : Adr A c) (h : k ≤ c) (hc : 0 < c) :
    ∀ w', (Instr.slice t (.slice A n c) none (some (.int .i64 k)) none).run P w' = .ok (.slice A k c) w' := by
  obtain hc' | ⟨b, o, rfl⟩ := hadr
  · omega
  intro w'
  obtain ⟨i, hi, hs⟩ : ∃ i, P.info? e = some i ∧ i.size = 1 := by
    cases h : P.info? e with
    | none => rw [h] at he; cases he
    | some i => rw [h] at he; exact ⟨i, rfl, by simpa using he⟩
  have hso : (sizeOf e).run P w' = .ok 1 w' := by simp [sizeOf, typeInfo, hi, hs]
  have e3 : (⟨b, o, none⟩ : Addr).add 0 = ⟨b, o, none⟩ := by unfold Addr.add; split <;> simp_all
  simp only [Instr.slice, Instr.sliceBounds, Instr.sliceBound]
  simp [run_underlying ht, asIntOf]
  rw [if_pos (by omega), hso]
  simp only [Result.andThen, if_neg (show ¬ c = 0 by omega), e3]

theorem Cells.take {w : World} {A : Option Addr} {l : List UInt8} (k : Nat) (h : Cells w A (bv l)) : Cells w A (bv (l.take k)) := by
  rcases h with h | ⟨b, o, rfl, h⟩
  · have : l = [] := by cases l; rfl; simp [bv] at h
    subst this; exact .inl (by simp [bv])
  · refine .inr ⟨b, o, rfl, fun j u hj => h j u ?_⟩
    rw [bv_take, List.getElem?_take] at hj
    split at hj
    · exact hj
    · cases hj
end K
end Go.Proofs.YtpoljpjcmigobaaDoor
/- []byte(text), and append onto a row that is known by its cells. -/
namespace Go.Proofs.YtpoljpjcmigobaaDoor
set_option linter.unusedVariables false
set_option linter.unusedSimpArgs false
open Go.RowKit
namespace K

theorem Mod.setCells {S : Nat → Prop} {a : World} {b : Nat} (hp : S b ∨ a.heap.size ≤ b) : ∀ (vs : List Value) (o : Nat) {w : World}, Mod S a w → Mod S a (w.setCells b o vs)
  | [], _, _, h => h
  | v :: r, o, _, h => Mod.setCells hp r (o + 1) (h.setCell (p := ⟨b, o, none⟩) hp v)

/-- the room behind the length may be written -/
def Room (w : World) (b o n c : Nat) : Prop := ∀ j, n ≤ j → j < c → (w.cell? ⟨b, o + j, none⟩).isSome = true ∧ w.frozen? ⟨b, o + j, none⟩ = false

theorem bytesWorld_mod {S : Nat → Prop} {a w : World} (h : Mod S a w) (e : TypeId) (s : ByteArray) : Mod S a (Lib.bytesWorld w e s) :=
  ⟨h.os, h.tape, h.output, by rw [Lib.bytesWorld_size]; exact Nat.le_succ_of_le h.size, fun k hk hs => by
    rw [Lib.bytesWorld_at_old _ _ _ _ (Nat.lt_of_lt_of_le hk h.size)]; exact h.block k hk hs⟩

theorem bytesWorld_cells (w : World) (e : TypeId) (s : ByteArray) : Cells (Lib.bytesWorld w e s) (some ⟨w.heap.size, 0, none⟩) (bv s.data.toList) :=
  .inr ⟨_, 0, rfl, fun j u hj => by
    have hl : j < s.data.toList.length := by
      have := (List.getElem?_eq_some_iff.1 hj).1
      rwa [bv_length] at this
    rw [Nat.zero_add, Lib.bytesWorld_cell w e s j (by simpa using hl)]
    rw [bv_get _ _ hl] at hj
    rw [← Option.some.inj hj]
    have hl2 : j < s.data.size := by simpa using hl
    simp [List.getD, Array.getElem?_eq_getElem hl2]⟩

theorem bytesWorld_room (w : World) (e : TypeId) (s : ByteArray) : Room (Lib.bytesWorld w e s) w.heap.size 0 s.size (grownCap w s.size 0 e) := by
  intro j h1 h2
  have hs : (Lib.bytesCells w e s).size = grownCap w s.size 0 e := by
    simp [Lib.bytesCells]
    have : s.data.size = s.size := rfl
    omega
  refine ⟨?_, ?_⟩
  · rw [Nat.zero_add]
    simp only [World.cell?]
    rw [Lib.bytesWorld_at_new]
    simp [hs, h2]
  · simp only [World.frozen?]
    rw [Lib.bytesWorld_at_new, hs]
    simp; omega

/-- append(v, x...): v lies in a row of this call's -/
theorem app_room {P : Program} {w : World} {ops : Array Oper} {rest : List Oper} {o : Oper} {a : Act} {Q : Exit → Act → World → Prop} (s x : Operand) {t e : Nat} (T : SliceT P t e 1 1)
    (g n c : Nat) (l m : List UInt8) (B : Option Addr) (mb cb : Nat) (hn : l.length = n) (hmb : m.length = mb) (hl : Cells w (some ⟨g, 0, none⟩) (bv l)) (hroom : Room w g 0 n c) (hg : g < w.heap.size) (hB : Cells w B (bv m)) (hBn : B = none → mb = 0) 
    (hcm : c ≤ maxLen)
    (hgd : o.guard = none) (ho : o.op = .call { callee := .builtin .append, args := #[s, x], argTypes := #[t, t] })
    (hs : a.eval s = .slice (some ⟨g, 0, none⟩) n c) (hx : a.eval x = .slice B mb cb) (hncap : n ≤ c)
    (hb : n + mb ≤ 140737488355328)
    (h : ∀ A' c' w', Cells w' A' (bv (l ++ m)) → Adr A' c' → n + mb ≤ c' → c' ≤ maxLen → Mod (fun k => k = g) w w' → wpList P ops Q rest (a.put o.dst (.slice A' (n + mb) c')) w') : wpList P ops Q (o :: rest) a w := by
  obtain ⟨ht, hsz, i, z, hi, hz, hsize, hby, hzs⟩ := T
  have hlc : ∀ j u, (bv l)[j]? = some u → w.cell? ⟨g, 0 + j, none⟩ = some u := by
    rcases hl with hl | ⟨b, o, hA, hc⟩
    · intro j u hj; rw [hl] at hj; simp at hj
    · simp at hA; obtain ⟨rfl, rfl⟩ := hA; exact hc
  cases B with
  | none =>
    obtain rfl := hBn rfl
    have hm : m = [] := List.eq_nil_of_length_eq_zero hmb
    subst hm
    refine wpList_plain hgd fun K hK => ?_
    have hrun : (Builtin.append_ #[t, t] o.type #[.slice (some ⟨g, 0, none⟩) n c, .slice none 0 cb]).run P w = .ok (.slice (some ⟨g, 0, none⟩) n c) w := by
      simp [Builtin.append_, run_underlying ht, sizeOf, typeInfo, hi, Builtin.lenOf, Builtin.firstCells, hncap, storeCells]
    unfold Oper.wp
    simp [execOp, ho, resolve, invoke, builtin, hs, hx, hrun, Result.andThen]
    refine hK _ _ (h (some ⟨g, 0, none⟩) c w (by simpa using hl) (.inr ⟨_, _, rfl⟩) hncap hcm (Mod.refl _ _))
  | some ad =>
    have hBc : ∀ j u, (bv m)[j]? = some u → w.cell? (ad.add j) = some u := by
      rcases hB with hB | ⟨b, o, hA, hc⟩
      · intro j u hj; rw [hB] at hj; simp at hj
      · obtain rfl := Option.some.inj hA
        intro j u hj; rw [Addr.add_lit]; exact hc j u hj
    refine wpList_append_arg w hgd s x t ho e i z 1 1 ht hi hz hsize hby hzs (by decide) g 0 n c (bv l) hs (by rw [bv_length]; omega) hlc ad mb cb (bv m) hx (by rw [bv_length]; omega) hBc (bv_one m)
      (fun hr j hj => by
        rw [bv_length] at hj
        have := hroom (n + j) (by omega) (by omega)
        rwa [show 0 + n * 1 + j = 0 + (n + j) by omega]) (by unfold maxLen; omega) (by omega) ?_ ?_
    · intro hr
      have hMod : Mod (fun k => k = g) w (w.setCells g (0 + n * 1) (bv m)) := Mod.setCells (S := fun k => k = g) (b := g) (.inl rfl) _ _ (Mod.refl _ _)
      refine h _ c _ (.inr ⟨g, 0, rfl, fun j u hj => ?_⟩) (.inr ⟨_, _, rfl⟩) hr hcm hMod
      rw [bv_append, List.getElem?_append] at hj
      split at hj
      · rename_i hjl
        rw [World.cell?_setCells_out g _ _ _ _ (fun _ _ => .inl (by rw [bv_length] at hjl; show 0 + j < 0 + n * 1; omega))]
        exact hlc j u hj
      · rename_i hjl
        rw [bv_length] at hjl hj
        have hjm : j - l.length < (bv m).length := (List.getElem?_eq_some_iff.1 hj).1
        have := World.cell?_setCells_in g (bv m) (0 + n * 1) w (fun k hk => by
          rw [bv_length] at hk
          have := (hroom (n + k) (by omega) (by omega)).1
          rwa [show 0 + n * 1 + k = 0 + (n + k) by omega]) (j - l.length) hjm
        rw [show 0 + n * 1 + (j - l.length) = 0 + j by omega] at this
        rw [this, ← hj, List.getElem?_eq_getElem hjm]
    · intro hr v' w' hown hgrow
      obtain ⟨A', c', rfl, h1, h2, h3, h4⟩ := own_cells hown
      rw [← bv_append] at h2
      exact h A' c' w' h2 h3 h1 h4 (Mod.grown (Mod.refl _ _) hgrow (fun k hk => by cases hk))
end K
end Go.Proofs.YtpoljpjcmigobaaDoor
/- A drawn region whose operations read what stays, or go on into newer worlds: what reads may be run first, whatever the order. -/
namespace Go.Proofs.YtpoljpjcmigobaaDoor
set_option linter.unusedVariables false
set_option linter.unusedSimpArgs false
open Go
namespace K

section
variable {P : Program} {ops : Array Oper} {Q : Exit → Act → World → Prop} {md : Region.Mode} {R : World → World → Prop}

/-- The operation reads the same, at a later frame. -/
def Same (ops : Array Oper) (o : Oper) (a a' : Act) : Prop := execOp a'.eval o = execOp a.eval o ∧ Region.wanted o (yielded ops a'.tmps) = Region.wanted o (yielded ops a.tmps)

/-- The operation gives v in this world and in every later one. -/
def RYields (R : World → World → Prop) (P : Program) (ops : Array Oper) (o : Oper) (v : Value) (a : Act) (w : World) : Prop :=
  (Region.wanted o (yielded ops a.tmps) = true ∧ ∀ w', R w w' → (execOp a.eval o).run P w' = .ok (.value v) w') ∨
  (Region.wanted o (yielded ops a.tmps) = false ∧ v = undef)

theorem RYields.wpOp {i : Nat} {o : Oper} {v : Value} {a : Act} {w : World} (hrefl : R w w) (hi : ops[i]? = some o) (hy : RYields R P ops o v a w)
    {K : Act → World → Prop} (h : K (a.put o.dst v) w) : wpOp P ops Q i K a w := by
  unfold Go.wpOp
  simp only [hi]
  rcases hy with ⟨hw, hv⟩ | ⟨hw, rfl⟩
  · simp only [hw, if_true, Oper.wp, hv w hrefl, Oper.upon]; exact .inl h
  · simp only [hw, Bool.false_eq_true, if_false]; exact h

theorem RYields.of_same {o : Oper} {v : Value} {a a' : Act} {w w' : World} (tr : ∀ x y z, R x y → R y z → R x z) (hy : RYields R P ops o v a w) (hs : Same ops o a a') (hw : R w w') : RYields R P ops o v a' w' := by
  unfold RYields at *
  rw [hs.1, hs.2]
  rcases hy with ⟨h1, h2⟩ | h
  · exact .inl ⟨h1, fun w'' h => h2 w'' (tr _ _ _ hw h)⟩
  · exact .inr h

theorem wpOp_put' {j : Nat} {oi oj : Oper} {v : Value} (hj : ops[j]? = some oj) (hap : oi.apart ops oj = true)
    (hsi : ∀ cs b, oi.op ≠ .select cs b) (hsj : ∀ cs b, oj.op ≠ .select cs b)
    (hQ : ∀ c a w, Q (.panic c) (a.put oi.dst v) w → Q (.panic c) a w) {K : Act → World → Prop} {a : Act} {w : World}
    (h : wpOp P ops Q j K (a.put oi.dst v) w) :
    wpOp P ops Q j (fun a' w' => Same ops oi a a' ∧ K (a'.put oi.dst v) w') a w := by
  obtain ⟨h1, h2, h3⟩ := Oper.apart_spec hap
  have keep : ∀ (a1 : Act), Same ops oi a a1 → ∀ u, Same ops oi a (a1.put oj.dst u) := fun a1 hy u =>
    ⟨(execOp_put oi hsi a1 oj.dst u h3).trans hy.1, (wanted_put oi a1 oj.dst u h3).trans hy.2⟩
  have rfl0 : Same ops oi a a := ⟨rfl, rfl⟩
  have keepD : ∀ d, Same ops oi a { a with defers := d :: a.defers } := fun d => ⟨rfl, rfl⟩
  unfold wpOp at *
  simp only [hj] at *
  rw [wanted_put oj a oi.dst v h1] at h
  split
  · rename_i hw
    simp only [hw, if_true] at h
    rcases h with h | ⟨hasks, hlets⟩
    case inr => exact .inr ⟨by unfold Oper.asks at *; rw [execOp_put oj hsj a oi.dst v h1] at hasks; exact hasks, hlets⟩
    refine .inl ?_
    unfold Oper.wp at *
    rw [execOp_put oj hsj a oi.dst v h1] at h
    generalize (execOp a.eval oj).run P w = r at *
    cases r with
    | ok n w' =>
      cases n <;> simp only [Oper.upon] at h ⊢
      case value u => exact ⟨keep a rfl0 u, by rw [← Act.put_comm a v u h2]; exact h⟩
      case skip => exact ⟨keep a rfl0 _, by rw [← Act.put_comm a v undef h2]; exact h⟩
      case defer d =>
        refine ⟨keep _ (keepD d) _, ?_⟩
        rw [← Act.put_comm _ v undef h2, ← Act.put_defers]
        exact h
      case enter f args =>
        refine Calls.mono h fun e w'' he => ?_
        cases e with
        | returned u => exact ⟨keep a rfl0 u, by rw [← Act.put_comm a v u h2]; exact he⟩
        | panicked c => exact hQ _ _ _ he
        | outgrown => exact he
      case row row args => exact Rows.mono h fun u w'' he => ⟨keep a rfl0 u, by rw [← Act.put_comm a v u h2]; exact he⟩
    | halt x w' =>
      cases x <;> simp only [Oper.upon] at h ⊢
      case panic u => exact hQ _ _ _ h
  · rename_i hw
    simp only [hw] at h
    exact ⟨keep a rfl0 _, by rw [← Act.put_comm a v undef h2]; exact h⟩

/-- Is the operation before or behind each other one, by an edge? -/
def pivot (md : Region.Mode) (ops : Array Oper) (j : Nat) : Bool :=
  (List.range ops.size).all fun i => i == j || (match ops[j]? with | some o => o.after.any fun e => Region.binds md e && e.on == i | none => false) ||
    (match ops[i]? with | some o => o.after.any fun e => Region.binds md e && e.on == j | none => false)

/-- As 'wpAny', each step leading into a later world, or being comparable with all. -/
def wpAnyM (R : World → World → Prop) (P : Program) (md : Region.Mode) (ops : Array Oper) (Q : Exit → Act → World → Prop) : Nat → Array Bool → Act → World → Prop
  | 0, listed, a, w => Region.ready md ops listed = [] ∧ Q .normal a w
  | fuel + 1, listed, a, w =>
    (Region.ready md ops listed = [] → Q .normal a w) ∧
    ∀ i ∈ Region.ready md ops listed, wpOp P ops Q i (fun a' w' => (R w w' ∨ pivot md ops i = true) ∧ wpAnyM R P md ops Q fuel (listed.setIfInBounds i true) a' w') a w

theorem wpAny_of_M : ∀ (fuel : Nat) (listed : Array Bool) (a : Act) (w : World), wpAnyM R P md ops Q fuel listed a w → wpAny P md ops Q fuel listed a w
  | 0, _, _, _, h => h
  | fuel + 1, _, _, _, h => ⟨h.1, fun i hi => wpOp_mono (fun a' w' h' => wpAny_of_M fuel _ a' w' h'.2) (h.2 i hi)⟩

theorem ready_not_wait {listed : Array Bool} {i : Nat} (hr : i ∈ Region.ready md ops listed) {o : Oper} {j : Nat} (hj : j ∈ Region.ready md ops listed) (ho : ops[j]? = some o) :
    (o.after.any fun e => Region.binds md e && e.on == i) = false := by
  obtain ⟨_, oj, hoj, hall⟩ := mem_ready.1 hj
  obtain rfl := Option.some.inj (hoj.symm.trans ho)
  have h0 := (mem_ready.1 hr).1
  cases h : (oj.after.any fun e => Region.binds md e && e.on == i) with
  | false => rfl
  | true =>
    obtain ⟨e, he, hb⟩ := Array.any_eq_true'.1 h
    simp only [Bool.and_eq_true, beq_iff_eq] at hb
    have h1 := hall e he hb.1
    rw [hb.2] at h1
    rcases Nat.lt_or_ge i listed.size with h' | h'
    · simp [h'] at h0 h1; rw [h0] at h1; cases h1
    · simp [Array.getElem?_eq_none h'] at h1

theorem not_pivot {listed : Array Bool} {i j : Nat} (hi : i ∈ Region.ready md ops listed) (hj : j ∈ Region.ready md ops listed) (hne : j ≠ i) : pivot md ops j = false := by
  cases h : pivot md ops j with
  | false => rfl
  | true =>
    obtain ⟨_, oi, hoi, _⟩ := mem_ready.1 hi
    obtain ⟨_, oj, hoj, _⟩ := mem_ready.1 hj
    have h1 := List.all_eq_true.1 h i (List.mem_range.2 (Array.getElem?_eq_some_iff.1 hoi).1)
    rw [hoi, hoj] at h1
    simp only [Bool.or_eq_true, beq_iff_eq] at h1
    rcases h1 with (h1 | h1) | h1
    · exact absurd h1.symm hne
    · rw [ready_not_wait hi hj hoj] at h1; cases h1
    · rw [ready_not_wait hj hi hoi] at h1; cases h1

theorem wpAnyM_first (tr : ∀ x y z, R x y → R y z → R x z) (refl : ∀ x, R x x) {i : Nat} {oi : Oper} {v : Value} (hi : ops[i]? = some oi) (hsel : ∀ (j : Nat) (o : Oper) cs b, ops[j]? = some o → o.op ≠ .select cs b)
    (hQ : ∀ c a w, Q (.panic c) (a.put oi.dst v) w → Q (.panic c) a w) :
    ∀ (fuel : Nat) (listed : Array Bool) (a : Act) (w : World),
      (∀ j oj, ops[j]? = some oj → j ≠ i → listed.getD j true = false → (∀ e ∈ oj.after, Region.binds md e = true → e.on ≠ i) → oi.apart ops oj = true) →
      i ∈ Region.ready md ops listed → RYields R P ops oi v a w →
      wpAnyM R P md ops Q fuel (listed.setIfInBounds i true) (a.put oi.dst v) w → wpAnyM R P md ops Q (fuel + 1) listed a w := by
  intro fuel
  induction fuel with
  | zero =>
    intro listed a w _ hr hy H
    refine ⟨fun h => (by rw [h] at hr; cases hr), fun j hj => ?_⟩
    by_cases hji : j = i
    · subst hji; exact hy.wpOp (refl _) hi ⟨.inl (refl _), H⟩
    · have := ready_mono hj hji
      rw [H.1] at this
      cases this
  | succ fuel ih =>
    intro listed a w hfree hr hy H
    refine ⟨fun h => (by rw [h] at hr; cases hr), fun j hj => ?_⟩
    by_cases hji : j = i
    · subst hji; exact hy.wpOp (refl _) hi ⟨.inl (refl _), H⟩
    · have h1 := H.2 j (ready_mono hj hji)
      have hpv := not_pivot hr hj hji
      obtain ⟨hjun, oj, hoj, hall⟩ := mem_ready.1 hj
      have hnot : ∀ e ∈ oj.after, Region.binds md e = true → e.on ≠ i := fun e he hb heq => by
        have h1 := hall e he hb
        have h0 := (mem_ready.1 hr).1
        rw [heq] at h1
        rcases Nat.lt_or_ge i listed.size with h' | h'
        · simp [h'] at h0 h1; rw [h0] at h1; cases h1
        · simp [Array.getElem?_eq_none h'] at h1
      have h2 := wpOp_put' hoj (hfree j oj hoj hji hjun hnot) (fun cs b => hsel i oi cs b hi) (fun cs b => hsel j oj cs b hoj) hQ h1
      have hfree' : ∀ k ok, ops[k]? = some ok → k ≠ i → (listed.setIfInBounds j true).getD k true = false →
          (∀ e ∈ ok.after, Region.binds md e = true → e.on ≠ i) → oi.apart ops ok = true := fun k ok hk hki hun hno => by
        refine hfree k ok hk hki ?_ hno
        by_cases hjk : j = k
        · subst hjk; exact hjun
        · rw [getD_set_ne true hjk] at hun; exact hun
      refine wpOp_mono (fun a' w' h3 => ?_) h2
      obtain ⟨hs, hR, hM⟩ := h3
      have hR : R w w' := by
        rcases hR with h | h
        · exact h
        · rw [hpv] at h; cases h
      refine ⟨.inl hR, ih (listed.setIfInBounds j true) a' w' hfree' (ready_mono hr (Ne.symm hji)) (hy.of_same tr hs hR) ?_⟩
      rw [Array.setIfInBounds_comm _ _ hji]
      exact hM

theorem wpAnyM_take (tr : ∀ x y z, R x y → R y z → R x z) (refl : ∀ x, R x x) (i : Nat) {oi : Oper} {v : Value} {fuel : Nat} {listed : Array Bool} {a : Act} {w : World} (hi : ops[i]? = some oi)
    (hs : Region.noSelect ops = true) (hf : Region.free md ops listed i = true) (hr : (Region.ready md ops listed).contains i = true)
    (hQ : ∀ c a w, Q (.panic c) (a.put oi.dst v) w → Q (.panic c) a w) (hy : RYields R P ops oi v a w)
    (h : wpAnyM R P md ops Q fuel (listed.setIfInBounds i true) (a.put oi.dst v) w) : wpAnyM R P md ops Q (fuel + 1) listed a w :=
  wpAnyM_first tr refl hi (Region.noSelect_spec hs) hQ fuel listed a w (Region.free_spec hi hf) (by simpa using hr) hy h

theorem wpAnyM_step (i : Nat) {fuel : Nat} {listed : Array Bool} {a : Act} {w : World} (hr : Region.ready md ops listed = [i])
    (h : wpOp P ops Q i (fun a' w' => (R w w' ∨ pivot md ops i = true) ∧ wpAnyM R P md ops Q fuel (listed.setIfInBounds i true) a' w') a w) : wpAnyM R P md ops Q (fuel + 1) listed a w :=
  ⟨(fun h0 => by rw [hr] at h0; cases h0), fun j hj => by rw [hr] at hj; obtain rfl := List.mem_singleton.1 hj; exact h⟩

theorem wpAnyM_two (i j : Nat) {fuel : Nat} {listed : Array Bool} {a : Act} {w : World} (hr : Region.ready md ops listed = [i, j])
    (h : wpOp P ops Q i (fun a' w' => (R w w' ∨ pivot md ops i = true) ∧ wpAnyM R P md ops Q fuel (listed.setIfInBounds i true) a' w') a w)
    (h' : wpOp P ops Q j (fun a' w' => (R w w' ∨ pivot md ops j = true) ∧ wpAnyM R P md ops Q fuel (listed.setIfInBounds j true) a' w') a w) : wpAnyM R P md ops Q (fuel + 1) listed a w :=
  ⟨(fun h0 => by rw [hr] at h0; cases h0), fun k hk => by
    rw [hr] at hk
    rcases List.mem_cons.1 hk with rfl | hk
    · exact h
    · obtain rfl := List.mem_singleton.1 hk; exact h'⟩

theorem wpAnyM_done {fuel : Nat} {listed : Array Bool} {a : Act} {w : World} (hr : Region.ready md ops listed = []) (h : Q .normal a w) : wpAnyM R P md ops Q fuel listed a w := by
  cases fuel with
  | zero => exact ⟨hr, h⟩
  | succ _ => exact ⟨fun _ => h, by rw [hr]; simp⟩

end

/-- the relation of this text: nothing that was there has turned -/
abbrev Mod0 : World → World → Prop := Mod (fun _ => False)
theorem mod0_trans : ∀ (x y z : World), Mod0 x y → Mod0 y z → Mod0 x z := fun _ _ _ h k => Mod.trans h k (fun _ _ h => h)

theorem region_m {P : Program} {Q : Exit → Act → World → Prop} {id : Nat} {l : List Oper} {a : Act} {w : World} (hm : P.follows .mixedOrders = true)
    (h : wpAnyM Mod0 P .any l.toArray Q l.length (List.replicate l.length false).toArray a w.drew) : (Code.region id l.toArray true).wp P Q a w := by
  refine wp_region_any hm ?_
  have := wpAny_of_M _ _ _ _ h
  simpa using this

theorem take0 {P : Program} {ops : Array Oper} {Q : Exit → Act → World → Prop} (i : Nat) {oi : Oper} {v : Value} {fuel : Nat} {listed : Array Bool} {a : Act} {w : World} (hi : ops[i]? = some oi)
    (hs : Region.noSelect ops = true) (hf : Region.free .any ops listed i = true) (hr : (Region.ready .any ops listed).contains i = true)
    (hQ : ∀ c a w, Q (.panic c) (a.put oi.dst v) w → Q (.panic c) a w) (hy : RYields Mod0 P ops oi v a w)
    (h : wpAnyM Mod0 P .any ops Q fuel (listed.setIfInBounds i true) (a.put oi.dst v) w) : wpAnyM Mod0 P .any ops Q (fuel + 1) listed a w :=
  wpAnyM_take mod0_trans (fun _ => Mod.refl _ _) i hi hs hf hr hQ hy h

theorem ry_run {P : Program} {ops : Array Oper} {o : Oper} {v : Value} {a : Act} {w : World} (hw : Region.wanted o (yielded ops a.tmps) = true) (h : ∀ w', Mod0 w w' → (execOp a.eval o).run P w' = .ok (.value v) w') : RYields Mod0 P ops o v a w := .inl ⟨hw, h⟩
theorem ry_not {P : Program} {ops : Array Oper} {o : Oper} {a : Act} {w : World} (hw : Region.wanted o (yielded ops a.tmps) = false) : RYields Mod0 P ops o undef a w := .inr ⟨hw, rfl⟩

theorem step0 {P : Program} {ops : Array Oper} {Q : Exit → Act → World → Prop} (i : Nat) {o : Oper} {fuel : Nat} {listed : Array Bool} {a : Act} {w : World} (hr : Region.ready .any ops listed = [i]) (hi : ops[i]? = some o)
    (hw : Region.wanted o (yielded ops a.tmps) = true)
    (h : o.wp P a w (fun a' w' => (Mod0 w w' ∨ pivot .any ops i = true) ∧ wpAnyM Mod0 P .any ops Q fuel (listed.setIfInBounds i true) a' w') Q) : wpAnyM Mod0 P .any ops Q (fuel + 1) listed a w :=
  wpAnyM_step i hr (by unfold wpOp; simp only [hi, hw, if_true]; exact .inl h)


/-! the same, where blocks of S may turn on the way -/
theorem region_mS (S : Nat → Prop) {P : Program} {Q : Exit → Act → World → Prop} {id : Nat} {l : List Oper} {a : Act} {w : World} (hm : P.follows .mixedOrders = true)
    (h : wpAnyM (Mod S) P .any l.toArray Q l.length (List.replicate l.length false).toArray a w.drew) : (Code.region id l.toArray true).wp P Q a w := by
  refine wp_region_any hm ?_
  have := wpAny_of_M _ _ _ _ h
  simpa using this

theorem take0S {S : Nat → Prop} {P : Program} {ops : Array Oper} {Q : Exit → Act → World → Prop} (i : Nat) {oi : Oper} {v : Value} {fuel : Nat} {listed : Array Bool} {a : Act} {w : World} (hi : ops[i]? = some oi)
    (hs : Region.noSelect ops = true) (hf : Region.free .any ops listed i = true) (hr : (Region.ready .any ops listed).contains i = true)
    (hQ : ∀ c a w, Q (.panic c) (a.put oi.dst v) w → Q (.panic c) a w) (hy : RYields (Mod S) P ops oi v a w)
    (h : wpAnyM (Mod S) P .any ops Q fuel (listed.setIfInBounds i true) (a.put oi.dst v) w) : wpAnyM (Mod S) P .any ops Q (fuel + 1) listed a w :=
  wpAnyM_take (R := Mod S) (fun _ _ _ h k => Mod.trans h k (fun _ _ h => h)) (fun _ => Mod.refl S _) i hi hs hf hr hQ hy h

theorem ry_runS {S : Nat → Prop} {P : Program} {ops : Array Oper} {o : Oper} {v : Value} {a : Act} {w : World} (hw : Region.wanted o (yielded ops a.tmps) = true) (h : ∀ w', Mod S w w' → (execOp a.eval o).run P w' = .ok (.value v) w') : RYields (Mod S) P ops o v a w := .inl ⟨hw, h⟩
theorem ry_notS {S : Nat → Prop} {P : Program} {ops : Array Oper} {o : Oper} {a : Act} {w : World} (hw : Region.wanted o (yielded ops a.tmps) = false) : RYields (Mod S) P ops o undef a w := .inr ⟨hw, rfl⟩

theorem step0S {S : Nat → Prop} {P : Program} {ops : Array Oper} {Q : Exit → Act → World → Prop} (i : Nat) {o : Oper} {fuel : Nat} {listed : Array Bool} {a : Act} {w : World} (hr : Region.ready .any ops listed = [i]) (hi : ops[i]? = some o)
    (hw : Region.wanted o (yielded ops a.tmps) = true)
    (h : o.wp P a w (fun a' w' => (Mod S w w' ∨ pivot .any ops i = true) ∧ wpAnyM (Mod S) P .any ops Q fuel (listed.setIfInBounds i true) a' w') Q) : wpAnyM (Mod S) P .any ops Q (fuel + 1) listed a w :=
  wpAnyM_step i hr (by unfold wpOp; simp only [hi, hw, if_true]; exact .inl h)

/-- append, as a step of a drawn region -/
theorem app_step {P : Program} {w : World} {o : Oper} {a : Act} {K : Act → World → Prop} {Q : Exit → Act → World → Prop} (s x : Operand) {t e size bytes : Nat} (T : SliceT P t e size bytes)
    (base : Nat) (v : Value) (n : Nat) (xs : List Value) (hown : w.ownsRow base e size v n xs) (ad : Addr) (m c : Nat) (news : List Value)
    (ho : o.op = .call { callee := .builtin .append, args := #[s, x], argTypes := #[t, t] })
    (hs : a.eval s = v) (hx : a.eval x = .slice (some ad) m c) (hl : news.length = m * size) (hnews : ∀ j u, news[j]? = some u → w.cell? (ad.add j) = some u) (h1 : ∀ u ∈ news, u.oneCell' = true)
    (hb : (n + m) * bytes ≤ 140737488355328) (hm : n + m ≤ maxLen) (hbase : base ≤ w.heap.size)
    (h : ∀ v' w', w'.ownsRow base e size v' (n + m) (xs ++ news) → Mod (fun k => base ≤ k ∧ v.ownBlock = some k) w w' → K (a.put o.dst v') w') : o.wp P a w K Q := by
  obtain ⟨ht, hsz, i, z, hi, hz, hsize, hby, hzs⟩ := T
  refine wp_append_own w s x t ho base e i z size bytes ht hi hz hsize hby hzs hsz v n xs hs hown ad m c news hx hl hnews h1 hm hb hbase fun v' w' h2 h3 _ => h v' w' h2 ?_
  exact Mod.grown (Mod.refl _ _) h3 fun k hk _ => ⟨(hown.lt k hk).1, hk⟩

end K
end Go.Proofs.YtpoljpjcmigobaaDoor
/- More words of this proof's own: append with all that is known of the new row; blocks that are apart by their types. -/
namespace Go.Proofs.YtpoljpjcmigobaaDoor
set_option linter.unusedVariables false
set_option linter.unusedSimpArgs false
open Go.RowKit
namespace K

/-- the row of v' is v's, or a new one -/
def RowOf (w : World) (v v' : Value) : Prop := ∀ k, v'.ownBlock = some k → v.ownBlock = some k ∨ w.heap.size ≤ k
theorem rowOf_same {w : World} {v v' : Value} (h : v'.ownBlock = v.ownBlock) : RowOf w v v' := fun k hk => .inl (h ▸ hk)
theorem rowOf_nil (w : World) (v : Value) : RowOf w v (.slice none 0 0) := fun k hk => by cases hk

theorem run_append_own2 {P : Program} (w : World) (base : Nat) (t ty e : TypeId) (i : TypeInfo) (z : Value) (size bytes : Nat) (ht : P.underlying t = some (.slice e)) (hi : P.info? e = some i) (hz : i.zero = some z)
    (hsize : i.size = size) (hby : i.bytes = bytes) (hzs : z.cells.size = size) (hsz : 0 < size)
    (v : Value) (n : Nat) (xs : List Value) (hown : w.ownsRow base e size v n xs)
    (a : Addr) (m c : Nat) (news : List Value) (hl : news.length = m * size) (hnews : ∀ j u, news[j]? = some u → w.cell? (a.add j) = some u) (h1 : ∀ u ∈ news, u.oneCell' = true)
    (h63 : n + m ≤ maxLen) (hbytes : (n + m) * bytes ≤ 140737488355328) (hbase : base ≤ w.heap.size) :
    ∃ v' w', (Builtin.append_ #[t, t] ty #[v, .slice (some a) m c]).run P w = .ok v' w' ∧ w'.ownsRow base e size v' (n + m) (xs ++ news) ∧ w.grownBy w' v.ownBlock ∧ RowOf w v v' := by
  obtain ⟨v', w', hr, h2, h3, h4⟩ := run_append_own (P := P) w base t ty e i z size bytes ht hi hz hsize hby hzs hsz v n xs hown a m c news hl hnews h1 h63 hbytes hbase
  refine ⟨v', w', hr, h2, h3, ?_⟩
  have hsmall : n + m ≤ 9223372036854775807 := by simp only [maxLen] at h63; omega
  have hown0 := hown
  rcases hown.2 with ⟨rfl, rfl⟩ | ⟨g, cap, cur, rfl, hbg, hg, hnc, hcm, hcs, htake⟩
  · have hx : xs = [] := List.eq_nil_of_length_eq_zero (by simpa using hown.1)
    subst hx
    obtain ⟨v2, w2, hr2, h22, _, _⟩ := run_append_own (P := P) w w.heap.size t ty e i z size bytes ht hi hz hsize hby hzs hsz _ 0 [] (World.ownsRow_nil w w.heap.size e size) a m c news hl hnews h1 h63 hbytes (Nat.le_refl _)
    rw [hr] at hr2
    obtain ⟨rfl, rfl⟩ : v' = v2 ∧ w' = w2 := by simpa using hr2
    exact fun k hb => .inr (h22.lt k hb).1
  · subst hsize
    by_cases hroom : n + m ≤ cap
    · have hfit : n * i.size + news.length ≤ cur.size := by rw [hl, hcs, ← Nat.add_mul]; exact Nat.mul_le_mul_right _ hroom
      have hr2 := run_append_room (P := P) w t ty e i ht hi g n cap cur hg a m c news hl hnews h1 hroom hfit
      rw [hr] at hr2
      obtain ⟨rfl, rfl⟩ := (show v' = _ ∧ w' = _ by simpa using hr2)
      exact rowOf_same rfl
    · have holds : ∀ j u, xs[j]? = some u → w.cell? ((⟨g, 0, none⟩ : Addr).add j) = some u := hown0.cells (g := g) rfl
      have hr2 := run_append_grow (P := P) w t ty e i z ht hi hz ⟨g, 0, none⟩ n cap xs hown.1 holds a m c news hl hnews (by omega) (by omega) (growslice_fits (by omega) (hby ▸ hbytes))
      rw [hr] at hr2
      obtain ⟨rfl, rfl⟩ := (show v' = _ ∧ w' = _ by simpa using hr2)
      exact fun k hk => .inr (by simp [Value.ownBlock] at hk; omega)

/-- append of a slice's elements, nil included: the row is the old one, or a new one -/
theorem appG {P : Program} {w : World} {ops : Array Oper} {rest : List Oper} {o : Oper} {a : Act} {Q : Exit → Act → World → Prop} (s x : Operand) {t e size bytes : Nat} (T : SliceT P t e size bytes)
    (base : Nat) (v : Value) (n : Nat) (xs : List Value) (hown : w.ownsRow base e size v n xs) (A : Option Addr) (m c : Nat) (news : List Value)
    (hgd : o.guard = none) (ho : o.op = .call { callee := .builtin .append, args := #[s, x], argTypes := #[t, t] })
    (hs : a.eval s = v) (hx : a.eval x = .slice A m c) (hl : news.length = m * size) (hA : Cells w A news) (h1 : ∀ u ∈ news, u.oneCell' = true)
    (hb : (n + m) * bytes ≤ 140737488355328) (hm : n + m ≤ maxLen) (hbase : base ≤ w.heap.size)
    (h : ∀ v' w', w'.ownsRow base e size v' (n + m) (xs ++ news) → Mod (fun k => v.ownBlock = some k) w w' → RowOf w v v' → wpList P ops Q rest (a.put o.dst v') w') : wpList P ops Q (o :: rest) a w := by
  obtain ⟨ht, hsz, i, z, hi, hz, hsize, hby, hzs⟩ := T
  cases A with
  | some ad =>
    have hnews : ∀ j u, news[j]? = some u → w.cell? (ad.add j) = some u := by
      rcases hA with hA | ⟨b, o, hA, hc⟩
      · intro j u hj; rw [hA] at hj; simp at hj
      · obtain rfl := Option.some.inj hA
        intro j u hj; rw [Addr.add_lit]; exact hc j u hj
    obtain ⟨v', w', hr, h2, h3, h4⟩ := run_append_own2 (P := P) w base t o.type e i z size bytes ht hi hz hsize hby hzs hsz v n xs hown ad m c news hl hnews h1 hm hb hbase
    refine wpList_plain hgd fun K hK => ?_
    unfold Oper.wp execOp
    simp only [ho, resolve, invoke, builtin, Sem.run_bind, Sem.run_pure, Result.andThen_ok, List.map_toArray, List.map_cons, List.map_nil, hs, hx, hr]
    exact hK _ _ (h v' w' h2 (Mod.grown (Mod.refl _ _) h3 fun k hk _ => hk) h4)
  | none =>
    have hn : news = [] := by
      rcases hA with hA | ⟨b, o, hA, _⟩
      · exact hA
      · cases hA
    subst hn
    have hm0 : m = 0 := by
      rcases Nat.eq_zero_or_pos m with h | h
      · exact h
      · have := Nat.mul_pos h hsz; simp at hl; omega
    subst hm0
    have hrun : (Builtin.append_ #[t, t] o.type #[v, .slice none 0 c]).run P w = .ok v w := by
      rcases hown.2 with ⟨rfl, rfl⟩ | ⟨g, cap, cur, rfl, hbg, hg, hnc, hcm, hcs, htake⟩
      · simp [Builtin.append_, run_underlying ht, sizeOf, typeInfo, hi, Builtin.lenOf, Builtin.firstCells]
      · simp [Builtin.append_, run_underlying ht, sizeOf, typeInfo, hi, Builtin.lenOf, Builtin.firstCells, hnc, storeCells]
    refine wpList_plain hgd fun K hK => ?_
    unfold Oper.wp execOp
    simp only [ho, resolve, invoke, builtin, Sem.run_bind, Sem.run_pure, Result.andThen_ok, List.map_toArray, List.map_cons, List.map_nil, hs, hx, hrun]
    exact hK _ _ (h v w (by simpa using hown) (Mod.refl _ _) (rowOf_same rfl))

theorem cells_lit {w : World} {n : Nat} {cs : List Value} {T : TypeId} (h : w.heap.size = n) : Cells (w.alloc (.cells cs.toArray T)) (some ⟨n, 0, none⟩) cs := h ▸ lit_cells w cs T
theorem own_lit {w : World} {n m : Nat} {cs : List Value} {e : TypeId} {base : Nat} (h : w.heap.size = n) (hb : base ≤ n) (hm : m ≤ maxLen) {size : Nat} (hs : cs.length = m * size) : (w.alloc (.cells cs.toArray e)).ownsRow base e size (.slice (some ⟨n, 0, none⟩) m m) m cs := by
  subst h; exact World.ownsRow_lit w cs.toArray m hb hm (by simpa using hs)
theorem Has.lit {w : World} {n : Nat} {cs : List Value} {T : TypeId} (h : w.heap.size = n) : Has (w.alloc (.cells cs.toArray T)) n cs T := h ▸ Has.new w cs T

theorem own_of_has {w : World} {g m : Nat} {cs : List Value} {e : TypeId} {base : Nat} (h : Has w g cs e) (hb : base ≤ g) (hm : m ≤ maxLen) {size : Nat} (hs : cs.length = m * size) : w.ownsRow base e size (.slice (some ⟨g, 0, none⟩) m m) m cs :=
  ⟨hs, .inr ⟨g, m, cs.toArray, rfl, hb, h, Nat.le_refl _, hm, by simpa using hs, by simpa using List.take_of_length_le (by omega)⟩⟩

theorem has_ne {w : World} {b g : Nat} {cs : List Value} {T U : TypeId} (h : Has w b cs T) (k : ∃ cur fr, w.heap[g]? = some (.cells cur U fr)) (hT : T ≠ U) : g ≠ b := by
  rintro rfl
  obtain ⟨cur, fr, k⟩ := k
  rw [Has, k] at h
  simp at h
  exact hT h.2.1.symm
theorem has_ne2 {w : World} {b g : Nat} {cs ds : List Value} {T U : TypeId} (h : Has w b cs T) (k : Has w g ds U) (hT : T ≠ U) : g ≠ b := has_ne h ⟨_, _, k⟩ hT
theorem own_row {w : World} {base e size n : Nat} {v : Value} {xs : List Value} (h : w.ownsRow base e size v n xs) {k : Nat} (hk : v.ownBlock = some k) : ∃ cur fr, w.heap[k]? = some (.cells cur e fr) := by
  rcases h.2 with ⟨rfl, _⟩ | ⟨g, cap, cur, rfl, hg, hh, _⟩
  · cases hk
  · obtain rfl : g = k := by simpa [Value.ownBlock] using hk
    exact ⟨cur, _, hh⟩

theorem rowOf_later {w w1 : World} {v v' : Value} (h : RowOf w1 v v') (hs : w.heap.size ≤ w1.heap.size) : RowOf w v v' := fun k hk => by
  rcases h k hk with h | h
  · exact .inl h
  · exact .inr (by omega)

theorem row_keep {w w' : World} {S : Nat → Prop} {k T : Nat} (h : ∃ cur fr, w.heap[k]? = some (.cells cur T fr)) (m : Mod S w w') (hs : ¬ S k) : ∃ cur fr, w'.heap[k]? = some (.cells cur T fr) := by
  obtain ⟨cur, fr, hr⟩ := h
  exact ⟨cur, fr, (m.block _ (Array.getElem?_eq_some_iff.1 hr).1 hs).trans hr⟩
theorem str_full (s : ByteArray) (h : 0 < s.size) : s.toList.isEmpty = false := by
  rw [ByteArray.toList_eq]
  cases h' : s.data.toList with
  | nil => have h1 : s.data.toList.length = 0 := by rw [h']; rfl
           have h2 : s.data.toList.length = s.size := by simp
           omega
  | cons _ _ => rfl
theorem str_none (s : ByteArray) (h : s.size = 0) : s = ByteArray.empty := by
  have h2 : s.data.toList.length = 0 := by simpa using h
  have h3 : s.data.toList = [] := List.eq_nil_of_length_eq_zero h2
  cases s with | mk d => cases d with | mk l => simp at h3; subst h3; rfl

/-- []byte(text), which may be written -/
theorem to_bytes (s : ByteArray) (w : World) (hEm : s.size ≤ maxLen) : ∃ c w', (convert 9 111 (.string s)).run Tryd.prog w = .ok (.slice (some ⟨w.heap.size, 0, none⟩) s.size c) w' ∧
    Mod (fun _ => False) w w' ∧ (∀ j u, (bv s.data.toList)[j]? = some u → w'.cell? ⟨w.heap.size, j, none⟩ = some u) ∧ s.size ≤ c ∧ c ≤ maxLen ∧ w.heap.size < w'.heap.size ∧ (∀ j, j < s.size → w'.frozen? ⟨w.heap.size, j, none⟩ = false) ∧ (∃ cur fr, w'.heap[w.heap.size]? = some (.cells cur 5 fr) ∧ fr ≠ (0, 0)) := by
  have h := Lib.run_convert_string_bytes (P := Tryd.prog) w 9 111 5 s Tryd.underlying9 Tryd.underlying111 Tryd.underlying5
  refine ⟨_, _, h, bytesWorld_mod (Mod.refl _ _) _ _, ?_, ?_, ?_, ?_, ?_, ⟨_, _, Lib.bytesWorld_at_new w 5 s, by simp⟩⟩
  · rcases bytesWorld_cells w 5 s with h | ⟨b, o, hA, hc⟩
    · intro j u hj; rw [h] at hj; simp at hj
    · obtain ⟨rfl, rfl⟩ : w.heap.size = b ∧ 0 = o := by simpa using hA
      intro j u hj; have := hc j u hj; rwa [Nat.zero_add] at this
  · exact grownCap_ge w s.size 0 5
  · exact grownCap_le_maxLen w s.size 0 5 hEm
  · rw [Lib.bytesWorld_size]; exact Nat.lt_succ_self _
  · intro j hj
    have hs : (Lib.bytesCells w 5 s).size = grownCap w s.size 0 5 := by
      simp [Lib.bytesCells]
      have h1 : s.data.size = s.size := rfl
      have h2 := grownCap_ge w s.size 0 5
      omega
    have h2 := grownCap_ge w s.size 0 5
    simp only [World.frozen?]
    rw [Lib.bytesWorld_at_new, hs]
    simp; omega


end K
end Go.Proofs.YtpoljpjcmigobaaDoor
