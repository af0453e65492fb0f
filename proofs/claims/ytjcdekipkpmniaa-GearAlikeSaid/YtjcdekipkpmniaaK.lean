/- Words of this proof's own: what a block holds ('Has'), which blocks a call may turn ('Mod'), and a drawn region whose last operations are forced. -/
import Derived.Test.YtjcdekipkpmniaaProg
import Derived.Tactics
import Derived.WalkKit
import Derived.OwnWalk
import Derived.Below
import Derived.Laws.AppendOwn
import Derived.Laws.OwnMore
import Derived.Laws.MakeOwn
import Derived.LoopTactic
import Derived.StillTailTactics
import Derived.BigQuiet
import Derived.Deep.QuietTactic
import Derived.Deep.Draws
import Derived.Lib.Hide
import Derived.Deep.DeepMust
namespace Go.Proofs.Ytjcdekipkpmniaa
open Go.RowKit
namespace K

theorem region_tail {P : Program} {id : Nat} {Q : Exit → Act → World → Prop} {a : Act} {w : World} {l : List Oper} (n : Nat) (hm : P.follows .mixedOrders = true) (hB : Region.lexTailB .any l.toArray n = true)
    (h : wpStill P l.toArray w.drew (fun a' => wpList P l.toArray Q (l.drop n) a' w.drew) (l.take n) a) : (Code.region id l.toArray true).wp P Q a w :=
  wp_region_still_tail n hm hB h

/-- Block b holds the cells cs of type T, and may be written. -/
def Has (w : World) (b : Nat) (cs : List Value) (T : TypeId) : Prop := w.heap[b]? = some (.cells cs.toArray T (0, 0))

/-- Of the blocks that were there only those in S may have turned. -/
structure Mod (S : Nat → Prop) (w w' : World) : Prop where
  os : w'.os = w.os
  tape : w'.tape = w.tape
  output : w'.output = w.output
  size : w.heap.size ≤ w'.heap.size
  block : ∀ k, k < w.heap.size → ¬ S k → w'.heap[k]? = w.heap[k]?

theorem Mod.refl (S : Nat → Prop) (w : World) : Mod S w w := ⟨rfl, rfl, rfl, Nat.le_refl _, fun _ _ _ => rfl⟩
theorem Mod.drew {S : Nat → Prop} {a w : World} (h : Mod S a w) : Mod S a w.drew := ⟨h.os, h.tape, h.output, h.size, h.block⟩
theorem Mod.drewN {S : Nat → Prop} {a w : World} (h : Mod S a w) (n : Nat) : Mod S a (w.drewN n) := ⟨h.os, h.tape, h.output, h.size, h.block⟩
theorem Mod.of_drew {S : Nat → Prop} {a w : World} (h : Mod S a w.drew) : Mod S a w := ⟨h.os, h.tape, h.output, h.size, h.block⟩
theorem Mod.alloc {S : Nat → Prop} {a w : World} (h : Mod S a w) (o : Obj) : Mod S a (w.alloc o) :=
  ⟨h.os, h.tape, h.output, Nat.le_trans h.size (by simp), fun k hk hs => by
    rw [Below.heap_alloc _ _ _ (Nat.lt_of_lt_of_le hk h.size)]; exact h.block k hk hs⟩
theorem Mod.setCell {S : Nat → Prop} {a w : World} (h : Mod S a w) {p : Addr} (hp : S p.block ∨ a.heap.size ≤ p.block) (u : Value) : Mod S a (w.setCell p u) :=
  ⟨h.os, h.tape, h.output, by simp only [World.setCell, Array.size_modify]; exact h.size, fun k hk hs => by
    rw [Below.heap_setCell _ _ _ _ (by rintro rfl; rcases hp with hp | hp; exact hs hp; omega)]; exact h.block k hk hs⟩
/-- a store into a block of S, and into a newer one -/
theorem Mod.set1 {S : Nat → Prop} {a w : World} {b : Nat} (h : Mod S a w) (hp : S b) (o : Nat) (u : Value) : Mod S a (w.setCell ⟨b, o, none⟩ u) := h.setCell (p := ⟨b, o, none⟩) (.inl hp) u
theorem Mod.set2 {S : Nat → Prop} {a w : World} {b : Nat} (h : Mod S a w) (hp : a.heap.size ≤ b) (o : Nat) (u : Value) : Mod S a (w.setCell ⟨b, o, none⟩ u) := h.setCell (p := ⟨b, o, none⟩) (.inr hp) u
/-- Two steps: what the second may turn lies in S, or is newer. -/
theorem Mod.trans {S S' : Nat → Prop} {a b c : World} (h : Mod S a b) (k : Mod S' b c) (hs : ∀ i, i < a.heap.size → S' i → S i) : Mod S a c :=
  ⟨k.os.trans h.os, k.tape.trans h.tape, k.output.trans h.output, Nat.le_trans h.size k.size,
    fun i hi hn => (k.block i (Nat.lt_of_lt_of_le hi h.size) (fun h' => hn (hs i hi h'))).trans (h.block i hi hn)⟩
theorem Mod.mono {S S' : Nat → Prop} {a b : World} (h : Mod S a b) (hs : ∀ i, i < a.heap.size → S i → S' i) : Mod S' a b :=
  ⟨h.os, h.tape, h.output, h.size, fun i hi hn => h.block i hi (fun h' => hn (hs i hi h'))⟩
theorem Mod.below {S : Nat → Prop} {a b : World} (h : Mod S a b) (hs : ∀ i, i < a.heap.size → ¬ S i) : Below a.heap.size a b :=
  ⟨h.os, h.tape, h.output, h.size, fun i hi => h.block i hi (hs i hi)⟩
theorem Mod.of_below {S : Nat → Prop} {a b : World} (h : Below a.heap.size a b) : Mod S a b :=
  ⟨h.os, h.tape, h.output, h.size, fun i hi _ => h.block i hi⟩
theorem Mod.cell {S : Nat → Prop} {a b : World} (h : Mod S a b) {p : Addr} (hp : p.block < a.heap.size) (hs : ¬ S p.block) : b.cell? p = a.cell? p := World.cell?_of_block (w := a) (h.block _ hp hs)
theorem Mod.frozen {S : Nat → Prop} {a b : World} (h : Mod S a b) {p : Addr} (hp : p.block < a.heap.size) (hs : ¬ S p.block) : b.frozen? p = a.frozen? p := World.frozen?_of_block (w := a) (h.block _ hp hs)

theorem Has.lt {w : World} {b : Nat} {cs : List Value} {T : TypeId} (h : Has w b cs T) : b < w.heap.size := by
  rcases Nat.lt_or_ge b w.heap.size with h' | h'
  · exact h'
  · rw [Has, Array.getElem?_eq_none h'] at h; cases h
theorem Has.cell {w : World} {b : Nat} {cs : List Value} {T : TypeId} (h : Has w b cs T) {o : Nat} {v : Value} (hv : cs[o]? = some v) : w.cell? ⟨b, o, none⟩ = some v := by
  simp only [World.cell?]; rw [h]; simpa using hv
theorem Has.frozen {w : World} {b : Nat} {cs : List Value} {T : TypeId} (h : Has w b cs T) (o : Nat) : w.frozen? ⟨b, o, none⟩ = false := by
  simp only [World.frozen?]; rw [h]; simp
theorem Has.keep {w w' : World} {b : Nat} {cs : List Value} {T : TypeId} {S : Nat → Prop} (h : Has w b cs T) (m : Mod S w w') (hs : ¬ S b) : Has w' b cs T := (m.block b h.lt hs).trans h
theorem Has.drew {w : World} {b : Nat} {cs : List Value} {T : TypeId} (h : Has w b cs T) : Has w.drew b cs T := h
theorem Has.drewN {w : World} {b : Nat} {cs : List Value} {T : TypeId} (h : Has w b cs T) (n : Nat) : Has (w.drewN n) b cs T := h
theorem Has.alloc {w : World} {b : Nat} {cs : List Value} {T : TypeId} (h : Has w b cs T) (o : Obj) : Has (w.alloc o) b cs T := by
  unfold Has; rw [Below.heap_alloc _ _ _ h.lt]; exact h
theorem Has.new (w : World) (cs : List Value) (T : TypeId) : Has (w.alloc (.cells cs.toArray T)) w.heap.size cs T := by
  unfold Has; show (w.heap.push _)[w.heap.size]? = _; simp
theorem Has.set {w : World} {b : Nat} {cs : List Value} {T : TypeId} (h : Has w b cs T) (o : Nat) (v : Value) : Has (w.setCell ⟨b, o, none⟩ v) b (cs.set o v) T := by
  unfold Has at *; simp only [World.setCell, Array.getElem?_modify]; rw [h]; simp
theorem Has.set' {w : World} {b : Nat} {cs cs' : List Value} {T : TypeId} {o : Nat} {v : Value} (h : Has w b cs T) (e : cs.set o v = cs') : Has (w.setCell ⟨b, o, none⟩ v) b cs' T := e ▸ h.set o v
theorem Has.other {w : World} {b : Nat} {cs : List Value} {T : TypeId} (h : Has w b cs T) {p : Addr} (hp : b ≠ p.block) (v : Value) : Has (w.setCell p v) b cs T := by
  unfold Has at *; rw [Below.heap_setCell _ _ _ _ hp]; exact h

/-- A slice of the call's own, kept where its row's block does not turn. -/
theorem own_keep {S : Nat → Prop} {w w' : World} {base : Nat} {e : TypeId} {size : Nat} {v : Value} {n : Nat} {xs : List Value} (h : w.ownsRow base e size v n xs) (m : Mod S w w')
    (hs : ∀ k, base ≤ k → v.ownBlock = some k → ¬ S k) : w'.ownsRow base e size v n xs := by
  obtain ⟨h1, h2⟩ := h
  refine ⟨h1, ?_⟩
  rcases h2 with h2 | ⟨g, cap, cur, hv, hg, hh, r⟩
  · exact Or.inl h2
  · have hlt : g < w.heap.size := Has.lt (w := w) (cs := cur.toList) (T := e) hh
    exact Or.inr ⟨g, cap, cur, hv, hg, by rw [m.block g hlt (hs g hg (by rw [hv]; rfl))]; exact hh, r⟩
theorem own_base {w : World} {base base' : Nat} {e : TypeId} {size : Nat} {v : Value} {n : Nat} {xs : List Value} (h : w.ownsRow base e size v n xs) (hb : base' ≤ base) : w.ownsRow base' e size v n xs := by
  obtain ⟨h1, h2⟩ := h
  refine ⟨h1, ?_⟩
  rcases h2 with h2 | ⟨g, cap, cur, hv, hg, r⟩
  · exact Or.inl h2
  · exact Or.inr ⟨g, cap, cur, hv, Nat.le_trans hb hg, r⟩
theorem Mod.grown {S : Nat → Prop} {a w w' : World} {row : Option Nat} (h : Mod S a w) (hg : w.grownBy w' row) (hr : ∀ k, row = some k → k < a.heap.size → S k) : Mod S a w' :=
  ⟨hg.os.trans h.os, hg.tape.trans h.tape, hg.output.trans h.output, Nat.le_trans h.size hg.size, fun k hk hn => by
    rw [hg.block k (Nat.lt_of_lt_of_le hk h.size) (fun e => hn (hr k e.symm hk))]; exact h.block k hk hn⟩
theorem Has.grown {w w' : World} {b : Nat} {cs : List Value} {T : TypeId} {row : Option Nat} (h : Has w b cs T) (hg : w.grownBy w' row) (hr : row ≠ some b) : Has w' b cs T :=
  (hg.block b h.lt (fun e => hr e.symm)).trans h

/-- t is a slice type with elements e, of so many cells, so many bytes each -/
def SliceT (P : Program) (t e size bytes : Nat) : Prop :=
  P.underlying t = some (.slice e) ∧ 0 < size ∧ ∃ i z, P.info? e = some i ∧ i.zero = some z ∧ i.size = size ∧ i.bytes = bytes ∧ z.cells.size = size

/-- append of some elements that lie in a row: the row may be the old one, or a new one -/
theorem app {P : Program} {w : World} {ops : Array Oper} {rest : List Oper} {o : Oper} {a : Act} {Q : Exit → Act → World → Prop} (s x : Operand) {t e size bytes : Nat} (T : SliceT P t e size bytes)
    (base : Nat) (v : Value) (n : Nat) (xs : List Value) (hown : w.ownsRow base e size v n xs) (ad : Addr) (m c : Nat) (news : List Value)
    (hgd : o.guard = none) (ho : o.op = .call { callee := .builtin .append, args := #[s, x], argTypes := #[t, t] })
    (hs : a.eval s = v) (hx : a.eval x = .slice (some ad) m c) (hl : news.length = m * size) (hnews : ∀ j u, news[j]? = some u → w.cell? (ad.add j) = some u) (h1 : ∀ u ∈ news, u.oneCell' = true)
    (hb : (n + m) * bytes ≤ 140737488355328) (hm : n + m ≤ maxLen) (hbase : base ≤ w.heap.size)
    (h : ∀ v' w', w'.ownsRow base e size v' (n + m) (xs ++ news) → Mod (fun k => base ≤ k ∧ v.ownBlock = some k) w w' → wpList P ops Q rest (a.put o.dst v') w') : wpList P ops Q (o :: rest) a w := by
  obtain ⟨ht, hsz, i, z, hi, hz, hsize, hby, hzs⟩ := T
  refine wpList_append_own w hgd s x t ho base e i z size bytes ht hi hz hsize hby hzs hsz v n xs hs hown ad m c news hx hl hnews h1 hm hb hbase fun v' w' h2 h3 _ => h v' w' h2 ?_
  exact Mod.grown (Mod.refl _ _) h3 fun k hk _ => ⟨(hown.lt k hk).1, hk⟩

/-- the cells xs stand in memory from A on -/
def Cells (w : World) (A : Option Addr) (xs : List Value) : Prop := xs = [] ∨ ∃ b o, A = some ⟨b, o, none⟩ ∧ ∀ j u, xs[j]? = some u → w.cell? ⟨b, o + j, none⟩ = some u
theorem Cells.drewN {w : World} {A : Option Addr} {xs : List Value} (h : Cells w A xs) (m : Nat) : Cells (w.drewN m) A xs := h
theorem own_cells {w : World} {base : Nat} {e : TypeId} {size : Nat} {v : Value} {n : Nat} {xs : List Value} (h : w.ownsRow base e size v n xs) : ∃ A cap, v = .slice A n cap ∧ n ≤ cap ∧ Cells w A xs := by
  obtain ⟨h1, ⟨hv, hn⟩ | ⟨g, cap, cur, hv, hg, hh, hc, hm, hs, ht⟩⟩ := h
  · subst hn; simp at h1; exact ⟨none, 0, hv, Nat.le_refl _, .inl h1⟩
  · have h : w.ownsRow base e size (.slice (some ⟨g, 0, none⟩) n cap) n xs := ⟨h1, .inr ⟨g, cap, cur, rfl, hg, hh, hc, hm, hs, ht⟩⟩
    refine ⟨_, cap, hv, hc, .inr ⟨g, 0, rfl, fun j u hj => ?_⟩⟩
    have hlt : j < n * size := by
      rcases Nat.lt_or_ge j xs.length with hl | hl
      · omega
      · rw [List.getElem?_eq_none hl] at hj; cases hj
    rw [Nat.zero_add, h.cellAt j hlt, hj]
theorem Cells.keep {S : Nat → Prop} {w w' : World} {A : Option Addr} {xs : List Value} (h : Cells w A xs) (m : Mod S w w') (hs : ∀ a, A = some a → ¬ S a.block) : Cells w' A xs := by
  rcases h with h | ⟨b, o, hA, hc⟩
  · exact .inl h
  · refine .inr ⟨b, o, hA, fun j u hj => ?_⟩
    have := hc j u hj
    rw [m.cell (World.block_lt_of_cell? w _ this) (show ¬ S b from hs _ hA)]; exact this

/-- the cells of a one-element row that was just made -/
theorem one_new (w : World) (u : Value) (e : TypeId) : ∀ j x, [u][j]? = some x → (w.alloc (.cells #[u] e)).cell? ((⟨w.heap.size, 0, none⟩ : Addr).add j) = some x := by
  intro j x hj
  cases j with
  | zero => simp at hj; subst hj; exact (Has.new w [u] e).cell rfl
  | succ j => simp at hj

end K
end Go.Proofs.Ytjcdekipkpmniaa
