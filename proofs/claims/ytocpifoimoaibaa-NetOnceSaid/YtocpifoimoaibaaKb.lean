/- More words of this proof's own: rows that were just made. -/
import Derived.Test.YtocpifoimoaibaaK
import Derived.Lib.SlBytesConst
namespace Go.Proofs.Ytocpifoimoaibaa
set_option linter.unusedVariables false
set_option linter.unusedSimpArgs false
open Go.RowKit
namespace K

theorem size_alloc (w : World) (o : Obj) : (w.alloc o).heap.size = w.heap.size + 1 := by simp
theorem lit_cells (w : World) (cs : List Value) (T : TypeId) : Cells (w.alloc (.cells cs.toArray T)) (some ⟨w.heap.size, 0, none⟩) cs :=
  .inr ⟨_, 0, rfl, fun j u hj => by rw [Nat.zero_add]; exact (Has.new w cs T).cell hj⟩
theorem lit_cells_fr (w : World) (cs : List Value) (T : TypeId) (fr : Nat × Nat) : Cells (w.alloc (.cells cs.toArray T fr)) (some ⟨w.heap.size, 0, none⟩) cs :=
  .inr ⟨_, 0, rfl, fun j u hj => by
    rw [Nat.zero_add]
    have h : (w.alloc (.cells cs.toArray T fr)).heap[w.heap.size]? = some (.cells cs.toArray T fr) := by show (w.heap.push _)[w.heap.size]? = _; simp
    simp only [World.cell?]; rw [h]; simpa using hj⟩
theorem Cells.alloc {w : World} {A : Option Addr} {xs : List Value} (h : Cells w A xs) (o : Obj) : Cells (w.alloc o) A xs :=
  Cells.keep (S := fun _ => False) h (Mod.alloc (Mod.refl _ _) o) (fun _ _ h => h)
theorem Cells.drew {w : World} {A : Option Addr} {xs : List Value} (h : Cells w A xs) : Cells w.drew A xs := h

theorem cells_nil {w : World} {A : Option Addr} {l : List UInt8} (h : Cells w A (bv l)) : A = none → l = [] := by
  rintro rfl
  rcases h with h | ⟨b, o, h, -⟩
  · cases l
    · rfl
    · simp [bv] at h
  · cases h
/-- a slice of bytes that came in -/
structure BytesIn (w : World) (A : Option Addr) (c : Nat) (l : List UInt8) : Prop where
  cells : Cells w A (bv l)
  adr : Adr A c
  cap : l.length ≤ c
  max : c ≤ maxLen
  size : l.length ≤ 140737488351232
  nil : A = none → l = []

end K
end Go.Proofs.Ytocpifoimoaibaa
