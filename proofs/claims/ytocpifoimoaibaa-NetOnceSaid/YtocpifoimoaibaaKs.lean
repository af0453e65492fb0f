/- x[:k] of a slice, and x[k:], where it has room. -/
import Derived.Test.YtocpifoimoaibaaK
import Derived.ProofKit
namespace Go.Proofs.Ytocpifoimoaibaa
set_option linter.unusedVariables false
set_option linter.unusedSimpArgs false
open Go
namespace K

/-- x[:k] within the room; the cells may lie beyond the length -/
theorem slice_to {P : Program} (t e k n c : Nat) (A : Option Addr) (ht : P.underlying t = some (.slice e)) (he : (P.info? e).map (·.size) = some 1) (hadr : Adr A c) (h : k ≤ c) (hc : 0 < c) :
    ∀ w', (Instr.slice t (.slice A n c) none (some (.int .i64 k)) none).run P w' = .ok (.slice A k c) w' := by
  obtain hc' | ⟨b, o, rfl⟩ := hadr
  · omega
  intro w'
  obtain ⟨i, hi, hs⟩ : ∃ i, P.info? e = some i ∧ i.size = 1 := by
    cases h : P.info? e with
    | none => rw [h] at he; cases he
    | some i => rw [h] at he; exact ⟨i, rfl, by simpa using he⟩
  have hso : (sizeOf e).run P w' = .ok 1 w' := by simp [sizeOf, typeInfo, hi, hs]
  have e3 : (⟨b, o, none⟩ : Addr).add 0 = ⟨b, o, none⟩ := by unfold Addr.add; split <;> simp_all
  simp only [Instr.slice, Instr.sliceBounds, Instr.sliceBound]
  simp [run_underlying ht, asIntOf]
  rw [if_pos (by omega), hso]
  simp only [Result.andThen, if_neg (show ¬ c = 0 by omega), e3]

theorem Cells.take {w : World} {A : Option Addr} {l : List UInt8} (k : Nat) (h : Cells w A (bv l)) : Cells w A (bv (l.take k)) := by
  rcases h with h | ⟨b, o, rfl, h⟩
  · have : l = [] := by cases l; rfl; simp [bv] at h
    subst this; exact .inl (by simp [bv])
  · refine .inr ⟨b, o, rfl, fun j u hj => h j u ?_⟩
    rw [bv_take, List.getElem?_take] at hj
    split at hj
    · exact hj
    · cases hj
end K
end Go.Proofs.Ytocpifoimoaibaa
