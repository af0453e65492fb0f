/- Opening an argument of texts: a slice of strings. -/
import Derived.Test.YtocpifoimoaibaaK
import Derived.Deep.Strs
namespace Go.Proofs.Ytocpifoimoaibaa
set_option linter.unusedVariables false
set_option linter.unusedSimpArgs false
open Go.RowKit Go.ChangeShapes Go.WideShapes Go.Deep
namespace K

/-- texts that came in -/
structure TextsIn (w : World) (A : Option Addr) (ss : List ByteArray) : Prop where
  row : Cells w A (ss.map .string)
  size : ∀ s ∈ ss, s.size ≤ maxLen
  len : ss.length ≤ maxLen

theorem open_texts {H : Type} {enc : TypeId × Value → H} {P : Program} {W : World} {base : Nat} {held : Bool} {t e : TypeId} {a : Option Addr} {len cap : Nat} {d : DataW H} {pl : List MemPlace}
    (hu : P.underlying t = some (.slice e)) (he : P.underlying e = some .string) (hc : P.cellsOf e = 1)
    (h : DataW.Trod enc P W base (fun _ => true) held t (.slice a len cap) d pl) : ∃ ss : List ByteArray, len = ss.length ∧ TextsIn W a ss := by
  obtain ⟨fuel, hf⟩ := h
  rcases open_strs hu he hc hf with ⟨hcs, _⟩ | ⟨x, l, c, m, Sx, hcs, _, hl, hm, hmm, hx, hcell⟩
  · simp [Value.cells] at hcs
    obtain ⟨rfl, rfl, rfl⟩ := hcs
    exact ⟨[], rfl, .inl rfl, fun s hs => (by cases hs), Nat.zero_le _⟩
  · simp [Value.cells] at hcs
    obtain ⟨rfl, rfl, rfl⟩ := hcs
    rw [if_pos rfl] at hmm
    subst hmm
    refine ⟨(List.range len).map Sx, by simp, ?_, ?_, by simp; omega⟩
    · by_cases h0 : len = 0
      · subst h0; exact .inl rfl
      · have hsp : x.spot = none := by
          have h1 := (hcell 0 (by omega)).1
          cases hs : x.spot with
          | none => rfl
          | some s =>
            unfold World.cell? at h1
            rw [show (x.add 0) = x by simp [Addr.add], hs] at h1
            split at h1 <;> simp at h1
        obtain ⟨b, o, s⟩ := x
        obtain rfl : s = none := hsp
        refine .inr ⟨b, o, rfl, fun j u hj => ?_⟩
        have hjl : j < len := by
          have := (List.getElem?_eq_some_iff.1 hj).1
          simpa using this
        have h2 := (hcell j (by omega)).1
        rw [Addr.add_lit] at h2
        rw [h2, ← hj]
        simp [hjl]
    · intro s hs
      obtain ⟨i, hi, rfl⟩ := List.mem_map.1 hs
      exact (hcell i (by have := List.mem_range.1 hi; omega)).2
end K
end Go.Proofs.Ytocpifoimoaibaa
