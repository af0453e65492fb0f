/- Opening an argument of texts under the row's bound. -/
import Derived.Test.YtenamjldkaggcaaDoorKu
import Derived.Test.YtenamjldkaggcaaDoorKt
namespace Go.Proofs.YtenamjldkaggcaaDoor
set_option linter.unusedVariables false
set_option linter.unusedSimpArgs false
open Go.RowKit Go.ChangeShapes Go.WideShapes Go.Deep
namespace K

theorem bulk_strs {H : Type} (Sx : Nat → ByteArray) : ∀ n, n + ((List.range n).flatMap fun i => (Sx i).data.toList).length ≤ Rows.uptoBulkAll ((List.range n).map fun i => (DataW.lit (.string (Sx i).data.toList) : DataW H))
  | 0 => by simp
  | n + 1 => by
    have bulk_app : ∀ (x y : List (DataW H)), Rows.uptoBulkAll (x ++ y) = Rows.uptoBulkAll x + Rows.uptoBulkAll y := fun x y => by
      induction x with
      | nil => simp [Rows.uptoBulkAll]
      | cons a x ih => simp only [List.cons_append, Rows.uptoBulkAll, ih]; omega
    have ih := bulk_strs (H := H) Sx n
    rw [List.range_succ, List.map_append, bulk_app, List.flatMap_append, List.length_append]
    simp only [List.map_cons, List.map_nil, List.flatMap_cons, List.flatMap_nil, List.append_nil, Rows.uptoBulkAll, Rows.uptoBulk]
    omega

theorem open_texts_upto {H : Type} {enc : TypeId × Value → H} {P : Program} {W : World} {base : Nat} {held : Bool} {t e : TypeId} {a : Option Addr} {len cap : Nat} {d : DataW H} {pl : List MemPlace} {l : List (DataW H)}
    (hk : Rows.uptoSmall H l = true) (hd : d ∈ l) (hu : P.underlying t = some (.slice e)) (he : P.underlying e = some .string) (hc : P.cellsOf e = 1)
    (h : DataW.Trod enc P W base (fun _ => true) held t (.slice a len cap) d pl) : ∃ ss : List ByteArray, len = ss.length ∧ Cells W a (ss.map .string) ∧ ss.length ≤ cap ∧ cap ≤ maxLen ∧ ss.length + (ss.flatMap fun p => p.data.toList).length ≤ 1048576 := by
  have hb := bulk_at hk hd
  obtain ⟨fuel, hf⟩ := h
  rcases open_strs hu he hc hf with ⟨hcs, _⟩ | ⟨x, l, c, m, Sx, hcs, _, hl, hm, hmm, hx, hcell⟩
  · simp [Value.cells] at hcs
    obtain ⟨rfl, rfl, rfl⟩ := hcs
    exact ⟨[], rfl, .inl rfl, Nat.le_refl _, by unfold maxLen; omega, by simp⟩
  · simp [Value.cells] at hcs
    obtain ⟨rfl, rfl, rfl⟩ := hcs
    rw [if_pos rfl] at hmm
    subst hmm
    obtain ⟨rfl, -⟩ := Prod.mk.inj hx
    simp only [Rows.uptoBulk] at hb
    have h0 := bulk_strs (H := H) Sx len
    refine ⟨(List.range len).map Sx, by simp, ?_, by simpa using hl, hm, by rw [List.flatMap_map]; simp only [List.length_map, List.length_range]; omega⟩
    by_cases h0 : len = 0
    · subst h0; exact .inl rfl
    · have hsp : x.spot = none := by
        have h1 := (hcell 0 (by omega)).1
        cases hs : x.spot with
        | none => rfl
        | some s =>
          unfold World.cell? at h1
          rw [show (x.add 0) = x by simp [Addr.add], hs] at h1
          split at h1 <;> simp at h1
      obtain ⟨b, o, s⟩ := x
      obtain rfl : s = none := hsp
      refine .inr ⟨b, o, rfl, fun j u hj => ?_⟩
      have hjl : j < len := by
        have := (List.getElem?_eq_some_iff.1 hj).1
        simpa using this
      have h2 := (hcell j (by omega)).1
      rw [Addr.add_lit] at h2
      rw [h2, ← hj]
      simp [hjl]

/-- a table of numbers, as a block -/
theorem block_of_tab {P : Program} {W : World} {name : String} {k : IntKind} {zs : List Int} {g : Nat} (hg : P.globalNamed name = some g) (h : W.var? P name = some (zs.map fun z => Value.int k z).toArray) : ∃ T fr, W.heap[g]? = some (.cells (zs.map fun z => Value.int k z).toArray T fr) := by
  unfold World.var? at h
  rw [hg] at h
  simp only [Option.bind_some] at h
  split at h
  · rename_i cs T fr hc
    exact ⟨T, fr, by rw [hc]; simpa using h⟩
  · cases h
end K
end Go.Proofs.YtenamjldkaggcaaDoor
