/- Opening an argument of texts, with the size of each. -/
import Derived.Test.YtocpifoimoaibaaKt
import Derived.SizedLaws
namespace Go.Proofs.Ytocpifoimoaibaa
set_option linter.unusedVariables false
set_option linter.unusedSimpArgs false
open Go.RowKit Go.ChangeShapes Go.WideShapes Go.Deep
namespace K
theorem weightsAll_mem {H : Type} {P : Program} {e : TypeId} {d : DataW H} {n : Nat} (hn : n ∈ d.weights P e) : ∀ {l : List (DataW H)}, d ∈ l → n ∈ DataW.weightsAll P e l
  | d0 :: l, h => by
    rw [DataW.weightsAll]
    rcases List.mem_cons.1 h with rfl | h
    · exact List.mem_append.2 (.inl hn)
    · exact List.mem_append.2 (.inr (weightsAll_mem hn h))

theorem open_texts_sized {H : Type} {enc : TypeId × Value → H} {P : Program} {W : World} {base : Nat} {held : Bool} {t e : TypeId} {a : Option Addr} {len cap : Nat} {d : DataW H} {pl : List MemPlace} {ts : List TypeId} {ds : List (DataW H)} {j : Nat}
    (hsz : (DataW.weightsEach P ts ds).all (· ≤ reachBytes) = true) (ht : ts[j]? = some t) (hd : ds[j]? = some d)
    (hu : P.underlying t = some (.slice e)) (he : P.underlying e = some .string) (hc : P.cellsOf e = 1)
    (h : DataW.Trod enc P W base (fun _ => true) held t (.slice a len cap) d pl) : ∃ ss : List ByteArray, len = ss.length ∧ TextsIn W a ss ∧ ∀ s ∈ ss, s.size ≤ 140737488351232 := by
  have hcopy := h
  obtain ⟨ss, hl, ht1⟩ := open_texts hu he hc h
  refine ⟨ss, hl, ht1, ?_⟩
  obtain ⟨fuel, hf⟩ := hcopy
  rcases open_strs hu he hc hf with ⟨hcs, _⟩ | ⟨x, l, c, m, Sx, hcs, _, hl2, hm, hmm, hx, hcell⟩
  · simp [Value.cells] at hcs
    obtain ⟨rfl, rfl, rfl⟩ := hcs
    have : ss = [] := List.eq_nil_of_length_eq_zero hl.symm
    subst this
    intro s hs; cases hs
  · simp [Value.cells] at hcs
    obtain ⟨rfl, rfl, rfl⟩ := hcs
    obtain ⟨hx, _⟩ := Prod.mk.inj hx
    subst hx
    intro s hs
    obtain ⟨i, hi, rfl⟩ := List.mem_iff_getElem.1 hs
    rw [if_pos rfl] at hmm
    subst hmm
    have hc1 := (hcell i (by omega)).1
    have hc2 : W.cell? (x.add i) = some (.string ss[i]) := by
      rcases ht1.row with h0 | ⟨b, o, hA, h0⟩
      · have : ss = [] := by simpa using h0
        subst this; simp at hi
      · obtain rfl := Option.some.inj hA
        rw [Addr.add_lit]
        exact h0 i _ (by simp [hi])
    rw [hc1] at hc2
    have he2 : Sx i = ss[i] := by simpa using hc2
    rw [← he2]
    have hmem : ((Sx i).data.toList.length) ∈ DataW.weightsEach P ts ds := by
      refine DataW.weights_mem_each ht hd _ ?_
      rw [DataW.weights]
      simp only [hu]
      refine List.mem_cons.2 (.inr (List.mem_append.2 (.inl ?_)))
      refine weightsAll_mem (d := .lit (.string (Sx i).data.toList)) ?_ (List.mem_map.2 ⟨i, List.mem_range.2 (by omega), rfl⟩)
      simp [DataW.weights]
    have := List.all_eq_true.1 hsz _ hmem
    have h2 : (Sx i).data.toList.length ≤ reachBytes := by simpa using this
    rw [show reachBytes = 140737488351232 from rfl] at h2
    simpa using h2
end K
end Go.Proofs.Ytocpifoimoaibaa
