/- Opening arguments: a slice of bytes that came in. -/
import Derived.Test.YtenamjldkaggcaaDoorKb
import Derived.ProofKit
import Derived.OpenShut
import Derived.SizedLaws
namespace Go.Proofs.YtenamjldkaggcaaDoor
set_option linter.unusedVariables false
set_option linter.unusedSimpArgs false
open Go.RowKit Go.ChangeShapes Go.WideShapes
namespace K

theorem open_bytes {H : Type} {enc : TypeId × Value → H} {P : Program} {W : World} {base : Nat} {held : Bool} {t e : TypeId} {a : Option Addr} {len cap : Nat} {d : DataW H} {ps : List MemPlace} {ts : List TypeId} {ds : List (DataW H)} {j : Nat}
    (hsz : (DataW.weightsEach P ts ds).all (· ≤ reachBytes) = true) (ht : ts[j]? = some t) (hd : ds[j]? = some d) (hu : P.underlying t = some (.slice e)) (he : P.underlying e = some (.int .u8)) (hc : P.cellsOf e = 1) (hB : P.bytesOf e = 1)
    (h : DataW.Trod enc P W base (fun _ => true) held t (.slice a len cap) d ps) :
    ∃ l : List UInt8, len = l.length ∧ BytesIn W a cap l := by
  obtain ⟨fuel, hf⟩ := h
  rcases open_ints hu he hc hf with ⟨hcs, _⟩ | ⟨x, l, c, zs, hcs, _, hl, hm, hz, hx, hcell, hw⟩
  · simp [Value.cells] at hcs
    obtain ⟨rfl, rfl, rfl⟩ := hcs
    exact ⟨[], rfl, .inl rfl, .inl rfl, Nat.le_refl _, by unfold maxLen; omega, by simp, fun _ => rfl⟩
  · simp [Value.cells] at hcs
    obtain ⟨rfl, rfl, rfl⟩ := hcs
    rw [if_pos rfl] at hz
    have hl2 : len ≤ zs.length := by rw [hz]; exact hl
    have hspot : 0 < cap → x.spot = none := fun h0 => by
      have h1 := hcell 0 (by omega)
      have e : x.add 0 = x := by simp [Addr.add]
      rw [e] at h1
      cases hs : x.spot with
      | none => rfl
      | some s =>
        unfold World.cell? at h1
        rw [hs] at h1
        split at h1 <;> simp at h1
    have hsize : len ≤ 140737488351232 := by
      obtain ⟨hx, _⟩ := Prod.mk.inj hx
      subst hx
      have z := sized_slice hsz ht hd hu
      rw [hB] at z
      have h1 : (lits (H := H) .u8 (zs.take len)).length + (lits (H := H) .u8 (zs.drop len)).length = zs.length := by
        simp [lits]
        omega
      rw [h1] at z
      rw [Nat.mul_one] at z
      exact Nat.le_trans hl2 z
    have hbyte : ∀ n ∈ zs, ((UInt8.ofNat n.toNat).toNat : Int) = n := fun n hn => by
      have := hw n hn
      simp only [Lit.wf, Bool.and_eq_true, IntKind.min, IntKind.max] at this
      simp [IntKind.signed, IntKind.bits] at this
      simp; omega
    refine ⟨(zs.take len).map fun n => UInt8.ofNat n.toNat, by simp; omega, ?_, ?_, by simp; omega, hm, by simp; omega, fun h => by cases h⟩
    · by_cases h0 : len = 0
      · subst h0; exact .inl (by simp [bv])
      · have hsp := hspot (by omega)
        obtain ⟨b, o, s⟩ := x
        obtain rfl : s = none := hsp
        refine .inr ⟨b, o, rfl, fun j u hj => ?_⟩
        have hjl : j < len := by
          rcases Nat.lt_or_ge j len with h | h
          · exact h
          · rw [List.getElem?_eq_none (by simp [bv]; omega)] at hj; cases hj
        have h2 := hcell j (by omega)
        have e : (⟨b, o, none⟩ : Addr).add j = ⟨b, o + j, none⟩ := by unfold Addr.add; split <;> simp_all
        rw [e] at h2
        rw [h2]
        simp only [bv, List.map_map, List.getElem?_map] at hj
        rw [List.getElem?_take, if_pos hjl, List.getElem?_eq_getElem (by omega)] at hj
        simp only [Option.map_some, Function.comp_apply, Option.some.injEq] at hj
        rw [hbyte _ (List.getElem_mem _)] at hj
        rw [← hj]
        simp [List.getD, List.getElem?_eq_getElem (show j < zs.length by omega)]
    · by_cases h0 : cap = 0
      · exact .inl h0
      · have hsp := hspot (by omega)
        obtain ⟨b, o, s⟩ := x
        obtain rfl : s = none := hsp
        exact .inr ⟨b, o, rfl⟩
end K
end Go.Proofs.YtenamjldkaggcaaDoor
