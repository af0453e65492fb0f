/- Joined texts: Ko, Ku, Kt, Kv. -/
import Derived.Test.YtpoljpjcmigobaaDoorJ1
import Derived.ProofKit
import Derived.OpenShut
import Derived.SizedLaws
import Derived.Test.YtpoljpjcmigobaaDoorRows
import Derived.Deep.Strs
/- Opening arguments: a slice of bytes that came in. -/
namespace Go.Proofs.YtpoljpjcmigobaaDoor
set_option linter.unusedVariables false
set_option linter.unusedSimpArgs false
open Go.RowKit Go.ChangeShapes Go.WideShapes
namespace K

theorem open_bytes {H : Type} {enc : TypeId × Value → H} {P : Program} {W : World} {base : Nat} {held : Bool} {t e : TypeId} {a : Option Addr} {len cap : Nat} {d : DataW H} {ps : List MemPlace} {ts : List TypeId} {ds : List (DataW H)} {j : Nat}
    (hsz : (DataW.weightsEach P ts ds).all (· ≤ reachBytes) = true) (ht : ts[j]? = some t) (hd : ds[j]? = some d) (hu : P.underlying t = some (.slice e)) (he : P.underlying e = some (.int .u8)) (hc : P.cellsOf e = 1) (hB : P.bytesOf e = 1)
    (h : DataW.Trod enc P W base (fun _ => true) held t (.slice a len cap) d ps) :
    ∃ l : List UInt8, len = l.length ∧ BytesIn W a cap l := by
  obtain ⟨fuel, hf⟩ := h
  rcases open_ints hu he hc hf with ⟨hcs, _⟩ | ⟨x, l, c, zs, hcs, _, hl, hm, hz, hx, hcell, hw⟩
  · simp [Value.cells] at hcs
    obtain ⟨rfl, rfl, rfl⟩ := hcs
    exact ⟨[], rfl, .inl rfl, .inl rfl, Nat.le_refl _, by unfold maxLen; omega, by simp, fun _ => rfl⟩
  · simp [Value.cells] at hcs
    obtain ⟨rfl, rfl, rfl⟩ := hcs
    rw [if_pos rfl] at hz
    have hl2 : len ≤ zs.length := by rw [hz]; exact hl
    have hspot : 0 < cap → x.spot = none := fun h0 => by
      have h1 := hcell 0 (by omega)
      have e : x.add 0 = x := by simp [Addr.add]
      rw [e] at h1
      cases hs : x.spot with
      | none => rfl
      | some s =>
        unfold World.cell? at h1
        rw [hs] at h1
        split at h1 <;> simp at h1
    have hsize : len ≤ 140737488351232 := by
      obtain ⟨hx, _⟩ := Prod.mk.inj hx
      subst hx
      have z := sized_slice hsz ht hd hu
      rw [hB] at z
      have h1 : (lits (H := H) .u8 (zs.take len)).length + (lits (H := H) .u8 (zs.drop len)).length = zs.length := by
        simp [lits]
        omega
      rw [h1] at z
      rw [Nat.mul_one] at z
      exact Nat.le_trans hl2 z
    have hbyte : ∀ n ∈ zs, ((UInt8.ofNat n.toNat).toNat : Int) = n := fun n hn => by
      have := hw n hn
      simp only [Lit.wf, Bool.and_eq_true, IntKind.min, IntKind.max] at this
      simp [IntKind.signed, IntKind.bits] at this
      simp; omega
    refine ⟨(zs.take len).map fun n => UInt8.ofNat n.toNat, by simp; omega, ?_, ?_, by simp; omega, hm, by simp; omega, fun h => by cases h⟩
    · by_cases h0 : len = 0
      · subst h0; exact .inl (by simp [bv])
      · have hsp := hspot (by omega)
        obtain ⟨b, o, s⟩ := x
        obtain rfl : s = none := hsp
        refine .inr ⟨b, o, rfl, fun j u hj => ?_⟩
        have hjl : j < len := by
          rcases Nat.lt_or_ge j len with h | h
          · exact h
          · rw [List.getElem?_eq_none (by simp [bv]; omega)] at hj; cases hj
        have h2 := hcell j (by omega)
        have e : (⟨b, o, none⟩ : Addr).add j = ⟨b, o + j, none⟩ := by unfold Addr.add; split <;> simp_all
        rw [e] at h2
        rw [h2]
        simp only [bv, List.map_map, List.getElem?_map] at hj
        rw [List.getElem?_take, if_pos hjl, List.getElem?_eq_getElem (by omega)] at hj
        simp only [Option.map_some, Function.comp_apply, Option.some.injEq] at hj
        rw [hbyte _ (List.getElem_mem _)] at hj
        rw [← hj]
        simp [List.getD, List.getElem?_eq_getElem (show j < zs.length by omega)]
    · by_cases h0 : cap = 0
      · exact .inl h0
      · have hsp := hspot (by omega)
        obtain ⟨b, o, s⟩ := x
        obtain rfl : s = none := hsp
        exact .inr ⟨b, o, rfl⟩
end K
end Go.Proofs.YtpoljpjcmigobaaDoor
/- What the bound of a row's second form gives: no argument is longer. -/
namespace Go.Proofs.YtpoljpjcmigobaaDoor
set_option linter.unusedVariables false
set_option linter.unusedSimpArgs false
open Go.RowKit Go.ChangeShapes Go.WideShapes
namespace K

theorem bulk_one {H : Type} (d : DataW H) : 1 ≤ Rows.uptoBulk d := by
  cases d with
  | lit l => cases l <;> simp [Rows.uptoBulk]
  | _ => simp [Rows.uptoBulk]
theorem bulk_length {H : Type} : ∀ l : List (DataW H), l.length ≤ Rows.uptoBulkAll l
  | [] => by simp [Rows.uptoBulkAll]
  | x :: r => by have := bulk_one x; have := bulk_length r; simp only [Rows.uptoBulkAll, List.length_cons]; omega
theorem bulk_mem {H : Type} {d : DataW H} : ∀ {l : List (DataW H)}, d ∈ l → Rows.uptoBulk d ≤ Rows.uptoBulkAll l
  | [], h => by cases h
  | x :: r, h => by
    simp only [Rows.uptoBulkAll]
    rcases List.mem_cons.1 h with rfl | h
    · omega
    · have := bulk_mem h; omega
theorem bulk_at {H : Type} {d : DataW H} {l : List (DataW H)} (hk : Rows.uptoSmall H l = true) (h : d ∈ l) : Rows.uptoBulk d ≤ 1048576 := by
  have h2 : Rows.uptoBulkAll l ≤ 1048576 := by simpa [Rows.uptoSmall] using hk
  exact Nat.le_trans (bulk_mem h) h2
theorem bulk_str {H : Type} {bytes : List UInt8} {l : List (DataW H)} (hk : Rows.uptoSmall H l = true) (h : DataW.lit (.string bytes) ∈ l) : bytes.length ≤ 1048576 := by
  have := bulk_at hk h
  simp [Rows.uptoBulk] at this; omega
theorem bulk_bytes {H : Type} {enc : TypeId × Value → H} {P : Program} {W : World} {base : Nat} {spare : Nat → Bool} {held : Bool} {t e : TypeId} {k : IntKind} {a : Option Addr} {len cap : Nat} {d : DataW H} {ps : List MemPlace} {l : List (DataW H)}
    (hk : Rows.uptoSmall H l = true) (hd : d ∈ l) (hu : P.underlying t = some (.slice e)) (he : P.underlying e = some (.int k)) (hc : P.cellsOf e = 1)
    (h : DataW.Trod enc P W base spare held t (.slice a len cap) d ps) : len ≤ 1048576 := by
  have hb := bulk_at hk hd
  obtain ⟨fuel, hf⟩ := h
  rcases open_ints hu he hc hf with ⟨hcs, _⟩ | ⟨x, l', c, zs, hcs, _, hl, _, hz, hx, _, _⟩
  · simp [Value.cells] at hcs
    obtain ⟨rfl, rfl, rfl⟩ := hcs
    omega
  · simp [Value.cells] at hcs
    obtain ⟨rfl, rfl, rfl⟩ := hcs
    obtain ⟨hx, _⟩ := Prod.mk.inj hx
    subst hx
    have h1 := bulk_length (lits (H := H) k (zs.take len))
    simp only [Rows.uptoBulk] at hb
    have h2 : (lits (H := H) k (zs.take len)).length = min len zs.length := by simp [lits]
    have h3 : len ≤ zs.length := by
      rw [hz]
      split
      · exact hl
      · exact Nat.le_refl _
    omega

end K
end Go.Proofs.YtpoljpjcmigobaaDoor
/- Opening an argument of texts: a slice of strings. -/
namespace Go.Proofs.YtpoljpjcmigobaaDoor
set_option linter.unusedVariables false
set_option linter.unusedSimpArgs false
open Go.RowKit Go.ChangeShapes Go.WideShapes Go.Deep
namespace K

/-- texts that came in -/
structure TextsIn (w : World) (A : Option Addr) (ss : List ByteArray) : Prop where
  row : Cells w A (ss.map .string)
  size : ∀ s ∈ ss, s.size ≤ maxLen
  len : ss.length ≤ maxLen

theorem open_texts {H : Type} {enc : TypeId × Value → H} {P : Program} {W : World} {base : Nat} {held : Bool} {t e : TypeId} {a : Option Addr} {len cap : Nat} {d : DataW H} {pl : List MemPlace}
    (hu : P.underlying t = some (.slice e)) (he : P.underlying e = some .string) (hc : P.cellsOf e = 1)
    (h : DataW.Trod enc P W base (fun _ => true) held t (.slice a len cap) d pl) : ∃ ss : List ByteArray, len = ss.length ∧ TextsIn W a ss := by
  obtain ⟨fuel, hf⟩ := h
  rcases open_strs hu he hc hf with ⟨hcs, _⟩ | ⟨x, l, c, m, Sx, hcs, _, hl, hm, hmm, hx, hcell⟩
  · simp [Value.cells] at hcs
    obtain ⟨rfl, rfl, rfl⟩ := hcs
    exact ⟨[], rfl, .inl rfl, fun s hs => (by cases hs), Nat.zero_le _⟩
  · simp [Value.cells] at hcs
    obtain ⟨rfl, rfl, rfl⟩ := hcs
    rw [if_pos rfl] at hmm
    subst hmm
    refine ⟨(List.range len).map Sx, by simp, ?_, ?_, by simp; omega⟩
    · by_cases h0 : len = 0
      · subst h0; exact .inl rfl
      · have hsp : x.spot = none := by
          have h1 := (hcell 0 (by omega)).1
          cases hs : x.spot with
          | none => rfl
          | some s =>
            unfold World.cell? at h1
            rw [show (x.add 0) = x by simp [Addr.add], hs] at h1
            split at h1 <;> simp at h1
        obtain ⟨b, o, s⟩ := x
        obtain rfl : s = none := hsp
        refine .inr ⟨b, o, rfl, fun j u hj => ?_⟩
        have hjl : j < len := by
          have := (List.getElem?_eq_some_iff.1 hj).1
          simpa using this
        have h2 := (hcell j (by omega)).1
        rw [Addr.add_lit] at h2
        rw [h2, ← hj]
        simp [hjl]
    · intro s hs
      obtain ⟨i, hi, rfl⟩ := List.mem_map.1 hs
      exact (hcell i (by have := List.mem_range.1 hi; omega)).2
end K
end Go.Proofs.YtpoljpjcmigobaaDoor
/- Opening an argument of texts under the row's bound. -/
namespace Go.Proofs.YtpoljpjcmigobaaDoor
set_option linter.unusedVariables false
set_option linter.unusedSimpArgs false
open Go.RowKit Go.ChangeShapes Go.WideShapes Go.Deep
namespace K

theorem bulk_strs {H : Type} (Sx : Nat → ByteArray) : ∀ n, n + ((List.range n).flatMap fun i => (Sx i).data.toList).length ≤ Rows.uptoBulkAll ((List.range n).map fun i => (DataW.lit (.string (Sx i).data.toList) : DataW H))
  | 0 => by simp
  | n + 1 => by
    have bulk_app : ∀ (x y : List (DataW H)), Rows.uptoBulkAll (x ++ y) = Rows.uptoBulkAll x + Rows.uptoBulkAll y := fun x y => by
      induction x with
      | nil => simp [Rows.uptoBulkAll]
      | cons a x ih => simp only [List.cons_append, Rows.uptoBulkAll, ih]; omega
    have ih := bulk_strs (H := H) Sx n
    rw [List.range_succ, List.map_append, bulk_app, List.flatMap_append, List.length_append]
    simp only [List.map_cons, List.map_nil, List.flatMap_cons, List.flatMap_nil, List.append_nil, Rows.uptoBulkAll, Rows.uptoBulk]
    omega

theorem open_texts_upto {H : Type} {enc : TypeId × Value → H} {P : Program} {W : World} {base : Nat} {held : Bool} {t e : TypeId} {a : Option Addr} {len cap : Nat} {d : DataW H} {pl : List MemPlace} {l : List (DataW H)}
    (hk : Rows.uptoSmall H l = true) (hd : d ∈ l) (hu : P.underlying t = some (.slice e)) (he : P.underlying e = some .string) (hc : P.cellsOf e = 1)
    (h : DataW.Trod enc P W base (fun _ => true) held t (.slice a len cap) d pl) : ∃ ss : List ByteArray, len = ss.length ∧ Cells W a (ss.map .string) ∧ ss.length ≤ cap ∧ cap ≤ maxLen ∧ ss.length + (ss.flatMap fun p => p.data.toList).length ≤ 1048576 := by
  have hb := bulk_at hk hd
  obtain ⟨fuel, hf⟩ := h
  rcases open_strs hu he hc hf with ⟨hcs, _⟩ | ⟨x, l, c, m, Sx, hcs, _, hl, hm, hmm, hx, hcell⟩
  · simp [Value.cells] at hcs
    obtain ⟨rfl, rfl, rfl⟩ := hcs
    exact ⟨[], rfl, .inl rfl, Nat.le_refl _, by unfold maxLen; omega, by simp⟩
  · simp [Value.cells] at hcs
    obtain ⟨rfl, rfl, rfl⟩ := hcs
    rw [if_pos rfl] at hmm
    subst hmm
    obtain ⟨rfl, -⟩ := Prod.mk.inj hx
    simp only [Rows.uptoBulk] at hb
    have h0 := bulk_strs (H := H) Sx len
    refine ⟨(List.range len).map Sx, by simp, ?_, by simpa using hl, hm, by rw [List.flatMap_map]; simp only [List.length_map, List.length_range]; omega⟩
    by_cases h0 : len = 0
    · subst h0; exact .inl rfl
    · have hsp : x.spot = none := by
        have h1 := (hcell 0 (by omega)).1
        cases hs : x.spot with
        | none => rfl
        | some s =>
          unfold World.cell? at h1
          rw [show (x.add 0) = x by simp [Addr.add], hs] at h1
          split at h1 <;> simp at h1
      obtain ⟨b, o, s⟩ := x
      obtain rfl : s = none := hsp
      refine .inr ⟨b, o, rfl, fun j u hj => ?_⟩
      have hjl : j < len := by
        have := (List.getElem?_eq_some_iff.1 hj).1
        simpa using this
      have h2 := (hcell j (by omega)).1
      rw [Addr.add_lit] at h2
      rw [h2, ← hj]
      simp [hjl]

/-- a table of numbers, as a block -/
theorem block_of_tab {P : Program} {W : World} {name : String} {k : IntKind} {zs : List Int} {g : Nat} (hg : P.globalNamed name = some g) (h : W.var? P name = some (zs.map fun z => Value.int k z).toArray) : ∃ T fr, W.heap[g]? = some (.cells (zs.map fun z => Value.int k z).toArray T fr) := by
  unfold World.var? at h
  rw [hg] at h
  simp only [Option.bind_some] at h
  split at h
  · rename_i cs T fr hc
    exact ⟨T, fr, by rw [hc]; simpa using h⟩
  · cases h
end K
end Go.Proofs.YtpoljpjcmigobaaDoor
