/- Opening an argument of parts: a slice of slices of bytes. -/
import Derived.Test.YtammcnencaemfaaDoorKu
import Derived.Deep.Matrix
namespace Go.Proofs.YtammcnencaemfaaDoor
open Go.RowKit Go.ChangeShapes Go.WideShapes Go.Deep
namespace K

/-- the ints of a slice of bytes that was read, as bytes -/
theorem bytes_of {W : World} {a : Option Addr} {len cap : Nat} {zs : List Int} (hz : zs.length = cap) (hl : len ≤ cap) (hm : cap ≤ maxLen) (hs : len ≤ 140737488351232)
    (hw : ∀ n ∈ zs, (Lit.int .u8 n).wf = true) (hn : a = none → cap = 0) (hc : ∀ x, a = some x → ∀ i, i < cap → W.cell? (x.add i) = some (.int .u8 (zs.getD i 0))) :
    ∃ l : List UInt8, len = l.length ∧ BytesIn W a cap l := by
  have hspot : ∀ x, a = some x → 0 < cap → x.spot = none := fun x hx h0 => by
    have h1 := hc x hx 0 (by omega)
    have e : x.add 0 = x := by simp [Addr.add]
    rw [e] at h1
    cases hs : x.spot with
    | none => rfl
    | some s =>
      unfold World.cell? at h1
      rw [hs] at h1
      split at h1 <;> simp at h1
  have hbyte : ∀ n ∈ zs, ((UInt8.ofNat n.toNat).toNat : Int) = n := fun n hn => by
    have := hw n hn
    simp only [Lit.wf, Bool.and_eq_true, IntKind.min, IntKind.max] at this
    simp [IntKind.signed, IntKind.bits] at this
    simp; omega
  refine ⟨(zs.take len).map fun n => UInt8.ofNat n.toNat, by simp; omega, ?_, ?_, by simp; omega, hm, by simp; omega, fun h => by have := hn h; simp; omega⟩
  · by_cases h0 : len = 0
    · subst h0; exact .inl (by simp [bv])
    · cases a with
      | none => have := hn rfl; omega
      | some x =>
        have hsp := hspot x rfl (by omega)
        obtain ⟨b, o, s⟩ := x
        obtain rfl : s = none := hsp
        refine .inr ⟨b, o, rfl, fun j u hj => ?_⟩
        have hjl : j < len := by
          rcases Nat.lt_or_ge j len with h | h
          · exact h
          · rw [List.getElem?_eq_none (by simp [bv]; omega)] at hj; cases hj
        have h2 := hc _ rfl j (by omega)
        have e : (⟨b, o, none⟩ : Addr).add j = ⟨b, o + j, none⟩ := by unfold Addr.add; split <;> simp_all
        rw [e] at h2
        rw [h2]
        simp only [bv, List.map_map, List.getElem?_map] at hj
        rw [List.getElem?_take, if_pos hjl, List.getElem?_eq_getElem (by omega)] at hj
        simp only [Option.map_some, Function.comp_apply, Option.some.injEq] at hj
        rw [hbyte _ (List.getElem_mem _)] at hj
        rw [← hj]
        simp [List.getD, List.getElem?_eq_getElem (show j < zs.length by omega)]
  · by_cases h0 : cap = 0
    · exact .inl h0
    · cases a with
      | none => have := hn rfl; omega
      | some x =>
        have hsp := hspot x rfl (by omega)
        obtain ⟨b, o, s⟩ := x
        obtain rfl : s = none := hsp
        exact .inr ⟨b, o, rfl⟩

/-- parts that came in: where each lies, its capacity, its bytes -/
structure PartsIn (w : World) (A : Option Addr) (ps : List (Option Addr × Nat × List UInt8)) : Prop where
  row : Cells w A (ps.map fun p => .slice p.1 p.2.2.length p.2.1)
  each : ∀ p ∈ ps, BytesIn w p.1 p.2.1 p.2.2
  sum : ps.length + (ps.flatMap fun p => p.2.2).length ≤ 1048576

theorem le_sum {n : Nat} : ∀ (l : List Nat), n ∈ l → n ≤ l.sum
  | [], h => by cases h
  | a :: l, h => by
    rcases List.mem_cons.1 h with rfl | h
    · simp
    · have := le_sum l h; simp; omega

theorem bulk_rows {H : Type} (A : Nat → Option Addr) (L : Nat → Nat) (Z : Nat → List Int) (n : Nat) (f : Nat → List UInt8) (h : ∀ r, r < n → (A r = none → L r = 0) ∧ L r ≤ (Z r).length ∧ (f r).length = L r) :
    n + ((List.range n).flatMap f).length ≤ Rows.uptoBulkAll ((List.range n).map fun r => intRow (H := H) .u8 (A r) (L r) (Z r)) := by
  have bulk_app : ∀ (x y : List (DataW H)), Rows.uptoBulkAll (x ++ y) = Rows.uptoBulkAll x + Rows.uptoBulkAll y := fun x y => by
    induction x with
    | nil => simp [Rows.uptoBulkAll]
    | cons a x ih => simp only [List.cons_append, Rows.uptoBulkAll, ih]; omega
  induction n with
  | zero => simp [Rows.uptoBulkAll]
  | succ n ih =>
    have ih := ih (fun r hr => h r (by omega))
    obtain ⟨h1, h2, h3⟩ := h n (by omega)
    rw [List.range_succ, List.map_append, bulk_app, List.flatMap_append, List.length_append]
    simp only [List.map_cons, List.map_nil, List.flatMap_cons, List.flatMap_nil, List.append_nil, Rows.uptoBulkAll, h3]
    have hb : L n + 1 ≤ Rows.uptoBulk (intRow (H := H) .u8 (A n) (L n) (Z n)) := by
      unfold intRow
      cases hA : A n with
      | none => have := h1 hA; simp [Rows.uptoBulk, this]
      | some a =>
        have := bulk_length (lits (H := H) .u8 ((Z n).take (L n)))
        simp only [Rows.uptoBulk]
        have h4 : (lits (H := H) .u8 ((Z n).take (L n))).length = L n := by simp [lits]; omega
        omega
    omega

theorem open_bytess {H : Type} {enc : TypeId × Value → H} {P : Program} {W : World} {base : Nat} {held : Bool} {t e q : TypeId} {a : Option Addr} {len cap : Nat} {d : DataW H} {pl : List MemPlace} {l : List (DataW H)}
    (hk : Rows.uptoSmall H l = true) (hd : d ∈ l) (hu : P.underlying t = some (.slice e)) (he : P.underlying e = some (.slice q)) (hq : P.underlying q = some (.int .u8)) (ce : P.cellsOf e = 1) (cq : P.cellsOf q = 1)
    (h : DataW.Trod enc P W base (fun _ => true) held t (.slice a len cap) d pl) :
    ∃ ps : List (Option Addr × Nat × List UInt8), len = ps.length ∧ PartsIn W a ps := by
  have hb := bulk_at hk hd
  obtain ⟨fuel, hf⟩ := h
  rcases open_int_rows hu he hq ce cq hf with ⟨hcs, _⟩ | ⟨x, len', cap', A, L, C, Z, hcs, _, hl, hm, hx, hr⟩
  · simp [Value.cells] at hcs
    obtain ⟨rfl, rfl, rfl⟩ := hcs
    exact ⟨[], rfl, .inl rfl, fun p hp => (by cases hp), by simp⟩
  · simp [Value.cells] at hcs
    obtain ⟨rfl, rfl, rfl⟩ := hcs
    obtain ⟨rfl, -⟩ := Prod.mk.inj hx
    have hLm : ∀ r, r < len → L r ≤ 140737488351232 := fun r hlt => by
      have h0 := bulk_rows (H := H) A L Z len (fun r => List.replicate (L r) 0) (fun r hr' => by
        obtain ⟨_, h1, _, h3, _, h5, _⟩ := hr r (by omega)
        exact ⟨fun hn => by have := h5 hn; omega, by omega, by simp⟩)
      simp only [Rows.uptoBulk] at hb
      have h2 : L r ≤ ((List.range len).flatMap fun r => List.replicate (L r) (0 : UInt8)).length := by
        rw [List.length_flatMap]
        have : L r ∈ (List.range len).map fun r => (List.replicate (L r) (0 : UInt8)).length := List.mem_map.2 ⟨r, List.mem_range.2 hlt, by simp⟩
        exact le_sum _ this
      omega
    have each : ∀ r, r < len → ∃ lb : List UInt8, L r = lb.length ∧ BytesIn W (A r) (C r) lb := fun r hlt => by
      obtain ⟨_, h1, h2, h3, h4, h5, h6⟩ := hr r (by omega)
      exact bytes_of h3 h1 h2 (hLm r hlt) h4 h5 (fun x hx => (h6 x hx).2)
    obtain ⟨f, hfe⟩ := choose_lt each
    refine ⟨(List.range len).map fun r => (A r, C r, f r), by simp, ?_, ?_, ?_⟩
    · by_cases h0 : len = 0
      · subst h0; exact .inl rfl
      · have hsp : x.spot = none := by
          have h1 := (hr 0 (by omega)).1
          cases hs : x.spot with
          | none => rfl
          | some s =>
            unfold World.cell? at h1
            rw [show (x.add 0) = x by simp [Addr.add], hs] at h1
            split at h1 <;> simp at h1
        obtain ⟨b, o, s⟩ := x
        obtain rfl : s = none := hsp
        refine .inr ⟨b, o, rfl, fun j u hj => ?_⟩
        have hjl : j < len := by
          have := (List.getElem?_eq_some_iff.1 hj).1
          simpa using this
        have h2 := (hr j (by omega)).1
        rw [Addr.add_lit] at h2
        rw [h2, ← hj]
        simp [hjl, (hfe j hjl).1]
    · intro p hp
      obtain ⟨r, hr', rfl⟩ := List.mem_map.1 hp
      exact (hfe r (List.mem_range.1 hr')).2
    · have h0 := bulk_rows (H := H) A L Z len f (fun r hr' => by
        obtain ⟨_, h1, _, h3, _, h5, _⟩ := hr r (by omega)
        exact ⟨fun hn => by have := h5 hn; omega, by omega, (hfe r hr').1.symm⟩)
      simp only [Rows.uptoBulk] at hb
      have h2 : ((List.range len).map fun r => (A r, C r, f r)).flatMap (fun p => p.2.2) = (List.range len).flatMap f := by rw [List.flatMap_map]
      rw [h2, List.length_map, List.length_range]
      omega

end K
end Go.Proofs.YtammcnencaemfaaDoor
