/- Opening an argument of fates: a slice of structs of whole numbers. -/
import Derived.Test.YtocpifoimoaibaaNetPlaysM
import Derived.Deep.Slices
import Derived.Deep.Fields
import Derived.ChangeSame
import Derived.ProofKit
import Derived.OpenShut
import Derived.SizedLaws
namespace Go.Proofs.Ytocpifoimoaibaa
set_option linter.unusedVariables false
set_option linter.unusedSimpArgs false
open Go.RowKit Go.ChangeShapes Go.WideShapes Go.Deep
namespace K
section
variable {H : Type} {enc : TypeId × Value → H} {P : Program} {w : World} {base : Nat} {spare : Nat → Bool} {held : Bool}
/-- A slice of structs of one-cell fields, field by field. (After the kit's page on structs.) -/
theorem open_slice_fields {t e : TypeId} {fs : Array Field} {fuel : Nat} {cs : List Value} {x : DataW H × List MemPlace} (ht : P.underlying t = some (.slice e)) (he : P.underlying e = some (.struct fs))
    (hone : oneCellFields P fs = true) (hC : P.cellsOf e = fs.size) (h : DataW.trod enc P w base spare held fuel t cs = some x) :
    (cs = [.slice none 0 0] ∧ x = (.nil, [])) ∨
    ∃ (a : Addr) (len cap m : Nat) (D : Nat → DataW H) (Pl : Nat → List MemPlace), cs = [.slice (some a) len cap] ∧ base ≤ a.block ∧ len ≤ cap ∧ cap ≤ maxLen ∧ m = (if spare a.block then cap else len) ∧
      x = (.slice ((List.range len).map D) ((List.range (m - len)).map fun j => D (len + j)), MemPlace.row a (m * fs.size) ++ (List.range m).flatMap Pl) ∧
      ∀ i, i < m → ∃ (ys : List (DataW H × List MemPlace)) (n : Nat), D i = .agg (ys.map (·.1)) ∧ Pl i = ys.flatMap (·.2) ∧ ys.length = fs.size ∧
        ∀ (j : Nat) (f : Field), fs[j]? = some f → ∃ (v : Value) (y : DataW H × List MemPlace), w.cell? (a.add (i * fs.size + j)) = some v ∧ ys[j]? = some y ∧ DataW.trod enc P w base spare held n f.type [v] = some y := by
  rcases open_slice ht h with h0 | ⟨a, len, cap, m, n, D, Pl, hcs, hb, hl, hm, hmm, hx, hi⟩
  · exact .inl h0
  · refine .inr ⟨a, len, cap, m, D, Pl, hcs, hb, hl, hm, hmm, by rw [hC] at hx; exact hx, fun i him => ?_⟩
    obtain ⟨cs', hc, ht'⟩ := hi i him
    rw [hC] at hc
    obtain ⟨ys, n', hn', hy, hlen, hyl, hf⟩ := DataW.trod_struct he ht'
    obtain ⟨_, hcl, hat⟩ := World.cells?_some hc
    simp only [Prod.mk.injEq] at hy
    refine ⟨ys, n', hy.1, hy.2, hyl, fun j f hj => ?_⟩
    obtain ⟨ho, hk⟩ := hone_of hone j f hj
    have hjl : j < fs.size := (Array.getElem?_eq_some_iff.1 hj).1
    have hcell := hat j hjl
    have hv : cs'[j]? = some (cs'[j]'(by omega)) := List.getElem?_eq_getElem (by omega)
    have h1 := hf j f hj
    rw [ho, hk] at h1
    have hone' : (cs'.drop j).take 1 = [cs'[j]'(by omega)] := by
      rw [List.drop_eq_getElem_cons (by omega)]
      rfl
    rw [hone'] at h1
    have hys : ys[j]? = some (ys[j]'(by omega)) := List.getElem?_eq_getElem (by omega)
    refine ⟨_, _, ?_, hys, h1.trans hys⟩
    rw [← Go.Deep.add_add, hcell, hv]
end
end K
namespace Net
open K
theorem open_fates {H : Type} {enc : TypeId × Value → H} {W : World} {base : Nat} {held : Bool} {a : Option Addr} {len cap : Nat} {d : DataW H} {pl : List MemPlace} {ts : List TypeId} {ds : List (DataW H)} {j : Nat}
    (hsz : (DataW.weightsEach Try.prog ts ds).all (· ≤ reachBytes) = true) (ht : ts[j]? = some 22) (hd : ds[j]? = some d)
    (h : DataW.Trod enc Try.prog W base (fun _ => true) held 22 (.slice a len cap) d pl) : ∃ l : List Fate, len = l.length ∧ FatesIn W a cap l := by
  obtain ⟨fuel, hf⟩ := h
  rcases open_slice_fields Try.underlying22 Try.underlying35 (by kernel_rfl) (by kernel_rfl) hf with ⟨hcs, _⟩ | ⟨x, l, c, m, D, Pl, hcs, _, hl, hm, hmm, hx, hi⟩
  · simp [Value.cells] at hcs
    obtain ⟨rfl, rfl, rfl⟩ := hcs
    exact ⟨[], rfl, .inl rfl, Nat.le_refl _, Nat.zero_le _, by decide, fun f h => by cases h⟩
  · simp [Value.cells] at hcs
    obtain ⟨rfl, rfl, rfl⟩ := hcs
    rw [if_pos rfl] at hmm
    subst hmm
    have hfate : ∀ i, ∃ f : Fate, (i < m → (W.cell? (x.add (i * 3)) = some (.int .i64 f.k) ∧ W.cell? (x.add (i * 3 + 1)) = some (.int .i64 f.a) ∧ W.cell? (x.add (i * 3 + 2)) = some (.int .u8 (f.b.toNat : Int)))) ∧
        -9223372036854775808 ≤ f.k ∧ f.k ≤ 9223372036854775807 ∧ -9223372036854775808 ≤ f.a ∧ f.a ≤ 9223372036854775807 := fun i => by
      by_cases hic : i < m
      · obtain ⟨ys, n, _, _, _, hf⟩ := hi i hic
        obtain ⟨v0, y0, c0, _, t0⟩ := hf 0 _ rfl
        obtain ⟨v1, y1, c1, _, t1⟩ := hf 1 _ rfl
        obtain ⟨v2, y2, c2, _, t2⟩ := hf 2 _ rfl
        obtain ⟨n0, e0, _, w0⟩ := DataW.trod_int Try.underlying3 t0
        obtain ⟨n1, e1, _, w1⟩ := DataW.trod_int Try.underlying3 t1
        obtain ⟨n2, e2, _, w2⟩ := DataW.trod_int Try.underlying5 t2
        obtain rfl : v0 = .int .i64 n0 := by simpa using e0
        obtain rfl : v1 = .int .i64 n1 := by simpa using e1
        obtain rfl : v2 = .int .u8 n2 := by simpa using e2
        simp only [Lit.wf, Bool.and_eq_true, IntKind.min, IntKind.max] at w0 w1 w2
        simp [IntKind.signed, IntKind.bits] at w0 w1 w2
        have hb : ((UInt8.ofNat n2.toNat).toNat : Int) = n2 := by simp; omega
        refine ⟨⟨n0, n1, UInt8.ofNat n2.toNat⟩, fun _ => ⟨c0, c1, ?_⟩, w0.1, w0.2, w1.1, w1.2⟩
        dsimp only
        rw [hb]; exact c2
      · exact ⟨fate0, (fun h => absurd h hic), by decide, by decide, by decide, by decide⟩
    obtain ⟨F, hF⟩ := Classical.axiomOfChoice hfate
    clear hfate
    have hsize : len * 24 ≤ 140737488351232 := by
      obtain ⟨hx, _⟩ := Prod.mk.inj hx
      subst hx
      have z := sized_slice hsz ht hd Try.underlying22
      rw [show Try.prog.bytesOf 35 = 24 from by kernel_rfl] at z
      simp only [List.length_map, List.length_range] at z
      have h2 : len * 24 ≤ (len + (m - len)) * 24 := by omega
      exact Nat.le_trans h2 z
    refine ⟨(List.range len).map fun i => F i, by simp, ?_, by simpa using hl, hm, by simpa using hsize, fun f hf => ?_⟩
    · by_cases h0 : len = 0
      · subst h0; exact .inl rfl
      · have hsp : x.spot = none := by
          have h1 := ((hF 0).1 (by omega)).1
          cases hs : x.spot with
          | none => rfl
          | some s =>
            unfold World.cell? at h1
            rw [show (x.add (0 * 3)) = x by simp [Addr.add], hs] at h1
            split at h1 <;> simp at h1
        obtain ⟨b, o, s⟩ := x
        obtain rfl : s = none := hsp
        refine .inr ⟨b, o, rfl, fun q u hq => ?_⟩
        have hql : q < len * 3 := by
          have := (List.getElem?_eq_some_iff.1 hq).1
          rw [fcs_len] at this; simpa using this
        obtain ⟨h1, h2, h3⟩ := (hF (q / 3)).1 (by omega)
        obtain ⟨g1, g2, g3⟩ := fcs_get ((List.range len).map fun i => F i) (q / 3) (by simp; omega)
        simp only [List.getElem_map, List.getElem_range] at g1 g2 g3
        rw [Addr.add_lit] at h1 h2 h3
        have hm3 : q % 3 = 0 ∨ q % 3 = 1 ∨ q % 3 = 2 := by omega
        rcases hm3 with h | h | h
        · rw [show q / 3 * 3 = q by omega] at g1 h1
          rw [h1, ← g1, hq]
        · rw [show q / 3 * 3 + 1 = q by omega] at g2 h2
          rw [h2, ← g2, hq]
        · rw [show q / 3 * 3 + 2 = q by omega] at g3 h3
          rw [h3, ← g3, hq]
    · obtain ⟨i, _, rfl⟩ := List.mem_map.1 hf
      exact (hF i).2
end Net
end Go.Proofs.Ytocpifoimoaibaa
