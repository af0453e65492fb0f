/- Joined texts: ObjectNodesL, Ki. -/
import Derived.Test.YtenamjldkaggcaaGreatDoorJ16
import Derived.Test.YtenamjldkaggcaaGreatDoorJ17
import Derived.Test.YtenamjldkaggcaaGreatDoorJ2
import Derived.Test.YtenamjldkaggcaaGreatDoorJ11
import Derived.Deep.SlicePairs
/- The walk of the law ObjectNodes. -/
namespace Go.Proofs.YtenamjldkaggcaaGreatDoor
set_option linter.unusedVariables false
set_option linter.unusedSimpArgs false
open Go.RowKit K Wire
namespace Obj

theorem putV_ex (l : List UInt8) (bad : Bool) : ∃ (o1 o2 : ByteArray) (e : Int), putV l bad = .tuple #[.agg #[.string o1, .string o2], .int .i64 e] := by
  cases bad
  · exact ⟨_, _, _, putV_f l⟩
  · exact ⟨_, _, _, putV_t l⟩
theorem chunkT_ex (s : ByteArray) : ∃ (q : ByteArray) (e : Int), chunkT s = .tuple #[.string q, .int .i64 e] := ⟨_, _, rfl⟩

theorem outFan_len (L : List UInt8) : (outFan L).2.length ≤ 32 := by
  unfold outFan
  split
  · rename_i h
    have h2 := (fan_sound L h).2
    simp only [rightFan, inR, Bool.and_eq_true, decide_eq_true_eq] at h2
    have := h2.1.1.2.2
    show (rdFan L).2.length ≤ 32
    omega
  · simp

end Obj
end Go.Proofs.YtenamjldkaggcaaGreatDoor
/- Opening an argument that is a struct with a slice of structs. -/
namespace Go.Proofs.YtenamjldkaggcaaGreatDoor
set_option linter.unusedVariables false
set_option linter.unusedSimpArgs false
open Go.RowKit Go.ChangeShapes Go.WideShapes Go.Deep
namespace K
open Wire
open Go.Proofs.YtenamjldkaggcaaGreatDoor.Obj

theorem in64_wf {n : Int} (h : (Lit.int .i64 n).wf = true) : In64 n := by
  unfold In64
  simp only [Lit.wf, Bool.and_eq_true, decide_eq_true_eq, IntKind.min, IntKind.max, IntKind.bits, IntKind.signed] at h
  simp at h
  omega

theorem bulk_app {H : Type} : ∀ (x y : List (DataW H)), Rows.uptoBulkAll (x ++ y) = Rows.uptoBulkAll x + Rows.uptoBulkAll y := fun x y => by
  induction x with
  | nil => simp [Rows.uptoBulkAll]
  | cons a x ih => simp only [List.cons_append, Rows.uptoBulkAll, ih]; omega

set_option maxRecDepth 100000 in
/-- a slice of parts that came in, from its cells -/
theorem open_parts {H : Type} {enc : TypeId × Value → H} {W : World} {base : Nat} {held : Bool} {fuel : Nat} {v : Value} {x : DataW H × List MemPlace}
    (h : DataW.trod enc Tryz.prog W base (fun _ => true) held fuel 44 [v] = some x) :
    ∃ (A : Option Addr) (kids : List Part) (cap : Nat), v = .slice A kids.length cap ∧ Cells W A (kids.flatMap pc) ∧ (∀ p ∈ kids, In64 p.size) ∧ (kids.map fun p => p.id.size + 1).sum + kids.length ≤ Rows.uptoBulk x.1 := by
  rcases open_slice_pairs Tryz.underlying44 Tryz.underlying51 (by kernel_rfl) rfl rfl (by kernel_rfl) (by kernel_rfl) h with ⟨hcs, rfl⟩ | ⟨a, len, cap, m, n, V0, V1, D0, D1, P0, P1, hcs, _, hl, hm, hmm, rfl, hx⟩
  · obtain rfl : v = .slice none 0 0 := by simpa using hcs
    exact ⟨none, [], 0, rfl, .inl rfl, by simp, by simp⟩
  · obtain rfl : v = .slice (some a) len cap := by simpa using hcs
    rw [if_pos rfl] at hmm
    subst hmm
    have each : ∀ i, i < m → ∃ q : ByteArray × Int, V0 i = .string q.1 ∧ D0 i = .lit (.string q.1.data.toList) ∧ V1 i = .int .i64 q.2 ∧ D1 i = .lit (.int .i64 q.2) ∧ In64 q.2 := fun i hi => by
      obtain ⟨_, _, h2, h3⟩ := hx i hi
      obtain ⟨s, g1, g2, _⟩ := DataW.trod_string Tryz.underlying9 h2
      obtain ⟨z, g3, g4, g5⟩ := DataW.trod_int Tryz.underlying2 h3
      simp only [Prod.mk.injEq] at g2 g4
      exact ⟨(s, z), by simpa using g1, g2.1, by simpa using g3, g4.1, in64_wf g5⟩
    obtain ⟨q, hq⟩ := choose_lt each
    obtain ⟨kids, hk⟩ : ∃ kids : List Part, kids = (List.range len).map fun i => ⟨(q i).1, (q i).2⟩ := ⟨_, rfl⟩
    have hkl : kids.length = len := by rw [hk]; simp
    have hkg : ∀ i (h : i < kids.length), kids[i] = ⟨(q i).1, (q i).2⟩ := fun i h => by subst hk; simp
    refine ⟨some a, kids, m, by rw [hkl], ?_, ?_, ?_⟩
    · by_cases h0 : len = 0
      · exact .inl (by rw [hk, h0]; rfl)
      · have hsp : a.spot = none := by
          have h1 := (hx 0 (by omega)).1
          cases hs : a.spot with
          | none => rfl
          | some s =>
            unfold World.cell? at h1
            rw [show (a.add (0 * 2)) = a by simp [Addr.add], hs] at h1
            split at h1 <;> simp at h1
        obtain ⟨b, o, s⟩ := a
        obtain rfl : s = none := hsp
        refine .inr ⟨b, o, rfl, fun j u hj => ?_⟩
        have hjl : j < kids.length * 2 := by
          have := (List.getElem?_eq_some_iff.1 hj).1
          rw [flat_len pc_len] at this; exact this
        obtain ⟨i, r, hr, rfl⟩ : ∃ i r, r < 2 ∧ j = i * 2 + r := ⟨j / 2, j % 2, Nat.mod_lt _ (by omega), by omega⟩
        have hi : i < kids.length := by omega
        rw [flat_get pc_len kids i r hi hr, hkg i hi] at hj
        obtain ⟨c0, c1, _, _⟩ := hx i (by omega)
        rw [Addr.add_lit] at c0 c1
        obtain ⟨q0, _, q1, _, _⟩ := hq i (by omega)
        match r, hr with
        | 0, _ => simp [pc] at hj; subst hj; rw [Nat.add_zero, c0, q0]
        | 1, _ => simp [pc] at hj; subst hj; rw [c1, q1]
    · intro p hp
      rw [hk] at hp
      obtain ⟨i, hi, rfl⟩ := List.mem_map.1 hp
      exact (hq i (by have := List.mem_range.1 hi; omega)).2.2.2.2
    · have hb : ∀ n, n ≤ len → (((List.range n).map fun i => (⟨(q i).1, (q i).2⟩ : Part)).map fun p => p.id.size + 1).sum + n ≤ Rows.uptoBulkAll ((List.range n).map fun i => DataW.agg [D0 i, D1 i]) := by
        intro n
        induction n with
        | zero => intro _; simp
        | succ n ih =>
          intro hn
          have ih := ih (by omega)
          obtain ⟨_, d0, _, d1, _⟩ := hq n (by omega)
          rw [List.range_succ, List.map_append, List.map_append, List.map_append, List.sum_append, bulk_app]
          simp only [List.map_cons, List.map_nil, List.sum_cons, List.sum_nil, Rows.uptoBulkAll, Rows.uptoBulk, d0, d1]
          have e : (q n).1.data.toList.length = (q n).1.size := by simp
          omega
      have h1 := hb len (Nat.le_refl _)
      rw [← hk] at h1
      simp only [Rows.uptoBulk]
      omega

set_option maxRecDepth 100000 in
theorem open_fan {H : Type} {enc : TypeId × Value → H} {W : World} {base : Nat} {held : Bool} {r : Reach} {b0 : Nat} {v : Value} {d : DataW H} {pl : List MemPlace} {l : List (DataW H)}
    (hk : Rows.uptoSmall H l = true) (hd : d ∈ l) (hval : Value.okWide Tryz.prog W r b0 46 v)
    (h : DataW.Trod enc Tryz.prog W base (fun _ => true) held 46 v d pl) :
    ∃ (level : Int) (A : Option Addr) (kids : List Part) (cap : Nat), v = .agg #[.int .i64 level, .slice A kids.length cap] ∧ Cells W A (kids.flatMap pc) ∧ In64 level ∧ (∀ p ∈ kids, In64 p.size) ∧ (kids.map fun p => p.id.size + 1).sum + kids.length ≤ 1048576 := by
  have hb := bulk_at hk hd
  obtain ⟨cs, rfl, hsz⟩ := okWide_struct Tryz.underlying46 hval
  rw [show Tryz.prog.cellsOf 46 = 2 by kernel_rfl] at hsz
  obtain ⟨fuel, hf⟩ := h
  obtain ⟨y0, y1, n, hx, hl, g0, g1⟩ := trod_struct2 Tryz.underlying46 hf
  obtain ⟨c0, c1, rfl⟩ : ∃ c0 c1, cs = #[c0, c1] := by
    obtain ⟨cl⟩ := cs
    match cl, hsz with
    | [c0, c1], _ => exact ⟨c0, c1, rfl⟩
  have e0 : Tryz.prog.cellsOf 3 = 1 := by kernel_rfl
  have e1 : Tryz.prog.cellsOf 44 = 1 := by kernel_rfl
  simp [Value.cells, e0, e1] at g0 g1
  obtain ⟨z, g3, g4, g5⟩ := DataW.trod_int Tryz.underlying3 g0
  obtain ⟨A, kids, cap, g6, g7, g8, g9⟩ := open_parts g1
  refine ⟨z, A, kids, cap, by rw [g6, show c0 = .int .i64 z by simpa using g3], g7, in64_wf g5, g8, ?_⟩
  rw [show d = .agg [y0.1, y1.1] from (Prod.mk.inj hx).1] at hb
  simp only [Rows.uptoBulk, Rows.uptoBulkAll] at hb
  omega
theorem fanB_len (level : Int) (kids : List Part) (hlv : In64 level) (hs : ∀ p ∈ kids, In64 p.size) (h : (kids.map fun p => p.id.size + 1).sum + kids.length ≤ 1048576) : (fanB level kids).length ≤ 100000000 := by
  have h1 : ∀ l : List Part, (∀ p ∈ l, In64 p.size) → (l.flatMap partB).length ≤ (l.map fun p => p.id.size + 1).sum + 9 * l.length := by
    intro l
    induction l with
    | nil => intro _; simp
    | cons a l ih =>
      intro hs
      have := ih fun p hp => hs p (by simp [hp])
      have := enc_len a.size (hs a (by simp))
      have e : a.id.data.toList.length = a.id.size := by simp
      rw [List.flatMap_cons, List.length_append, List.map_cons, List.sum_cons, List.length_cons]
      simp only [partB, List.length_append]
      omega
  have h2 := h1 kids hs
  have := enc_len level hlv
  have := enc_len (kids.length : Int) (by unfold In64; omega)
  simp only [fanB, List.length_cons, List.length_append]
  omega
end K
end Go.Proofs.YtenamjldkaggcaaGreatDoor
