/- []byte(text), and append onto a row that is known by its cells. -/
import Derived.Test.YtocpifoimoaibaaKb
import Derived.Test.YtocpifoimoaibaaKs
import Derived.ArgAppend
import Derived.Lib.ConvBytes
namespace Go.Proofs.Ytocpifoimoaibaa
set_option linter.unusedVariables false
set_option linter.unusedSimpArgs false
open Go.RowKit
namespace K

theorem Mod.setCells {S : Nat → Prop} {a : World} {b : Nat} (hp : S b ∨ a.heap.size ≤ b) : ∀ (vs : List Value) (o : Nat) {w : World}, Mod S a w → Mod S a (w.setCells b o vs)
  | [], _, _, h => h
  | v :: r, o, _, h => Mod.setCells hp r (o + 1) (h.setCell (p := ⟨b, o, none⟩) hp v)

/-- the room behind the length may be written -/
def Room (w : World) (b o n c : Nat) : Prop := ∀ j, n ≤ j → j < c → (w.cell? ⟨b, o + j, none⟩).isSome = true ∧ w.frozen? ⟨b, o + j, none⟩ = false

theorem bytesWorld_mod {S : Nat → Prop} {a w : World} (h : Mod S a w) (e : TypeId) (s : ByteArray) : Mod S a (Lib.bytesWorld w e s) :=
  ⟨h.os, h.tape, h.output, by rw [Lib.bytesWorld_size]; exact Nat.le_succ_of_le h.size, fun k hk hs => by
    rw [Lib.bytesWorld_at_old _ _ _ _ (Nat.lt_of_lt_of_le hk h.size)]; exact h.block k hk hs⟩

theorem bytesWorld_cells (w : World) (e : TypeId) (s : ByteArray) : Cells (Lib.bytesWorld w e s) (some ⟨w.heap.size, 0, none⟩) (bv s.data.toList) :=
  .inr ⟨_, 0, rfl, fun j u hj => by
    have hl : j < s.data.toList.length := by
      have := (List.getElem?_eq_some_iff.1 hj).1
      rwa [bv_length] at this
    rw [Nat.zero_add, Lib.bytesWorld_cell w e s j (by simpa using hl)]
    rw [bv_get _ _ hl] at hj
    rw [← Option.some.inj hj]
    have hl2 : j < s.data.size := by simpa using hl
    simp [List.getD, Array.getElem?_eq_getElem hl2]⟩

theorem bytesWorld_room (w : World) (e : TypeId) (s : ByteArray) : Room (Lib.bytesWorld w e s) w.heap.size 0 s.size (grownCap w s.size 0 e) := by
  intro j h1 h2
  have hs : (Lib.bytesCells w e s).size = grownCap w s.size 0 e := by
    simp [Lib.bytesCells]
    have : s.data.size = s.size := rfl
    omega
  refine ⟨?_, ?_⟩
  · rw [Nat.zero_add]
    simp only [World.cell?]
    rw [Lib.bytesWorld_at_new]
    simp [hs, h2]
  · simp only [World.frozen?]
    rw [Lib.bytesWorld_at_new, hs]
    simp; omega

/-- append(v, x...): v lies in a row of this call's -/
theorem app_room {P : Program} {w : World} {ops : Array Oper} {rest : List Oper} {o : Oper} {a : Act} {Q : Exit → Act → World → Prop} (s x : Operand) {t e : Nat} (T : SliceT P t e 1 1)
    (g n c : Nat) (l m : List UInt8) (B : Option Addr) (mb cb : Nat) (hn : l.length = n) (hmb : m.length = mb) (hl : Cells w (some ⟨g, 0, none⟩) (bv l)) (hroom : Room w g 0 n c) (hg : g < w.heap.size) (hB : Cells w B (bv m)) (hBn : B = none → mb = 0) 
    (hcm : c ≤ maxLen)
    (hgd : o.guard = none) (ho : o.op = .call { callee := .builtin .append, args := #[s, x], argTypes := #[t, t] })
    (hs : a.eval s = .slice (some ⟨g, 0, none⟩) n c) (hx : a.eval x = .slice B mb cb) (hncap : n ≤ c)
    (hb : n + mb ≤ 140737488355328)
    (h : ∀ A' c' w', Cells w' A' (bv (l ++ m)) → Adr A' c' → n + mb ≤ c' → c' ≤ maxLen → Mod (fun k => k = g) w w' → wpList P ops Q rest (a.put o.dst (.slice A' (n + mb) c')) w') : wpList P ops Q (o :: rest) a w := by
  obtain ⟨ht, hsz, i, z, hi, hz, hsize, hby, hzs⟩ := T
  have hlc : ∀ j u, (bv l)[j]? = some u → w.cell? ⟨g, 0 + j, none⟩ = some u := by
    rcases hl with hl | ⟨b, o, hA, hc⟩
    · intro j u hj; rw [hl] at hj; simp at hj
    · simp at hA; obtain ⟨rfl, rfl⟩ := hA; exact hc
  cases B with
  | none =>
    obtain rfl := hBn rfl
    have hm : m = [] := List.eq_nil_of_length_eq_zero hmb
    subst hm
    refine wpList_plain hgd fun K hK => ?_
    have hrun : (Builtin.append_ #[t, t] o.type #[.slice (some ⟨g, 0, none⟩) n c, .slice none 0 cb]).run P w = .ok (.slice (some ⟨g, 0, none⟩) n c) w := by
      simp [Builtin.append_, run_underlying ht, sizeOf, typeInfo, hi, Builtin.lenOf, Builtin.firstCells, hncap, storeCells]
    unfold Oper.wp
    simp [execOp, ho, resolve, invoke, builtin, hs, hx, hrun, Result.andThen]
    refine hK _ _ (h (some ⟨g, 0, none⟩) c w (by simpa using hl) (.inr ⟨_, _, rfl⟩) hncap hcm (Mod.refl _ _))
  | some ad =>
    have hBc : ∀ j u, (bv m)[j]? = some u → w.cell? (ad.add j) = some u := by
      rcases hB with hB | ⟨b, o, hA, hc⟩
      · intro j u hj; rw [hB] at hj; simp at hj
      · obtain rfl := Option.some.inj hA
        intro j u hj; rw [Addr.add_lit]; exact hc j u hj
    refine wpList_append_arg w hgd s x t ho e i z 1 1 ht hi hz hsize hby hzs (by decide) g 0 n c (bv l) hs (by rw [bv_length]; omega) hlc ad mb cb (bv m) hx (by rw [bv_length]; omega) hBc (bv_one m)
      (fun hr j hj => by
        rw [bv_length] at hj
        have := hroom (n + j) (by omega) (by omega)
        rwa [show 0 + n * 1 + j = 0 + (n + j) by omega]) (by unfold maxLen; omega) (by omega) ?_ ?_
    · intro hr
      have hMod : Mod (fun k => k = g) w (w.setCells g (0 + n * 1) (bv m)) := Mod.setCells (S := fun k => k = g) (b := g) (.inl rfl) _ _ (Mod.refl _ _)
      refine h _ c _ (.inr ⟨g, 0, rfl, fun j u hj => ?_⟩) (.inr ⟨_, _, rfl⟩) hr hcm hMod
      rw [bv_append, List.getElem?_append] at hj
      split at hj
      · rename_i hjl
        rw [World.cell?_setCells_out g _ _ _ _ (fun _ _ => .inl (by rw [bv_length] at hjl; show 0 + j < 0 + n * 1; omega))]
        exact hlc j u hj
      · rename_i hjl
        rw [bv_length] at hjl hj
        have hjm : j - l.length < (bv m).length := (List.getElem?_eq_some_iff.1 hj).1
        have := World.cell?_setCells_in g (bv m) (0 + n * 1) w (fun k hk => by
          rw [bv_length] at hk
          have := (hroom (n + k) (by omega) (by omega)).1
          rwa [show 0 + n * 1 + k = 0 + (n + k) by omega]) (j - l.length) hjm
        rw [show 0 + n * 1 + (j - l.length) = 0 + j by omega] at this
        rw [this, ← hj, List.getElem?_eq_getElem hjm]
    · intro hr v' w' hown hgrow
      obtain ⟨A', c', rfl, h1, h2, h3, h4⟩ := own_cells hown
      rw [← bv_append] at h2
      exact h A' c' w' h2 h3 h1 h4 (Mod.grown (Mod.refl _ _) hgrow (fun k hk => by cases hk))
end K
end Go.Proofs.Ytocpifoimoaibaa
