/- Joined texts: BlobC. -/
import Derived.Test.YthgcjfpaekpeeaaDoorJ22
import Derived.Test.YthgcjfpaekpeeaaDoorJ17
import Derived.Test.YthgcjfpaekpeeaaDoorJ12
import Derived.Test.YthgcjfpaekpeeaaDoorJ15
/- The walk of the maker's above: the next level. -/
namespace Go.Proofs.YthgcjfpaekpeeaaDoor
set_option linter.unusedVariables false
set_option linter.unusedSimpArgs false
open Go.RowKit K Wire Go.Maps
namespace Blob
open Go.Proofs.YthgcjfpaekpeeaaDoor.Obj

theorem size_le {l : List Part} (h : ∀ p ∈ l, 1 ≤ p.size) : ∀ p ∈ l, p.size ≤ sizes l := by
  induction l with
  | nil => intro p hp; cases hp
  | cons a l ih =>
    have h2 := fun p hp => h p (List.mem_cons_of_mem a hp)
    have ha := h a (List.mem_cons_self ..)
    have hn : 0 ≤ sizes l := by have := sum_take_le l h2; unfold sizes; omega
    have e : sizes (a :: l) = a.size + sizes l := by simp [sizes]
    intro p hp
    rcases List.mem_cons.1 hp with rfl | hp
    · omega
    · have := ih h2 p hp; omega
theorem fan_right {level : Int} {g : List Part} (hl : 1 ≤ level ∧ level ≤ 20) (h1 : ∀ p ∈ g, 1 ≤ p.size ∧ p.id.size = 32) (hs : sizes g ≤ 262144) (hn : 1 ≤ g.length ∧ g.length ≤ 32) : rightFan level g = true := by
  have hle := size_le (fun p hp => (h1 p hp).1)
  unfold rightFan
  simp only [inR, Bool.and_eq_true, decide_eq_true_eq]
  refine ⟨⟨⟨⟨hl.1, hl.2⟩, by omega, by omega⟩, List.all_eq_true.2 fun p hp => ?_⟩, hs⟩
  have := h1 p hp
  have := hle p hp
  simp only [partOk, inR, Bool.and_eq_true, decide_eq_true_eq]
  omega
theorem ids_sum {g : List Part} (h : ∀ p ∈ g, p.id.size = 32) : (g.map fun p => p.id.size + 1).sum = 33 * g.length := by
  induction g with
  | nil => rfl
  | cons a g ih =>
    have := ih (fun p hp => h p (List.mem_cons_of_mem a hp))
    have := h a (List.mem_cons_self ..)
    simp only [List.map_cons, List.sum_cons, List.length_cons]; omega
theorem fan_len {level : Int} {g : List Part} (hl : 1 ≤ level ∧ level ≤ 20) (h1 : ∀ p ∈ g, 1 ≤ p.size ∧ p.id.size = 32) (hs : sizes g ≤ 262144) (hn : g.length ≤ 32) : (fanB level g).length ≤ 100000000 := by
  have hle := size_le (fun p hp => (h1 p hp).1)
  refine fanB_len level g (by unfold In64; omega) (fun p hp => ?_) ?_
  · have := h1 p hp; have := hle p hp; unfold In64; omega
  · rw [ids_sum (fun p hp => (h1 p hp).2)]; omega
theorem sha_size (l : List UInt8) : (shaS l).size = 32 := by
  have := sha_len l
  simpa [shaS, ByteArray.size] using this
theorem fanOb_of {level : Int} {g : List Part} (h : rightFan level g = true) : fanOb level g = ⟨shaS (fanB level g), ⟨(fanB level g).toArray⟩⟩ := by unfold fanOb; rw [if_pos h]
theorem PartsOk.take {l : List Part} (h : PartsOk l) (n : Nat) : PartsOk (l.take n) ∧ PartsOk (l.drop n) := by
  have e := sizes_append (l.take n) (l.drop n)
  rw [List.take_append_drop] at e
  have h1 : ∀ p ∈ l.take n, 1 ≤ p.size ∧ p.id.size = 32 := fun p hp => h.one p (List.mem_of_mem_take hp)
  have h2 : ∀ p ∈ l.drop n, 1 ≤ p.size ∧ p.id.size = 32 := fun p hp => h.one p (List.mem_of_mem_drop hp)
  have := sizes_nonneg h1
  have := sizes_nonneg h2
  have := h.sum
  exact ⟨⟨h1, by omega⟩, ⟨h2, by omega⟩⟩

set_option maxRecDepth 100000 in
theorem size_part (w : World) : (sizeOf 25).run Tryd.prog w = .ok 2 w := by kernel_rfl
set_option maxRecDepth 100000 in
theorem parts_to {w : World} {A : Option Addr} {c : Nat} {l : List Part} (n : Nat) (hA : Cells w A (l.flatMap pc)) (hadr : Adr A c) (h : n ≤ l.length) (hl : l.length ≤ c) :
    (∀ w', (Instr.slice 46 (.slice A l.length c) none (some (.int .i64 (n : Int))) none).run Tryd.prog w' = .ok (.slice A n c) w') ∧ Cells w A ((l.take n).flatMap pc) := by
  refine ⟨fun w' => ?_, ?_⟩
  · rw [Go.run_slice_h (P := Tryd.prog) w' 46 A l.length c Tryd.underlying46 .i64 (n : Int) (by omega) (by omega)]
    rw [show Tryd.prog.elem 46 = 25 by kernel_rfl, size_part]
    simp only [Result.andThen, sliced, Int.toNat_natCast, Nat.sub_zero]
    rcases hadr with h0 | ⟨b, o, rfl⟩
    · rw [if_pos h0]
    · split
      · rfl
      · simp [Addr.add]
  · rcases hA with hA | ⟨b, o, rfl, hcell⟩
    · have : l = [] := by cases l with | nil => rfl | cons a l => cases hA
      subst this; exact .inl (by simp)
    · refine .inr ⟨b, o, rfl, fun j u hj => hcell j u ?_⟩
      rw [← List.take_append_drop n l, List.flatMap_append, List.getElem?_append_left (List.getElem?_eq_some_iff.1 hj).1]
      exact hj
set_option maxRecDepth 100000 in
theorem parts_from {w : World} {A : Option Addr} {c : Nat} {l : List Part} (n : Nat) (hA : Cells w A (l.flatMap pc)) (hadr : Adr A c) (h : n ≤ l.length) (hl : l.length ≤ c) :
    ∃ A', (∀ w', (Instr.slice 46 (.slice A l.length c) (some (.int .i64 (n : Int))) none none).run Tryd.prog w' = .ok (.slice A' (l.length - n) (c - n)) w') ∧ Cells w A' ((l.drop n).flatMap pc) ∧ Adr A' (c - n) ∧ (∀ a', A' = some a' → ∃ a, A = some a ∧ a.block = a'.block) := by
  have hfl : ((l.take n).flatMap pc).length = n * 2 := by rw [flat_len pc_len, List.length_take, Nat.min_eq_left h]
  have hrun : ∀ w', (Instr.slice 46 (.slice A l.length c) (some (.int .i64 (n : Int))) none none).run Tryd.prog w' = .ok (.slice (if c = n then A else A.map (·.add (n * 2))) (l.length - n) (c - n)) w' := fun w' => by
    rw [Go.run_slice_l (P := Tryd.prog) w' 46 A l.length c Tryd.underlying46 .i64 (n : Int) (by omega) (by omega)]
    rw [show Tryd.prog.elem 46 = 25 by kernel_rfl, size_part]
    simp only [Result.andThen, sliced, Int.toNat_natCast]
  refine ⟨_, hrun, ?_⟩
  by_cases hc : c = n
  · rw [if_pos hc]
    have : n = l.length := by omega
    refine ⟨.inl (by rw [this]; simp), .inl (by omega), fun a' ha => ⟨a', ha, rfl⟩⟩
  · rw [if_neg hc]
    rcases hadr with h0 | ⟨b, o, rfl⟩
    · omega
    have e : (⟨b, o, none⟩ : Addr).add (n * 2) = ⟨b, o + n * 2, none⟩ := by unfold Addr.add; split <;> simp_all
    rw [Option.map_some, e]
    refine ⟨?_, .inr ⟨_, _, rfl⟩, fun a' ha => ⟨_, rfl, by injection ha with ha; rw [← ha]⟩⟩
    rcases hA with hA | ⟨b', o', hb, hcell⟩
    · have : l = [] := by cases l with | nil => rfl | cons a l => cases hA
      subst this; exact .inl (by simp)
    · obtain ⟨rfl, rfl⟩ : b = b' ∧ o = o' := by simpa using hb
      refine .inr ⟨b, o + n * 2, rfl, fun j u hj => ?_⟩
      rw [Nat.add_assoc]
      refine hcell _ u ?_
      conv => lhs; rw [← List.take_append_drop n l, List.flatMap_append]
      rw [List.getElem?_append_right (by omega), hfl, Nat.add_sub_cancel_left]
      exact hj
end Blob
end Go.Proofs.YthgcjfpaekpeeaaDoor
