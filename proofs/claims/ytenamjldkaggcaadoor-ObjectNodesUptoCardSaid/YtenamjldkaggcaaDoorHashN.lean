/- The walk of hash.number. -/
import Derived.Test.YtenamjldkaggcaaDoorHashB
import Derived.Laws.MakeOwn
namespace Go.Proofs.YtenamjldkaggcaaDoor
set_option linter.unusedVariables false
set_option linter.unusedSimpArgs false
open Go.RowKit K
namespace Hash

theorem made_bytes (n : Nat) : madeCells #[Value.int .u8 0] n = (List.replicate n (Value.int .u8 0)).toArray := by
  apply Array.ext
  · simp [madeCells]
  · intro i h1 h2
    simp [madeCells, Nat.mod_one]

theorem make_bytes (n : Nat) (hn : n ≤ 2097152) (w : World) : (Instr.makeSlice 75 (.int .i64 (n : Int)) (.int .i64 (n : Int))).run Tryd.prog w = .ok (.slice (some ⟨w.heap.size, 0, none⟩) n n) (w.alloc (.cells (bv (List.replicate n 0)).toArray 5)) := by
  obtain ⟨i, hi, hz0, hz1, hz2⟩ := info_parts (P := Tryd.prog) (e := 5) (z := .int .u8 0) (size := 1) (bytes := 1) (by kernel_rfl)
  have h := run_make (P := Tryd.prog) w 75 5 i (.int .u8 0) Tryd.underlying75 hi hz0 .i64 .i64 (n : Int) (n : Int) (by omega) (by omega) (by rw [hz2]; omega) (by omega)
  rw [hz1] at h
  rw [show (Value.int .u8 0).cells = #[Value.int .u8 0] from rfl, made_bytes] at h
  simpa [bv] using h

theorem be_set (l : List UInt8) (t : Nat) (h : t < l.length) : (bv (l.take t ++ List.replicate (l.length - t) 0)).set t (.int .u8 (l[t].toNat : Int)) = bv (l.take (t + 1) ++ List.replicate (l.length - (t + 1)) 0) := by
  have e : l.length - t = (l.length - (t + 1)) + 1 := by omega
  have e2 : (bv (l.take t)).length = t := by rw [bv_length, List.length_take]; omega
  rw [e, List.replicate_succ, bv_append, List.set_append_right _ _ (by omega), e2, Nat.sub_self]
  rw [List.take_succ_eq_append_getElem h, List.append_assoc, bv_append]
  rfl
theorem be_cell (l : List UInt8) (t : Nat) (h : t < l.length) : (bv (l.take t ++ List.replicate (l.length - t) 0))[t]? = some (.int .u8 0) := by
  have e : l.length - t = (l.length - (t + 1)) + 1 := by omega
  have e2 : (bv (l.take t)).length = t := by rw [bv_length, List.length_take]; omega
  rw [e, List.replicate_succ, bv_append, List.getElem?_append_right (by omega), e2, Nat.sub_self]
  rfl
theorem be_get (size n t : Nat) (h : t < (be size n).length) : (((be size n)[t]).toNat : Int) = (n : Int) / 2 ^ (8 * (size - 1 - t)) % 256 := by
  simp [be]
theorem be_len (size n : Nat) : (be size n).length = size := by simp [be]

set_option maxRecDepth 100000 in
set_option maxHeartbeats 1000000 in
theorem number_calls (n size : Nat) (w : World) (hn : n < 18446744073709551616) (hs : 0 < size ∧ size ≤ 8) :
    Calls Tryd.prog 99 #[.int .u64 n, .int .i64 size] w fun e w' => e = .returned (.slice (some ⟨w.heap.size, 0, none⟩) size size) ∧ Has w' w.heap.size (bv (be size n)) 5 ∧ Mod (fun _ => False) w w' := by
  have hmk := make_bytes size (by omega) w
  obtain ⟨hs0, hs1⟩ := hs
  go_enter Tryd.func99, Tryd.ntmps99
  go_wp2_with fail
  go_loopw [11] (fun i w' => ∃ (t : Nat), i = .int .i64 t ∧ t ≤ size ∧ Has w' w.heap.size (bv ((be size n).take t ++ List.replicate (size - t) 0)) 5 ∧ Hid (Mod (fun _ => False) w w')) (fun i _ => size - (intOf i).toNat)
  case atStart => exact ⟨0, by go_num, by omega, by simpa using Has.new w (bv (List.replicate size 0)) 5, Lib.hid (Mod.alloc (Mod.refl _ _) _)⟩
  case round =>
    obtain ⟨t, rfl, ht, hh, HM⟩ := hrel
    by_cases hlt : t < size
    · have i1 : (t : Int) < (size : Int) := by omega
      obtain ⟨s, hsh⟩ : ∃ s : Nat, 8 * ((size : Int) - 1 - (t : Int)) = (s : Int) ∧ s = 8 * (size - 1 - t) := ⟨8 * (size - 1 - t), by omega, rfl⟩
      have hlen := be_len size n
      have hcl := hh.cell (hlen ▸ be_cell (be size n) t (by omega))
      have hst := hlen ▸ be_set (be size n) t (by omega)
      rw [be_get] at hst
      have hfz := hh.frozen t
      go_wp2_with fail
      refine ⟨⟨t + 1, by go_num, by omega, hst ▸ hh.set t _, Lib.hid (HM.out.setCell (p := ⟨w.heap.size, t, none⟩) (.inr (Nat.le_refl _)) _)⟩, by simp [intOf]; omega⟩
    · obtain rfl : t = size := by omega
      rw [List.take_of_length_le (by rw [be_len]; omega), Nat.sub_self, List.replicate_zero, List.append_nil] at hh
      go_wp2_with fail
      go_ret
      exact ⟨rfl, hh, HM.out⟩
end Hash
end Go.Proofs.YtenamjldkaggcaaDoor
