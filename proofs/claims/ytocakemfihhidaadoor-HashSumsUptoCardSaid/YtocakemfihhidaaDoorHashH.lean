/- The walks of hash.Hex, tussocklaw02.joined and shown. -/
import Derived.Test.YtocakemfihhidaaDoorHashS
import Derived.Test.YtocakemfihhidaaDoorBldB
import Derived.Test.YtocakemfihhidaaDoorKa
namespace Go.Proofs.YtocakemfihhidaaDoor
open Go.RowKit K
namespace Hash

def digitsL : List UInt8 := [48, 49, 50, 51, 52, 53, 54, 55, 56, 57, 97, 98, 99, 100, 101, 102]
def hexB (c : UInt8) : List UInt8 := [digitsL.getD (c.toNat / 16) 0, digitsL.getD (c.toNat % 16) 0]
def hex (l : List UInt8) : List UInt8 := l.flatMap hexB

theorem hex_len (l : List UInt8) : (hex l).length = 2 * l.length := by
  induction l with
  | nil => rfl
  | cons c l ih => simp only [hex, List.flatMap_cons, List.length_append, List.length_cons] at *; rw [ih]; simp [hexB]; omega

theorem digit_at (i : Nat) (h : i < 16) (w : World) : (Instr.index 9 (.string ⟨#[48, 49, 50, 51, 52, 53, 54, 55, 56, 57, 97, 98, 99, 100, 101, 102]⟩) (.int .u8 (i : Int))).run Tryd.prog w = .ok (.int .u8 ((digitsL.getD i 0).toNat : Int)) w := by
  rw [run_index_string w 9 _ .u8 (i : Int) Tryd.underlying9]
  match i, h with
  | 0, _ | 1, _ | 2, _ | 3, _ | 4, _ | 5, _ | 6, _ | 7, _ | 8, _ | 9, _ | 10, _ | 11, _ | 12, _ | 13, _ | 14, _ | 15, _ => rfl
  | n + 16, h => omega

/-- []byte(text) -/
theorem to_bytes (s : ByteArray) (w : World) (hEm : s.size ≤ maxLen) : ∃ c w', (convert 9 25 (.string s)).run Tryd.prog w = .ok (.slice (some ⟨w.heap.size, 0, none⟩) s.size c) w' ∧
    Mod (fun _ => False) w w' ∧ Cells w' (some ⟨w.heap.size, 0, none⟩) (bv s.data.toList) ∧ s.size ≤ c ∧ c ≤ maxLen ∧ w.heap.size < w'.heap.size := by
  have h := Lib.run_convert_string_bytes (P := Tryd.prog) w 9 25 5 s Tryd.underlying9 Tryd.underlying25 Tryd.underlying5
  refine ⟨_, _, h, bytesWorld_mod (Mod.refl _ _) _ _, ?_, ?_, ?_, ?_⟩
  · exact bytesWorld_cells w 5 s
  · exact grownCap_ge w s.size 0 5
  · exact grownCap_le_maxLen w s.size 0 5 hEm
  · rw [Lib.bytesWorld_size]; exact Nat.lt_succ_self _

set_option maxRecDepth 100000 in
set_option maxHeartbeats 4000000 in
theorem hex_calls (s : ByteArray) (w : World) (hs : s.size ≤ 1048576) :
    Calls Tryd.prog 13 #[.string s] w fun e w' => e = .returned (.string ⟨(hex s.data.toList).toArray⟩) ∧ Mod (fun _ => False) w w' := by
  obtain ⟨c1, w1, hE, hM1, hC1, hN1, hx1, hg1⟩ := to_bytes s (w.alloc (.cells #[.pointer none, .slice none 0 0] 50)) (by unfold maxLen; omega)
  rw [size_alloc] at hE hC1 hg1
  have hHb := (Has.new w [.pointer none, .slice none 0 0] 50).keep hM1 (fun h => h)
  have hm0 : Mod (fun _ => False) w w1 := Mod.trans (Mod.alloc (Mod.refl _ _) _) hM1 (fun _ _ h => h)
  have hsz1 := hm0.size
  have HC := Lib.hid hC1
  have HM := Lib.hid hm0
  have hlen : s.data.toList.length = s.size := by simp
  clear hC1 hM1 hm0
  go_enter Tryd.func13, Tryd.ntmps13
  go_wp2_with fail
  go_loopw [9] (fun i w' => ∃ (t : Nat) (p v : Value) (acc : List UInt8), i = .int .i64 t ∧ t ≤ s.size ∧ Hid (acc = hex (s.data.toList.take t)) ∧ acc.length = 2 * t ∧ Has w' w.heap.size [p, v] 50 ∧ Addr0 w.heap.size 0 p ∧ w'.ownsRow (w.heap.size + 1 + 1) 5 1 v acc.length (bv acc) ∧ Hid (Cells w' (some ⟨w.heap.size + 1, 0, none⟩) (bv s.data.toList)) ∧ Hid (Mod (fun _ => False) w w')) (fun i _ => s.size - (intOf i).toNat)
  case atStart => exact ⟨0, _, _, [], by go_num, by omega, Lib.hid rfl, rfl, hHb, .inl rfl, World.ownsRow_nil _ _ _ _, HC, HM⟩
  case round =>
    obtain ⟨t, p, v, acc, rfl, ht, HA, hal, hHb, hp, hown, HC, HM⟩ := hrel
    by_cases hlt : t < s.size
    · have i1 : (t : Int) < (s.size : Int) := by omega
      rcases HC.out with h | ⟨b, o, hbo, hcell⟩
      · have := congrArg List.length h; rw [bv_length] at this; simp at this; rw [hlen] at hlen; simp [this] at hlt
      obtain ⟨rfl, rfl⟩ : w.heap.size + 1 = b ∧ 0 = o := by simpa using hbo
      have ci := hcell t _ (bv_get _ t (by omega))
      rw [Nat.zero_add] at ci
      obtain ⟨x, hx⟩ : ∃ x, s.data.toList[t] = x := ⟨_, rfl⟩
      rw [hx] at ci
      have hacc : acc ++ hexB x = hex (s.data.toList.take (t + 1)) := by
        rw [HA.out, hex, hex, List.take_succ_eq_append_getElem (by omega), List.flatMap_append, hx]; simp
      have hxl := x.toNat_lt
      have e1 : (x.toNat : Int) / 16 = ((x.toNat / 16 : Nat) : Int) := by omega
      have e2 : bits .and .u8 (x.toNat : Int) 15 = ((x.toNat % 16 : Nat) : Int) := by
        have := u8_and_nat x.toNat 15 hxl (by decide)
        rw [show (15 : Nat) = 2 ^ 4 - 1 from rfl, Nat.and_two_pow_sub_one_eq_mod] at this
        exact this
      have d1 := digit_at (x.toNat / 16) (by omega)
      have d2 := digit_at (x.toNat % 16) (by omega)
      have hxb : hexB x = [digitsL.getD (x.toNat / 16) 0, digitsL.getD (x.toNat % 16) 0] := rfl
      rw [hxb] at hacc
      generalize x.toNat / 16 = q1 at *
      generalize x.toNat % 16 = q2 at *
      generalize digitsL.getD q1 0 = g1 at *
      generalize digitsL.getD q2 0 = g2 at *
      have hsz := HM.out.size
      have hszw : w.heap.size + 1 < wr.heap.size := World.block_lt_of_cell? _ _ ci
      have hwb := writeByte_calls (w.heap.size + 1 + 1) w.heap.size 0 p v acc _ _ wr g1 hHb rfl rfl hp (by kernel_rfl) hown (by decide) (by omega) (by omega)
      have HWB := Lib.hid hwb
      have HAC := Lib.hid hacc
      clear hwb hacc hxb hcell hbo
      go_wp2_with fail
      refine HWB.out.mono ?_
      rintro e w2 ⟨rfl, v2, hh2, hown2, hm2⟩
      have hC2 := HC.out.keep hm2 (fun a ha hs => by obtain rfl := Option.some.inj ha; rcases hs with hs | ⟨hs, _⟩ <;> first | omega | (dsimp only at hs; omega))
      have hm2' : Mod (fun _ => False) w w2 := Mod.trans HM.out hm2 (fun i hi hs => by rcases hs with hs | ⟨hs, _⟩ <;> omega)
      have hsz2 := hm2.size
      have hwb := writeByte_calls (w.heap.size + 1 + 1) w.heap.size 0 _ v2 (acc ++ [g1]) _ _ w2 g2 hh2 rfl rfl (.inr rfl) (by kernel_rfl) hown2 (by decide) (by omega) (by simp; omega)
      have HWB2 := Lib.hid hwb
      have HC2 := Lib.hid hC2
      have HM2 := Lib.hid hm2'
      clear hwb hC2 hm2' hown2 hh2 hm2 HC HM HWB
      go_wp2_with fail
      refine HWB2.out.mono ?_
      rintro e w3 ⟨rfl, v3, hh3, hown3, hm3⟩
      have hC3 := HC2.out.keep hm3 (fun a ha hs => by obtain rfl := Option.some.inj ha; rcases hs with hs | ⟨hs, _⟩ <;> first | omega | (dsimp only at hs; omega))
      have hm3' : Mod (fun _ => False) w w3 := Mod.trans HM2.out hm3 (fun i hi hs => by rcases hs with hs | ⟨hs, _⟩ <;> omega)
      have HC3 := Lib.hid hC3
      have HM3 := Lib.hid hm3'
      have HH3 := Lib.hid hh3
      have HO3 := Lib.hid hown3
      clear hC3 hm3' hh3 hown3 hm3 HWB2
      go_wp2_with fail
      go_roundw
      case rel => exact ⟨t + 1, _, v3, acc ++ [g1] ++ [g2], by go_num, by omega, Lib.hid (by rw [List.append_assoc]; exact HAC.out), by simp; omega, HH3.out, .inr rfl, HO3.out, HC3, HM3⟩
      case measure => simp [intOf]; omega
    · have i1 : ¬ (t : Int) < (s.size : Int) := by omega
      have hacc : acc = hex s.data.toList := by rw [HA.out, List.take_of_length_le (by omega)]
      have hst := Tryd.Builder_String_any (w.heap.size) w.heap.size acc wr (by
        have hb : Lib.BuilderAt 50 5 w.heap.size w.heap.size p (Lib.byteCells acc) wr := ⟨Nat.le_refl _, v, hHb, by rw [Lib.byteCells_length]; exact own_base hown (by omega), own_ne hown hHb (by decide)⟩
        rcases hp with rfl | rfl
        · exact .inl hb
        · exact .inr hb) HM.out.size
      have HST := Lib.hid hst
      have HAC := Lib.hid hacc
      clear hst hacc hown hHb
      go_wp2_with fail
      refine HST.out.mono ?_
      rintro e w2 ⟨rfl, hb⟩
      go_wp2_with fail
      go_ret
      rw [← HAC.out]
      exact ⟨rfl, Mod.trans HM.out (⟨hb.os, hb.tape, hb.output, hb.size, fun k hk hs => hb.block k (Nat.lt_of_not_le hs)⟩ : Mod (fun k => w.heap.size ≤ k) wr w2) (fun i hi h => absurd h (by omega))⟩
end Hash
end Go.Proofs.YtocakemfihhidaaDoor
