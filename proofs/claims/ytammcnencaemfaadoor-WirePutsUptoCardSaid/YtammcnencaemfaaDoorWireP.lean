/- The walks of tussocklaw01.ahead and .stays. -/
import Derived.Test.YtammcnencaemfaaDoorWireShortL
import Derived.Test.YtammcnencaemfaaDoorKa
import Derived.OwnWalk
namespace Go.Proofs.YtammcnencaemfaaDoor
open Go.RowKit K
namespace Wire

def marks (k : Nat) : List Value := List.replicate k (.int .u8 165)

theorem marks_set (l : List UInt8) (j : Nat) (v : Value) (r : List Value) : (bv l ++ (marks j ++ (v :: r))).set (l.length + j) (.int .u8 165) = bv l ++ (marks (j + 1) ++ r) := by
  rw [List.set_append_right _ _ (by rw [bv_length]; omega), bv_length, Nat.add_sub_cancel_left, List.set_append_right _ _ (by simp [marks])]
  simp only [marks, List.length_replicate, Nat.sub_self, List.set_cons_zero]
  rw [List.replicate_succ', List.append_assoc, List.singleton_append]

set_option maxRecDepth 100000 in
set_option maxHeartbeats 1000000 in
theorem ahead_calls (B : Option Addr) (cb : Nat) (l : List UInt8) (w : World) (hb : BytesIn w B cb l) (hl2 : l.length ≤ 1048576) :
    Calls Tryd.prog 16 #[.slice B l.length cb] w fun e w' => ∃ g, e = .returned (.slice (some ⟨g, 0, none⟩) l.length (l.length + 40)) ∧ w.heap.size ≤ g ∧ Has w' g (bv l ++ marks 40) 5 ∧ Mod (fun _ => False) w w' := by
  have HB := Lib.hid hb
  have hbc := hb.cap
  clear hb
  obtain ⟨i, hi, hz0, hz1, hz2⟩ := info_parts (P := Tryd.prog) (e := 5) (z := .int .u8 0) (size := 1) (bytes := 1) (by kernel_rfl)
  have hsum : IntKind.i64.wrap ((l.length : Int) + 40) = ((l.length + 40 : Nat) : Int) := by rw [IntKind.wrap_i64]; omega
  have hB0 : B = none → l.length = 0 ∧ cb = 0 := fun h => ⟨by rw [HB.out.nil h]; rfl, by rcases HB.out.adr with h' | ⟨b, o, h'⟩; exact h'; rw [h] at h'; cases h'⟩
  go_enter Tryd.func16, Tryd.ntmps16
  go_wp2_with (first
    | fail
    | (refine wpList_make_own _ rfl _ _ _ rfl w.heap.size 5 i _ 1 Tryd.underlying22 hi hz0 hz1 .i64 .i64 _ (l.length + 40) rfl rfl (by first | exact hsum | (simp; done) | omega) (by rw [hz2]; omega) (by unfold maxLen; omega) (Nat.le_refl _) ?_; intro w1 hown hgr)
    | (at_builtin; go_must (refine wpList_append_fits_any _ rfl _ _ _ rfl w.heap.size 5 i 1 Tryd.underlying22 hi hz1 w.heap.size 0 (l.length + 40) [] rfl hown B l.length cb (bv l) rfl (by rw [bv_length]; omega) hB0 ?hc (bv_one l) (by omega) ?_)))
  case hc =>
    intro ad had j u hj
    have hm := Mod.grown (S := fun _ => False) (Mod.refl _ _) hgr (fun k hk => by cases hk)
    rcases HB.out.cells.keep hm (fun _ _ h => h) with h | ⟨b, o, h, hc⟩
    · rw [h] at hj; simp at hj
    · rw [had] at h; obtain rfl := Option.some.inj h
      rw [Addr.add_lit]; exact hc j u hj
  intro w2 hown2 hgr2
  have hm2 : Mod (fun _ => False) w w2 := Mod.grown (Mod.grown (Mod.refl _ _) hgr (fun k hk => by cases hk)) hgr2 (fun k hk hl => by cases hk; omega)
  obtain ⟨-, ⟨h, -⟩ | ⟨g, cap, cur, h, hg, hh, -, -, hsz, htk⟩⟩ := hown2
  · cases h
  simp at h
  obtain ⟨rfl, rfl⟩ := h
  obtain ⟨rest, hrl, hrest⟩ : ∃ rest : List Value, rest.length = 40 ∧ cur.toList = bv l ++ rest := by
    refine ⟨cur.toList.drop l.length, by simp; omega, ?_⟩
    rw [← htk, Nat.mul_one, List.take_append_drop]
  have hhas : Has w2 w.heap.size (bv l ++ rest) 5 := by unfold Has; rw [← hrest]; simpa using hh
  clear hh hsz htk hrest hgr hgr2 hown
  have hsl := slice_to (P := Tryd.prog) 22 5 (l.length + 40) l.length (l.length + 40) (some ⟨w.heap.size, 0, none⟩) Tryd.underlying22 rfl (.inr ⟨_, _, rfl⟩) (by omega) (by omega)
  have HM2 := Lib.hid hm2
  clear hm2
  go_wp2_with fail
  clear hsl
  go_loopw [5] (fun k w' => ∃ (j : Nat) (r : List Value), k = .int .i64 ((l.length + j : Nat) : Int) ∧ j + r.length = 40 ∧ Has w' w.heap.size (bv l ++ (marks j ++ r)) 5 ∧ Hid (Mod (fun _ => False) w w')) (fun k _ => l.length + 40 - (intOf k).toNat)
  case atStart => exact ⟨0, rest, by go_num, by omega, by simpa [marks] using hhas, HM2⟩
  case round =>
    obtain ⟨j, r, rfl, hj, hh, HM⟩ := hrel
    by_cases hlt : j < 40
    · have hcell : ∃ v, (bv l ++ (marks j ++ r))[l.length + j]? = some v := by
        refine ⟨_, List.getElem?_eq_getElem ?_⟩
        simp [bv_length, marks]; omega
      obtain ⟨v, hv⟩ := hcell
      have hc := hh.cell hv
      have hf := hh.frozen (l.length + j)
      go_wp2_with fail
      cases r with
      | nil => simp at hj; omega
      | cons v0 r =>
        refine ⟨⟨j + 1, r, by go_num, by simp at hj; omega, hh.set' (marks_set l j v0 r), Lib.hid (HM.out.set2 (Nat.le_refl _) _ _)⟩, by simp [intOf]; omega⟩
    · obtain rfl : j = 40 := by omega
      obtain rfl : r = [] := List.eq_nil_of_length_eq_zero (by omega)
      go_wp2_with fail
      go_ret
      exact ⟨_, rfl, Nat.le_refl _, by simpa using hh, HM.out⟩

set_option maxRecDepth 100000 in
set_option maxHeartbeats 1000000 in
theorem stays_calls (g : Nat) (B : Option Addr) (cb : Nat) (l : List UInt8) (w : World) (hh : Has w g (bv l ++ marks 40) 5) (hb : Cells w B (bv l)) (hl2 : l.length ≤ 1048576) :
    Calls Tryd.prog 19 #[.slice (some ⟨g, 0, none⟩) l.length (l.length + 40), .slice B l.length cb] w fun e w' => e = .returned (.bool true) ∧ Mod (fun _ => False) w w' := by
  have HH := Lib.hid hh
  have HB := Lib.hid hb
  clear hb hh
  have hsum : IntKind.i64.wrap ((l.length : Int) + 40) = ((l.length + 40 : Nat) : Int) := by rw [IntKind.wrap_i64]; omega
  have hsl := slice_to (P := Tryd.prog) 22 5 (l.length + 40) l.length (l.length + 40) (some ⟨g, 0, none⟩) Tryd.underlying22 rfl (.inr ⟨_, _, rfl⟩) (by omega) (by omega)
  go_enter Tryd.func19, Tryd.ntmps19
  go_wp2_with fail
  clear hsl
  go_loopw [6] (fun k w' => ∃ (j : Nat), k = .int .i64 ((l.length + j : Nat) : Int) ∧ j ≤ 40 ∧ Hid (Mod (fun _ => False) w w')) (fun k _ => l.length + 40 - (intOf k).toNat)
  case atStart => exact ⟨0, by go_num, by omega, Lib.hid (Mod.refl _ _)⟩
  case round =>
    obtain ⟨j, rfl, hj, HM⟩ := hrel
    have hh := HH.out.keep HM.out (fun h => h)
    by_cases hlt : j < 40
    · have hc := hh.cell (o := l.length + j) (v := .int .u8 165) (by rw [List.getElem?_append_right (by rw [bv_length]; omega), bv_length, Nat.add_sub_cancel_left]; exact List.getElem?_eq_some_iff.2 ⟨by simp [marks]; omega, List.getElem_replicate _⟩)
      have hf := hh.frozen (l.length + j)
      clear hh
      go_wp2_with fail
      exact ⟨⟨j + 1, by go_num, by omega, HM⟩, by simp [intOf]; omega⟩
    · obtain rfl : j = 40 := by omega
      have hA : Cells wr (some ⟨g, 0, none⟩) (bv l) := .inr ⟨g, 0, rfl, fun j u hj => by
        rw [Nat.zero_add]
        exact hh.cell (by rw [List.getElem?_append_left (List.getElem?_eq_some_iff.1 hj).1]; exact hj)⟩
      have hc1 := run_bytes (P := Tryd.prog) (l.length + 40) hA 22 9 5 Tryd.underlying22 Tryd.underlying5 Tryd.underlying9
      have hc2 := run_bytes (P := Tryd.prog) cb (HB.out.keep HM.out (fun _ _ h => h)) 22 9 5 Tryd.underlying22 Tryd.underlying5 Tryd.underlying9
      clear hA hh
      go_wp2_with fail
      go_ret
      exact ⟨rfl, HM.out⟩
end Wire
end Go.Proofs.YtammcnencaemfaaDoor
