/- The walk of tussocklaw01.shown. -/
import Derived.Test.YtammcnencaemfaaDoorWireH
import Derived.Test.YtammcnencaemfaaDoorKb
namespace Go.Proofs.YtammcnencaemfaaDoor
open Go.RowKit K
namespace Wire

theorem enc64 : enc 64 = [128, 1] := by
  rw [enc, show zig 64 = 128 from rfl, encU_big _ (by decide), encU_small _ (by decide)]; rfl
theorem take64 : takeI [128, 1] 0 = (64, 2, true) := by decide
theorem text_ab : takeT [4, 97, 98] 0 2 = ([97, 98], 3, true) := by decide
theorem crc9 : crc ([49, 50, 51, 52] ++ [53, 54, 55, 56, 57]) = 3421780262 := by decide +kernel

set_option maxRecDepth 100000 in
set_option maxHeartbeats 1000000 in
theorem shown_calls (w : World) (ht : Tab w) : Calls Tryd.prog 9 #[] w fun e w' => e = .returned (.bool true) ∧ Mod (fun _ => False) w w' := by
  have h1 := putInt_calls none 0 [] 64 w (.inl rfl) (by simp) (fun _ => rfl) (by unfold In64; omega)
  rw [List.nil_append, enc64] at h1
  have H1 := Lib.hid h1
  have HT := Lib.hid ht
  clear h1 ht
  have hcb := fun (w : World) (C : Array Value) (n c : Nat) => Lib.run_convert_bytes_const (P := Tryd.prog) w 22 5 C n c Tryd.underlying22 Tryd.underlying5
  go_enter Tryd.func9, Tryd.ntmps9
  go_wp2_with fail
  refine H1.out.mono ?_
  rintro e w1 ⟨v, rfl, hown, hm⟩
  obtain ⟨A, cap, rfl, hcap, hA, hadr, hc2⟩ := own_cells hown
  have h2 := takeInt_calls A cap _ 0 w1 hA (by simp) hcap hc2 hadr
  rw [take64] at h2
  have H2 := Lib.hid h2
  have HM := Lib.hid hm
  have HA := Lib.hid hA
  clear h2 hm hA hown H1
  go_wp2_with fail
  refine H2.out.mono ?_
  rintro e w' ⟨rfl, hw⟩; subst hw
  unfold vI
  go_wp2_with fail
  refine (takeText_calls (some ⟨w'.heap.size, 0, none⟩) 3 [4, 97, 98] 0 2 _ (show Cells (w'.alloc (.cells #[.int .u8 4, .int .u8 97, .int .u8 98] 5 (3, 4))) _ _ from lit_cells_fr w' (bv [4, 97, 98]) _ _) (by simp) (by simp) (by unfold maxLen; omega) (.inr ⟨_, _, rfl⟩)).mono ?_
  rintro e w1 ⟨rfl, hw⟩; subst hw
  rw [text_ab]
  unfold vT
  have hA3 := HA.out.alloc (.cells #[Value.int .u8 4, .int .u8 97, .int .u8 98] 5 (3, 4))
  have hcv : (convert 22 9 (.slice A 2 cap)).run Tryd.prog _ = .ok (.string ⟨#[128, 1]⟩) _ := run_bytes (P := Tryd.prog) cap hA3 22 9 5 Tryd.underlying22 Tryd.underlying5 Tryd.underlying9
  have hcb1 : ∀ (o : Obj) (C : Array Value) (n c : Nat), (convert 22 22 (.slice (some ⟨w'.heap.size + 1, 0, none⟩) n c)).run Tryd.prog ((w'.alloc o).alloc (.cells C 5)) = .ok (.slice (some ⟨w'.heap.size + 1, 0, none⟩) n c) ((w'.alloc o).alloc (.cells C 5 (C.size, C.size + 1))) := fun o C n c => by
    have := hcb (w'.alloc o) C n c
    rw [size_alloc] at this; exact this
  have hcb2 : ∀ (o o' : Obj) (C : Array Value) (n c : Nat), (convert 22 22 (.slice (some ⟨w'.heap.size + 1 + 1, 0, none⟩) n c)).run Tryd.prog (((w'.alloc o).alloc o').alloc (.cells C 5)) = .ok (.slice (some ⟨w'.heap.size + 1 + 1, 0, none⟩) n c) (((w'.alloc o).alloc o').alloc (.cells C 5 (C.size, C.size + 1))) := fun o o' C n c => by
    have := hcb ((w'.alloc o).alloc o') C n c
    rw [size_alloc, size_alloc] at this; exact this
  go_wp2_with fail
  refine (crc_calls _ 2 [(some ⟨w'.heap.size + 1, 0, none⟩, 4, [49, 50, 51, 52]), (some ⟨w'.heap.size + 1 + 1, 0, none⟩, 5, [53, 54, 55, 56, 57])] _ ?ht ⟨?hr, ?he⟩ (by simp)).mono ?_
  case ht =>
    refine HT.out.keep (S := fun _ => False) ?_ (fun h => h)
    exact Mod.alloc (Mod.alloc (Mod.alloc (Mod.alloc HM.out _) _) _) _
  case hr =>
    have := lit_cells (((w'.alloc (.cells #[.int .u8 4, .int .u8 97, .int .u8 98] 5 (3, 4))).alloc (.cells #[.int .u8 49, .int .u8 50, .int .u8 51, .int .u8 52] 5 (4, 5))).alloc (.cells #[.int .u8 53, .int .u8 54, .int .u8 55, .int .u8 56, .int .u8 57] 5 (5, 6)))
      [.slice (some ⟨w'.heap.size + 1, 0, none⟩) 4 4, .slice (some ⟨w'.heap.size + 1 + 1, 0, none⟩) 5 5] 22
    rw [size_alloc, size_alloc, size_alloc] at this
    exact this
  case he =>
    intro p hp
    simp only [List.mem_cons, List.not_mem_nil, or_false] at hp
    rcases hp with rfl | rfl
    · refine ⟨?_, by simp⟩
      have := lit_cells_fr (w'.alloc (.cells #[.int .u8 4, .int .u8 97, .int .u8 98] 5 (3, 4))) (bv [49, 50, 51, 52]) 5 (4, 5)
      rw [size_alloc] at this
      exact (this.alloc _).alloc _
    · refine ⟨?_, by simp⟩
      have := lit_cells_fr ((w'.alloc (.cells #[.int .u8 4, .int .u8 97, .int .u8 98] 5 (3, 4))).alloc (.cells #[.int .u8 49, .int .u8 50, .int .u8 51, .int .u8 52] 5 (4, 5))) (bv [53, 54, 55, 56, 57]) 5 (5, 6)
      rw [size_alloc, size_alloc] at this
      exact this.alloc _
  rintro e w2 ⟨rfl, hw⟩; subst hw
  rw [show crc (List.flatMap (fun p : Option Addr × Nat × List UInt8 => p.2.2) [(some ⟨w'.heap.size + 1, 0, none⟩, 4, [49, 50, 51, 52]), (some ⟨w'.heap.size + 1 + 1, 0, none⟩, 5, [53, 54, 55, 56, 57])]) = 3421780262 from crc9]
  go_wp2_with fail
  go_ret
  exact ⟨rfl, Mod.alloc (Mod.alloc (Mod.alloc (Mod.alloc HM.out _) _) _) _⟩
end Wire
end Go.Proofs.YtammcnencaemfaaDoor
