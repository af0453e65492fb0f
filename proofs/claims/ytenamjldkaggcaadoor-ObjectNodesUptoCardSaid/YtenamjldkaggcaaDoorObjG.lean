/- The walks of TakeChunk, and of the reference's small functions. -/
import Derived.Test.YtenamjldkaggcaaDoorObjTb
import Derived.Test.YtenamjldkaggcaaDoorHashRs
namespace Go.Proofs.YtenamjldkaggcaaDoor
set_option linter.unusedVariables false
set_option linter.unusedSimpArgs false
open Go.RowKit K Wire
namespace Obj

def ChunkP (s : ByteArray) : Prop := ∃ h : 0 < s.size, (s[0]'h).toNat = 67 ∧ s.size ≤ 1025
open Classical in
/-- what TakeChunk answers -/
noncomputable def okChunk (s : ByteArray) : Bool := decide (ChunkP s)
noncomputable def chunkT (s : ByteArray) : Value := .tuple #[.string (if okChunk s then s.extract 1 s.size else ⟨#[]⟩), errV (okChunk s)]
theorem chunkT_no {s : ByteArray} (h : ¬ ChunkP s) : chunkT s = .tuple #[.string ⟨#[]⟩, .int .i64 81] := by
  have : okChunk s = false := by simp [okChunk, h]
  unfold chunkT; rw [this]; rfl
theorem chunkT_yes {s : ByteArray} (h : ChunkP s) : chunkT s = .tuple #[.string (s.extract 1 s.size), .int .i64 0] := by
  have : okChunk s = true := by simp [okChunk, h]
  unfold chunkT; rw [this]; rfl

set_option maxRecDepth 100000 in
theorem takeChunk_calls (s : ByteArray) (w : World) (hs : s.size ≤ 100000000) : Calls Tryd.prog 10 #[.string s] w fun e w' => e = .returned (chunkT s) ∧ Mod (fun _ => False) w w' := by
  by_cases h0 : s.size = 0
  · have hT : chunkT s = .tuple #[.string ⟨#[]⟩, .int .i64 81] := chunkT_no (by rintro ⟨h, _⟩; omega)
    have hs0 : s = ⟨#[]⟩ := by
      apply ByteArray.ext; exact Array.eq_empty_of_size_eq_zero h0
    rw [hT]
    subst hs0
    clear hs h0 hT
    go_enter Tryd.func10, Tryd.ntmps10
    go_wp2_with fail
    refine bodyPost_ret (v := .tuple #[.string ⟨#[]⟩, .int .i64 81]) (by first | rfl | simp [results, Tryd.results10, go_sem]) rfl ⟨rfl, by (repeat (first | with_reducible exact Mod.refl _ _ | with_reducible apply Mod.drew | with_reducible apply Mod.drewN | with_reducible apply Mod.alloc | refine Mod.set1 ?_ (by first | exact rfl | simp) _ _))⟩
  · have he : s.toList.isEmpty = false := str_full s (by omega)
    have hp : 0 < s.size := by omega
    have hz : ((s.size : Int) == 0) = false := by simp; exact fun h => h0 (by rw [h]; rfl)
    have hnz : ¬ s = ByteArray.empty := fun h => h0 (by rw [h]; rfl)
    obtain ⟨c, hc⟩ : ∃ c, s[0] = c := ⟨_, rfl⟩
    have e0 : ∀ h : 0 < s.size, s[0]'h = c := fun _ => hc
    by_cases h1 : c.toNat = 67
    · have i1 : (c.toNat : Int) = 67 := by omega
      by_cases h2 : s.size ≤ 1025
      · have hT : chunkT s = .tuple #[.string (s.extract 1 s.size), .int .i64 0] := chunkT_yes ⟨hp, by rw [hc]; exact h1, h2⟩
        rw [hT]
        clear hs hT h1 h0 hc
        go_enter Tryd.func10, Tryd.ntmps10
        go_wp2_with fail
        refine bodyPost_ret (v := .tuple #[.string (s.extract 1 s.size), .int .i64 0]) (by first | rfl | simp [results, Tryd.results10, go_sem]) rfl ⟨rfl, by (repeat (first | with_reducible exact Mod.refl _ _ | with_reducible apply Mod.drew | with_reducible apply Mod.drewN | with_reducible apply Mod.alloc | refine Mod.set1 ?_ (by first | exact rfl | simp) _ _))⟩
      · have hT : chunkT s = .tuple #[.string ⟨#[]⟩, .int .i64 81] := chunkT_no (by rintro ⟨_, _, h⟩; omega)
        rw [hT]
        clear hs hT h1 h0 hc
        go_enter Tryd.func10, Tryd.ntmps10
        go_wp2_with fail
        refine bodyPost_ret (v := .tuple #[.string ⟨#[]⟩, .int .i64 81]) (by first | rfl | simp [results, Tryd.results10, go_sem]) rfl ⟨rfl, by (repeat (first | with_reducible exact Mod.refl _ _ | with_reducible apply Mod.drew | with_reducible apply Mod.drewN | with_reducible apply Mod.alloc | refine Mod.set1 ?_ (by first | exact rfl | simp) _ _))⟩
    · have i1 : ¬ (c.toNat : Int) = 67 := by omega
      have hT : chunkT s = .tuple #[.string ⟨#[]⟩, .int .i64 81] := chunkT_no (by rintro ⟨_, h, _⟩; exact h1 (by rw [← hc]; exact h))
      rw [hT]
      clear hs hT h1 h0 hc
      go_enter Tryd.func10, Tryd.ntmps10
      go_wp2_with fail
      refine bodyPost_ret (v := .tuple #[.string ⟨#[]⟩, .int .i64 81]) (by first | rfl | simp [results, Tryd.results10, go_sem]) rfl ⟨rfl, by (repeat (first | with_reducible exact Mod.refl _ _ | with_reducible apply Mod.drew | with_reducible apply Mod.drewN | with_reducible apply Mod.alloc | refine Mod.set1 ?_ (by first | exact rfl | simp) _ _))⟩

set_option maxRecDepth 100000 in
theorem refTakeChunk_calls (s : ByteArray) (w : World) (hs : s.size ≤ 100000000) : Calls Tryd.prog 32 #[.string s] w fun e w' => e = .returned (chunkT s) ∧ Mod (fun _ => False) w w' := by
  by_cases h0 : s.size = 0
  · have hT : chunkT s = .tuple #[.string ⟨#[]⟩, .int .i64 81] := chunkT_no (by rintro ⟨h, _⟩; omega)
    have hs0 : s = ⟨#[]⟩ := by
      apply ByteArray.ext; exact Array.eq_empty_of_size_eq_zero h0
    rw [hT]
    subst hs0
    clear hs h0 hT
    go_enter Tryd.func32, Tryd.ntmps32
    go_wp2_with fail
    refine bodyPost_ret (v := .tuple #[.string ⟨#[]⟩, .int .i64 81]) (by first | rfl | simp [results, Tryd.results32, go_sem]) rfl ⟨rfl, by (repeat (first | with_reducible exact Mod.refl _ _ | with_reducible apply Mod.drew | with_reducible apply Mod.drewN | with_reducible apply Mod.alloc | refine Mod.set1 ?_ (by first | exact rfl | simp) _ _))⟩
  · have he : s.toList.isEmpty = false := str_full s (by omega)
    have hp : 0 < s.size := by omega
    have hz : ((s.size : Int) == 0) = false := by simp; exact fun h => h0 (by rw [h]; rfl)
    have hnz : ¬ s = ByteArray.empty := fun h => h0 (by rw [h]; rfl)
    obtain ⟨c, hc⟩ : ∃ c, s[0] = c := ⟨_, rfl⟩
    have e0 : ∀ h : 0 < s.size, s[0]'h = c := fun _ => hc
    by_cases h1 : c.toNat = 67
    · have i1 : (c.toNat : Int) = 67 := by omega
      by_cases h2 : s.size ≤ 1025
      · have hT : chunkT s = .tuple #[.string (s.extract 1 s.size), .int .i64 0] := chunkT_yes ⟨hp, by rw [hc]; exact h1, h2⟩
        rw [hT]
        clear hs hT h1 h0 hc
        go_enter Tryd.func32, Tryd.ntmps32
        go_wp2_with fail
        refine bodyPost_ret (v := .tuple #[.string (s.extract 1 s.size), .int .i64 0]) (by first | rfl | simp [results, Tryd.results32, go_sem]) rfl ⟨rfl, by (repeat (first | with_reducible exact Mod.refl _ _ | with_reducible apply Mod.drew | with_reducible apply Mod.drewN | with_reducible apply Mod.alloc | refine Mod.set1 ?_ (by first | exact rfl | simp) _ _))⟩
      · have hT : chunkT s = .tuple #[.string ⟨#[]⟩, .int .i64 81] := chunkT_no (by rintro ⟨_, _, h⟩; omega)
        rw [hT]
        clear hs hT h1 h0 hc
        go_enter Tryd.func32, Tryd.ntmps32
        go_wp2_with fail
        refine bodyPost_ret (v := .tuple #[.string ⟨#[]⟩, .int .i64 81]) (by first | rfl | simp [results, Tryd.results32, go_sem]) rfl ⟨rfl, by (repeat (first | with_reducible exact Mod.refl _ _ | with_reducible apply Mod.drew | with_reducible apply Mod.drewN | with_reducible apply Mod.alloc | refine Mod.set1 ?_ (by first | exact rfl | simp) _ _))⟩
    · have i1 : ¬ (c.toNat : Int) = 67 := by omega
      have hT : chunkT s = .tuple #[.string ⟨#[]⟩, .int .i64 81] := chunkT_no (by rintro ⟨_, h, _⟩; exact h1 (by rw [← hc]; exact h))
      rw [hT]
      clear hs hT h1 h0 hc
      go_enter Tryd.func32, Tryd.ntmps32
      go_wp2_with fail
      refine bodyPost_ret (v := .tuple #[.string ⟨#[]⟩, .int .i64 81]) (by first | rfl | simp [results, Tryd.results32, go_sem]) rfl ⟨rfl, by (repeat (first | with_reducible exact Mod.refl _ _ | with_reducible apply Mod.drew | with_reducible apply Mod.drewN | with_reducible apply Mod.alloc | refine Mod.set1 ?_ (by first | exact rfl | simp) _ _))⟩

set_option maxRecDepth 100000 in
theorem number_calls (n : Int) (w : World) (hn : In64 n) : Calls Tryd.prog 61 #[.int .i64 n] w (BytesPost (enc n) w) := by
  have HP := Lib.hid (refInt_calls n w hn)
  go_enter Tryd.func61, Tryd.ntmps61
  go_wp2_with fail
  refine HP.out.mono ?_
  rintro e w1 ⟨v, rfl, ho, hm⟩
  go_wp2_with fail
  go_ret
  exact ⟨v, rfl, ho, hm⟩
set_option maxRecDepth 100000 in
theorem rtext_calls (s : ByteArray) (w : World) (hs : s.size ≤ 100000000) : Calls Tryd.prog 62 #[.string s] w (BytesPost (encT s.data.toList) w) := by
  have HP := Lib.hid (refText_calls s w (by omega))
  go_enter Tryd.func62, Tryd.ntmps62
  go_wp2_with fail
  refine HP.out.mono ?_
  rintro e w1 ⟨v, rfl, ho, hm⟩
  go_wp2_with fail
  go_ret
  exact ⟨v, rfl, ho, hm⟩
set_option maxRecDepth 100000 in
theorem isId_calls (s : ByteArray) (w : World) : Calls Tryd.prog 87 #[.string s] w fun e w' => e = .returned (.bool (decide (s.size = 32))) ∧ Mod (fun _ => False) w w' := by
  go_enter Tryd.func87, Tryd.ntmps87
  go_wp2_with fail
  go_ret
  refine ⟨?_, by (repeat (first | with_reducible exact Mod.refl _ _ | with_reducible apply Mod.drew | with_reducible apply Mod.drewN | with_reducible apply Mod.alloc | refine Mod.set1 ?_ (by first | exact rfl | simp) _ _))⟩
  congr 2
  by_cases h : s.size = 32
  · simp [h]
  · simp [h]; omega
set_option maxRecDepth 100000 in
theorem isKey_calls (s : ByteArray) (w : World) : Calls Tryd.prog 83 #[.string s] w fun e w' => e = .returned (.bool (inR (s.size : Int) 1 64)) ∧ Mod (fun _ => False) w w' := by
  by_cases h1 : 1 ≤ (s.size : Int)
  · go_enter Tryd.func83, Tryd.ntmps83
    go_wp2_with fail
    go_ret
    refine ⟨?_, by (repeat (first | with_reducible exact Mod.refl _ _ | with_reducible apply Mod.drew | with_reducible apply Mod.drewN | with_reducible apply Mod.alloc | refine Mod.set1 ?_ (by first | exact rfl | simp) _ _))⟩
    simp [inR, h1]
  · have hk : inR (s.size : Int) 1 64 = false := by simp [inR, h1]
    rw [hk]
    go_enter Tryd.func83, Tryd.ntmps83
    go_wp2_with fail
    go_ret
    exact ⟨rfl, by (repeat (first | with_reducible exact Mod.refl _ _ | with_reducible apply Mod.drew | with_reducible apply Mod.drewN | with_reducible apply Mod.alloc | refine Mod.set1 ?_ (by first | exact rfl | simp) _ _))⟩
end Obj
end Go.Proofs.YtenamjldkaggcaaDoor
