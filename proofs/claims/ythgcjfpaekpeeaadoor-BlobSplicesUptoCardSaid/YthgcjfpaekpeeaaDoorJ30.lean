/- Joined texts: BlobM. -/
import Derived.Test.YthgcjfpaekpeeaaDoorJ29
/- The walk of the reference's Build. -/
namespace Go.Proofs.YthgcjfpaekpeeaaDoor
set_option linter.unusedVariables false
set_option linter.unusedSimpArgs false
open Go.RowKit K Wire Go.Maps
namespace Blob
open Go.Proofs.YthgcjfpaekpeeaaDoor.Obj

def cutD (a : ByteArray) : ByteArray := if a.size ≤ 262145 then a else a.extract 0 262145

theorem cutD_size (a : ByteArray) : (cutD a).size ≤ 262145 := by
  unfold cutD
  split
  · assumption
  · rw [ByteArray.size_extract]; omega

set_option maxHeartbeats 400000 in
theorem cut_calls (a : ByteArray) (w : World) (ha : a.size ≤ 140737488351232) :
    Calls Tryd.prog 8 #[.string a] w fun e w' => e = .returned (.string (cutD a)) ∧ w' = w := by
  by_cases h : a.size ≤ 262145
  · go_enter Tryd.func8, Tryd.ntmps8
    go_wp2_with fail
    go_ret
    rw [cutD, if_pos h]
    have hm : (min (a.size : Int) 262145).toNat = a.size := by omega
    refine ⟨?_, rfl⟩
    show Ending.returned (Value.string (a.extract 0 (min (a.size : Int) 262145).toNat)) = _
    rw [hm, ByteArray.extract_zero_size]
  · go_enter Tryd.func8, Tryd.ntmps8
    go_wp2_with fail
    go_ret
    rw [cutD, if_neg (by omega)]
    have hm : (min (a.size : Int) 262145).toNat = 262145 := by omega
    refine ⟨?_, rfl⟩
    show Ending.returned (Value.string (a.extract 0 (min (a.size : Int) 262145).toNat)) = _
    rw [hm]

set_option maxRecDepth 100000 in
set_option maxHeartbeats 4000000 in
theorem rBuild_long (data : ByteArray) (w : World) (hs : data.size ≤ 1048576) (hd : 262144 < data.size) :
    Calls Tryd.prog 10 #[.string data] w (BuildPost data.data.toList w) := by
  have hb : buildR data.data.toList = (⟨⟨#[]⟩, 0⟩, [], 100) := by
    unfold buildR
    rw [if_neg (by show ¬ data.size ≤ 262144; omega)]
  unfold BuildPost
  rw [hb]
  clear hb
  have i1 : (262144 : Int) < (data.size : Int) := by omega
  go_enter Tryd.func10, Tryd.ntmps10
  go_wp2_with fail
  refine bodyPost_ret (v := .tuple #[.agg #[.string ⟨#[]⟩, .int .i64 0], .slice none 0 0, .int .i64 100]) (by simp [results, Tryd.results10, go_sem]) rfl ⟨_, rfl, World.ownsRow_nil _ _ _ _, by (repeat (first | with_reducible exact Mod.refl _ _ | with_reducible apply Mod.drew | with_reducible apply Mod.drewN | with_reducible apply Mod.alloc | refine Mod.set1 ?_ (by first | exact rfl | simp) _ _))⟩
/-! groups, as the reference makes them -/
theorem gr_end {acc : List Part} {k : Part} {r : List Part} (h : endsG (acc.length + 1) k.id = true ∨ r = []) : gr acc (k :: r) = (acc ++ [k]) :: gr [] r := by
  rw [gr_cons]
  split
  · rfl
  · rename_i h1
    rcases h with h | h
    · exact absurd h h1
    · subst h
      rw [gr_nil, gr_nil]
      simp
theorem gr_on {acc : List Part} {k : Part} {r : List Part} (h : endsG (acc.length + 1) k.id = false) : gr acc (k :: r) = gr (acc ++ [k]) r := by
  rw [gr_cons, if_neg (by rw [h]; decide)]
theorem ends_small {n : Nat} {id : ByteArray} (h : endsG n id = false) : n ≠ 32 := fun e => by
  subst e
  simp [endsG] at h
end Blob
end Go.Proofs.YthgcjfpaekpeeaaDoor
