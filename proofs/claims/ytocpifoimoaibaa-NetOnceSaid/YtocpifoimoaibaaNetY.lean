/- The walks of the net: New, Sent, Left, Ask. -/
import Derived.Test.YtocpifoimoaibaaNetX
import Derived.Laws.EntriesVeiled
namespace Go.Proofs.Ytocpifoimoaibaa
set_option linter.unusedVariables false
set_option linter.unusedSimpArgs false
open Go.RowKit K
namespace Net

def NewPost (sf : Value) (l : List Fate) (w : World) (e : Ending) (w' : World) : Prop :=
  ∃ p : NP, e = .returned (.tuple #[.pointer (some ⟨p.bn, 0, none⟩), .int .i64 0]) ∧ NetAt w' sf p 0 l [] [] ∧ (∀ k, p.fp k → w.heap.size ≤ k) ∧ Mod (fun _ => False) w w'

theorem eql_nil (w : World) : (binOp .eql 25 .nilFunc .nilFunc).run Try.prog w = .ok (.bool true) w := by kernel_rfl
theorem eql_fn (w : World) (ks : Nat) (caps : Array Value) : (binOp .eql 25 (.func (.func ks) #[] caps) .nilFunc).run Try.prog w = .ok (.bool false) w := by kernel_rfl

set_option maxRecDepth 100000 in
theorem new_nil (A : Option Addr) (n c : Nat) (w : World) : Calls Try.prog 9 #[.nilFunc, .slice A n c] w fun e w' => e = .returned (.tuple #[.pointer none, .int .i64 1]) ∧ Mod (fun _ => False) w w' := by
  have hq := eql_nil w
  go_enter Try.func9, Try.ntmps9
  go_wp2_with fail
  go_ret2
  exact ⟨rfl, by (repeat (first | with_reducible exact Mod.refl _ _ | with_reducible apply Mod.drew | with_reducible apply Mod.drewN | with_reducible apply Mod.alloc | refine Mod.set1 ?_ (by first | exact rfl | simp) _ _))⟩

set_option maxRecDepth 100000 in
set_option maxHeartbeats 1000000 in
theorem new_bad (ks : Nat) (caps : Array Value) (A : Option Addr) (c : Nat) (l : List Fate) (w : World) (hA : Cells w A (fcs l)) (hc : l.length ≤ c) (hm : c ≤ maxLen) (hb : anyBad l = true) :
    Calls Try.prog 9 #[.func (.func ks) #[] caps, .slice A l.length c] w fun e w' => e = .returned (.tuple #[.pointer none, .int .i64 150]) ∧ Mod (fun _ => False) w w' := by
  have HC := Lib.hid (contains_calls A c l w hA hc hm)
  rw [hb] at HC
  clear hA
  have hq := eql_fn w ks caps
  go_enter Try.func9, Try.ntmps9
  go_wp2_with fail
  refine HC.out.mono ?_
  rintro e w1 ⟨rfl, hm1⟩
  have HM := Lib.hid hm1
  clear hm1
  go_wp2_with fail
  go_ret2
  exact ⟨rfl, HM.out⟩

set_option maxRecDepth 100000 in
set_option maxHeartbeats 1000000 in
theorem new_calls (ks : Nat) (caps : Array Value) (A : Option Addr) (c : Nat) (l : List Fate) (w : World) (hA : Cells w A (fcs l)) (hc : l.length ≤ c) (hm : c ≤ maxLen) (hb : anyBad l = false) (h24 : l.length * 24 ≤ 140737488355328) :
    Calls Try.prog 9 #[.func (.func ks) #[] caps, .slice A l.length c] w (NewPost (.func (.func ks) #[] caps) l w) := by
  have HC := Lib.hid (contains_calls A c l w hA hc hm)
  rw [hb] at HC
  have HA := Lib.hid hA
  clear hA
  have hq := eql_fn w ks caps
  go_enter Try.func9, Try.ntmps9
  go_wp2_with fail
  refine HC.out.mono ?_
  rintro e w1 ⟨rfl, hm1⟩
  have HM := Lib.hid hm1
  have HA1 := Lib.hid (HA.out.keep hm1 (fun _ _ h => h))
  clear hm1
  go_wp2_with fail
  refine (clone_calls A c l w1 HA1.out h24).mono ?_
  rintro e w2 ⟨A2, c2, rfl, hF, hA2, hm2⟩
  have HM2 := Lib.hid (Mod.trans HM.out hm2 (fun _ _ h => h))
  have hs2 := HM2.out.size
  have hs1 := HM.out.size
  have HF := Lib.hid hF
  have HA2 := Lib.hid hA2
  have hlt : ∀ a, A2 = some a → a.block < w2.heap.size := fun a ha => by
    obtain ⟨cur, fr, hr⟩ := hF.row a ha
    exact (Array.getElem?_eq_some_iff.1 hr).1
  have HLT := Lib.hid hlt
  clear hlt
  clear hm2 hF hA2
  go_wp2_with fail
  refine (mkway_calls _ _).mono ?_
  rintro e w3 ⟨rfl, hW1, hm3, hz3⟩
  simp only [size_alloc] at hW1 hz3
  have hN3 := (Has.new w2 [.slice A2 l.length c2, .func (.func ks) #[] caps, .nilFunc, .nilFunc, .int .i64 0] 48).keep hm3 (fun h => h)
  have hF3 := HF.out.keep (Mod.trans (Mod.alloc (Mod.refl _ _) _) hm3 (fun _ _ h => h)) (fun _ _ h => h)
  have HM3 := Lib.hid (Mod.trans (HM2.out.alloc _) hm3 (fun _ _ h => h))
  have HN3 := Lib.hid hN3
  have HF3 := Lib.hid hF3
  have HW1 := Lib.hid hW1
  have HZ3 := Lib.hid hz3
  clear hN3 hF3 hW1 hm3 hz3 HF
  simp only [size_alloc]
  unfold wayV
  go_wp2_with fail
  refine (mkway_calls _ _).mono ?_
  rintro e w4 ⟨rfl, hW2, hm4, hz4⟩
  rw [HZ3.out] at hW2
  have hN4 := HN3.out.keep hm4 (fun h => h)
  have hF4 := HF3.out.keep hm4 (fun _ _ h => h)
  have hW4 := HW1.out.keep hm4 (fun h => h) (fun h => h) (fun _ h => by cases h)
  have HM4 := Lib.hid (Mod.trans HM3.out hm4 (fun _ _ h => h))
  rw [HZ3.out]
  have x2 := hN4.cell (o := 2) rfl
  have y2 := hN4.frozen 2
  have x3 := hN4.cell (o := 3) rfl
  have y3 := hN4.frozen 3
  have HN4 := Lib.hid ((hN4.set 2 (wayV (w2.heap.size + 1) (w2.heap.size + 1 + 1))).set 3 (wayV (w2.heap.size + 1 + 2) (w2.heap.size + 1 + 2 + 1)))
  have HF4 := Lib.hid hF4
  have HW4 := Lib.hid hW4
  have HW2 := Lib.hid hW2
  clear hN4 hF4 hW4 hm4 hz4 hW2 HN3 HF3 HZ3 HW1 HM3
  unfold wayV
  go_wp2_with fail
  go_ret2
  have hmS : Mod (fun k => k = w2.heap.size) w4 ((w4.setCell ⟨w2.heap.size, 2, none⟩ (wayV (w2.heap.size + 1) (w2.heap.size + 1 + 1))).setCell ⟨w2.heap.size, 3, none⟩ (wayV (w2.heap.size + 1 + 2) (w2.heap.size + 1 + 2 + 1))) := ((Mod.refl (fun k => k = w2.heap.size) w4).set1 rfl _ _).set1 rfl _ _
  refine ⟨⟨w2.heap.size, w2.heap.size + 1, w2.heap.size + 1 + 2, w2.heap.size + 1 + 1, w2.heap.size + 1 + 2 + 1, A2, c2, .slice none 0 0, .slice none 0 0⟩, rfl,
    ⟨⟨HN4.out, HF4.out.keep hmS (fun a ha h => ?_)⟩, HW4.out.keep hmS (by intro h; omega) (by intro h; omega) (fun _ h => by cases h), HW2.out.keep hmS (by intro h; omega) (by intro h; omega) (fun _ h => by cases h), (by intro h; simp at h), (fun k h => by cases h)⟩, ?_,
    (HM4.out.setCell (p := ⟨w2.heap.size, 2, none⟩) (.inr hs2) _).setCell (p := ⟨w2.heap.size, 3, none⟩) (.inr hs2) _⟩
  · have := HLT.out a ha
    omega
  · rintro k (h | h | h | h | h | h | h | ⟨a, ha, rfl⟩)
    · simp at h; omega
    · simp at h; omega
    · simp at h; omega
    · simp at h; omega
    · simp at h; omega
    · cases h
    · cases h
    · have := HA2.out a ha; omega
end Net
end Go.Proofs.Ytocpifoimoaibaa
