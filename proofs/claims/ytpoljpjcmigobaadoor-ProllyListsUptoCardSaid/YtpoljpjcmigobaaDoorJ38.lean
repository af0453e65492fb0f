/- Joined texts: ProllyListsL. -/
import Derived.Test.YtpoljpjcmigobaaDoorJ37
/- The walk of the law ProllyLists. -/
namespace Go.Proofs.YtpoljpjcmigobaaDoor
set_option linter.unusedVariables false
set_option linter.unusedSimpArgs false
open Go.RowKit K Wire
namespace Prolly
open Go.Proofs.YtpoljpjcmigobaaDoor.Obj Go.Proofs.YtpoljpjcmigobaaDoor.Blob

set_option maxRecDepth 100000 in
set_option maxHeartbeats 4000000 in
theorem prollyLists_calls (A : Option Addr) (c : Nat) (objs : List Ob) (root lo hi : ByteArray) (w : World) (hK : Hash.Keys w) (hO : ObjsIn w A objs) (_ : root.size ≤ 1048576) (_ : lo.size ≤ 1048576) (_ : hi.size ≤ 1048576) :
    Calls Tryd.prog 6 #[.slice A objs.length c, .string root, .string lo, .string hi] w fun e w' => e = .returned (.bool true) ∧ Below w.heap.size w w' := by
  have hob := obsIn hO
  have hlen := listL_len objs lo hi root
  have hpr := fun (B b0 b1 b2 : Nat) (w2 : World) (C : Nat → Prop) (hG : Gs (askF B b0 b1 b2 A c objs) w2 C [] w2) => pList_calls (askF_ok B b0 b1 b2 A c objs) hob root lo hi w2 hG (Nat.le_refl _)
  have hrr := fun (w2 : World) (h1 : Cells w2 A (objs.flatMap oc)) (h2 : objs.flatMap oc ≠ [] → ∀ ad, A = some ad → ad.block < w2.heap.size) => rList_calls A c objs hob root lo hi w2 h1 h2
  have hpm := fun (b2 : Nat) (w2 : World) (C : Nat → Prop) (hG : Gs (fromF b2 b2 A c objs) w2 C [] w2) => pMany_calls (fromF_ok b2 b2 A c objs) hob root [] w2 hG (by simp) (Nat.le_refl _)
  have hrm := fun (w2 : World) (h1 : Cells w2 A (objs.flatMap oc)) => rMany_calls A c objs hob root w2 h1
  unfold LiPost at hpr
  unfold ListPost at hrr
  generalize listL objs lo hi root = R at *
  generalize manyR objs root = M at *
  obtain ⟨L, ids, E⟩ := R
  obtain ⟨m1, m2⟩ := M
  dsimp only [askF] at hpr
  dsimp only [fromF] at hpm
  dsimp only at hlen hrr hrm hpm hpr
  have HPR := Lib.hid hpr
  have HRR := Lib.hid hrr
  have HPM := Lib.hid hpm
  have HRM := Lib.hid hrm
  have HO := Lib.hid hO
  have HK := Lib.hid hK
  clear hpr hrr hO hK hpm hrm hob
  go_enter Tryd.func6, Tryd.ntmps6
  go_wp2_with fail
  refine (shown_calls _ HK.out).mono ?_
  rintro e w2 ⟨rfl, hm2⟩
  have hG := ask_begin (c := c) (B := w.heap.size) (HO.out.row.keep hm2 (fun _ _ h => h)) HO.out.low hm2.size (by have := HO.out.many; omega)
  have HG := Lib.hid (HPR.out _ _ _ _ _ _ hG)
  have HM2 := Lib.hid hm2
  clear hG hm2
  go_wp2_with fail
  refine (asked_mk _ _ _ _ _).mono ?_
  rintro e w3 ⟨rfl, rfl⟩
  go_wp2_with fail
  refine HG.out.mono ?_
  rintro e w5 ⟨vl, rfl, hol, hg5, hm5⟩
  obtain ⟨⟨F, ⟨v5, hI5, rfl⟩, _⟩, _⟩ := hg5
  obtain ⟨A5, c5, rfl, _, hc5, _, _⟩ := own_cells hI5.own
  obtain ⟨Al, cl, rfl, _, hcl, _, _⟩ := own_cells hol
  have hM5 : Mod (fun _ => False) w w5 := Mod.trans (((HM2.out.alloc _).alloc _).alloc _) hm5 (fun i hi h => h ⟨by have := HM2.out.size; omega, by have := HM2.out.size; omega⟩)
  have x0 := hI5.at0.cell (o := 0) rfl
  have hlow5 : objs.flatMap oc ≠ [] → ∀ ad, A = some ad → ad.block < w5.heap.size := fun hne ad ha => Nat.lt_of_lt_of_le (HO.out.low hne ad ha) hM5.size
  have HR := Lib.hid (HRR.out w5 hI5.row hlow5)
  have HC5 := Lib.hid hc5
  have HCL := Lib.hid hcl
  have HM5 := Lib.hid hM5
  have HAT := Lib.hid hI5.at0
  have HRW := Lib.hid hI5.row
  have HLW := Lib.hid hlow5
  clear hm5 hM5 hc5 hI5 HG HRR HPR hol hcl hlow5
  go_wp2_with fail
  refine HR.out.mono ?_
  rintro e w6 ⟨vo, va, rfl, hvo, hva, hm6⟩
  obtain ⟨A6, c6, rfl, _, hc6, _, _⟩ := own_cells hva
  obtain ⟨Ao, co, rfl, _, hco, _, _⟩ := own_cells hvo
  have HM6 := Lib.hid hm6
  have HC6 := Lib.hid hc6
  have HCO := Lib.hid hco
  have HFG := Lib.hid (HPM.out _ _ _ (from_begin (c := c) (HRW.out.keep hm6 (fun _ _ h => h)) (fun hne ad ha => Nat.lt_of_lt_of_le (HLW.out hne ad ha) hm6.size) (by have := HO.out.many; omega)))
  clear hm6 hva hc6 hvo hco x0 HR HPM HLW
  go_wp2_with fail
  refine (from_mk _ _ _ _).mono ?_
  rintro e w7 ⟨rfl, rfl⟩
  go_wp2_with fail
  refine HFG.out.mono ?_
  rintro e w8 ⟨rfl, _, hm8⟩
  have hm8' : Mod (fun _ => False) w5 w8 := Mod.trans (HM6.out.alloc (.cells #[.slice A objs.length c] 25)) hm8 (fun i hi h => h (by have := HM6.out.size; simp; omega))
  have hm68 : Mod (fun _ => False) w6 w8 := Mod.trans ((Mod.refl (fun _ => False) w6).alloc (.cells #[.slice A objs.length c] 25)) hm8 (fun i hi h => h (by simp; omega))
  have HM8 := Lib.hid hm8'
  have HM68 := Lib.hid hm68
  have HR2 := Lib.hid (HRM.out w8 (HRW.out.keep hm8' (fun _ _ h => h)))
  clear hm8 hm8' hm68 HFG HRM HRW
  go_wp2_with fail
  refine HR2.out.mono ?_
  rintro e w9 ⟨rfl, hm9⟩
  have HM9 := Lib.hid (Mod.trans HM8.out hm9 (fun _ _ h => h))
  have HM69 := Lib.hid (Mod.trans HM68.out hm9 (fun _ _ h => h))
  have HSL := Lib.hid (sameLeaf_calls Al Ao cl co L w9 (HCL.out.keep HM9.out (fun _ _ h => h)) (HCO.out.keep HM69.out (fun _ _ h => h)) (by omega))
  clear hm9 HM8 HM68
  go_wp2_with fail
  refine HSL.out.mono ?_
  rintro e w10 ⟨rfl, hm10⟩
  have hm510 := Mod.trans HM9.out hm10 (fun _ _ h => h)
  have x1 := (HAT.out.keep hm510 (fun h => h)).cell (o := 0) rfl
  have HS := Lib.hid (sameTexts_calls A5 A6 c5 c6 ids w10 (HC5.out.keep hm510 (fun _ _ h => h)) (HC6.out.keep (Mod.trans HM69.out hm10 (fun _ _ h => h)) (fun _ _ h => h)) (by omega))
  have HM10 := Lib.hid hm510
  clear hm10 hm510
  go_wp2_with fail
  refine HS.out.mono ?_
  rintro e w11 ⟨rfl, hm11⟩
  have HM11 := Lib.hid (Mod.trans HM5.out (Mod.trans HM10.out hm11 (fun _ _ h => h)) (fun _ _ h => h))
  clear hm11
  go_wp2_with fail
  go_ret
  exact ⟨rfl, HM11.out.below (fun _ _ h => h)⟩
end Prolly
end Go.Proofs.YtpoljpjcmigobaaDoor
