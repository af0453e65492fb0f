/- Joined texts: ProFindsL. -/
import Derived.Test.YtpoljpjcmigobaaDoorJ27
import Derived.Test.YtpoljpjcmigobaaDoorJ29
import Derived.Test.YtpoljpjcmigobaaDoorJ22
/- The walk of the law ProllyFinds. -/
namespace Go.Proofs.YtpoljpjcmigobaaDoor
set_option linter.unusedVariables false
set_option linter.unusedSimpArgs false
open Go.RowKit K Wire
namespace Prolly
open Go.Proofs.YtpoljpjcmigobaaDoor.Obj Go.Proofs.YtpoljpjcmigobaaDoor.Blob

theorem obsIn {w : World} {A : Option Addr} {objs : List Ob} (h : ObjsIn w A objs) : ObsOk objs := ⟨by have := h.many; omega, fun o ho => by have := h.small o ho; omega⟩
theorem fin_len (objs : List Ob) (key : ByteArray) : ∀ (f : Nat) (n : PNode) (a : List ByteArray), (fin objs key f n a).asked.length ≤ a.length + f
  | 0, _, _ => by simp [fin]
  | f + 1, n, a => by
    cases n with
    | bad e => simp [fin]
    | leaf ps =>
      rw [fin_leaf _ _ _ _ _ (by omega)]
      cases valOf ps key <;> simp <;> omega
    | branch L kids =>
      rw [fin_branch _ _ _ _ _ _ _ rfl]
      split
      · have := fin_len objs key f (pnodeOf objs (kids[below key (kids.map (·.last))]) (L - 1)) (a ++ [(kids[below key (kids.map (·.last))]).id])
        simp only [List.length_append, List.length_cons, List.length_nil] at this
        omega
      · simp
theorem findR_len (objs : List Ob) (root key : ByteArray) : (findR objs root key).asked.length ≤ 100 := by
  unfold findR
  split
  · have := fin_len objs key 30 (pnodeOf objs (link0 root) (-1)) [root]
    simp only [List.length_cons, List.length_nil] at this
    omega
  · simp
/-- who notes what is asked, at its beginning -/
theorem ask_begin {B : Nat} {A : Option Addr} {c : Nat} {objs : List Ob} {w : World} (hr : Cells w A (objs.flatMap oc)) (hl : objs.flatMap oc ≠ [] → ∀ ad, A = some ad → ad.block < B) (hB : B ≤ w.heap.size) (hn : objs.length ≤ 100000000) :
    Gs (askF B w.heap.size (w.heap.size + 1 + 1) (w.heap.size + 1) A c objs) (((w.alloc (.cells #[.slice none 0 0] 32)).alloc (.cells #[.slice A objs.length c] 25)).alloc (.cells #[.pointer (some ⟨w.heap.size, 0, none⟩)] 37))
      (fun k => k < w.heap.size + 3 ∧ k ≠ w.heap.size) [] (((w.alloc (.cells #[.slice none 0 0] 32)).alloc (.cells #[.slice A objs.length c] 25)).alloc (.cells #[.pointer (some ⟨w.heap.size, 0, none⟩)] 37)) := by
  have hI : AskIs B w.heap.size (w.heap.size + 1 + 1) (w.heap.size + 1) A c objs (.slice none 0 0) [] (((w.alloc (.cells #[.slice none 0 0] 32)).alloc (.cells #[.slice A objs.length c] 25)).alloc (.cells #[.pointer (some ⟨w.heap.size, 0, none⟩)] 37)) :=
    ⟨Has.lit (by simp), (Has.lit (by simp)).alloc _, ((Has.new w _ _).alloc _).alloc _, World.ownsRow_nil _ _ _ _, ((hr.alloc _).alloc _).alloc _, hl, hB, hn⟩
  refine ⟨⟨_, ⟨_, hI, rfl⟩, fun k hk => ⟨by simp; omega, ?_⟩⟩, fun k hk => (askF_ok B w.heap.size (w.heap.size + 1 + 1) (w.heap.size + 1) A c objs).lt [] _ _ k ⟨_, hI, rfl⟩ (.inr hk)⟩
  rintro (h | h)
  · exact hk.2 h
  · cases h
set_option maxRecDepth 100000 in
set_option maxHeartbeats 4000000 in
theorem prollyFinds_calls (A : Option Addr) (c : Nat) (objs : List Ob) (root key : ByteArray) (w : World) (hK : Hash.Keys w) (hO : ObjsIn w A objs) (_ : root.size ≤ 1048576) (_ : key.size ≤ 1048576) :
    Calls Tryd.prog 4 #[.slice A objs.length c, .string root, .string key] w fun e w' => e = .returned (.bool true) ∧ Below w.heap.size w w' := by
  have hlen := findR_len objs root key
  have hpr := fun (B b0 b1 b2 : Nat) (w2 : World) (C : Nat → Prop) (hG : Gs (askF B b0 b1 b2 A c objs) w2 C [] w2) => pFind_calls (askF_ok B b0 b1 b2 A c objs) (obsIn hO) root key w2 hG (Nat.le_refl _)
  have hrr := fun (w2 : World) (h1 : Cells w2 A (objs.flatMap oc)) => rFind_calls A c objs (obsIn hO) root key w2 h1
  unfold FindPost at hpr
  unfold FRPost at hrr
  generalize findR objs root key = R at *
  dsimp only [askF] at hpr
  have HPR := Lib.hid hpr
  have HRR := Lib.hid hrr
  have HO := Lib.hid hO
  have HK := Lib.hid hK
  clear hpr hrr hO hK
  go_enter Tryd.func4, Tryd.ntmps4
  go_wp2_with fail
  refine (shown_calls _ HK.out).mono ?_
  rintro e w2 ⟨rfl, hm2⟩
  have hG := ask_begin (c := c) (B := w.heap.size) (HO.out.row.keep hm2 (fun _ _ h => h)) HO.out.low hm2.size (by have := HO.out.many; omega)
  have HG := Lib.hid (HPR.out _ _ _ _ _ _ hG)
  have HM2 := Lib.hid hm2
  clear hG hm2
  go_wp2_with fail
  refine (asked_mk _ _ _ _ _).mono ?_
  rintro e w3 ⟨rfl, rfl⟩
  go_wp2_with fail
  refine HG.out.mono ?_
  rintro e w5 ⟨rfl, hg5, hm5⟩
  obtain ⟨⟨F, ⟨v5, hI5, rfl⟩, _⟩, _⟩ := hg5
  obtain ⟨A5, c5, rfl, _, hc5, _, _⟩ := own_cells hI5.own
  have hM5 : Mod (fun _ => False) w w5 := Mod.trans (((HM2.out.alloc _).alloc _).alloc _) hm5 (fun i hi h => h ⟨by have := HM2.out.size; omega, by have := HM2.out.size; omega⟩)
  have x0 := hI5.at0.cell (o := 0) rfl
  have HR := Lib.hid (HRR.out w5 hI5.row)
  have HC5 := Lib.hid hc5
  have HM5 := Lib.hid hM5
  have HAT := Lib.hid hI5.at0
  clear hm5 hM5 hc5 hI5 HG HRR HPR
  go_wp2_with fail
  refine HR.out.mono ?_
  rintro e w6 ⟨va, rfl, hva, hm6⟩
  obtain ⟨A6, c6, rfl, _, hc6, _, _⟩ := own_cells hva
  have x1 := (HAT.out.keep hm6 (fun h => h)).cell (o := 0) rfl
  have HS := Lib.hid (sameTexts_calls A5 A6 c5 c6 R.asked w6 (HC5.out.keep hm6 (fun _ _ h => h)) hc6 (by omega))
  have HM6 := Lib.hid (Mod.trans HM5.out hm6 (fun _ _ h => h))
  clear hm6 hva hc6 x0
  go_wp2_with fail
  refine HS.out.mono ?_
  rintro e w7 ⟨rfl, hm7⟩
  have HM7 := Lib.hid (Mod.trans HM6.out hm7 (fun _ _ h => h))
  clear hm7
  go_wp2_with fail
  go_ret
  exact ⟨rfl, HM7.out.below (fun _ _ h => h)⟩
end Prolly
end Go.Proofs.YtpoljpjcmigobaaDoor
