/- Joined texts: ProU. -/
import Derived.Test.YtpoljpjcmigobaaDoorJ36
import Derived.Test.YtpoljpjcmigobaaDoorJ33
import Derived.Test.YtpoljpjcmigobaaDoorJ22
/- Who answers, at the beginning of a law. -/
namespace Go.Proofs.YtpoljpjcmigobaaDoor
set_option linter.unusedVariables false
set_option linter.unusedSimpArgs false
open Go.RowKit K Wire
namespace Prolly
open Go.Proofs.YtpoljpjcmigobaaDoor.Obj Go.Proofs.YtpoljpjcmigobaaDoor.Blob

theorem obsIn {w : World} {A : Option Addr} {objs : List Ob} (h : ObjsIn w A objs) : ObsOk objs := ⟨by have := h.many; omega, fun o ho => by have := h.small o ho; omega⟩
/-- who notes what is asked, at its beginning -/
theorem ask_begin {B : Nat} {A : Option Addr} {c : Nat} {objs : List Ob} {w : World} (hr : Cells w A (objs.flatMap oc)) (hl : objs.flatMap oc ≠ [] → ∀ ad, A = some ad → ad.block < B) (hB : B ≤ w.heap.size) (hn : objs.length ≤ 100000000) :
    Gs (askF B w.heap.size (w.heap.size + 1 + 1) (w.heap.size + 1) A c objs) (((w.alloc (.cells #[.slice none 0 0] 32)).alloc (.cells #[.slice A objs.length c] 25)).alloc (.cells #[.pointer (some ⟨w.heap.size, 0, none⟩)] 37))
      (fun k => k < w.heap.size + 3 ∧ k ≠ w.heap.size) [] (((w.alloc (.cells #[.slice none 0 0] 32)).alloc (.cells #[.slice A objs.length c] 25)).alloc (.cells #[.pointer (some ⟨w.heap.size, 0, none⟩)] 37)) := by
  have hI : AskIs B w.heap.size (w.heap.size + 1 + 1) (w.heap.size + 1) A c objs (.slice none 0 0) [] (((w.alloc (.cells #[.slice none 0 0] 32)).alloc (.cells #[.slice A objs.length c] 25)).alloc (.cells #[.pointer (some ⟨w.heap.size, 0, none⟩)] 37)) :=
    ⟨Has.lit (by simp), (Has.lit (by simp)).alloc _, ((Has.new w _ _).alloc _).alloc _, World.ownsRow_nil _ _ _ _, ((hr.alloc _).alloc _).alloc _, hl, hB, hn⟩
  refine ⟨⟨_, ⟨_, hI, rfl⟩, fun k hk => ⟨by simp; omega, ?_⟩⟩, fun k hk => (askF_ok B w.heap.size (w.heap.size + 1 + 1) (w.heap.size + 1) A c objs).lt [] _ _ k ⟨_, hI, rfl⟩ (.inr hk)⟩
  rintro (h | h)
  · exact hk.2 h
  · cases h
/-- who answers and notes nothing, at its beginning -/
theorem from_begin {A : Option Addr} {c : Nat} {objs : List Ob} {w : World} (hr : Cells w A (objs.flatMap oc)) (hl : objs.flatMap oc ≠ [] → ∀ ad, A = some ad → ad.block < w.heap.size) (hn : objs.length ≤ 100000000) :
    Gs (fromF w.heap.size w.heap.size A c objs) (w.alloc (.cells #[.slice A objs.length c] 25)) (fun k => k < (w.alloc (.cells #[.slice A objs.length c] 25)).heap.size) [] (w.alloc (.cells #[.slice A objs.length c] 25)) := by
  have hF : FromIs w.heap.size w.heap.size A c objs (w.alloc (.cells #[.slice A objs.length c] 25)) := ⟨Has.lit rfl, hr.alloc _, hl, hn⟩
  exact ⟨⟨_, ⟨hF, rfl⟩, fun k hk => ⟨hk, fun h => h⟩⟩, fun k hk => (fromF_ok w.heap.size w.heap.size A c objs).lt [] _ _ k ⟨hF, rfl⟩ (.inr hk)⟩
theorem listL_len (objs : List Ob) (lo hi root : ByteArray) : (listL objs lo hi root).1.length ≤ 5000 ∧ (listL objs lo hi root).2.1.length ≤ 100000 := by
  have h := goes_len objs lo hi 30 (-1) (link0 root) ⟨[], [], 0⟩ (.inl rfl)
  have hr : goesS objs lo hi 30 (-1) (link0 root) ⟨[], [], 0⟩ = goesR objs lo hi root := rfl
  rw [hr] at h
  simp only [needA, needO, List.length_nil] at h
  unfold listL
  refine ⟨?_, ?_⟩
  · split
    · simp at h ⊢; omega
    · simp
  · simp at h ⊢; omega
end Prolly
end Go.Proofs.YtpoljpjcmigobaaDoor
