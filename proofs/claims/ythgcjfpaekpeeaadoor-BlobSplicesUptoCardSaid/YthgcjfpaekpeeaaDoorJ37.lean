/- Joined texts: BlobT. -/
import Derived.Test.YthgcjfpaekpeeaaDoorJ36
/- The reference's walk: what has been asked, read, met; its first error. -/
namespace Go.Proofs.YthgcjfpaekpeeaaDoor
set_option linter.unusedVariables false
set_option linter.unusedSimpArgs false
open Go.RowKit K Wire Go.Maps
namespace Blob
open Go.Proofs.YthgcjfpaekpeeaaDoor.Obj

def tW : List TypeId := [9, 5, 79]
/-- what the walk turns -/
def WS (B0 : Nat) (vp : Value) (w : World) (k : Nat) : Prop := Ty B0 tW w k ∨ vp.ownBlock = some k
theorem WS.trans {B0 : Nat} {vp vp1 : Value} {w w1 w2 : World} (h : Mod (WS B0 vp w) w w1) (k : Mod (WS B0 vp1 w1) w1 w2) (hr : RowOf w vp vp1) : Mod (WS B0 vp w) w w2 :=
  Mod.trans h k (fun i hi hs => by
    by_cases hq : WS B0 vp w i
    · exact hq
    · rcases hs with ⟨hb, cur, fr, T, h1, h2⟩ | hs
      · rw [h.block i hi hq] at h1
        exact .inl ⟨hb, cur, fr, T, h1, h2⟩
      · rcases hr i hs with h3 | h3
        · exact .inr h3
        · omega)
structure WkIs (B0 bw : Nat) (A : Option Addr) (c : Nat) (objs : List Ob) (va vd vp : Value) (asked : List ByteArray) (data : List UInt8) (parts : List Part) (bad : Int) (w : World) : Prop where
  box : Has w bw [.slice A objs.length c, va, vd, vp, .int .i64 bad] 79
  oa : w.ownsRow B0 9 1 va asked.length (asked.map .string)
  od : w.ownsRow B0 5 1 vd data.length (bv data)
  op : w.ownsRow B0 25 2 vp parts.length (parts.flatMap pc)
  row : Cells w A (objs.flatMap oc)
  low : objs.flatMap oc ≠ [] → ∀ ad, A = some ad → ad.block < B0
  le : B0 ≤ bw
  many : parts.length ≤ 300000000 + asked.length
theorem WkIs.keep {B0 bw : Nat} {A : Option Addr} {c : Nat} {objs : List Ob} {va vd vp : Value} {asked : List ByteArray} {data : List UInt8} {parts : List Part} {bad : Int} {w w' : World} {S : Nat → Prop} (h : WkIs B0 bw A c objs va vd vp asked data parts bad w) (m : Mod S w w')
    (h0 : ∀ k, k < B0 → ¬ S k) (h1 : ¬ S bw) (h2 : ∀ k, va.ownBlock = some k → ¬ S k) (h3 : ∀ k, vd.ownBlock = some k → ¬ S k) (h4 : ∀ k, vp.ownBlock = some k → ¬ S k) : WkIs B0 bw A c objs va vd vp asked data parts bad w' :=
  ⟨h.box.keep m h1, own_keep h.oa m (fun k _ hk => h2 k hk), own_keep h.od m (fun k _ hk => h3 k hk), own_keep h.op m (fun k _ hk => h4 k hk), h.row.keep2 m (fun hne ad ha => h0 _ (h.low hne ad ha)), h.low, h.le, h.many⟩
theorem WkIs.keep0 {B0 bw : Nat} {A : Option Addr} {c : Nat} {objs : List Ob} {va vd vp : Value} {asked : List ByteArray} {data : List UInt8} {parts : List Part} {bad : Int} {w w' : World} (h : WkIs B0 bw A c objs va vd vp asked data parts bad w) (m : Mod (fun _ => False) w w') : WkIs B0 bw A c objs va vd vp asked data parts bad w' :=
  h.keep m (fun _ _ h => h) (fun h => h) (fun _ _ h => h) (fun _ _ h => h) (fun _ _ h => h)
theorem row_ne {w : World} {b e f s t n m : Nat} {v u : Value} {xs ys : List Value} {B B' : Nat} (h : w.ownsRow B e s v n xs) (k : w.ownsRow B' f t u m ys) (hT : e ≠ f) (hv : v.ownBlock = some b) : u.ownBlock ≠ some b := fun hu => by
  obtain ⟨cur, fr, h1⟩ := own_row h hv
  obtain ⟨cur', fr', h2⟩ := own_row k hu
  rw [h1] at h2
  injection h2 with h2
  injection h2 with _ h2
  exact hT h2
/-- a field of the walk is stored -/
theorem WkIs.setBad {B0 bw : Nat} {A : Option Addr} {c : Nat} {objs : List Ob} {va vd vp : Value} {asked : List ByteArray} {data : List UInt8} {parts : List Part} {bad : Int} {w : World} (h : WkIs B0 bw A c objs va vd vp asked data parts bad w) (e : Int) :
    WkIs B0 bw A c objs va vd vp asked data parts e (w.setCell ⟨bw, 4, none⟩ (.int .i64 e)) ∧ Mod (WS B0 vp w) w (w.setCell ⟨bw, 4, none⟩ (.int .i64 e)) :=
  ⟨⟨h.box.set 4 _, own_store h.oa h.box (by decide) 4 _, own_store h.od h.box (by decide) 4 _, own_store h.op h.box (by decide) 4 _, h.row.keep2 ((Mod.refl (fun k => k = bw) w).set1 rfl 4 _) (fun hne ad ha e => by have := h.low hne ad ha; have := h.le; omega), h.low, h.le, h.many⟩,
    (Mod.refl _ w).set1 (.inl (Ty.has h.box h.le (by decide))) 4 _⟩

set_option maxRecDepth 100000 in
theorem fail_calls {B0 bw : Nat} {A : Option Addr} {c : Nat} {objs : List Ob} {va vd vp : Value} {asked : List ByteArray} {data : List UInt8} {parts : List Part} (e : Int) {w : World} (h : WkIs B0 bw A c objs va vd vp asked data parts 0 w) :
    Calls Tryd.prog 51 #[.pointer (some ⟨bw, 0, none⟩), .int .i64 e] w fun en w' => en = .returned (.tuple #[]) ∧ w' = w.setCell ⟨bw, 4, none⟩ (.int .i64 e) := by
  have x4 := h.box.cell (o := 4) rfl
  have f4 := h.box.frozen 4
  clear h
  go_enter Tryd.func51, Tryd.ntmps51
  go_wp2_with fail
  go_end0
  exact ⟨rfl, rfl⟩
end Blob
end Go.Proofs.YthgcjfpaekpeeaaDoor
