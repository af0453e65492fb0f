/- The walks of the cutter: New, take, Close, Write. -/
import Derived.Test.YtjcdekipkpmniaaGearS
import Derived.Test.YtjcdekipkpmniaaBld
import Derived.Deep.Cut
namespace Go.Proofs.Ytjcdekipkpmniaa
open Go.RowKit K
namespace Gear

/-- the block k holds bytes -/
def ByteRow (w : World) (k : Nat) : Prop := ∃ cur fz, w.heap[k]? = some (.cells cur 5 fz)
/-- of what was there block b may have turned, and rows of bytes from base on -/
def ModB (base b : Nat) (w w' : World) : Prop := Mod (fun k => k = b ∨ (base ≤ k ∧ ByteRow w k)) w w'

theorem ModB.refl (base b : Nat) (w : World) : ModB base b w w := Mod.refl _ _
theorem ModB.trans {base b : Nat} {x y z : World} (h : ModB base b x y) (k : ModB base b y z) : ModB base b x z := by
  refine Mod.trans h k fun i hi hs => ?_
  rcases hs with hs | ⟨hb, cur, fz, hr⟩
  · exact .inl hs
  · by_cases hS : i = b ∨ (base ≤ i ∧ ByteRow x i)
    · exact hS
    · rw [h.block i hi hS] at hr
      exact .inr ⟨hb, cur, fz, hr⟩
theorem ModB.of {base b : Nat} {w w' : World} (h : Mod (· = b) w w') : ModB base b w w' := Mod.mono h fun _ _ h => .inl h
theorem ModB.of0 {base b : Nat} {w w' : World} (h : Mod (fun _ => False) w w') : ModB base b w w' := Mod.mono h fun _ _ h => h.elim
theorem ModB.own {base b : Nat} {w w' : World} {v : Value} {n : Nat} {xs : List Value} (h : Mod (fun k => k = b ∨ (base ≤ k ∧ v.ownBlock = some k)) w w') (hv : w.ownsRow base 5 1 v n xs) : ModB base b w w' := by
  refine Mod.mono h fun i _ hs => ?_
  rcases hs with hs | ⟨hb, hk⟩
  · exact .inl hs
  · rcases hv.2 with ⟨rfl, _⟩ | ⟨g, cap, cur, rfl, hg, hh, _⟩
    · cases hk
    · obtain rfl : g = i := by simpa [Value.ownBlock] using hk
      exact .inr ⟨hb, cur, _, hh⟩
theorem ModB.has {base b g : Nat} {w w' : World} {cs : List Value} {T : TypeId} (h : ModB base b w w') (hh : Has w g cs T) (hT : T ≠ 5) (hg : g ≠ b) : Has w' g cs T :=
  hh.keep h fun hs => by
    rcases hs with hs | ⟨_, cur, fz, hr⟩
    · exact hg hs
    · rw [Has, hr] at hh; simp at hh; exact hT hh.2.1.symm
theorem ModB.keepOwn {base base' b : Nat} {w w' : World} {cs : List Value} {T e : TypeId} {size n : Nat} {v : Value} {xs : List Value} (h : ModB base b w w') (hv : w.ownsRow base' e size v n xs) (he : e ≠ 5) (hb : Has w b cs T) (hT : T ≠ e) : w'.ownsRow base' e size v n xs := by
  refine own_keep hv h fun k _ hk hs => ?_
  rcases hs with rfl | ⟨_, cur, fz, hr⟩
  · exact own_ne hv hb hT hk
  · rcases hv.2 with ⟨rfl, _⟩ | ⟨g, cap, cur', rfl, hg, hh, _⟩
    · cases hk
    · obtain rfl : g = k := by simpa [Value.ownBlock] using hk
      rw [hr] at hh; simp at hh; exact he hh.2.1.symm
theorem ModB.cells {base b : Nat} {w w' : World} {A : Option Addr} {xs : List Value} (h : ModB base b w w') (hA : Cells w A xs) (hb : ∀ a, A = some a → a.block < base ∧ a.block ≠ b) : Cells w' A xs :=
  hA.keep h fun a ha hs => by
    obtain ⟨h1, h2⟩ := hb a ha
    rcases hs with hs | ⟨h3, _⟩
    · exact h2 hs
    · omega

/-- a cutter: its sum, how many bytes the chunk has, those that stand in its builder -/
def Cut (w : World) (base b : Nat) (s n : Int) (r : List UInt8) : Prop :=
  ∃ p v, Has w b [.int .u64 s, .int .i64 n, p, v] 51 ∧ Addr0 b 2 p ∧ w.ownsRow base 5 1 v r.length (bv r)

theorem Cut.alloc {w : World} {base b : Nat} {s n : Int} {r : List UInt8} (h : Cut w base b s n r) (o : Obj) : Cut (w.alloc o) base b s n r := by
  obtain ⟨p, v, hh, hp, hown⟩ := h
  exact ⟨p, v, hh.alloc o, hp, hown.alloc o⟩

theorem lies_cutter : liesAt Try.prog Try.prog.depth 51 (4 / Try.prog.cellsOf 51) 2 49 1 = true := by kernel_rfl

theorem new_calls (w : World) : Calls Try.prog 19 #[] w fun e w' => e = .returned (.pointer (some ⟨w.heap.size, 0, none⟩)) ∧ Cut w' w.heap.size w.heap.size 0 0 [] ∧ Mod (fun _ => False) w w' := by
  go_enter Try.func19, Try.ntmps19
  go_wp2_with fail
  go_ret
  exact ⟨rfl, ⟨_, _, Has.new _ _ _, .inl rfl, World.ownsRow_nil _ _ _ _⟩, Mod.alloc (Mod.refl _ _) _⟩

set_option maxRecDepth 100000 in
set_option maxHeartbeats 1000000 in
theorem take_calls (base b : Nat) (s n : Int) (r : List UInt8) (w : World) (h : Cut w base b s n r) (h0 : r ≠ []) :
    Calls Try.prog 23 #[.pointer (some ⟨b, 0, none⟩)] w fun e w' => e = .returned (.string ⟨r.toArray⟩) ∧ Cut w' base b s n [] ∧ ModB base b w w' := by
  obtain ⟨p, v, hh, hp, hown⟩ := h
  have hsc := string_calls base b 2 v r _ _ w hh rfl hown h0
  have hm0 := fun (w' : World) (hm : Mod (fun k => base ≤ k ∧ v.ownBlock = some k) w w') => ModB.own (b := b) (Mod.mono hm (fun _ _ h => .inr h)) hown
  have HS := Lib.hid hsc
  have HM0 := Lib.hid hm0
  have hne := own_ne hown hh (by decide)
  clear hsc hm0
  go_enter Try.func23, Try.ntmps23
  go_wp2_with fail
  refine HS.out.mono ?_
  rintro e w1 ⟨rfl, hm⟩
  have hh1 := hh.keep hm (fun ⟨_, hk⟩ => hne hk)
  have hrc := reset_calls b 2 p v _ _ w1 hh1 rfl rfl
  have HM := Lib.hid (HM0.out _ hm)
  have HR := Lib.hid hrc
  clear hrc hm hh1 hown hh HM0
  go_wp2_with fail
  refine HR.out.mono ?_
  rintro e w2 ⟨rfl, hh2, hm2⟩
  have HX := Lib.hid hh2
  have HY := Lib.hid (HM.out.trans (ModB.of hm2))
  clear hh2 hm2
  go_wp2_with fail
  go_ret
  exact ⟨rfl, ⟨_, _, HX.out, .inl rfl, World.ownsRow_nil _ _ _ _⟩, HY.out⟩

/-- texts as cells -/
def sv (l : List (List UInt8)) : List Value := l.map fun x => Value.string ⟨x.toArray⟩

set_option maxRecDepth 100000 in
set_option maxHeartbeats 1000000 in
theorem close_calls (base b : Nat) (s n : Int) (r : List UInt8) (w : World) (h : Cut w base b s n r) (hn : n = r.length) :
    Calls Try.prog 18 #[.pointer (some ⟨b, 0, none⟩)] w fun e w' => ∃ v, e = .returned v ∧ w'.ownsRow w.heap.size 9 1 v (if r = [] then 0 else 1) (sv (if r = [] then [] else [r])) ∧
      Cut w' base b (if r = [] then s else 0) 0 [] ∧ ModB base b w w' := by
  have hC := h
  obtain ⟨p, v, hh, hp, hown⟩ := h
  have h1 := hh.cell (o := 1) rfl
  have f1 := hh.frozen 1
  have h0 := hh.cell (o := 0) rfl
  have f0 := hh.frozen 0
  by_cases hr : r = []
  · subst hr
    have hn2 : n = 0 := by simpa using hn
    clear hn
    subst hn2
    have HC := Lib.hid hC
    clear hh hp hown hC
    go_enter Try.func18, Try.ntmps18
    go_wp2_with fail
    go_ret
    exact ⟨_, rfl, World.ownsRow_nil _ _ _ _, HC.out, ModB.refl _ _ _⟩
  · have hpos : 0 < r.length := List.length_pos_iff.2 hr
    have hn0 : (n == 0) = false := by simp; omega
    have hne := own_ne hown hh (by decide)
    have hh1 := (hh.set 0 (.int .u64 0)).set 1 (.int .i64 0)
    have hm1 : Mod (· = b) w ((w.setCell ⟨b, 0, none⟩ (.int .u64 0)).setCell ⟨b, 1, none⟩ (.int .i64 0)) := ((Mod.refl (· = b) w).set1 rfl _ _).set1 rfl _ _
    have hown1 := own_keep hown hm1 (fun k _ hk e => hne (by rw [hk, e]))
    have HT := Lib.hid (take_calls base b 0 0 r _ ⟨p, v, hh1, hp, hown1⟩ hr)
    have HM := Lib.hid hm1
    clear hh hp hown hC hh1 hm1 hown1
    go_enter Try.func18, Try.ntmps18
    go_wp2_with fail
    refine HT.out.mono ?_
    rintro e w1 ⟨rfl, hc, hm⟩
    have HM2 := Lib.hid ((ModB.of (base := base) HM.out).trans hm)
    have HC := Lib.hid hc
    clear hc hm
    go_wp2_with fail
    go_ret
    refine ⟨_, rfl, ?_, HC.out.alloc _, HM2.out.trans (ModB.of0 (Mod.alloc (Mod.refl _ _) _))⟩
    simp only [sv]
    refine ⟨rfl, .inr ⟨w1.heap.size, 1, _, rfl, ?_, Has.new w1 [_] _, by omega, by unfold maxLen; omega, rfl, rfl⟩⟩
    have := HM2.out.size
    exact this
end Gear
end Go.Proofs.Ytjcdekipkpmniaa
