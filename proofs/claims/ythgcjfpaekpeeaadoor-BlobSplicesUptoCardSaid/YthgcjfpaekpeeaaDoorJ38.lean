/- Joined texts: BlobU. -/
import Derived.Test.YthgcjfpaekpeeaaDoorJ37
/- The reference's walk goes to a file's bytes. -/
namespace Go.Proofs.YthgcjfpaekpeeaaDoor
set_option linter.unusedVariables false
set_option linter.unusedSimpArgs false
open Go.RowKit K Wire Go.Maps
namespace Blob
open Go.Proofs.YthgcjfpaekpeeaaDoor.Obj

theorem box_ne {w : World} {b g e n s : Nat} {T : TypeId} {cs : List Value} {v : Value} {xs : List Value} {B : Nat} (h : Has w b cs T) (k : w.ownsRow B e s v n xs) (hT : T ≠ e) (hv : v.ownBlock = some g) : g ≠ b := has_ne h (own_row k hv) hT
theorem WkIs.putA {B0 bw : Nat} {A : Option Addr} {c : Nat} {objs : List Ob} {va vd vp va' : Value} {asked : List ByteArray} {data : List UInt8} {parts : List Part} {bad : Int} {w w5 : World} (h : WkIs B0 bw A c objs va vd vp asked data parts bad w) (s : ByteArray)
    (hm : Mod (fun k => va.ownBlock = some k) w w5) (ho : w5.ownsRow B0 9 1 va' (asked.length + 1) (asked.map .string ++ [.string s])) :
    WkIs B0 bw A c objs va' vd vp (asked ++ [s]) data parts bad (w5.setCell ⟨bw, 1, none⟩ va') ∧ Mod (WS B0 vp w) w (w5.setCell ⟨bw, 1, none⟩ va') := by
  have hb5 := h.box.keep hm (fun e => box_ne h.box h.oa (by decide) e rfl)
  have hd5 := own_keep h.od hm (fun k _ hk e => row_ne h.oa h.od (by decide) e hk)
  have hp5 := own_keep h.op hm (fun k _ hk e => row_ne h.oa h.op (by decide) e hk)
  have hms : Mod (fun k => k = bw) w5 (w5.setCell ⟨bw, 1, none⟩ va') := (Mod.refl (fun k => k = bw) w5).set1 rfl 1 _
  refine ⟨⟨hb5.set 1 _, ?_, own_store hd5 hb5 (by decide) 1 _, own_store hp5 hb5 (by decide) 1 _, (h.row.keep2 hm (fun hne ad ha e => by have := h.low hne ad ha; have := (h.oa.lt _ e).1; omega)).keep2 hms (fun hne ad ha e => by have := h.low hne ad ha; have := h.le; omega), h.low, h.le, by have := h.many; simp; omega⟩, ?_⟩
  · rw [List.length_append, List.map_append]; exact own_store ho hb5 (by decide) 1 _
  · refine Mod.trans (hm.mono fun k _ e => .inl (Ty.row (own_row h.oa e) (h.oa.lt k e).1 (by decide))) hms (fun i hi e => ?_)
    subst e
    exact .inl (Ty.has h.box h.le (by decide))
theorem WkIs.putD {B0 bw : Nat} {A : Option Addr} {c : Nat} {objs : List Ob} {va vd vp vd' : Value} {asked : List ByteArray} {data : List UInt8} {parts : List Part} {bad : Int} {w w5 : World} (h : WkIs B0 bw A c objs va vd vp asked data parts bad w) (s : List UInt8)
    (hm : Mod (fun k => vd.ownBlock = some k) w w5) (ho : w5.ownsRow B0 5 1 vd' (data.length + s.length) (bv data ++ bv s)) :
    WkIs B0 bw A c objs va vd' vp asked (data ++ s) parts bad (w5.setCell ⟨bw, 2, none⟩ vd') ∧ Mod (WS B0 vp w) w (w5.setCell ⟨bw, 2, none⟩ vd') := by
  have hb5 := h.box.keep hm (fun e => box_ne h.box h.od (by decide) e rfl)
  have ha5 := own_keep h.oa hm (fun k _ hk e => row_ne h.od h.oa (by decide) e hk)
  have hp5 := own_keep h.op hm (fun k _ hk e => row_ne h.od h.op (by decide) e hk)
  have hms : Mod (fun k => k = bw) w5 (w5.setCell ⟨bw, 2, none⟩ vd') := (Mod.refl (fun k => k = bw) w5).set1 rfl 2 _
  refine ⟨⟨hb5.set 2 _, own_store ha5 hb5 (by decide) 2 _, ?_, own_store hp5 hb5 (by decide) 2 _, (h.row.keep2 hm (fun hne ad ha e => by have := h.low hne ad ha; have := (h.od.lt _ e).1; omega)).keep2 hms (fun hne ad ha e => by have := h.low hne ad ha; have := h.le; omega), h.low, h.le, h.many⟩, ?_⟩
  · rw [List.length_append, bv_append]; exact own_store ho hb5 (by decide) 2 _
  · refine Mod.trans (hm.mono fun k _ e => .inl (Ty.row (own_row h.od e) (h.od.lt k e).1 (by decide))) hms (fun i hi e => ?_)
    subst e
    exact .inl (Ty.has h.box h.le (by decide))
theorem WkIs.putP {B0 bw : Nat} {A : Option Addr} {c : Nat} {objs : List Ob} {va vd vp vp' : Value} {asked : List ByteArray} {data : List UInt8} {parts : List Part} {bad : Int} {w w5 : World} (h : WkIs B0 bw A c objs va vd vp asked data parts bad w) (p : Part)
    (hm : Mod (fun k => vp.ownBlock = some k) w w5) (ho : w5.ownsRow B0 25 2 vp' (parts.length + 1) (parts.flatMap pc ++ [.string p.id, .int .i64 p.size])) (hn : parts.length + 1 ≤ 300000000 + asked.length) :
    WkIs B0 bw A c objs va vd vp' asked data (parts ++ [p]) bad (w5.setCell ⟨bw, 3, none⟩ vp') ∧ Mod (WS B0 vp w) w (w5.setCell ⟨bw, 3, none⟩ vp') := by
  have hb5 := h.box.keep hm (fun e => box_ne h.box h.op (by decide) e rfl)
  have ha5 := own_keep h.oa hm (fun k _ hk e => row_ne h.op h.oa (by decide) e hk)
  have hd5 := own_keep h.od hm (fun k _ hk e => row_ne h.op h.od (by decide) e hk)
  have hms : Mod (fun k => k = bw) w5 (w5.setCell ⟨bw, 3, none⟩ vp') := (Mod.refl (fun k => k = bw) w5).set1 rfl 3 _
  refine ⟨⟨hb5.set 3 _, own_store ha5 hb5 (by decide) 3 _, own_store hd5 hb5 (by decide) 3 _, ?_, (h.row.keep2 hm (fun hne ad ha e => by have := h.low hne ad ha; have := (h.op.lt _ e).1; omega)).keep2 hms (fun hne ad ha e => by have := h.low hne ad ha; have := h.le; omega), h.low, h.le, by simpa using hn⟩, ?_⟩
  · rw [List.length_append, List.flatMap_append]; simpa [pc] using own_store ho hb5 (by decide) 3 vp'
  · refine Mod.trans (hm.mono fun k _ e => .inr e) hms (fun i hi e => ?_)
    subst e
    exact .inl (Ty.has h.box h.le (by decide))

structure GoPre (B0 bw : Nat) (A : Option Addr) (c : Nat) (objs : List Ob) (level : Int) (p : Part) (at_ : Int) (x : BS) (w : World) : Prop where
  wk : ∃ va vd vp parts, WkIs B0 bw A c objs va vd vp x.asked x.data parts x.bad w
  size : 1 ≤ p.size
  at0 : 0 ≤ at_
  ends : at_ + p.size ≤ 262144
  nask : (x.asked.length : Int) + Need level * p.size ≤ 6000000
  ndat : (x.data.length : Int) + p.size ≤ 300000000
def GoPost (B0 bw : Nat) (A : Option Addr) (c : Nat) (objs : List Ob) (vp : Value) (y : BS) (w : World) (e : Ending) (w' : World) : Prop :=
  e = .returned (.tuple #[]) ∧ ∃ va' vd' vp' parts', WkIs B0 bw A c objs va' vd' vp' y.asked y.data parts' y.bad w' ∧ Mod (WS B0 vp w) w w' ∧ RowOf w vp vp'
def Nums (level : Int) (p : Part) (at_ : Int) (x : BS) : Prop := 1 ≤ p.size ∧ 0 ≤ at_ ∧ at_ + p.size ≤ 262144 ∧ (x.asked.length : Int) + Need level * p.size ≤ 6000000 ∧ (x.data.length : Int) + p.size ≤ 300000000
theorem nums_next {objs : List Ob} {lo hi level L : Int} {kids : List Part} {p : Part} {at_ : Int} {x : BS} {j : Nat} (h : Nums level p at_ x) (hj : j < kids.length)
    (hL : (level < 0 ∨ L = level) ∧ 1 ≤ L ∧ L ≤ 20) (hs : (kids.map (·.size)).sum = p.size) (hk : ∀ k ∈ kids, 1 ≤ k.size ∧ k.size ≤ 262144 ∧ k.id.size = 32) :
    Nums (L - 1) kids[j] (at_ + sizes (kids.take j)) (rdF objs lo hi (L - 1).toNat (kids.take j) at_ (x.ask p.id)).2 := by
  obtain ⟨hp, h0, he, hna, hnd⟩ := h
  have hst := sizes_snoc hj
  have hk1 := hk _ (List.getElem_mem hj)
  have htk : ∀ k ∈ kids.take j, 1 ≤ k.size := fun k hk' => (hk k (List.mem_of_mem_take hk')).1
  have h1 := rdF_asked objs lo hi (L - 1).toNat (kids.take j) at_ (x.ask p.id) htk
  have h2 := rdF_data objs lo hi (L - 1).toNat (kids.take j) at_ (x.ask p.id) htk
  have hz : 0 ≤ sizes (kids.take j) := by
    have := sum_take_le (kids.take j) htk; unfold sizes; omega
  have hz2 : 0 ≤ sizes (kids.drop (j + 1)) := by
    have := sum_take_le (kids.drop (j + 1)) (fun k hk' => (hk k (List.mem_of_mem_drop hk')).1); unfold sizes; omega
  have hz3 : sizes (kids.take (j + 1)) + sizes (kids.drop (j + 1)) = p.size := by rw [← sizes_append, List.take_append_drop]; exact hs
  have hle : L * (sizes (kids.take j) + kids[j].size) ≤ L * p.size := Int.mul_le_mul_of_nonneg_left (by omega) (by omega)
  rw [Int.mul_add] at hle
  have hnl : L * p.size + p.size ≤ Need level * p.size := by
    rw [show L * p.size + p.size = (L + 1) * p.size by rw [Int.add_mul, Int.one_mul]]
    refine Int.mul_le_mul_of_nonneg_right ?_ (by omega)
    unfold Need
    split <;> omega
  have e1 : (((L - 1).toNat : Int) + 1) = L := by omega
  have e2 : Need (L - 1) = L := by unfold Need; rw [if_neg (by omega)]; omega
  rw [e1] at h1
  have e3 : ((x.ask p.id).asked.length : Int) = x.asked.length + 1 := by simp [BS.ask]
  have e4 : (x.ask p.id).data = x.data := rfl
  rw [e3] at h1
  rw [e4] at h2
  refine ⟨hk1.1, by omega, by omega, ?_, by omega⟩
  rw [e2]
  omega
theorem nums_ask {level : Int} {p : Part} {at_ : Int} {x : BS} (h : Nums level p at_ x) (hl : -1 ≤ level) : (x.asked.length : Int) + 1 ≤ 6000000 := by
  obtain ⟨hp, h0, he, hna, hnd⟩ := h
  have : 1 * p.size ≤ Need level * p.size := Int.mul_le_mul_of_nonneg_right (by unfold Need; split <;> omega) (by omega)
  omega
end Blob
end Go.Proofs.YthgcjfpaekpeeaaDoor
