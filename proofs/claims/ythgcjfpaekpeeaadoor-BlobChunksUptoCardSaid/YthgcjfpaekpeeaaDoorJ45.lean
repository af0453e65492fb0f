/- Joined texts: BlobCa. -/
import Derived.Test.YthgcjfpaekpeeaaDoorJ39
/- The walk of the asker's chunks. -/
namespace Go.Proofs.YthgcjfpaekpeeaaDoor
set_option linter.unusedVariables false
set_option linter.unusedSimpArgs false
open Go.RowKit K Wire Go.Maps
namespace Blob
open Go.Proofs.YthgcjfpaekpeeaaDoor.Obj

def tQ : List TypeId := [9, 32]
/-- what the asker's chunks turn -/
def CS (B : Nat) (v : Value) (w : World) (k : Nat) : Prop := Ty B tQ w k ∨ v.ownBlock = some k
theorem CS.trans {B : Nat} {v v1 : Value} {w w1 w2 : World} (h : Mod (CS B v w) w w1) (k : Mod (CS B v1 w1) w1 w2) (hr : RowOf w v v1) : Mod (CS B v w) w w2 :=
  Mod.trans h k (fun i hi hs => by
    by_cases hq : CS B v w i
    · exact hq
    · rcases hs with ⟨hb, cur, fr, T, h1, h2⟩ | hs
      · rw [h.block i hi hq] at h1
        exact .inl ⟨hb, cur, fr, T, h1, h2⟩
      · rcases hr i hs with h3 | h3
        · exact .inr h3
        · omega)
def CNums (level : Int) (p : Part) (x : BS) : Prop := 1 ≤ p.size ∧ p.size ≤ 262144 ∧ (x.asked.length : Int) + Need level * p.size ≤ 6000000 ∧ (x.parts.length : Int) + p.size ≤ 300000000
theorem cnums_ask {level : Int} {p : Part} {x : BS} (h : CNums level p x) (hl : -1 ≤ level) : (x.asked.length : Int) + 1 ≤ 6000000 := by
  obtain ⟨hp, h0, hna, hnd⟩ := h
  have : 1 * p.size ≤ Need level * p.size := Int.mul_le_mul_of_nonneg_right (by unfold Need; split <;> omega) (by omega)
  omega
theorem chkF_asked (objs : List Ob) (l : Nat) (kids : List Part) (x : BS) (h : ∀ k ∈ kids, 1 ≤ k.size) : ((chkF objs l kids x).asked.length : Int) ≤ x.asked.length + (l : Int) * sizes kids := by
  have := foldl_le (fun y : BS => (y.asked.length : Int)) (fun y k => chkS objs l k y) (fun k => (l : Int) * k.size) kids x (fun y a ha => chkS_asked objs l a y (h a ha))
  rw [sum_mul] at this
  exact this
theorem chkF_parts (objs : List Ob) (l : Nat) (kids : List Part) (x : BS) (h : ∀ k ∈ kids, 1 ≤ k.size) : ((chkF objs l kids x).parts.length : Int) ≤ x.parts.length + sizes kids :=
  foldl_le (fun y : BS => (y.parts.length : Int)) (fun y k => chkS objs l k y) (fun k => k.size) kids x (fun y a ha => chkS_parts objs l a y (h a ha))
theorem cnums_next {objs : List Ob} {level L : Int} {kids : List Part} {p : Part} {x : BS} {j : Nat} (h : CNums level p x) (hj : j < kids.length)
    (hL : (level < 0 ∨ L = level) ∧ 1 ≤ L ∧ L ≤ 20) (hs : (kids.map (·.size)).sum = p.size) (hk : ∀ k ∈ kids, 1 ≤ k.size ∧ k.size ≤ 262144 ∧ k.id.size = 32) :
    CNums (L - 1) kids[j] (chkF objs (L - 1).toNat (kids.take j) (x.ask p.id)) := by
  obtain ⟨hp, hp2, hna, hnd⟩ := h
  have hst := sizes_snoc hj
  have hk1 := hk _ (List.getElem_mem hj)
  have htk : ∀ k ∈ kids.take j, 1 ≤ k.size := fun k hk' => (hk k (List.mem_of_mem_take hk')).1
  have h1 := chkF_asked objs (L - 1).toNat (kids.take j) (x.ask p.id) htk
  have h2 := chkF_parts objs (L - 1).toNat (kids.take j) (x.ask p.id) htk
  have hz : 0 ≤ sizes (kids.take j) := by
    have := sum_take_le (kids.take j) htk; unfold sizes; omega
  have hz2 : 0 ≤ sizes (kids.drop (j + 1)) := by
    have := sum_take_le (kids.drop (j + 1)) (fun k hk' => (hk k (List.mem_of_mem_drop hk')).1); unfold sizes; omega
  have hz3 : sizes (kids.take (j + 1)) + sizes (kids.drop (j + 1)) = p.size := by rw [← sizes_append, List.take_append_drop]; exact hs
  have hle : L * (sizes (kids.take j) + kids[j].size) ≤ L * p.size := Int.mul_le_mul_of_nonneg_left (by omega) (by omega)
  rw [Int.mul_add] at hle
  have hle2 : (L - 1) * sizes (kids.take j) ≤ L * sizes (kids.take j) := Int.mul_le_mul_of_nonneg_right (by omega) hz
  have hnl : L * p.size + p.size ≤ Need level * p.size := by
    rw [show L * p.size + p.size = (L + 1) * p.size by rw [Int.add_mul, Int.one_mul]]
    refine Int.mul_le_mul_of_nonneg_right ?_ (by omega)
    unfold Need
    split <;> omega
  have e1 : ((L - 1).toNat : Int) = L - 1 := by omega
  have e2 : Need (L - 1) = L := by unfold Need; rw [if_neg (by omega)]; omega
  rw [e1] at h1
  have e3 : ((x.ask p.id).asked.length : Int) = x.asked.length + 1 := by simp [BS.ask]
  have e4 : (x.ask p.id).parts = x.parts := rfl
  rw [e3] at h1
  rw [e4] at h2
  refine ⟨hk1.1, hk1.2.1, ?_, by omega⟩
  rw [e2]
  omega
theorem chkF_end {objs : List Ob} {l j : Nat} {kids : List Part} {x : BS} (h : (chkF objs l (kids.take j) x).bad ≠ 0) : chkF objs l kids x = chkF objs l (kids.take j) x := by
  have e : chkF objs l kids x = chkF objs l (kids.drop j) (chkF objs l (kids.take j) x) := by rw [← chkF_append, List.take_append_drop]
  rw [e]
  exact chkF_bad objs l _ _ h
theorem chkB_at {objs : List Ob} {level : Int} {p : Part} {x : BS} (hb : x.bad = 0) : chkB objs level p x =
    match nodeOf objs p level with
    | .bad e => { x.ask p.id with bad := e }
    | .chunk _ => { x.ask p.id with parts := x.parts ++ [p] }
    | .fan L kids => chkF objs (L - 1).toNat kids (x.ask p.id) := by
  unfold chkB
  rw [if_neg (fun h => h hb)]
  rfl
structure CkPre (G : Gt) (B0 : Nat) (level : Int) (p : Part) (x : BS) (v : Value) (w : World) : Prop where
  bad : x.bad = 0
  inv : G.I x.asked w
  own : w.ownsRow B0 25 2 v x.parts.length (x.parts.flatMap pc)
  nums : CNums level p x
  base : B0 ≤ w.heap.size
  le : G.B ≤ B0
def CkPost (G : Gt) (B0 : Nat) (v : Value) (y : BS) (w : World) (e : Ending) (w' : World) : Prop :=
  ∃ v', e = .returned (.tuple #[v', .int .i64 y.bad]) ∧ G.I y.asked w' ∧ Mod (CS G.B v w) w w' ∧ (if y.bad = 0 then w'.ownsRow B0 25 2 v' y.parts.length (y.parts.flatMap pc) ∧ RowOf w v v' else v' = .slice none 0 0)
theorem CkPre.keep {G : Gt} {objs : List Ob} (ok : GtOk G objs) {B0 : Nat} {level : Int} {p : Part} {x : BS} {v : Value} {w w' : World} (h : CkPre G B0 level p x v w) (m : Mod (fun _ => False) w w') : CkPre G B0 level p x v w' :=
  ⟨h.bad, ok.keep _ _ _ _ h.inv m (fun _ _ h => h), own_keep h.own m (fun _ _ _ h => h), h.nums, Nat.le_trans h.base m.size, h.le⟩
/-- the row that an append leaves is kept apart from what who answers needs -/
theorem ck_app {G : Gt} {objs : List Ob} (ok : GtOk G objs) {B0 n : Nat} {a : List ByteArray} {v : Value} {w w' : World} {xs : List Value} (hI : G.I a w) (ho : w.ownsRow B0 25 2 v n xs) (hB : G.B ≤ B0) (m : Mod (fun k => v.ownBlock = some k) w w') : G.I a w' :=
  ok.keep _ _ _ _ hI m (fun k hk h => R.not (own_row ho h) (by have := (ho.lt k h).1; omega) (by decide) (by decide) (by decide) (by decide) hk)

set_option maxRecDepth 100000 in
set_option maxHeartbeats 4000000 in
theorem chunks0_calls {G : Gt} {objs : List Ob} (ok : GtOk G objs) {B0 : Nat} (p : Part) (x : BS) (v : Value) (w : World) (h : CkPre G B0 0 p x v w) :
    Calls Tryd.prog 37 #[.agg #[.func (.func G.ks) #[] G.caps], .agg #[.string p.id, .int .i64 p.size], .int .i64 0, v] w (CkPost G B0 v (chkS objs 0 p x) w) := by
  have hY : chkS objs 0 p x = { x with parts := x.parts ++ [p] } := by unfold chkS; rw [if_neg (fun e => e h.bad)]
  rw [hY]
  have hm2 := ((Mod.refl (fun _ => False) w).alloc (.cells #[.func (.func G.ks) #[] G.caps] 71)).alloc (.cells #[.string p.id, .int .i64 p.size] 25)
  have hb2 : Has ((w.alloc (.cells #[.func (.func G.ks) #[] G.caps] 71)).alloc (.cells #[.string p.id, .int .i64 p.size] 25)) (w.heap.size + 1) [.string p.id, .int .i64 p.size] 25 := Has.lit (by simp)
  have hp := h.keep ok hm2
  have x0 := hb2.cell (o := 0) rfl
  have x1 := hb2.cell (o := 1) rfl
  have hnp := h.nums.2.2.2
  have hsz := h.nums.1
  have HP := Lib.hid hp
  have HM2 := Lib.hid hm2
  have HBD := Lib.hid h.bad
  have hbase := h.base
  clear hY h hp hm2 hb2
  go_enter Tryd.func37, Tryd.ntmps37
  go_wp2_with (first
    | (at_builtin
       (refine appG (.tmp 17) (.tmp 19) part_t B0 v x.parts.length (x.parts.flatMap pc) (HP.out.own.alloc _) (some ⟨w.heap.size + 2, 0, none⟩) 1 1 [.string p.id, .int .i64 p.size] rfl rfl rfl (by simp [Act.eval]) rfl (cells_lit (by simp)) (by intro u hu; simp at hu; rcases hu with rfl | rfl <;> rfl) (by omega) (by unfold maxLen; omega) (by simp; omega) ?_; intro v7 w7 ho7 hm7 hr7)
       have hI7 := ck_app ok (ok.keep _ _ _ _ HP.out.inv ((Mod.refl (fun _ => False) _).alloc (.cells #[.string p.id, .int .i64 p.size] 25)) (fun _ _ h => h)) (HP.out.own.alloc (.cells #[.string p.id, .int .i64 p.size] 25)) HP.out.le hm7
       have hM7 := Mod.trans ((HM2.out.alloc (.cells #[.string p.id, .int .i64 p.size] 25)).mono (S' := CS G.B v w) fun _ _ h => h.elim) hm7 (fun i _ hi => .inr hi)
       have hR7 : RowOf w v v7 := rowOf_later hr7 (by simp; omega)
       have HI7 := Lib.hid hI7
       have HM7 := Lib.hid hM7
       have HR7 := Lib.hid hR7
       have HO7 := Lib.hid ho7
       clear hm7 hr7 hI7 hM7 hR7 ho7))
  go_ret2
  unfold CkPost
  refine ⟨v7, by show _ = Ending.returned (Value.tuple #[v7, .int .i64 x.bad]); rw [HBD.out]; rfl, HI7.out, HM7.out, ?_⟩
  rw [if_pos (show x.bad = 0 from HBD.out)]
  refine ⟨?_, HR7.out⟩
  show w7.ownsRow B0 25 2 v7 (x.parts ++ [p]).length ((x.parts ++ [p]).flatMap pc)
  rw [List.length_append, List.flatMap_append]
  simpa [pc] using HO7.out
end Blob
end Go.Proofs.YthgcjfpaekpeeaaDoor
