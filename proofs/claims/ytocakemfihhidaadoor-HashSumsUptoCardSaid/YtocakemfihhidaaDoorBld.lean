/- strings.Builder, wherever it lies: copyCheck, WriteString, String, Reset of a builder in a block b from cell o on. -/
import Derived.Test.YtocakemfihhidaaDoorK
import Derived.Lib.Builder
import Derived.Lib.UnsafeStr
namespace Go.Proofs.YtocakemfihhidaaDoor
open Go.RowKit
namespace K

theorem str_t : SliceT Tryd.prog 25 5 1 1 := ⟨Tryd.underlying25, by decide, _, .int .u8 0, rfl, rfl, rfl, rfl, rfl⟩

theorem Mod.freeze {S : Nat → Prop} {a w : World} (h : Mod S a w) {p : Addr} (hp : S p.block ∨ a.heap.size ≤ p.block) (n : Nat) : Mod S a (w.freeze p n) := by
  unfold World.freeze
  split
  · exact h
  · refine ⟨h.os, h.tape, h.output, by simp only [Array.size_modify]; exact h.size, fun k hk hs => ?_⟩
    simp only [Array.getElem?_modify]
    rw [if_neg (by rintro rfl; rcases hp with hp | hp; exact hs hp; omega)]
    exact h.block k hk hs

theorem Has.shape {w : World} {b : Nat} {cs : List Value} {T : TypeId} (h : Has w b cs T) : w.shape? b = some (T, cs.length) := by
  unfold Has at h; simp [World.shape?, h]

set_option maxRecDepth 100000 in
set_option maxHeartbeats 1000000 in
/-- copyCheck, fresh -/
theorem check_fresh (b o : Nat) (cs : List Value) (T : TypeId) (w : World) (h : Has w b cs T) (h0 : cs[o]? = some (.pointer none)) (hl : liesAt Tryd.prog Tryd.prog.depth T (cs.length / Tryd.prog.cellsOf T) o 50 1 = true) :
    Calls Tryd.prog 34 #[.pointer (some ⟨b, o, none⟩)] w fun e w' => e = .returned (.tuple #[]) ∧ w' = w.setCell ⟨b, o, none⟩ (.pointer (some ⟨b, o, none⟩)) := by
  have c0 := h.cell h0
  have f0 := h.frozen o
  have ho : o < cs.length := (List.getElem?_eq_some_iff.1 h0).1
  have hsh := h.shape
  obtain ⟨j, hj, hjs⟩ : ∃ j, Tryd.prog.info? 50 = some j ∧ j.size ≠ 0 := ⟨_, rfl, by decide⟩
  have cn1 := Lib.run_to_unsafe (P := Tryd.prog) w ⟨b, o, none⟩ Tryd.underlying48 Tryd.underlying67 hj hjs hsh ho
  have cn2 := Lib.run_from_unsafe (P := Tryd.prog) w ⟨b, o, none⟩ Tryd.underlying67 Tryd.underlying48 hj hsh hl
  clear h hl
  go_enter Tryd.func34, Tryd.ntmps34
  go_wp2_with fail
  rw [run_callFunc_extern Tryd.func40 (by kernel_rfl) (by kernel_rfl) (by kernel_rfl) (e := Extern.AbiNoEscape.same) (by kernel_rfl)]
  rw [Lib.run_noEscape]
  simp only [Result.andThen]
  rw [Oper.upon_value]
  go_wp2_with fail
  go_end0
  exact ⟨rfl, rfl⟩

set_option maxRecDepth 100000 in
set_option maxHeartbeats 1000000 in
theorem check_used (b o : Nat) (cs : List Value) (T : TypeId) (w : World) (h : Has w b cs T) (h0 : cs[o]? = some (.pointer (some ⟨b, o, none⟩))) :
    Calls Tryd.prog 34 #[.pointer (some ⟨b, o, none⟩)] w fun e w' => e = .returned (.tuple #[]) ∧ w' = w := by
  have c0 := h.cell h0
  obtain ⟨j, hj, hjs⟩ : ∃ j, Tryd.prog.info? 50 = some j ∧ j.size ≠ 0 := ⟨_, rfl, by decide⟩
  have cn1 := Lib.run_neq_ptr_same (P := Tryd.prog) w ⟨b, o, none⟩ Tryd.underlying48 hj
  clear h
  go_enter Tryd.func34, Tryd.ntmps34
  go_wp2_with fail
  go_end0
  exact ⟨rfl, rfl⟩

theorem own_ne {w : World} {base b : Nat} {e T : TypeId} {size n : Nat} {v : Value} {xs cs : List Value} (h : w.ownsRow base e size v n xs) (hb : Has w b cs T) (hT : T ≠ e) : v.ownBlock ≠ some b := by
  intro hv
  rcases h.2 with ⟨rfl, _⟩ | ⟨g, cap, cur, rfl, hg, hh, _⟩
  · cases hv
  · obtain rfl : g = b := by simpa [Value.ownBlock] using hv
    rw [Has, hh] at hb
    simp at hb
    exact hT hb.2.symm

/-- a builder's first cell: nil, or itself -/
def Addr0 (b o : Nat) (p : Value) : Prop := p = .pointer none ∨ p = .pointer (some ⟨b, o, none⟩)

theorem check_calls (b o : Nat) (p : Value) (cs : List Value) (T : TypeId) (w : World) (h : Has w b cs T) (h0 : cs[o]? = some p) (hp : Addr0 b o p) (hl : liesAt Tryd.prog Tryd.prog.depth T (cs.length / Tryd.prog.cellsOf T) o 50 1 = true) :
    Calls Tryd.prog 34 #[.pointer (some ⟨b, o, none⟩)] w fun e w' => e = .returned (.tuple #[]) ∧ Has w' b (cs.set o (.pointer (some ⟨b, o, none⟩))) T ∧ Mod (· = b) w w' := by
  rcases hp with rfl | rfl
  · refine (check_fresh b o cs T w h h0 hl).mono ?_
    rintro e w' ⟨rfl, rfl⟩
    exact ⟨rfl, h.set _ _, (Mod.refl (· = b) w).set1 rfl _ _⟩
  · refine (check_used b o cs T w h h0).mono ?_
    rintro e w' ⟨rfl, rfl⟩
    refine ⟨rfl, ?_, Mod.refl _ _⟩
    obtain ⟨h1, h2⟩ := List.getElem?_eq_some_iff.1 h0
    rw [← h2, List.set_getElem_self]
    exact h

set_option maxRecDepth 100000 in
set_option maxHeartbeats 1000000 in
theorem writeStr_calls (base b o : Nat) (p v : Value) (l : List UInt8) (cs : List Value) (T : TypeId) (w : World) (s : ByteArray) (h : Has w b cs T) (h0 : cs[o]? = some p) (h1 : cs[o + 1]? = some v) (hp : Addr0 b o p)
    (hl : liesAt Tryd.prog Tryd.prog.depth T (cs.length / Tryd.prog.cellsOf T) o 50 1 = true) (hown : w.ownsRow base 5 1 v l.length (bv l)) (hT : T ≠ 5) (hbase : base ≤ w.heap.size) (hlen : l.length + s.size ≤ 140737488355328) :
    Calls Tryd.prog 28 #[.pointer (some ⟨b, o, none⟩), .string s] w fun e w' => e = .returned (.tuple #[.int .i64 s.size, .nilIface]) ∧
      ∃ v', Has w' b ((cs.set o (.pointer (some ⟨b, o, none⟩))).set (o + 1) v') T ∧ w'.ownsRow base 5 1 v' (l ++ s.data.toList).length (bv (l ++ s.data.toList)) ∧ Mod (fun k => k = b ∨ (base ≤ k ∧ v.ownBlock = some k)) w w' := by
  have hne : v.ownBlock ≠ some b := own_ne hown h hT
  have hck := check_calls b o p cs T w h h0 hp hl
  have ho : o + 1 < cs.length := (List.getElem?_eq_some_iff.1 h1).1
  have HC := Lib.hid hck
  have HH := Lib.hid h
  clear hck h h0 hl
  go_enter Tryd.func28, Tryd.ntmps28
  go_wp2_with fail
  refine HC.out.mono ?_
  rintro e w1 ⟨rfl, hh, hm⟩
  have c1 := hh.cell (o := o + 1) (v := v) (by rw [List.getElem?_set_ne (by omega)]; exact h1)
  have hown1 := own_keep hown hm (fun k _ hk e => hne (by rw [hk, e]))
  have hsz := hm.size
  have HM := Lib.hid hm
  clear hm hown HC
  go_wp2_with (first
    | fail
    | (at_builtin
       go_must (refine app_str _ _ str_t (fun i z hi hz => by cases hi; cases hz; rfl) Tryd.underlying9 base v l.length (bv l) hown1 s rfl rfl rfl rfl (by unfold maxLen; omega) hlen (by omega) ?_; intro v' w2 hown2 hm2)
       have hh2 := hh.keep hm2 (fun ⟨_, hk⟩ => hne hk)
       have c2 := hh2.cell (o := o + 1) (v := v) (by rw [List.getElem?_set_ne (by omega)]; exact h1)
       have f2 := hh2.frozen (o + 1)
       have hne2 : v'.ownBlock ≠ some b := own_ne hown2 hh2 hT
       have hm3 : Mod (fun k => k = b ∨ (base ≤ k ∧ v.ownBlock = some k)) w w2 := Mod.trans (Mod.mono HM.out (fun _ _ h => .inl h)) hm2 (fun _ _ h => .inr h)
       have HX := Lib.hid (hh2.set (o + 1) v')
       have HY := Lib.hid (hm3.set1 (b := b) (.inl rfl) (o + 1) v')
       have HZ := Lib.hid (own_keep hown2 ((Mod.refl (· = b) w2).set1 rfl (o + 1) v') (fun k _ hk e => hne2 (by rw [hk, e])))
       clear hh2 hm2 hm3
       obtain ⟨A2, c2, rfl, -, -, -, -⟩ := own_cells hown2
       clear hown2))
  go_wp2_with fail
  go_ret2
  refine ⟨rfl, _, HX.out, ?_, HY.out⟩
  rw [bv_append, List.length_append, show s.data.toList.length = s.size by simp]
  exact HZ.out

set_option maxRecDepth 100000 in
set_option maxHeartbeats 1000000 in
/-- String of a builder that holds a byte: the bytes are frozen in its row -/
theorem string_calls (base b o : Nat) (v : Value) (l : List UInt8) (cs : List Value) (T : TypeId) (w : World) (h : Has w b cs T) (h1 : cs[o + 1]? = some v) (hown : w.ownsRow base 5 1 v l.length (bv l)) (h0 : l ≠ []) :
    Calls Tryd.prog 26 #[.pointer (some ⟨b, o, none⟩)] w fun e w' => e = .returned (.string ⟨l.toArray⟩) ∧ Mod (fun k => base ≤ k ∧ v.ownBlock = some k) w w' := by
  have hl0 : l.length ≠ 0 := by simpa using h0
  obtain ⟨g, cap, cur, rfl, hbg, hg, hnc, hcm, hcs, htake⟩ : ∃ g cap cur, v = .slice (some ⟨g, 0, none⟩) l.length cap ∧ base ≤ g ∧ w.heap[g]? = some (.cells cur 5 (0, 0)) ∧ l.length ≤ cap ∧ cap ≤ maxLen ∧ cur.size = cap * 1 ∧ cur.toList.take (l.length * 1) = bv l := by
    rcases hown.2 with ⟨_, hz⟩ | ⟨g, cap, cur, hv, r⟩
    · exact absurd hz hl0
    · exact ⟨g, cap, cur, hv, r⟩
  have c1 := h.drew.cell h1
  have hSD : (Builtin.unsafeSliceData_ #[25] 62 #[.slice (some ⟨g, 0, none⟩) l.length cap]).run Tryd.prog w.drew = .ok (.pointer (some ⟨g, 0, none⟩)) w.drew :=
    Lib.run_unsafeSliceData_row _ _ _ _ _ _ (by omega)
  have hUS : (Builtin.unsafeString_ #[62, 3] 9 #[.pointer (some ⟨g, 0, none⟩), .int .i64 l.length]).run Tryd.prog w.drew = .ok (.string ⟨l.toArray⟩) (w.drew.freeze ⟨g, 0, none⟩ l.length) := by
    refine Lib.run_unsafeString_row w.drew 62 3 9 5 Tryd.underlying62 (by kernel_rfl) g cur.size (by have hg' : w.drew.heap[g]? = some (.cells cur 5 (0, 0)) := hg; simp [World.shape?, hg']) l h0 (by omega) (by unfold maxLen at hcm; omega) ?_
    intro j x hx
    have := hown.cells (g := g) rfl j (.int .u8 x.toNat) (by simp [bv, hx])
    exact this
  have hm : Mod (fun k => base ≤ k ∧ (Value.slice (some ⟨g, 0, none⟩) l.length cap).ownBlock = some k) w (w.drew.freeze ⟨g, 0, none⟩ l.length) := Mod.freeze (Mod.refl _ w).drew (p := ⟨g, 0, none⟩) (.inl ⟨hbg, rfl⟩) _
  have HM := Lib.hid hm
  clear hm hown h hg htake hcs h0 h1
  go_enter Tryd.func26, Tryd.ntmps26
  go_wp2_with fail
  refine region_tail 10 (by kernel_rfl) (by kernel_rfl) ?_
  simp only [List.take_succ_cons, List.take_zero, List.drop_succ_cons, List.drop_zero]
  repeat still_step
  refine wpStill_nil ?_
  go_wp2_with fail
  go_ret
  exact ⟨rfl, HM.out⟩
end K
end Go.Proofs.YtocakemfihhidaaDoor
