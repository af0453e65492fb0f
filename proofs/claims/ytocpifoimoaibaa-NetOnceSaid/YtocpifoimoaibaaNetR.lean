/- The walks of the document's answer for the net: Right, turned, goes, Go, Come; and of 'same'. -/
import Derived.Test.YtocpifoimoaibaaNetX
import Derived.Deep.QuietTactic
namespace Go.Proofs.Ytocpifoimoaibaa
set_option linter.unusedVariables false
set_option linter.unusedSimpArgs false
open Go.RowKit K
namespace Net

set_option maxRecDepth 100000 in
theorem rturned_calls (s : ByteArray) (f : Fate) (w : World) (hs : s.size ≤ maxLen) (h0 : 0 < s.size) (ha1 : -9223372036854775808 ≤ f.a) (ha2 : f.a ≤ 9223372036854775807) :
    Calls Try.prog 28 #[.string s, .int .i64 f.a, .int .u8 (f.b.toNat : Int)] w fun e w' => e = .returned (.string (trnB s f.a f.b)) ∧ Mod (fun _ => False) w w' := by
  obtain ⟨c1, w1, hE, hM1, hC1, hN1, hx1, hg1, hf1⟩ := to_bytes s w hs
  have hsz1 := hM1.size
  have hlen : s.data.toList.length = s.size := by simp
  unfold maxLen at hs
  have hx0 : 0 ≤ (if f.a < 0 then -1 - f.a else f.a) := by split <;> omega
  obtain ⟨m, hm⟩ : ∃ m : Nat, (if f.a < 0 then -1 - f.a else f.a) = (m : Int) := ⟨_, (Int.toNat_of_nonneg hx0).symm⟩
  have hmb : (m : Int) ≤ 9223372036854775807 := by rw [← hm]; split <;> omega
  obtain ⟨p, hp⟩ : ∃ p, p = m % s.size := ⟨_, rfl⟩
  have hpl : p < s.size := by rw [hp]; exact Nat.mod_lt _ h0
  have hpp : place s.data.toList.length f.a = p := by
    unfold place; rw [hm, hlen, hp]; exact (by omega : ((m : Int) % (s.size : Int)).toNat = m % s.size)
  have htrn : trnB s f.a f.b = ⟨(s.data.toList.set p (s.data.toList.getD p 0 ^^^ f.b)).toArray⟩ := by unfold trnB trn; rw [hpp]
  have cp := hC1 p _ (bv_get _ p (by omega))
  have fp := hf1 p hpl
  have hmp : (m : Int) % (s.size : Int) = (p : Int) := by omega
  have hgd : s.data.toList.getD p 0 = s.data.toList[p] := by simp [List.getD, hlen, hpl]
  rw [hgd] at htrn
  generalize s.data.toList[p] = x at *
  have hw2 : Cells (w1.setCell ⟨w.heap.size, p, none⟩ (.int .u8 (Go.bits .xor .u8 (x.toNat : Int) (f.b.toNat : Int)))).drew (some ⟨w.heap.size, 0, none⟩) (bv (s.data.toList.set p (x ^^^ f.b))) := by
    refine .inr ⟨_, 0, rfl, fun j u hj => ?_⟩
    rw [Nat.zero_add]
    show (w1.setCell _ _).cell? _ = _
    by_cases hjp : j = p
    · subst hjp
      rw [bv_get _ _ (by rw [List.length_set]; omega)] at hj
      rw [← Option.some.inj hj]
      rw [xor_u8]; simp [World.cell?_setCell_same, cp, UInt8.toNat_xor]
    · rw [World.cell?_setCell_other (h := by intro h; exact hjp (by simpa using h.symm))]
      refine hC1 j u ?_
      rw [← hj]
      simp [bv, Ne.symm hjp]
  have hcv := run_bytes (P := Try.prog) c1 hw2 42 9 5 Try.underlying42 Try.underlying5 Try.underlying9
  rw [List.length_set, hlen] at hcv
  have hM2 : Mod (fun _ => False) w (w1.setCell ⟨w.heap.size, p, none⟩ (.int .u8 (Go.bits .xor .u8 (x.toNat : Int) (f.b.toNat : Int)))).drew := (hM1.setCell (p := ⟨w.heap.size, p, none⟩) (.inr (Nat.le_refl _)) _).drew
  have HM := Lib.hid hM2
  have HT := Lib.hid htrn
  have hs63 : (s.size : Int) ≤ 9223372036854775807 := by omega
  have hpi : (p : Int) < (s.size : Int) := by omega
  have hs0 : ¬ (s.size : Int) = 0 := by omega
  clear hM1 hp hC1 hf1 hM2 htrn hw2 hgd hpp hx0
  by_cases hneg : f.a < 0
  · rw [if_pos hneg] at hm
    have hwr : IntKind.i64.wrap (-1 - f.a) = (m : Int) := by rw [IntKind.wrap_i64]; omega
    have hm2 := Lib.hid hm
    clear hm
    go_enter Try.func28, Try.ntmps28
    go_wp2_with fail
    go_region
    go_wp2_with fail
    go_ret
    exact ⟨by rw [HT.out]; rfl, HM.out⟩
  · rw [if_neg hneg] at hm
    have ha0 : (0 : Int) ≤ f.a := by omega
    generalize f.a = fa at *
    subst hm
    clear ha0 ha1 ha2
    go_enter Try.func28, Try.ntmps28
    go_wp2_with fail
    go_region
    go_wp2_with fail
    go_ret
    exact ⟨by rw [HT.out]; rfl, HM.out⟩
/-- the reference's net: its fates, what waits there, and back -/
structure RP where
  rn : Nat
  A : Option Addr
  c : Nat
  At : Option Addr
  ct : Nat
  Ab : Option Addr
  cb : Nat
theorem row_keep {w w' : World} {S : Nat → Prop} {k T : Nat} (h : ∃ cur fr, w.heap[k]? = some (.cells cur T fr)) (m : Mod S w w') (hs : ¬ S k) : ∃ cur fr, w'.heap[k]? = some (.cells cur T fr) := by
  obtain ⟨cur, fr, hr⟩ := h
  exact ⟨cur, fr, (m.block _ (Array.getElem?_eq_some_iff.1 hr).1 hs).trans hr⟩
/-- a list of frames in memory: cells in a row of frames -/
structure Frames (w : World) (A : Option Addr) (c : Nat) (l : List ByteArray) : Prop where
  cells : Cells w A (sv l)
  cap : l.length ≤ c
  max : c ≤ maxLen
  row : ∀ a, A = some a → ∃ cur fr, w.heap[a.block]? = some (.cells cur 9 fr)
theorem own_frames {w : World} {base : Nat} {v : Value} {l : List ByteArray} (h : w.ownsRow base 9 1 v l.length (sv l)) : ∃ A c, v = .slice A l.length c ∧ Frames w A c l ∧ ∀ a, A = some a → base ≤ a.block := by
  obtain ⟨A, c, rfl, h1, h2, h3, h4⟩ := own_cells h
  exact ⟨A, c, rfl, ⟨h2, h1, h4, fun a ha => by subst ha; exact own_row h rfl⟩, fun a ha => by subst ha; exact (h.lt a.block rfl).1⟩
theorem Frames.keep {w w' : World} {S : Nat → Prop} {A : Option Addr} {c : Nat} {l : List ByteArray} (h : Frames w A c l) (m : Mod S w w') (hs : ∀ a, A = some a → ¬ S a.block) : Frames w' A c l :=
  ⟨h.cells.keep m hs, h.cap, h.max, fun a ha => row_keep (h.row a ha) m (hs a ha)⟩
theorem frames_nil (w : World) : Frames w none 0 [] := ⟨.inl rfl, Nat.le_refl _, Nat.zero_le _, fun a h => by cases h⟩

structure RefAt (w : World) (q : RP) (l : List Fate) (wt wb : List ByteArray) : Prop where
  has : Has w q.rn [.slice q.A l.length q.c, .slice q.At wt.length q.ct, .slice q.Ab wb.length q.cb] 33
  fates : FatesAt w q.A q.c l
  there : Frames w q.At q.ct wt
  back : Frames w q.Ab q.cb wb
def RP.fp (q : RP) (k : Nat) : Prop := k = q.rn ∨ (∃ a, q.A = some a ∧ a.block = k) ∨ (∃ a, q.At = some a ∧ a.block = k) ∨ (∃ a, q.Ab = some a ∧ a.block = k)
theorem RefAt.keep {w w' : World} {S : Nat → Prop} {q : RP} {l : List Fate} {wt wb : List ByteArray} (h : RefAt w q l wt wb) (m : Mod S w w') (hs : ∀ k, q.fp k → ¬ S k) : RefAt w' q l wt wb :=
  ⟨h.has.keep m (hs _ (.inl rfl)), h.fates.keep m (fun a ha => hs _ (.inr (.inl ⟨a, ha, rfl⟩))), h.there.keep m (fun a ha => hs _ (.inr (.inr (.inl ⟨a, ha, rfl⟩)))), h.back.keep m (fun a ha => hs _ (.inr (.inr (.inr ⟨a, ha, rfl⟩))))⟩
theorem RefAt.lt {w : World} {q : RP} {l : List Fate} {wt wb : List ByteArray} (h : RefAt w q l wt wb) : ∀ k, q.fp k → k < w.heap.size := by
  have hr : ∀ k T, (∃ cur fr, w.heap[k]? = some (.cells cur T fr)) → k < w.heap.size := fun k T ⟨_, _, h⟩ => (Array.getElem?_eq_some_iff.1 h).1
  rintro k (rfl | ⟨a, ha, rfl⟩ | ⟨a, ha, rfl⟩ | ⟨a, ha, rfl⟩)
  · exact h.has.lt
  · exact hr _ _ (h.fates.row a ha)
  · exact hr _ _ (h.there.row a ha)
  · exact hr _ _ (h.back.row a ha)

/-- the reference's net behind a frame: its fates go on -/
def RgPost (rn : Nat) (v1 v2 : Value) (A : Option Addr) (l : List Fate) (Aw : Option Addr) (out waits' : List ByteArray) (w : World) (e : Ending) (w' : World) : Prop :=
  ∃ A1 c1 A2 c2 A' c', e = .returned (.tuple #[.slice A1 out.length c1, .slice A2 waits'.length c2]) ∧ Frames w' A1 c1 out ∧ Frames w' A2 c2 waits' ∧ (∀ a, A1 = some a → w.heap.size ≤ a.block) ∧ (∀ a, A2 = some a → A2 = Aw ∨ w.heap.size ≤ a.block) ∧
    Has w' rn [.slice A' l.length c', v1, v2] 33 ∧ FatesAt w' A' c' l ∧ SameRow A A' ∧ Mod (fun k => k = rn) w w'

/-- the world behind the fate was taken -/
def Took (rn : Nat) (v1 v2 : Value) (A : Option Addr) (l : List Fate) (w w1 : World) : Prop :=
  ∃ A' c', Has w1 rn [.slice A' l.length c', v1, v2] 33 ∧ FatesAt w1 A' c' l ∧ SameRow A A' ∧ Mod (fun k => k = rn) w w1
theorem goes_done {rn : Nat} {v1 v2 : Value} {A Aw : Option Addr} {l : List Fate} {out waits' : List ByteArray} {w w1 w2 : World} {A1 A2 : Option Addr} {c1 c2 : Nat} (ht : Took rn v1 v2 A l w w1) (hm : Mod (fun _ => False) w1 w2)
    (h1 : Frames w2 A1 c1 out) (h2 : Frames w2 A2 c2 waits') (h3 : ∀ a, A1 = some a → w1.heap.size ≤ a.block) (h4 : ∀ a, A2 = some a → A2 = Aw ∨ w1.heap.size ≤ a.block) :
    RgPost rn v1 v2 A l Aw out waits' w (.returned (.tuple #[.slice A1 out.length c1, .slice A2 waits'.length c2])) w2 := by
  obtain ⟨A', c', hh, hf, hs, hm1⟩ := ht
  exact ⟨A1, c1, A2, c2, A', c', rfl, h1, h2, fun a ha => Nat.le_trans hm1.size (h3 a ha), fun a ha => (h4 a ha).imp id (Nat.le_trans hm1.size), hh.keep hm (fun h => h), hf.keep hm (fun _ _ h => h), hs, Mod.trans hm1 hm (fun _ _ h => h.elim)⟩

theorem fates_slice1 {w : World} {b o c : Nat} {f : Fate} {l : List Fate} (h : FatesAt w (some ⟨b, o, none⟩) c (f :: l)) : ∃ A', (∀ w' : World, (Instr.slice 22 (.slice (some ⟨b, o, none⟩) (l.length + 1) c) (some (.int .i64 1)) none none).run Try.prog w' = .ok (.slice A' l.length (c - 1)) w') ∧ FatesAt w A' (c - 1) l ∧ SameRow (some ⟨b, o, none⟩) A' := by
  by_cases hc : c = 1
  · have hl0 : l = [] := List.eq_nil_of_length_eq_zero (by have := h.cap; simp at this; omega)
    subst hl0; subst hc
    refine ⟨some ⟨b, o, none⟩, fun w' => ?_, ⟨.inl rfl, Nat.zero_le _, by omega, .inr ⟨_, _, rfl⟩, h.row⟩, fun a ha => ⟨_, rfl, by rw [← Option.some.inj ha]⟩⟩
    have hso : (sizeOf 35).run Try.prog w' = .ok 3 w' := rfl
    simp only [Instr.slice, Instr.sliceBounds, Instr.sliceBound]
    simp [run_underlying Try.underlying22, asIntOf, hso, Result.andThen]
  · have hl := h.cap
    simp at hl
    refine ⟨some ⟨b, o + 3, none⟩, fun w' => ?_, h.tail, fun a ha => ⟨_, rfl, by rw [← Option.some.inj ha]⟩⟩
    have hso : (sizeOf 35).run Try.prog w' = .ok 3 w' := rfl
    have e3 : (⟨b, o, none⟩ : Addr).add 3 = ⟨b, o + 3, none⟩ := by unfold Addr.add; split <;> simp_all
    simp only [Instr.slice, Instr.sliceBounds, Instr.sliceBound]
    simp [run_underlying Try.underlying22, asIntOf, hso, Result.andThen]
    have hc2 : ¬ c - 1 = 0 := by omega
    have hc3 : 1 ≤ (c : Int) := by omega
    rw [if_pos (by omega)]
    simp [hc, e3]

set_option maxRecDepth 100000 in
set_option maxHeartbeats 2000000 in
theorem rgoes_calls (rn : Nat) (v1 v2 : Value) (A : Option Addr) (c : Nat) (l : List Fate) (Aw : Option Addr) (cw : Nat) (waits : List ByteArray) (s : ByteArray) (w : World)
    (hh : Has w rn [.slice A l.length c, v1, v2] 33) (hF : FatesAt w A c l) (hW : Frames w Aw cw waits) (hWn : ∀ a, Aw = some a → a.block ≠ rn) (hl : FWf l) (hs : s.size ≤ maxLen) (h0 : 0 < s.size) (hwl : waits.length ≤ 1000000) :
    Calls Try.prog 23 #[.pointer (some ⟨rn, 0, none⟩), .string s, .slice Aw waits.length cw] w (RgPost rn v1 v2 A l.tail Aw (goes (hd l) s waits).1 (goes (hd l) s waits).2 w) := by
  have hc0 := hh.cell (o := 0) rfl
  have hf0 := hh.frozen 0
  have hlt := hh.lt
  cases l with
  | nil =>
    have HH := Lib.hid hh
    have HF := Lib.hid hF
    have HW := Lib.hid hW
    have hg : goes (hd []) s waits = (s :: waits, []) := by simp [goes, hd, fate0]
    rw [hg]
    clear hh hF hW hg hf0
    go_enter Try.func23, Try.ntmps23
    go_wp2_with (first
      | (at_builtin
         refine appG (.tmp 59) (.tmp 61) T_str w.heap.size (.slice none 0 0) 0 [] (World.ownsRow_nil _ _ _ _) _ 1 1 [.string s] rfl rfl rfl rfl rfl (cells_lit (by simp)) (by simp [Value.oneCell']) (by omega) (by unfold maxLen; omega) (by simp; omega) ?_
         intro v3 w3 hown3 hm3 hrow3
         have hm30 : Mod (fun _ => False) w w3 := Mod.trans (Mod.alloc (Mod.alloc (Mod.refl _ _) _) _) hm3 (fun i hi h => by cases h)
         have hz3 := hm30.size
         have H3 := Lib.hid hown3
         have HM3 := Lib.hid hm30
         have HW3 := Lib.hid (HW.out.keep hm30 (fun _ _ h => h))
         clear hown3 hm3 hrow3 hm30)
      | (at_builtin
         go_must (refine appG (.tmp 63) (.tmp 64) T_str w.heap.size _ 1 [.string s] H3.out Aw waits.length cw (sv waits) rfl rfl rfl rfl (by rw [sv_len]; omega) HW3.out.cells (sv_one _) (by omega) (by unfold maxLen; omega) (by omega) ?_; intro v4 w4 hown4 hm4 hrow4)
         have hm40 := Mod.trans HM3.out hm4 (fun i hi h => by have := (H3.out.lt i h).1; omega)
         have H4 := Lib.hid hown4
         have HM4 := Lib.hid hm40
         clear hown4 hm4 hrow4 hm40))
    have ho := H4.out
    have e : 0 + 1 + waits.length = (s :: waits).length := by simp; omega
    rw [show 1 + waits.length = (s :: waits).length by simp; omega, show [Value.string s] ++ sv waits = sv (s :: waits) from rfl] at ho
    obtain ⟨A1, c1, rfl, hfr, hfb⟩ := own_frames ho
    go_ret2
    exact goes_done (w1 := w) ⟨A, c, HH.out, HF.out, fun a h => ⟨a, h, rfl⟩, Mod.refl _ _⟩ HM4.out hfr (frames_nil _) hfb (fun a h => by cases h)
  | cons f l =>
    obtain ⟨k, a, b⟩ := f
    have hfw := hl ⟨k, a, b⟩ (by simp)
    dsimp only at hfw
    obtain ⟨bf, o, rfl, hcell⟩ : ∃ bf o, A = some ⟨bf, o, none⟩ ∧ ∀ j u, (fcs (⟨k, a, b⟩ :: l))[j]? = some u → w.cell? ⟨bf, o + j, none⟩ = some u := by
      rcases hF.cells with hc | h
      · cases hc
      · exact h
    obtain ⟨A', hsl, hF', hSR⟩ := fates_slice1 hF
    have g := fcs_get (⟨k, a, b⟩ :: l) 0 (by simp)
    have x0 := hcell _ _ g.1
    have x1 := hcell _ _ g.2.1
    have x2 := hcell _ _ g.2.2
    simp only [Nat.zero_mul, Nat.zero_add, Nat.add_zero, List.getElem_cons_zero] at x0 x1 x2
    have hbl : bf < w.heap.size := World.block_lt_of_cell? w _ x0
    have hbne : bf ≠ rn := has_ne hh (hF.row _ rfl) (by decide)
    have hMT : Mod (fun k => k = rn) w ((w.setCell ⟨rn, 0, none⟩ (.slice A' l.length (c - 1))).alloc (.cells #[.int .i64 k, .int .i64 a, .int .u8 (b.toNat : Int)] 35)) := by (repeat (first | with_reducible exact Mod.refl _ _ | with_reducible apply Mod.drew | with_reducible apply Mod.drewN | with_reducible apply Mod.alloc | refine Mod.set1 ?_ (by first | exact rfl | simp) _ _))
    have hT : Took rn v1 v2 (some ⟨bf, o, none⟩) l w ((w.setCell ⟨rn, 0, none⟩ (.slice A' l.length (c - 1))).alloc (.cells #[.int .i64 k, .int .i64 a, .int .u8 (b.toNat : Int)] 35)) :=
      ⟨A', c - 1, (hh.set 0 _).alloc _, hF'.keep hMT (fun a ha h => by
        obtain ⟨a0, h1, h2⟩ := hSR a ha
        obtain rfl := Option.some.inj h1
        exact hbne (h2.symm.trans h)), hSR, hMT⟩
    have HW := Lib.hid (hW.keep hMT (fun a ha h => hWn a ha h))
    have HT := Lib.hid hT
    have hl1 : (0 : Int) < (l.length : Int) + 1 := by omega
    rw [show hd (⟨k, a, b⟩ :: l) = ⟨k, a, b⟩ from rfl]
    simp only [List.length_cons, List.tail_cons] at *
    have HSL := Lib.hid hsl
    clear hh hF hW hcell g hF' hSR hMT hT hWn hbne
    by_cases e1 : k = 1
    · subst e1
      go_enter Try.func23, Try.ntmps23
      go_wp2_with fail
      go_ret2
      have hg : goes ⟨1, a, b⟩ s waits = ([], waits) := by simp [goes]
      rw [hg]
      exact goes_done HT.out (Mod.refl _ _) (frames_nil _) HW.out (fun a h => by cases h) (fun a h => .inl rfl)
    by_cases e3 : k = 3
    · subst e3
      have hg : goes ⟨3, a, b⟩ s waits = ([], waits ++ [s]) := by simp [goes]
      have HG := Lib.hid hg
      clear hg
      have HM0 := Lib.hid (Mod.refl (fun _ => False) ((w.setCell ⟨rn, 0, none⟩ (.slice A' l.length (c - 1))).alloc (.cells #[.int .i64 3, .int .i64 a, .int .u8 (b.toNat : Int)] 35)))
      go_enter Try.func23, Try.ntmps23
      go_wp2_with (first
      | (at_builtin
         refine appG (.tmp 38) (.tmp 39) T_str (w.heap.size + 1) (.slice none 0 0) 0 [] (World.ownsRow_nil _ _ _ _) Aw waits.length cw (sv waits) rfl rfl rfl rfl (by rw [sv_len]; omega) (HW.out.cells.keep HM0.out (fun _ _ h => h)) (sv_one _) (by omega) (by unfold maxLen; omega) (by first | omega | (simp [World.setCell]; done) | (simp [World.setCell]; omega)) ?_
         intro v3 w3 hown3 hm3 _
         have hmm := Mod.trans (S := fun _ => False) HM0.out hm3 (fun i hi h => by cases h)
         have hzz3 : w.heap.size + 1 ≤ w3.heap.size := by have := hmm.size; simpa [World.setCell] using this
         have HO3 := Lib.hid hown3
         have HM3 := Lib.hid hmm
         clear hown3 hm3 hmm)
      | (at_builtin
         refine appG (.tmp 41) (.tmp 43) T_str (w.heap.size + 1) _ (0 + waits.length) ([] ++ sv waits) (HO3.out.alloc _) _ 1 1 [.string s] rfl rfl rfl rfl rfl (cells_lit (by simp)) (by simp [Value.oneCell']) (by omega) (by unfold maxLen; omega) (by simp; omega) ?_
         intro v4 w4 hown4 hm4 _
         have hmm := Mod.trans (S := fun _ => False) (Mod.alloc HM3.out _) hm4 (fun i hi h => by have := (HO3.out.lt i h).1; simp [World.setCell] at hi; omega)
         have hzz4 : w.heap.size + 1 ≤ w4.heap.size := by have := hmm.size; simpa [World.setCell] using this
         have HO4 := Lib.hid hown4
         have HM4 := Lib.hid hmm
         clear hown4 hm4 hmm))
      have ho := HO4.out
      rw [show 0 + waits.length + 1 = (waits ++ [s]).length by simp, show ([] ++ sv waits) ++ [Value.string s] = sv (waits ++ [s]) by simp [sv]] at ho
      obtain ⟨A1, c1, rfl, hfr, hfb⟩ := own_frames ho
      go_ret2
      rw [HG.out]
      exact goes_done HT.out HM4.out (frames_nil _) hfr (fun a h => by cases h) (fun a ha => .inr (by have := hfb a ha; simp [World.setCell]; omega))
    by_cases e2 : k = 2
    · subst e2
      have hg : goes ⟨2, a, b⟩ s waits = (trnB s a b :: waits, []) := by simp [goes]
      have HR := Lib.hid (rturned_calls s ⟨2, a, b⟩)
      generalize hy : trnB s a b = y at *
      have HG := Lib.hid hg
      clear hg
      go_enter Try.func23, Try.ntmps23
      go_wp2_with fail
      refine (HR.out _ hs h0 hfw.2.2.1 hfw.2.2.2).mono ?_
      rintro e wT ⟨rfl, hmT⟩
      have HM0 := Lib.hid hmT
      have hzT : w.heap.size + 1 ≤ wT.heap.size := by have := hmT.size; simpa [World.setCell] using this
      have hyy := Lib.hid hy
      clear hmT hy HR
      go_wp2_with (first
      | (at_builtin
         refine appG (.tmp 59) (.tmp 61) T_str (w.heap.size + 1) (.slice none 0 0) 0 [] (World.ownsRow_nil _ _ _ _) _ 1 1 [.string y] rfl rfl rfl rfl rfl (cells_lit (by simp)) (by simp [Value.oneCell']) (by omega) (by unfold maxLen; omega) (by simp [World.setCell]; try omega) ?_
         intro v3 w3 hown3 hm3 _
         have hmm := Mod.trans (S := fun _ => False) (Mod.alloc HM0.out _) hm3 (fun i hi h => by cases h)
         have hzz3 : w.heap.size + 1 ≤ w3.heap.size := by have := hmm.size; simpa [World.setCell] using this
         have HO3 := Lib.hid hown3
         have HM3 := Lib.hid hmm
         clear hown3 hm3 hmm)
      | (at_builtin
         refine appG (.tmp 63) (.tmp 64) T_str (w.heap.size + 1) _ 1 [.string y] HO3.out Aw waits.length cw (sv waits) rfl rfl rfl rfl (by rw [sv_len]; omega) (HW.out.cells.keep HM3.out (fun _ _ h => h)) (sv_one _) (by omega) (by unfold maxLen; omega) (by first | omega | (simp [World.setCell]; done) | (simp [World.setCell]; omega)) ?_
         intro v4 w4 hown4 hm4 _
         have hmm := Mod.trans (S := fun _ => False) HM3.out hm4 (fun i hi h => by have := (HO3.out.lt i h).1; simp [World.setCell] at hi; omega)
         have hzz4 : w.heap.size + 1 ≤ w4.heap.size := by have := hmm.size; simpa [World.setCell] using this
         have HO4 := Lib.hid hown4
         have HM4 := Lib.hid hmm
         clear hown4 hm4 hmm))
      have ho := HO4.out
      rw [show 1 + waits.length = (y :: waits).length by simp; omega, show [Value.string y] ++ sv waits = sv (y :: waits) from rfl] at ho
      obtain ⟨A1, c1, rfl, hfr, hfb⟩ := own_frames ho
      go_ret2
      rw [HG.out]
      exact goes_done HT.out HM4.out hfr (frames_nil _) (fun a ha => by have := hfb a ha; simp [World.setCell]; omega) (fun a h => by cases h)
    by_cases e4 : k = 4
    · subst e4
      have hg : goes ⟨4, a, b⟩ s waits = (s :: s :: waits, []) := by simp [goes]
      have HG := Lib.hid hg
      clear hg
      have HM0 := Lib.hid (Mod.refl (fun _ => False) ((w.setCell ⟨rn, 0, none⟩ (.slice A' l.length (c - 1))).alloc (.cells #[.int .i64 4, .int .i64 a, .int .u8 (b.toNat : Int)] 35)))
      go_enter Try.func23, Try.ntmps23
      go_wp2_with (first
      | (at_builtin
         refine appG (.tmp 55) (.tmp 57) T_str (w.heap.size + 1) (.slice none 0 0) 0 [] (World.ownsRow_nil _ _ _ _) _ 1 1 [.string s] rfl rfl rfl rfl rfl (cells_lit (by simp)) (by simp [Value.oneCell']) (by omega) (by unfold maxLen; omega) (by simp [World.setCell]; try omega) ?_
         intro v2 w2 hown2 hm2 _
         have hmm := Mod.trans (S := fun _ => False) (Mod.alloc HM0.out _) hm2 (fun i hi h => by cases h)
         have hzz2 : w.heap.size + 1 ≤ w2.heap.size := by have := hmm.size; simpa [World.setCell] using this
         have HO2 := Lib.hid hown2
         have HM2 := Lib.hid hmm
         clear hown2 hm2 hmm)
      | (at_builtin
         refine appG (.tmp 59) (.tmp 61) T_str (w.heap.size + 1) _ 1 [.string s] (HO2.out.alloc _) _ 1 1 [.string s] rfl rfl rfl rfl rfl (cells_lit (by simp)) (by simp [Value.oneCell']) (by omega) (by unfold maxLen; omega) (by simp [World.setCell]; try omega) ?_
         intro v3 w3 hown3 hm3 _
         have hmm := Mod.trans (S := fun _ => False) (Mod.alloc HM2.out _) hm3 (fun i hi h => by have := (HO2.out.lt i h).1; simp [World.setCell] at hi; omega)
         have hzz3 : w.heap.size + 1 ≤ w3.heap.size := by have := hmm.size; simpa [World.setCell] using this
         have HO3 := Lib.hid hown3
         have HM3 := Lib.hid hmm
         clear hown3 hm3 hmm)
      | (at_builtin
         refine appG (.tmp 63) (.tmp 64) T_str (w.heap.size + 1) _ 2 [.string s, .string s] HO3.out Aw waits.length cw (sv waits) rfl rfl rfl rfl (by rw [sv_len]; omega) (HW.out.cells.keep HM3.out (fun _ _ h => h)) (sv_one _) (by omega) (by unfold maxLen; omega) (by first | omega | (simp [World.setCell]; done) | (simp [World.setCell]; omega)) ?_
         intro v4 w4 hown4 hm4 _
         have hmm := Mod.trans (S := fun _ => False) HM3.out hm4 (fun i hi h => by have := (HO3.out.lt i h).1; simp [World.setCell] at hi; omega)
         have hzz4 : w.heap.size + 1 ≤ w4.heap.size := by have := hmm.size; simpa [World.setCell] using this
         have HO4 := Lib.hid hown4
         have HM4 := Lib.hid hmm
         clear hown4 hm4 hmm))
      have ho := HO4.out
      rw [show 2 + waits.length = (s :: s :: waits).length by simp; omega, show [Value.string s, Value.string s] ++ sv waits = sv (s :: s :: waits) from rfl] at ho
      obtain ⟨A1, c1, rfl, hfr, hfb⟩ := own_frames ho
      go_ret2
      rw [HG.out]
      exact goes_done HT.out HM4.out hfr (frames_nil _) (fun a ha => by have := hfb a ha; simp [World.setCell]; omega) (fun a h => by cases h)
    have q1 : (k == 1) = false := by simpa using e1
    have q2 : (k == 2) = false := by simpa using e2
    have q3 : (k == 3) = false := by simpa using e3
    have q4 : (k == 4) = false := by simpa using e4
    have hg : goes ⟨k, a, b⟩ s waits = (s :: waits, []) := by simp [goes, e1, e2, e3, e4]
    have HG := Lib.hid hg
    clear hg
    · skip
      have HM0 := Lib.hid (Mod.refl (fun _ => False) ((w.setCell ⟨rn, 0, none⟩ (.slice A' l.length (c - 1))).alloc (.cells #[.int .i64 k, .int .i64 a, .int .u8 (b.toNat : Int)] 35)))
      go_enter Try.func23, Try.ntmps23
      go_wp2_with (first
      | (at_builtin
         refine appG (.tmp 59) (.tmp 61) T_str (w.heap.size + 1) (.slice none 0 0) 0 [] (World.ownsRow_nil _ _ _ _) _ 1 1 [.string s] rfl rfl rfl rfl rfl (cells_lit (by simp)) (by simp [Value.oneCell']) (by omega) (by unfold maxLen; omega) (by simp [World.setCell]; try omega) ?_
         intro v3 w3 hown3 hm3 _
         have hmm := Mod.trans (S := fun _ => False) (Mod.alloc HM0.out _) hm3 (fun i hi h => by cases h)
         have hzz3 : w.heap.size + 1 ≤ w3.heap.size := by have := hmm.size; simpa [World.setCell] using this
         have HO3 := Lib.hid hown3
         have HM3 := Lib.hid hmm
         clear hown3 hm3 hmm)
      | (at_builtin
         refine appG (.tmp 63) (.tmp 64) T_str (w.heap.size + 1) _ 1 [.string s] HO3.out Aw waits.length cw (sv waits) rfl rfl rfl rfl (by rw [sv_len]; omega) (HW.out.cells.keep HM3.out (fun _ _ h => h)) (sv_one _) (by omega) (by unfold maxLen; omega) (by first | omega | (simp [World.setCell]; done) | (simp [World.setCell]; omega)) ?_
         intro v4 w4 hown4 hm4 _
         have hmm := Mod.trans (S := fun _ => False) HM3.out hm4 (fun i hi h => by have := (HO3.out.lt i h).1; simp [World.setCell] at hi; omega)
         have hzz4 : w.heap.size + 1 ≤ w4.heap.size := by have := hmm.size; simpa [World.setCell] using this
         have HO4 := Lib.hid hown4
         have HM4 := Lib.hid hmm
         clear hown4 hm4 hmm))
      have ho := HO4.out
      rw [show 1 + waits.length = (s :: waits).length by simp; omega, show [Value.string s] ++ sv waits = sv (s :: waits) from rfl] at ho
      obtain ⟨A1, c1, rfl, hfr, hfb⟩ := own_frames ho
      go_ret2
      rw [HG.out]
      exact goes_done HT.out HM4.out hfr (frames_nil _) (fun a ha => by have := hfb a ha; simp [World.setCell]; omega) (fun a h => by cases h)
/-- what comes on the reference's way, in memory -/
def RcPost (q : RP) (l : List Fate) (out wt wb : List ByteArray) (w : World) (e : Ending) (w' : World) : Prop :=
  ∃ A1 c1 q', e = .returned (.slice A1 out.length c1) ∧ Frames w' A1 c1 out ∧ (∀ a, A1 = some a → w.heap.size ≤ a.block) ∧ RefAt w' q' l wt wb ∧ q'.rn = q.rn ∧ Mod (fun k => k = q.rn) w w' ∧ (∀ k, q'.fp k → q.fp k ∨ w.heap.size ≤ k)

set_option maxRecDepth 100000 in
set_option maxHeartbeats 1000000 in
theorem go_calls (q : RP) (l : List Fate) (wt wb : List ByteArray) (s : ByteArray) (w : World) (h : RefAt w q l wt wb) (hl : FWf l) (hs : s.size ≤ maxLen) (h0 : 0 < s.size) (hwl : wt.length ≤ 1000000) :
    Calls Try.prog 12 #[.pointer (some ⟨q.rn, 0, none⟩), .string s] w (RcPost q l.tail (goes (hd l) s wt).1 (goes (hd l) s wt).2 wb w) := by
  have hc1 := h.has.cell (o := 1) rfl
  have HX := Lib.hid (rgoes_calls q.rn _ _ q.A q.c l q.At q.ct wt s w h.has h.fates h.there (fun a ha => has_ne h.has (h.there.row a ha) (by decide)) hl hs h0 hwl)
  have HH := Lib.hid h
  clear h
  go_enter Try.func12, Try.ntmps12
  go_wp2_with fail
  refine HX.out.mono ?_
  rintro e w1 ⟨A1, c1, A2, c2, A', c', rfl, hf1, hf2, hb1, hb2, hh, hF, hsr, hm⟩
  have x1 := hh.cell (o := 1) rfl
  have y1 := hh.frozen 1
  have hmS := (Mod.refl (fun k => k = q.rn) w1).set1 rfl 1 (.slice A2 (goes (hd l) s wt).2.length c2)
  have hR : RefAt (w1.setCell ⟨q.rn, 1, none⟩ (.slice A2 (goes (hd l) s wt).2.length c2)) ⟨q.rn, A', c', A2, c2, q.Ab, q.cb⟩ l.tail (goes (hd l) s wt).2 wb :=
    ⟨hh.set 1 _, hF.keep hmS (fun a ha => has_ne hh (hF.row a ha) (by decide)), hf2.keep hmS (fun a ha => has_ne hh (hf2.row a ha) (by decide)),
      (HH.out.back.keep hm (fun a ha => has_ne HH.out.has (HH.out.back.row a ha) (by decide))).keep hmS (fun a ha => has_ne HH.out.has (HH.out.back.row a ha) (by decide))⟩
  have hF1 := hf1.keep hmS (fun a ha => has_ne hh (hf1.row a ha) (by decide))
  have hfp : ∀ k, RP.fp ⟨q.rn, A', c', A2, c2, q.Ab, q.cb⟩ k → q.fp k ∨ w.heap.size ≤ k := by
    rintro k (h | ⟨a, ha, rfl⟩ | ⟨a, ha, rfl⟩ | h)
    · exact .inl (.inl h)
    · obtain ⟨a0, h1, h2⟩ := hsr a ha
      exact .inl (.inr (.inl ⟨a0, h1, h2.symm⟩))
    · rcases hb2 a ha with h1 | h1
      · exact .inl (.inr (.inr (.inl ⟨a, h1 ▸ ha, rfl⟩)))
      · exact .inr h1
    · exact .inl (.inr (.inr (.inr h)))
  have HR := Lib.hid hR
  have HF1 := Lib.hid hF1
  have HFP := Lib.hid hfp
  have HM := Lib.hid (hm.set1 rfl 1 (.slice A2 (goes (hd l) s wt).2.length c2))
  have HB1 := Lib.hid hb1
  clear hR hF1 hfp hm hb1 hmS hf1 hf2 hb2 hh hF hsr
  generalize (goes (hd l) s wt).1 = o1 at *
  generalize (goes (hd l) s wt).2 = o2 at *
  go_wp2_with fail
  go_ret
  exact ⟨A1, c1, _, rfl, HF1.out, HB1.out, HR.out, rfl, HM.out, HFP.out⟩
end Net
end Go.Proofs.Ytocpifoimoaibaa
