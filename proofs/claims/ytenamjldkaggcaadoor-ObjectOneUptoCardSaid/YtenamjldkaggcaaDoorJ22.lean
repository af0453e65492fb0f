/- Joined texts: ObjectMapsL, Kj, ObjectMapsM. -/
import Derived.Test.YtenamjldkaggcaaDoorJ21
import Derived.Test.YtenamjldkaggcaaDoorJ18
import Derived.Test.YtenamjldkaggcaaDoorJ12
/- The walk of the law ObjectMaps. -/
namespace Go.Proofs.YtenamjldkaggcaaDoor
set_option linter.unusedVariables false
set_option linter.unusedSimpArgs false
open Go.RowKit K Wire
namespace Obj

theorem outLeaf_len (L : List UInt8) : (outLeaf L).length ≤ 64 := by
  unfold outLeaf
  split
  · rename_i h
    have h2 := (leaf_sound L h).2
    simp only [rightLeaf, inR, Bool.and_eq_true, decide_eq_true_eq] at h2
    have := h2.1.1.2
    omega
  · simp
theorem outBranch_len (L : List UInt8) : (outBranch L).2.length ≤ 64 := by
  unfold outBranch
  split
  · rename_i h
    have h2 := (branch_sound L h).2
    simp only [rightBranch, inR, Bool.and_eq_true, decide_eq_true_eq] at h2
    have := h2.1.1.1.2.2
    show (rdBranch L).2.length ≤ 64
    omega
  · simp

set_option maxRecDepth 100000 in
set_option maxHeartbeats 4000000 in
theorem maps_calls (AP : Option Addr) (cp : Nat) (prs : List Pair) (level : Int) (A : Option Addr) (c : Nat) (kids : List Link) (t : ByteArray) (w : World) (hK : Hash.Keys w) (hAP : Cells w AP (prs.flatMap kc)) (hA : Cells w A (kids.flatMap lc)) (ht : t.size ≤ 1048576)
    (hcp : prs.length ≤ 100000000) (hlp : (leafB prs).length ≤ 100000000) (hc : kids.length ≤ 100000000) (hlv : In64 level) (hsz : ∀ p ∈ kids, In64 p.many) (hl : (branchB level kids).length ≤ 100000000) :
    Calls Tryd.prog 4 #[.slice AP prs.length cp, .agg #[.int .i64 level, .slice A kids.length c], .string t] w fun e w' => e = .returned (.bool true) ∧ Below w.heap.size w w' := by
  obtain ⟨o1, o2, oe, hp1⟩ := putV_ex (leafB prs) (!rightLeaf prs)
  obtain ⟨p1, p2, pe, hp2⟩ := putV_ex (branchB level kids) (!rightBranch level kids)
  have hag := leaves_agree t.data.toList
  have hbg := branches_agree t.data.toList
  have cSH := fun (w1 : World) (m : Mod (fun _ => False) w w1) => shown_calls w1 (hK.keep m (fun h => h))
  have cC := fun (w1 : World) (m : Mod (fun _ => False) w w1) => leaf_calls AP cp prs w1 (hK.keep m (fun h => h)) (hAP.keep m (fun _ _ h => h)) hcp hlp
  have cRC := fun (w1 : World) (m : Mod (fun _ => False) w w1) => rLeaf_calls AP cp prs w1 (hAP.keep m (fun _ _ h => h)) hcp hlp
  have cF := fun (w1 : World) (m : Mod (fun _ => False) w w1) => branch_calls level A c kids w1 (hK.keep m (fun h => h)) (hA.keep m (fun _ _ h => h)) hc hlv hsz hl
  have cRF := fun (w1 : World) (m : Mod (fun _ => False) w w1) => rBranch_calls level A c kids w1 (hA.keep m (fun _ _ h => h)) hc hlv hsz hl
  have cT := fun (w1 : World) => takeLeaf_calls t w1 (by omega)
  have cRT := fun (w1 : World) => rTakeLeaf_calls t w1 (by omega)
  have cTF := fun (w1 : World) => takeBranch_calls t w1 (by omega)
  have cRTF := fun (w1 : World) => rTakeBranch_calls t w1 (by omega)
  rw [hp1] at cC cRC
  rw [hp2] at cF cRF
  rw [← hag.1, ← hag.2] at cRT
  rw [← hbg.1, ← hbg.2] at cRTF
  have hll := outLeaf_len t.data.toList
  have hkl := outBranch_len t.data.toList
  generalize outBranch t.data.toList = F at *
  generalize outLeaf t.data.toList = G at *
  obtain ⟨fe, hfe⟩ : ∃ fe, errV (okBranch t.data.toList) = .int .i64 fe := ⟨_, rfl⟩
  obtain ⟨ge, hge⟩ : ∃ fe, errV (okLeaf t.data.toList) = .int .i64 fe := ⟨_, rfl⟩
  rw [hfe] at cTF cRTF
  rw [hge] at cT cRT
  obtain ⟨fl, fk⟩ := F
  dsimp only at cTF cRTF hkl
  have hM0 := (Mod.refl (fun _ => False) w).alloc (.cells #[.int .i64 level, .slice A kids.length c] 42)
  have hX0 := Has.new w [.int .i64 level, .slice A kids.length c] 42
  have HM0 := Lib.hid hM0
  have HX0 := Lib.hid hX0
  have HSH := Lib.hid cSH
  have HC := Lib.hid cC
  have HRC := Lib.hid cRC
  have HF := Lib.hid cF
  have HRF := Lib.hid cRF
  have HT := Lib.hid cT
  have HRT := Lib.hid cRT
  have HTF := Lib.hid cTF
  have HRTF := Lib.hid cRTF
  have HKL := Lib.hid hkl
  have HLL := Lib.hid hll
  clear hp1 hp2 hag hbg hfe hge cSH cC cRC cF cRF cT cRT cTF cRTF hM0 hX0 hK hA hAP ht hc hcp hlp hlv hsz hl hkl hll
  go_enter Tryd.func4, Tryd.ntmps4
  go_wp2_with fail
  refine (HSH.out _ HM0.out).mono ?_
  rintro e w1 ⟨rfl, hm⟩
  have HM1 := Lib.hid (Mod.trans HM0.out hm (fun _ _ h => h))
  have HX1 := Lib.hid (HX0.out.keep hm (fun h => h))
  clear hm
  go_wp2_with fail
  refine (HC.out _ HM1.out).mono ?_
  rintro e w2 ⟨rfl, hm⟩
  have HM2 := Lib.hid (Mod.trans HM1.out hm (fun _ _ h => h))
  have HX2 := Lib.hid (HX1.out.keep hm (fun h => h))
  clear hm
  go_wp2_with fail
  refine (HRC.out _ (HM2.out.alloc _)).mono ?_
  rintro e w3 ⟨rfl, hm⟩
  have hX3 := (HX2.out.alloc _).keep hm (fun h => h)
  have x0 := hX3.cell (o := 0) rfl
  have x1 := hX3.cell (o := 1) rfl
  have HM3 := Lib.hid (Mod.trans (HM2.out.alloc _) hm (fun _ _ h => h))
  have HX3 := Lib.hid hX3
  have hlt := hX3.lt
  have HA3 := Lib.hid ((Has.new w2 [.string o1, .string o2] 27).keep hm (fun h => h))
  clear hm hX3
  go_wp2_with fail
  refine (HF.out _ (HM3.out.alloc _)).mono ?_
  rintro e w4 ⟨rfl, hm⟩
  have hX4 := (HX3.out.alloc _).keep hm (fun h => h)
  have x0 := hX4.cell (o := 0) rfl
  have x1 := hX4.cell (o := 1) rfl
  have hlt := hX4.lt
  have HM4 := Lib.hid (Mod.trans (HM3.out.alloc _) hm (fun _ _ h => h))
  have HA4 := Lib.hid ((HA3.out.alloc _).keep hm (fun h => h))
  have HB4 := Lib.hid ((Has.new w3 [.string o1, .string o2] 27).keep hm (fun h => h))
  clear hm hX4
  go_wp2_with fail
  refine (HRF.out _ (HM4.out.alloc _)).mono ?_
  rintro e w5 ⟨rfl, hm⟩
  have HM5 := Lib.hid (Mod.trans (HM4.out.alloc _) hm (fun _ _ h => h))
  have HA5 := Lib.hid ((HA4.out.alloc _).keep hm (fun h => h))
  have HB5 := Lib.hid ((HB4.out.alloc _).keep hm (fun h => h))
  have HC5 := Lib.hid ((Has.new w4 [.string p1, .string p2] 27).keep hm (fun h => h))
  clear hm
  go_wp2_with fail
  refine (HT.out _).mono ?_
  rintro e w6 ⟨v6, rfl, ho6, hm⟩
  have HM6 := Lib.hid (Mod.trans (HM5.out.alloc _) hm (fun _ _ h => h))
  have HA6 := Lib.hid ((HA5.out.alloc _).keep hm (fun h => h))
  have HB6 := Lib.hid ((HB5.out.alloc _).keep hm (fun h => h))
  have HC6 := Lib.hid ((HC5.out.alloc _).keep hm (fun h => h))
  have HD6 := Lib.hid ((Has.new w5 [.string p1, .string p2] 27).keep hm (fun h => h))
  obtain ⟨A6, c6, rfl, _, hcl6, _, _⟩ := own_cells ho6
  have HL6 := Lib.hid hcl6
  clear hm ho6 hcl6
  go_wp2_with fail
  refine (HRT.out _).mono ?_
  rintro e w7 ⟨v7, rfl, ho7, hm⟩
  have HM7 := Lib.hid (Mod.trans HM6.out hm (fun _ _ h => h))
  have HA7 := Lib.hid (HA6.out.keep hm (fun h => h))
  have HB7 := Lib.hid (HB6.out.keep hm (fun h => h))
  have HC7 := Lib.hid (HC6.out.keep hm (fun h => h))
  have HD7 := Lib.hid (HD6.out.keep hm (fun h => h))
  obtain ⟨A7, c7, rfl, _, hcl7, _, _⟩ := own_cells ho7
  have HL7 := Lib.hid hcl7
  have HL6' := Lib.hid (HL6.out.keep hm (fun _ _ h => h))
  clear hm ho7 hcl7
  go_wp2_with fail
  refine (HTF.out _).mono ?_
  rintro e w8 ⟨v8, rfl, ho8, hm⟩
  have HM8 := Lib.hid (Mod.trans HM7.out hm (fun _ _ h => h))
  have HA8 := Lib.hid (HA7.out.keep hm (fun h => h))
  have HB8 := Lib.hid (HB7.out.keep hm (fun h => h))
  have HC8 := Lib.hid (HC7.out.keep hm (fun h => h))
  have HD8 := Lib.hid (HD7.out.keep hm (fun h => h))
  have HP8 := Lib.hid (HL6'.out.keep hm (fun _ _ h => h))
  have HQ8 := Lib.hid (HL7.out.keep hm (fun _ _ h => h))
  obtain ⟨A8, c8, rfl, _, hcl8, _, _⟩ := own_cells ho8
  have HL8 := Lib.hid hcl8
  clear hm ho8 hcl8
  go_wp2_with fail
  refine (HRTF.out _).mono ?_
  rintro e w9 ⟨v9, rfl, ho9, hm⟩
  have HM9 := Lib.hid (Mod.trans (HM8.out.alloc _) hm (fun _ _ h => h))
  have hA9 := (HA8.out.alloc _).keep hm (fun h => h)
  have hB9 := (HB8.out.alloc _).keep hm (fun h => h)
  have hC9 := (HC8.out.alloc _).keep hm (fun h => h)
  have hD9 := (HD8.out.alloc _).keep hm (fun h => h)
  have HE9 := Lib.hid ((Has.new w8 [.int .i64 fl, .slice A8 fk.length c8] 42).keep hm (fun h => h))
  obtain ⟨A9, c9, rfl, _, hcl9, _, _⟩ := own_cells ho9
  have HL9 := Lib.hid hcl9
  have HL8' := Lib.hid ((HL8.out.alloc _).keep hm (fun _ _ h => h))
  have HP9 := Lib.hid ((HP8.out.alloc _).keep hm (fun _ _ h => h))
  have HQ9 := Lib.hid ((HQ8.out.alloc _).keep hm (fun _ _ h => h))
  have a0 := hA9.cell (o := 0) rfl
  have a1 := hA9.cell (o := 1) rfl
  have b0 := hB9.cell (o := 0) rfl
  have b1 := hB9.cell (o := 1) rfl
  have d0 := hC9.cell (o := 0) rfl
  have d1 := hC9.cell (o := 1) rfl
  have g0 := hD9.cell (o := 0) rfl
  have g1 := hD9.cell (o := 1) rfl
  have l1 := hA9.lt
  have l2 := hB9.lt
  have l3 := hC9.lt
  have l4 := hD9.lt
  have HSL := Lib.hid (fun w' h1 h2 => sameLeaf_calls A6 A7 c6 c7 G w' h1 h2 (by have := HLL.out; omega))
  have HS := Lib.hid (fun w' h1 h2 => sameBranch_calls fl A8 A9 c8 c9 fk w' h1 h2 (by have := HKL.out; omega))
  clear hm ho9 hcl9 hA9 hB9 hC9 hD9
  go_wp2_with fail
  refine (HSL.out _ (HP9.out.alloc _) (HQ9.out.alloc _)).mono ?_
  rintro e w10 ⟨rfl, hm⟩
  have HM10 := Lib.hid (Mod.trans (HM9.out.alloc _) hm (fun _ _ h => h))
  have hE := (HE9.out.alloc (.cells #[.int .i64 fl, .slice A9 fk.length c9] 42)).keep hm (fun h => h)
  have hF := (Has.new w9 [.int .i64 fl, .slice A9 fk.length c9] 42).keep hm (fun h => h)
  have e0 := hE.cell (o := 0) rfl
  have e1 := hE.cell (o := 1) rfl
  have f0 := hF.cell (o := 0) rfl
  have f1 := hF.cell (o := 1) rfl
  have l5 := hE.lt
  have l6 := hF.lt
  have HLA := Lib.hid ((HL8'.out.alloc (.cells #[.int .i64 fl, .slice A9 fk.length c9] 42)).keep hm (fun _ _ h => h))
  have HLB := Lib.hid ((HL9.out.alloc (.cells #[.int .i64 fl, .slice A9 fk.length c9] 42)).keep hm (fun _ _ h => h))
  clear hm hE hF
  go_wp2_with fail
  refine (HS.out _ HLA.out HLB.out).mono ?_
  rintro e w11 ⟨rfl, hm⟩
  have HM11 := Lib.hid (Mod.trans HM10.out hm (fun _ _ h => h))
  clear hm
  go_wp2_with fail
  go_ret
  exact ⟨rfl, HM11.out.below (fun _ _ h => h)⟩
end Obj
end Go.Proofs.YtenamjldkaggcaaDoor
/- Opening arguments that are slices of pairs, or branches. -/
namespace Go.Proofs.YtenamjldkaggcaaDoor
set_option linter.unusedVariables false
set_option linter.unusedSimpArgs false
open Go.RowKit Go.ChangeShapes Go.WideShapes Go.Deep
namespace K
open Wire
open Go.Proofs.YtenamjldkaggcaaDoor.Obj

set_option maxRecDepth 100000 in
/-- a slice of pairs that came in, from its cells -/
theorem open_pairs {H : Type} {enc : TypeId × Value → H} {W : World} {base : Nat} {held : Bool} {fuel : Nat} {v : Value} {x : DataW H × List MemPlace}
    (h : DataW.trod enc Tryd.prog W base (fun _ => true) held fuel 36 [v] = some x) :
    ∃ (A : Option Addr) (kids : List Pair) (cap : Nat), v = .slice A kids.length cap ∧ Cells W A (kids.flatMap kc) ∧ (kids.map fun p => p.key.size + p.val.size).sum + 2 * kids.length ≤ Rows.uptoBulk x.1 := by
  rcases open_slice_pairs Tryd.underlying36 Tryd.underlying71 (by kernel_rfl) rfl rfl (by kernel_rfl) (by kernel_rfl) h with ⟨hcs, rfl⟩ | ⟨a, len, cap, m, n, V0, V1, D0, D1, P0, P1, hcs, _, hl, hm, hmm, rfl, hx⟩
  · obtain rfl : v = .slice none 0 0 := by simpa using hcs
    exact ⟨none, [], 0, rfl, .inl rfl, by simp⟩
  · obtain rfl : v = .slice (some a) len cap := by simpa using hcs
    rw [if_pos rfl] at hmm
    subst hmm
    have each : ∀ i, i < m → ∃ q : ByteArray × ByteArray, V0 i = .string q.1 ∧ D0 i = .lit (.string q.1.data.toList) ∧ V1 i = .string q.2 ∧ D1 i = .lit (.string q.2.data.toList) := fun i hi => by
      obtain ⟨_, _, h2, h3⟩ := hx i hi
      obtain ⟨s, g1, g2, _⟩ := DataW.trod_string Tryd.underlying9 h2
      obtain ⟨z, g3, g4, _⟩ := DataW.trod_string Tryd.underlying9 h3
      simp only [Prod.mk.injEq] at g2 g4
      exact ⟨(s, z), by simpa using g1, g2.1, by simpa using g3, g4.1⟩
    obtain ⟨q, hq⟩ := choose_lt each
    obtain ⟨kids, hk⟩ : ∃ kids : List Pair, kids = (List.range len).map fun i => ⟨(q i).1, (q i).2⟩ := ⟨_, rfl⟩
    have hkl : kids.length = len := by rw [hk]; simp
    have hkg : ∀ i (h : i < kids.length), kids[i] = ⟨(q i).1, (q i).2⟩ := fun i h => by subst hk; simp
    refine ⟨some a, kids, m, by rw [hkl], ?_, ?_⟩
    · by_cases h0 : len = 0
      · exact .inl (by rw [hk, h0]; rfl)
      · have hsp : a.spot = none := by
          have h1 := (hx 0 (by omega)).1
          cases hs : a.spot with
          | none => rfl
          | some s =>
            unfold World.cell? at h1
            rw [show (a.add (0 * 2)) = a by simp [Addr.add], hs] at h1
            split at h1 <;> simp at h1
        obtain ⟨b, o, s⟩ := a
        obtain rfl : s = none := hsp
        refine .inr ⟨b, o, rfl, fun j u hj => ?_⟩
        have hjl : j < kids.length * 2 := by
          have := (List.getElem?_eq_some_iff.1 hj).1
          rw [flat_len kc_len] at this; exact this
        obtain ⟨i, r, hr, rfl⟩ : ∃ i r, r < 2 ∧ j = i * 2 + r := ⟨j / 2, j % 2, Nat.mod_lt _ (by omega), by omega⟩
        have hi : i < kids.length := by omega
        rw [flat_get kc_len kids i r hi hr, hkg i hi] at hj
        obtain ⟨c0, c1, _, _⟩ := hx i (by omega)
        rw [Addr.add_lit] at c0 c1
        obtain ⟨q0, _, q1, _⟩ := hq i (by omega)
        match r, hr with
        | 0, _ => simp [kc] at hj; subst hj; rw [Nat.add_zero, c0, q0]
        | 1, _ => simp [kc] at hj; subst hj; rw [c1, q1]
    · have hb : ∀ n, n ≤ len → (((List.range n).map fun i => (⟨(q i).1, (q i).2⟩ : Pair)).map fun p => p.key.size + p.val.size).sum + 2 * n ≤ Rows.uptoBulkAll ((List.range n).map fun i => DataW.agg [D0 i, D1 i]) := by
        intro n
        induction n with
        | zero => intro _; simp
        | succ n ih =>
          intro hn
          have ih := ih (by omega)
          obtain ⟨_, d0, _, d1⟩ := hq n (by omega)
          rw [List.range_succ, List.map_append, List.map_append, List.map_append, List.sum_append, bulk_app]
          simp only [List.map_cons, List.map_nil, List.sum_cons, List.sum_nil, Rows.uptoBulkAll, Rows.uptoBulk, d0, d1]
          have e : (q n).1.data.toList.length = (q n).1.size := by simp
          have e2 : (q n).2.data.toList.length = (q n).2.size := by simp
          omega
      have h1 := hb len (Nat.le_refl _)
      rw [← hk] at h1
      simp only [Rows.uptoBulk]
      omega

set_option maxRecDepth 100000 in
theorem open_pairs_arg {H : Type} {enc : TypeId × Value → H} {W : World} {base : Nat} {held : Bool} {r : Reach} {b0 : Nat} {v : Value} {d : DataW H} {pl : List MemPlace} {l : List (DataW H)}
    (hk : Rows.uptoSmall H l = true) (hd : d ∈ l) (hval : Value.okWide Tryd.prog W r b0 36 v)
    (h : DataW.Trod enc Tryd.prog W base (fun _ => true) held 36 v d pl) :
    ∃ (A : Option Addr) (kids : List Pair) (cap : Nat), v = .slice A kids.length cap ∧ Cells W A (kids.flatMap kc) ∧ (kids.map fun p => p.key.size + p.val.size).sum + 2 * kids.length ≤ 1048576 := by
  have hb := bulk_at hk hd
  obtain ⟨A0, len0, cap0, rfl⟩ := okWide_slice Tryd.underlying36 hval
  obtain ⟨fuel, hf⟩ := h
  obtain ⟨A, kids, cap, g1, g2, g3⟩ := open_pairs hf
  exact ⟨A, kids, cap, g1, g2, Nat.le_trans g3 hb⟩

/-- a slice whose elements are structs of three one-cell fields, opened at every index -/
theorem open_slice_trips {H : Type} {enc : TypeId × Value → H} {P : Program} {w : World} {base : Nat} {spare : Nat → Bool} {held : Bool} {t e : TypeId} {f0 f1 f2 : Field} {fuel : Nat} {cs : List Value} {x : DataW H × List MemPlace} (ht : P.underlying t = some (.slice e)) (he : P.underlying e = some (.struct #[f0, f1, f2]))
    (ce : P.cellsOf e = 3) (o0 : f0.offset = 0) (o1 : f1.offset = 1) (o2 : f2.offset = 2) (c0 : P.cellsOf f0.type = 1) (c1 : P.cellsOf f1.type = 1) (c2 : P.cellsOf f2.type = 1)
    (h : DataW.trod enc P w base spare held fuel t cs = some x) :
    (cs = [.slice none 0 0] ∧ x = (.nil, [])) ∨
    ∃ (a : Addr) (len cap m n : Nat) (V0 V1 V2 : Nat → Value) (D0 D1 D2 : Nat → DataW H) (P0 P1 P2 : Nat → List MemPlace), cs = [.slice (some a) len cap] ∧ base ≤ a.block ∧ len ≤ cap ∧ cap ≤ maxLen ∧ m = (if spare a.block then cap else len) ∧
      x.1 = .slice ((List.range len).map fun i => .agg [D0 i, D1 i, D2 i]) ((List.range (m - len)).map fun j => .agg [D0 (len + j), D1 (len + j), D2 (len + j)]) ∧
      ∀ i, i < m → w.cell? (a.add (i * 3)) = some (V0 i) ∧ w.cell? (a.add (i * 3 + 1)) = some (V1 i) ∧ w.cell? (a.add (i * 3 + 2)) = some (V2 i) ∧
        DataW.trod enc P w base spare held n f0.type [V0 i] = some (D0 i, P0 i) ∧ DataW.trod enc P w base spare held n f1.type [V1 i] = some (D1 i, P1 i) ∧ DataW.trod enc P w base spare held n f2.type [V2 i] = some (D2 i, P2 i) := by
  rcases open_slice ht h with h0 | ⟨a, len, cap, m, n, D, Pl, rfl, hb, hl, hm, hmm, rfl, hx⟩
  · exact Or.inl h0
  right
  have hlm : len ≤ m := by rw [hmm]; split <;> omega
  have each : ∀ i, i < m → ∃ q : (Value × Value × Value) × (DataW H × List MemPlace) × (DataW H × List MemPlace) × (DataW H × List MemPlace), w.cell? (a.add (i * 3)) = some q.1.1 ∧ w.cell? (a.add (i * 3 + 1)) = some q.1.2.1 ∧ w.cell? (a.add (i * 3 + 2)) = some q.1.2.2 ∧
      DataW.trod enc P w base spare held (n - 1) f0.type [q.1.1] = some q.2.1 ∧ DataW.trod enc P w base spare held (n - 1) f1.type [q.1.2.1] = some q.2.2.1 ∧ DataW.trod enc P w base spare held (n - 1) f2.type [q.1.2.2] = some q.2.2.2 ∧ D i = .agg [q.2.1.1, q.2.2.1.1, q.2.2.2.1] := by
    intro i hi
    obtain ⟨cs', h1, h2⟩ := hx i hi
    rw [ce] at h1
    obtain ⟨_, hlen, hcell⟩ := World.cells?_some h1
    obtain ⟨xs, k, hk, hxy, _, hxl, hf⟩ := DataW.trod_struct he h2
    have hk' : k = n - 1 := by omega
    subst hk'
    match xs, hxl, cs', hlen with
    | [y0, y1, y2], _, [v0, v1, v2], _ =>
      have g0 := hf 0 f0 rfl
      have g1 := hf 1 f1 rfl
      have g2 := hf 2 f2 rfl
      simp [o0, o1, o2, c0, c1, c2] at g0 g1 g2
      have e0 := hcell 0 (by omega)
      have e1 := hcell 1 (by omega)
      have e2 := hcell 2 (by omega)
      rw [add_add] at e0 e1 e2
      simp only [Prod.mk.injEq] at hxy
      exact ⟨((v0, v1, v2), y0, y1, y2), by simpa using e0, by simpa using e1, by simpa using e2, g0, g1, g2, by simpa using hxy.1⟩
  obtain ⟨q, hq⟩ := choose_lt each
  refine ⟨a, len, cap, m, n - 1, fun i => (q i).1.1, fun i => (q i).1.2.1, fun i => (q i).1.2.2, fun i => (q i).2.1.1, fun i => (q i).2.2.1.1, fun i => (q i).2.2.2.1, fun i => (q i).2.1.2, fun i => (q i).2.2.1.2, fun i => (q i).2.2.2.2, rfl, hb, hl, hm, hmm, ?_,
    fun i hi => ⟨(hq i hi).1, (hq i hi).2.1, (hq i hi).2.2.1, (hq i hi).2.2.2.1, (hq i hi).2.2.2.2.1, (hq i hi).2.2.2.2.2.1⟩⟩
  dsimp only
  rw [List.map_congr_left (fun i hi => (hq i (by have := List.mem_range.1 hi; omega)).2.2.2.2.2.2), List.map_congr_left (fun j hj => (hq (len + j) (by have := List.mem_range.1 hj; omega)).2.2.2.2.2.2)]

set_option maxRecDepth 100000 in
/-- a slice of links that came in, from its cells -/
theorem open_links {H : Type} {enc : TypeId × Value → H} {W : World} {base : Nat} {held : Bool} {fuel : Nat} {v : Value} {x : DataW H × List MemPlace}
    (h : DataW.trod enc Tryd.prog W base (fun _ => true) held fuel 40 [v] = some x) :
    ∃ (A : Option Addr) (kids : List Link) (cap : Nat), v = .slice A kids.length cap ∧ Cells W A (kids.flatMap lc) ∧ (∀ p ∈ kids, In64 p.many) ∧ (kids.map fun p => p.last.size + p.id.size + 1).sum + 2 * kids.length ≤ Rows.uptoBulk x.1 := by
  rcases open_slice_trips Tryd.underlying40 Tryd.underlying96 (by kernel_rfl) rfl rfl rfl (by kernel_rfl) (by kernel_rfl) (by kernel_rfl) h with ⟨hcs, rfl⟩ | ⟨a, len, cap, m, n, V0, V1, V2, D0, D1, D2, P0, P1, P2, hcs, _, hl, hm, hmm, hx1, hx⟩
  · obtain rfl : v = .slice none 0 0 := by simpa using hcs
    exact ⟨none, [], 0, rfl, .inl rfl, by simp, by simp⟩
  · obtain rfl : v = .slice (some a) len cap := by simpa using hcs
    rw [if_pos rfl] at hmm
    subst hmm
    have each : ∀ i, i < m → ∃ q : ByteArray × ByteArray × Int, V0 i = .string q.1 ∧ D0 i = .lit (.string q.1.data.toList) ∧ V1 i = .string q.2.1 ∧ D1 i = .lit (.string q.2.1.data.toList) ∧ V2 i = .int .i64 q.2.2 ∧ D2 i = .lit (.int .i64 q.2.2) ∧ In64 q.2.2 := fun i hi => by
      obtain ⟨_, _, _, h2, h3, h4⟩ := hx i hi
      obtain ⟨s, g1, g2, _⟩ := DataW.trod_string Tryd.underlying9 h2
      obtain ⟨s', g1', g2', _⟩ := DataW.trod_string Tryd.underlying9 h3
      obtain ⟨z, g3, g4, g5⟩ := DataW.trod_int Tryd.underlying2 h4
      simp only [Prod.mk.injEq] at g2 g2' g4
      exact ⟨(s, s', z), by simpa using g1, g2.1, by simpa using g1', g2'.1, by simpa using g3, g4.1, in64_wf g5⟩
    obtain ⟨q, hq⟩ := choose_lt each
    obtain ⟨kids, hk⟩ : ∃ kids : List Link, kids = (List.range len).map fun i => ⟨(q i).1, (q i).2.1, (q i).2.2⟩ := ⟨_, rfl⟩
    have hkl : kids.length = len := by rw [hk]; simp
    have hkg : ∀ i (h : i < kids.length), kids[i] = ⟨(q i).1, (q i).2.1, (q i).2.2⟩ := fun i h => by subst hk; simp
    refine ⟨some a, kids, m, by rw [hkl], ?_, ?_, ?_⟩
    · by_cases h0 : len = 0
      · exact .inl (by rw [hk, h0]; rfl)
      · have hsp : a.spot = none := by
          have h1 := (hx 0 (by omega)).1
          cases hs : a.spot with
          | none => rfl
          | some s =>
            unfold World.cell? at h1
            rw [show (a.add (0 * 3)) = a by simp [Addr.add], hs] at h1
            split at h1 <;> simp at h1
        obtain ⟨b, o, s⟩ := a
        obtain rfl : s = none := hsp
        refine .inr ⟨b, o, rfl, fun j u hj => ?_⟩
        have hjl : j < kids.length * 3 := by
          have := (List.getElem?_eq_some_iff.1 hj).1
          rw [flat_len lc_len] at this; exact this
        obtain ⟨i, r, hr, rfl⟩ : ∃ i r, r < 3 ∧ j = i * 3 + r := ⟨j / 3, j % 3, Nat.mod_lt _ (by omega), by omega⟩
        have hi : i < kids.length := by omega
        rw [flat_get lc_len kids i r hi hr, hkg i hi] at hj
        obtain ⟨c0, c1, c2, _, _⟩ := hx i (by omega)
        rw [Addr.add_lit] at c0 c1 c2
        obtain ⟨q0, _, q1, _, q2, _, _⟩ := hq i (by omega)
        match r, hr with
        | 0, _ => simp [lc] at hj; subst hj; rw [Nat.add_zero, c0, q0]
        | 1, _ => simp [lc] at hj; subst hj; rw [c1, q1]
        | 2, _ => simp [lc] at hj; subst hj; rw [c2, q2]
    · intro p hp
      rw [hk] at hp
      obtain ⟨i, hi, rfl⟩ := List.mem_map.1 hp
      exact (hq i (by have := List.mem_range.1 hi; omega)).2.2.2.2.2.2
    · have hb : ∀ n, n ≤ len → (((List.range n).map fun i => (⟨(q i).1, (q i).2.1, (q i).2.2⟩ : Link)).map fun p => p.last.size + p.id.size + 1).sum + 2 * n ≤ Rows.uptoBulkAll ((List.range n).map fun i => DataW.agg [D0 i, D1 i, D2 i]) := by
        intro n
        induction n with
        | zero => intro _; simp
        | succ n ih =>
          intro hn
          have ih := ih (by omega)
          obtain ⟨_, d0, _, d1, _, d2, _⟩ := hq n (by omega)
          rw [List.range_succ, List.map_append, List.map_append, List.map_append, List.sum_append, bulk_app]
          simp only [List.map_cons, List.map_nil, List.sum_cons, List.sum_nil, Rows.uptoBulkAll, Rows.uptoBulk, d0, d1, d2]
          have e : (q n).1.data.toList.length = (q n).1.size := by simp
          have e2 : (q n).2.1.data.toList.length = (q n).2.1.size := by simp
          omega
      have h1 := hb len (Nat.le_refl _)
      rw [← hk] at h1
      rw [hx1]
      simp only [Rows.uptoBulk]
      omega

set_option maxRecDepth 100000 in
theorem open_branch {H : Type} {enc : TypeId × Value → H} {W : World} {base : Nat} {held : Bool} {r : Reach} {b0 : Nat} {v : Value} {d : DataW H} {pl : List MemPlace} {l : List (DataW H)}
    (hk : Rows.uptoSmall H l = true) (hd : d ∈ l) (hval : Value.okWide Tryd.prog W r b0 42 v)
    (h : DataW.Trod enc Tryd.prog W base (fun _ => true) held 42 v d pl) :
    ∃ (level : Int) (A : Option Addr) (kids : List Link) (cap : Nat), v = .agg #[.int .i64 level, .slice A kids.length cap] ∧ Cells W A (kids.flatMap lc) ∧ In64 level ∧ (∀ p ∈ kids, In64 p.many) ∧ (kids.map fun p => p.last.size + p.id.size + 1).sum + 2 * kids.length ≤ 1048576 := by
  have hb := bulk_at hk hd
  obtain ⟨cs, rfl, hsz⟩ := okWide_struct Tryd.underlying42 hval
  rw [show Tryd.prog.cellsOf 42 = 2 by kernel_rfl] at hsz
  obtain ⟨fuel, hf⟩ := h
  obtain ⟨y0, y1, n, hx, hl, g0, g1⟩ := trod_struct2 Tryd.underlying42 hf
  obtain ⟨c0, c1, rfl⟩ : ∃ c0 c1, cs = #[c0, c1] := by
    obtain ⟨cl⟩ := cs
    match cl, hsz with
    | [c0, c1], _ => exact ⟨c0, c1, rfl⟩
  have e0 : Tryd.prog.cellsOf 3 = 1 := by kernel_rfl
  have e1 : Tryd.prog.cellsOf 40 = 1 := by kernel_rfl
  simp [Value.cells, e0, e1] at g0 g1
  obtain ⟨z, g3, g4, g5⟩ := DataW.trod_int Tryd.underlying3 g0
  obtain ⟨A, kids, cap, g6, g7, g8, g9⟩ := open_links g1
  refine ⟨z, A, kids, cap, by rw [g6, show c0 = .int .i64 z by simpa using g3], g7, in64_wf g5, g8, ?_⟩
  rw [show d = .agg [y0.1, y1.1] from (Prod.mk.inj hx).1] at hb
  simp only [Rows.uptoBulk, Rows.uptoBulkAll] at hb
  omega
theorem leafB_len (kids : List Pair) (h : (kids.map fun p => p.key.size + p.val.size).sum + 2 * kids.length ≤ 1048576) : (leafB kids).length ≤ 100000000 := by
  have h1 : ∀ l : List Pair, (l.map fun p => p.key.size + p.val.size).sum ≤ 1048576 → (l.flatMap pairB).length ≤ (l.map fun p => p.key.size + p.val.size).sum + 20 * l.length := by
    intro l
    induction l with
    | nil => intro _; simp
    | cons a l ih =>
      intro hs
      rw [List.map_cons, List.sum_cons] at hs
      have := ih (by omega)
      have := encT_len a.key (by omega)
      have := encT_len a.val (by omega)
      rw [List.flatMap_cons, List.length_append, List.map_cons, List.sum_cons, List.length_cons]
      simp only [pairB, List.length_append]
      omega
  have h2 := h1 kids (by omega)
  have := enc_len (kids.length : Int) (by unfold In64; omega)
  simp only [leafB, List.length_cons, List.length_append]
  omega
theorem branchB_len (level : Int) (kids : List Link) (hlv : In64 level) (hs : ∀ p ∈ kids, In64 p.many) (h : (kids.map fun p => p.last.size + p.id.size + 1).sum + 2 * kids.length ≤ 1048576) : (branchB level kids).length ≤ 100000000 := by
  have h1 : ∀ l : List Link, (∀ p ∈ l, In64 p.many) → (l.map fun p => p.last.size + p.id.size + 1).sum ≤ 1048576 → (l.flatMap linkB).length ≤ (l.map fun p => p.last.size + p.id.size + 1).sum + 20 * l.length := by
    intro l
    induction l with
    | nil => intro _ _; simp
    | cons a l ih =>
      intro hs hb
      rw [List.map_cons, List.sum_cons] at hb
      have := ih (fun p hp => hs p (by simp [hp])) (by omega)
      have := enc_len a.many (hs a (by simp))
      have := encT_len a.last (by omega)
      have e : a.id.data.toList.length = a.id.size := by simp
      rw [List.flatMap_cons, List.length_append, List.map_cons, List.sum_cons, List.length_cons]
      simp only [linkB, List.length_append]
      omega
  have h2 := h1 kids hs (by omega)
  have := enc_len level hlv
  have := enc_len (kids.length : Int) (by unfold In64; omega)
  simp only [branchB, List.length_cons, List.length_append]
  omega
end K
end Go.Proofs.YtenamjldkaggcaaDoor
/- The law ObjectMaps, as its card asks it. -/
namespace Go.Proofs.YtenamjldkaggcaaDoor
set_option linter.unusedVariables false
set_option linter.unusedSimpArgs false
open Go.RowKit K Wire
namespace Obj
theorem maps_row (AP : Option Addr) (cp : Nat) (prs : List Pair) (level : Int) (A : Option Addr) (c : Nat) (kids : List Link) (t : ByteArray) (w : World) (hK : Hash.Keys w) (hAP : Cells w AP (prs.flatMap kc)) (hbp : (prs.map fun p => p.key.size + p.val.size).sum + 2 * prs.length ≤ 1048576)
    (hA : Cells w A (kids.flatMap lc)) (hlv : In64 level) (hsz : ∀ p ∈ kids, In64 p.many) (hb : (kids.map fun p => p.last.size + p.id.size + 1).sum + 2 * kids.length ≤ 1048576) (ht : t.size ≤ 1048576) :
    Calls Tryd.prog 4 #[.slice AP prs.length cp, .agg #[.int .i64 level, .slice A kids.length c], .string t] w fun e w' => e = .returned (.bool true) ∧ Below w.heap.size w w' :=
  maps_calls AP cp prs level A c kids t w hK hAP hA ht (by omega) (leafB_len prs hbp) (by omega) hlv hsz (branchB_len level kids hlv hsz hb)
end Obj
end Go.Proofs.YtenamjldkaggcaaDoor
