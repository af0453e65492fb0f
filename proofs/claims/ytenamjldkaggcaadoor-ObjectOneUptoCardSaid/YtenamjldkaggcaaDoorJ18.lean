/- Joined texts: ObjectNodesL, Ki. -/
import Derived.Test.YtenamjldkaggcaaDoorJ16
import Derived.Test.YtenamjldkaggcaaDoorJ17
import Derived.Test.YtenamjldkaggcaaDoorJ2
import Derived.Test.YtenamjldkaggcaaDoorJ11
import Derived.Deep.SlicePairs
/- The walk of the law ObjectNodes. -/
namespace Go.Proofs.YtenamjldkaggcaaDoor
set_option linter.unusedVariables false
set_option linter.unusedSimpArgs false
open Go.RowKit K Wire
namespace Obj

theorem putV_ex (l : List UInt8) (bad : Bool) : ∃ (o1 o2 : ByteArray) (e : Int), putV l bad = .tuple #[.agg #[.string o1, .string o2], .int .i64 e] := by
  cases bad
  · exact ⟨_, _, _, putV_f l⟩
  · exact ⟨_, _, _, putV_t l⟩
theorem chunkT_ex (s : ByteArray) : ∃ (q : ByteArray) (e : Int), chunkT s = .tuple #[.string q, .int .i64 e] := ⟨_, _, rfl⟩

theorem outFan_len (L : List UInt8) : (outFan L).2.length ≤ 32 := by
  unfold outFan
  split
  · rename_i h
    have h2 := (fan_sound L h).2
    simp only [rightFan, inR, Bool.and_eq_true, decide_eq_true_eq] at h2
    have := h2.1.1.2.2
    show (rdFan L).2.length ≤ 32
    omega
  · simp

set_option maxRecDepth 100000 in
set_option maxHeartbeats 4000000 in
theorem nodes_calls (s : ByteArray) (level : Int) (A : Option Addr) (c : Nat) (kids : List Part) (t : ByteArray) (w : World) (hK : Hash.Keys w) (hA : Cells w A (kids.flatMap pc)) (hs : s.size ≤ 1048576) (ht : t.size ≤ 1048576)
    (hc : kids.length ≤ 100000000) (hlv : In64 level) (hsz : ∀ p ∈ kids, In64 p.size) (hl : (fanB level kids).length ≤ 100000000) :
    Calls Tryd.prog 6 #[.string s, .agg #[.int .i64 level, .slice A kids.length c], .string t] w fun e w' => e = .returned (.bool true) ∧ Below w.heap.size w w' := by
  obtain ⟨o1, o2, oe, hp1⟩ := putV_ex (chunkB s.data.toList) (!decide (s.size ≤ 1024))
  obtain ⟨p1, p2, pe, hp2⟩ := putV_ex (fanB level kids) (!rightFan level kids)
  obtain ⟨q, qe, hq⟩ := chunkT_ex t
  have hag := fans_agree t.data.toList
  have cSH := fun (w1 : World) (m : Mod (fun _ => False) w w1) => shown_calls w1 (hK.keep m (fun h => h))
  have cC := fun (w1 : World) (m : Mod (fun _ => False) w w1) => chunk_calls s w1 (hK.keep m (fun h => h)) hs
  have cRC := fun (w1 : World) => rChunk_calls s w1 hs
  have cF := fun (w1 : World) (m : Mod (fun _ => False) w w1) => fan_calls level A c kids w1 (hK.keep m (fun h => h)) (hA.keep m (fun _ _ h => h)) hc hlv hsz hl
  have cRF := fun (w1 : World) (m : Mod (fun _ => False) w w1) => rFan_calls level A c kids w1 (hA.keep m (fun _ _ h => h)) hc hlv hsz hl
  have cT := fun (w1 : World) => takeChunk_calls t w1 (by omega)
  have cRT := fun (w1 : World) => refTakeChunk_calls t w1 (by omega)
  have cTF := fun (w1 : World) => takeFan_calls t w1 (by omega)
  have cRTF := fun (w1 : World) => rTakeFan_calls t w1 (by omega)
  rw [hp1] at cC cRC
  rw [hp2] at cF cRF
  rw [hq] at cT cRT
  rw [← hag.1, ← hag.2] at cRTF
  have hkl := outFan_len t.data.toList
  generalize outFan t.data.toList = F at *
  obtain ⟨fe, hfe⟩ : ∃ fe, errV (okFan t.data.toList) = .int .i64 fe := ⟨_, rfl⟩
  rw [hfe] at cTF cRTF
  obtain ⟨fl, fk⟩ := F
  dsimp only at cTF cRTF hkl
  have hM0 := (Mod.refl (fun _ => False) w).alloc (.cells #[.int .i64 level, .slice A kids.length c] 32)
  have hX0 := Has.new w [.int .i64 level, .slice A kids.length c] 32
  have HM0 := Lib.hid hM0
  have HX0 := Lib.hid hX0
  have HSH := Lib.hid cSH
  have HC := Lib.hid cC
  have HRC := Lib.hid cRC
  have HF := Lib.hid cF
  have HRF := Lib.hid cRF
  have HT := Lib.hid cT
  have HRT := Lib.hid cRT
  have HTF := Lib.hid cTF
  have HRTF := Lib.hid cRTF
  have HKL := Lib.hid hkl
  clear hp1 hp2 hq hag hfe cSH cC cRC cF cRF cT cRT cTF cRTF hM0 hX0 hK hA hs ht hc hlv hsz hl hkl
  go_enter Tryd.func6, Tryd.ntmps6
  go_wp2_with fail
  refine (HSH.out _ HM0.out).mono ?_
  rintro e w1 ⟨rfl, hm⟩
  have HM1 := Lib.hid (Mod.trans HM0.out hm (fun _ _ h => h))
  have HX1 := Lib.hid (HX0.out.keep hm (fun h => h))
  clear hm
  go_wp2_with fail
  refine (HC.out _ HM1.out).mono ?_
  rintro e w2 ⟨rfl, hm⟩
  have HM2 := Lib.hid (Mod.trans HM1.out hm (fun _ _ h => h))
  have HX2 := Lib.hid (HX1.out.keep hm (fun h => h))
  clear hm
  go_wp2_with fail
  refine (HRC.out _).mono ?_
  rintro e w3 ⟨rfl, hm⟩
  have hX3 := (HX2.out.alloc _).keep hm (fun h => h)
  have x0 := hX3.cell (o := 0) rfl
  have x1 := hX3.cell (o := 1) rfl
  have HM3 := Lib.hid (Mod.trans (HM2.out.alloc _) hm (fun _ _ h => h))
  have HX3 := Lib.hid hX3
  have hlt := hX3.lt
  have HA3 := Lib.hid ((Has.new w2 [.string o1, .string o2] 27).keep hm (fun h => h))
  clear hm hX3
  go_wp2_with fail
  refine (HF.out _ (HM3.out.alloc _)).mono ?_
  rintro e w4 ⟨rfl, hm⟩
  have hX4 := (HX3.out.alloc _).keep hm (fun h => h)
  have x0 := hX4.cell (o := 0) rfl
  have x1 := hX4.cell (o := 1) rfl
  have hlt := hX4.lt
  have HM4 := Lib.hid (Mod.trans (HM3.out.alloc _) hm (fun _ _ h => h))
  have HA4 := Lib.hid ((HA3.out.alloc _).keep hm (fun h => h))
  have HB4 := Lib.hid ((Has.new w3 [.string o1, .string o2] 27).keep hm (fun h => h))
  clear hm hX4
  go_wp2_with fail
  refine (HRF.out _ (HM4.out.alloc _)).mono ?_
  rintro e w5 ⟨rfl, hm⟩
  have HM5 := Lib.hid (Mod.trans (HM4.out.alloc _) hm (fun _ _ h => h))
  have HA5 := Lib.hid ((HA4.out.alloc _).keep hm (fun h => h))
  have HB5 := Lib.hid ((HB4.out.alloc _).keep hm (fun h => h))
  have HC5 := Lib.hid ((Has.new w4 [.string p1, .string p2] 27).keep hm (fun h => h))
  clear hm
  go_wp2_with fail
  refine (HT.out _).mono ?_
  rintro e w6 ⟨rfl, hm⟩
  have HM6 := Lib.hid (Mod.trans (HM5.out.alloc _) hm (fun _ _ h => h))
  have HA6 := Lib.hid ((HA5.out.alloc _).keep hm (fun h => h))
  have HB6 := Lib.hid ((HB5.out.alloc _).keep hm (fun h => h))
  have HC6 := Lib.hid ((HC5.out.alloc _).keep hm (fun h => h))
  have HD6 := Lib.hid ((Has.new w5 [.string p1, .string p2] 27).keep hm (fun h => h))
  clear hm
  go_wp2_with fail
  refine (HRT.out _).mono ?_
  rintro e w7 ⟨rfl, hm⟩
  have HM7 := Lib.hid (Mod.trans HM6.out hm (fun _ _ h => h))
  have HA7 := Lib.hid (HA6.out.keep hm (fun h => h))
  have HB7 := Lib.hid (HB6.out.keep hm (fun h => h))
  have HC7 := Lib.hid (HC6.out.keep hm (fun h => h))
  have HD7 := Lib.hid (HD6.out.keep hm (fun h => h))
  clear hm
  go_wp2_with fail
  refine (HTF.out _).mono ?_
  rintro e w8 ⟨v8, rfl, ho8, hm⟩
  have HM8 := Lib.hid (Mod.trans HM7.out hm (fun _ _ h => h))
  have HA8 := Lib.hid (HA7.out.keep hm (fun h => h))
  have HB8 := Lib.hid (HB7.out.keep hm (fun h => h))
  have HC8 := Lib.hid (HC7.out.keep hm (fun h => h))
  have HD8 := Lib.hid (HD7.out.keep hm (fun h => h))
  obtain ⟨A8, c8, rfl, _, hcl8, _, _⟩ := own_cells ho8
  have HL8 := Lib.hid hcl8
  clear hm ho8 hcl8
  go_wp2_with fail
  refine (HRTF.out _).mono ?_
  rintro e w9 ⟨v9, rfl, ho9, hm⟩
  have HM9 := Lib.hid (Mod.trans (HM8.out.alloc _) hm (fun _ _ h => h))
  have hA9 := (HA8.out.alloc _).keep hm (fun h => h)
  have hB9 := (HB8.out.alloc _).keep hm (fun h => h)
  have hC9 := (HC8.out.alloc _).keep hm (fun h => h)
  have hD9 := (HD8.out.alloc _).keep hm (fun h => h)
  have hE9 := (Has.new w8 [.int .i64 fl, .slice A8 fk.length c8] 32).keep hm (fun h => h)
  obtain ⟨A9, c9, rfl, _, hcl9, _, _⟩ := own_cells ho9
  have HL9 := Lib.hid hcl9
  have HL8' := Lib.hid ((HL8.out.alloc _).keep hm (fun _ _ h => h))
  have a0 := hA9.cell (o := 0) rfl
  have a1 := hA9.cell (o := 1) rfl
  have b0 := hB9.cell (o := 0) rfl
  have b1 := hB9.cell (o := 1) rfl
  have d0 := hC9.cell (o := 0) rfl
  have d1 := hC9.cell (o := 1) rfl
  have g0 := hD9.cell (o := 0) rfl
  have g1 := hD9.cell (o := 1) rfl
  have e0 := hE9.cell (o := 0) rfl
  have e1 := hE9.cell (o := 1) rfl
  have l1 := hA9.lt
  have l2 := hB9.lt
  have l3 := hC9.lt
  have l4 := hD9.lt
  have l5 := hE9.lt
  have HS := Lib.hid (fun w' h1 h2 => sameFan_calls fl A8 A9 c8 c9 fk w' h1 h2 (by have := HKL.out; omega))
  clear hm ho9 hcl9 hA9 hB9 hC9 hD9 hE9
  go_wp2_with fail
  refine (HS.out _ (HL8'.out.alloc _) (HL9.out.alloc _)).mono ?_
  rintro e w10 ⟨rfl, hm⟩
  have HM10 := Lib.hid (Mod.trans (HM9.out.alloc _) hm (fun _ _ h => h))
  clear hm
  go_wp2_with fail
  go_ret
  exact ⟨rfl, HM10.out.below (fun _ _ h => h)⟩
end Obj
end Go.Proofs.YtenamjldkaggcaaDoor
/- Opening an argument that is a struct with a slice of structs. -/
namespace Go.Proofs.YtenamjldkaggcaaDoor
set_option linter.unusedVariables false
set_option linter.unusedSimpArgs false
open Go.RowKit Go.ChangeShapes Go.WideShapes Go.Deep
namespace K
open Wire
open Go.Proofs.YtenamjldkaggcaaDoor.Obj

theorem in64_wf {n : Int} (h : (Lit.int .i64 n).wf = true) : In64 n := by
  unfold In64
  simp only [Lit.wf, Bool.and_eq_true, decide_eq_true_eq, IntKind.min, IntKind.max, IntKind.bits, IntKind.signed] at h
  simp at h
  omega

theorem bulk_app {H : Type} : ∀ (x y : List (DataW H)), Rows.uptoBulkAll (x ++ y) = Rows.uptoBulkAll x + Rows.uptoBulkAll y := fun x y => by
  induction x with
  | nil => simp [Rows.uptoBulkAll]
  | cons a x ih => simp only [List.cons_append, Rows.uptoBulkAll, ih]; omega

set_option maxRecDepth 100000 in
/-- a slice of parts that came in, from its cells -/
theorem open_parts {H : Type} {enc : TypeId × Value → H} {W : World} {base : Nat} {held : Bool} {fuel : Nat} {v : Value} {x : DataW H × List MemPlace}
    (h : DataW.trod enc Tryd.prog W base (fun _ => true) held fuel 30 [v] = some x) :
    ∃ (A : Option Addr) (kids : List Part) (cap : Nat), v = .slice A kids.length cap ∧ Cells W A (kids.flatMap pc) ∧ (∀ p ∈ kids, In64 p.size) ∧ (kids.map fun p => p.id.size + 1).sum + kids.length ≤ Rows.uptoBulk x.1 := by
  rcases open_slice_pairs Tryd.underlying30 Tryd.underlying86 (by kernel_rfl) rfl rfl (by kernel_rfl) (by kernel_rfl) h with ⟨hcs, rfl⟩ | ⟨a, len, cap, m, n, V0, V1, D0, D1, P0, P1, hcs, _, hl, hm, hmm, rfl, hx⟩
  · obtain rfl : v = .slice none 0 0 := by simpa using hcs
    exact ⟨none, [], 0, rfl, .inl rfl, by simp, by simp⟩
  · obtain rfl : v = .slice (some a) len cap := by simpa using hcs
    rw [if_pos rfl] at hmm
    subst hmm
    have each : ∀ i, i < m → ∃ q : ByteArray × Int, V0 i = .string q.1 ∧ D0 i = .lit (.string q.1.data.toList) ∧ V1 i = .int .i64 q.2 ∧ D1 i = .lit (.int .i64 q.2) ∧ In64 q.2 := fun i hi => by
      obtain ⟨_, _, h2, h3⟩ := hx i hi
      obtain ⟨s, g1, g2, _⟩ := DataW.trod_string Tryd.underlying9 h2
      obtain ⟨z, g3, g4, g5⟩ := DataW.trod_int Tryd.underlying2 h3
      simp only [Prod.mk.injEq] at g2 g4
      exact ⟨(s, z), by simpa using g1, g2.1, by simpa using g3, g4.1, in64_wf g5⟩
    obtain ⟨q, hq⟩ := choose_lt each
    obtain ⟨kids, hk⟩ : ∃ kids : List Part, kids = (List.range len).map fun i => ⟨(q i).1, (q i).2⟩ := ⟨_, rfl⟩
    have hkl : kids.length = len := by rw [hk]; simp
    have hkg : ∀ i (h : i < kids.length), kids[i] = ⟨(q i).1, (q i).2⟩ := fun i h => by subst hk; simp
    refine ⟨some a, kids, m, by rw [hkl], ?_, ?_, ?_⟩
    · by_cases h0 : len = 0
      · exact .inl (by rw [hk, h0]; rfl)
      · have hsp : a.spot = none := by
          have h1 := (hx 0 (by omega)).1
          cases hs : a.spot with
          | none => rfl
          | some s =>
            unfold World.cell? at h1
            rw [show (a.add (0 * 2)) = a by simp [Addr.add], hs] at h1
            split at h1 <;> simp at h1
        obtain ⟨b, o, s⟩ := a
        obtain rfl : s = none := hsp
        refine .inr ⟨b, o, rfl, fun j u hj => ?_⟩
        have hjl : j < kids.length * 2 := by
          have := (List.getElem?_eq_some_iff.1 hj).1
          rw [flat_len pc_len] at this; exact this
        obtain ⟨i, r, hr, rfl⟩ : ∃ i r, r < 2 ∧ j = i * 2 + r := ⟨j / 2, j % 2, Nat.mod_lt _ (by omega), by omega⟩
        have hi : i < kids.length := by omega
        rw [flat_get pc_len kids i r hi hr, hkg i hi] at hj
        obtain ⟨c0, c1, _, _⟩ := hx i (by omega)
        rw [Addr.add_lit] at c0 c1
        obtain ⟨q0, _, q1, _, _⟩ := hq i (by omega)
        match r, hr with
        | 0, _ => simp [pc] at hj; subst hj; rw [Nat.add_zero, c0, q0]
        | 1, _ => simp [pc] at hj; subst hj; rw [c1, q1]
    · intro p hp
      rw [hk] at hp
      obtain ⟨i, hi, rfl⟩ := List.mem_map.1 hp
      exact (hq i (by have := List.mem_range.1 hi; omega)).2.2.2.2
    · have hb : ∀ n, n ≤ len → (((List.range n).map fun i => (⟨(q i).1, (q i).2⟩ : Part)).map fun p => p.id.size + 1).sum + n ≤ Rows.uptoBulkAll ((List.range n).map fun i => DataW.agg [D0 i, D1 i]) := by
        intro n
        induction n with
        | zero => intro _; simp
        | succ n ih =>
          intro hn
          have ih := ih (by omega)
          obtain ⟨_, d0, _, d1, _⟩ := hq n (by omega)
          rw [List.range_succ, List.map_append, List.map_append, List.map_append, List.sum_append, bulk_app]
          simp only [List.map_cons, List.map_nil, List.sum_cons, List.sum_nil, Rows.uptoBulkAll, Rows.uptoBulk, d0, d1]
          have e : (q n).1.data.toList.length = (q n).1.size := by simp
          omega
      have h1 := hb len (Nat.le_refl _)
      rw [← hk] at h1
      simp only [Rows.uptoBulk]
      omega

set_option maxRecDepth 100000 in
theorem open_fan {H : Type} {enc : TypeId × Value → H} {W : World} {base : Nat} {held : Bool} {r : Reach} {b0 : Nat} {v : Value} {d : DataW H} {pl : List MemPlace} {l : List (DataW H)}
    (hk : Rows.uptoSmall H l = true) (hd : d ∈ l) (hval : Value.okWide Tryd.prog W r b0 32 v)
    (h : DataW.Trod enc Tryd.prog W base (fun _ => true) held 32 v d pl) :
    ∃ (level : Int) (A : Option Addr) (kids : List Part) (cap : Nat), v = .agg #[.int .i64 level, .slice A kids.length cap] ∧ Cells W A (kids.flatMap pc) ∧ In64 level ∧ (∀ p ∈ kids, In64 p.size) ∧ (kids.map fun p => p.id.size + 1).sum + kids.length ≤ 1048576 := by
  have hb := bulk_at hk hd
  obtain ⟨cs, rfl, hsz⟩ := okWide_struct Tryd.underlying32 hval
  rw [show Tryd.prog.cellsOf 32 = 2 by kernel_rfl] at hsz
  obtain ⟨fuel, hf⟩ := h
  obtain ⟨y0, y1, n, hx, hl, g0, g1⟩ := trod_struct2 Tryd.underlying32 hf
  obtain ⟨c0, c1, rfl⟩ : ∃ c0 c1, cs = #[c0, c1] := by
    obtain ⟨cl⟩ := cs
    match cl, hsz with
    | [c0, c1], _ => exact ⟨c0, c1, rfl⟩
  have e0 : Tryd.prog.cellsOf 3 = 1 := by kernel_rfl
  have e1 : Tryd.prog.cellsOf 30 = 1 := by kernel_rfl
  simp [Value.cells, e0, e1] at g0 g1
  obtain ⟨z, g3, g4, g5⟩ := DataW.trod_int Tryd.underlying3 g0
  obtain ⟨A, kids, cap, g6, g7, g8, g9⟩ := open_parts g1
  refine ⟨z, A, kids, cap, by rw [g6, show c0 = .int .i64 z by simpa using g3], g7, in64_wf g5, g8, ?_⟩
  rw [show d = .agg [y0.1, y1.1] from (Prod.mk.inj hx).1] at hb
  simp only [Rows.uptoBulk, Rows.uptoBulkAll] at hb
  omega
theorem fanB_len (level : Int) (kids : List Part) (hlv : In64 level) (hs : ∀ p ∈ kids, In64 p.size) (h : (kids.map fun p => p.id.size + 1).sum + kids.length ≤ 1048576) : (fanB level kids).length ≤ 100000000 := by
  have h1 : ∀ l : List Part, (∀ p ∈ l, In64 p.size) → (l.flatMap partB).length ≤ (l.map fun p => p.id.size + 1).sum + 9 * l.length := by
    intro l
    induction l with
    | nil => intro _; simp
    | cons a l ih =>
      intro hs
      have := ih fun p hp => hs p (by simp [hp])
      have := enc_len a.size (hs a (by simp))
      have e : a.id.data.toList.length = a.id.size := by simp
      rw [List.flatMap_cons, List.length_append, List.map_cons, List.sum_cons, List.length_cons]
      simp only [partB, List.length_append]
      omega
  have h2 := h1 kids hs
  have := enc_len level hlv
  have := enc_len (kids.length : Int) (by unfold In64; omega)
  simp only [fanB, List.length_cons, List.length_append]
  omega
end K
end Go.Proofs.YtenamjldkaggcaaDoor
