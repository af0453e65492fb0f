/- The walk of the law ObjectNodes. -/
import Derived.Test.YtenamjldkaggcaaDoorObjV
import Derived.Test.YtenamjldkaggcaaDoorObjY
namespace Go.Proofs.YtenamjldkaggcaaDoor
set_option linter.unusedVariables false
set_option linter.unusedSimpArgs false
open Go.RowKit K Wire
namespace Obj

theorem putV_ex (l : List UInt8) (bad : Bool) : ∃ (o1 o2 : ByteArray) (e : Int), putV l bad = .tuple #[.agg #[.string o1, .string o2], .int .i64 e] := by
  cases bad
  · exact ⟨_, _, _, putV_f l⟩
  · exact ⟨_, _, _, putV_t l⟩
theorem chunkT_ex (s : ByteArray) : ∃ (q : ByteArray) (e : Int), chunkT s = .tuple #[.string q, .int .i64 e] := ⟨_, _, rfl⟩

theorem outFan_len (L : List UInt8) : (outFan L).2.length ≤ 32 := by
  unfold outFan
  split
  · rename_i h
    have h2 := (fan_sound L h).2
    simp only [rightFan, inR, Bool.and_eq_true, decide_eq_true_eq] at h2
    have := h2.1.1.2.2
    show (rdFan L).2.length ≤ 32
    omega
  · simp

set_option maxRecDepth 100000 in
set_option maxHeartbeats 4000000 in
theorem nodes_calls (s : ByteArray) (level : Int) (A : Option Addr) (c : Nat) (kids : List Part) (t : ByteArray) (w : World) (hK : Hash.Keys w) (hA : Cells w A (kids.flatMap pc)) (hs : s.size ≤ 1048576) (ht : t.size ≤ 1048576)
    (hc : kids.length ≤ 100000000) (hlv : In64 level) (hsz : ∀ p ∈ kids, In64 p.size) (hl : (fanB level kids).length ≤ 100000000) :
    Calls Tryd.prog 6 #[.string s, .agg #[.int .i64 level, .slice A kids.length c], .string t] w fun e w' => e = .returned (.bool true) ∧ Below w.heap.size w w' := by
  obtain ⟨o1, o2, oe, hp1⟩ := putV_ex (chunkB s.data.toList) (!decide (s.size ≤ 1024))
  obtain ⟨p1, p2, pe, hp2⟩ := putV_ex (fanB level kids) (!rightFan level kids)
  obtain ⟨q, qe, hq⟩ := chunkT_ex t
  have hag := fans_agree t.data.toList
  have cSH := fun (w1 : World) (m : Mod (fun _ => False) w w1) => shown_calls w1 (hK.keep m (fun h => h))
  have cC := fun (w1 : World) (m : Mod (fun _ => False) w w1) => chunk_calls s w1 (hK.keep m (fun h => h)) hs
  have cRC := fun (w1 : World) => rChunk_calls s w1 hs
  have cF := fun (w1 : World) (m : Mod (fun _ => False) w w1) => fan_calls level A c kids w1 (hK.keep m (fun h => h)) (hA.keep m (fun _ _ h => h)) hc hlv hsz hl
  have cRF := fun (w1 : World) (m : Mod (fun _ => False) w w1) => rFan_calls level A c kids w1 (hA.keep m (fun _ _ h => h)) hc hlv hsz hl
  have cT := fun (w1 : World) => takeChunk_calls t w1 (by omega)
  have cRT := fun (w1 : World) => refTakeChunk_calls t w1 (by omega)
  have cTF := fun (w1 : World) => takeFan_calls t w1 (by omega)
  have cRTF := fun (w1 : World) => rTakeFan_calls t w1 (by omega)
  rw [hp1] at cC cRC
  rw [hp2] at cF cRF
  rw [hq] at cT cRT
  rw [← hag.1, ← hag.2] at cRTF
  have hkl := outFan_len t.data.toList
  generalize outFan t.data.toList = F at *
  obtain ⟨fe, hfe⟩ : ∃ fe, errV (okFan t.data.toList) = .int .i64 fe := ⟨_, rfl⟩
  rw [hfe] at cTF cRTF
  obtain ⟨fl, fk⟩ := F
  dsimp only at cTF cRTF hkl
  have hM0 := (Mod.refl (fun _ => False) w).alloc (.cells #[.int .i64 level, .slice A kids.length c] 32)
  have hX0 := Has.new w [.int .i64 level, .slice A kids.length c] 32
  have HM0 := Lib.hid hM0
  have HX0 := Lib.hid hX0
  have HSH := Lib.hid cSH
  have HC := Lib.hid cC
  have HRC := Lib.hid cRC
  have HF := Lib.hid cF
  have HRF := Lib.hid cRF
  have HT := Lib.hid cT
  have HRT := Lib.hid cRT
  have HTF := Lib.hid cTF
  have HRTF := Lib.hid cRTF
  have HKL := Lib.hid hkl
  clear hp1 hp2 hq hag hfe cSH cC cRC cF cRF cT cRT cTF cRTF hM0 hX0 hK hA hs ht hc hlv hsz hl hkl
  go_enter Tryd.func6, Tryd.ntmps6
  go_wp2_with fail
  refine (HSH.out _ HM0.out).mono ?_
  rintro e w1 ⟨rfl, hm⟩
  have HM1 := Lib.hid (Mod.trans HM0.out hm (fun _ _ h => h))
  have HX1 := Lib.hid (HX0.out.keep hm (fun h => h))
  clear hm
  go_wp2_with fail
  refine (HC.out _ HM1.out).mono ?_
  rintro e w2 ⟨rfl, hm⟩
  have HM2 := Lib.hid (Mod.trans HM1.out hm (fun _ _ h => h))
  have HX2 := Lib.hid (HX1.out.keep hm (fun h => h))
  clear hm
  go_wp2_with fail
  refine (HRC.out _).mono ?_
  rintro e w3 ⟨rfl, hm⟩
  have hX3 := (HX2.out.alloc _).keep hm (fun h => h)
  have x0 := hX3.cell (o := 0) rfl
  have x1 := hX3.cell (o := 1) rfl
  have HM3 := Lib.hid (Mod.trans (HM2.out.alloc _) hm (fun _ _ h => h))
  have HX3 := Lib.hid hX3
  have hlt := hX3.lt
  have HA3 := Lib.hid ((Has.new w2 [.string o1, .string o2] 27).keep hm (fun h => h))
  clear hm hX3
  go_wp2_with fail
  refine (HF.out _ (HM3.out.alloc _)).mono ?_
  rintro e w4 ⟨rfl, hm⟩
  have hX4 := (HX3.out.alloc _).keep hm (fun h => h)
  have x0 := hX4.cell (o := 0) rfl
  have x1 := hX4.cell (o := 1) rfl
  have hlt := hX4.lt
  have HM4 := Lib.hid (Mod.trans (HM3.out.alloc _) hm (fun _ _ h => h))
  have HA4 := Lib.hid ((HA3.out.alloc _).keep hm (fun h => h))
  have HB4 := Lib.hid ((Has.new w3 [.string o1, .string o2] 27).keep hm (fun h => h))
  clear hm hX4
  go_wp2_with fail
  refine (HRF.out _ (HM4.out.alloc _)).mono ?_
  rintro e w5 ⟨rfl, hm⟩
  have HM5 := Lib.hid (Mod.trans (HM4.out.alloc _) hm (fun _ _ h => h))
  have HA5 := Lib.hid ((HA4.out.alloc _).keep hm (fun h => h))
  have HB5 := Lib.hid ((HB4.out.alloc _).keep hm (fun h => h))
  have HC5 := Lib.hid ((Has.new w4 [.string p1, .string p2] 27).keep hm (fun h => h))
  clear hm
  go_wp2_with fail
  refine (HT.out _).mono ?_
  rintro e w6 ⟨rfl, hm⟩
  have HM6 := Lib.hid (Mod.trans (HM5.out.alloc _) hm (fun _ _ h => h))
  have HA6 := Lib.hid ((HA5.out.alloc _).keep hm (fun h => h))
  have HB6 := Lib.hid ((HB5.out.alloc _).keep hm (fun h => h))
  have HC6 := Lib.hid ((HC5.out.alloc _).keep hm (fun h => h))
  have HD6 := Lib.hid ((Has.new w5 [.string p1, .string p2] 27).keep hm (fun h => h))
  clear hm
  go_wp2_with fail
  refine (HRT.out _).mono ?_
  rintro e w7 ⟨rfl, hm⟩
  have HM7 := Lib.hid (Mod.trans HM6.out hm (fun _ _ h => h))
  have HA7 := Lib.hid (HA6.out.keep hm (fun h => h))
  have HB7 := Lib.hid (HB6.out.keep hm (fun h => h))
  have HC7 := Lib.hid (HC6.out.keep hm (fun h => h))
  have HD7 := Lib.hid (HD6.out.keep hm (fun h => h))
  clear hm
  go_wp2_with fail
  refine (HTF.out _).mono ?_
  rintro e w8 ⟨v8, rfl, ho8, hm⟩
  have HM8 := Lib.hid (Mod.trans HM7.out hm (fun _ _ h => h))
  have HA8 := Lib.hid (HA7.out.keep hm (fun h => h))
  have HB8 := Lib.hid (HB7.out.keep hm (fun h => h))
  have HC8 := Lib.hid (HC7.out.keep hm (fun h => h))
  have HD8 := Lib.hid (HD7.out.keep hm (fun h => h))
  obtain ⟨A8, c8, rfl, _, hcl8, _, _⟩ := own_cells ho8
  have HL8 := Lib.hid hcl8
  clear hm ho8 hcl8
  go_wp2_with fail
  refine (HRTF.out _).mono ?_
  rintro e w9 ⟨v9, rfl, ho9, hm⟩
  have HM9 := Lib.hid (Mod.trans (HM8.out.alloc _) hm (fun _ _ h => h))
  have hA9 := (HA8.out.alloc _).keep hm (fun h => h)
  have hB9 := (HB8.out.alloc _).keep hm (fun h => h)
  have hC9 := (HC8.out.alloc _).keep hm (fun h => h)
  have hD9 := (HD8.out.alloc _).keep hm (fun h => h)
  have hE9 := (Has.new w8 [.int .i64 fl, .slice A8 fk.length c8] 32).keep hm (fun h => h)
  obtain ⟨A9, c9, rfl, _, hcl9, _, _⟩ := own_cells ho9
  have HL9 := Lib.hid hcl9
  have HL8' := Lib.hid ((HL8.out.alloc _).keep hm (fun _ _ h => h))
  have a0 := hA9.cell (o := 0) rfl
  have a1 := hA9.cell (o := 1) rfl
  have b0 := hB9.cell (o := 0) rfl
  have b1 := hB9.cell (o := 1) rfl
  have d0 := hC9.cell (o := 0) rfl
  have d1 := hC9.cell (o := 1) rfl
  have g0 := hD9.cell (o := 0) rfl
  have g1 := hD9.cell (o := 1) rfl
  have e0 := hE9.cell (o := 0) rfl
  have e1 := hE9.cell (o := 1) rfl
  have l1 := hA9.lt
  have l2 := hB9.lt
  have l3 := hC9.lt
  have l4 := hD9.lt
  have l5 := hE9.lt
  have HS := Lib.hid (fun w' h1 h2 => sameFan_calls fl A8 A9 c8 c9 fk w' h1 h2 (by have := HKL.out; omega))
  clear hm ho9 hcl9 hA9 hB9 hC9 hD9 hE9
  go_wp2_with fail
  refine (HS.out _ (HL8'.out.alloc _) (HL9.out.alloc _)).mono ?_
  rintro e w10 ⟨rfl, hm⟩
  have HM10 := Lib.hid (Mod.trans (HM9.out.alloc _) hm (fun _ _ h => h))
  clear hm
  go_wp2_with fail
  go_ret
  exact ⟨rfl, HM10.out.below (fun _ _ h => h)⟩
end Obj
end Go.Proofs.YtenamjldkaggcaaDoor
