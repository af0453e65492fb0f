/- Joined texts: HashRs. -/
import Derived.Test.YtpoljpjcmigobaaDoorJ7
/- The walk of the reference's Sum. -/
namespace Go.Proofs.YtpoljpjcmigobaaDoor
set_option linter.unusedVariables false
set_option linter.unusedSimpArgs false
open Go.RowKit K
namespace Hash

set_option maxRecDepth 100000 in
theorem pad_len (l : List UInt8) : (pad l).length % 64 = 0 ∧ l.length < (pad l).length ∧ (pad l).length ≤ l.length + 72 := by
  unfold pad
  simp only [List.length_append, List.length_cons, List.length_replicate, be_len]
  omega
set_option maxRecDepth 100000 in
theorem uv_one (L : List Nat) : ∀ u ∈ uv L, u.oneCell' = true := by intro u hu; obtain ⟨x, _, rfl⟩ := List.mem_map.1 hu; rfl
set_option maxRecDepth 100000 in
/-- a whole array, by value, into a block of its own -/
theorem store_new64 (w : World) (V : List Value) (hl : V.length = 64) (h1 : ∀ u ∈ V, u.oneCell' = true) :
    (storeCells ⟨w.heap.size, 0, none⟩ V 0).run Tryd.prog (w.alloc (.cells #[.int .u32 0, .int .u32 0, .int .u32 0, .int .u32 0, .int .u32 0, .int .u32 0, .int .u32 0, .int .u32 0, .int .u32 0, .int .u32 0, .int .u32 0, .int .u32 0, .int .u32 0, .int .u32 0, .int .u32 0, .int .u32 0, .int .u32 0, .int .u32 0, .int .u32 0, .int .u32 0, .int .u32 0, .int .u32 0, .int .u32 0, .int .u32 0, .int .u32 0, .int .u32 0, .int .u32 0, .int .u32 0, .int .u32 0, .int .u32 0, .int .u32 0, .int .u32 0, .int .u32 0, .int .u32 0, .int .u32 0, .int .u32 0, .int .u32 0, .int .u32 0, .int .u32 0, .int .u32 0, .int .u32 0, .int .u32 0, .int .u32 0, .int .u32 0, .int .u32 0, .int .u32 0, .int .u32 0, .int .u32 0, .int .u32 0, .int .u32 0, .int .u32 0, .int .u32 0, .int .u32 0, .int .u32 0, .int .u32 0, .int .u32 0, .int .u32 0, .int .u32 0, .int .u32 0, .int .u32 0, .int .u32 0, .int .u32 0, .int .u32 0, .int .u32 0] 156)) = .ok () (w.alloc (.cells V.toArray 156)) := by
  have h := run_storeCells_new (P := Tryd.prog) w 156 #[.int .u32 0, .int .u32 0, .int .u32 0, .int .u32 0, .int .u32 0, .int .u32 0, .int .u32 0, .int .u32 0, .int .u32 0, .int .u32 0, .int .u32 0, .int .u32 0, .int .u32 0, .int .u32 0, .int .u32 0, .int .u32 0, .int .u32 0, .int .u32 0, .int .u32 0, .int .u32 0, .int .u32 0, .int .u32 0, .int .u32 0, .int .u32 0, .int .u32 0, .int .u32 0, .int .u32 0, .int .u32 0, .int .u32 0, .int .u32 0, .int .u32 0, .int .u32 0, .int .u32 0, .int .u32 0, .int .u32 0, .int .u32 0, .int .u32 0, .int .u32 0, .int .u32 0, .int .u32 0, .int .u32 0, .int .u32 0, .int .u32 0, .int .u32 0, .int .u32 0, .int .u32 0, .int .u32 0, .int .u32 0, .int .u32 0, .int .u32 0, .int .u32 0, .int .u32 0, .int .u32 0, .int .u32 0, .int .u32 0, .int .u32 0, .int .u32 0, .int .u32 0, .int .u32 0, .int .u32 0, .int .u32 0, .int .u32 0, .int .u32 0, .int .u32 0] V.toArray (by simp [hl]; exact ⟨_, rfl, rfl⟩) (by simp [hl]) (by simpa using h1)
  simpa using h
set_option maxRecDepth 100000 in
theorem store_new8 (w : World) (V : List Value) (hl : V.length = 8) (h1 : ∀ u ∈ V, u.oneCell' = true) :
    (storeCells ⟨w.heap.size, 0, none⟩ V 0).run Tryd.prog (w.alloc (.cells #[.int .u32 0, .int .u32 0, .int .u32 0, .int .u32 0, .int .u32 0, .int .u32 0, .int .u32 0, .int .u32 0] 153)) = .ok () (w.alloc (.cells V.toArray 153)) := by
  have h := run_storeCells_new (P := Tryd.prog) w 153 #[.int .u32 0, .int .u32 0, .int .u32 0, .int .u32 0, .int .u32 0, .int .u32 0, .int .u32 0, .int .u32 0] V.toArray (by simp [hl]; exact ⟨_, rfl, rfl⟩) (by simp [hl]) (by simpa using h1)
  simpa using h

set_option maxRecDepth 100000 in
theorem be4 (x : Nat) : ∃ y0 y1 y2 y3 : UInt8, be 4 x = [y0, y1, y2, y3] ∧ IntKind.u8.wrap ((x : Int) / 16777216) = (y0.toNat : Int) ∧ IntKind.u8.wrap ((x : Int) / 65536) = (y1.toNat : Int) ∧ IntKind.u8.wrap ((x : Int) / 256) = (y2.toNat : Int) ∧ IntKind.u8.wrap (x : Int) = (y3.toNat : Int) := by
  refine ⟨_, _, _, _, rfl, ?_, ?_, ?_, ?_⟩ <;> simp [IntKind.wrap_u8] <;> omega
set_option maxRecDepth 100000 in
theorem keys_get {KV : List Value} (h : uv keysL = KV) (t : Nat) (ht : t < 64) : KV[t]? = some (.int .u32 (keysL.getD t 0 : Nat)) := by rw [← h]; exact uv_get keysL t ht

set_option maxRecDepth 100000 in
set_option maxHeartbeats 4000000 in
theorem refSum_calls (b o c : Nat) (l : List UInt8) (w : World) (hA : Cells w (some ⟨b, o, none⟩) (bv l)) (hl : l.length ≤ 1048576) :
    Calls Tryd.prog 84 #[.slice (some ⟨b, o, none⟩) l.length c] w fun e w' => ∃ v, e = .returned v ∧ w'.ownsRow w.heap.size 5 1 v 32 (bv (sha l)) ∧ Mod (fun _ => False) w w' := by
  have HA := Lib.hid hA
  clear hA
  obtain ⟨KV, hKV⟩ : ∃ V, uv keysL = V := ⟨_, rfl⟩
  have HKV := Lib.hid hKV
  have hKl : KV.length = 64 := by rw [← hKV, uv_len]; rfl
  have HK1 : Hid (∀ u ∈ KV, u.oneCell' = true) := Lib.hid (by rw [← hKV]; exact uv_one _)
  clear hKV
  go_enter Tryd.func84, Tryd.ntmps84
  go_wp2_with fail
  refine (constants_calls _).mono ?_
  rintro e w1 ⟨rfl, hm1⟩
  have hsz1 := hm1.size
  have HM1 := Lib.hid hm1
  rw [HKV.out]
  clear hm1
  have hst := store_new64 w1 KV hKl HK1.out
  have hK1 := Lib.hid (Has.new w1 KV 156)
  go_wp2_with fail
  have HM2 := Lib.hid (Mod.alloc (Mod.alloc HM1.out (.cells KV.toArray 156)) (.cells (uv iv.list).toArray 153))
  have hK2 := hK1.out.alloc (.cells (uv iv.list).toArray 153)
  have hH2 := Has.new (w1.alloc (.cells KV.toArray 156)) (uv iv.list) 153
  simp only [size_alloc] at hH2
  refine (padded_calls b o c l _ (HA.out.keep HM2.out (fun _ _ h => h)) (by omega)).mono ?_
  rintro e w3 ⟨v3, rfl, hown3, hm3⟩
  have hK3 := Lib.hid (hK2.keep hm3 (fun h => h))
  have hH3 := Lib.hid (hH2.keep hm3 (fun h => h))
  have HM3 : Hid (Mod (fun _ => False) w w3) := Lib.hid (Mod.trans HM2.out hm3 (fun _ _ h => h))
  obtain ⟨A3, c3, rfl, hc3, hcells3, -, -⟩ := own_cells hown3
  obtain ⟨hp1, hp2, hp3⟩ := pad_len l
  have hsha : sha l = (blocks (pad l) iv ((pad l).length / 64)).list.flatMap (be 4) := rfl
  obtain ⟨P, hP⟩ : ∃ P, pad l = P := ⟨_, rfl⟩
  rw [hP] at hcells3 hp1 hp2 hp3 hc3 hsha ⊢
  obtain ⟨nb, hnb⟩ : ∃ nb, P.length = 64 * nb := ⟨P.length / 64, by omega⟩
  rw [hnb, Nat.mul_div_cancel_left _ (by decide)] at hsha
  obtain ⟨pb, po, rfl, hcell⟩ : ∃ pb po, A3 = some ⟨pb, po, none⟩ ∧ ∀ j u, (bv P)[j]? = some u → w3.cell? ⟨pb, po + j, none⟩ = some u := by
    rcases hcells3 with h | ⟨pb, po, rfl, h⟩
    · have hz : P.length = 0 := by rw [← bv_length, h]; rfl
      omega
    · exact ⟨pb, po, rfl, h⟩
  have hpH : w1.heap.size + 1 + 1 ≤ pb := by
    have := (hown3.lt pb rfl).1
    simp only [size_alloc] at this
    exact this
  have hpb : pb < w3.heap.size := World.block_lt_of_cell? w3 _ (hcell 0 _ (bv_get P 0 (by omega)))
  have HP := Lib.hid hcell
  have HSHA := Lib.hid hsha
  obtain ⟨bK, hbK⟩ : ∃ b, w1.heap.size = b := ⟨_, rfl⟩
  obtain ⟨bH, hbH⟩ : ∃ b, w1.heap.size + 1 = b := ⟨_, rfl⟩
  rw [hbK] at hK3
  rw [hbH] at hH3
  have hKH : bK ≠ bH := by omega
  have hpH2 : pb ≠ bH := by omega
  have hbHw : w.heap.size ≤ bH := by omega
  obtain ⟨n, hn⟩ : ∃ n, P.length = n := ⟨_, rfl⟩
  rw [hn] at hnb hc3 hp1 hp2 hp3 ⊢
  have HPn := Lib.hid hn
  have HNB := Lib.hid hnb
  clear hK2 hH2 hK1 HM2 HM1 hst hm3 hown3 hcells3 hcell hsha hP hn hnb hp1 hpH
  simp only [hbH]
  simp only [hbK]
  clear hbK hbH
  go_wp2_with fail
  have hH3l := hH3.out.lt
  have HBH := Lib.hid hbHw
  have HPH := Lib.hid hpH2
  have HKH := Lib.hid hKH
  clear hpH2 hKH hbHw
  go_loopw [6] (fun i w' => ∃ (j m : Nat), i = .int .i64 m ∧ Hid (m = 64 * j) ∧ j ≤ nb ∧ Hid (Has w' bH (uv (blocks P iv j).list) 153) ∧ Hid (Mod (fun k => k = bH) w3 w')) (fun i _ => 64 * nb - (intOf i).toNat)
  case atStart => exact ⟨0, 0, by go_num, Lib.hid rfl, by omega, hH3, Lib.hid (Mod.refl _ _)⟩
  case round =>
    obtain ⟨j, m, rfl, HMJ, hj, HH, HM⟩ := hrel
    have hm := HMJ.out
    have hnb := HNB.out
    have hsz := HM.out.size
    by_cases hlt : j < nb
    · have i1 : (m : Int) < (n : Int) := by omega
      have hsl : ∀ w', (Instr.slice 111 (.slice (some ⟨pb, po, none⟩) n c3) (some (.int .i64 m)) (some (.int .i64 ((m : Int) + 64))) none).run Tryd.prog w' = .ok (.slice (some ⟨pb, po + m, none⟩) 64 (c3 - m)) w' := fun w' =>
        run_slice2 w' 111 5 pb po n c3 m 64 Tryd.underlying111 rfl (by omega) (by omega)
      have HWD := Lib.hid (words_calls pb (po + m) (c3 - m) ((P.drop m).take 64) wr (fun k u hk => by
        rw [bv_take, List.getElem?_take] at hk
        split at hk
        · rw [bv_drop, List.getElem?_drop] at hk
          rw [Nat.add_assoc, HM.out.cell (by dsimp only; omega) HPH.out]; exact HP.out _ u hk
        · cases hk) (by omega) (by rw [List.length_take, List.length_drop, HPn.out]; omega))
      clear hm hnb
      go_wp2_with fail
      refine HWD.out.mono ?_
      rintro e w5 ⟨rfl, hm5⟩
      obtain ⟨v, hv⟩ : ∃ v, blocks P iv j = v := ⟨_, rfl⟩
      have hok := blocks_ok P iv iv_ok j
      have hnx : blocks P iv (j + 1) = mixV v ((P.drop m).take 64) := by rw [HMJ.out, ← hv]; rfl
      rw [hv] at HH hok
      obtain ⟨WL, hWL⟩ : ∃ WL, Wd ((P.drop m).take 64) 64 = WL := ⟨_, rfl⟩
      have hmx : mixV v ((P.drop m).take 64) = addV v (Rd WL v 64) := by unfold mixV; rw [hWL]
      rw [hmx] at hnx
      have HWLl := Lib.hid (Wd_len ((P.drop m).take 64) 64)
      rw [hWL] at HWLl ⊢
      have hst7 := store_new64 w5 (uv WL) (by rw [uv_len]; exact HWLl.out) (uv_one _)
      have hst8 := store_new8 (w5.alloc (.cells (uv WL).toArray 156)) (uv v.list) rfl (uv_one _)
      have hH5 := (HH.out.keep hm5 (fun h => h)).alloc (.cells (uv WL).toArray 156)
      have hF8 : (w5.alloc (.cells (uv WL).toArray 156)).heap[bH]? = some (.cells (uv v.list).toArray 153 (0, 0)) := hH5
      have hwl : (uv WL).length = 64 := by rw [uv_len]; exact HWLl.out
      have hvl : (uv v.list).length = 8 := rfl
      have hW5 := Lib.hid ((Has.new w5 (uv WL) 156).alloc (.cells (uv v.list).toArray 153))
      have hV5 := Has.new (w5.alloc (.cells (uv WL).toArray 156)) (uv v.list) 153
      simp only [size_alloc] at hst8 hV5
      have HV5 := Lib.hid hV5
      have HH5 := Lib.hid (hH5.alloc (.cells (uv v.list).toArray 153))
      have HM5 : Hid (Mod (fun k => k = bH) w3 ((w5.alloc (.cells (uv WL).toArray 156)).alloc (.cells (uv v.list).toArray 153))) := Lib.hid (Mod.alloc (Mod.alloc (Mod.trans HM.out hm5 (fun _ _ h => absurd h id)) _) _)
      have hsz5 := hm5.size
      have HNX := Lib.hid hnx
      have HOK := Lib.hid hok
      obtain ⟨VV, hVV⟩ : ∃ VV, uv v.list = VV := ⟨_, rfl⟩
      have HVV := Lib.hid hVV
      rw [hVV] at hst8 hF8 hvl HV5 HM5 HH5 hW5
      clear hm5 hV5 hH5 hnx hmx hok hWL hv HH hVV HM
      go_wp2_with (first
        | fail
        | (refine wpList_load_row rfl 153 (.tmp 4) rfl bH rfl 153 VV.toArray (0, 0) _ hF8 Tryd.underlying153 rfl (by simp [hvl]; exact ⟨_, rfl, rfl⟩) ?_))
      obtain ⟨b8, hb8⟩ : ∃ b, w5.heap.size + 1 = b := ⟨_, rfl⟩
      obtain ⟨b7, hb7⟩ : ∃ b, w5.heap.size = b := ⟨_, rfl⟩
      have hs3 : w3.heap.size ≤ w5.heap.size := Nat.le_trans (by assumption) hsz5
      have e7 : w3.heap.size ≤ b7 := by omega
      have e8 : b8 = b7 + 1 := by omega
      have eH : bH < b7 := by omega
      rw [hb8] at HV5
      rw [hb7] at hW5
      simp only [hb8]
      simp only [hb7]
      clear hst7 hst8 hF8 hb8 hb7 hsz5 hs3 hsl HWD
      generalize ((w5.alloc (.cells (uv WL).toArray 156)).alloc (.cells VV.toArray 153)) = w6 at *
      obtain ⟨nb8, hnb8⟩ : ∃ x, b8 = x := ⟨_, rfl⟩
      rw [hnb8] at HV5 e8
      simp only [hnb8]
      have E8 := Lib.hid e8
      clear hnb8 e8
      go_loopw [9] (fun i w' => ∃ t : Nat, i = .int .i64 t ∧ t ≤ 64 ∧ Has w' nb8 (uv (Rd WL v t).list) 153 ∧ Hid (Has w' b7 (uv WL) 156) ∧ Hid (Has w' bH VV 153) ∧ Hid (Mod (fun k => k = bH) w3 w'))
        (fun i _ => 64 - (intOf i).toNat)
      case atStart => exact ⟨0, by go_num, by omega, by rw [show uv (Rd WL v 0).list = VV from HVV.out]; exact HV5.out, hW5, HH5, HM5⟩
      case round =>
        obtain ⟨t, rfl, ht, hV, HW, HH, HM⟩ := hrel
        have e8 := E8.out
        have hsz := HM.out.size
        by_cases hlt : t < 64
        · have i1 : (t : Int) < 64 := by omega
          have hok := Rd_ok WL v HOK.out t
          have hstep : Rd WL v (t + 1) = round (Rd WL v t) (keysL.getD t 0) (WL.getD t 0) := rfl
          have ck := ((hK3.out.keep HM.out HKH.out).cell (keys_get HKV.out t hlt))
          have cw := HW.out.cell (uv_get WL t (by rw [HWLl.out]; exact hlt))
          generalize keysL.getD t 0 = k at hstep ck
          generalize WL.getD t 0 = x at hstep cw
          have h1 := T1_int (Rd WL v t) k x hok
          have h2 := T2_int (Rd WL v t) hok
          have l1 := T1_lt (Rd WL v t) k x
          have l2 := T2_lt (Rd WL v t)
          unfold round at hstep
          generalize T1 (Rd WL v t) k x = t1 at *
          generalize T2 (Rd WL v t) = t2 at *
          generalize Rd WL v t = r at *
          obtain ⟨va, vb, vc, vd, ve, vf, vg, vh⟩ := r
          obtain ⟨o1, o2, o3, o4, o5, o6, o7, o8⟩ := hok
          dsimp only at o1 o2 o3 o4 o5 o6 o7 o8 h1 h2 hstep
          have c0 := hV.cell (o := 0) rfl
          have c1 := hV.cell (o := 1) rfl
          have c2 := hV.cell (o := 2) rfl
          have c3 := hV.cell (o := 3) rfl
          have c4 := hV.cell (o := 4) rfl
          have c5 := hV.cell (o := 5) rfl
          have c6 := hV.cell (o := 6) rfl
          have c7 := hV.cell (o := 7) rfl
          have f0 := hV.frozen
          have H1 := Lib.hid h1
          have H2 := Lib.hid h2
          have HST := Lib.hid hstep
          have HVV8 := Lib.hid hV
          clear h1 h2 hstep hV e8
          go_wp2_with fail
          refine region_tail 30 (by kernel_rfl) (by kernel_rfl) ?_
          simp only [List.take_succ_cons, List.take_zero, List.drop_succ_cons, List.drop_zero]
          repeat still_step
          still_call (rotr_calls ve 6 _ o5 (by decide) (by decide))
          repeat still_step
          still_call (rotr_calls ve 11 _ o5 (by decide) (by decide))
          repeat still_step
          still_call (rotr_calls ve 25 _ o5 (by decide) (by decide))
          repeat still_step
          refine wpStill_nil ?_
          simp only [show (if IntKind.u32.signed = true then (-1 : Int) else IntKind.u32.max) = IntKind.u32.max from rfl, H1.out]
          go_wp2_with fail
          refine region_tail 24 (by kernel_rfl) (by kernel_rfl) ?_
          simp only [List.take_succ_cons, List.take_zero, List.drop_succ_cons, List.drop_zero]
          repeat still_step
          still_call (rotr_calls va 2 _ o1 (by decide) (by decide))
          repeat still_step
          still_call (rotr_calls va 13 _ o1 (by decide) (by decide))
          repeat still_step
          still_call (rotr_calls va 22 _ o1 (by decide) (by decide))
          repeat still_step
          refine wpStill_nil ?_
          simp only [H2.out]
          have s1 : IntKind.u32.wrap ((t1 : Int) + (t2 : Int)) = (((t1 + t2) % M32 : Nat) : Int) := by simp only [IntKind.wrap_u32]; unfold M32; omega
          have s2 : IntKind.u32.wrap ((vd : Int) + (t1 : Int)) = (((vd + t1) % M32 : Nat) : Int) := by simp only [IntKind.wrap_u32]; unfold M32; omega
          generalize (t1 + t2) % M32 = y1 at *
          generalize (vd + t1) % M32 = y2 at *
          go_wp2_with fail
          have e8 := E8.out
          refine ⟨⟨t + 1, by go_num, by omega, ?_, Lib.hid (other8 _ _ _ _ _ _ _ _ HW.out (by omega)).drew.drew, Lib.hid (other8 _ _ _ _ _ _ _ _ HH.out (by omega)).drew.drew, Lib.hid (mod8 _ _ _ _ _ _ _ _ HM.out (by omega)).drew.drew⟩, by simp [intOf]; omega⟩
          have := has8 (.int .u32 (y1 : Int)) (.int .u32 (va : Int)) (.int .u32 (vb : Int)) (.int .u32 (vc : Int)) (.int .u32 (y2 : Int)) (.int .u32 (ve : Int)) (.int .u32 (vf : Int)) (.int .u32 (vg : Int)) HVV8.out rfl
          rw [show Rd WL v (t + 1) = ⟨y1, va, vb, vc, y2, ve, vf, vg⟩ from HST.out]
          exact this.drew.drew
        · have h64b : Hid (t = 64) := Lib.hid (by omega)
          have i1 : ¬ (t : Int) < 64 := by omega
          rw [h64b.out] at hV
          generalize hr : Rd WL v 64 = r at *
          have HVV8 := Lib.hid hV
          clear hV e8
          go_wp2_with fail
          have HH2 : Hid (Has wr bH (uv (addL v.list r.list 0)) 153) := Lib.hid (by rw [show addL v.list r.list 0 = v.list from rfl, HVV.out]; exact HH.out)
          have hsum := fun (i : Nat) => addL_step v.list r.list i
          have hl0 := v8_len v
          have hl1 := v8_len r
          have hall := addL_all v r
          have hgt := fun (i : Nat) => addL_get v.list r.list i i (Nat.le_refl _)
          have hlen := fun (i : Nat) => addL_len v.list r.list i
          have HSUM := Lib.hid hsum
          have HGT := Lib.hid hgt
          have HLEN := Lib.hid hlen
          have HALL := Lib.hid hall
          clear hsum hgt hlen hall
          go_loopw [14] (fun i w' => ∃ t : Nat, i = .int .i64 t ∧ t ≤ 8 ∧ Hid (Has w' nb8 (uv r.list) 153) ∧ Has w' bH (uv (addL v.list r.list t)) 153 ∧ Hid (Mod (fun k => k = bH) w3 w'))
            (fun i _ => 8 - (intOf i).toNat)
          case atStart => exact ⟨0, by go_num, by omega, HVV8, HH2.out, HM⟩
          case round =>
            obtain ⟨i, rfl, hi, HVV8, hH, HM⟩ := hrel
            by_cases hlt : i < 8
            · have i1 : (i : Int) < 8 := by omega
              have c0 := hH.cell (uv_get _ i (by rw [HLEN.out, hl0]; exact hlt))
              rw [HGT.out] at c0
              have c1 := HVV8.out.cell (uv_get _ i (by rw [hl1]; exact hlt))
              have fz := hH.frozen i
              have hst := HSUM.out i
              have hwr : IntKind.u32.wrap (((v.list.getD i 0 : Nat) : Int) + ((r.list.getD i 0 : Nat) : Int)) = (((v.list.getD i 0 + r.list.getD i 0) % M32 : Nat) : Int) := by simp only [IntKind.wrap_u32]; unfold M32; omega
              generalize v.list.getD i 0 = x0 at *
              generalize r.list.getD i 0 = x1 at *
              generalize (x0 + x1) % M32 = x2 at *
              have HS := Lib.hid (hst ▸ hH.set i (.int .u32 (x2 : Int)))
              have HWR := Lib.hid hwr
              clear hst hwr hH
              go_wp2_with fail
              refine region_tail 8 (by kernel_rfl) (by kernel_rfl) ?_
              simp only [List.take_succ_cons, List.take_zero, List.drop_succ_cons, List.drop_zero]
              repeat still_step
              refine wpStill_nil ?_
              simp only [HWR.out]
              go_wp2_with fail
              have e8 := E8.out
              go_roundw
              case rel => exact ⟨i + 1, by go_num, by omega, Lib.hid (HVV8.out.other (p := ⟨bH, i, none⟩) (by dsimp only; omega) _), HS.out, Lib.hid (HM.out.drew.setCell (p := ⟨bH, i, none⟩) (.inl rfl) _)⟩
              case measure => simp [intOf]; omega
            · have h8 : Hid (i = 8) := Lib.hid (by omega)
              have i1 : ¬ (i : Int) < 8 := by omega
              rw [h8.out, HALL.out, ← HNX.out] at hH
              have HHN := Lib.hid hH
              have hm := HMJ.out
              have hnb := HNB.out
              have hlt2 : (m : Int) + 64 ≤ 9223372036854775807 := by omega
              clear hH hm hnb
              go_wp2_with fail
              go_roundw
              case rel => exact ⟨j + 1, m + 64, by go_num, Lib.hid (by rw [HMJ.out]; omega), by omega, HHN, HM⟩
              case measure => have hm := HMJ.out; simp [intOf]; omega
    · have hm := HMJ.out
      have hnb := HNB.out
      have hj2 : j = nb := by omega
      have i1 : ¬ (m : Int) < (n : Int) := by omega
      have hjn : m = n := by omega
      rw [hj2] at HH
      clear hm hnb hjn hj2 HMJ hlt
      obtain ⟨v, hv⟩ : ∃ v, blocks P iv nb = v := ⟨_, rfl⟩
      have hok := blocks_ok P iv iv_ok nb
      rw [hv] at HH hok HSHA
      have hlb := fun (i : Nat) => getD_lt (L := v.list) (by obtain ⟨h1, h2, h3, h4, h5, h6, h7, h8⟩ := hok; intro x hx; simp only [V8.list, List.mem_cons, List.not_mem_nil, or_false] at hx; rcases hx with rfl | rfl | rfl | rfl | rfl | rfl | rfl | rfl <;> assumption) i
      have HLB := Lib.hid hlb
      have hvl := v8_len v
      obtain ⟨V, hVV⟩ : ∃ V, v.list = V := ⟨_, rfl⟩
      rw [hVV] at HH HLB HSHA hvl
      have HVl := Lib.hid hvl
      clear hok hlb hvl hVV hv
      have hsz := HM.out.size
      have hbw := HBH.out
      have HMW : Hid (Mod (fun _ => False) w wr) := Lib.hid (Mod.trans HM3.out HM.out (fun i hi h => by omega))
      have hsw := HMW.out.size
      obtain ⟨bs, hbs⟩ : ∃ x, wr.heap.size = x := ⟨_, rfl⟩
      have HBS := Lib.hid hbs
      have hHb : Hid (bH < bs) := Lib.hid (by omega)
      obtain ⟨i, hi, hz0, hz1, hz2⟩ := info_parts (P := Tryd.prog) (e := 5) (z := .int .u8 0) (size := 1) (bytes := 1) (by kernel_rfl)
      generalize wr = we at *
      clear HP HM hH3l hpb hsz hbw hK3 hH3 HPH HKH hbs HM3
      go_wp2_with (first
        | fail
        | (refine wpList_make_own _ rfl _ _ _ rfl bs 5 i _ 1 Tryd.underlying111 hi hz0 hz1 .i64 .i64 _ 32 rfl rfl (by rfl) (by rw [hz2]; omega) (by unfold maxLen; omega) (by rw [HBS.out]; exact Nat.le_refl _) ?_
           intro w1 hown1 hgr1
           have HM1 : Hid (Mod (fun _ => False) we w1) := Lib.hid (Mod.grown (Mod.refl _ _) hgr1 (fun k hk => by cases hk))))
      clear hi hz0 hz1 hz2 hgr1
      go_loopw [15, 16] (fun out i w' => ∃ (t : Nat) (acc : List UInt8), i = .int .i64 t ∧ t ≤ 8 ∧ acc.length = 4 * t ∧ Hid (acc = (V.take t).flatMap (be 4)) ∧ w'.ownsRow bs 5 1 out (4 * t) (bv acc) ∧ Hid (Mod (fun _ => False) we w')) (fun _ i _ => 8 - (intOf i).toNat)
      case atStart => exact ⟨0, [], by go_num, by omega, rfl, Lib.hid rfl, hown1, HM1⟩
      case round =>
        obtain ⟨t, acc, rfl, ht, hal, HA, hown, HM⟩ := hrel
        by_cases hlt : t < 8
        · have i1 : (t : Int) < 8 := by omega
          have hHH := HH.out.keep HM.out (fun h => h)
          have hcell := hHH.cell (uv_get V t (by rw [HVl.out]; exact hlt))
          have hx := HLB.out t
          have hacc : (V.take (t + 1)).flatMap (be 4) = acc ++ be 4 (V.getD t 0) := by
            rw [HA.out, List.take_succ_eq_append_getElem (by rw [HVl.out]; exact hlt), List.flatMap_append, List.getD_eq_getElem?_getD, List.getElem?_eq_getElem (by rw [HVl.out]; exact hlt)]; simp
          generalize V.getD t 0 = x at *
          have hcx : ∀ w', Mod (fun k => bs ≤ k) wr.drew w' → w'.cell? ⟨bH, t, none⟩ = some (.int .u32 (x : Int)) := fun w' h => by
            rw [h.cell (p := ⟨bH, t, none⟩) hHH.lt (by have := hHb.out; dsimp only; omega)]; exact hcell
          have HAC := Lib.hid hacc
          have hsz := HM.out.size
          have hbs2 : bs ≤ wr.heap.size := by rw [← HBS.out]; exact hsz
          obtain ⟨y0, y1, y2, y3, hbe, q0, q1, q2, q3⟩ := be4 x
          rw [hbe] at HAC
          have hown0 := hown.drew
          clear hacc hHH hcell hbe hx
          go_wp2_with fail
          refine region_mS (fun k => bs ≤ k) (by kernel_rfl) ?_
          simp only [List.length_cons, List.length_nil, List.replicate]
          refine take0S (v := ?v1) (oi := ?o1) 0 ?hi1 (by kernel_rfl) (by kernel_rfl) (by kernel_rfl) ?hq1 ?hy1 ?_
          case hi1 => (simp only [List.getElem?_toArray, List.getElem?_cons_zero, List.getElem?_cons_succ]; rfl)
          case hq1 => exact fun _ _ _ h => h
          case hy1 => first | (refine ry_notS ?_; rfl) | (refine ry_runS (by rfl) (fun w' hw' => ?_); go_simp; try rfl)
          simp only [Act.put, List.setIfInBounds_toArray, List.set_cons_zero, List.set_cons_succ]
          refine take0S (v := ?v2) (oi := ?o2) 1 ?hi2 (by kernel_rfl) (by kernel_rfl) (by kernel_rfl) ?hq2 ?hy2 ?_
          case hi2 => (simp only [List.getElem?_toArray, List.getElem?_cons_zero, List.getElem?_cons_succ]; rfl)
          case hq2 => exact fun _ _ _ h => h
          case hy2 => first | (refine ry_notS ?_; rfl) | (refine ry_runS (by rfl) (fun w' hw' => ?_); go_simp; try rfl)
          simp only [Act.put, List.setIfInBounds_toArray, List.set_cons_zero, List.set_cons_succ]
          refine take0S (v := ?v3) (oi := ?o3) 2 ?hi3 (by kernel_rfl) (by kernel_rfl) (by kernel_rfl) ?hq3 ?hy3 ?_
          case hi3 => (simp only [List.getElem?_toArray, List.getElem?_cons_zero, List.getElem?_cons_succ]; rfl)
          case hq3 => exact fun _ _ _ h => h
          case hy3 => first | (refine ry_notS ?_; rfl) | (refine ry_runS (by rfl) (fun w' hw' => ?_); go_simp; try rfl)
          simp only [Act.put, List.setIfInBounds_toArray, List.set_cons_zero, List.set_cons_succ]
          refine take0S (v := ?v4) (oi := ?o4) 3 ?hi4 (by kernel_rfl) (by kernel_rfl) (by kernel_rfl) ?hq4 ?hy4 ?_
          case hi4 => (simp only [List.getElem?_toArray, List.getElem?_cons_zero, List.getElem?_cons_succ]; rfl)
          case hq4 => exact fun _ _ _ h => h
          case hy4 => first | (refine ry_notS ?_; rfl) | (refine ry_runS (by rfl) (fun w' hw' => ?_); go_simp; try rfl)
          simp only [Act.put, List.setIfInBounds_toArray, List.set_cons_zero, List.set_cons_succ]
          refine take0S (v := ?v5) (oi := ?o5) 4 ?hi5 (by kernel_rfl) (by kernel_rfl) (by kernel_rfl) ?hq5 ?hy5 ?_
          case hi5 => (simp only [List.getElem?_toArray, List.getElem?_cons_zero, List.getElem?_cons_succ]; rfl)
          case hq5 => exact fun _ _ _ h => h
          case hy5 => first | (refine ry_notS ?_; rfl) | (refine ry_runS (by rfl) (fun w' hw' => ?_); go_simp; try rfl)
          simp only [Act.put, List.setIfInBounds_toArray, List.set_cons_zero, List.set_cons_succ]
          refine take0S (v := ?v6) (oi := ?o6) 5 ?hi6 (by kernel_rfl) (by kernel_rfl) (by kernel_rfl) ?hq6 ?hy6 ?_
          case hi6 => (simp only [List.getElem?_toArray, List.getElem?_cons_zero, List.getElem?_cons_succ]; rfl)
          case hq6 => exact fun _ _ _ h => h
          case hy6 => first | (refine ry_notS ?_; rfl) | (refine ry_runS (by rfl) (fun w' hw' => ?_); go_simp; try rfl)
          simp only [Act.put, List.setIfInBounds_toArray, List.set_cons_zero, List.set_cons_succ]
          refine take0S (v := ?v7) (oi := ?o7) 6 ?hi7 (by kernel_rfl) (by kernel_rfl) (by kernel_rfl) ?hq7 ?hy7 ?_
          case hi7 => (simp only [List.getElem?_toArray, List.getElem?_cons_zero, List.getElem?_cons_succ]; rfl)
          case hq7 => exact fun _ _ _ h => h
          case hy7 => first | (refine ry_notS ?_; rfl) | (refine ry_runS (by rfl) (fun w' hw' => ?_); go_simp; try rfl)
          simp only [Act.put, List.setIfInBounds_toArray, List.set_cons_zero, List.set_cons_succ]
          refine take0S (v := ?v8) (oi := ?o8) 7 ?hi8 (by kernel_rfl) (by kernel_rfl) (by kernel_rfl) ?hq8 ?hy8 ?_
          case hi8 => (simp only [List.getElem?_toArray, List.getElem?_cons_zero, List.getElem?_cons_succ]; rfl)
          case hq8 => exact fun _ _ _ h => h
          case hy8 => first | (refine ry_notS ?_; rfl) | (refine ry_runS (by rfl) (fun w' hw' => ?_); go_simp; try rfl)
          simp only [Act.put, List.setIfInBounds_toArray, List.set_cons_zero, List.set_cons_succ]
          refine take0S (v := ?v9) (oi := ?o9) 8 ?hi9 (by kernel_rfl) (by kernel_rfl) (by kernel_rfl) ?hq9 ?hy9 ?_
          case hi9 => (simp only [List.getElem?_toArray, List.getElem?_cons_zero, List.getElem?_cons_succ]; rfl)
          case hq9 => exact fun _ _ _ h => h
          case hy9 => first | (refine ry_notS ?_; rfl) | (refine ry_runS (by rfl) (fun w' hw' => ?_); go_simp; try rfl)
          simp only [Act.put, List.setIfInBounds_toArray, List.set_cons_zero, List.set_cons_succ]
          refine take0S (v := ?v10) (oi := ?o10) 9 ?hi10 (by kernel_rfl) (by kernel_rfl) (by kernel_rfl) ?hq10 ?hy10 ?_
          case hi10 => (simp only [List.getElem?_toArray, List.getElem?_cons_zero, List.getElem?_cons_succ]; rfl)
          case hq10 => exact fun _ _ _ h => h
          case hy10 => first | (refine ry_notS ?_; rfl) | (refine ry_runS (by rfl) (fun w' hw' => ?_); go_simp; try rfl)
          simp only [Act.put, List.setIfInBounds_toArray, List.set_cons_zero, List.set_cons_succ]
          refine take0S (v := ?v11) (oi := ?o11) 10 ?hi11 (by kernel_rfl) (by kernel_rfl) (by kernel_rfl) ?hq11 ?hy11 ?_
          case hi11 => (simp only [List.getElem?_toArray, List.getElem?_cons_zero, List.getElem?_cons_succ]; rfl)
          case hq11 => exact fun _ _ _ h => h
          case hy11 => first | (refine ry_notS ?_; rfl) | (refine ry_runS (by rfl) (fun w' hw' => ?_); go_simp; try rfl)
          simp only [Act.put, List.setIfInBounds_toArray, List.set_cons_zero, List.set_cons_succ]
          refine take0S (v := ?v12) (oi := ?o12) 11 ?hi12 (by kernel_rfl) (by kernel_rfl) (by kernel_rfl) ?hq12 ?hy12 ?_
          case hi12 => (simp only [List.getElem?_toArray, List.getElem?_cons_zero, List.getElem?_cons_succ]; rfl)
          case hq12 => exact fun _ _ _ h => h
          case hy12 => first | (refine ry_notS ?_; rfl) | (refine ry_runS (by rfl) (fun w' hw' => ?_); go_simp; try rfl)
          simp only [Act.put, List.setIfInBounds_toArray, List.set_cons_zero, List.set_cons_succ]
          refine take0S (v := ?v13) (oi := ?o13) 12 ?hi13 (by kernel_rfl) (by kernel_rfl) (by kernel_rfl) ?hq13 ?hy13 ?_
          case hi13 => (simp only [List.getElem?_toArray, List.getElem?_cons_zero, List.getElem?_cons_succ]; rfl)
          case hq13 => exact fun _ _ _ h => h
          case hy13 => first | (refine ry_notS ?_; rfl) | (refine ry_runS (by rfl) (fun w' hw' => ?_); go_simp; try rfl)
          simp only [Act.put, List.setIfInBounds_toArray, List.set_cons_zero, List.set_cons_succ]
          refine take0S (v := ?v14) (oi := ?o14) 13 ?hi14 (by kernel_rfl) (by kernel_rfl) (by kernel_rfl) ?hq14 ?hy14 ?_
          case hi14 => (simp only [List.getElem?_toArray, List.getElem?_cons_zero, List.getElem?_cons_succ]; rfl)
          case hq14 => exact fun _ _ _ h => h
          case hy14 => first | (refine ry_notS ?_; rfl) | (refine ry_runS (by rfl) (fun w' hw' => ?_); go_simp; try rfl)
          simp only [Act.put, List.setIfInBounds_toArray, List.set_cons_zero, List.set_cons_succ]
          refine take0S (v := ?v15) (oi := ?o15) 14 ?hi15 (by kernel_rfl) (by kernel_rfl) (by kernel_rfl) ?hq15 ?hy15 ?_
          case hi15 => (simp only [List.getElem?_toArray, List.getElem?_cons_zero, List.getElem?_cons_succ]; rfl)
          case hq15 => exact fun _ _ _ h => h
          case hy15 => first | (refine ry_notS ?_; rfl) | (refine ry_runS (by rfl) (fun w' hw' => ?_); go_simp; try rfl)
          simp only [Act.put, List.setIfInBounds_toArray, List.set_cons_zero, List.set_cons_succ]
          refine take0S (v := ?v16) (oi := ?o16) 15 ?hi16 (by kernel_rfl) (by kernel_rfl) (by kernel_rfl) ?hq16 ?hy16 ?_
          case hi16 => (simp only [List.getElem?_toArray, List.getElem?_cons_zero, List.getElem?_cons_succ]; rfl)
          case hq16 => exact fun _ _ _ h => h
          case hy16 => first | (refine ry_notS ?_; rfl) | (refine ry_runS (by rfl) (fun w' hw' => ?_); go_simp; try rfl)
          simp only [Act.put, List.setIfInBounds_toArray, List.set_cons_zero, List.set_cons_succ]
          refine take0S (v := ?v17) (oi := ?o17) 16 ?hi17 (by kernel_rfl) (by kernel_rfl) (by kernel_rfl) ?hq17 ?hy17 ?_
          case hi17 => (simp only [List.getElem?_toArray, List.getElem?_cons_zero, List.getElem?_cons_succ]; rfl)
          case hq17 => exact fun _ _ _ h => h
          case hy17 => first | (refine ry_notS ?_; rfl) | (refine ry_runS (by rfl) (fun w' hw' => ?_); go_simp; try rfl)
          simp only [Act.put, List.setIfInBounds_toArray, List.set_cons_zero, List.set_cons_succ]
          refine take0S (v := ?v18) (oi := ?o18) 17 ?hi18 (by kernel_rfl) (by kernel_rfl) (by kernel_rfl) ?hq18 ?hy18 ?_
          case hi18 => (simp only [List.getElem?_toArray, List.getElem?_cons_zero, List.getElem?_cons_succ]; rfl)
          case hq18 => exact fun _ _ _ h => h
          case hy18 => first | (refine ry_notS ?_; rfl) | (refine ry_runS (by rfl) (fun w' hw' => ?_); go_simp; try rfl)
          simp only [Act.put, List.setIfInBounds_toArray, List.set_cons_zero, List.set_cons_succ]
          refine take0S (v := ?v19) (oi := ?o19) 18 ?hi19 (by kernel_rfl) (by kernel_rfl) (by kernel_rfl) ?hq19 ?hy19 ?_
          case hi19 => (simp only [List.getElem?_toArray, List.getElem?_cons_zero, List.getElem?_cons_succ]; rfl)
          case hq19 => exact fun _ _ _ h => h
          case hy19 => first | (refine ry_notS ?_; rfl) | (refine ry_runS (by rfl) (fun w' hw' => ?_); go_simp; try rfl)
          simp only [Act.put, List.setIfInBounds_toArray, List.set_cons_zero, List.set_cons_succ]
          refine take0S (v := ?v20) (oi := ?o20) 19 ?hi20 (by kernel_rfl) (by kernel_rfl) (by kernel_rfl) ?hq20 ?hy20 ?_
          case hi20 => (simp only [List.getElem?_toArray, List.getElem?_cons_zero, List.getElem?_cons_succ]; rfl)
          case hq20 => exact fun _ _ _ h => h
          case hy20 => first | (refine ry_notS ?_; rfl) | (refine ry_runS (by rfl) (fun w' hw' => ?_); go_simp; try rfl)
          simp only [Act.put, List.setIfInBounds_toArray, List.set_cons_zero, List.set_cons_succ]
          refine step0S (o := ?o21) 20 (by kernel_rfl) ?hi21 ?hw21 ?_
          case hi21 => (simp only [List.getElem?_toArray, List.getElem?_cons_zero, List.getElem?_cons_succ]; rfl)
          case hw21 => rfl
          go_simp
          refine ⟨.inl (Mod.alloc (Mod.refl _ wr.drew) _), ?_⟩
          refine step0S (o := ?o22) 21 (by kernel_rfl) ?hi22 ?hw22 ?_
          case hi22 => (simp only [List.getElem?_toArray, List.getElem?_cons_zero, List.getElem?_cons_succ]; rfl)
          case hw22 => rfl
          refine app_step _ _ bytes_t bs _ (4 * t) (bv acc) (hown0.alloc (.cells #[.int .u8 y0.toNat, .int .u8 y1.toNat, .int .u8 y2.toNat, .int .u8 y3.toNat] 5)) ⟨wr.heap.size, 0, none⟩ 4 4 (bv [y0, y1, y2, y3]) rfl rfl rfl rfl (fun j u hj => by rw [Addr.add_lit, Nat.zero_add]; exact (Has.new wr.drew (bv [y0, y1, y2, y3]) 5).cell hj) (bv_one _) (by omega) (by unfold maxLen; omega) (by simp; omega) ?_
          intro v4 w4 hown4 hm4
          refine ⟨.inl (Mod.mono hm4 (fun _ _ h => h.1)), ?_⟩
          simp only [Act.put, List.setIfInBounds_toArray, List.set_cons_zero, List.set_cons_succ]
          refine take0S (v := ?v23) (oi := ?o23) 22 ?hi23 (by kernel_rfl) (by kernel_rfl) (by kernel_rfl) ?hq23 ?hy23 ?_
          case hi23 => (simp only [List.getElem?_toArray, List.getElem?_cons_zero, List.getElem?_cons_succ]; rfl)
          case hq23 => exact fun _ _ _ h => h
          case hy23 => first | (refine ry_notS ?_; rfl) | (refine ry_runS (by rfl) (fun w' hw' => ?_); go_simp; try rfl)
          simp only [Act.put, List.setIfInBounds_toArray, List.set_cons_zero, List.set_cons_succ]
          refine wpAnyM_done (by kernel_rfl) ?_
          go_simp
          have HO4 := Lib.hid hown4
          have HM4 : Hid (Mod (fun _ => False) we w4) := Lib.hid (Mod.trans (Mod.alloc HM.out.drew _) hm4 (fun i hi ⟨h, _⟩ => absurd h (by rw [← HBS.out]; omega)))
          clear hown4 hm4 hown hown0 hcx
          go_wp2_with fail
          go_roundw
          case rel => exact ⟨t + 1, acc ++ [y0, y1, y2, y3], by go_num, by omega, by rw [List.length_append, hal]; simp; omega, Lib.hid HAC.out.symm, by rw [bv_append, show 4 * (t + 1) = 4 * t + 4 by omega]; exact HO4.out, HM4⟩
          case measure => simp [intOf]; omega
        · have h8 : t = 8 := by omega
          have i1 : ¬ (t : Int) < 8 := by omega
          have hsha : acc = sha l := by rw [HA.out, h8, List.take_of_length_le (by rw [HVl.out]; omega)]; exact HSHA.out.symm
          have h32 : 4 * t = 32 := by omega
          rw [h32, hsha] at hown
          have HO := Lib.hid (own_base hown (by rw [← HBS.out]; exact hsw))
          clear h8 hsha h32 hown hal
          go_wp2_with fail
          go_ret
          exact ⟨_, rfl, HO.out, Mod.trans HMW.out HM.out (fun _ _ h => h)⟩
end Hash
end Go.Proofs.YtpoljpjcmigobaaDoor
