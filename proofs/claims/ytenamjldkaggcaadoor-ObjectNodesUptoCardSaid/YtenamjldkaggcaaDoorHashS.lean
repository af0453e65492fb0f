/- The walk of hash.Sum. -/
import Derived.Test.YtenamjldkaggcaaDoorHashM
import Derived.Test.YtenamjldkaggcaaDoorHashN
import Derived.Test.YtenamjldkaggcaaDoorShelf
import Derived.Test.YtenamjldkaggcaaDoorKb
namespace Go.Proofs.YtenamjldkaggcaaDoor
set_option linter.unusedVariables false
set_option linter.unusedSimpArgs false
open Go.RowKit K
namespace Hash

set_option maxRecDepth 100000 in
theorem bytes_t : SliceT Tryd.prog 75 5 1 1 := ⟨Tryd.underlying75, by decide, _, .int .u8 0, rfl, rfl, rfl, rfl, rfl⟩

def flat (ps : List ByteArray) : List UInt8 := ps.flatMap fun p => p.data.toList

theorem join_empty : ∀ (xs : List (List UInt8)), Lib.join xs [] = xs.flatten
  | [] => rfl
  | x :: r => by
    rw [Lib.join_cons]
    simp [Lib.joinTail]
theorem repeat_zero : ∀ (n : Nat), Lib.repeatL [0] n = List.replicate n 0
  | 0 => rfl
  | n + 1 => by
    have := repeat_zero n
    simp only [Lib.repeatL, this, List.replicate_succ]; rfl

theorem join_calls (A : Option Addr) (c : Nat) (ps : List ByteArray) (w : World) (hA : Cells w A (ps.map .string)) (hc : ps.length ≤ c) (hn : ps.length ≤ 1048576) (hl : (flat ps).length ≤ 1048576) :
    Calls Tryd.prog 93 #[.slice A ps.length c, .string ⟨#[]⟩] w fun e w' => e = .returned (.string ⟨(flat ps).toArray⟩) ∧ Mod (fun _ => False) w w' := by
  rcases hA with h | ⟨b, o, rfl, hcell⟩
  · have hps : ps = [] := by simpa using h
    subst hps
    refine (Tryd.strings_Join_none A c ⟨#[]⟩ w).mono ?_
    rintro e w' ⟨rfl, rfl⟩
    exact ⟨rfl, Mod.refl _ _⟩
  · cases ps with
    | nil =>
      refine (Tryd.strings_Join_none _ c ⟨#[]⟩ w).mono ?_
      rintro e w' ⟨rfl, rfl⟩
      exact ⟨rfl, Mod.refl _ _⟩
    | cons p ps =>
      have c0 := hcell 0 (.string p) rfl
      have hj : Lib.join ((p :: ps).map (·.data.toList)) [] = flat (p :: ps) := by rw [join_empty]; rfl
      have h := Tryd.strings_Join b o c (p :: ps) ⟨#[]⟩ w (fun j x hx => hcell j _ (by rw [List.getElem?_map, hx]; rfl)) (World.block_lt_of_cell? w _ c0) (by omega) hc (by rw [show (⟨#[]⟩ : ByteArray).data.toList = [] from rfl, hj]; omega)
      rw [show (⟨#[]⟩ : ByteArray).data.toList = [] from rfl, hj] at h
      refine h.mono ?_
      rintro e w' ⟨rfl, hb⟩
      exact ⟨rfl, Mod.of_below hb⟩

theorem zeros_calls (n : Nat) (w : World) (hn : n ≤ 64) :
    Calls Tryd.prog 98 #[.string ⟨#[0]⟩, .int .i64 n] w fun e w' => e = .returned (.string ⟨(List.replicate n (0 : UInt8)).toArray⟩) ∧ Mod (fun _ => False) w w' := by
  have h := Tryd.strings_Repeat ⟨#[0]⟩ n w (by omega) (by simp [ByteArray.size]; omega)
  rw [show (⟨#[0]⟩ : ByteArray).data.toList = [0] from rfl, repeat_zero] at h
  refine h.mono ?_
  rintro e w' ⟨rfl, hb⟩
  exact ⟨rfl, Mod.of_below hb⟩

theorem cat_b (l m : List UInt8) : ((⟨l.toArray⟩ : ByteArray) ++ (⟨m.toArray⟩ : ByteArray)) = ⟨(l ++ m).toArray⟩ := by
  apply ByteArray.ext; simp
theorem size_b (l : List UInt8) : (⟨l.toArray⟩ : ByteArray).size = l.length := by simp [ByteArray.size]

theorem Keys.keep {S : Nat → Prop} {w w' : World} (h : Keys w) (m : Mod S w w') (hs : ¬ S 0) : Keys w' := by
  obtain ⟨T, fr, h⟩ := h
  exact ⟨T, fr, by rw [m.block _ (heap_lt h) hs]; exact h⟩

def strSize : Value → Nat
  | .string s => s.size
  | _ => 0
theorem strSize_b (l : List UInt8) : strSize (.string ⟨l.toArray⟩) = l.length := size_b l
theorem upto64 (R : List UInt8) (h : 64 ≤ R.length) (w' : World) : (Instr.slice 9 (.string ⟨R.toArray⟩) none (some (.int .i64 64)) none).run Tryd.prog w' = .ok (.string ⟨(R.take 64).toArray⟩) w' := by
  rw [run_slice_string_to_if w' 9 ⟨R.toArray⟩ .i64 64 Tryd.underlying9, if_pos (by rw [size_b]; omega)]
  congr 2
  apply ByteArray.ext
  apply Array.toList_inj.1
  simp [ByteArray.data_extract, List.extract]
theorem from64 (R : List UInt8) (h : 64 ≤ R.length) (w' : World) : (Instr.slice 9 (.string ⟨R.toArray⟩) (some (.int .i64 64)) none none).run Tryd.prog w' = .ok (.string ⟨(R.drop 64).toArray⟩) w' := by
  rw [run_slice_string_from_if w' 9 ⟨R.toArray⟩ .i64 64 Tryd.underlying9, if_pos (by rw [size_b]; omega)]
  congr 2
  apply ByteArray.ext
  apply Array.toList_inj.1
  simp [ByteArray.data_extract, List.extract, size_b]
  exact List.take_of_length_le (by simp)

set_option maxRecDepth 100000 in
set_option maxHeartbeats 4000000 in
theorem sum_calls (A : Option Addr) (c : Nat) (ps : List ByteArray) (w : World) (hK : Keys w) (hA : Cells w A (ps.map .string)) (hc : ps.length ≤ c) (hn : ps.length ≤ 1048576) (hl : (flat ps).length ≤ 1048576) :
    Calls Tryd.prog 92 #[.slice A ps.length c] w fun e w' => e = .returned (.string ⟨(sha (flat ps)).toArray⟩) ∧ Mod (fun _ => False) w w' := by
  have HJ := Lib.hid (join_calls A c ps w hA hc hn hl)
  have HK := Lib.hid hK
  clear hK hA
  obtain ⟨L, hL⟩ : ∃ L, flat ps = L := ⟨_, rfl⟩
  rw [hL] at HJ hl ⊢
  clear hL
  have hsz := size_b L
  obtain ⟨z, hz⟩ : ∃ z, (119 - L.length % 64) % 64 = z := ⟨_, rfl⟩
  have hz64 : z ≤ 64 := by omega
  go_enter Tryd.func92, Tryd.ntmps92
  go_wp2_with fail
  refine HJ.out.mono ?_
  rintro e w1 ⟨rfl, hm1⟩
  have HM1 := Lib.hid hm1
  clear hm1 HJ
  go_wp2_with fail
  rw [show (119 - (L.length : Int)) % 64 = (z : Int) by omega]
  refine (zeros_calls z _ hz64).mono ?_
  rintro e w2 ⟨rfl, hm2⟩
  have HM2 := Lib.hid (Mod.trans HM1.out hm2 (fun _ _ h => h))
  have hcat1 : (⟨#[128]⟩ : ByteArray) ++ (⟨(List.replicate z (0 : UInt8)).toArray⟩ : ByteArray) = ⟨((128 : UInt8) :: List.replicate z 0).toArray⟩ := cat_b [128] _
  obtain ⟨Z, hZ⟩ : ∃ Z, List.replicate z (0 : UInt8) = Z := ⟨_, rfl⟩
  have hZl : Z.length = z := by rw [← hZ, List.length_replicate]
  rw [hZ] at hcat1 ⊢
  clear hm2 HM1
  have hno : ¬ (9223372036854775807 < 1 + Z.length) := by omega
  go_wp2_with fail
  rw [show 8 * (L.length : Int) = ((8 * L.length : Nat) : Int) by omega]
  refine (number_calls (8 * L.length) 8 _ (by omega) (by omega)).mono ?_
  rintro e w3 ⟨rfl, hh, hm3⟩
  have HM3 := Lib.hid (Mod.trans HM2.out hm3 (fun _ _ h => h))
  have hB : Cells w3 (some ⟨w2.heap.size, 0, none⟩) (bv (be 8 (8 * L.length))) := .inr ⟨_, 0, rfl, fun j u hj => by rw [Nat.zero_add]; exact hh.cell hj⟩
  have hcv := run_bytes (P := Tryd.prog) 8 hB 75 9 5 Tryd.underlying75 Tryd.underlying5 Tryd.underlying9
  rw [be_len] at hcv
  have hpad : L ++ ((128 : UInt8) :: Z ++ be 8 (8 * L.length)) = pad L := by unfold pad; rw [hz, hZ]
  have hbl := be_len 8 (8 * L.length)
  generalize be 8 (8 * L.length) = B at *
  have hcat2 := cat_b ((128 : UInt8) :: Z) B
  have hcat3 := cat_b L ((128 : UInt8) :: (Z ++ B))
  rw [← List.cons_append] at hcat3
  have hpl : (pad L).length = L.length + (1 + z + 8) := by rw [← hpad]; simp; omega
  rw [hpad, List.cons_append] at hcat3
  have hsz2 := size_b ((128 : UInt8) :: Z)
  have hsz3 := size_b B
  have hsz4 := size_b ((128 : UInt8) :: Z ++ B)
  have hno2 : ¬ (9223372036854775807 < ((128 : UInt8) :: Z).length + B.length) := by simp; omega
  have hno3 : ¬ (9223372036854775807 < L.length + ((128 : UInt8) :: Z ++ B).length) := by simp; omega
  clear hm3 hB HM2 hh hpad
  go_wp2_with fail
  obtain ⟨P, hP⟩ : ∃ P, pad L = P := ⟨_, rfl⟩
  rw [hP] at hcat3 hpl
  obtain ⟨nb, hnb⟩ : ∃ nb, P.length = 64 * nb := ⟨P.length / 64, by omega⟩
  have hHn := Has.new w3 (uv iv.list) 142
  obtain ⟨bS, hbS⟩ : ∃ b, w3.heap.size = b := ⟨_, rfl⟩
  have hbw : w.heap.size ≤ bS := by have := HM3.out.size; omega
  simp only [hbS] at hHn
  have HH0 := Lib.hid hHn
  have HM4 := Lib.hid (Mod.alloc HM3.out (.cells (uv iv.list).toArray 142))
  clear hHn HM3
  go_wp2_with fail
  simp only [hcat3, hbS]
  go_loopw [3] (fun s3 w' => ∃ (j : Nat) (R : List UInt8), s3 = .string ⟨R.toArray⟩ ∧ j ≤ nb ∧ Hid (R = P.drop (64 * j)) ∧ Hid (Has w' bS (uv (blocks P iv j).list) 142) ∧ Hid (Mod (fun _ => False) w w')) (fun s _ => strSize s)
  case atStart => exact ⟨0, P, by rw [hP], by omega, Lib.hid rfl, HH0, HM4⟩
  case round =>
    obtain ⟨j, R, rfl, hj, HR, HH, HM⟩ := hrel
    have hRl : R.length = 64 * nb - 64 * j := by rw [HR.out, List.length_drop]; omega
    by_cases hlt : j < nb
    · have hne : (R == []) = false := by cases R with | nil => simp at hRl; omega | cons x r => rfl
      go_wp2_with fail
      have h64 : 64 ≤ R.length := by omega
      have hu := upto64 R h64
      have hf := from64 R h64
      have htk : R.take 64 = (P.drop (64 * j)).take 64 := by rw [HR.out]
      have hdr : R.drop 64 = P.drop (64 * (j + 1)) := by rw [HR.out, List.drop_drop]; congr 1
      have hstep : blocks P iv (j + 1) = mixV (blocks P iv j) (R.take 64) := by rw [htk]; rfl
      have hok := blocks_ok P iv iv_ok j
      have htl : (⟨(R.take 64).toArray⟩ : ByteArray).size = 64 := by rw [size_b, List.length_take]; omega
      have hv := HH.out
      have hdl : (⟨(R.take 64).toArray⟩ : ByteArray).data.toList = R.take 64 := rfl
      have hrl2 : (R.drop 64).length = R.length - 64 := List.length_drop ..
      generalize R.take 64 = X at *
      generalize R.drop 64 = Y at *
      obtain ⟨r, hr⟩ : ∃ r, blocks P iv (j + 1) = r := ⟨_, rfl⟩
      rw [hr] at hstep
      generalize blocks P iv j = v at *
      have hmx := mix_calls v ⟨X.toArray⟩ wr.drew (HK.out.keep HM.out.drew (fun h => h)) hok htl
      rw [hdl, ← hstep] at hmx
      obtain ⟨v0, v1, v2, v3, v4, v5, v6, v7⟩ := v
      obtain ⟨r0, r1, r2, r3, r4, r5, r6, r7⟩ := r
      have c0 := hv.cell (o := 0) rfl
      have c1 := hv.cell (o := 1) rfl
      have c2 := hv.cell (o := 2) rfl
      have c3 := hv.cell (o := 3) rfl
      have c4 := hv.cell (o := 4) rfl
      have c5 := hv.cell (o := 5) rfl
      have c6 := hv.cell (o := 6) rfl
      have c7 := hv.cell (o := 7) rfl
      have HMX := Lib.hid hmx
      have HDR := Lib.hid hdr
      have HRR := Lib.hid hr
      clear hmx htk hdr hstep hok htl hdl hv hr
      go_wp2_with fail
      refine region_tail 3 (by kernel_rfl) (by kernel_rfl) ?_
      simp only [List.take_succ_cons, List.take_zero, List.drop_succ_cons, List.drop_zero]
      repeat still_step
      refine wpStill_nil ?_
      go_wp2_with fail
      refine HMX.out.mono ?_
      rintro e w5 ⟨rfl, hm5⟩
      have hh5 := (HH.out.drew).keep hm5 (fun h => h)
      have d0 := hh5.cell (o := 0) rfl
      have d1 := hh5.cell (o := 1) rfl
      have d2 := hh5.cell (o := 2) rfl
      have d3 := hh5.cell (o := 3) rfl
      have d4 := hh5.cell (o := 4) rfl
      have d5 := hh5.cell (o := 5) rfl
      have d6 := hh5.cell (o := 6) rfl
      have d7 := hh5.cell (o := 7) rfl
      have fz := hh5.frozen
      have HS := Lib.hid (has8 (.int .u32 (r0 : Int)) (.int .u32 (r1 : Int)) (.int .u32 (r2 : Int)) (.int .u32 (r3 : Int)) (.int .u32 (r4 : Int)) (.int .u32 (r5 : Int)) (.int .u32 (r6 : Int)) (.int .u32 (r7 : Int)) hh5 rfl)
      have HM5 := Lib.hid (Mod.trans HM.out.drew hm5 (fun _ _ h => h))
      simp only [uv, V8.list, List.map_cons, List.map_nil]
      clear hh5 hm5 c0 c1 c2 c3 c4 c5 c6 c7
      go_wp2_with fail
      go_roundw
      case rel => exact ⟨j + 1, by omega, HDR, Lib.hid (by rw [HRR.out]; exact HS.out), Lib.hid (mod8 _ _ _ _ _ _ _ _ HM5.out hbw)⟩
      case measure => first | (simp only [strSize_b]; omega) | (simp [strSize, size_b]; omega) | (trace_state; omega)
    · have hj2 : j = nb := by omega
      have hne : (R == []) = true := by cases R with | nil => rfl | cons x r => simp at hRl; omega
      have HV := Lib.hid (hj2 ▸ HH.out)
      have hsha : (blocks P iv nb).list.flatMap (be 4) = sha L := by unfold sha; rw [hP, hnb, Nat.mul_div_cancel_left _ (by decide)]
      have hok := blocks_ok P iv iv_ok nb
      generalize blocks P iv nb = v at *
      have HSH := Lib.hid hsha
      clear hsha HH hj2
      have HKI := Lib.hid (fun (t : Nat) (h : t < 8) (w' : World) => index_word v.list t 8 142 Tryd.underlying142 h h w')
      have hF : wr.heap[bS]? = some (.cells (uv v.list).toArray 142 (0, 0)) := HV.out
      have hlb := fun (i : Nat) => getD_lt (L := v.list) (by obtain ⟨h1, h2, h3, h4, h5, h6, h7, h8⟩ := hok; intro x hx; simp only [V8.list, List.mem_cons, List.not_mem_nil, or_false] at hx; rcases hx with rfl | rfl | rfl | rfl | rfl | rfl | rfl | rfl <;> assumption) i
      have HLB := Lib.hid hlb
      have hvl := v8_len v
      obtain ⟨V, hVV⟩ : ∃ V, v.list = V := ⟨_, rfl⟩
      rw [hVV] at HKI HLB hF HSH hvl
      have hVs : (uv V).toArray.size = 8 := by simp [uv_len, hvl]
      generalize (uv V).toArray = VA at *
      clear hlb hVV HV hok
      go_wp2_with (first
        | fail
        | (refine wpList_load_row rfl 142 (.tmp 5) rfl bS rfl 142 VA (0, 0) _ hF Tryd.underlying142 rfl ?hi ?_))
      case hi => rw [hVs]; rfl
      go_loopw [6, 38] (fun out i w' => ∃ (t : Nat) (acc : List UInt8), i = .int .i64 t ∧ t ≤ 8 ∧ acc.length = 4 * t ∧ Hid (acc = (V.take t).flatMap (be 4)) ∧ w'.ownsRow w.heap.size 5 1 out acc.length (bv acc) ∧ Hid (Mod (fun _ => False) w w')) (fun _ i _ => 8 - (intOf i).toNat)
      case atStart => exact ⟨0, [], by go_num, by omega, rfl, Lib.hid rfl, World.ownsRow_nil _ _ _ _, HM⟩
      case round =>
        obtain ⟨t, acc, rfl, ht, hal, HA, hown, HM⟩ := hrel
        by_cases hlt : t < 8
        · have i1 : (t : Int) < 8 := by omega
          have hki := HKI.out t hlt
          have hx := HLB.out t
          have hacc : (V.take (t + 1)).flatMap (be 4) = acc ++ be 4 (V.getD t 0) := by
            rw [HA.out, List.take_succ_eq_append_getElem (by omega), List.flatMap_append, List.getD_eq_getElem?_getD, List.getElem?_eq_getElem (by omega)]; simp
          generalize V.getD t 0 = x at *
          have hcv : IntKind.u64.wrap (x : Int) = (x : Int) := by simp only [IntKind.wrap_u64]; unfold M32 at hx; omega
          have hbl := be_len 4 x
          have hnc := fun w => number_calls x 4 w (by unfold M32 at hx; omega) (by omega)
          generalize be 4 x = bx at *
          have HNC := Lib.hid hnc
          have HAC := Lib.hid hacc
          have hsz := HM.out.size
          clear hnc hacc
          go_wp2_with fail
          refine (HNC.out _).mono ?_
          rintro e w5 ⟨rfl, hh, hm5⟩
          have hown5 := own_keep hown hm5 (fun _ _ _ h => h)
          have hsz5 := hm5.size
          have HM5 := Lib.hid (Mod.trans HM.out hm5 (fun _ _ h => h))
          have HH5 := Lib.hid hh
          clear hown hm5 hh HM
          go_wp2_with (first
            | fail
            | (at_builtin
               go_must (refine app _ _ bytes_t w.heap.size _ _ _ hown5 ⟨wr.heap.size, 0, none⟩ 4 4 (bv bx) rfl rfl rfl rfl (by rw [bv_length, hbl]) (fun j u hj => by rw [Addr.add_lit, Nat.zero_add]; exact HH5.out.cell hj) (bv_one _) (by omega) (by unfold maxLen; omega) (by omega) ?_; intro v6 w6 hown6 hm6)))
          go_roundw
          case rel => exact ⟨t + 1, acc ++ bx, by go_num, by omega, by rw [List.length_append]; omega, Lib.hid HAC.out.symm, by rw [bv_append, List.length_append, hbl]; exact hown6, Lib.hid (Mod.trans HM5.out hm6 (fun i hi ⟨h, _⟩ => absurd h (by omega)))⟩
          case measure => simp [intOf]; omega
        · have h8 : t = 8 := by omega
          have i1 : ¬ (t : Int) < 8 := by omega
          have hsha : acc = sha L := by rw [HA.out, h8, List.take_of_length_le (by omega)]; exact HSH.out
          obtain ⟨A9, c9, rfl, hc9, hA9, -, -⟩ := own_cells hown
          have hcv9 := run_bytes (P := Tryd.prog) c9 hA9 75 9 5 Tryd.underlying75 Tryd.underlying5 Tryd.underlying9
          have HSA := Lib.hid hsha
          clear hown hA9 hsha h8 hal
          go_wp2_with fail
          go_ret
          rw [← HSA.out]
          exact ⟨rfl, HM.out⟩
end Hash
end Go.Proofs.YtenamjldkaggcaaDoor
