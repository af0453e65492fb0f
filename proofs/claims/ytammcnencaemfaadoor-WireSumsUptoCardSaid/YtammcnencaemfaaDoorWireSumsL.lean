import Derived.Test.YtammcnencaemfaaDoorWireS
import Derived.Test.YtammcnencaemfaaDoorWireN
import Derived.Test.YtammcnencaemfaaDoorKp
import Derived.Test.YtammcnencaemfaaDoorKr
import Derived.Deep.Cut
import Derived.Laws.AppendOwnNone
namespace Go.Proofs.YtammcnencaemfaaDoor
open Go.RowKit K
namespace Wire

/-- append(v, part...), v the call's own -/
theorem app_part {w : World} {ops : Array Oper} {rest : List Oper} {o : Oper} {a : Act} {Q : Exit → Act → World → Prop} (s x : Operand)
    (base : Nat) (v : Value) (xs m : List UInt8) (B : Option Addr) (cb : Nat) (hown : w.ownsRow base 5 1 v xs.length (bv xs)) (hB : BytesIn w B cb m)
    (hgd : o.guard = none) (ho : o.op = .call { callee := .builtin .append, args := #[s, x], argTypes := #[22, 22] })
    (hs : a.eval s = v) (hx : a.eval x = .slice B m.length cb) (hb : xs.length + m.length ≤ 140737488355328) (hbase : base ≤ w.heap.size)
    (h : ∀ v' w', w'.ownsRow base 5 1 v' (xs ++ m).length (bv (xs ++ m)) → Mod (fun k => base ≤ k) w w' → wpList Tryd.prog ops Q rest (a.put o.dst v') w') : wpList Tryd.prog ops Q (o :: rest) a w := by
  cases B with
  | none =>
    have hm := hB.nil rfl
    subst hm
    have hc : cb = 0 := by rcases hB.adr with h | ⟨b, o, h⟩; exact h; cases h
    subst hc
    obtain ⟨ht, hsz, i, z, hi, hz, hsize, hby, hzs⟩ := bytes_t
    exact wpList_append_own_none hgd s x _ ho base 5 i 1 ht hi v _ _ hs hown hx (h v w (by simpa using hown) (Mod.refl _ _))
  | some ad =>
    refine app s x bytes_t base v xs.length (bv xs) hown ad m.length cb (bv m) hgd ho hs hx (by rw [bv_length]; omega) (fun j u hj => ?_) (bv_one m) (by omega) (by unfold maxLen; omega) hbase fun v' w' h1 h2 => h v' w' ?_ (Mod.mono h2 (fun i _ h => h.1))
    · rcases hB.cells with h | ⟨b, o, h, hc⟩
      · rw [h] at hj; simp at hj
      · obtain rfl := Option.some.inj h
        rw [Addr.add_lit]; exact hc j u hj
    · rw [bv_append, List.length_append]; exact h1

theorem own_row {w : World} {base : Nat} {v : Value} {xs : List UInt8} (h : w.ownsRow base 5 1 v xs.length (bv xs)) (hx : 0 < xs.length) :
    ∃ g cap rest, v = .slice (some ⟨g, 0, none⟩) xs.length cap ∧ base ≤ g ∧ Has w g (bv xs ++ rest) 5 ∧ xs.length ≤ cap ∧ cap ≤ maxLen := by
  obtain ⟨h1, ⟨hv, hn⟩ | ⟨g, cap, cur, hv, hg, hh, hc, hm, hs, ht⟩⟩ := h
  · omega
  · refine ⟨g, cap, cur.toList.drop xs.length, hv, hg, ?_, hc, hm⟩
    unfold Has
    rw [hh, ← ht, Nat.mul_one, List.take_append_drop]

theorem part_mem {ps : List (Option Addr × Nat × List UInt8)} {k : Nat} (h : k < ps.length) : (ps[k].2.2).length ≤ (ps.flatMap fun p => p.2.2).length := by
  rw [List.length_flatMap]
  exact K.le_sum _ (List.mem_map.2 ⟨ps[k], List.getElem_mem h, rfl⟩)

theorem mod_step1 (D i : Nat) (h : D / 2 ^ i % 2 = 1) : D % 2 ^ (i + 1) = (D % 2 ^ i) ^^^ 2 ^ i := by
  apply Nat.eq_of_testBit_eq
  intro j
  have hb : D.testBit i = true := by rw [Nat.testBit_eq_decide_div_mod_eq]; simpa using h
  rw [Nat.testBit_xor, Nat.testBit_mod_two_pow, Nat.testBit_mod_two_pow, Nat.testBit_two_pow]
  rcases Nat.lt_trichotomy j i with h1 | h1 | h1
  · have e1 : j < i + 1 := by omega
    have e2 : ¬ i = j := by omega
    simp [h1, e1, e2]
  · subst h1; simp [hb]
  · have e1 : ¬ j < i + 1 := by omega
    have e2 : ¬ i = j := by omega
    have e3 : ¬ j < i := by omega
    simp [e1, e2, e3]
theorem mod_step0 (D i : Nat) (h : D / 2 ^ i % 2 = 0) : D % 2 ^ (i + 1) = (D % 2 ^ i) := by
  rw [Nat.pow_succ, Nat.mod_mul, h]; simp
theorem u8_pow : ∀ r : Fin 8, IntKind.u8.wrap (2 ^ min r.val 8) = ((2 ^ r.val : Nat) : Int) ∧ 2 ^ r.val < 256 := by decide

theorem step_num {xs L : List UInt8} {p0 D i k : Nat} {y x : UInt8} (hN : num L = num xs ^^^ 2 ^ p0 * (D % 2 ^ i)) (hk : k = p0 + i) (hkl : k / 8 < L.length) (hx : L[k / 8] = x) (hb : D / 2 ^ i % 2 = 1) (hy : y.toNat = x.toNat ^^^ 2 ^ (k % 8)) :
    num (L.set (k / 8) y) = num xs ^^^ 2 ^ p0 * (D % 2 ^ (i + 1)) := by
  rw [num_bit L k y hkl (by rw [hx]; exact hy), hN, mod_step1 D i hb, mul_xor, ← Nat.pow_add, hk, Nat.xor_assoc]

set_option maxRecDepth 100000 in
set_option maxHeartbeats 4000000 in
theorem wireSums_calls (A : Option Addr) (cp : Nat) (ps : List (Option Addr × Nat × List UInt8)) (at_ bits : Int) (w : World) (ht : Tab w) (hp : PartsIn w A ps) (wa : (Lit.int .i64 at_).wf = true) (wb : (Lit.int .u32 bits).wf = true) :
    Calls Tryd.prog 4 #[.slice A ps.length cp, .int .i64 at_, .int .u32 bits] w fun e w' => e = .returned (.bool true) ∧ Below w.heap.size w w' := by
  have ha : -9223372036854775808 ≤ at_ ∧ at_ < 9223372036854775808 := by
    simp only [Lit.wf, Bool.and_eq_true, IntKind.min, IntKind.max] at wa
    simp [IntKind.signed, IntKind.bits] at wa
    omega
  obtain ⟨D, rfl, hD⟩ : ∃ D : Nat, bits = (D : Int) ∧ D < 4294967296 := by
    simp only [Lit.wf, Bool.and_eq_true, IntKind.min, IntKind.max] at wb
    simp [IntKind.signed, IntKind.bits] at wb
    exact ⟨bits.toNat, by omega, by omega⟩
  have HS := Lib.hid (shown_calls w ht)
  have HP := Lib.hid hp
  have HT := Lib.hid ht
  have hpl := hp.sum
  clear wa wb ht hp
  obtain ⟨all, hall⟩ : ∃ L, (ps.flatMap fun p => p.2.2) = L := ⟨_, rfl⟩
  rw [hall] at hpl
  have hmem : ∀ k (h : k < ps.length), (ps[k].2.2).length ≤ all.length := fun k h => hall ▸ part_mem h
  go_enter Tryd.func4, Tryd.ntmps4
  go_wp2_with fail
  refine HS.out.mono ?_
  rintro e w1 ⟨rfl, hm1⟩
  have HM := Lib.hid hm1
  clear HS hm1
  go_wp2_with fail
  go_loopw [8, 9] (fun v i w' => ∃ (k : Nat) (xs : List UInt8), i = .int .i64 k ∧ k ≤ ps.length ∧ xs.length ≤ 1048576 ∧ Hid (xs = (ps.take k).flatMap fun p => p.2.2) ∧ w'.ownsRow w.heap.size 5 1 v xs.length (bv xs) ∧ Hid (Mod (fun _ => False) w w')) (fun _ i _ => ps.length - (intOf i).toNat)
  case atStart => exact ⟨0, [], by go_num, by omega, by simp, Lib.hid rfl, World.ownsRow_nil _ _ _ _, HM⟩
  case round =>
    obtain ⟨k, xs, rfl, hk, hx, HX, hown, HM⟩ := hrel
    by_cases hlt : k < ps.length
    · rcases HP.out.row with h | ⟨b, o, rfl, hcell⟩
      · simp at h; subst h; simp at hlt
      have hml := hmem k hlt
      obtain ⟨⟨B, d, l⟩, hps⟩ : ∃ p, ps[k] = p := ⟨_, rfl⟩
      have c1 := hcell k (.slice B l.length d) (by rw [List.getElem?_map, List.getElem?_eq_getElem hlt, hps]; rfl)
      rw [← HM.out.cell (World.block_lt_of_cell? w _ c1) (fun h => h)] at c1
      have hpk := HP.out.each _ (List.getElem_mem hlt)
      rw [hps] at hpk hml
      dsimp only at hpk hml
      have hbk : BytesIn wr B d l := ⟨hpk.cells.keep HM.out (fun _ _ h => h), hpk.adr, hpk.cap, hpk.max, hpk.size, hpk.nil⟩
      have htk : (ps.take (k + 1)).flatMap (fun p => p.2.2) = (ps.take k).flatMap (fun p => p.2.2) ++ l := by
        rw [List.take_succ_eq_append_getElem hlt, List.flatMap_append, hps]; simp
      have hle : ((ps.take (k + 1)).flatMap (fun p => p.2.2)).length ≤ all.length := by
        rw [← hall]
        conv => rhs; rw [← List.take_append_drop (k + 1) ps, List.flatMap_append, List.length_append]
        omega
      rw [htk, ← HX.out, List.length_append] at hle
      have i1 : (k : Int) < (ps.length : Int) := by omega
      have HTK := Lib.hid (htk.trans (congrArg (· ++ l) HX.out.symm))
      have HB := Lib.hid hbk
      have hsz := HM.out.size
      clear hcell htk hpk hps hbk hall hmem
      go_wp2_with (first
        | fail
        | (at_builtin; go_must (refine app_part _ _ w.heap.size _ xs l B d hown HB.out rfl rfl rfl rfl (by omega) hsz ?_; intro v' w2 hown2 hm2)))
      go_roundw
      case rel => exact ⟨k + 1, xs ++ l, by go_num, by omega, by rw [List.length_append]; omega, Lib.hid HTK.out.symm, hown2, Lib.hid (Mod.trans HM.out hm2 (fun i hi h => absurd h (by omega)))⟩
      case measure => simp [intOf]; omega
    · obtain rfl : k = ps.length := by omega
      have hX := HX.out
      rw [List.take_of_length_le (Nat.le_refl _), hall] at hX
      subst hX
      clear hmem HX
      have hpp : Parts wr A ps := ⟨HP.out.row.keep HM.out (fun _ _ h => h), fun p hp => ⟨(HP.out.each p hp).cells.keep HM.out (fun _ _ h => h), Nat.le_trans (HP.out.each p hp).size (by omega)⟩⟩
      have hcr := crc_calls A cp ps wr (HT.out.keep HM.out (fun h => h)) hpp (by omega)
      rw [hall] at hcr
      have HCR := Lib.hid hcr
      clear hcr hall hpp
      go_wp2_with fail
      refine HCR.out.mono ?_
      rintro e w2 ⟨rfl, hw⟩; subst hw
      obtain ⟨A1, c1, rfl, hc1, hA1, ha1, hx1⟩ := own_cells hown
      have hrf := refCrc_calls A1 c1 xs w2 hA1 (by omega)
      have HRF := Lib.hid hrf
      have hlit := lit_cells w2 [.slice A1 xs.length c1] 22
      have hcr := crc_calls (some ⟨w2.heap.size, 0, none⟩) 1 [(A1, c1, xs)] (w2.alloc (.cells #[.slice A1 xs.length c1] 22)) (HT.out.keep (Mod.alloc HM.out _) (fun h => h)) ⟨hlit, fun p hp => by simp at hp; subst hp; exact ⟨hA1.alloc _, by dsimp only; omega⟩⟩ (by simp)
      simp only [List.flatMap_cons, List.flatMap_nil, List.append_nil, List.length_singleton] at hcr
      have HCR := Lib.hid hcr
      clear hrf hcr hlit
      generalize hC : crc xs = C at *
      go_wp2_with fail
      refine HRF.out.mono ?_
      rintro e w3 ⟨rfl, hw⟩; subst hw
      go_wp2_with fail
      refine HCR.out.mono ?_
      rintro e w4 ⟨rfl, hw⟩; subst hw
      go_upto_region 9 with fail
      clear HCR HRF hA1
      have HM4 := Lib.hid (Mod.alloc HM.out (.cells #[Value.slice A1 xs.length c1] 22))
      have hown4 := hown.alloc (.cells #[Value.slice A1 xs.length c1] 22)
      obtain ⟨w4, hw4⟩ : ∃ W, w3.alloc (.cells #[Value.slice A1 xs.length c1] 22) = W := ⟨_, rfl⟩
      rw [hw4] at HM4 hown4 ⊢
      clear hw4 hown HM
      by_cases h4 : xs.length < 4
      · have i4 : (xs.length : Int) < 4 := by omega
        go_wp2_with fail
        go_ret
        exact ⟨rfl, HM4.out.below (fun _ _ h => h)⟩
      · have i4 : ¬ (xs.length : Int) < 4 := by omega
        by_cases hD0 : D = 0
        · subst hD0
          go_wp2_with fail
          go_ret
          exact ⟨rfl, HM4.out.below (fun _ _ h => h)⟩
        · have i5 : ((D : Int) == 0) = false := by simpa using hD0
          go_upto_region 11 with fail
          go_upto_if 52 with fail
          go_cut [1] from 14 (fun s1 wx => ∃ a0 : Nat, s1 = .int .i64 a0 ∧ a0 < 9223372036854775808 ∧ wx = w4)
          case first =>
            by_cases hneg : at_ < 0
            · go_wp2_with fail
              go_meet
              case rel => exact ⟨(-(at_ + 1)).toNat, by go_num, by omega, rfl⟩
            · go_wp2_with fail
              go_meet
              case rel => exact ⟨at_.toNat, by go_num, by omega, rfl⟩
          case rest =>
            obtain ⟨a0, rfl, ha0, rfl⟩ := hcut
            obtain ⟨M, hM⟩ : ∃ M : Nat, M = 8 * xs.length - 31 := ⟨_, rfl⟩
            have j1 : 8 * (xs.length : Int) - 31 = (M : Int) := by omega
            have j2 : (a0 : Int) % (M : Int) = ((a0 % M : Nat) : Int) := rfl
            have j3 : a0 % M < M := Nat.mod_lt _ (by omega)
            generalize a0 % M = p0 at *
            have HMX := Lib.hid hM
            clear hM
            obtain ⟨g, cap, rest, hv, hg, hh, -, -⟩ := own_row hown4 (by omega)
            obtain ⟨rfl, -, rfl⟩ : A1 = some ⟨g, 0, none⟩ ∧ True ∧ c1 = cap := by
              injection hv with e1 e2 e3
              exact ⟨e1, trivial, e3⟩
            clear hown4 hv ha1
            go_wp2_with fail
            go_loopw [12] (fun s12 w' => ∃ (i : Nat) (L : List UInt8), s12 = .int .i64 i ∧ i ≤ 32 ∧ L.length = xs.length ∧ Has w' g (bv L ++ rest) 5 ∧ Hid (num L = num xs ^^^ 2 ^ p0 * (D % 2 ^ i)) ∧ Hid (Mod (fun _ => False) w w')) (fun i _ => 40 - (intOf i).toNat)
            case atStart => exact ⟨0, xs, by go_num, by omega, rfl, hh, Lib.hid (by simp [Nat.mod_one]), HM4⟩
            case round =>
              obtain ⟨i, L, rfl, hi, hL, hh, HN, HM⟩ := hrel
              by_cases hlt : i < 32
              · have i1 : (i : Int) < 32 := by omega
                obtain ⟨k, hk8⟩ : ∃ k : Nat, k = p0 + i := ⟨_, rfl⟩
                have hkl : k / 8 < L.length := by have := HMX.out; omega
                have hbit : bits .and .u32 ((D : Int) / 2 ^ i) 1 = ((D / 2 ^ i % 2 : Nat) : Int) := by
                  have := and1 (D / 2 ^ i) (Nat.lt_of_le_of_lt (Nat.div_le_self _ _) hD)
                  rw [← this]; congr 1
                have hHK := Lib.hid hk8
                clear hk8
                by_cases hb : D / 2 ^ i % 2 = 1
                · rw [hb] at hbit
                  obtain ⟨j, hj⟩ : ∃ j : Nat, IntKind.i64.wrap (((p0 : Int) + (i : Int)).tdiv 8) = (j : Int) ∧ j = k / 8 := ⟨k / 8, by
                    rw [Int.tdiv_eq_ediv_of_nonneg (by omega)]; have := HMX.out; simp only [IntKind.wrap_i64]; have := hHK.out; omega, rfl⟩
                  obtain ⟨r, hr⟩ : ∃ r : Nat, ((p0 : Int) + (i : Int)).tmod 8 = (r : Int) ∧ r = k % 8 := ⟨k % 8, by
                    rw [Int.tmod_eq_emod_of_nonneg (by omega)]; have := hHK.out; omega, rfl⟩
                  obtain ⟨x, hx8⟩ : ∃ x : UInt8, L[k / 8] = x := ⟨_, rfl⟩
                  have hcl := hh.cell (o := j) (v := .int .u8 (x.toNat : Int)) (by rw [hj.2, List.getElem?_append_left (by rw [bv_length]; omega), bv_get L _ hkl, hx8])
                  have hfz := hh.frozen j
                  have q1 := hj.1
                  have q2 := hr.1
                  have q3 : (j : Int) < (xs.length : Int) := by omega
                  have HH := Lib.hid hh
                  have HJ := Lib.hid hj.2
                  have HR := Lib.hid hr.2
                  have HX := Lib.hid hx8
                  clear hh hj hr hx8
                  go_wp2_with fail
                  refine region_tail 12 (by kernel_rfl) (by kernel_rfl) ?_
                  simp only [List.take_succ_cons, List.take_zero, List.drop_succ_cons, List.drop_zero]
                  repeat still_step
                  try simp only [q1]
                  repeat still_step
                  try simp only [q2]
                  repeat still_step
                  refine wpStill_nil ?_
                  have hr8 : r < 8 := by have := HR.out; omega
                  obtain ⟨w8, l8⟩ := u8_pow ⟨r, hr8⟩
                  dsimp only at w8 l8
                  obtain ⟨y, hy⟩ : ∃ y : UInt8, bits .xor .u8 (x.toNat : Int) (IntKind.u8.wrap (2 ^ min r 8)) = (y.toNat : Int) ∧ y.toNat = x.toNat ^^^ 2 ^ r := by
                    have hlt8 : x.toNat ^^^ 2 ^ r < 256 := Nat.xor_lt_two_pow (n := 8) x.toNat_lt l8
                    refine ⟨UInt8.ofNat (x.toNat ^^^ 2 ^ r), ?_, toNat_of _ hlt8⟩
                    rw [w8, toNat_of _ hlt8, u8_xor_nat _ _ x.toNat_lt l8]
                  rw [hy.1]
                  have HY := Lib.hid hy.2
                  have hset := HH.out.set j (.int .u8 (y.toNat : Int))
                  rw [List.set_append_left _ _ (by rw [bv_length, HJ.out]; exact hkl), show (bv L).set j (.int .u8 (y.toNat : Int)) = bv (L.set j y) by simp [bv, List.map_set]] at hset
                  have HS := Lib.hid hset
                  have HN2 := Lib.hid (step_num HN.out hHK.out hkl HX.out hb (HR.out ▸ HY.out))
                  clear hset hy w8 l8 q1 q2
                  go_wp2_with fail
                  go_roundw
                  case rel => exact ⟨i + 1, L.set j y, by go_num, by omega, by rw [List.length_set]; exact hL, HS.out, Lib.hid (by rw [HJ.out]; exact HN2.out), Lib.hid (HM.out.drew.set2 hg _ _)⟩
                  case measure => simp [intOf]; omega
                · have hb0 : D / 2 ^ i % 2 = 0 := by omega
                  rw [hb0] at hbit
                  go_wp2_with fail
                  go_roundw
                  case rel => exact ⟨i + 1, L, by go_num, by omega, hL, hh, Lib.hid (by rw [mod_step0 D i hb0]; exact HN.out), HM⟩
                  case measure => simp [intOf]; omega
              · obtain rfl : i = 32 := by omega
                have hN := HN.out
                rw [Nat.mod_eq_of_lt (show D < 2 ^ 32 from hD)] at hN
                have hne := burst L xs p0 D hL hD hD0 (by have := HMX.out; omega) hN
                rw [hC] at hne
                have hAL : Cells wr (some ⟨g, 0, none⟩) (bv L) := .inr ⟨g, 0, rfl, fun j u hj => by
                  rw [Nat.zero_add]
                  exact hh.cell (by rw [List.getElem?_append_left (List.getElem?_eq_some_iff.1 hj).1]; exact hj)⟩
                have hlit := lit_cells wr [.slice (some ⟨g, 0, none⟩) L.length c1] 22
                have hcr := crc_calls (some ⟨wr.heap.size, 0, none⟩) 1 [(some ⟨g, 0, none⟩, c1, L)] (wr.alloc (.cells #[.slice (some ⟨g, 0, none⟩) L.length c1] 22)) (HT.out.keep (Mod.alloc HM.out _) (fun h => h)) ⟨hlit, fun p hp => by simp at hp; subst hp; exact ⟨hAL.alloc _, by dsimp only; omega⟩⟩ (by simp)
                simp only [List.flatMap_cons, List.flatMap_nil, List.append_nil, List.length_singleton] at hcr
                rw [hL] at hcr
                generalize crc L = C2 at *
                have i6 : ((C2 : Int) != (C : Int)) = true := by simp; omega
                have HCR := Lib.hid hcr
                clear hcr hlit hAL hC hN hne
                go_wp2_with fail
                refine HCR.out.mono ?_
                rintro e w5 ⟨rfl, hw⟩; subst hw
                go_wp2_with fail
                go_ret
                exact ⟨rfl, (Mod.alloc HM.out _).below (fun _ _ h => h)⟩
end Wire
end Go.Proofs.YtammcnencaemfaaDoor
