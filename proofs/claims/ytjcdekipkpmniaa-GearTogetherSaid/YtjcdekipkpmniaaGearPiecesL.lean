/- The law GearPieces: a cutter tells each chunk as soon as it is sure, and the rest when it is closed. -/
import Derived.Test.YtjcdekipkpmniaaGearZ
import Derived.Test.YtjcdekipkpmniaaKt
import Derived.Deep.Cut
import Derived.Deep.CutRange
namespace Go.Proofs.Ytjcdekipkpmniaa
open Go.RowKit K
namespace Gear

theorem cat_texts (l m : List UInt8) : ((⟨l.toArray⟩ : ByteArray) ++ (⟨m.toArray⟩ : ByteArray)) = ⟨(l ++ m).toArray⟩ := by
  apply ByteArray.ext; simp
theorem slice_upto (p : ByteArray) (k : Nat) (h : k ≤ p.size) (w' : World) : (Instr.slice 9 (.string p) none (some (.int .i64 (k : Int))) none).run Try.prog w' = .ok (.string ⟨(p.data.toList.take k).toArray⟩) w' := by
  rw [run_slice_string_to_if w' 9 p .i64 (k : Int) Try.underlying9, if_pos (by omega)]
  congr 2
  apply ByteArray.ext
  apply Array.toList_inj.1
  simp [ByteArray.data_extract, Array.toList_extract, List.extract]
theorem ext_take (p : ByteArray) (k : Nat) : p.extract 0 k = ⟨(p.data.toList.take k).toArray⟩ := by
  apply ByteArray.ext
  apply Array.toList_inj.1
  simp [ByteArray.data_extract, Array.toList_extract, List.extract]
theorem self_take (p : ByteArray) : p = ⟨(p.data.toList.take p.size).toArray⟩ := by rw [← ext_take]; simp
theorem size_of (l : List UInt8) : (⟨l.toArray⟩ : ByteArray).size = l.length := by simp [ByteArray.size]

theorem Cut.keep {S : Nat → Prop} {w w' : World} {base b : Nat} {s n : Int} {r : List UInt8} (h : Cut w base b s n r) (m : Mod S w w') (hs : ∀ k, base ≤ k → ¬ S k) (hb : ¬ S b) : Cut w' base b s n r := by
  obtain ⟨p, v, hh, hp, hown⟩ := h
  exact ⟨p, v, hh.keep m hb, hp, own_keep hown m (fun k hk _ => hs k hk)⟩

/-- a text's first ten thousand bytes -/
def cutL (p : ByteArray) : List UInt8 := p.data.toList.take (min p.size 10000)
theorem cutL_len (p : ByteArray) : (cutL p).length ≤ 10000 := by unfold cutL; rw [List.length_take]; omega

theorem not_row {w : World} {b : Nat} {cs : List Value} {T : TypeId} (h : Has w b cs T) (hT : T ≠ 5) : ¬ ByteRow w b := fun ⟨cur, fz, hr⟩ => by
  rw [Has, hr] at h; simp at h; exact hT h.2.1.symm

set_option maxRecDepth 100000 in
set_option maxHeartbeats 4000000 in
theorem gearPieces_calls (A : Option Addr) (c : Nat) (ps : List ByteArray) (again : ByteArray) (w : World) (hA : TextsIn w A ps) (ha : again.size ≤ 140737488351232) :
    Calls Try.prog 8 #[.slice A ps.length c, .string again] w fun e w' => e = .returned (.bool true) ∧ Below w.heap.size w w' := by
  have HA := Lib.hid hA
  have hpl := hA.len
  clear hA
  go_enter Try.func8, Try.ntmps8
  go_wp2_with fail
  refine (shown_calls _).mono ?_
  rintro e w1 ⟨rfl, hm⟩
  have HM1 := Lib.hid hm
  clear hm
  go_wp2_with fail
  refine (new_calls _).mono ?_
  rintro e w2 ⟨rfl, hc, hm⟩
  obtain ⟨b, hb⟩ : ∃ b, w1.heap.size = b := ⟨_, rfl⟩
  simp only [hb] at hc ⊢
  have hwb : w.heap.size ≤ b := by have := HM1.out.size; omega
  have HM := Lib.hid (show ModB b b w w2 from ModB.of0 (Mod.trans HM1.out hm (fun _ _ h => h)))
  have HC := Lib.hid hc
  clear hc hm HM1 hb
  go_wp2_with fail
  go_loopw [7, 8] (fun r i w' => ∃ (k : Nat) (R : List UInt8), i = .int .i64 k ∧ r = .string ⟨R.toArray⟩ ∧ k ≤ ps.length ∧ k ≤ 100 ∧ R.length ≤ 10000 * k ∧ Hid ((feed init R).out = []) ∧ Hid (Cut w' b b (feed init R).s (feed init R).n R) ∧ Hid (ModB b b w w'))
    (fun _ i _ => ps.length - (intOf i).toNat)
  case atStart => exact ⟨0, [], by go_num, rfl, by omega, by omega, by simp, Lib.hid rfl, HC, HM⟩
  case round =>
    obtain ⟨k, R, rfl, rfl, hk, hk100, hRl, HF, HC, HM⟩ := hrel
    have hszR := size_of R
    by_cases hlt : k < ps.length ∧ k < 100
    · obtain ⟨hlt, hlt100⟩ := hlt
      rcases HA.out.row with h | ⟨ab, ao, rfl, hcell⟩
      · simp at h; subst h; simp at hlt
      obtain ⟨p, hp⟩ : ∃ p, ps[k] = p := ⟨_, rfl⟩
      have c1 := hcell k (.string p) (by rw [List.getElem?_map, List.getElem?_eq_getElem hlt, hp]; rfl)
      have hlb := World.block_lt_of_cell? w _ c1
      have hpm := HA.out.size p (hp ▸ List.getElem_mem hlt)
      rw [← Mod.cell HM.out (p := ⟨ab, ao + k, none⟩) hlb (fun hs => by rcases hs with hs | ⟨h3, _⟩ <;> (dsimp only at *; omega))] at c1
      have i1 : (k : Int) < (ps.length : Int) := by omega
      have i2 : (k : Int) < 100 := by omega
      have hsl := slice_upto p (min p.size 10000) (by omega)
      have hcl := cutL_len p
      rw [← show cutL p = p.data.toList.take (min p.size 10000) from rfl] at hsl
      obtain ⟨K, hK⟩ : ∃ K, min p.size 10000 = K := ⟨_, rfl⟩
      rw [hK] at hsl
      have HMIN : Hid ((if (10000 : Int) < (p.size : Int) then (10000 : Int) else (p.size : Int)) = (K : Int)) := Lib.hid (by rw [← hK]; split <;> omega)
      generalize cutL p = Q at *
      clear hK
      clear hcell hp
      go_wp2_with fail
      refine region_tail 10 (by kernel_rfl) (by kernel_rfl) ?_
      simp only [List.take_succ_cons, List.take_zero, List.drop_succ_cons, List.drop_zero]
      repeat still_step
      simp only [HMIN.out]
      refine wpStill_nil ?_
      have hno : ¬ (9223372036854775807 < R.length + Q.length) := by omega
      have hcat := cat_texts R Q
      obtain ⟨R1, hR1⟩ : ∃ R1, R ++ Q = R1 := ⟨_, rfl⟩
      rw [hR1] at hcat
      have hR1l : R1.length = R.length + Q.length := by rw [← hR1, List.length_append]
      have hrest : (feed init R).rest = R := ((feed_sure R).1 HF.out).2
      obtain ⟨_, _, hh0, _, _⟩ := HC.out
      have hblt := hh0.lt
      have hwr := write_calls b b (feed init R) (some ⟨wr.heap.size, 0, none⟩) 1 [⟨Q.toArray⟩] (wr.drew.alloc (.cells #[.string ⟨Q.toArray⟩] 9)) (by rw [hrest]; exact Cut.alloc (w := wr.drew) HC.out _) (feed_ok _ _ init_ok) HF.out (Nat.le_refl _)
        (.inr ⟨_, 0, rfl, fun j u hj => by rw [Nat.zero_add]; exact (Has.new wr.drew [.string ⟨Q.toArray⟩] 9).cell hj⟩)
        (fun a ha => by obtain rfl := Option.some.inj ha; exact ⟨by dsimp only; omega, not_row (Has.new wr.drew [.string ⟨Q.toArray⟩] 9) (by decide)⟩) (by simp [flat]; omega) (by simp)
      rw [show flat [⟨Q.toArray⟩] = Q by simp [flat], ← feed_append, hR1] at hwr
      obtain ⟨hs1, hs2⟩ := feed_sure R1
      obtain ⟨T, hT⟩ : ∃ T, feed init R1 = T := ⟨_, rfl⟩
      rw [hT] at hwr
      have hTl : T.out.length ≤ R1.length := by have := feed_out R1 init; rw [hT] at this; simpa [init] using this
      have HW := Lib.hid hwr
      have HT := Lib.hid hT
      clear hwr hs1 hs2 hh0 hrest hT hR1
      go_wp2_with fail
      refine HW.out.mono ?_
      rintro e w3 ⟨v, rfl, hown, hc, hm⟩
      have HM3 := Lib.hid (ModB.trans (ModB.trans HM.out (ModB.of0 (Mod.alloc (Mod.refl _ wr).drew _))) hm)
      have HC3 := Lib.hid hc
      obtain ⟨A1, c1, rfl, hc1, hA1, -, -⟩ := own_cells hown
      have HA1 := Lib.hid hA1
      clear hown hm hc hA1 HM HC HW hcat hno
      go_wp2_with fail
      go_loopw [7, 11] (fun r i w' => ∃ (j : Nat) (R' : List UInt8), i = .int .i64 j ∧ r = .string ⟨R'.toArray⟩ ∧ j ≤ T.out.length ∧ R'.length ≤ R1.length ∧ Hid (feed init R' = ⟨T.out.drop j, T.s, T.n, T.rest⟩) ∧ Hid (Mod (fun _ => False) w3 w'))
        (fun _ i _ => T.out.length - (intOf i).toNat)
      case atStart => exact ⟨0, R1, by go_num, rfl, by omega, by omega, Lib.hid (by rw [HT.out]; rfl), Lib.hid (Mod.refl _ _)⟩
      case round =>
        obtain ⟨j, R', rfl, rfl, hj, hRl', HFE, HM⟩ := hrel
        have hszR' := size_of R'
        obtain ⟨hs1, hs2⟩ := feed_sure R'
        have HE := Lib.hid (refEnds_calls ⟨R'.toArray⟩ wr (by rw [hszR']; omega))
        by_cases hlt2 : j < T.out.length
        · obtain ⟨ch, hch⟩ : ∃ ch, T.out[j] = ch := ⟨_, rfl⟩
          have hdj : T.out.drop j = ch :: T.out.drop (j + 1) := by rw [List.drop_eq_getElem_cons hlt2, hch]
          obtain ⟨g1, g2, g3⟩ := hs2 ch (T.out.drop (j + 1)) (by rw [HFE.out]; exact hdj)
          rw [HFE.out] at g3
          rcases HA1.out with h | ⟨ab2, ao2, rfl, hcell2⟩
          · have := congrArg List.length h; rw [sv_length] at this; simp at this; rw [this] at hlt2; simp at hlt2
          have c2 := hcell2 j (.string ⟨ch.toArray⟩) (by simp [sv, hlt2, hch])
          rw [← HM.out.cell (World.block_lt_of_cell? w3 _ c2) (fun h => h)] at c2
          have hle2 : ch.length ≤ R'.length := by have := congrArg List.length g2; rw [List.length_take] at this; omega
          have hsl2 := slice_upto ⟨R'.toArray⟩ ch.length (by rw [hszR']; exact hle2)
          have hsl3 := slice_from ⟨R'.toArray⟩ ch.length (by rw [hszR']; exact hle2)
          simp only at hsl2 hsl3
          rw [g2] at hsl2
          obtain ⟨R2, hR2⟩ : ∃ R2, R'.drop ch.length = R2 := ⟨_, rfl⟩
          rw [hR2] at hsl3 g3
          have hR2l : R2.length ≤ R1.length := by rw [← hR2, List.length_drop]; omega
          have i3 : (j : Int) < (T.out.length : Int) := by omega
          have hE := HE.out
          simp only [g1] at hE
          have HE := Lib.hid hE
          have HFE := Lib.hid g3
          clear hE hcell2 hdj hch g1 g2 g3 hR2 hs1 hs2
          go_wp2_with fail
          refine HE.out.mono ?_
          rintro e w4 ⟨rfl, hw⟩; subst hw
          go_wp2_with fail
          go_quiet (fail)
          go_wp2_with fail
          go_roundw
          case rel => exact ⟨j + 1, R2, by go_num, rfl, by omega, hR2l, HFE, Lib.hid (HM.out.drewN _)⟩
          case measure => simp [intOf]; omega
        · obtain rfl : j = T.out.length := by omega
          have hfe := HFE.out
          rw [List.drop_length] at hfe
          obtain ⟨g1, g2⟩ := hs1 (by rw [hfe])
          rw [hfe] at g2
          simp only at g2
          have hE := HE.out
          simp only [g1] at hE
          obtain ⟨m1, hm1⟩ : ∃ m, (endsAll R').1 = m := ⟨_, rfl⟩
          simp only [hm1] at hE
          have HE := Lib.hid hE
          have HFE := Lib.hid hfe
          have HG := Lib.hid g2
          clear hE hfe g1 g2 hm1 hs1 hs2
          go_wp2_with fail
          refine HE.out.mono ?_
          rintro e w4 ⟨rfl, hw⟩; subst hw
          go_wp2_with fail
          go_roundw
          case rel => exact ⟨k + 1, R', by go_num, rfl, by omega, by omega, by omega, Lib.hid (by rw [HFE.out]), Lib.hid (by rw [HFE.out, ← HG.out]; exact HC3.out.keep HM.out (fun _ _ h => h) (fun h => h)), Lib.hid (ModB.trans HM3.out (ModB.of0 HM.out))⟩
          case measure => simp [intOf]; omega
    · go_upto_region 7 with fail
      go_cut [31] from 24 to 83 (fun s31 wx => s31 = .bool false ∧ wx = wr)
      case first =>
        by_cases h1 : k < ps.length
        · have i1 : (k : Int) < (ps.length : Int) := by omega
          have i2 : ¬ (k : Int) < 100 := by omega
          go_wp2_with fail
          go_meet
          case rel => exact ⟨rfl, rfl⟩
        · have i1 : ¬ (k : Int) < (ps.length : Int) := by omega
          go_wp2_with fail
          go_meet
          case rel => exact ⟨rfl, rfl⟩
      case rest =>
        obtain ⟨rfl, rfl⟩ := hcut
        have hrest : (feed init R).rest = R := ((feed_sure R).1 HF.out).2
        have hlen := (feed_ok R _ init_ok).len
        rw [hrest] at hlen
        have hs0 : R = [] → (feed init R).s = 0 := fun h => by subst h; rfl
        have hcl := close_calls b b _ _ R wc HC.out hlen
        generalize (feed init R).s = s0 at *
        generalize (feed init R).n = n0 at *
        have HCL := Lib.hid hcl
        have HS0 := Lib.hid hs0
        clear hcl hs0 hrest hlen HF hlt
        go_wp2_with fail
        refine HCL.out.mono ?_
        rintro e w3 ⟨v, rfl, hown, hc, hm⟩
        have HM3 := Lib.hid (ModB.trans HM.out hm)
        have HC3 : Hid (Cut w3 b b 0 0 []) := Lib.hid (by
          by_cases hR : R = []
          · rw [if_pos hR, HS0.out hR] at hc; exact hc
          · rw [if_neg hR] at hc; exact hc)
        obtain ⟨A2, c2, rfl, hc2, hA2, -, -⟩ := own_cells hown
        have HA2 := Lib.hid hA2
        clear hown hc hm HM HC HCL HS0 hA2
        go_upto_region 23 with fail
        go_cut [16, 110] from 20 (fun _ s110 wx => s110 = .bool false ∧ wx = w3)
        case first =>
          by_cases hR : R = []
          · subst hR
            simp only [if_pos] at *
            go_wp2_with fail
            go_meet
            case rel => exact ⟨rfl, rfl⟩
          · have hpos : 0 < R.length := List.length_pos_iff.2 hR
            have i3 : (R.length : Int) ≠ 0 := by omega
            have i4 : (0 : Int) < (R.length : Int) := by omega
            have i5 : ((R.length : Int) == 0) = false := by simp; omega
            have hA2 := HA2.out
            rw [if_neg hR] at hA2 ⊢
            rcases hA2 with h | ⟨ab2, ao2, rfl, hcell2⟩
            · simp [sv] at h
            have c2 := hcell2 0 (.string ⟨R.toArray⟩) rfl
            rw [Nat.add_zero] at c2
            clear hcell2 HA2
            go_wp2_with fail
            go_meet
            case rel => exact ⟨rfl, rfl⟩
        case rest =>
          obtain ⟨rfl, rfl⟩ := hcut
          clear HA2 HA hszR hRl hk hk100 hpl
          go_upto_region 25 with fail
          go_cut [1] from 20 (fun s1 wx => s1 = .string ⟨(cutL again).toArray⟩ ∧ wx = wc)
          case first =>
            by_cases hbig : 10000 < again.size
            · have i6 : (10000 : Int) < (again.size : Int) := by omega
              go_wp2_with fail
              go_meet
              case rel => exact ⟨congrArg Value.string (by rw [cutL, Nat.min_eq_right (by omega)]; exact ext_take again 10000), rfl⟩
            · have i6 : ¬ (10000 : Int) < (again.size : Int) := by omega
              go_wp2_with fail
              go_meet
              case rel => exact ⟨congrArg Value.string (by rw [cutL, Nat.min_eq_left (by omega)]; exact self_take again), rfl⟩
          case rest =>
          obtain ⟨rfl, rfl⟩ := hcut
          have hcl := cutL_len again
          generalize cutL again = Q at *
          obtain ⟨_, _, hh0, _, _⟩ := HC3.out
          have hblt := hh0.lt
          have hwr := write_calls b b init (some ⟨wc.heap.size, 0, none⟩) 1 [⟨Q.toArray⟩] (wc.alloc (.cells #[.string ⟨Q.toArray⟩] 9)) (Cut.alloc HC3.out _) init_ok rfl (Nat.le_refl _)
            (.inr ⟨_, 0, rfl, fun j u hj => by rw [Nat.zero_add]; exact (Has.new wc [.string ⟨Q.toArray⟩] 9).cell hj⟩)
            (fun a ha => by obtain rfl := Option.some.inj ha; exact ⟨by dsimp only; omega, not_row (Has.new wc [.string ⟨Q.toArray⟩] 9) (by decide)⟩) (by simp [flat]; omega) (by simp)
          rw [show flat [⟨Q.toArray⟩] = Q by simp [flat]] at hwr
          have hTl : (feed init Q).out.length ≤ Q.length := by have := feed_out Q init; simpa [init] using this
          have HQ := Lib.hid (show flat [⟨Q.toArray⟩] = Q by simp [flat])
          obtain ⟨T, hT⟩ : ∃ T, feed init Q = T := ⟨_, rfl⟩
          rw [hT] at hwr hTl
          have HT := Lib.hid hT
          have HW := Lib.hid hwr
          clear hwr hh0 hT
          go_wp2_with fail
          refine HW.out.mono ?_
          rintro e w4 ⟨v, rfl, hown, hc, hm⟩
          have HM4 := Lib.hid (ModB.trans (ModB.trans HM3.out (ModB.of0 (Mod.alloc (Mod.refl _ wc) _))) hm)
          have HO4 := Lib.hid hown
          have hsz4 := hm.size
          have hszw := HM4.out.size
          clear hown hm hc HM3 HC3 HW
          go_wp2_with fail
          refine (new_calls _).mono ?_
          rintro e w5 ⟨rfl, hc, hm⟩
          have hown5 := own_keep HO4.out hm (fun _ _ _ h => h)
          have hh5 := hc
          obtain ⟨_, _, hh5, _, _⟩ := hh5
          have hlt5 := hh5.lt
          have HM5 := Lib.hid (Mod.trans (S := fun _ => False) (Mod.mono (S' := fun k => k = b ∨ (b ≤ k ∧ ByteRow w k)) HM4.out (fun _ _ h => h) |>.mono (fun i hi h => by rcases h with h | ⟨h, _⟩ <;> omega)) hm (fun _ _ h => h))
          have hwr := write_calls w4.heap.size w4.heap.size init (some ⟨w5.heap.size, 0, none⟩) 1 [⟨Q.toArray⟩] (w5.alloc (.cells #[.string ⟨Q.toArray⟩] 9)) (Cut.alloc hc _) init_ok rfl (Nat.le_refl _)
            (.inr ⟨_, 0, rfl, fun j u hj => by rw [Nat.zero_add]; exact (Has.new w5 [.string ⟨Q.toArray⟩] 9).cell hj⟩)
            (fun a ha => by obtain rfl := Option.some.inj ha; exact ⟨by dsimp only; omega, not_row (Has.new w5 [.string ⟨Q.toArray⟩] 9) (by decide)⟩) (by rw [HQ.out]; omega) (by simp)
          rw [HQ.out, HT.out] at hwr
          have HW := Lib.hid hwr
          have HO5 := Lib.hid (hown5.alloc (.cells #[.string ⟨Q.toArray⟩] 9))
          have HH5 := Lib.hid (hh5.alloc (.cells #[.string ⟨Q.toArray⟩] 9))
          clear hwr hown5 hc hm HM4 HO4 hh5
          go_wp2_with fail
          refine HW.out.mono ?_
          rintro e w6 ⟨v2, rfl, hown2, hc, hm⟩
          have hown1 := hm.keepOwn HO5.out (by decide) HH5.out (by decide)
          have HM6 : Hid (Mod (fun _ => False) w w6) := Lib.hid (Mod.trans (Mod.alloc HM5.out _) hm (fun i hi h => by rcases h with h | ⟨h, _⟩ <;> omega))
          obtain ⟨A1, c1, rfl, hc1, hA1, -, -⟩ := own_cells hown1
          obtain ⟨A2, c2, rfl, hc2, hA2, -, -⟩ := own_cells hown2
          have HA1 := Lib.hid hA1
          have HA2 := Lib.hid hA2
          clear hown1 hown2 hc hm HO5 HH5 HM5 HW hA1 hA2
          go_wp2_with fail
          go_loopw [19] (fun i w' => ∃ (j : Nat), i = .int .i64 j ∧ j ≤ T.out.length ∧ Hid (Mod (fun _ => False) w6 w')) (fun i _ => T.out.length - (intOf i).toNat)
          case atStart => exact ⟨0, by go_num, by omega, Lib.hid (Mod.refl _ _)⟩
          case round =>
            obtain ⟨j, rfl, hj, HM⟩ := hrel
            by_cases hlt2 : j < T.out.length
            · obtain ⟨ch, hch⟩ : ∃ ch, T.out[j] = ch := ⟨_, rfl⟩
              rcases HA1.out with h | ⟨ab, ao, rfl, hcell⟩
              · have := congrArg List.length h; rw [sv_length] at this; simp at this; rw [this] at hlt2; simp at hlt2
              rcases HA2.out with h | ⟨ab2, ao2, rfl, hcell2⟩
              · have := congrArg List.length h; rw [sv_length] at this; simp at this; rw [this] at hlt2; simp at hlt2
              have k1 := hcell j (.string ⟨ch.toArray⟩) (by simp [sv, hlt2, hch])
              have k2 := hcell2 j (.string ⟨ch.toArray⟩) (by simp [sv, hlt2, hch])
              rw [← HM.out.cell (World.block_lt_of_cell? w6 _ k1) (fun h => h)] at k1
              rw [← HM.out.cell (World.block_lt_of_cell? w6 _ k2) (fun h => h)] at k2
              have i3 : (j : Int) < (T.out.length : Int) := by omega
              clear hcell hcell2 hch
              go_wp2_with fail
              go_quiet (fail)
              go_wp2_with fail
              go_roundw
              case rel => exact ⟨j + 1, by go_num, by omega, Lib.hid (HM.out.drewN _)⟩
              case measure => simp [intOf]; omega
            · obtain rfl : j = T.out.length := by omega
              go_wp2_with fail
              go_ret
              exact ⟨rfl, (Mod.trans HM6.out HM.out (fun _ _ h => h)).below (fun _ _ h => h)⟩
end Gear
end Go.Proofs.Ytjcdekipkpmniaa
