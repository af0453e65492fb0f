/- The walks of wire.Crc and of the reference's Crc. -/
import Derived.Test.YtammcnencaemfaaDoorWireX
import Derived.Test.YtammcnencaemfaaDoorWireG
namespace Go.Proofs.YtammcnencaemfaaDoor
open Go.RowKit K
namespace Wire

/-- the table stands where it is laid -/
def Tab (w : World) : Prop := ∀ i, i < 16 → w.cell? ⟨0, i, none⟩ = some (.int .u32 (nib.getD i 0 : Nat))

theorem Tab.keep {S : Nat → Prop} {w w' : World} (h : Tab w) (m : Mod S w w') (hs : ¬ S 0) : Tab w' := fun i hi => by
  have := h i hi
  rw [m.cell (World.block_lt_of_cell? w _ this) hs]; exact this

/-- parts: a row of slices of bytes -/
structure Parts (w : World) (A : Option Addr) (ps : List (Option Addr × Nat × List UInt8)) : Prop where
  row : Cells w A (ps.map fun p => .slice p.1 p.2.2.length p.2.1)
  each : ∀ p ∈ ps, Cells w p.1 (bv p.2.2) ∧ p.2.2.length ≤ 140737488355328
  
theorem u32_steps (c x : Nat) (hc : c < 4294967296) (hx : x < 256) : ∃ y r1 t1 y1 r2 t2 : Nat, bits .xor .u32 (c : Int) (x : Int) = (y : Int) ∧ bits .and .u32 (y : Int) 15 = (r1 : Int) ∧ r1 < 16 ∧ nib.getD r1 0 = t1 ∧ bits .xor .u32 (t1 : Int) ((y : Int) / 16) = (y1 : Int) ∧
    bits .and .u32 (y1 : Int) 15 = (r2 : Int) ∧ r2 < 16 ∧ nib.getD r2 0 = t2 ∧ bits .xor .u32 (t2 : Int) ((y1 : Int) / 16) = ((crcB c x : Nat) : Int) := by
  have hy : c ^^^ x < 4294967296 := Nat.xor_lt_two_pow (n := 32) hc (by omega)
  have hnib : ∀ r : Fin 16, nib.getD r.val 0 < 4294967296 := by decide
  have hand : ∀ z : Nat, z < 4294967296 → bits .and .u32 (z : Int) 15 = ((z % 16 : Nat) : Int) := fun z hz => by
    have := u32_and_nat z 15 hz (by decide)
    rw [show (15 : Nat) = 2 ^ 4 - 1 from rfl, Nat.and_two_pow_sub_one_eq_mod] at this
    exact this
  have hst : ∀ z : Nat, z < 4294967296 → bits .xor .u32 (nib.getD (z % 16) 0 : Nat) ((z : Int) / 16) = ((bitN 4 z : Nat) : Int) := fun z hz => by
    have e : (z : Int) / 16 = ((z / 16 : Nat) : Int) := by omega
    rw [e, u32_xor_nat _ _ (hnib ⟨z % 16, Nat.mod_lt _ (by decide)⟩) (by omega), nib_step]
  refine ⟨c ^^^ x, (c ^^^ x) % 16, _, bitN 4 (c ^^^ x), bitN 4 (c ^^^ x) % 16, _, u32_xor_nat _ _ hc (by omega), hand _ hy, Nat.mod_lt _ (by decide), rfl, hst _ hy, hand _ (bitN_lt 4 _ hy), Nat.mod_lt _ (by decide), rfl, ?_⟩
  rw [hst _ (bitN_lt 4 _ hy), ← bitN_add 4 4]; rfl

theorem not32 (c : Nat) (h : c < 4294967296) : bits .xor .u32 IntKind.u32.max (c : Int) = ((4294967295 ^^^ c : Nat) : Int) := by
  have : IntKind.u32.max = ((4294967295 : Nat) : Int) := by decide
  rw [this, u32_xor_nat _ _ (by decide) h]

set_option maxRecDepth 100000 in
set_option maxHeartbeats 1000000 in
theorem crc_calls (A : Option Addr) (cp : Nat) (ps : List (Option Addr × Nat × List UInt8)) (w : World) (ht : Tab w) (hp : Parts w A ps) (hl : ps.length ≤ 140737488355328) :
    Calls Tryd.prog 14 #[.slice A ps.length cp] w fun e w' => e = .returned (.int .u32 (crc (ps.flatMap fun p => p.2.2) : Nat)) ∧ w' = w := by
  have HT := Lib.hid ht
  have HP := Lib.hid hp
  clear ht hp
  go_enter Tryd.func14, Tryd.ntmps14
  go_wp2_with fail
  go_loop [10, 3] (fun i c => ∃ (k x : Nat), i = .int .i64 k ∧ c = .int .u32 x ∧ k ≤ ps.length ∧ x < 4294967296 ∧ Hid (x = crcL ((ps.take k).flatMap fun p => p.2.2) 4294967295)) (fun i _ => ps.length - (intOf i).toNat)
  case atStart => exact ⟨0, 4294967295, by go_num, rfl, by omega, by omega, Lib.hid rfl⟩
  case round =>
    obtain ⟨k, x, rfl, rfl, hk, hx, HX⟩ := hrel
    by_cases hlt : k < ps.length
    · rcases HP.out.row with h | ⟨b, o, rfl, hcell⟩
      · simp at h; subst h; simp at hlt
      obtain ⟨⟨B, d, l⟩, hps⟩ : ∃ p, ps[k] = p := ⟨_, rfl⟩
      have c1 := hcell k (.slice B l.length d) (by rw [List.getElem?_map, List.getElem?_eq_getElem hlt, hps]; rfl)
      have hpk := HP.out.each _ (List.getElem_mem hlt)
      rw [hps] at hpk
      dsimp only at hpk
      have htk : (ps.take (k + 1)).flatMap (fun p => p.2.2) = (ps.take k).flatMap (fun p => p.2.2) ++ l := by
        rw [List.take_succ_eq_append_getElem hlt, List.flatMap_append, hps]; simp
      have i1 : (k : Int) < (ps.length : Int) := by omega
      have HTK := Lib.hid htk
      have HB := Lib.hid hpk.1
      have hln := hpk.2
      clear hcell htk hpk hps
      go_wp2_with fail
      go_loop [16, 3] (fun i c => ∃ (q y : Nat), i = .int .i64 q ∧ c = .int .u32 y ∧ q ≤ l.length ∧ y < 4294967296 ∧ Hid (y = crcL (l.take q) x)) (fun i _ => l.length - (intOf i).toNat)
      case atStart => exact ⟨0, x, by go_num, rfl, by omega, hx, Lib.hid rfl⟩
      case round =>
        obtain ⟨q, y, rfl, rfl, hq, hy, HY⟩ := hrel
        by_cases hlt2 : q < l.length
        · rcases HB.out with h | ⟨b2, o2, rfl, hcell2⟩
          · have := congrArg List.length h; rw [bv_length] at this; simp at this; subst this; simp at hlt2
          have c2 := hcell2 q _ (bv_get l q hlt2)
          have hst := crcL_take l q x hlt2
          rw [← HY.out] at hst
          have hd2 := l[q].toNat_lt
          generalize l[q].toNat = z at *
          obtain ⟨y0, r1, t1, y1, r2, t2, e1, e2, g1, n1, e3, e4, g2, n2, e5⟩ := u32_steps y z hy hd2
          have hlt3 := crcB_lt y z hy hd2
          have k1 := HT.out r1 g1
          have k2 := HT.out r2 g2
          rw [n1] at k1
          rw [n2] at k2
          have HST := Lib.hid hst
          have i2 : (q : Int) < (l.length : Int) := by omega
          have i3 : (r1 : Int) < 16 := by omega
          have i4 : (r2 : Int) < 16 := by omega
          generalize crcB y z = y2 at *
          clear hcell2 hst n1 n2
          go_wp2_with fail
          go_round
          case rel => exact ⟨q + 1, y2, by go_num, rfl, by omega, hlt3, Lib.hid HST.out.symm⟩
          case measure => simp [intOf]; omega
        · obtain rfl : q = l.length := by omega
          have hY := HY.out
          rw [List.take_of_length_le (Nat.le_refl _)] at hY
          have HY := Lib.hid hY
          clear hY
          go_wp2_with fail
          go_round
          case rel => exact ⟨k + 1, y, by go_num, rfl, by omega, hy, Lib.hid (by rw [HTK.out, crcL_append, ← HX.out]; exact HY.out)⟩
          case measure => simp [intOf]; omega
    · obtain rfl : k = ps.length := by omega
      have hX := HX.out
      rw [List.take_of_length_le (Nat.le_refl _)] at hX
      have hfin : bits .xor .u32 IntKind.u32.max (x : Int) = ((crc (ps.flatMap fun p => p.2.2) : Nat) : Int) := by rw [not32 x hx, crc, ← hX]
      have HF := Lib.hid hfin
      clear hX hfin
      go_wp2_with fail
      go_ret
      rw [HF.out]
      exact ⟨rfl, rfl⟩

theorem bit1_odd (c : Nat) (h : c < 4294967296) (ho : c % 2 = 1) : bits .xor .u32 ((c : Int) / 2) 3988292384 = ((bit1 c : Nat) : Int) := by
  have e : (c : Int) / 2 = ((c / 2 : Nat) : Int) := by omega
  have := u32_xor_nat (c / 2) 3988292384 (by omega) (by decide)
  rw [e, bit1, if_pos ho]; exact this
theorem bit1_even (c : Nat) (ho : ¬ c % 2 = 1) : (c : Int) / 2 = ((bit1 c : Nat) : Int) := by
  rw [bit1, if_neg ho]; omega
theorem and1 (c : Nat) (h : c < 4294967296) : bits .and .u32 (c : Int) 1 = ((c % 2 : Nat) : Int) := by
  have := u32_and_nat c 1 h (by decide)
  rw [Nat.and_one_is_mod] at this; exact this

set_option maxRecDepth 100000 in
set_option maxHeartbeats 1000000 in
theorem refCrc_calls (A : Option Addr) (cp : Nat) (l : List UInt8) (w : World) (hA : Cells w A (bv l)) (hl : l.length ≤ 140737488355328) :
    Calls Tryd.prog 15 #[.slice A l.length cp] w fun e w' => e = .returned (.int .u32 (crc l : Nat)) ∧ w' = w := by
  have HA := Lib.hid hA
  clear hA
  go_enter Tryd.func15, Tryd.ntmps15
  go_wp2_with fail
  go_loop [4, 3] (fun i c => ∃ (q y : Nat), i = .int .i64 q ∧ c = .int .u32 y ∧ q ≤ l.length ∧ y < 4294967296 ∧ Hid (y = crcL (l.take q) 4294967295)) (fun i _ => l.length - (intOf i).toNat)
  case atStart => exact ⟨0, 4294967295, by go_num, rfl, by omega, by omega, Lib.hid rfl⟩
  case round =>
    obtain ⟨q, y, rfl, rfl, hq, hy, HY⟩ := hrel
    by_cases hlt2 : q < l.length
    · rcases HA.out with h | ⟨b2, o2, rfl, hcell2⟩
      · have := congrArg List.length h; rw [bv_length] at this; simp at this; subst this; simp at hlt2
      have c2 := hcell2 q _ (bv_get l q hlt2)
      have hst := crcL_take l q 4294967295 hlt2
      rw [← HY.out] at hst
      have hd2 := l[q].toNat_lt
      generalize l[q].toNat = z at *
      have hyz : y ^^^ z < 4294967296 := Nat.xor_lt_two_pow (n := 32) hy (by omega)
      have e1 := u32_xor_nat y z hy (by omega)
      have HST := Lib.hid hst
      have HCB := Lib.hid (show crcB y z = bitN 8 (y ^^^ z) from rfl)
      generalize y ^^^ z = v at *
      have i2 : (q : Int) < (l.length : Int) := by omega
      clear hcell2 hst
      go_wp2_with fail
      go_loop [5, 3] (fun i c => ∃ (k x : Nat), i = .int .i64 k ∧ c = .int .u32 x ∧ k ≤ 8 ∧ x < 4294967296 ∧ Hid (x = bitN k v)) (fun i _ => 20 - (intOf i).toNat)
      case atStart => exact ⟨0, v, by go_num, rfl, by omega, hyz, Lib.hid rfl⟩
      case round =>
        obtain ⟨k, x, rfl, rfl, hk, hx, HX⟩ := hrel
        by_cases hk8 : k < 8
        · have a1 := and1 x hx
          have hl1 := bit1_lt x hx
          have hs : bit1 x = bitN (k + 1) v := by rw [bitN_succ, ← HX.out]
          have HS := Lib.hid hs
          clear hs
          by_cases ho : x % 2 = 1
          · have b1 := bit1_odd x hx ho
            rw [ho] at a1
            generalize bit1 x = x1 at *
            go_wp2_with fail
            go_round
            case rel => exact ⟨k + 1, x1, by go_num, rfl, by omega, hl1, HS⟩
            case measure => simp [intOf]; omega
          · have b1 := bit1_even x ho
            have h0 : x % 2 = 0 := by omega
            rw [h0] at a1
            generalize bit1 x = x1 at *
            go_wp2_with fail
            go_round
            case rel => exact ⟨k + 1, x1, by go_num, rfl, by omega, hl1, HS⟩
            case measure => simp [intOf]; omega
        · obtain rfl : k = 8 := by omega
          go_wp2_with fail
          go_round
          case rel => exact ⟨q + 1, x, by go_num, rfl, by omega, hx, Lib.hid (by rw [HST.out, HCB.out, HX.out])⟩
          case measure => simp [intOf]; omega
    · obtain rfl : q = l.length := by omega
      have hY := HY.out
      rw [List.take_of_length_le (Nat.le_refl _)] at hY
      have hfin : bits .xor .u32 IntKind.u32.max (y : Int) = ((crc l : Nat) : Int) := by rw [not32 y hy, crc, ← hY]
      have HF := Lib.hid hfin
      clear hY hfin
      go_wp2_with fail
      go_ret
      rw [HF.out]
      exact ⟨rfl, rfl⟩
end Wire
end Go.Proofs.YtammcnencaemfaaDoor
