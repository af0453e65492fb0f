/- Joined texts: WireJ, WireX. -/
import Derived.Test.YtpoljpjcmigobaaDoorJ3
import Derived.Deep.RegionWith
/- The walk of the reference's TakeInt. -/
namespace Go.Proofs.YtpoljpjcmigobaaDoor
set_option linter.unusedVariables false
set_option linter.unusedSimpArgs false
open Go.RowKit K
namespace Wire

/-- the first k bytes' number -/
def uv (l : List UInt8) (k : Nat) : Nat := valU (l.take k) % 18446744073709551616

theorem uv_lt (l : List UInt8) (k : Nat) : uv l k < 18446744073709551616 := Nat.mod_lt _ (by decide)

theorem dec_of_take (l : List UInt8) (k : Nat) (n : Int) (hn : In64 n) (h : l.take k = enc n) (hk : k ≤ l.length) : dec l = some (n, k) := by
  have h1 := dec_enc n hn (l.drop k)
  rw [← h, List.take_append_drop, List.length_take, Nat.min_eq_left hk] at h1
  exact h1

theorem uv_take (l : List UInt8) (k : Nat) (n : Int) (hn : In64 n) (h : l.take k = enc n) : unzig (uv l k) = n := by
  unfold uv
  rw [h, enc, valU_encU _ _ (Nat.le_refl _), Nat.mod_eq_of_lt (zig_lt n hn), unzig_zig]

theorem or_step (x d i : Nat) (hi : i ≤ 9) (hx : x < 128 ^ i) (hd : d < 256) :
    bits .or .u64 (x : Int) (IntKind.u64.wrap (IntKind.u64.wrap (bits .and .u8 (d : Int) 127) * 2 ^ (7 * i))) = (((x + 128 ^ i * (d % 128)) % 18446744073709551616 : Nat) : Int) := by
  have hw : IntKind.u64.wrap (bits .and .u8 (d : Int) 127) = ((d % 128 : Nat) : Int) := by rw [byte_and d hd, IntKind.wrap_u64]; omega
  rw [hw]
  rcases Nat.lt_or_ge i 9 with h | h
  · have hm := mul_pow_lt (d % 128) i (by omega) (by omega)
    have h1 : 128 ^ i ≤ 128 ^ 8 := Nat.pow_le_pow_right (by decide) (by omega)
    have h2 : d % 128 * 128 ^ i ≤ 127 * 128 ^ 8 := Nat.mul_le_mul (by omega) h1
    have h3 : x + d % 128 * 128 ^ i < 128 ^ i + 127 * 128 ^ 8 := Nat.add_lt_add_of_lt_of_le hx h2
    have h4 : 128 ^ i + 127 * 128 ^ 8 ≤ 128 ^ 8 + 127 * 128 ^ 8 := Nat.add_le_add_right h1 _
    have h5 : 128 ^ 8 + 127 * 128 ^ 8 < 18446744073709551616 := by decide
    have h6 : x + 128 ^ i * (d % 128) < 18446744073709551616 := by
      rw [Nat.mul_comm (128 ^ i)]; exact Nat.lt_of_lt_of_le h3 (Nat.le_trans h4 (Nat.le_of_lt h5))
    rw [shl7 _ _ hm, or_add _ _ _ hi hx hm, Nat.mod_eq_of_lt h6]
  · obtain rfl : i = 9 := by omega
    have hw2 : IntKind.u64.wrap (((d % 128 : Nat) : Int) * 2 ^ (7 * 9)) = ((d % 2 * 128 ^ 9 : Nat) : Int) := by
      rw [IntKind.wrap_u64, show (2 : Int) ^ (7 * 9) = 9223372036854775808 by decide]; omega
    rw [hw2, or_add _ _ _ (by omega) hx (by omega)]
    congr 1
    omega

theorem uv_succ (l : List UInt8) (i : Nat) (h : i < l.length) : uv l (i + 1) = (uv l i + 128 ^ i * (l[i].toNat % 128)) % 18446744073709551616 := by
  unfold uv
  rw [valU_take l i h]; omega
theorem uv_small (l : List UInt8) (i : Nat) : uv l i < 128 ^ i := by
  have h1 := valU_take_lt l i
  have h2 : valU (l.take i) % 18446744073709551616 ≤ valU (l.take i) := Nat.mod_le _ _
  unfold uv; omega

set_option maxRecDepth 100000 in
set_option maxHeartbeats 1000000 in
theorem refTakeInt_calls (A : Option Addr) (c : Nat) (l : List UInt8) (at_ : Int) (w : World) (hA : Cells w A (bv l)) (hl : l.length ≤ 140737488355328) (hc : l.length ≤ c) (hc2 : c ≤ maxLen) (hadr : Adr A c) :
    Calls Tryd.prog 110 #[.slice A l.length c, .int .i64 at_] w fun e w' => e = .returned (vI (takeI l at_)) ∧ Mod (fun _ => False) w w' := by
  unfold maxLen at hc2
  by_cases hin : 0 ≤ at_ ∧ at_ ≤ (l.length : Int)
  · obtain ⟨h0, h1⟩ := hin
    obtain ⟨p, rfl⟩ := Int.eq_ofNat_of_zero_le h0
    have hp : p ≤ l.length := by omega
    have HA := Lib.hid hA
    clear hA
    have d0 : decide ((p : Int) < 0) = false := by simp
    have d1 : decide (l.length < p) = false := by simp; omega
    go_enter Tryd.func110, Tryd.ntmps110
    go_wp2_with fail
    go_loopw [7] (fun k w' => ∃ (j : Nat), k = .int .i64 j ∧ 1 ≤ j ∧ j ≤ 11 ∧ Hid (∀ i, 1 ≤ i → i < j → i ≤ l.length - p → (l.drop p).take i ≠ enc (unzig (uv (l.drop p) i))) ∧ Hid (Mod (fun _ => False) w w')) (fun k _ => 20 - (intOf k).toNat)
    case atStart => exact ⟨1, by go_num, by omega, by omega, Lib.hid (fun i h1 h2 => by omega), Lib.hid (Mod.refl _ _)⟩
    case round =>
      obtain ⟨j, rfl, hj1, hj2, HN, HM⟩ := hrel
      by_cases hlt : j ≤ 10 ∧ j ≤ l.length - p
      · obtain ⟨hj3, hj4⟩ := hlt
        have hj5 : (j : Int) ≤ (l.length : Int) - (p : Int) := by omega
        obtain ⟨wo, rfl⟩ : ∃ wo : World, wo = wr := ⟨_, rfl⟩
        obtain h | ⟨b, o, rfl⟩ := hadr
        · omega
        have hcell : ∀ j u, (bv l)[j]? = some u → wo.cell? ⟨b, o + j, none⟩ = some u := by
          rcases HA.out with h | ⟨b', o', hb, hcell⟩
          · intro j u hj; rw [h] at hj; simp at hj
          · obtain ⟨rfl, rfl⟩ : b = b' ∧ o = o' := by simpa using hb
            intro j u hj
            have := hcell j u hj
            rw [HM.out.cell (World.block_lt_of_cell? w _ this) (fun h => h)]; exact this
        have HC := Lib.hid hcell
        clear hcell HA
        go_wp2_with fail
        go_loop [8, 9] (fun u i => ∃ (q : Nat), i = .int .i64 q ∧ q ≤ j ∧ u = .int .u64 (uv (l.drop p) q)) (fun _ i => j - (intOf i).toNat)
        case atStart => exact ⟨0, by go_num, by omega, rfl⟩
        case round =>
          obtain ⟨q, rfl, hq, rfl⟩ := hrel
          by_cases hlt2 : q < j
          · have hus := uv_succ (l.drop p) q (by simp; omega)
            have hsm := uv_small (l.drop p) q
            simp only [List.getElem_drop] at hus
            have hd : (bv l)[p + q]? = some (.int .u8 (l[p + q].toNat : Int)) := bv_get l _ (by omega)
            have c1 := HC.out _ _ hd
            have hd2 := l[p + q].toNat_lt
            generalize l[p + q].toNat = d at *
            generalize uv (l.drop p) q = x at *
            have HUS := Lib.hid hus
            have HOS := Lib.hid (or_step x d q (by omega) hsm hd2)
            have i1 : (p : Int) + (q : Int) < (l.length : Int) := by omega
            clear hus HC hd
            go_wp2_with fail
            go_round
            case rel => exact ⟨q + 1, by go_num, by omega, by rw [HUS.out, HOS.out]⟩
            case measure => simp [intOf]; omega
          · obtain rfl : q = j := by omega
            have hu := uv_lt (l.drop p) q
            obtain ⟨x, hx⟩ : ∃ x, uv (l.drop p) q = x := ⟨_, rfl⟩
            rw [hx] at hu ⊢
            have HX := Lib.hid hx
            clear hx
            have hin : In64 (unzig x) := unzig_in x hu
            obtain ⟨m, hm⟩ : ∃ m, unzig x = m := ⟨_, rfl⟩
            rw [hm] at hin
            have HMM := Lib.hid hm
            clear hm
            have hS : Cells wo (some ⟨b, o + p, none⟩) (bv ((l.drop p).take q)) := .inr ⟨b, o + p, rfl, fun j u hj => by
              rw [bv_take, List.getElem?_take] at hj
              split at hj
              · rw [bv_drop, List.getElem?_drop] at hj
                rw [Nat.add_assoc]; exact HC.out _ u hj
              · cases hj⟩
            have hlen : ((l.drop p).take q).length = q := by simp; omega
            obtain ⟨T, hT⟩ : ∃ T, (l.drop p).take q = T := ⟨_, rfl⟩
            rw [hT] at hS hlen
            have hcv : ∀ w', Mod (fun _ => False) wo.drew w' → (convert 111 9 (.slice (some ⟨b, o + p, none⟩) q (c - p))).run Tryd.prog w' = .ok (.string ⟨T.toArray⟩) w' := fun w' hm => by
              have := run_bytes (P := Tryd.prog) (c - p) (Cells.keep (S := fun _ => False) hS (Mod.of_drew_l hm) (fun _ _ h => h)) 111 9 5 Tryd.underlying111 Tryd.underlying5 Tryd.underlying9
              rw [hlen] at this
              exact this
            have hrf : Mod (fun _ => False) wo.drew wo.drew := Mod.refl _ _
            have HTT := Lib.hid hT
            have hsl := fun w' => run_slice2 (P := Tryd.prog) w' 111 5 b o l.length c p q Tryd.underlying111 rfl (by omega) (by omega)
            have i1 : (p : Int) + (q : Int) ≤ (l.length : Int) := by omega
            have hsum : IntKind.i64.wrap ((p : Int) + (q : Int)) = (p : Int) + (q : Int) := by rw [IntKind.wrap_i64]; omega
            clear hT hS hlen HC
            by_cases hodd : x % 2 = 1
            · have hm2 : -((x : Int) / 2) - 1 = m := by rw [← HMM.out, unzig, if_neg (by omega)]; omega
              by_cases heq : enc m = T
              · have hfin := takeI_some l p m q hp (dec_of_take _ _ _ hin (by rw [HTT.out, heq]) (by simp; omega))
                have HF := Lib.hid hfin
                have hstr2 : (enc m == T) = true := by simp [heq]
                clear heq hfin
                go_wp2_with fail
                go_region_with (first
                  | (go_at_call 81; refine (refInt_calls m _ hin).mono ?_; rintro e w1 ⟨v, rfl, hown, hm1⟩; obtain ⟨B, cap, rfl, hcap, hB, -, -⟩ := own_cells hown; have hcv2 := run_bytes (P := Tryd.prog) cap hB 111 9 5 Tryd.underlying111 Tryd.underlying5 Tryd.underlying9))
                all_goals
                  go_wp2_with fail
                  go_ret3
                  rw [HF.out]
                  exact ⟨rfl, (Mod.trans HM.out (Mod.of_drew_l hm1) (fun _ _ h => h))⟩
              · have hstr2 : (enc m == T) = false := by simp [heq]
                have HE := Lib.hid heq
                clear heq
                go_wp2_with fail
                go_region_with (first
                  | (go_at_call 81; refine (refInt_calls m _ hin).mono ?_; rintro e w1 ⟨v, rfl, hown, hm1⟩; obtain ⟨B, cap, rfl, hcap, hB, -, -⟩ := own_cells hown; have hcv2 := run_bytes (P := Tryd.prog) cap hB 111 9 5 Tryd.underlying111 Tryd.underlying5 Tryd.underlying9))
                all_goals
                  go_wp2_with fail
                  go_roundw
                  case rel => exact ⟨q + 1, by go_num, by omega, by omega, Lib.hid (fun i h1 h2 h3 => by
                    by_cases hiq : i = q
                    · subst hiq; rw [HTT.out, HX.out, HMM.out]; exact fun h => HE.out h.symm
                    · exact HN.out i h1 (by omega) h3), Lib.hid (Mod.trans HM.out (Mod.of_drew_l hm1) (fun _ _ h => h))⟩
                  case measure => simp [intOf]; omega
            · have hm2 : (x : Int) / 2 = m := by rw [← HMM.out, unzig, if_pos (by omega)]; omega
              by_cases heq : enc m = T
              · have hfin := takeI_some l p m q hp (dec_of_take _ _ _ hin (by rw [HTT.out, heq]) (by simp; omega))
                have HF := Lib.hid hfin
                have hstr2 : (enc m == T) = true := by simp [heq]
                clear heq hfin
                go_wp2_with fail
                go_region_with (first
                  | (go_at_call 81; refine (refInt_calls m _ hin).mono ?_; rintro e w1 ⟨v, rfl, hown, hm1⟩; obtain ⟨B, cap, rfl, hcap, hB, -, -⟩ := own_cells hown; have hcv2 := run_bytes (P := Tryd.prog) cap hB 111 9 5 Tryd.underlying111 Tryd.underlying5 Tryd.underlying9))
                all_goals
                  go_wp2_with fail
                  go_ret3
                  rw [HF.out]
                  exact ⟨rfl, (Mod.trans HM.out (Mod.of_drew_l hm1) (fun _ _ h => h))⟩
              · have hstr2 : (enc m == T) = false := by simp [heq]
                have HE := Lib.hid heq
                clear heq
                go_wp2_with fail
                go_region_with (first
                  | (go_at_call 81; refine (refInt_calls m _ hin).mono ?_; rintro e w1 ⟨v, rfl, hown, hm1⟩; obtain ⟨B, cap, rfl, hcap, hB, -, -⟩ := own_cells hown; have hcv2 := run_bytes (P := Tryd.prog) cap hB 111 9 5 Tryd.underlying111 Tryd.underlying5 Tryd.underlying9))
                all_goals
                  go_wp2_with fail
                  go_roundw
                  case rel => exact ⟨q + 1, by go_num, by omega, by omega, Lib.hid (fun i h1 h2 h3 => by
                    by_cases hiq : i = q
                    · subst hiq; rw [HTT.out, HX.out, HMM.out]; exact fun h => HE.out h.symm
                    · exact HN.out i h1 (by omega) h3), Lib.hid (Mod.trans HM.out (Mod.of_drew_l hm1) (fun _ _ h => h))⟩
                  case measure => simp [intOf]; omega
      · have hdec : dec (l.drop p) = none := by
          cases hd : dec (l.drop p) with
          | none => rfl
          | some r =>
            obtain ⟨n, k⟩ := r
            obtain ⟨h1, h2, h3, h4, h5⟩ := dec_some _ _ _ hd
            simp only [List.length_drop] at h4
            exact absurd (by rw [uv_take _ _ _ h1 h5]; exact h5) (HN.out k h2 (by omega) h4)
        have hfin := takeI_none l p hp hdec
        have HF := Lib.hid hfin
        have hcnd : (decide ((j : Int) ≤ 10) && decide ((j : Int) ≤ (l.length : Int) - (p : Int))) = false := by
          simp; omega
        clear hfin hdec
        by_cases hj10 : j ≤ 10
        · have hj6 : (l.length : Int) - (p : Int) < (j : Int) := by omega
          go_wp2_with fail
          go_ret3
          rw [HF.out]
          exact ⟨rfl, HM.out⟩
        · obtain rfl : j = 11 := by omega
          go_wp2_with fail
          go_ret3
          rw [HF.out]
          exact ⟨rfl, HM.out⟩
  · have hfin : takeI l at_ = (0, 0, false) := by unfold takeI; rw [if_pos (by omega)]
    have HF := Lib.hid hfin
    clear hfin hA
    by_cases h0 : at_ < 0
    · go_enter Tryd.func110, Tryd.ntmps110
      go_wp2_with fail
      go_ret3
      exact ⟨by rw [HF.out]; rfl, Mod.refl _ _⟩
    · have h1 : (l.length : Int) < at_ := by omega
      clear hin
      go_enter Tryd.func110, Tryd.ntmps110
      go_wp2_with fail
      go_ret3
      exact ⟨by rw [HF.out]; rfl, Mod.refl _ _⟩
end Wire
end Go.Proofs.YtpoljpjcmigobaaDoor
/- The walks of wire.TakeText and of the reference's TakeText. -/
namespace Go.Proofs.YtpoljpjcmigobaaDoor
set_option linter.unusedVariables false
set_option linter.unusedSimpArgs false
open Go.RowKit K
namespace Wire

/-- what TakeText tells -/
def takeT (l : List UInt8) (at_ most : Int) : List UInt8 × Int × Bool :=
  let r := takeI l at_
  if r.2.2 = false ∨ r.1 < 0 ∨ most < r.1 ∨ (l.length : Int) - r.2.1 < r.1 then ([], 0, false)
  else ((l.drop r.2.1.toNat).take r.1.toNat, r.2.1 + r.1, true)

def vT (r : List UInt8 × Int × Bool) : Value := .tuple #[.string ⟨r.1.toArray⟩, .int .i64 r.2.1, .bool r.2.2]

theorem takeI_cases (l : List UInt8) (at_ : Int) : takeI l at_ = (0, 0, false) ∨ ∃ (n : Int) (p k : Nat), at_ = p ∧ 0 < k ∧ k ≤ 10 ∧ p + k ≤ l.length ∧ In64 n ∧ dec (l.drop p) = some (n, k) ∧ takeI l at_ = (n, ((p + k : Nat) : Int), true) := by
  by_cases h : at_ < 0 ∨ (l.length : Int) < at_
  · left; unfold takeI; rw [if_pos h]
  · obtain ⟨p, rfl⟩ := Int.eq_ofNat_of_zero_le (show 0 ≤ at_ by omega)
    cases hd : dec (l.drop p) with
    | none => left; exact takeI_none l p (by omega) hd
    | some r =>
      obtain ⟨n, k⟩ := r
      obtain ⟨h1, h2, h3, h4, h5⟩ := dec_some _ _ _ hd
      simp only [List.length_drop] at h4
      right
      refine ⟨n, p, k, rfl, h2, h3, by omega, h1, hd, ?_⟩
      rw [takeI_some l p n k (by omega) hd]; simp

set_option maxRecDepth 100000 in
set_option maxHeartbeats 1000000 in
theorem takeText_calls (A : Option Addr) (c : Nat) (l : List UInt8) (at_ most : Int) (w : World) (hA : Cells w A (bv l)) (hl : l.length ≤ 140737488355328) (hc : l.length ≤ c) (hc2 : c ≤ maxLen) (hadr : Adr A c) :
    Calls Tryd.prog 108 #[.slice A l.length c, .int .i64 at_, .int .i64 most] w fun e w' => e = .returned (vT (takeT l at_ most)) ∧ w' = w := by
  have hp := takeInt_calls A c l at_ w hA hl hc hc2 hadr
  unfold maxLen at hc2
  rcases takeI_cases l at_ with h | ⟨n, p, k, rfl, hk, -, hpk, hn, -, h⟩
  · have hfin : takeT l at_ most = ([], 0, false) := by unfold takeT; rw [h]; rfl
    rw [h] at hp
    have HP := Lib.hid hp
    have HF := Lib.hid hfin
    clear hp hfin hA h
    go_enter Tryd.func108, Tryd.ntmps108
    go_wp2_with fail
    refine HP.out.mono ?_
    rintro e w1 ⟨rfl, hm⟩
    subst hm
    unfold vI
    go_wp2_with fail
    go_ret3
    rw [HF.out]
    exact ⟨rfl, rfl⟩
  · rw [h] at hp
    have HP := Lib.hid hp
    unfold In64 at hn
    have hlo : ((p + k : Nat) : Int) ≤ (l.length : Int) := by omega
    by_cases hok : 0 ≤ n ∧ n ≤ most ∧ n ≤ (l.length : Int) - ((p + k : Nat) : Int)
    · obtain ⟨h0, h1, h2⟩ := hok
      have hfin : takeT l (p : Int) most = ((l.drop (p + k)).take n.toNat, ((p + k : Nat) : Int) + n, true) := by
        unfold takeT; rw [h]; dsimp only; rw [if_neg (by simp; omega), Int.toNat_natCast]
      obtain ⟨q, rfl⟩ := Int.eq_ofNat_of_zero_le h0
      rw [Int.toNat_natCast] at hfin
      obtain ⟨A', hsl, hadr', hA'⟩ := slice_any (P := Tryd.prog) 111 5 (p + k) q hA hadr Tryd.underlying111 rfl (by omega) hc
      have hln : ((l.drop (p + k)).take q).length = q := by simp; omega
      obtain ⟨T, hT⟩ : ∃ T, (l.drop (p + k)).take q = T := ⟨_, rfl⟩
      rw [hT] at hA' hfin hln
      have hcv : ∀ w', Mod (fun _ => False) w w' → (convert 111 9 (.slice A' q (c - (p + k)))).run Tryd.prog w' = .ok (.string ⟨T.toArray⟩) w' := fun w' hm => by
        have := run_bytes (P := Tryd.prog) (c - (p + k)) (Cells.keep (S := fun _ => False) hA' hm (fun _ _ h => h)) 111 9 5 Tryd.underlying111 Tryd.underlying5 Tryd.underlying9
        rw [hln] at this
        exact this
      have HF := Lib.hid hfin
      have HC := Lib.hid hcv
      generalize p + k = r at *
      clear hp hfin hA h hT hA' hcv hadr'
      go_enter Tryd.func108, Tryd.ntmps108
      go_wp2_with fail
      refine HP.out.mono ?_
      rintro e w1 ⟨rfl, hm⟩
      subst hm
      have hcv := HC.out _ (Mod.refl _ _)
      unfold vI
      go_wp2_with fail
      go_ret3
      rw [HF.out]
      exact ⟨rfl, rfl⟩
    · have hfin : takeT l (p : Int) most = ([], 0, false) := by
        unfold takeT; rw [h]; dsimp only; rw [if_pos (by simp; omega)]
      have HF := Lib.hid hfin
      generalize p + k = r at *
      have hcases : n < 0 ∨ (0 ≤ n ∧ most < n) ∨ (0 ≤ n ∧ n ≤ most ∧ (l.length : Int) - (r : Int) < n) := by omega
      clear hp hfin hA h hok
      rcases hcases with hx | ⟨hx1, hx⟩ | ⟨hx1, hx2, hx⟩
      all_goals
        go_enter Tryd.func108, Tryd.ntmps108
        go_wp2_with fail
        refine HP.out.mono ?_
        rintro e w1 ⟨rfl, hm⟩
        subst hm
        unfold vI
        go_wp2_with fail
        go_ret3
        rw [HF.out]
        exact ⟨rfl, rfl⟩

set_option maxRecDepth 100000 in
set_option maxHeartbeats 1000000 in
theorem refTakeText_calls (A : Option Addr) (c : Nat) (l : List UInt8) (at_ most : Int) (w : World) (hA : Cells w A (bv l)) (hl : l.length ≤ 140737488355328) (hc : l.length ≤ c) (hc2 : c ≤ maxLen) (hadr : Adr A c) :
    Calls Tryd.prog 109 #[.slice A l.length c, .int .i64 at_, .int .i64 most] w fun e w' => e = .returned (vT (takeT l at_ most)) ∧ Mod (fun _ => False) w w' := by
  have hp := refTakeInt_calls A c l at_ w hA hl hc hc2 hadr
  unfold maxLen at hc2
  rcases takeI_cases l at_ with h | ⟨n, p, k, rfl, hk, -, hpk, hn, -, h⟩
  · have hfin : takeT l at_ most = ([], 0, false) := by unfold takeT; rw [h]; rfl
    rw [h] at hp
    have HP := Lib.hid hp
    have HF := Lib.hid hfin
    clear hp hfin hA h
    go_enter Tryd.func109, Tryd.ntmps109
    go_wp2_with fail
    refine HP.out.mono ?_
    rintro e w1 ⟨rfl, hm⟩
    have HM := Lib.hid hm; clear hm
    unfold vI
    go_wp2_with fail
    go_ret3
    rw [HF.out]
    exact ⟨rfl, HM.out⟩
  · rw [h] at hp
    have HP := Lib.hid hp
    unfold In64 at hn
    have hlo : ((p + k : Nat) : Int) ≤ (l.length : Int) := by omega
    by_cases hok : 0 ≤ n ∧ n ≤ most ∧ n ≤ (l.length : Int) - ((p + k : Nat) : Int)
    · obtain ⟨h0, h1, h2⟩ := hok
      have hfin : takeT l (p : Int) most = ((l.drop (p + k)).take n.toNat, ((p + k : Nat) : Int) + n, true) := by
        unfold takeT; rw [h]; dsimp only; rw [if_neg (by simp; omega), Int.toNat_natCast]
      obtain ⟨q, rfl⟩ := Int.eq_ofNat_of_zero_le h0
      rw [Int.toNat_natCast] at hfin
      obtain ⟨A', hsl, hadr', hA'⟩ := slice_any (P := Tryd.prog) 111 5 (p + k) q hA hadr Tryd.underlying111 rfl (by omega) hc
      have hln : ((l.drop (p + k)).take q).length = q := by simp; omega
      obtain ⟨T, hT⟩ : ∃ T, (l.drop (p + k)).take q = T := ⟨_, rfl⟩
      rw [hT] at hA' hfin hln
      have hcv : ∀ w', Mod (fun _ => False) w w' → (convert 111 9 (.slice A' q (c - (p + k)))).run Tryd.prog w' = .ok (.string ⟨T.toArray⟩) w' := fun w' hm => by
        have := run_bytes (P := Tryd.prog) (c - (p + k)) (Cells.keep (S := fun _ => False) hA' hm (fun _ _ h => h)) 111 9 5 Tryd.underlying111 Tryd.underlying5 Tryd.underlying9
        rw [hln] at this
        exact this
      have HF := Lib.hid hfin
      have HC := Lib.hid hcv
      generalize p + k = r at *
      clear hp hfin hA h hT hA' hcv hadr'
      go_enter Tryd.func109, Tryd.ntmps109
      go_wp2_with fail
      refine HP.out.mono ?_
      rintro e w1 ⟨rfl, hm⟩
      have HM := Lib.hid hm; clear hm
      have hcv := HC.out _ HM.out
      unfold vI
      go_wp2_with fail
      go_ret3
      rw [HF.out]
      exact ⟨rfl, HM.out⟩
    · have hfin : takeT l (p : Int) most = ([], 0, false) := by
        unfold takeT; rw [h]; dsimp only; rw [if_pos (by simp; omega)]
      have HF := Lib.hid hfin
      generalize p + k = r at *
      have hcases : n < 0 ∨ (0 ≤ n ∧ most < n) ∨ (0 ≤ n ∧ n ≤ most ∧ (l.length : Int) - (r : Int) < n) := by omega
      clear hp hfin hA h hok
      rcases hcases with hx | ⟨hx1, hx⟩ | ⟨hx1, hx2, hx⟩
      all_goals
        go_enter Tryd.func109, Tryd.ntmps109
        go_wp2_with fail
        refine HP.out.mono ?_
        rintro e w1 ⟨rfl, hm⟩
        have HM := Lib.hid hm; clear hm
        unfold vI
        go_wp2_with fail
        go_ret3
        rw [HF.out]
        exact ⟨rfl, HM.out⟩
end Wire
end Go.Proofs.YtpoljpjcmigobaaDoor
