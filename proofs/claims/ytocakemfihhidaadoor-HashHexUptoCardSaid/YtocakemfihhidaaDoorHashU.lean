/- The plain law of hexadecimal digits, and the walk of hash.Unhex. -/
import Derived.Test.YtocakemfihhidaaDoorHashJ
namespace Go.Proofs.YtocakemfihhidaaDoor
open Go.RowKit K
namespace Hash

/-- a digit's value; 16: it is none -/
def dg (c : UInt8) : Nat := if 48 ≤ c.toNat ∧ c.toNat ≤ 57 then c.toNat - 48 else if 97 ≤ c.toNat ∧ c.toNat ≤ 102 then c.toNat - 87 else 16
theorem dg_le (c : UInt8) : dg c ≤ 16 := by unfold dg; split <;> (try split) <;> omega
theorem all256 {p : UInt8 → Prop} (h : ∀ i : Fin 256, p (UInt8.ofNat i.val)) (c : UInt8) : p c := by
  have := h ⟨c.toNat, c.toNat_lt⟩
  simpa using this
theorem index_dg (c : UInt8) : Lib.indexByte digitsL c = if dg c < 16 then (dg c : Int) else -1 := by
  refine all256 (p := fun c => Lib.indexByte digitsL c = if dg c < 16 then (dg c : Int) else -1) ?_ c
  decide +kernel
theorem digit_dg (i : Nat) (h : i < 16) : dg (digitsL.getD i 0) = i := by
  have : ∀ i : Fin 16, dg (digitsL.getD i.val 0) = i.val := by decide
  exact this ⟨i, h⟩
theorem dg_digit (c : UInt8) (h : dg c < 16) : digitsL.getD (dg c) 0 = c := by
  have := all256 (p := fun c => dg c < 16 → digitsL.getD (dg c) 0 = c) (by decide +kernel) c
  exact this h

def unhexL : List UInt8 → Option (List UInt8)
  | [] => some []
  | [_] => none
  | x :: y :: r => if dg x < 16 ∧ dg y < 16 then (unhexL r).map (UInt8.ofNat (dg x * 16 + dg y) :: ·) else none

theorem unhex_odd : ∀ (n : Nat) (l : List UInt8), l.length = 2 * n + 1 → unhexL l = none
  | 0, [_], _ => rfl
  | n + 1, x :: y :: r, h => by
    have ih := unhex_odd n r (by simp at h; omega)
    unfold unhexL
    rw [ih]; split <;> rfl
  | 0, [], h => by simp at h
  | 0, _ :: _ :: _, h => by simp at h
  | n + 1, [], h => by simp at h
  | n + 1, [_], h => by simp at h
theorem unhex_hex : ∀ (l : List UInt8), unhexL (hex l) = some l
  | [] => rfl
  | c :: l => by
    have ih := unhex_hex l
    have h1 : dg (digitsL.getD (c.toNat / 16) 0) = c.toNat / 16 := digit_dg _ (by have := c.toNat_lt; omega)
    have h2 : dg (digitsL.getD (c.toNat % 16) 0) = c.toNat % 16 := digit_dg _ (by omega)
    have e : hex (c :: l) = digitsL.getD (c.toNat / 16) 0 :: digitsL.getD (c.toNat % 16) 0 :: hex l := rfl
    rw [e, unhexL, h1, h2, if_pos ⟨by have := c.toNat_lt; omega, by omega⟩, ih]
    have e3 : c.toNat / 16 * 16 + c.toNat % 16 = c.toNat := by omega
    rw [e3]; simp
theorem hex_unhex : ∀ (n : Nat) (l b : List UInt8), l.length ≤ n → unhexL l = some b → hex b = l
  | _, [], b, _, h => by simp [unhexL] at h; subst h; rfl
  | _, [_], b, _, h => by simp [unhexL] at h
  | 0, _ :: _ :: _, _, hl, _ => by simp at hl
  | n + 1, x :: y :: r, b, hl, h => by
    unfold unhexL at h
    split at h
    · rename_i hd
      obtain ⟨b', hb, rfl⟩ := Option.map_eq_some_iff.1 h
      have ih := hex_unhex n r b' (by simp at hl; omega) hb
      have ht : (UInt8.ofNat (dg x * 16 + dg y)).toNat = dg x * 16 + dg y := by
        rw [UInt8.toNat_ofNat']; omega
      have e : hex (UInt8.ofNat (dg x * 16 + dg y) :: b') = digitsL.getD ((UInt8.ofNat (dg x * 16 + dg y)).toNat / 16) 0 :: digitsL.getD ((UInt8.ofNat (dg x * 16 + dg y)).toNat % 16) 0 :: hex b' := rfl
      rw [e, ht, show (dg x * 16 + dg y) / 16 = dg x by omega, show (dg x * 16 + dg y) % 16 = dg y by omega, dg_digit x hd.1, dg_digit y hd.2, ih]
    · cases h
theorem unhex_len : ∀ (n : Nat) (l b : List UInt8), l.length ≤ n → unhexL l = some b → l.length = 2 * b.length
  | _, [], b, _, h => by simp [unhexL] at h; subst h; rfl
  | _, [_], b, _, h => by simp [unhexL] at h
  | 0, _ :: _ :: _, _, hl, _ => by simp at hl
  | n + 1, x :: y :: r, b, hl, h => by
    unfold unhexL at h
    split at h
    · obtain ⟨b', hb, rfl⟩ := Option.map_eq_some_iff.1 h
      have ih := unhex_len n r b' (by simp at hl; omega) hb
      simp; omega
    · cases h

/-- what Unhex answers -/
def unhexA (l : List UInt8) : List UInt8 × Bool := match unhexL l with
  | some b => (b, true)
  | none => ([], false)

theorem be_set2 (acc : List UInt8) (m : Nat) (z : UInt8) (h : 0 < m) : (bv (acc ++ List.replicate m 0)).set acc.length (.int .u8 (z.toNat : Int)) = bv ((acc ++ [z]) ++ List.replicate (m - 1) 0) := by
  obtain ⟨k, rfl⟩ : ∃ k, m = k + 1 := ⟨m - 1, by omega⟩
  rw [List.replicate_succ, bv_append, List.set_append_right _ _ (by rw [bv_length]; omega), bv_length, Nat.sub_self, List.append_assoc, bv_append]
  rfl
theorem be_cell2 (acc : List UInt8) (m : Nat) (h : 0 < m) : (bv (acc ++ List.replicate m 0))[acc.length]? = some (.int .u8 0) := by
  obtain ⟨k, rfl⟩ : ∃ k, m = k + 1 := ⟨m - 1, by omega⟩
  rw [List.replicate_succ, bv_append, List.getElem?_append_right (by rw [bv_length]; omega), bv_length, Nat.sub_self]
  rfl
theorem or16 : ∀ a b : Fin 16, bits .or .i64 ((a.val : Int) * 16) (b.val : Int) = ((a.val * 16 + b.val : Nat) : Int) := by decide +kernel

theorem digit_calls (c : UInt8) (w : World) : Calls Tryd.prog 23 #[.string ⟨#[48, 49, 50, 51, 52, 53, 54, 55, 56, 57, 97, 98, 99, 100, 101, 102]⟩, .int .u8 (c.toNat : Int)] w fun e w' => e = .returned (.int .i64 (if dg c < 16 then (dg c : Int) else -1)) ∧ w' = w := by
  have h := Tryd.strings_IndexByte ⟨#[48, 49, 50, 51, 52, 53, 54, 55, 56, 57, 97, 98, 99, 100, 101, 102]⟩ (c.toNat : Int) w
  rw [show ((c.toNat : Int)).toNat.toUInt8 = c by simp, show (⟨#[48, 49, 50, 51, 52, 53, 54, 55, 56, 57, 97, 98, 99, 100, 101, 102]⟩ : ByteArray).data.toList = digitsL from rfl, index_dg] at h
  exact h

set_option maxRecDepth 100000 in
set_option maxHeartbeats 4000000 in
theorem unhex_calls (a : ByteArray) (w : World) (ha : a.size ≤ 2097152) :
    Calls Tryd.prog 11 #[.string a] w fun e w' => e = .returned (.tuple #[.string ⟨(unhexA a.data.toList).1.toArray⟩, .bool (unhexA a.data.toList).2]) ∧ Mod (fun _ => False) w w' := by
  have hlen : a.data.toList.length = a.size := by simp
  by_cases hodd : a.size % 2 = 1
  · have hnone : unhexA a.data.toList = ([], false) := by unfold unhexA; rw [unhex_odd (a.size / 2) _ (by omega)]
    rw [hnone]
    have i1 : (a.size : Int) % 2 = 1 := by omega
    go_enter Tryd.func11, Tryd.ntmps11
    go_wp2_with fail
    go_ret2
    exact ⟨rfl, Mod.refl _ _⟩
  · obtain ⟨n, hn⟩ : ∃ n, a.size = 2 * n := ⟨a.size / 2, by omega⟩
    have hmk := make_bytes n (by omega) w
    have i1 : (a.size : Int) % 2 = 0 := by omega
    have i2 : (a.size : Int) / 2 = (n : Int) := by omega
    have HN := Lib.hid hn
    have hnb : n ≤ 1048576 := by omega
    clear hn hodd
    go_enter Tryd.func11, Tryd.ntmps11
    go_wp2_with fail
    clear i1 i2
    go_loopw [18] (fun i w' => ∃ (t : Nat) (acc : List UInt8), i = .int .i64 t ∧ t ≤ n ∧ acc.length = t ∧ Hid (unhexL a.data.toList = (unhexL (a.data.toList.drop (2 * t))).map (acc ++ ·)) ∧ Has w' w.heap.size (bv (acc ++ List.replicate (n - t) 0)) 5 ∧ Hid (Mod (fun _ => False) w w')) (fun i _ => n - (intOf i).toNat)
    case atStart => exact ⟨0, [], by go_num, by omega, rfl, Lib.hid (by rw [Nat.mul_zero, List.drop_zero]; cases unhexL a.data.toList <;> rfl), by simpa using Has.new w (bv (List.replicate n 0)) 5, Lib.hid (Mod.alloc (Mod.refl _ _) _)⟩
    case round =>
      obtain ⟨t, acc, rfl, ht, hal, HU, hh, HM⟩ := hrel
      by_cases hlt : t < n
      · have j1 : (t : Int) < (n : Int) := by omega
        have hnn := HN.out
        obtain ⟨k0, hk0⟩ : ∃ k : Nat, k = 2 * t := ⟨_, rfl⟩
        obtain ⟨k1, hk1⟩ : ∃ k : Nat, k = 2 * t + 1 := ⟨_, rfl⟩
        have l0 : k0 < a.size := by omega
        have l1 : k1 < a.size := by omega
        have j2 : (k0 : Int) < (a.size : Int) := by omega
        have j3 : (k1 : Int) < (a.size : Int) := by omega
        have q0 : Hid (IntKind.i64.wrap (2 * (t : Int)) = (k0 : Int)) := Lib.hid (by simp only [IntKind.wrap_i64]; omega)
        have q1 : Hid (IntKind.i64.wrap ((k0 : Int) + 1) = (k1 : Int)) := Lib.hid (by simp only [IntKind.wrap_i64]; omega)
        have hdr : a.data.toList.drop (2 * t) = a[k0] :: a[k1] :: a.data.toList.drop (2 * (t + 1)) := by
          rw [List.drop_eq_getElem_cons (by omega), List.drop_eq_getElem_cons (by omega)]
          subst hk0; subst hk1; rfl
        have hU := HU.out
        rw [hdr, unhexL] at hU
        obtain ⟨x, hx⟩ : ∃ x, a[k0] = x := ⟨_, rfl⟩
        obtain ⟨y, hy⟩ : ∃ y, a[k1] = y := ⟨_, rfl⟩
        have e1 : ∀ h : k0 < a.size, a[k0]'h = x := fun _ => hx
        have e2 : ∀ h : k1 < a.size, a[k1]'h = y := fun _ => hy
        have hxl : dg x ≤ 16 := dg_le x
        have hyl : dg y ≤ 16 := dg_le y
        rw [hx, hy] at hU
        have HD1 := Lib.hid (digit_calls x)
        have HD2 := Lib.hid (digit_calls y)
        have HH := Lib.hid hh
        clear hdr hh hnn hk0 hk1 hx hy HU
        go_wp2_with fail
        refine region_tail 11 (by kernel_rfl) (by kernel_rfl) ?_
        simp only [List.take_succ_cons, List.take_zero, List.drop_succ_cons, List.drop_zero]
        repeat still_step
        simp only [q0.out]
        repeat still_step
        try simp only [e1]
        still_call (HD1.out _)
        repeat still_step
        simp only [q0.out]
        repeat still_step
        simp only [q1.out]
        repeat still_step
        try simp only [e2]
        still_call (HD2.out _)
        repeat still_step
        refine wpStill_nil ?_
        by_cases hd : dg x < 16 ∧ dg y < 16
        · obtain ⟨hd1, hd2⟩ := hd
          simp only [if_pos hd1, if_pos hd2]
          rw [if_pos ⟨hd1, hd2⟩] at hU
          have hor := or16 ⟨dg x, hd1⟩ ⟨dg y, hd2⟩
          dsimp only at hor
          generalize dg x = d1 at *
          generalize dg y = d2 at *
          have hz : ((d1 : Int) * 16 + (d2 : Int)) = ((UInt8.ofNat (d1 * 16 + d2)).toNat : Int) := by
            rw [UInt8.toNat_ofNat']; omega
          have hst := be_set2 acc (n - t) (UInt8.ofNat (d1 * 16 + d2)) (by omega)
          rw [← hz, hal] at hst
          have hcl := HH.out.cell (be_cell2 acc (n - t) (by omega))
          rw [hal] at hcl
          have hfz := HH.out.frozen t
          generalize UInt8.ofNat (d1 * 16 + d2) = z at *
          have HST := Lib.hid (hst ▸ HH.out.set t (.int .u8 ((d1 : Int) * 16 + (d2 : Int))))
          have HU2 : Hid (unhexL a.data.toList = (unhexL (a.data.toList.drop (2 * (t + 1)))).map ((acc ++ [z]) ++ ·)) := Lib.hid (by
            rw [hU]; cases unhexL (a.data.toList.drop (2 * (t + 1))) <;> simp)
          clear hst hU hz
          go_wp2_with fail
          go_roundw
          case rel => exact ⟨t + 1, acc ++ [z], by go_num, by omega, by simp [hal], HU2, by rw [show n - (t + 1) = n - t - 1 by omega]; exact HST.out.drew, Lib.hid (HM.out.drew.setCell (p := ⟨w.heap.size, t, none⟩) (.inr (Nat.le_refl _)) _)⟩
          case measure => simp [intOf]; omega
        · have hnone : unhexA a.data.toList = ([], false) := by unfold unhexA; rw [hU, if_neg hd]; rfl
          have HNO := Lib.hid hnone
          clear hnone
          by_cases hd1 : dg x < 16
          · have hd2 : ¬ dg y < 16 := fun h => hd ⟨hd1, h⟩
            simp only [if_pos hd1, if_neg hd2]
            generalize dg x = d1 at *
            clear hU hd
            go_wp2_with fail
            go_ret2
            rw [HNO.out]
            exact ⟨rfl, HM.out.drew⟩
          · simp only [if_neg hd1]
            clear hU hd
            go_wp2_with fail
            all_goals
              go_ret2
              rw [HNO.out]
              exact ⟨rfl, HM.out.drew⟩
      · have htn : t = n := by omega
        have j1 : ¬ (t : Int) < (n : Int) := by omega
        have hU := HU.out
        have hnn := HN.out
        rw [htn, List.drop_of_length_le (by omega)] at hU
        rw [htn, Nat.sub_self, List.replicate_zero, List.append_nil] at hh
        have hyes : unhexA a.data.toList = (acc, true) := by unfold unhexA; rw [hU]; simp [unhexL]
        have HYES := Lib.hid hyes
        have hB : Cells wr (some ⟨w.heap.size, 0, none⟩) (bv acc) := .inr ⟨_, 0, rfl, fun j u hj => by rw [Nat.zero_add]; exact hh.cell hj⟩
        have hcv := run_bytes (P := Tryd.prog) n hB 25 9 5 Tryd.underlying25 Tryd.underlying5 Tryd.underlying9
        rw [hal, htn] at hcv
        clear hU hnn hyes hB hal htn hh
        go_wp2_with fail
        go_ret2
        rw [HYES.out]
        exact ⟨rfl, HM.out⟩
end Hash
end Go.Proofs.YtocakemfihhidaaDoor
