/- Joined texts: GearF, GearW, GearC, GearR. -/
import Derived.Test.YthgcjfpaekpeeaaDoorJ1
import Derived.Outline
import Derived.Deep.QuietTactic
/- The gear's plain functions: a byte's number, a step of the sum, where bytes are cut. -/
namespace Go.Proofs.YthgcjfpaekpeeaaDoor
set_option linter.unusedVariables false
set_option linter.unusedSimpArgs false
namespace Gear

/-- a byte's number -/
def tbl (c : Int) : Int :=
  let z := IntKind.u64.wrap (IntKind.u64.wrap (IntKind.u64.wrap c + 1) * 11400714819323198485)
  let y := IntKind.u64.wrap (Go.bits .xor .u64 z (z / 1073741824) * 13787848793156543929)
  let x := IntKind.u64.wrap (Go.bits .xor .u64 y (y / 134217728) * 10723151780598845931)
  Go.bits .xor .u64 x (x / 2147483648)

/-- the sum behind one byte more -/
def nxt (s c : Int) : Int := IntKind.u64.wrap (IntKind.u64.wrap (s * 2) + tbl c)

/-- does a chunk of n bytes with this sum go on? -/
def goes (s n : Int) : Bool := (if n > 256 then s / 288230376151711744 != 0 else s / 18014398509481984 != 0) && decide (n < 1024)

/-- the sum takes a byte: does the chunk end behind it, the sum, how many -/
def stp (s n c : Int) : Bool × Int × Int :=
  if n + 1 ≤ 64 then (false, s, n + 1)
  else if goes (nxt s c) (n + 1) = true then (false, nxt s c, n + 1)
  else (true, 0, 0)

/-- where the bytes l are cut, the first of which has place i, in a chunk of n bytes with sum s -/
def cuts : List UInt8 → Int → Int → Int → List Int
  | [], i, _, n => if n > 0 then [i] else []
  | c :: l, i, s, n => let r := stp s n c.toNat; if r.1 = true then (i + 1) :: cuts l (i + 1) r.2.1 r.2.2 else cuts l (i + 1) r.2.1 r.2.2

theorem stp_n (s n c : Int) (h0 : 0 ≤ n) (h1 : n < 1024) : 0 ≤ (stp s n c).2.2 ∧ (stp s n c).2.2 < 1024 := by
  unfold stp
  split
  · simp; omega
  · split
    · rename_i h; simp only [goes, Bool.and_eq_true, decide_eq_true_eq] at h
      have := h.2; simp; omega
    · simp

theorem stp_n0 (s n c : Int) (h0 : 0 ≤ n) : 0 ≤ (stp s n c).2.2 := by
  unfold stp
  split
  · simp; omega
  · split
    · simp; omega
    · simp

theorem cuts_len : ∀ (l : List UInt8) (i s n : Int), 0 ≤ n → (cuts l i s n).length ≤ l.length + 1
  | [], i, s, n, _ => by simp only [cuts]; split <;> simp
  | c :: l, i, s, n, h => by
    simp only [cuts]
    have hn := stp_n0 s n c.toNat h
    split
    · have := cuts_len l (i + 1) (stp s n c.toNat).2.1 (stp s n c.toNat).2.2 hn; simp; omega
    · have := cuts_len l (i + 1) (stp s n c.toNat).2.1 (stp s n c.toNat).2.2 hn; simp; omega

theorem cuts_bound : ∀ (l : List UInt8) (i s n x : Int), x ∈ cuts l i s n → i ≤ x ∧ x ≤ i + l.length
  | [], i, s, n, x, h => by
    simp only [cuts] at h
    split at h
    · simp at h; simp; omega
    · simp at h
  | c :: l, i, s, n, x, h => by
    simp only [cuts] at h
    simp only [List.length_cons]
    split at h
    · rcases List.mem_cons.1 h with h | h
      · omega
      · have := cuts_bound l _ _ _ x h; omega
    · have := cuts_bound l _ _ _ x h; omega

theorem cuts_drop (a : ByteArray) (k : Nat) (h : k < a.size) (i s n : Int) :
    cuts (a.data.toList.drop k) i s n = if (stp s n (a[k]).toNat).1 = true then (i + 1) :: cuts (a.data.toList.drop (k + 1)) (i + 1) (stp s n (a[k]).toNat).2.1 (stp s n (a[k]).toNat).2.2
      else cuts (a.data.toList.drop (k + 1)) (i + 1) (stp s n (a[k]).toNat).2.1 (stp s n (a[k]).toNat).2.2 := by
  rw [List.drop_eq_getElem_cons (by simpa using h)]
  rfl

/-- where the chunk ends of which n bytes with sum s are gone, 64 or more: how many it has; is that sure? -/
def ends : List UInt8 → Int → Int → Int × Bool
  | [], n, _ => (n, false)
  | c :: l, n, s => if goes (nxt s c.toNat) (n + 1) = true then ends l (n + 1) (nxt s c.toNat) else (n + 1, true)

def endsAll (l : List UInt8) : Int × Bool := if l.length ≤ 64 then (l.length, false) else ends (l.drop 64) 64 0

theorem ends_drop (a : ByteArray) (k : Nat) (h : k < a.size) (n s : Int) :
    ends (a.data.toList.drop k) n s = if goes (nxt s (a[k]).toNat) (n + 1) = true then ends (a.data.toList.drop (k + 1)) (n + 1) (nxt s (a[k]).toNat) else (n + 1, true) := by
  rw [List.drop_eq_getElem_cons (by simpa using h)]
  rfl

theorem ends_le : ∀ (l : List UInt8) (n s : Int), n < (ends l n s).1 + (if l = [] then 1 else 0) ∧ (ends l n s).1 ≤ n + l.length
  | [], n, _ => by simp [ends]; omega
  | c :: l, n, s => by
    unfold ends
    have ih := ends_le l (n + 1) (nxt s c.toNat)
    split
    · simp only [List.length_cons]
      refine ⟨?_, by omega⟩
      have := ih.1
      simp; split at this <;> omega
    · simp only [List.length_cons]; simp; omega

theorem ends_false : ∀ (l : List UInt8) (n s m : Int), ends l n s = (m, false) → m = n + l.length
  | [], n, s, m, h => by simp [ends] at h; simp [h]
  | c :: l, n, s, m, h => by
    unfold ends at h
    split at h
    · have := ends_false l _ _ m h; simp; omega
    · simp at h

/-- behind 64 bytes the cuts go on as 'ends' says -/
theorem cuts_ends : ∀ (l : List UInt8) (i n s : Int), 64 ≤ n → n < 1024 → 
    cuts l i s n = if (ends l n s).2 = true then (i + ((ends l n s).1 - n)) :: cuts (l.drop ((ends l n s).1 - n).toNat) (i + ((ends l n s).1 - n)) 0 0 else [i + l.length]
  | [], i, n, s, h, _ => by simp [cuts, ends]; omega
  | c :: l, i, n, s, h, h1 => by
    have hs : stp s n c.toNat = if goes (nxt s c.toNat) (n + 1) = true then (false, nxt s c.toNat, n + 1) else (true, 0, 0) := by
      simp only [stp]; rw [if_neg (by omega)]
    simp only [cuts, hs, ends]
    by_cases hg : goes (nxt s c.toNat) (n + 1) = true
    · simp only [if_pos hg]
      have hn : n + 1 < 1024 := by simp [goes] at hg; exact hg.2
      rw [if_neg (by simp), cuts_ends l (i + 1) (n + 1) (nxt s c.toNat) (by omega) hn]
      have hle := ends_le l (n + 1) (nxt s c.toNat)
      generalize ends l (n + 1) (nxt s c.toNat) = e at hle
      obtain ⟨m, b⟩ := e
      cases b with
      | true =>
        simp only [if_true]
        have : n + 1 ≤ m := by have := hle.1; dsimp only at this; split at this <;> omega
        have e1 : i + 1 + (m - (n + 1)) = i + (m - n) := by omega
        have e2 : (m - n).toNat = (m - (n + 1)).toNat + 1 := by omega
        rw [e1, e2, List.drop_succ_cons]
      | false => simp; omega
    · simp only [if_neg hg, if_true]
      have e2 : (n + 1 - n).toNat = 1 := by omega
      have e1 : i + (n + 1 - n) = i + 1 := by omega
      rw [e2, e1]; rfl

/-- the first 64 bytes -/
theorem cuts_first : ∀ (m : Nat) (l : List UInt8) (i n s : Int), 0 ≤ n → n + m = 64 → 
    cuts l i s n = if l.length ≤ m then (if 0 < n + l.length then [i + l.length] else []) else cuts (l.drop m) (i + m) s 64
  | 0, l, i, n, s, _, h => by
    have : n = 64 := by omega
    subst this
    cases l with
    | nil => simp [cuts]
    | cons c l => simp
  | m + 1, [], i, n, s, h0, h => by simp [cuts]
  | m + 1, c :: l, i, n, s, h0, h => by
    have hs : stp s n c.toNat = (false, s, n + 1) := by simp only [stp]; rw [if_pos (by omega)]
    simp only [cuts, hs]
    rw [if_neg (by simp), cuts_first m l (i + 1) (n + 1) s (by omega) (by omega)]
    simp only [List.length_cons, List.drop_succ_cons]
    have e1 : i + 1 + (m : Int) = i + ((m + 1 : Nat) : Int) := by omega
    rw [e1]
    by_cases hl : l.length ≤ m
    · rw [if_pos hl, if_pos (by omega), if_pos (by omega), if_pos (by omega)]
      have : i + 1 + (l.length : Int) = i + ((l.length + 1 : Nat) : Int) := by omega
      rw [this]
    · rw [if_neg hl, if_neg (by omega)]

theorem endsAll_le (l : List UInt8) (h : l ≠ []) : 0 < (endsAll l).1 ∧ (endsAll l).1 ≤ l.length := by
  unfold endsAll
  split
  · have : l.length ≠ 0 := by simpa using h
    simp; omega
  · rename_i hl
    have := ends_le (l.drop 64) 64 0
    simp only [List.length_drop] at this
    constructor
    · have := this.1; split at this <;> omega
    · omega

/-- the cuts, chunk by chunk -/
theorem cuts_chunk (l : List UInt8) (i : Int) (h : l ≠ []) : cuts l i 0 0 = (i + (endsAll l).1) :: cuts (l.drop (endsAll l).1.toNat) (i + (endsAll l).1) 0 0 := by
  rw [cuts_first 64 l i 0 0 (by omega) (by omega)]
  have hpos : 0 < l.length := by cases l; exact absurd rfl h; simp
  unfold endsAll
  by_cases hl : l.length ≤ 64
  · rw [if_pos hl, if_pos (by omega), if_pos hl]
    simp [cuts]
  · rw [if_neg hl, if_neg hl, cuts_ends _ _ 64 0 (by omega) (by omega)]
    have hle := ends_le (l.drop 64) 64 0
    generalize hd : ends (l.drop 64) 64 0 = e at hle
    obtain ⟨m, b⟩ := e
    simp only [List.length_drop] at hle
    have hm : 64 ≤ m := by have := hle.1; split at this <;> omega
    cases b with
    | true =>
      simp only [if_true, List.drop_drop]
      have e1 : i + ((64 : Nat) : Int) + (m - 64) = i + m := by omega
      have e2 : 64 + (m - 64).toNat = m.toNat := by omega
      rw [e1, e2]
    | false =>
      have hm2 : m = l.length := ends_false (l.drop 64) 64 0 m hd ▸ by simp; omega
      subst hm2
      simp [cuts]; omega

end Gear
end Go.Proofs.YthgcjfpaekpeeaaDoor
/- The walks of gear.Table, sum.ends, gear.Cuts. -/
namespace Go.Proofs.YthgcjfpaekpeeaaDoor
set_option linter.unusedVariables false
set_option linter.unusedSimpArgs false
open Go.RowKit K
namespace Gear

theorem table_calls (c : Int) (w : World) :
    Calls Tryd.prog 54 #[.int .u8 c] w fun e w' => e = .returned (.int .u64 (tbl c)) ∧ w' = w := by
  go_enter Tryd.func54, Tryd.ntmps54
  go_wp2
  go_ret
  exact ⟨rfl, rfl⟩

/-- the sum behind ends -/
def SumPost (b : Nat) (s n c : Int) (rest : List Value) (T : TypeId) (w : World) (e : Ending) (w' : World) : Prop :=
  e = .returned (.bool (stp s n c).1) ∧ Has w' b (.int .u64 (stp s n c).2.1 :: .int .i64 (stp s n c).2.2 :: rest) T ∧ Mod (· = b) w w'

set_option maxRecDepth 100000 in
set_option maxHeartbeats 1000000 in
theorem ends_calls (b : Nat) (s n c : Int) (rest : List Value) (T : TypeId) (w : World)
    (hb : Has w b (.int .u64 s :: .int .i64 n :: rest) T) (h0 : 0 ≤ n) (h1 : n < 100000) :
    Calls Tryd.prog 39 #[.pointer (some ⟨b, 0, none⟩), .int .u8 c] w (SumPost b s n c rest T w) := by
  have hs := hb.cell (o := 0) (v := .int .u64 s) rfl
  have hn := hb.cell (o := 1) (v := .int .i64 n) rfl
  have fs := hb.frozen 0
  have fn := hb.frozen 1
  have HB := Lib.hid hb
  clear hb
  by_cases hle : n + 1 ≤ 64
  · have hstp : stp s n c = (false, s, n + 1) := by simp [stp, hle]
    have HS := Lib.hid hstp
    clear hstp
    go_enter Tryd.func39, Tryd.ntmps39
    go_wp2_with fail
    go_ret
    unfold SumPost
    rw [HS.out]
    refine ⟨rfl, ?_, ?_⟩
    · have := (HB.out.set 1 (.int .i64 (n + 1)))
      simpa using this
    · (repeat (first | with_reducible exact Mod.refl _ _ | with_reducible apply Mod.drew | with_reducible apply Mod.drewN | with_reducible apply Mod.alloc | refine Mod.set1 ?_ (by first | exact rfl | simp) _ _))
  · go_enter Tryd.func39, Tryd.ntmps39
    go_wp2_with fail
    refine region_tail 11 (by kernel_rfl) (by kernel_rfl) ?_
    simp only [List.take_succ_cons, List.take_zero, List.drop_succ_cons, List.drop_zero]
    repeat still_step
    still_call (table_calls c _)
    repeat still_step
    refine wpStill_nil ?_
    obtain ⟨t, ht⟩ : ∃ t, IntKind.u64.wrap (IntKind.u64.wrap (s * 2) + tbl c) = t := ⟨_, rfl⟩
    simp only [ht]
    have hfin : stp s n c = if goes t (n + 1) = true then (false, t, n + 1) else (true, 0, 0) := by
      have : nxt s c = t := ht
      simp only [stp, this, if_neg (Int.not_le.2 hle)]
    clear ht
    have HF := Lib.hid hfin
    clear hfin
    go_wp2_with fail
    all_goals
      first
        | (have hg : goes t (n + 1) = true := by
             unfold goes
             first | rw [if_pos (by assumption)] | rw [if_neg (by omega)]
             simp [*]
           go_ret
           unfold SumPost
           rw [HF.out, if_pos hg]
           exact ⟨rfl, ((HB.out.set 1 _).set 0 _).drew, by (repeat (first | with_reducible exact Mod.refl _ _ | with_reducible apply Mod.drew | with_reducible apply Mod.drewN | with_reducible apply Mod.alloc | refine Mod.set1 ?_ (by first | exact rfl | simp) _ _))⟩)
        | (have hg : ¬ goes t (n + 1) = true := by
             unfold goes
             first | rw [if_pos (by assumption)] | rw [if_neg (by omega)]
             simp [*]
             try (rcases ‹_ ∨ _› with h | h
                  · exfalso; simp_all
                  · exact h)
           go_ret
           unfold SumPost
           rw [HF.out, if_neg hg]
           exact ⟨rfl, ((((HB.out.set 1 _).set 0 _).set 0 _).set 1 _).drew, by (repeat (first | with_reducible exact Mod.refl _ _ | with_reducible apply Mod.drew | with_reducible apply Mod.drewN | with_reducible apply Mod.alloc | refine Mod.set1 ?_ (by first | exact rfl | simp) _ _))⟩)
end Gear
end Go.Proofs.YthgcjfpaekpeeaaDoor
/- The walk of gear.Cuts. -/
namespace Go.Proofs.YthgcjfpaekpeeaaDoor
set_option linter.unusedVariables false
set_option linter.unusedSimpArgs false
open Go.RowKit K
namespace Gear

/-- a result: a row of numbers in new memory -/
def IntsPost (l : List Int) (w : World) (e : Ending) (w' : World) : Prop :=
  ∃ v, e = .returned v ∧ w'.ownsRow w.heap.size 3 1 v l.length (l.map (.int .i64)) ∧ Mod (fun _ => False) w w'

set_option maxRecDepth 100000 in
theorem ints_t : SliceT Tryd.prog 57 3 1 8 := ⟨Tryd.underlying57, by decide, _, .int .i64 0, rfl, rfl, rfl, rfl, rfl⟩

set_option maxRecDepth 100000 in
set_option maxHeartbeats 1000000 in
theorem cuts_calls (a : ByteArray) (w : World) (ha : a.size ≤ 1000000000) :
    Calls Tryd.prog 22 #[.string a] w (IntsPost (cuts a.data.toList 0 0 0) w) := by
  go_enter Tryd.func22, Tryd.ntmps22
  go_wp2_with fail
  go_loopw [4, 8] (fun out i w' => ∃ (k : Nat) (acc : List Int) (s n : Int), k ≤ a.size ∧ i = .int .i64 k ∧ w'.ownsRow (w.heap.size + 1) 3 1 out acc.length (acc.map (.int .i64)) ∧
      Has w' w.heap.size [.int .u64 s, .int .i64 n] 85 ∧ 0 ≤ n ∧ n < 1024 ∧ Hid (acc ++ cuts (a.data.toList.drop k) k s n = cuts a.data.toList 0 0 0) ∧ Hid (Mod (fun _ => False) w w') ∧ Hid (acc.length ≤ k))
    (fun _ i _ => a.size - (intOf i).toNat)
  case atStart => exact ⟨0, [], 0, 0, Nat.zero_le _, rfl, World.ownsRow_nil _ _ _ _, Has.new _ _ _, by omega, by omega, Lib.hid rfl, Lib.hid (by (repeat (first | with_reducible exact Mod.refl _ _ | with_reducible apply Mod.drew | with_reducible apply Mod.drewN | with_reducible apply Mod.alloc | refine Mod.set1 ?_ (by first | exact rfl | simp) _ _))), Lib.hid (Nat.le_refl _)⟩
  case round =>
    obtain ⟨k, acc, s, n, hk, rfl, hown, hhas, hn0, hn1, HC, HM, HL⟩ := hrel
    by_cases hlt : k < a.size
    · go_wp2_with fail
      refine (ends_calls w.heap.size s n _ [] 85 wr hhas hn0 (by omega)).mono ?_
      rintro e w1 ⟨rfl, hhas1, hm1⟩
      have hst := stp_n s n (a[k]).toNat hn0 hn1
      have hcd := cuts_drop a k hlt k s n
      generalize stp s n (a[k]).toNat = r at hst hcd hhas1
      obtain ⟨b1, s1, n1⟩ := r
      have hown1 := own_keep hown hm1 (fun j hj _ e => by omega)
      have hM1 := Mod.trans HM.out hm1 (fun i hi e => by omega)
      have hsz1 := hM1.size
      have hlt1 := hhas1.lt
      clear hown hhas hm1 HM
      rw [hcd] at HC
      clear hcd
      have HM1 := Lib.hid hM1
      clear hM1
      have HL2 := HL.out
      cases b1 with
      | false =>
        rw [if_neg (by simp)] at HC
        go_wp2_with fail
        go_round
        case rel => exact ⟨k + 1, acc, s1, n1, by omega, by go_num, hown1, hhas1, hst.1, hst.2, HC, HM1, Lib.hid (by have := HL.out; omega)⟩
        case measure => simp [intOf]; omega
      | true =>
        rw [if_pos rfl] at HC
        go_wp2_with (first | (at_builtin; go_must (refine app _ _ ints_t (w.heap.size + 1) _ _ _ (hown1.alloc _) _ 1 1 [.int .i64 (k + 1)] rfl rfl rfl rfl rfl (one_new _ _ _) (by simp [Value.oneCell']) (by have := HL.out; omega) (by have := HL.out; unfold maxLen; omega) (by simp; omega) ?_; intro v' w2 hown2 hm2)))
        have hhas2 := (hhas1.alloc _).keep hm2 (fun ⟨h, _⟩ => by omega)
        have hM2 := Mod.trans (Mod.alloc HM1.out _) hm2 (fun i hi ⟨h, _⟩ => by omega)
        have HM2 := Lib.hid hM2
        clear hM2 hm2 hhas1 hown1
        go_wp2_with fail
        go_round
        case rel => exact ⟨k + 1, acc ++ [(k : Int) + 1], s1, n1, by omega, by go_num, by simpa using hown2, hhas2, hst.1, hst.2, Lib.hid (by rw [List.append_assoc]; exact HC.out), HM2, Lib.hid (by have := HL.out; simp; omega)⟩
        case measure => simp [intOf]; omega
    · obtain rfl : k = a.size := by omega
      have hnil : cuts (a.data.toList.drop a.size) (a.size : Int) s n = if n > 0 then [(a.size : Int)] else [] := by
        rw [List.drop_of_length_le (by simp)]; rfl
      rw [hnil] at HC
      have hc1 := hhas.cell (o := 1) rfl
      have hlt1 := hhas.lt
      have HM2 := HM.out
      have HL2 := HL.out
      have hsz := HM2.size
      clear hnil
      by_cases hn : 0 < n
      · rw [if_pos hn] at HC
        go_wp2_with (first | (at_builtin; go_must (refine app _ _ ints_t (w.heap.size + 1) _ _ _ (hown.alloc _) _ 1 1 [.int .i64 a.size] rfl rfl rfl rfl rfl (one_new _ _ _) (by simp [Value.oneCell']) (by have := HL.out; omega) (by have := HL.out; unfold maxLen; omega) (by simp; omega) ?_; intro v' w2 hown2 hm2)))
        go_ret
        refine ⟨_, rfl, ?_, ?_⟩
        · rw [← HC.out]
          have := own_base hown2 (base' := w.heap.size) (by omega)
          simpa using this
        · exact Mod.trans (Mod.alloc HM2 _) hm2 (fun i hi ⟨h, _⟩ => by omega)
      · rw [if_neg (by omega)] at HC
        go_wp2_with fail
        go_ret
        refine ⟨_, rfl, ?_, HM2⟩
        rw [← HC.out]
        have := own_base hown (base' := w.heap.size) (by omega)
        simpa using this
end Gear
end Go.Proofs.YthgcjfpaekpeeaaDoor
/- The walks of the reference's Table, Ends, Cuts, Same, of cut and shown. -/
namespace Go.Proofs.YthgcjfpaekpeeaaDoor
set_option linter.unusedVariables false
set_option linter.unusedSimpArgs false
open Go.RowKit K
namespace Gear

theorem Lib.extract_to_end' (s : ByteArray) (a : Nat) : (s.extract a s.size).data.toList = s.data.toList.drop a := by
  obtain ⟨⟨l⟩⟩ := s
  simp only [ByteArray.size, ByteArray.data_extract, List.extract_toArray, List.size_toArray]
  rw [List.extract_eq_take_drop, List.take_of_length_le (by simp)]

theorem refTable_calls (c : Int) (w : World) :
    Calls Tryd.prog 60 #[.int .u8 c] w fun e w' => e = .returned (.int .u64 (tbl c)) ∧ w' = w := by
  go_enter Tryd.func60, Tryd.ntmps60
  go_wp2
  go_ret
  exact ⟨rfl, rfl⟩

/-- the first million bytes -/
def cutS (a : ByteArray) : ByteArray := if a.size ≤ 1000000 then a else a.extract 0 1000000

theorem cutS_size (a : ByteArray) : (cutS a).size ≤ 1000000 := by
  unfold cutS
  split
  · assumption
  · rw [ByteArray.size_extract]; omega

set_option maxRecDepth 100000 in
set_option maxHeartbeats 1000000 in
theorem refEnds_calls (a : ByteArray) (w : World) (ha : a.size ≤ 1000000000) :
    Calls Tryd.prog 45 #[.string a] w fun e w' => e = .returned (.tuple #[.int .i64 (endsAll a.data.toList).1, .bool (endsAll a.data.toList).2]) ∧ w' = w := by
  go_enter Tryd.func45, Tryd.ntmps45
  go_wp2_with fail
  go_loop [4, 5] (fun sum i => ∃ (k : Nat) (s : Int), i = .int .i64 k ∧ sum = .int .u64 s ∧ 64 ≤ k ∧ (a.size ≤ 64 → k = 64) ∧ (64 ≤ a.size → k ≤ a.size) ∧ k < 1024 ∧ Hid (k ≤ a.size → endsAll a.data.toList = ends (a.data.toList.drop k) k s))
    (fun _ i => a.size - (intOf i).toNat)
  case atStart => 
    refine ⟨64, 0, by go_num, rfl, by omega, by omega, by omega, by omega, Lib.hid fun h => ?_⟩
    unfold endsAll
    by_cases h' : a.data.toList.length ≤ 64
    · have h2 : a.data.toList.length = a.size := by simp
      have h3 : a.data.toList.length = 64 := by omega
      rw [if_pos h', List.drop_of_length_le h', h3]; rfl
    · rw [if_neg h']; rfl
  case round =>
    obtain ⟨k, s, rfl, rfl, hk, hk1, hk2, hk3, HC⟩ := hrel
    by_cases hlt : k < a.size
    · have hcd := ends_drop a k hlt k s
      have hc2 : endsAll a.data.toList = _ := (HC.out (by omega)).trans hcd
      clear hcd HC
      have HC := Lib.hid hc2
      clear hc2
      go_wp2_with (first | (go_at_call 60; refine (refTable_calls _ _).mono ?_; rintro e w' ⟨rfl, rfl⟩))
      all_goals
        first
          | (have hg : goes (nxt s (a[k]).toNat) ((k : Int) + 1) = true := by
               unfold goes nxt
               first | rw [if_pos (by assumption)] | rw [if_neg (by omega)]
               simp [*]
               rename_i hh
               have := hh.2
               simp at this; omega
             rw [if_pos hg] at HC
             go_round
             case rel => exact ⟨k + 1, nxt s (a[k]).toNat, by go_num, rfl, by omega, by omega, by omega, by simp [goes] at hg; omega, Lib.hid fun _ => HC.out⟩
             case measure => simp [intOf]; omega)
          | (have hg : ¬ goes (nxt s (a[k]).toNat) ((k : Int) + 1) = true := by
               unfold goes nxt
               first | rw [if_pos (by assumption)] | rw [if_neg (by omega)]
               simp [*]
               try (rcases ‹_ ∨ _› with hh | hh
                    · exfalso; simp_all
                    · simp at hh; omega)
             rw [if_neg hg] at HC
             go_ret2
             rw [HC.out]
             exact ⟨rfl, rfl⟩)
    · have hfin : endsAll a.data.toList = ((a.size : Int), false) := by
        by_cases h64 : 64 ≤ a.size
        · have : k = a.size := by omega
          rw [HC.out (by omega), this, List.drop_of_length_le (by simp)]; rfl
        · have h2 : a.data.toList.length = a.size := by simp
          unfold endsAll; rw [if_pos (by omega), h2]
      have HF := Lib.hid hfin
      clear hfin HC
      go_wp2_with fail
      go_ret2
      rw [HF.out]
      exact ⟨rfl, rfl⟩

set_option maxRecDepth 100000 in
set_option maxHeartbeats 1000000 in
theorem refCuts_calls (a : ByteArray) (w : World) (ha : a.size ≤ 1000000000) :
    Calls Tryd.prog 26 #[.string a] w (IntsPost (cuts a.data.toList 0 0 0) w) := by
  go_enter Tryd.func26, Tryd.ntmps26
  go_wp2_with fail
  go_loopw [3, 4] (fun out i w' => ∃ (k : Nat) (acc : List Int), k ≤ a.size ∧ i = .int .i64 k ∧ w'.ownsRow w.heap.size 3 1 out acc.length (acc.map (.int .i64)) ∧
      Hid (acc ++ cuts (a.data.toList.drop k) k 0 0 = cuts a.data.toList 0 0 0) ∧ Hid (Mod (fun _ => False) w w') ∧ Hid (acc.length ≤ k))
    (fun _ i _ => a.size - (intOf i).toNat)
  case atStart => exact ⟨0, [], Nat.zero_le _, rfl, World.ownsRow_nil _ _ _ _, Lib.hid rfl, Lib.hid (by (repeat (first | with_reducible exact Mod.refl _ _ | with_reducible apply Mod.drew | with_reducible apply Mod.drewN | with_reducible apply Mod.alloc | refine Mod.set1 ?_ (by first | exact rfl | simp) _ _))), Lib.hid (Nat.le_refl _)⟩
  case round =>
    obtain ⟨k, acc, hk, rfl, hown, HC, HM, HL⟩ := hrel
    have hsz := HM.out.size
    by_cases hlt : k < a.size
    · have hne : a.data.toList.drop k ≠ [] := by
        intro h; have := congrArg List.length h; simp at this; omega
      have hch := cuts_chunk _ (k : Int) hne
      have hle := endsAll_le _ hne
      have hlen : (a.data.toList.drop k).length = a.size - k := by simp
      have hx : (a.extract k a.size).data.toList = a.data.toList.drop k := Lib.extract_to_end' a k
      have hcall := refEnds_calls (a.extract k a.size) 
      rw [hx] at hcall
      rw [hch] at HC
      clear hch hne
      generalize endsAll (a.data.toList.drop k) = r at hcall HC hle
      obtain ⟨m, b⟩ := r
      dsimp only at hcall HC hle
      obtain ⟨m, rfl⟩ := Int.eq_ofNat_of_zero_le (show 0 ≤ m by omega)
      rw [List.drop_drop, Int.toNat_natCast] at HC
      have hx2 : (a.extract k a.size).size ≤ 1000000000 := by simp; omega
      have hL := HL.out
      have hmk : k + m ≤ a.size := by omega
      have hm0 : 0 < m := by omega
      clear hx hle hlen
      have HCA := Lib.hid hcall
      clear hcall
      go_wp2_with (first
        | (go_at_call 45; go_must (refine (HCA.out _ hx2).mono ?_); rintro e w1 ⟨rfl, hw1⟩; subst hw1) 
        | (at_builtin; go_must (refine app _ _ ints_t w.heap.size _ _ _ (hown.alloc _) _ 1 1 [.int .i64 (k + m)] rfl rfl rfl rfl rfl (one_new _ _ _) (by simp [Value.oneCell']) (by omega) (by unfold maxLen; omega) (by simp; omega) ?_; intro v' w2 hown2 hm2)))
      go_wp2_with fail
      have hm3 := Mod.trans (Mod.alloc HM.out _) hm2 (fun i hi ⟨h, _⟩ => by omega)
      go_round
      case rel => exact ⟨k + m, acc ++ [(k : Int) + m], hmk, by go_num, by simpa using hown2, Lib.hid (by rw [List.append_assoc]; exact HC.out), Lib.hid hm3, Lib.hid (by simp; omega)⟩
      case measure => simp [intOf]; omega
    · obtain rfl : k = a.size := by omega
      rw [List.drop_of_length_le (by simp)] at HC
      go_wp2_with fail
      go_ret
      refine ⟨_, rfl, ?_, HM.out⟩
      rw [← HC.out]
      simpa [cuts] using hown

end Gear
end Go.Proofs.YthgcjfpaekpeeaaDoor
