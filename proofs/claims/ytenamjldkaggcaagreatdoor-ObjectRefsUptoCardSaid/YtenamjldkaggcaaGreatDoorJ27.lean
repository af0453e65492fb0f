/- Joined texts: ObjE, ObjEn. -/
import Derived.Test.YtenamjldkaggcaaGreatDoorJ1
import Derived.Test.YtenamjldkaggcaaGreatDoorShelfB
import Derived.Laws.RangeAny
import Derived.Laws.Runes
import Derived.Lib.IndexAny
import Derived.Lib.OthersKept
/- Names: strings.IndexAny of any text of at most eight bytes; path.IsName and the reference's. -/
namespace Go.Proofs.YtenamjldkaggcaaGreatDoor
set_option linter.unusedVariables false
set_option linter.unusedSimpArgs false
open Go.RowKit K
namespace Obj

def slash : ByteArray := ⟨#[47, 0]⟩
/-- what a valid rune from 128 on is written as -/
theorem enc_form (r : Int) (hv : Utf8.valid r = true) (h : 128 ≤ r) : ∃ (x0 x1 : UInt8) (t : List UInt8), x1 ≠ 0 ∧ x1 ≠ 47 ∧ t.length ≤ 2 ∧ Utf8.encode r = ⟨(x0 :: x1 :: t).toArray⟩ := by
  have hc : ¬ r.toNat < 128 := by omega
  have key : ∀ n : Nat, n < 64 → (UInt8.ofNat (128 + n)) ≠ 0 ∧ UInt8.ofNat (128 + n) ≠ 47 := fun n hn => by
    constructor <;> intro h <;> have := congrArg UInt8.toNat h <;> simp at this <;> omega
  unfold Utf8.encode
  simp only [hv, if_true, hc, if_false]
  split
  · exact ⟨_, _, [], (key _ (Nat.mod_lt _ (by omega))).1, (key _ (Nat.mod_lt _ (by omega))).2, by simp, rfl⟩
  · split
    · exact ⟨_, _, [_], (key _ (Nat.mod_lt _ (by omega))).1, (key _ (Nat.mod_lt _ (by omega))).2, by simp, rfl⟩
    · exact ⟨_, _, [_, _], (key _ (Nat.mod_lt _ (by omega))).1, (key _ (Nat.mod_lt _ (by omega))).2, by simp, rfl⟩

theorem valid_of {r : Int} (h : Lib.validRune r = true) : Utf8.valid r = true := by
  unfold Lib.validRune at h
  rw [decide_eq_true_eq] at h
  unfold Utf8.valid
  simp only [Bool.or_eq_true, Bool.and_eq_true, decide_eq_true_eq]
  omega
set_option maxRecDepth 1000000 in
set_option maxHeartbeats 2000000 in
theorem indexRune_hi (r : Int) (w : World) (h : 128 ≤ r) :
    Calls Tryz.prog 97 #[.string ⟨#[47, 0]⟩, .int .i32 r] w fun e w' => e = .returned (.int .i64 (-1)) ∧ Mod (fun _ => False) w w' := by
  have h0 : (0 : Int) ≤ r := by omega
  have h1 : ¬ r < 128 := by omega
  have hd0 : decide ((0 : Int) ≤ r) = true := decide_eq_true h0
  have hd1 : decide (r < 128) = false := decide_eq_false h1
  by_cases h2 : r = 65533
  · subst h2
    go_enter Tryz.func97, Tryz.ntmps97
    go_wp2_with fail
    go_loopw [5, 6] (fun _ _ wr => ∃ i : Nat, i ≤ 2 ∧ wr = w.iter slash i) (fun _ _ wr => 2 - wr.iterPos w.heap.size)
    case atStart => exact ⟨0, by omega, rfl⟩
    case round =>
      obtain ⟨i, hi, rfl⟩ := hrel
      match i, hi with
      | 0, _ =>
        have hnx : ∀ ty, (Instr.next (.pointer (some ⟨w.heap.size, 0, none⟩)) true ty).run Tryz.prog (w.iter slash 0) = .ok (.tuple #[.bool true, .int .i64 0, .int .i32 47]) (w.iter slash 1) := fun ty => run_next_ascii w slash 0 ty (by decide) (by decide)
        go_wp2_with fail
        go_roundw
        case rel => exact ⟨1, by omega, rfl⟩
        case measure => simp
      | 1, _ =>
        have hnx : ∀ ty, (Instr.next (.pointer (some ⟨w.heap.size, 0, none⟩)) true ty).run Tryz.prog (w.iter slash 1) = .ok (.tuple #[.bool true, .int .i64 1, .int .i32 0]) (w.iter slash 2) := fun ty => run_next_ascii w slash 1 ty (by decide) (by decide)
        go_wp2_with fail
        go_roundw
        case rel => exact ⟨2, by omega, rfl⟩
        case measure => simp
      | 2, _ =>
        have hnx : ∀ ty, (Instr.next (.pointer (some ⟨w.heap.size, 0, none⟩)) true ty).run Tryz.prog (w.iter slash 2) = .ok (.tuple #[.bool false]) (w.iter slash 2) := fun ty => run_next_end w slash 2 ty (by decide)
        go_wp2_with fail
        go_ret
        exact ⟨rfl, (Mod.refl _ _).alloc _⟩
  · have h2' : (r == 65533) = false := beq_eq_false_iff_ne.2 h2
    have HV := Lib.hid (fun w' => Tryz.utf8_ValidRune r w')
    cases hv : Lib.validRune r with
    | false =>
      rw [hv] at HV
      go_enter Tryz.func97, Tryz.ntmps97
      go_wp2_with fail
      refine (HV.out _).mono ?_
      rintro e w1 ⟨rfl, rfl⟩
      go_wp2_with fail
      go_ret
      exact ⟨rfl, Mod.refl _ _⟩
    | true =>
      rw [hv] at HV
      obtain ⟨x0, x1, t, hx0, hx47, ht, henc⟩ := enc_form r (valid_of hv) h
      go_enter Tryz.func97, Tryz.ntmps97
      go_wp2_with fail
      refine (HV.out _).mono ?_
      rintro e w1 ⟨rfl, rfl⟩
      match t, ht with
      | [], _ =>
        go_wp2_with fail
        go_step3
        go_wp2_with fail
        go_loopw [9, 10, 11, 12] (fun a _ _ _ wr => a = .int .i64 1 ∧ wr = w1) (fun _ _ _ _ _ => 0)
        case atStart => exact ⟨rfl, rfl⟩
        case round =>
          obtain ⟨rfl, rfl⟩ := hrel
          have hne : ((((⟨#[47, 0]⟩ : ByteArray)[1]'(by decide)).toNat : Int) != (((⟨#[x0, x1]⟩ : ByteArray)[1]'(by show 1 < 2; omega)).toNat : Int)) = true := by
            rw [bne_iff_ne]
            intro h
            exact hx0 (UInt8.toNat_inj.1 (Int.ofNat.inj h).symm)
          have hib : ∀ (c : Int) (w' : World), Calls Tryz.prog 101 #[.string ⟨#[]⟩, .int .u8 c] w' fun e w'' => e = .returned (.int .i64 (-1)) ∧ w'' = w' := fun c w' => Tryz.strings_IndexByte ⟨#[]⟩ c w'
          have HIB := Lib.hid hib
          clear hib
          go_wp2_with fail
          go_step3
          go_wp2_with fail
          go_quiet (fail)
          go_wp2_with fail
          refine region_m (by kernel_rfl) ?_
          simp only [List.length_cons, List.length_nil, List.replicate]
          refine take0 (v := ?v1) (oi := ?o1) 0 ?hi1 (by kernel_rfl) (by kernel_rfl) (by kernel_rfl) ?hq1 ?hy1 ?_
          case hi1 => (simp only [List.getElem?_toArray, List.getElem?_cons_zero, List.getElem?_cons_succ]; rfl)
          case hq1 => exact fun _ _ _ h => h
          case hy1 => first | (refine ry_not ?_; rfl) | (refine ry_run (by rfl) (fun w' hw' => ?_); go_simp; try rfl)
          simp only [Act.put, List.setIfInBounds_toArray, List.set_cons_zero, List.set_cons_succ]
          refine take0 (v := ?v2) (oi := ?o2) 1 ?hi2 (by kernel_rfl) (by kernel_rfl) (by kernel_rfl) ?hq2 ?hy2 ?_
          case hi2 => (simp only [List.getElem?_toArray, List.getElem?_cons_zero, List.getElem?_cons_succ]; rfl)
          case hq2 => exact fun _ _ _ h => h
          case hy2 => first | (refine ry_not ?_; rfl) | (refine ry_run (by rfl) (fun w' hw' => ?_); go_simp; try rfl)
          simp only [Act.put, List.setIfInBounds_toArray, List.set_cons_zero, List.set_cons_succ]
          refine take0 (v := ?v3) (oi := ?o3) 2 ?hi3 (by kernel_rfl) (by kernel_rfl) (by kernel_rfl) ?hq3 ?hy3 ?_
          case hi3 => (simp only [List.getElem?_toArray, List.getElem?_cons_zero, List.getElem?_cons_succ]; rfl)
          case hq3 => exact fun _ _ _ h => h
          case hy3 => first | (refine ry_not ?_; rfl) | (refine ry_run (by rfl) (fun w' hw' => ?_); go_simp; try rfl)
          simp only [Act.put, List.setIfInBounds_toArray, List.set_cons_zero, List.set_cons_succ]
          refine take0 (v := ?v4) (oi := ?o4) 3 ?hi4 (by kernel_rfl) (by kernel_rfl) (by kernel_rfl) ?hq4 ?hy4 ?_
          case hi4 => (simp only [List.getElem?_toArray, List.getElem?_cons_zero, List.getElem?_cons_succ]; rfl)
          case hq4 => exact fun _ _ _ h => h
          case hy4 => first | (refine ry_not ?_; rfl) | (refine ry_run (by rfl) (fun w' hw' => ?_); go_simp; try rfl)
          simp only [Act.put, List.setIfInBounds_toArray, List.set_cons_zero, List.set_cons_succ]
          refine take0 (v := ?v5) (oi := ?o5) 4 ?hi5 (by kernel_rfl) (by kernel_rfl) (by kernel_rfl) ?hq5 ?hy5 ?_
          case hi5 => (simp only [List.getElem?_toArray, List.getElem?_cons_zero, List.getElem?_cons_succ]; rfl)
          case hq5 => exact fun _ _ _ h => h
          case hy5 => first | (refine ry_not ?_; rfl) | (refine ry_run (by rfl) (fun w' hw' => ?_); go_simp; try rfl)
          simp only [Act.put, List.setIfInBounds_toArray, List.set_cons_zero, List.set_cons_succ]
          refine take0 (v := ?v6) (oi := ?o6) 5 ?hi6 (by kernel_rfl) (by kernel_rfl) (by kernel_rfl) ?hq6 ?hy6 ?_
          case hi6 => (simp only [List.getElem?_toArray, List.getElem?_cons_zero, List.getElem?_cons_succ]; rfl)
          case hq6 => exact fun _ _ _ h => h
          case hy6 => first | (refine ry_not ?_; rfl) | (refine ry_run (by rfl) (fun w' hw' => ?_); go_simp; try rfl)
          simp only [Act.put, List.setIfInBounds_toArray, List.set_cons_zero, List.set_cons_succ]
          refine take0 (v := ?v7) (oi := ?o7) 6 ?hi7 (by kernel_rfl) (by kernel_rfl) (by kernel_rfl) ?hq7 ?hy7 ?_
          case hi7 => (simp only [List.getElem?_toArray, List.getElem?_cons_zero, List.getElem?_cons_succ]; rfl)
          case hq7 => exact fun _ _ _ h => h
          case hy7 => first | (refine ry_not ?_; rfl) | (refine ry_run (by rfl) (fun w' hw' => ?_); go_simp; try rfl)
          simp only [Act.put, List.setIfInBounds_toArray, List.set_cons_zero, List.set_cons_succ]
          refine step0 (o := ?o8) 7 (by kernel_rfl) ?hi8 ?hw8 ?_
          case hi8 => (simp only [List.getElem?_toArray, List.getElem?_cons_zero, List.getElem?_cons_succ]; rfl)
          case hw8 => rfl
          go_simp
          refine (HIB.out _ _).mono ?_
          rintro e w2 ⟨rfl, rfl⟩
          refine ⟨.inl (Mod.refl _ _), ?_⟩
          refine take0 (v := ?v9) (oi := ?o9) 8 ?hi9 (by kernel_rfl) (by kernel_rfl) (by kernel_rfl) ?hq9 ?hy9 ?_
          case hi9 => (simp only [List.getElem?_toArray, List.getElem?_cons_zero, List.getElem?_cons_succ]; rfl)
          case hq9 => exact fun _ _ _ h => h
          case hy9 => first | (refine ry_not ?_; rfl) | (refine ry_run (by rfl) (fun w' hw' => ?_); go_simp; try rfl)
          simp only [Act.put, List.setIfInBounds_toArray, List.set_cons_zero, List.set_cons_succ]
          refine wpAnyM_done (by kernel_rfl) ?_
          go_wp2_with fail
          rw [Exit.noGoto_ret]
          go_wp2_with fail
          try rw [Exit.noGoto_ret]
          go_ret
          exact ⟨rfl, by (repeat (first | with_reducible exact Mod.refl _ _ | with_reducible apply Mod.drew | with_reducible apply Mod.drewN | with_reducible apply Mod.alloc | refine Mod.set1 ?_ (by first | exact rfl | simp) _ _))⟩
      | [x2], _ =>
        go_wp2_with fail
        go_step3
        go_wp2_with fail
        go_loopw [9, 10, 11, 12] (fun a _ _ _ wr => a = .int .i64 2 ∧ wr = w1) (fun _ _ _ _ _ => 0)
        case atStart => exact ⟨rfl, rfl⟩
        case round =>
          obtain ⟨rfl, rfl⟩ := hrel
          go_wp2_with fail
          try rw [Exit.noGoto_ret]
          go_ret
          exact ⟨rfl, Mod.refl _ _⟩
      | [x2, x3], _ =>
        go_wp2_with fail
        go_step3
        go_wp2_with fail
        go_loopw [9, 10, 11, 12] (fun a _ _ _ wr => a = .int .i64 3 ∧ wr = w1) (fun _ _ _ _ _ => 0)
        case atStart => exact ⟨rfl, rfl⟩
        case round =>
          obtain ⟨rfl, rfl⟩ := hrel
          go_wp2_with fail
          try rw [Exit.noGoto_ret]
          go_ret
          exact ⟨rfl, Mod.refl _ _⟩

/-! where a text has a slash or a zero -/
def bads : List UInt8 := [47, 0]
def hasBad (l : List UInt8) : Bool := Lib.containsAny l bads
theorem decode_step (s : ByteArray) (pos : Nat) (h : pos < s.size) (ha : 128 ≤ (s[pos]'h).toNat) : pos + (Utf8.decode s pos).2 ≤ s.size ∧ ∀ k, pos ≤ k → k < pos + (Utf8.decode s pos).2 → ∀ hk : k < s.size, 128 ≤ (s[k]'hk).toNat := by
  have hn : ¬ (s[pos]'h).toNat < 128 := by omega
  have hg : ∀ k (hk : pos + k < s.size), s.get! (pos + k) = s[pos + k]'hk := fun k hk => by
    show s.get! (pos + k) = _
    simp [ByteArray.get!, getElem!_pos, hk]
    rfl
  have one : ∀ k, pos ≤ k → k < pos + 1 → ∀ hk : k < s.size, 128 ≤ (s[k]'hk).toNat := fun k h1 h2 hk => by
    obtain rfl : k = pos := by omega
    exact ha
  have hcont : ∀ k, (decide (pos + k < s.size) && (s.get! (pos + k)).toNat / 64 == 2) = true → pos + k < s.size ∧ ∀ hk : pos + k < s.size, 128 ≤ (s[pos + k]'hk).toNat := fun k hc => by
    simp only [Bool.and_eq_true, decide_eq_true_eq, beq_iff_eq] at hc
    refine ⟨hc.1, fun hk => ?_⟩
    rw [← hg k hk]; omega
  simp only [Utf8.decode, get_at s pos h, hn, if_false]
  split
  · rename_i hc
    simp only [Bool.and_eq_true] at hc
    have c1 := hcont 1 (by simpa using hc.2)
    split
    · refine ⟨by show pos + 2 ≤ _; omega, fun k h1 h2 hk => ?_⟩
      have h2 : k < pos + 2 := h2
      by_cases e : k = pos + 1
      · subst e; exact c1.2 hk
      · exact one k h1 (by omega) hk
    · exact ⟨by show pos + 1 ≤ _; omega, one⟩
  · split
    · rename_i hc
      simp only [Bool.and_eq_true] at hc
      have c1 := hcont 1 (by simpa using hc.1.2)
      have c2 := hcont 2 (by simpa using hc.2)
      split
      · refine ⟨by show pos + 3 ≤ _; omega, fun k h1 h2 hk => ?_⟩
        have h2 : k < pos + 3 := h2
        by_cases e : k = pos + 1
        · subst e; exact c1.2 hk
        · by_cases e : k = pos + 2
          · subst e; exact c2.2 hk
          · exact one k h1 (by omega) hk
      · exact ⟨by show pos + 1 ≤ _; omega, one⟩
    · split
      · rename_i hc
        simp only [Bool.and_eq_true] at hc
        have c1 := hcont 1 (by simpa using hc.1.1.2)
        have c2 := hcont 2 (by simpa using hc.1.2)
        have c3 := hcont 3 (by simpa using hc.2)
        split
        · refine ⟨by show pos + 4 ≤ _; omega, fun k h1 h2 hk => ?_⟩
          have h2 : k < pos + 4 := h2
          by_cases e : k = pos + 1
          · subst e; exact c1.2 hk
          · by_cases e : k = pos + 2
            · subst e; exact c2.2 hk
            · by_cases e : k = pos + 3
              · subst e; exact c3.2 hk
              · exact one k h1 (by omega) hk
        · exact ⟨by show pos + 1 ≤ _; omega, one⟩
      · exact ⟨by show pos + 1 ≤ _; omega, one⟩

theorem iter_mod {S : Nat → Prop} {a w : World} {k : Nat} {s : ByteArray} {p : Nat} (h : Mod S a w) (hk : a.heap.size ≤ k) : Mod S a (w.iterAt k s p) :=
  ⟨h.os, h.tape, h.output, by rw [Lib.iterAt_size]; exact h.size, fun j hj hs => by rw [Lib.iterAt_other _ _ _ _ _ (by omega)]; exact h.block j hj hs⟩
theorem iter_pos {w : World} {k : Nat} {s : ByteArray} {p : Nat} (h : w.heap[k]? = some (.stringIter s p)) : w.iterPos k = p := by
  unfold World.iterPos; rw [h]
theorem iter_keep {S : Nat → Prop} {w w' : World} {k : Nat} {s : ByteArray} {p : Nat} (h : w.heap[k]? = some (.stringIter s p)) (m : Mod S w w') (hs : ¬ S k) : w'.heap[k]? = some (.stringIter s p) :=
  (m.block k (Array.getElem?_eq_some_iff.1 h).1 hs).trans h
set_option maxRecDepth 1000000 in
set_option maxHeartbeats 2000000 in
theorem indexAny_short (s : ByteArray) (w : World) (h8 : s.size ≤ 8) :
    Calls Tryz.prog 96 #[.string s, .string ⟨#[47, 0]⟩] w fun e w' => e = .returned (.int .i64 (Lib.indexAny s.data.toList bads)) ∧ Mod (fun _ => False) w w' := by
  have h8z : decide ((8 : Int) < (s.size : Int)) = false := decide_eq_false (by omega)
  have HU := Lib.hid (fun w' => Tryz.strings_shouldUseASCIISet (s.size : Int) w')
  rw [h8z] at HU
  have hres : ∀ i (h : i < s.size), Lib.NoAny s.data.toList bads i → bads.contains (s[i]'h) = true → Lib.indexAny s.data.toList bads = i := fun i h hn hc => Lib.indexAny_hit hn (Lib.data_getElem? s i h) hc
  have hend : ∀ i, i = s.size → Lib.NoAny s.data.toList bads i → Lib.indexAny s.data.toList bads = -1 := fun i h hn => Lib.indexAny_none (by rw [← Lib.size_eq, ← h]; exact hn)
  generalize Lib.indexAny s.data.toList bads = RES at *
  have HRES := Lib.hid hres
  have HEND := Lib.hid hend
  clear h8z hres hend
  go_enter Tryz.func96, Tryz.ntmps96
  go_wp2_with fail
  refine (HU.out _).mono ?_
  rintro e w1 ⟨rfl, rfl⟩
  go_wp2_with fail
  go_loopw [9, 10] (fun _ _ wr => ∃ i : Nat, i ≤ s.size ∧ Hid (wr.heap[w1.heap.size]? = some (.stringIter s i)) ∧ Hid (Mod (fun _ => False) w1 wr) ∧ Hid (Lib.NoAny s.data.toList bads i)) (fun _ _ wr => s.size - wr.iterPos w1.heap.size)
  case atStart => exact ⟨0, by omega, Lib.hid (World.iter_heap _ _ _), Lib.hid ((Mod.refl _ _).alloc _), Lib.hid (Lib.NoAny.zero _ _)⟩
  case round =>
    obtain ⟨i, hi, HK, HM, HN⟩ := hrel
    have HP := Lib.hid (iter_pos HK.out)
    by_cases hlt : i < s.size
    · by_cases ha : (s[i]'hlt).toNat < 128
      · have hnx := fun ty => Lib.run_next_ascii_at (P := Tryz.prog) wr w1.heap.size s i ty HK.out hlt ha
        have hk2 := Lib.iterAt_heap wr w1.heap.size s i (i + 1) HK.out
        have hm2 : Mod (fun _ => False) w1 (wr.iterAt w1.heap.size s (i + 1)) := iter_mod HM.out (Nat.le_refl _)
        have HK2 := Lib.hid hk2
        have HM2 := Lib.hid hm2
        clear hk2 hm2
        have HC := Lib.hid (HRES.out i hlt HN.out)
        have HNS := Lib.hid (fun h => HN.out.succ (Lib.data_getElem? s i hlt) h)
        generalize s[i]'hlt = x at *
        have hir := fun (w' : World) => Tryz.strings_IndexRune_ascii ⟨#[47, 0]⟩ (x.toNat : Int) w' (by omega) (by omega)
        have hcon := Lib.contains_iff_indexByte bads x
        rw [show ((x.toNat : Int)).toNat.toUInt8 = x by simp] at hir
        rw [show (⟨#[47, 0]⟩ : ByteArray).data.toList = bads from rfl] at hir
        obtain ⟨z, hz⟩ : ∃ z, Lib.indexByte bads x = z := ⟨_, rfl⟩
        rw [hz] at hir hcon
        have HIR := Lib.hid hir
        clear hir hz
        cases hin : bads.contains x with
        | true =>
          rw [hin] at hcon
          have hge : (0 : Int) ≤ z := of_decide_eq_true hcon.symm
          have HR := Lib.hid (HC.out hin)
          clear hcon
          go_wp2_with fail
          refine (HIR.out _).mono ?_
          rintro e w2 ⟨rfl, hw2⟩
          rw [hw2]
          go_wp2_with fail
          go_ret
          exact ⟨by rw [HR.out]; rfl, HM2.out⟩
        | false =>
          rw [hin] at hcon
          have hge : ¬ (0 : Int) ≤ z := of_decide_eq_false hcon.symm
          have HNX := Lib.hid (HNS.out hin)
          clear hcon
          go_wp2_with fail
          refine (HIR.out _).mono ?_
          rintro e w2 ⟨rfl, hw2⟩
          rw [hw2]
          go_wp2_with fail
          go_roundw
          case rel => exact ⟨i + 1, by omega, HK2, HM2, HNX⟩
          case measure => rw [HP.out, iter_pos HK2.out]; omega
      · have hnx := fun ty => Lib.run_next_any_at (P := Tryz.prog) wr w1.heap.size s i ty HK.out hlt
        have hd := decode_high s i hlt (by omega)
        have hs := decode_step s i hlt (by omega)
        have HNX : Hid (Lib.NoAny s.data.toList bads (i + (Utf8.decode s i).2)) := Lib.hid (fun j b hj hb => by
          by_cases hji : j < i
          · exact HN.out j b hji hb
          · have hjs : j < s.size := by omega
            have h1 := hs.2 j (by omega) hj hjs
            rw [Lib.data_getElem? s j hjs] at hb
            obtain rfl := Option.some.inj hb
            generalize s[j]'hjs = y at *
            have e1 : y ≠ 47 := by rintro rfl; simp at h1
            have e2 : y ≠ 0 := by rintro rfl; simp at h1
            simp [bads, e1, e2])
        have HIR := Lib.hid (fun w' => indexRune_hi ((Utf8.decode s i).1 : Int) w' (by omega))
        have HK2 := Lib.hid (Lib.iterAt_heap wr w1.heap.size s i (i + (Utf8.decode s i).2) HK.out)
        have HM2 := Lib.hid (iter_mod (s := s) (p := i + (Utf8.decode s i).2) HM.out (Nat.le_refl _))
        have hs1 := hs.1
        obtain ⟨r, hr⟩ : ∃ r, (Utf8.decode s i).1 = r := ⟨_, rfl⟩
        obtain ⟨n, hn⟩ : ∃ n, (Utf8.decode s i).2 = n := ⟨_, rfl⟩
        rw [hr] at hd HIR
        rw [hn] at hd hs1 HK2 HM2 HNX
        rw [hr, hn] at hnx
        clear hs ha hr hn
        go_wp2_with fail
        refine (HIR.out _).mono ?_
        rintro e w2 ⟨rfl, hm2⟩
        have HK3 := Lib.hid (iter_keep HK2.out hm2 (fun h => h))
        have HM3 := Lib.hid (Mod.trans HM2.out hm2 (fun _ _ h => h))
        clear hm2
        go_wp2_with fail
        go_roundw
        case rel => exact ⟨i + n, hs1, HK3, HM3, HNX⟩
        case measure => rw [HP.out, iter_pos HK3.out]; omega
    · have hnx := fun ty => Lib.run_next_end_at (P := Tryz.prog) wr w1.heap.size s i ty HK.out hlt
      have HR := Lib.hid (HEND.out i (by omega) HN.out)
      go_wp2_with fail
      go_ret
      exact ⟨by rw [HR.out]; rfl, HM.out⟩
end Obj
end Go.Proofs.YtenamjldkaggcaaGreatDoor
/- path.IsName and the reference's IsName. -/
namespace Go.Proofs.YtenamjldkaggcaaGreatDoor
set_option linter.unusedVariables false
set_option linter.unusedSimpArgs false
open Go.RowKit K
namespace Obj

theorem zero_set (w : World) : (zeroValue 156).run Tryz.prog w = .ok (.agg (Array.replicate 256 (.bool false))) w :=
  (zero_of_info (P := Tryz.prog) (t := 156) (n := 256) (by kernel_rfl)).1 w
theorem indexAny_calls (s : ByteArray) (w : World) (hs : s.size ≤ 100000000) :
    Calls Tryz.prog 96 #[.string s, .string ⟨#[47, 0]⟩] w fun e w' => e = .returned (.int .i64 (Lib.indexAny s.data.toList bads)) ∧ Mod (fun _ => False) w w' := by
  by_cases h8 : s.size ≤ 8
  · exact indexAny_short s w h8
  · refine (Tryz.strings_IndexAny_long zero_set s ⟨#[47, 0]⟩ w (by decide) (by omega) (by omega) (by decide) (fun j b hb => ?_)).mono ?_
    · match j with
      | 0 => simp at hb; subst hb; decide
      | 1 => simp at hb; subst hb; decide
      | j + 2 => simp at hb
    · rintro e w' ⟨rfl, rfl⟩
      exact ⟨rfl, ((Mod.refl _ _).alloc _).alloc _⟩
set_option maxRecDepth 100000 in
theorem containsAny_calls (s : ByteArray) (w : World) (hs : s.size ≤ 100000000) :
    Calls Tryz.prog 89 #[.string s, .string ⟨#[47, 0]⟩] w fun e w' => e = .returned (.bool (hasBad s.data.toList)) ∧ Mod (fun _ => False) w w' := by
  have HI := Lib.hid (indexAny_calls s w hs)
  unfold hasBad Lib.containsAny
  go_enter Tryz.func89, Tryz.ntmps89
  go_wp2_with fail
  refine HI.out.mono ?_
  rintro e w1 ⟨rfl, hm⟩
  go_wp2_with fail
  go_ret
  exact ⟨rfl, hm⟩
def nameOk (s : ByteArray) : Bool := decide (1 ≤ s.size) && (decide (s.size ≤ 64) && (decide (s ≠ ⟨#[46]⟩) && (decide (s ≠ ⟨#[46, 46]⟩) && !hasBad s.data.toList)))
theorem nameOk_empty : nameOk ⟨#[]⟩ = false := rfl
theorem nameOk_dot : nameOk ⟨#[46]⟩ = false := by unfold nameOk; simp
theorem nameOk_dots : nameOk ⟨#[46, 46]⟩ = false := by unfold nameOk; simp
theorem nameOk_long {s : ByteArray} (h : 64 < s.size) : nameOk s = false := by
  unfold nameOk; rw [decide_eq_false (p := s.size ≤ 64) (by omega)]; simp
theorem nameOk_else {s : ByteArray} (h0 : s ≠ ⟨#[]⟩) (h1 : s ≠ ⟨#[46]⟩) (h2 : s ≠ ⟨#[46, 46]⟩) (h3 : s.size ≤ 64) : nameOk s = !hasBad s.data.toList := by
  have : 1 ≤ s.size := by
    rcases Nat.eq_zero_or_pos s.size with h | h
    · exact absurd (str_none s h) h0
    · exact h
  unfold nameOk
  rw [decide_eq_true this, decide_eq_true h3, decide_eq_true h1, decide_eq_true h2]; rfl

set_option maxRecDepth 100000 in
set_option maxHeartbeats 1000000 in
theorem isName_calls (s : ByteArray) (w : World) (hs : s.size ≤ 100000000) :
    Calls Tryz.prog 73 #[.string s] w fun e w' => e = .returned (.bool (nameOk s)) ∧ Mod (fun _ => False) w w' := by
  by_cases h0 : s = ⟨#[]⟩
  · subst h0
    go_enter Tryz.func73, Tryz.ntmps73
    go_wp2_with fail
    go_ret
    exact ⟨rfl, Mod.refl _ _⟩
  by_cases h1 : s = ⟨#[46]⟩
  · subst h1
    go_enter Tryz.func73, Tryz.ntmps73
    go_wp2_with fail
    go_ret
    exact ⟨by rw [nameOk_dot]; rfl, Mod.refl _ _⟩
  by_cases h2 : s = ⟨#[46, 46]⟩
  · subst h2
    go_enter Tryz.func73, Tryz.ntmps73
    go_wp2_with fail
    go_ret
    exact ⟨by rw [nameOk_dots]; rfl, Mod.refl _ _⟩
  have e0 : s.toList.isEmpty = false := by
    rcases Nat.eq_zero_or_pos s.size with h | h
    · exact absurd (str_none s h) h0
    · exact str_full s h
  have e1 : (s.toList == [46]) = false := by
    have := (Lib.bytes_beq_false_iff s ⟨#[46]⟩).2 h1
    rwa [show (⟨#[46]⟩ : ByteArray).toList = [46] by rw [Lib.toList_data]] at this
  have e2 : (s.toList == [46, 46]) = false := by
    have := (Lib.bytes_beq_false_iff s ⟨#[46, 46]⟩).2 h2
    rwa [show (⟨#[46, 46]⟩ : ByteArray).toList = [46, 46] by rw [Lib.toList_data]] at this
  by_cases h3 : (s.size : Int) ≤ 64
  · have HN := Lib.hid (nameOk_else h0 h1 h2 (by omega))
    have HC := Lib.hid (fun w' => containsAny_calls s w' hs)
    clear h0 h1 h2
    go_enter Tryz.func73, Tryz.ntmps73
    go_wp2_with fail
    refine (HC.out _).mono ?_
    rintro e w1 ⟨rfl, hm⟩
    go_wp2_with fail
    go_ret
    exact ⟨by rw [HN.out]; rfl, hm⟩
  · have HN := Lib.hid (nameOk_long (s := s) (by omega))
    go_enter Tryz.func73, Tryz.ntmps73
    go_wp2_with fail
    go_ret
    exact ⟨by rw [HN.out]; rfl, Mod.refl _ _⟩

theorem hasBad_hit {s : ByteArray} {k : Nat} (h : k < s.size) (hn : Lib.NoAny s.data.toList bads k) (hc : bads.contains (s[k]'h) = true) : hasBad s.data.toList = true := by
  unfold hasBad Lib.containsAny
  rw [Lib.indexAny_hit hn (Lib.data_getElem? s k h) hc]
  exact decide_eq_true (by omega)
theorem hasBad_none {s : ByteArray} {k : Nat} (h : k = s.size) (hn : Lib.NoAny s.data.toList bads k) : hasBad s.data.toList = false := by
  unfold hasBad Lib.containsAny
  rw [Lib.indexAny_none (by rw [← Lib.size_eq, ← h]; exact hn)]
  rfl
set_option maxRecDepth 100000 in
set_option maxHeartbeats 1000000 in
theorem rIsName_calls (s : ByteArray) (w : World) (hs : s.size ≤ 100000000) :
    Calls Tryz.prog 79 #[.string s] w fun e w' => e = .returned (.bool (nameOk s)) ∧ Mod (fun _ => False) w w' := by
  by_cases h0 : s = ⟨#[]⟩
  · subst h0
    go_enter Tryz.func79, Tryz.ntmps79
    go_wp2_with fail
    go_ret
    exact ⟨rfl, Mod.refl _ _⟩
  by_cases h1 : s = ⟨#[46]⟩
  · subst h1
    go_enter Tryz.func79, Tryz.ntmps79
    go_wp2_with fail
    go_ret
    exact ⟨by rw [nameOk_dot]; rfl, Mod.refl _ _⟩
  by_cases h2 : s = ⟨#[46, 46]⟩
  · subst h2
    go_enter Tryz.func79, Tryz.ntmps79
    go_wp2_with fail
    go_ret
    exact ⟨by rw [nameOk_dots]; rfl, Mod.refl _ _⟩
  have hpos : 0 < s.size := by
    rcases Nat.eq_zero_or_pos s.size with h | h
    · exact absurd (str_none s h) h0
    · exact h
  have e1 : (s.toList == [46]) = false := by
    have := (Lib.bytes_beq_false_iff s ⟨#[46]⟩).2 h1
    rwa [show (⟨#[46]⟩ : ByteArray).toList = [46] by rw [Lib.toList_data]] at this
  have e2 : (s.toList == [46, 46]) = false := by
    have := (Lib.bytes_beq_false_iff s ⟨#[46, 46]⟩).2 h2
    rwa [show (⟨#[46, 46]⟩ : ByteArray).toList = [46, 46] by rw [Lib.toList_data]] at this
  have c1 : ¬ (s.size : Int) < 1 := by omega
  by_cases h3 : 64 < (s.size : Int)
  · have HN := Lib.hid (nameOk_long (s := s) (by omega))
    clear h0 h1 h2
    go_enter Tryz.func79, Tryz.ntmps79
    go_wp2_with fail
    go_ret
    exact ⟨by rw [HN.out]; rfl, Mod.refl _ _⟩
  · have hne := nameOk_else h0 h1 h2 (by omega)
    have hit := fun k (h : k < s.size) hn hc => hasBad_hit (s := s) (k := k) h hn hc
    have hnone := fun k (h : k = s.size) hn => hasBad_none (s := s) (k := k) h hn
    generalize nameOk s = NK at *
    have HN := Lib.hid hne
    have HIT := Lib.hid hit
    have HNONE := Lib.hid hnone
    clear h0 h1 h2 hne hit hnone
    go_enter Tryz.func79, Tryz.ntmps79
    go_wp2_with fail
    go_loopw [3] (fun i wr => ∃ k : Nat, i = .int .i64 k ∧ k ≤ s.size ∧ Hid (Lib.NoAny s.data.toList bads k) ∧ wr = w) (fun i _ => s.size - (intOf i).toNat)
    case atStart => exact ⟨0, by go_num, by omega, Lib.hid (Lib.NoAny.zero _ _), rfl⟩
    case round =>
      obtain ⟨k, rfl, hk, HNA, rfl⟩ := hrel
      by_cases hlt : k < s.size
      · have i1 : (k : Int) < (s.size : Int) := by omega
        have i0 : (0 : Int) ≤ (k : Int) := by omega
        have HH := Lib.hid (HIT.out k hlt HNA.out)
        have HS := Lib.hid (fun h => HNA.out.succ (Lib.data_getElem? s k hlt) h)
        obtain ⟨x, hx⟩ : ∃ x, s[k]'hlt = x := ⟨_, rfl⟩
        rw [hx] at HH HS
        have h47 : ((x.toNat : Int) == 47) = decide (x = 47) := by
          rw [Bool.eq_iff_iff, beq_iff_eq, decide_eq_true_eq]
          exact ⟨fun h => UInt8.toNat_inj.1 (by simpa using Int.ofNat.inj h), fun h => by subst h; rfl⟩
        have h00 : ((x.toNat : Int) == 0) = decide (x = 0) := by
          rw [Bool.eq_iff_iff, beq_iff_eq, decide_eq_true_eq]
          exact ⟨fun h => UInt8.toNat_inj.1 (by simpa using Int.ofNat.inj h), fun h => by subst h; rfl⟩
        by_cases x47 : x = 47
        · have HR := Lib.hid (show NK = false by rw [HN.out, HH.out (by subst x47; rfl)]; rfl)
          rw [decide_eq_true x47] at h47
          clear h00 x47 HH HS
          go_wp2_with fail
          go_ret
          exact ⟨by rw [HR.out]; rfl, Mod.refl _ _⟩
        · rw [decide_eq_false x47] at h47
          by_cases x0 : x = 0
          · have HR := Lib.hid (show NK = false by rw [HN.out, HH.out (by subst x0; rfl)]; rfl)
            rw [decide_eq_true x0] at h00
            clear x47 x0 HH HS
            go_wp2_with fail
            go_ret
            exact ⟨by rw [HR.out]; rfl, Mod.refl _ _⟩
          · rw [decide_eq_false x0] at h00
            have HNX := Lib.hid (HS.out (by simp [bads, x47, x0]))
            clear x47 x0 HH HS
            go_wp2_with fail
            go_roundw
            case rel => exact ⟨k + 1, by go_num, by omega, HNX, trivial⟩
            case measure => simp [intOf]; omega
      · have i1 : ¬ (k : Int) < (s.size : Int) := by omega
        have HR := Lib.hid (show NK = true by rw [HN.out, HNONE.out k (by omega) HNA.out]; rfl)
        go_wp2_with fail
        go_ret
        exact ⟨by rw [HR.out]; rfl, Mod.refl _ _⟩
end Obj
end Go.Proofs.YtenamjldkaggcaaGreatDoor
