/- Joined texts: HashR, HashRp, HashRw. -/
import Derived.Test.YtpoljpjcmigobaaDoorJ6
import Derived.Deep.WholeRow
import Derived.Lib.FrozenHead
/- The walk of the reference's constants. -/
namespace Go.Proofs.YtpoljpjcmigobaaDoor
set_option linter.unusedVariables false
set_option linter.unusedSimpArgs false
open Go.RowKit K
namespace Hash

/-- an operation whose run is known -/
theorem wpList_val {P : Program} {ops : Array Oper} {rest : List Oper} {o : Oper} {a : Act} {w : World} {Q : Exit → Act → World → Prop} (v : Value) (t : TypeId) (ks : Array (Nat × Operand)) (_ho : o.op = .build t ks) (hg : o.guard = none)
    (hrun : (execOp a.eval o).run P w = .ok (.value v) w) (h : wpList P ops Q rest (a.put o.dst v) w) : wpList P ops Q (o :: rest) a w :=
  wpList_plain hg fun K hK => by unfold Oper.wp; rw [hrun]; exact hK _ _ h


set_option maxRecDepth 100000 in
set_option maxHeartbeats 4000000 in
theorem constants_calls (w : World) : Calls Tryd.prog 102 #[] w fun e w' => e = .returned (.agg (uv keysL).toArray) ∧ Mod (fun _ => False) w w' := by
  obtain ⟨V, hV⟩ : ∃ V, uv keysL = V := ⟨_, rfl⟩
  have HV := Lib.hid hV
  have hVl : V.length = 64 := by rw [← hV, uv_len]; rfl
  have HV1 : Hid (∀ u ∈ V, u.oneCell' = true) := Lib.hid (by rw [← hV]; intro u hu; obtain ⟨x, _, rfl⟩ := List.mem_map.1 hu; rfl)
  rw [hV]
  clear hV
  have hst : (storeCells ⟨w.heap.size, 0, none⟩ V 0).run Tryd.prog (w.alloc (.cells #[.int .u32 0, .int .u32 0, .int .u32 0, .int .u32 0, .int .u32 0, .int .u32 0, .int .u32 0, .int .u32 0, .int .u32 0, .int .u32 0, .int .u32 0, .int .u32 0, .int .u32 0, .int .u32 0, .int .u32 0, .int .u32 0, .int .u32 0, .int .u32 0, .int .u32 0, .int .u32 0, .int .u32 0, .int .u32 0, .int .u32 0, .int .u32 0, .int .u32 0, .int .u32 0, .int .u32 0, .int .u32 0, .int .u32 0, .int .u32 0, .int .u32 0, .int .u32 0, .int .u32 0, .int .u32 0, .int .u32 0, .int .u32 0, .int .u32 0, .int .u32 0, .int .u32 0, .int .u32 0, .int .u32 0, .int .u32 0, .int .u32 0, .int .u32 0, .int .u32 0, .int .u32 0, .int .u32 0, .int .u32 0, .int .u32 0, .int .u32 0, .int .u32 0, .int .u32 0, .int .u32 0, .int .u32 0, .int .u32 0, .int .u32 0, .int .u32 0, .int .u32 0, .int .u32 0, .int .u32 0, .int .u32 0, .int .u32 0, .int .u32 0, .int .u32 0] 156)) = .ok () (w.alloc (.cells V.toArray 156)) := by
    have h := run_storeCells_new (P := Tryd.prog) w 156 #[.int .u32 0, .int .u32 0, .int .u32 0, .int .u32 0, .int .u32 0, .int .u32 0, .int .u32 0, .int .u32 0, .int .u32 0, .int .u32 0, .int .u32 0, .int .u32 0, .int .u32 0, .int .u32 0, .int .u32 0, .int .u32 0, .int .u32 0, .int .u32 0, .int .u32 0, .int .u32 0, .int .u32 0, .int .u32 0, .int .u32 0, .int .u32 0, .int .u32 0, .int .u32 0, .int .u32 0, .int .u32 0, .int .u32 0, .int .u32 0, .int .u32 0, .int .u32 0, .int .u32 0, .int .u32 0, .int .u32 0, .int .u32 0, .int .u32 0, .int .u32 0, .int .u32 0, .int .u32 0, .int .u32 0, .int .u32 0, .int .u32 0, .int .u32 0, .int .u32 0, .int .u32 0, .int .u32 0, .int .u32 0, .int .u32 0, .int .u32 0, .int .u32 0, .int .u32 0, .int .u32 0, .int .u32 0, .int .u32 0, .int .u32 0, .int .u32 0, .int .u32 0, .int .u32 0, .int .u32 0, .int .u32 0, .int .u32 0, .int .u32 0, .int .u32 0] V.toArray (by simp [hVl]; exact ⟨_, rfl, rfl⟩) (by simp [hVl]) (by simpa using HV1.out)
    simpa using h
  go_enter Tryd.func102, Tryd.ntmps102
  go_wp2_with (first
    | fail
    | (refine wpList_val (.agg V.toArray) 156 _ rfl rfl (by rw [← HV.out]; kernel_rfl) ?_))
  refine bodyPost_ret (results_cell_row (P := Tryd.prog) rfl _ _ w.heap.size 156 _ (0, 0) _ rfl (Has.new w V 156) Tryd.underlying156 rfl ?hi) rfl ?_
  case hi => simp [hVl]; exact ⟨_, rfl, rfl⟩
  exact ⟨rfl, Mod.alloc (Mod.refl _ _) _⟩
end Hash
end Go.Proofs.YtpoljpjcmigobaaDoor
/- The walk of the reference's padded. -/
namespace Go.Proofs.YtpoljpjcmigobaaDoor
set_option linter.unusedVariables false
set_option linter.unusedSimpArgs false
open Go.RowKit K
namespace Hash

theorem pad_zero (n k : Nat) (hk : k ≤ (119 - n % 64) % 64) : (n + 1 + k) % 64 ≠ 56 ↔ k ≠ (119 - n % 64) % 64 := by omega
theorem bv_snoc (l : List UInt8) (x : UInt8) (z : Int) (h : z = (x.toNat : Int)) : bv l ++ [.int .u8 z] = bv (l ++ [x]) := by rw [bv_append, h]; rfl

def slen : Value → Nat
  | .slice _ n _ => n
  | _ => 0

set_option maxRecDepth 100000 in
set_option maxHeartbeats 4000000 in
theorem padded_calls (b o c : Nat) (l : List UInt8) (w : World) (hA : Cells w (some ⟨b, o, none⟩) (bv l)) (hl : l.length ≤ 2097152) :
    Calls Tryd.prog 103 #[.slice (some ⟨b, o, none⟩) l.length c] w fun e w' => ∃ v, e = .returned v ∧ w'.ownsRow w.heap.size 5 1 v (pad l).length (bv (pad l)) ∧ Mod (fun _ => False) w w' := by
  have HA := Lib.hid hA
  clear hA
  obtain ⟨i, hi, hz0, hz1, hz2⟩ := info_parts (P := Tryd.prog) (e := 5) (z := .int .u8 0) (size := 1) (bytes := 1) (by kernel_rfl)
  have hsum : IntKind.i64.wrap ((l.length : Int) + 72) = ((l.length + 72 : Nat) : Int) := by rw [IntKind.wrap_i64]; omega
  go_enter Tryd.func103, Tryd.ntmps103
  go_wp2_with (first
    | fail
    | (refine wpList_make_own _ rfl _ _ _ rfl w.heap.size 5 i _ 1 Tryd.underlying111 hi hz0 hz1 .i64 .i64 _ (l.length + 72) rfl rfl (by first | exact hsum | (simp; done) | omega) (by rw [hz2]; omega) (by unfold maxLen; omega) (Nat.le_refl _) ?_
       intro w1 hown1 hgr1
       have hm1 : Mod (fun _ => False) w w1 := Mod.grown (Mod.refl _ _) hgr1 (fun k hk => by cases hk)
       have hA1 := HA.out.keep hm1 (fun _ _ h => h)
       have hsz1 := hm1.size)
    | (at_builtin
       refine app _ _ bytes_t w.heap.size _ 0 [] hown1 ⟨b, o, none⟩ l.length c (bv l) rfl rfl rfl rfl (by rw [bv_length]; omega) (fun j u hj => by
         rcases hA1 with h | ⟨b', o', h, hc⟩
         · rw [h] at hj; simp at hj
         · obtain ⟨rfl, rfl⟩ : b = b' ∧ o = o' := by simpa using h
           rw [Addr.add_lit]; exact hc j u hj) (bv_one l) (by omega) (by unfold maxLen; omega) hsz1 ?_
       intro v2 w2 hown2 hm2
       rw [Nat.zero_add, List.nil_append] at hown2
       have HM2 : Hid (Mod (fun _ => False) w w2) := Lib.hid (Mod.trans hm1 hm2 (fun i hi ⟨h, _⟩ => absurd h (by omega)))
       have hsz2 := HM2.out.size
       have hown2a := hown2.alloc (.cells #[.int .u8 128] 5)
       clear hown1 hm2 hA1 hown2)
    | (at_builtin
       go_must (refine app _ _ bytes_t w.heap.size _ l.length (bv l) hown2a _ 1 1 [.int .u8 128] rfl rfl rfl rfl rfl (one_new _ _ _) (by simp [Value.oneCell']) (by omega) (by unfold maxLen; omega) (by simp; omega) ?_)
       intro v3 w3 hown3 hm3
       rw [bv_snoc l 128 128 rfl] at hown3
       have HM3 : Hid (Mod (fun _ => False) w w3) := Lib.hid (Mod.trans (HM2.out.alloc _) hm3 (fun i hi ⟨h, _⟩ => absurd h (by omega)))
       clear hown2a hm3))
  obtain ⟨z, hz⟩ : ∃ z, (119 - l.length % 64) % 64 = z := ⟨_, rfl⟩
  go_loopw [3] (fun out w' => ∃ k : Nat, k ≤ z ∧ w'.ownsRow w.heap.size 5 1 out (l.length + 1 + k) (bv (l ++ (128 :: List.replicate k 0))) ∧ Hid (Mod (fun _ => False) w w')) (fun out _ => z + l.length + 1 - slen out)
  case atStart => exact ⟨0, by omega, hown3, HM3⟩
  case round =>
    obtain ⟨k, hk, hown, HM⟩ := hrel
    have hpz := pad_zero l.length k (by omega)
    rw [hz] at hpz
    obtain ⟨m, hm⟩ : ∃ m, l.length + 1 + k = m := ⟨_, rfl⟩
    rw [hm] at hown hpz
    obtain ⟨A, cap, rfl, -, -, -, -⟩ := own_cells hown
    obtain ⟨r, hr⟩ : ∃ r, m % 64 = r := ⟨_, rfl⟩
    have u1 : Int.tmod (m : Int) 64 = (r : Int) := by rw [← hr]; rfl
    have u2 : (m : Int) % 64 = (r : Int) := by omega
    have hsz := HM.out.size
    rw [hr] at hpz
    by_cases hlt : k < z
    · have i1 : ¬ (r : Int) = 56 := by have := hpz.2 (by omega); omega
      have hown' := hown.alloc (.cells #[.int .u8 0] 5)
      have hbs := bv_snoc (l ++ (128 :: List.replicate k 0)) 0 0 rfl
      rw [List.append_assoc, List.cons_append, ← List.replicate_succ'] at hbs
      have HBS := Lib.hid hbs
      clear hown hbs hpz
      go_wp2_with (first
        | fail
        | (at_builtin
           go_must (refine app _ _ bytes_t w.heap.size _ m _ hown' _ 1 1 [.int .u8 0] rfl rfl rfl rfl rfl (one_new _ _ _) (by simp [Value.oneCell']) (by omega) (by unfold maxLen; omega) (by simp; omega) ?_)
           intro v5 w5 hown5 hm5
           rw [HBS.out] at hown5
           have HM5 : Hid (Mod (fun _ => False) w w5) := Lib.hid (Mod.trans (HM.out.alloc _) hm5 (fun i hi ⟨h, _⟩ => absurd h (by omega)))
           obtain ⟨A5, cap5, rfl, -, -, -, -⟩ := own_cells hown5
           clear hown' hm5))
      go_roundw
      case rel => exact ⟨k + 1, by omega, by rw [← Nat.add_assoc, hm]; exact hown5, HM5⟩
      case measure => simp only [slen]; omega
    · have i1 : (r : Int) = 56 := by
        by_cases h : r = 56
        · omega
        · have := hpz.1 h; omega
      obtain rfl : k = z := by omega
      obtain ⟨N, hN⟩ : ∃ N : Nat, (l.length : Int) * 8 = (N : Int) ∧ N = 8 * l.length := ⟨8 * l.length, by omega, rfl⟩
      obtain ⟨hN, hN2⟩ := hN
      have hNw : IntKind.u64.wrap (N : Int) = (N : Int) := by simp only [IntKind.wrap_u64]; omega
      have hpad : pad l = (l ++ (128 :: List.replicate k 0)) ++ be 8 N := by unfold pad; rw [hz, ← hN2, List.append_assoc]
      have hpl : (l ++ (128 :: List.replicate k 0)).length = m := by simp; omega
      generalize l ++ (128 :: List.replicate k 0) = L at *
      have HPAD := Lib.hid hpad
      have HOWN := Lib.hid hown
      have hbl := be_len 8 N
      clear hown hpad hpz hN2
      go_wp2_with fail
      go_loopw [3, 5] (fun out i w' => ∃ t : Nat, i = .int .i64 t ∧ t ≤ 8 ∧ w'.ownsRow w.heap.size 5 1 out (m + t) (bv (L ++ (be 8 N).take t)) ∧ Hid (Mod (fun _ => False) w w')) (fun _ i _ => 8 - (intOf i).toNat)
      case atStart => exact ⟨0, by go_num, by omega, by simpa using HOWN.out, HM⟩
      case round =>
        obtain ⟨t, rfl, ht, hown, HM⟩ := hrel
        have hsz := HM.out.size
        by_cases hlt : t < 8
        · have j1 : (t : Int) < 8 := by omega
          obtain ⟨s, hsh, hs⟩ : ∃ s : Nat, 56 - 8 * (t : Int) = (s : Int) ∧ s = 8 * (8 - 1 - t) := ⟨8 * (8 - 1 - t), by omega, rfl⟩
          have hbg := be_get 8 N t (by omega)
          rw [← hs] at hbg
          have hbs := bv_snoc (L ++ (be 8 N).take t) ((be 8 N)[t]'(by omega)) _ hbg.symm
          rw [List.append_assoc, ← List.take_succ_eq_append_getElem] at hbs
          have HBS := Lib.hid hbs
          have HS := Lib.hid hs
          have hown' := hown.alloc (.cells #[.int .u8 ((N : Int) / 2 ^ s % 256)] 5)
          clear hbs hbg hs hown
          go_wp2_with (first
            | fail
            | (at_builtin
               go_must (refine app _ _ bytes_t w.heap.size _ (m + t) _ hown' _ 1 1 [.int .u8 ((N : Int) / 2 ^ s % 256)] rfl rfl rfl rfl rfl (one_new _ _ _) (by simp [Value.oneCell']) (by omega) (by unfold maxLen; omega) (by simp; omega) ?_)
               intro v5 w5 hown5 hm5
               rw [HBS.out] at hown5
               have HM5 : Hid (Mod (fun _ => False) w w5) := Lib.hid (Mod.trans (HM.out.alloc _) hm5 (fun i hi ⟨h, _⟩ => absurd h (by omega)))
               clear hown' hm5))
          go_roundw
          case rel => exact ⟨t + 1, by go_num, by omega, hown5, HM5⟩
          case measure => simp [intOf]; omega
        · have j1 : ¬ (t : Int) < 8 := by omega
          obtain rfl : t = 8 := by omega
          rw [List.take_of_length_le (by omega), ← HPAD.out] at hown
          have hpl2 : (pad l).length = m + 8 := by rw [HPAD.out, List.length_append, hpl, hbl]
          rw [← hpl2] at hown
          clear hpl2
          go_wp2_with fail
          go_ret
          exact ⟨_, rfl, hown, HM.out⟩
end Hash
end Go.Proofs.YtpoljpjcmigobaaDoor
/- The walk of the reference's words. -/
namespace Go.Proofs.YtpoljpjcmigobaaDoor
set_option linter.unusedVariables false
set_option linter.unusedSimpArgs false
open Go.RowKit K
namespace Hash

theorem setRow_mod {S : Nat → Prop} {a w : World} {b : Nat} (h : Mod S a w) (hb : S b ∨ a.heap.size ≤ b) (V : Array Value) : Mod S a (w.setRow b V) :=
  ⟨h.os, h.tape, h.output, by unfold World.setRow; simpa using h.size, fun k hk hs => by
    have : b ≠ k := fun e => by subst e; rcases hb with hb | hb; exact hs hb; omega
    unfold World.setRow
    simp only [Array.getElem?_modify, if_neg this]
    exact h.block k hk hs⟩
theorem setRow_other {w : World} {b g : Nat} {cs : List Value} {T : TypeId} (h : Has w g cs T) (hb : g ≠ b) (V : Array Value) : Has (w.setRow b V) g cs T := by
  unfold Has World.setRow at *
  simp only [Array.getElem?_modify, if_neg (Ne.symm hb)]
  exact h
/-- a whole array, by value, into its block -/
theorem store_whole {P : Program} {w : World} {b : Nat} {cs V : List Value} {T : TypeId} (h : Has w b cs T) (hl : cs.length = V.length) (h1 : ∀ u ∈ V, u.oneCell' = true) :
    (storeCells ⟨b, 0, none⟩ V 0).run P w = .ok () (w.setRow b V.toArray) ∧ Has (w.setRow b V.toArray) b V T :=
  ⟨by simpa using run_storeCells_from (P := P) b T V 0 cs.toArray w h (by simp [hl]) h1, setRow_heap w b cs.toArray V.toArray T (0, 0) h⟩

theorem wstep_int2 (W : List Nat) (t : Nat) : IntKind.u32.wrap (IntKind.u32.wrap (IntKind.u32.wrap ((sig1 (W.getD (t - 2) 0) : Nat) + (W.getD (t - 7) 0 : Nat)) + (sig0 (W.getD (t - 15) 0) : Nat)) + (W.getD (t - 16) 0 : Nat)) = ((wstep W t : Nat) : Int) := by
  simp only [IntKind.wrap_u32]; unfold wstep M32; omega

set_option maxRecDepth 100000 in
set_option maxHeartbeats 4000000 in
theorem words_calls (g o c : Nat) (l : List UInt8) (w : World) (hA : ∀ j u, (bv l)[j]? = some u → w.cell? ⟨g, o + j, none⟩ = some u) (hg : g < w.heap.size) (ha : l.length = 64) :
    Calls Tryd.prog 104 #[.slice (some ⟨g, o, none⟩) 64 c] w fun e w' => e = .returned (.agg (uv (Wd l 64)).toArray) ∧ Mod (fun _ => False) w w' := by
  have HC : Hid (∀ k, k < 64 → w.cell? ⟨g, o + k, none⟩ = some (.int .u8 ((l.getD k 0).toNat : Int))) := Lib.hid fun k hk => by
    rw [hA k _ (bv_get l k (by omega)), List.getD_eq_getElem?_getD, List.getElem?_eq_getElem (by omega)]; rfl
  clear hA ha
  go_enter Tryd.func104, Tryd.ntmps104
  go_wp2_with fail
  go_loopw [4] (fun i w' => ∃ t : Nat, i = .int .i64 t ∧ t ≤ 16 ∧ Has w' (w.heap.size + 1) (uv (Wd l t)) 156 ∧ Hid (Has w' w.heap.size (uv (List.replicate 64 0)) 156) ∧ Hid (Mod (fun _ => False) w w'))
    (fun i _ => 16 - (intOf i).toNat)
  case atStart =>
    refine ⟨0, by go_num, by omega, ?_, ?_, ?_⟩
    · have := Has.new (w.alloc (.cells (uv (List.replicate 64 0)).toArray 156)) (uv (Wd l 0)) 156
      simp only [size_alloc] at this
      exact this
    · exact Lib.hid ((Has.new w (uv (List.replicate 64 0)) 156).alloc _)
    · exact Lib.hid (Mod.alloc (Mod.alloc (Mod.refl _ _) _) _)
  case round =>
    obtain ⟨t, rfl, ht, hW, HH, HM⟩ := hrel
    by_cases hlt : t < 16
    · have i1 : (t : Int) < 16 := by omega
      obtain ⟨k0, hk0⟩ : ∃ k : Nat, k = 4 * t := ⟨_, rfl⟩
      obtain ⟨k1, hk1⟩ : ∃ k : Nat, k = 4 * t + 1 := ⟨_, rfl⟩
      obtain ⟨k2, hk2⟩ : ∃ k : Nat, k = 4 * t + 2 := ⟨_, rfl⟩
      obtain ⟨k3, hk3⟩ : ∃ k : Nat, k = 4 * t + 3 := ⟨_, rfl⟩
      have j0 : (k0 : Int) < 64 := by omega
      have j1 : (k1 : Int) < 64 := by omega
      have j2 : (k2 : Int) < 64 := by omega
      have j3 : (k3 : Int) < 64 := by omega
      have q0 : Hid (IntKind.i64.wrap (4 * (t : Int)) = (k0 : Int)) := Lib.hid (by simp only [IntKind.wrap_i64]; omega)
      have q1 : Hid (IntKind.i64.wrap ((k0 : Int) + 1) = (k1 : Int)) := Lib.hid (by simp only [IntKind.wrap_i64]; omega)
      have q2 : Hid (IntKind.i64.wrap ((k0 : Int) + 2) = (k2 : Int)) := Lib.hid (by simp only [IntKind.wrap_i64]; omega)
      have q3 : Hid (IntKind.i64.wrap ((k0 : Int) + 3) = (k3 : Int)) := Lib.hid (by simp only [IntKind.wrap_i64]; omega)
      have hcell := fun k (h : k < 64) => (HM.out.cell (p := ⟨g, o + k, none⟩) hg (fun h => h)).trans (HC.out k h)
      have d0 := hcell k0 (by omega)
      have d1 := hcell k1 (by omega)
      have d2 := hcell k2 (by omega)
      have d3 := hcell k3 (by omega)
      have hor := or4 (l.getD k0 0).toNat (l.getD k1 0).toNat (l.getD k2 0).toNat (l.getD k3 0).toNat (l.getD k0 0).toNat_lt (l.getD k1 0).toNat_lt (l.getD k2 0).toNat_lt (l.getD k3 0).toNat_lt
      have hld : (l.getD k0 0).toNat * 16777216 + (l.getD k1 0).toNat * 65536 + (l.getD k2 0).toNat * 256 + (l.getD k3 0).toNat = ld l t := by
        unfold ld
        rw [← hk3, ← hk2, ← hk1, ← hk0]
      rw [hld] at hor
      have hset : (uv (Wd l t)).set t (.int .u32 (ld l t : Nat)) = uv (Wd l (t + 1)) := by
        rw [uv_set, Wd, if_pos hlt]
      generalize ld l t = X at hor hset
      generalize l.getD k0 0 = y0 at *
      generalize l.getD k1 0 = y1 at *
      generalize l.getD k2 0 = y2 at *
      generalize l.getD k3 0 = y3 at *
      have HOR := Lib.hid hor
      have hcl := hW.cell (uv_get _ t (by rw [Wd_len]; omega))
      have hfz := hW.frozen t
      have HS := Lib.hid (hset ▸ hW.set t (.int .u32 (X : Int)))
      clear hk0 hk1 hk2 hk3 hor hld hset hW hcell
      go_wp2_with fail
      refine region_tail 34 (by kernel_rfl) (by kernel_rfl) ?_
      simp only [List.take_succ_cons, List.take_zero, List.drop_succ_cons, List.drop_zero]
      repeat still_step
      simp only [q0.out]
      repeat still_step
      simp only [q0.out, q1.out]
      repeat still_step
      simp only [q0.out]
      repeat still_step
      simp only [q0.out, q2.out]
      repeat still_step
      simp only [q0.out]
      repeat still_step
      simp only [q0.out, q3.out]
      repeat still_step
      refine wpStill_nil ?_
      simp only [HOR.out]
      go_wp2_with fail
      go_roundw
      case rel => exact ⟨t + 1, by go_num, by omega, HS.out, Lib.hid (HH.out.other (p := ⟨w.heap.size + 1, t, none⟩) (by dsimp only; omega) _), Lib.hid (HM.out.drew.setCell (p := ⟨w.heap.size + 1, t, none⟩) (.inr (by dsimp only; omega)) _)⟩
      case measure => simp [intOf]; omega
    · have i1 : ¬ (t : Int) < 16 := by omega
      go_wp2_with fail
      go_loopw [5] (fun i w' => ∃ t : Nat, i = .int .i64 t ∧ 16 ≤ t ∧ t ≤ 64 ∧ Has w' (w.heap.size + 1) (uv (Wd l t)) 156 ∧ Hid (Has w' w.heap.size (uv (List.replicate 64 0)) 156) ∧ Hid (Mod (fun _ => False) w w'))
        (fun i _ => 64 - (intOf i).toNat)
      case atStart => exact ⟨16, by go_num, by omega, by omega, (show t = 16 by omega) ▸ hW, HH, HM⟩
      case round =>
        obtain ⟨t, rfl, ht0, ht, hW, HH, HM⟩ := hrel
        have hlen := Wd_len l t
        have hlts := Wd_lt l t
        by_cases hlt : t < 64
        · have i1 : (t : Int) < 64 := by omega
          have hws := wstep_int2 (Wd l t) t
          have hset := Wd_next l t ht0
          obtain ⟨k15, hk15⟩ : ∃ k : Nat, t - 15 = k := ⟨_, rfl⟩
          obtain ⟨k2, hk2⟩ : ∃ k : Nat, t - 2 = k := ⟨_, rfl⟩
          obtain ⟨k16, hk16⟩ : ∃ k : Nat, t - 16 = k := ⟨_, rfl⟩
          obtain ⟨k7, hk7⟩ : ∃ k : Nat, t - 7 = k := ⟨_, rfl⟩
          rw [hk15, hk2, hk16, hk7] at hws
          have c15 := hW.cell (uv_get _ k15 (by omega))
          have c2 := hW.cell (uv_get _ k2 (by omega))
          have c16 := hW.cell (uv_get _ k16 (by omega))
          have c7 := hW.cell (uv_get _ k7 (by omega))
          have ct := hW.cell (uv_get _ t (by omega))
          have ft := hW.frozen t
          have q15 : IntKind.i64.wrap ((t : Int) - 15) = (k15 : Int) := by simp only [IntKind.wrap_i64]; omega
          have q2 : IntKind.i64.wrap ((t : Int) - 2) = (k2 : Int) := by simp only [IntKind.wrap_i64]; omega
          have Q16 : Hid (IntKind.i64.wrap ((t : Int) - 16) = (k16 : Int)) := Lib.hid (by simp only [IntKind.wrap_i64]; omega)
          have Q7 : Hid (IntKind.i64.wrap ((t : Int) - 7) = (k7 : Int)) := Lib.hid (by simp only [IntKind.wrap_i64]; omega)
          have r15 : (t : Int) - 15 = (k15 : Int) := by omega
          have r2 : (t : Int) - 2 = (k2 : Int) := by omega
          have n15 : (k15 : Int) < 64 := by omega
          have n2 : (k2 : Int) < 64 := by omega
          have n16 : (k16 : Int) < 64 := by omega
          have n7 : (k7 : Int) < 64 := by omega
          have hx := getD_lt hlts k15
          have hy := getD_lt hlts k2
          obtain ⟨x1, x2, hx1, hx2, hx3⟩ := sig0_int _ hx
          obtain ⟨y1, y2, hy1, hy2, hy3⟩ := sig1_int _ hy
          generalize (Wd l t).getD k15 0 = X at *
          generalize (Wd l t).getD k2 0 = Y at *
          generalize (Wd l t).getD k16 0 = X16 at *
          generalize (Wd l t).getD k7 0 = X7 at *
          generalize (Wd l t).getD t 0 = Xt at *
          generalize wstep (Wd l t) t = Z at *
          generalize sig0 X = S0 at *
          generalize sig1 Y = S1 at *
          have HWS := Lib.hid hws
          have HS := Lib.hid (hset ▸ hW.set t (.int .u32 (Z : Int)))
          clear hk15 hk2 hk16 hk7 hws hset hlts hlen hW
          go_wp2_with fail
          refine (rotr_calls X 7 _ hx (by decide) (by decide)).mono ?_
          rintro e w1 ⟨rfl, hw⟩; subst hw
          go_wp2_with fail
          refine (rotr_calls X 18 _ hx (by decide) (by decide)).mono ?_
          rintro e w1 ⟨rfl, hw⟩; subst hw
          go_wp2_with fail
          refine (rotr_calls Y 17 _ hy (by decide) (by decide)).mono ?_
          rintro e w1 ⟨rfl, hw⟩; subst hw
          go_wp2_with fail
          refine (rotr_calls Y 19 _ hy (by decide) (by decide)).mono ?_
          rintro e w1 ⟨rfl, hw⟩; subst hw
          go_wp2_with fail
          refine region_tail 14 (by kernel_rfl) (by kernel_rfl) ?_
          simp only [List.take_succ_cons, List.take_zero, List.drop_succ_cons, List.drop_zero]
          repeat still_step
          simp only [Q7.out]
          repeat still_step
          simp only [Q16.out]
          repeat still_step
          refine wpStill_nil ?_
          simp only [HWS.out]
          go_wp2_with fail
          go_roundw
          case rel => exact ⟨t + 1, by go_num, by omega, by omega, HS.out.drewN _, Lib.hid (HH.out.other (p := ⟨w.heap.size + 1, t, none⟩) (by dsimp only; omega) _), Lib.hid (Mod.drewN (HM.out.setCell (p := ⟨w.heap.size + 1, t, none⟩) (.inr (by dsimp only; omega)) _) _)⟩
          case measure => simp [intOf]; omega
        · have h64 : Hid (t = 64) := Lib.hid (by omega)
          have i1 : ¬ (t : Int) < 64 := by omega
          rw [h64.out] at hW
          have hWl := Wd_len l 64
          obtain ⟨V, hV⟩ : ∃ V, uv (Wd l 64) = V := ⟨_, rfl⟩
          have HV := Lib.hid hV
          have hVl : V.length = 64 := by rw [← hV, uv_len, hWl]
          have HV1 : Hid (∀ u ∈ V, u.oneCell' = true) := Lib.hid (by rw [← hV]; intro u hu; obtain ⟨x, _, rfl⟩ := List.mem_map.1 hu; rfl)
          rw [hV] at hW
          have hF : wr.heap[w.heap.size + 1]? = some (.cells V.toArray 156 (0, 0)) := hW
          obtain ⟨hst, hnew⟩ := store_whole (P := Tryd.prog) HH.out (V := V) (by rw [uv_len, hVl]; rfl) HV1.out
          have hmod := setRow_mod HM.out (b := w.heap.size) (.inr (Nat.le_refl _)) V.toArray
          have HNEW := Lib.hid hnew
          have HMOD := Lib.hid hmod
          clear hW hV hWl hnew hmod HH HM hlen hlts
          go_wp2_with (first
            | fail
            | (refine wpList_load_row rfl 156 (.tmp 3) rfl (w.heap.size + 1) rfl 156 V.toArray (0, 0) _ hF Tryd.underlying156 rfl (by simp [hVl]; exact ⟨_, rfl, rfl⟩) ?_))
          refine bodyPost_ret (results_cell_row (P := Tryd.prog) rfl _ _ w.heap.size 156 _ (0, 0) _ rfl HNEW.out Tryd.underlying156 rfl ?hi) rfl ?_
          case hi => simp [hVl]; exact ⟨_, rfl, rfl⟩
          exact ⟨by rw [HV.out], HMOD.out⟩
end Hash
end Go.Proofs.YtpoljpjcmigobaaDoor
