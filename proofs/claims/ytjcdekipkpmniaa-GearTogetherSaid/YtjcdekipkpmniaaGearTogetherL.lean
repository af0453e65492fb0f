/- The law GearTogether: how bytes are cut into pieces makes no difference. -/
import Derived.Test.YtjcdekipkpmniaaGearPiecesL
import Derived.OwnWalk
import Derived.Test.YtjcdekipkpmniaaKr
namespace Go.Proofs.Ytjcdekipkpmniaa
open Go.RowKit K
namespace Gear

/-- all, from a place on, is just these chunks, which end there -/
def splits (all : List UInt8) : Int → List Int → List (List UInt8) → Prop
  | f, [], [] => f = all.length
  | f, e :: es, c :: cs => 0 ≤ f ∧ f < e ∧ e ≤ all.length ∧ (all.drop f.toNat).take (e - f).toNat = c ∧ splits all e es cs
  | _, _, _ => False

/-- the rest, where there is one -/
def left : List UInt8 → List (List UInt8)
  | [] => []
  | c :: r => [c :: r]
theorem left_cons {r : List UInt8} (h : r ≠ []) : left r = [r] := by
  cases r with
  | nil => exact absurd rfl h
  | cons c r => rfl

theorem seg_of (pre r x l : List UInt8) : ((pre ++ (r ++ (x ++ l))).drop pre.length).take (r.length + x.length) = r ++ x := by
  rw [List.drop_left, ← List.append_assoc, ← List.length_append, List.take_left]

theorem cuts_splits (all : List UInt8) : ∀ (l pre r : List UInt8) (s n : Int), all = pre ++ (r ++ l) → n = r.length → n < 1024 →
    splits all pre.length (cuts l ((pre.length + r.length : Nat) : Int) s n) ((feed ⟨[], s, n, r⟩ l).out ++ left (feed ⟨[], s, n, r⟩ l).rest)
  | [], pre, r, s, n, ha, hn, _ => by
    rw [show feed ⟨[], s, n, r⟩ [] = ⟨[], s, n, r⟩ from rfl]
    simp only [cuts, List.nil_append]
    by_cases hr : r = []
    · subst hr
      rw [if_neg (by simp at hn; omega)]
      show (pre.length : Int) = all.length
      rw [ha]; simp
    · have hpos := List.length_pos_iff.2 hr
      rw [if_pos (by omega), left_cons hr]
      have hal : all.length = pre.length + r.length := by rw [ha]; simp
      refine ⟨by omega, by omega, by omega, ?_, ?_⟩
      · have e1 : ((pre.length : Int)).toNat = pre.length := by omega
        have e2 : (((pre.length + r.length : Nat) : Int) - (pre.length : Int)).toNat = r.length := by omega
        rw [e1, e2, ha]; simp
      · simp only [splits]; omega
  | c :: l, pre, r, s, n, ha, hn, h1 => by
    have hst := stp_n s n c.toNat (by omega) h1
    have hf := stp_fst s n c.toNat
    have h2 : feed ⟨[], s, n, r⟩ (c :: l) = feed (step ⟨[], s, n, r⟩ c) l := rfl
    have hal : all.length = pre.length + r.length + 1 + l.length := by rw [ha]; simp; omega
    simp only [cuts]
    rw [h2]
    unfold step
    dsimp only
    by_cases hc : (stp s n c.toNat).1 = true
    · rw [if_pos hc, if_pos hc]
      rw [if_pos hc] at hf
      rw [List.nil_append, feed_pre l [r ++ [c]]]
      have ih := cuts_splits all l (pre ++ (r ++ [c])) [] (stp s n c.toNat).2.1 (stp s n c.toNat).2.2 (by rw [ha]; simp) (by rw [hf]; rfl) hst.2
      have e1 : (((pre ++ (r ++ [c])).length + ([] : List UInt8).length : Nat) : Int) = ((pre.length + r.length : Nat) : Int) + 1 := by simp; omega
      have e2 : ((pre ++ (r ++ [c])).length : Int) = ((pre.length + r.length : Nat) : Int) + 1 := by simp; omega
      rw [e1, e2] at ih
      refine ⟨by omega, by omega, by omega, ?_, ih⟩
      have e3 : ((pre.length : Int)).toNat = pre.length := by omega
      have e4 : (((pre.length + r.length : Nat) : Int) + 1 - (pre.length : Int)).toNat = r.length + [c].length := by simp only [List.length_singleton]; omega
      rw [e3, e4, ha]
      exact seg_of pre r [c] l
    · rw [if_neg hc, if_neg hc]
      rw [if_neg hc] at hf
      have ih := cuts_splits all l pre (r ++ [c]) (stp s n c.toNat).2.1 (stp s n c.toNat).2.2 (by rw [ha]; simp) (by rw [hf, hn]; simp) hst.2
      have e1 : ((pre.length + (r ++ [c]).length : Nat) : Int) = ((pre.length + r.length : Nat) : Int) + 1 := by simp; omega
      rw [e1] at ih
      exact ih

theorem splits_len (all : List UInt8) : ∀ (es : List Int) (cs : List (List UInt8)) (f : Int), splits all f es cs → es.length = cs.length
  | [], [], _, _ => rfl
  | [], _ :: _, _, h => h.elim
  | _ :: _, [], _, h => h.elim
  | _ :: es, _ :: cs, _, h => by simp only [List.length_cons]; rw [splits_len all es cs _ h.2.2.2.2]

/-- append(v, x...), both the call's own -/
theorem app_own {P : Program} {w : World} {ops : Array Oper} {rest : List Oper} {o : Oper} {a : Act} {Q : Exit → Act → World → Prop} (s x : Operand) {t e size bytes : Nat} (T : SliceT P t e size bytes)
    (base base2 : Nat) (v u : Value) (n m : Nat) (xs ys : List Value) (hown : w.ownsRow base e size v n xs) (hu : w.ownsRow base2 e size u m ys)
    (hgd : o.guard = none) (ho : o.op = .call { callee := .builtin .append, args := #[s, x], argTypes := #[t, t] })
    (hs : a.eval s = v) (hx : a.eval x = u) (h1 : ∀ y ∈ ys, y.oneCell' = true)
    (hb : (n + m) * bytes ≤ 140737488355328) (hm : n + m ≤ maxLen) (hbase : base ≤ w.heap.size)
    (h : ∀ v' w', w'.ownsRow base e size v' (n + m) (xs ++ ys) → Mod (fun k => base ≤ k ∧ v.ownBlock = some k) w w' → wpList P ops Q rest (a.put o.dst v') w') : wpList P ops Q (o :: rest) a w := by
  have hu0 := hu
  obtain ⟨hyl, ⟨rfl, rfl⟩ | ⟨g, cap, cur, rfl, hg, hh, -, -, -, -⟩⟩ := hu
  · have hy : ys = [] := by simpa using hyl
    subst hy
    obtain ⟨ht, hsz, i, z, hi, hz, hsize, hby, hzs⟩ := T
    exact wpList_append_own_none hgd s x _ ho base e i size ht hi v n xs hs hown hx (h v w (by simpa using hown) (Mod.refl _ _))
  · exact app s x T base v n xs hown ⟨g, 0, none⟩ m cap ys hgd ho hs hx hyl (fun j y hj => hu0.cells (g := g) rfl j y hj) h1 hb hm hbase h

theorem flat_of : ∀ (L : List (List UInt8)), flat (L.map fun l => (⟨l.toArray⟩ : ByteArray)) = L.flatten
  | [] => rfl
  | l :: L => by
    have ih := flat_of L
    unfold flat at *
    rw [List.map_cons, List.flatMap_cons, ih]; simp
theorem left_if (r : List UInt8) : (if r = [] then [] else [r]) = left r := by
  cases r <;> rfl
theorem left_len (r : List UInt8) : (if r = [] then 0 else 1) = (left r).length := by
  cases r <;> rfl
theorem slice_mid (l ch : List UInt8) (f e : Int) (h0 : 0 ≤ f) (h1 : f < e) (h2 : e ≤ l.length) (h : (l.drop f.toNat).take (e - f).toNat = ch) (w' : World) :
    (Instr.slice 9 (.string ⟨l.toArray⟩) (some (.int .i64 f)) (some (.int .i64 e)) none).run Try.prog w' = .ok (.string ⟨ch.toArray⟩) w' := by
  rw [run_slice_string w' 9 ⟨l.toArray⟩ .i64 .i64 f e Try.underlying9 (by omega) (by omega) (by rw [size_of]; omega)]
  congr 2
  apply ByteArray.ext
  apply Array.toList_inj.1
  have e1 : e.toNat - f.toNat = (e - f).toNat := by omega
  simp [ByteArray.data_extract, Array.toList_extract, List.extract, e1, h]
theorem sv_one (l : List (List UInt8)) : ∀ y ∈ sv l, y.oneCell' = true := by
  intro y hy; obtain ⟨x, _, rfl⟩ := List.mem_map.1 hy; rfl

set_option maxRecDepth 100000 in
set_option maxHeartbeats 4000000 in
theorem gearTogether_calls (A : Option Addr) (c : Nat) (ps : List ByteArray) (w : World) (hA : TextsIn w A ps) :
    Calls Try.prog 9 #[.slice A ps.length c] w fun e w' => e = .returned (.bool true) ∧ Below w.heap.size w w' := by
  have HA := Lib.hid hA
  have hpl := hA.len
  clear hA
  go_enter Try.func9, Try.ntmps9
  go_wp2_with fail
  refine (shown_calls _).mono ?_
  rintro e w1 ⟨rfl, hm⟩
  have HM1 := Lib.hid hm
  clear hm
  go_wp2_with fail
  go_loopw [4, 5, 6] (fun v r i w' => ∃ (k : Nat) (L : List (List UInt8)) (R : List UInt8), i = .int .i64 k ∧ r = .string ⟨R.toArray⟩ ∧ k ≤ ps.length ∧ k ≤ 100 ∧ L.length = k ∧ Hid (L.flatten = R) ∧ R.length ≤ 10000 * k ∧
      w'.ownsRow w.heap.size 9 1 v k (sv L) ∧ Hid (Mod (fun _ => False) w w')) (fun _ _ i _ => ps.length - (intOf i).toNat)
  case atStart => exact ⟨0, [], [], by go_num, rfl, by omega, by omega, rfl, Lib.hid rfl, by simp, World.ownsRow_nil _ _ _ _, HM1⟩
  case round =>
    obtain ⟨k, L, R, rfl, rfl, hk, hk100, hL, HF, hRl, hown, HM⟩ := hrel
    have hszR := size_of R
    by_cases hlt : k < ps.length ∧ k < 100
    · obtain ⟨hlt, hlt100⟩ := hlt
      rcases HA.out.row with h | ⟨ab, ao, rfl, hcell⟩
      · simp at h; subst h; simp at hlt
      obtain ⟨p, hp⟩ : ∃ p, ps[k] = p := ⟨_, rfl⟩
      have c1 := hcell k (.string p) (by rw [List.getElem?_map, List.getElem?_eq_getElem hlt, hp]; rfl)
      have hpm := HA.out.size p (hp ▸ List.getElem_mem hlt)
      have c0 := c1
      rw [← HM.out.cell (World.block_lt_of_cell? w _ c1) (fun h => h)] at c1
      have i1 : (k : Int) < (ps.length : Int) := by omega
      have i2 : (k : Int) < 100 := by omega
      have hsl := slice_upto p (min p.size 10000) (by omega)
      have hcl := cutL_len p
      rw [← show cutL p = p.data.toList.take (min p.size 10000) from rfl] at hsl
      obtain ⟨K, hK⟩ : ∃ K, min p.size 10000 = K := ⟨_, rfl⟩
      rw [hK] at hsl
      have HMIN : Hid ((if (10000 : Int) < (p.size : Int) then (10000 : Int) else (p.size : Int)) = (K : Int)) := Lib.hid (by rw [← hK]; split <;> omega)
      generalize cutL p = Q at *
      have hsz := HM.out.size
      clear hcell hp hK
      go_wp2_with fail
      have hno : ¬ (9223372036854775807 < R.length + Q.length) := by omega
      have hcat := cat_texts R Q
      obtain ⟨R1, hR1⟩ : ∃ R1, R ++ Q = R1 := ⟨_, rfl⟩
      rw [hR1] at hcat
      have hR1l : R1.length = R.length + Q.length := by rw [← hR1, List.length_append]
      have HFL : Hid ((L ++ [Q]).flatten = R1) := Lib.hid (by rw [List.flatten_append, HF.out, ← hR1]; simp)
      have hown0 : (wr.drew).ownsRow w.heap.size 9 1 _ k (sv L) := hown
      clear hR1
      have hcw : ∀ w', Mod (fun k => w.heap.size ≤ k) wr.drew w' → w'.cell? ⟨ab, ao + k, none⟩ = some (.string p) := fun w' h => by
        rw [h.cell (World.block_lt_of_cell? wr _ c1) (by have := World.block_lt_of_cell? w _ c0; dsimp only at this ⊢; omega)]; exact c1
      have hmin := HMIN.out
      refine region_mS (fun k => w.heap.size ≤ k) (by kernel_rfl) ?_
      simp only [List.length_cons, List.length_nil, List.replicate]
      refine take0S (v := ?v1) (oi := ?o1) 0 ?hi1 (by kernel_rfl) (by kernel_rfl) (by kernel_rfl) ?hq1 ?hy1 ?_
      case hi1 => (simp only [List.getElem?_toArray, List.getElem?_cons_zero, List.getElem?_cons_succ]; rfl)
      case hq1 => exact fun _ _ _ h => h
      case hy1 => first | (refine ry_notS ?_; rfl) | (refine ry_runS (by rfl) (fun w' hw' => ?_); go_simp; try rfl)
      simp only [Act.put, List.setIfInBounds_toArray, List.set_cons_zero, List.set_cons_succ]
      refine take0S (v := ?v2) (oi := ?o2) 1 ?hi2 (by kernel_rfl) (by kernel_rfl) (by kernel_rfl) ?hq2 ?hy2 ?_
      case hi2 => (simp only [List.getElem?_toArray, List.getElem?_cons_zero, List.getElem?_cons_succ]; rfl)
      case hq2 => exact fun _ _ _ h => h
      case hy2 => first | (refine ry_notS ?_; rfl) | (refine ry_runS (by rfl) (fun w' hw' => ?_); go_simp; try rfl)
      simp only [Act.put, List.setIfInBounds_toArray, List.set_cons_zero, List.set_cons_succ]
      refine take0S (v := ?v3) (oi := ?o3) 2 ?hi3 (by kernel_rfl) (by kernel_rfl) (by kernel_rfl) ?hq3 ?hy3 ?_
      case hi3 => (simp only [List.getElem?_toArray, List.getElem?_cons_zero, List.getElem?_cons_succ]; rfl)
      case hq3 => exact fun _ _ _ h => h
      case hy3 => first | (refine ry_notS ?_; rfl) | (refine ry_runS (by rfl) (fun w' hw' => ?_); go_simp; try rfl)
      simp only [Act.put, List.setIfInBounds_toArray, List.set_cons_zero, List.set_cons_succ]
      refine take0S (v := ?v4) (oi := ?o4) 3 ?hi4 (by kernel_rfl) (by kernel_rfl) (by kernel_rfl) ?hq4 ?hy4 ?_
      case hi4 => (simp only [List.getElem?_toArray, List.getElem?_cons_zero, List.getElem?_cons_succ]; rfl)
      case hq4 => exact fun _ _ _ h => h
      case hy4 => first | (refine ry_notS ?_; rfl) | (refine ry_runS (by rfl) (fun w' hw' => ?_); go_simp; try rfl)
      simp only [Act.put, List.setIfInBounds_toArray, List.set_cons_zero, List.set_cons_succ]
      refine take0S (v := ?v5) (oi := ?o5) 4 ?hi5 (by kernel_rfl) (by kernel_rfl) (by kernel_rfl) ?hq5 ?hy5 ?_
      case hi5 => (simp only [List.getElem?_toArray, List.getElem?_cons_zero, List.getElem?_cons_succ]; rfl)
      case hq5 => exact fun _ _ _ h => h
      case hy5 => first | (refine ry_notS ?_; rfl) | (refine ry_runS (by rfl) (fun w' hw' => ?_); go_simp; try rfl)
      simp only [Act.put, List.setIfInBounds_toArray, List.set_cons_zero, List.set_cons_succ]
      refine take0S (v := ?v6) (oi := ?o6) 5 ?hi6 (by kernel_rfl) (by kernel_rfl) (by kernel_rfl) ?hq6 ?hy6 ?_
      case hi6 => (simp only [List.getElem?_toArray, List.getElem?_cons_zero, List.getElem?_cons_succ]; rfl)
      case hq6 => exact fun _ _ _ h => h
      case hy6 => first | (refine ry_notS ?_; rfl) | (refine ry_runS (by rfl) (fun w' hw' => ?_); go_simp; try rfl)
      simp only [Act.put, List.setIfInBounds_toArray, List.set_cons_zero, List.set_cons_succ]
      refine take0S (v := ?v7) (oi := ?o7) 6 ?hi7 (by kernel_rfl) (by kernel_rfl) (by kernel_rfl) ?hq7 ?hy7 ?_
      case hi7 => (simp only [List.getElem?_toArray, List.getElem?_cons_zero, List.getElem?_cons_succ]; rfl)
      case hq7 => exact fun _ _ _ h => h
      case hy7 => first | (refine ry_notS ?_; rfl) | (refine ry_runS (by rfl) (fun w' hw' => ?_); go_simp; try rfl)
      simp only [Act.put, List.setIfInBounds_toArray, List.set_cons_zero, List.set_cons_succ]
      refine take0S (v := ?v8) (oi := ?o8) 7 ?hi8 (by kernel_rfl) (by kernel_rfl) (by kernel_rfl) ?hq8 ?hy8 ?_
      case hi8 => (simp only [List.getElem?_toArray, List.getElem?_cons_zero, List.getElem?_cons_succ]; rfl)
      case hq8 => exact fun _ _ _ h => h
      case hy8 => first | (refine ry_notS ?_; rfl) | (refine ry_runS (by rfl) (fun w' hw' => ?_); go_simp; try rfl)
      simp only [Act.put, List.setIfInBounds_toArray, List.set_cons_zero, List.set_cons_succ]
      refine take0S (v := ?v9) (oi := ?o9) 8 ?hi9 (by kernel_rfl) (by kernel_rfl) (by kernel_rfl) ?hq9 ?hy9 ?_
      case hi9 => (simp only [List.getElem?_toArray, List.getElem?_cons_zero, List.getElem?_cons_succ]; rfl)
      case hq9 => exact fun _ _ _ h => h
      case hy9 => first | (refine ry_notS ?_; rfl) | (refine ry_runS (by rfl) (fun w' hw' => ?_); go_simp; try rfl)
      simp only [Act.put, List.setIfInBounds_toArray, List.set_cons_zero, List.set_cons_succ]
      refine take0S (v := ?v10) (oi := ?o10) 9 ?hi10 (by kernel_rfl) (by kernel_rfl) (by kernel_rfl) ?hq10 ?hy10 ?_
      case hi10 => (simp only [List.getElem?_toArray, List.getElem?_cons_zero, List.getElem?_cons_succ]; rfl)
      case hq10 => exact fun _ _ _ h => h
      case hy10 => first | (refine ry_notS ?_; rfl) | (refine ry_runS (by rfl) (fun w' hw' => ?_); go_simp; try rfl)
      simp only [Act.put, List.setIfInBounds_toArray, List.set_cons_zero, List.set_cons_succ]
      refine take0S (v := ?v11) (oi := ?o11) 10 ?hi11 (by kernel_rfl) (by kernel_rfl) (by kernel_rfl) ?hq11 ?hy11 ?_
      case hi11 => (simp only [List.getElem?_toArray, List.getElem?_cons_zero, List.getElem?_cons_succ]; rfl)
      case hq11 => exact fun _ _ _ h => h
      case hy11 => first | (refine ry_notS ?_; rfl) | (refine ry_runS (by rfl) (fun w' hw' => ?_); go_simp; try rfl)
      simp only [Act.put, List.setIfInBounds_toArray, List.set_cons_zero, List.set_cons_succ]
      refine take0S (v := ?v12) (oi := ?o12) 11 ?hi12 (by kernel_rfl) (by kernel_rfl) (by kernel_rfl) ?hq12 ?hy12 ?_
      case hi12 => (simp only [List.getElem?_toArray, List.getElem?_cons_zero, List.getElem?_cons_succ]; rfl)
      case hq12 => exact fun _ _ _ h => h
      case hy12 => first | (refine ry_notS ?_; rfl) | (refine ry_runS (by rfl) (fun w' hw' => ?_); go_simp; try rfl)
      simp only [Act.put, List.setIfInBounds_toArray, List.set_cons_zero, List.set_cons_succ]
      refine step0S (o := ?o13) 12 (by kernel_rfl) ?hi13 ?hw13 ?_
      case hi13 => (simp only [List.getElem?_toArray, List.getElem?_cons_zero, List.getElem?_cons_succ]; rfl)
      case hw13 => rfl
      go_simp
      refine ⟨.inl (Mod.alloc (Mod.refl _ wr.drew) _), ?_⟩
      refine step0S (o := ?o14) 13 (by kernel_rfl) ?hi14 ?hw14 ?_
      case hi14 => (simp only [List.getElem?_toArray, List.getElem?_cons_zero, List.getElem?_cons_succ]; rfl)
      case hw14 => rfl
      refine app_step _ _ texts_t w.heap.size _ k (sv L) (hown0.alloc (.cells #[.string ⟨Q.toArray⟩] 9)) ⟨wr.heap.size, 0, none⟩ 1 1 [.string ⟨Q.toArray⟩] rfl rfl rfl rfl (one_new wr.drew _ _) (by simp [Value.oneCell']) (by omega) (by unfold maxLen; omega) (by simp; omega) ?_
      intro v4 w4 hown4 hm4
      obtain ⟨A4, c4, rfl, hc4, hA4, -, -⟩ := own_cells hown4
      obtain ⟨b4, o4, rfl, k4⟩ : ∃ b4 o4, A4 = some ⟨b4, o4, none⟩ ∧ w4.cell? ⟨b4, o4 + k, none⟩ = some (.string ⟨Q.toArray⟩) := by
        rcases hA4 with h | ⟨b4, o4, h, hcell⟩
        · simp at h
        · refine ⟨b4, o4, h, hcell k _ ?_⟩
          rw [List.getElem?_append_right (by rw [sv_length]; omega), sv_length, hL, Nat.sub_self]; rfl
      refine ⟨.inl (Mod.mono hm4 (fun _ _ h => h.1)), ?_⟩
      simp only [Act.put, List.setIfInBounds_toArray, List.set_cons_zero, List.set_cons_succ]
      refine take0S (v := ?v15) (oi := ?o15) 14 ?hi15 (by kernel_rfl) (by kernel_rfl) (by kernel_rfl) ?hq15 ?hy15 ?_
      case hi15 => (simp only [List.getElem?_toArray, List.getElem?_cons_zero, List.getElem?_cons_succ]; rfl)
      case hq15 => exact fun _ _ _ h => h
      case hy15 => first | (refine ry_notS ?_; rfl) | (refine ry_runS (by rfl) (fun w' hw' => ?_); go_simp; try rfl)
      simp only [Act.put, List.setIfInBounds_toArray, List.set_cons_zero, List.set_cons_succ]
      refine wpAnyM_done (by kernel_rfl) ?_
      go_simp
      have HO4 := Lib.hid hown4
      have HM4 : Hid (Mod (fun _ => False) w w4) := Lib.hid (Mod.trans (Mod.alloc HM.out.drew _) hm4 (fun i hi ⟨h, _⟩ => absurd h (by omega)))
      clear hown4 hm4 hA4 hmin HMIN hsl hcw HM hown hown0
      go_wp2_with fail
      go_roundw
      case rel => exact ⟨k + 1, L ++ [Q], R1, by go_num, rfl, by omega, by omega, by simp [hL], HFL, by omega, by rw [sv_append]; exact HO4.out, HM4⟩
      case measure => simp [intOf]; omega
    · go_upto_region 5 with fail
      go_cut [20] from 13 to 42 (fun s20 wx => s20 = .bool false ∧ wx = wr)
      case first =>
        by_cases h1 : k < ps.length
        · have i1 : (k : Int) < (ps.length : Int) := by omega
          have i2 : ¬ (k : Int) < 100 := by omega
          go_wp2_with fail
          go_meet
          case rel => exact ⟨rfl, rfl⟩
        · have i1 : ¬ (k : Int) < (ps.length : Int) := by omega
          go_wp2_with fail
          go_meet
          case rel => exact ⟨rfl, rfl⟩
      case rest =>
      obtain ⟨rfl, rfl⟩ := hcut
      obtain ⟨A0, c0, rfl, hc0, hA0, -, -⟩ := own_cells hown
      have hw0 := HM.out.size
      have HA0 := Lib.hid hA0
      have HO0 := Lib.hid hown
      clear hown hA0 hlt HA hpl
      go_wp2_with fail
      refine (new_calls _).mono ?_
      rintro e w2 ⟨rfl, hc, hm⟩
      obtain ⟨b, hb⟩ : ∃ b, wc.heap.size = b := ⟨_, rfl⟩
      simp only [hb] at hc ⊢
      have hown2 := own_keep HO0.out hm (fun _ _ _ h => h)
      have hA2 := HA0.out.keep hm (fun _ _ h => h)
      have hAb : ∀ a, A0 = some a → a.block ≠ b ∧ ¬ ByteRow w2 a.block := fun a ha => by
        subst ha
        have hlt := (HO0.out.lt a.block rfl).2
        refine ⟨by omega, fun ⟨cur, fz, hr⟩ => ?_⟩
        rcases hown2.2 with ⟨h, _⟩ | ⟨g, cap, cur', h, _, hh, _⟩
        · cases h
        · simp only [Value.slice.injEq, Option.some.injEq] at h
          obtain ⟨rfl, -⟩ := h
          rw [hr] at hh; simp at hh
      have hL2 : (L.map fun l => (⟨l.toArray⟩ : ByteArray)).length = k := by rw [List.length_map, hL]
      have hwr := write_calls b b init A0 c0 (L.map fun l => ⟨l.toArray⟩) w2 hc init_ok rfl (Nat.le_refl _) (by rw [List.map_map]; exact hA2) hAb (by rw [flat_of, HF.out]; omega) (by omega)
      rw [flat_of, HF.out, hL2] at hwr
      have hok := feed_ok R _ init_ok
      have hTl : (feed init R).out.length ≤ R.length := by have := feed_out R init; simpa [init] using this
      have hsp := cuts_splits R R [] [] 0 0 rfl rfl (by omega)
      rw [show (⟨[], 0, 0, []⟩ : St) = init from rfl] at hsp
      generalize feed init R = T at *
      have HW := Lib.hid hwr
      have HSP := Lib.hid hsp
      have HMX := Lib.hid (Mod.trans HM.out hm (fun _ _ h => h))
      clear hwr hsp hown2 hA2 hAb hL2 hc HO0 HA0 HM hm
      go_wp2_with fail
      refine HW.out.mono ?_
      rintro e w3 ⟨v, rfl, hown, hc, hm⟩
      obtain ⟨A3, c3, rfl, hc3, hA3, -, -⟩ := own_cells hown
      have HO3 := Lib.hid hown
      have hsz2 := HMX.out.size
      have hsz3 := hm.size
      have hHb := hc
      obtain ⟨_, _, hHb, _, _⟩ := hHb
      have hbl3 := hHb.lt
      have HM3 : Hid (Mod (fun _ => False) w w3) := Lib.hid (Mod.trans HMX.out hm (fun i hi h => by rcases h with h | ⟨h, _⟩ <;> omega))
      have HC3 := Lib.hid hc
      obtain ⟨i, hi, hz0, hz1, hz2⟩ := info_parts (P := Try.prog) (e := 9) (z := .string ByteArray.empty) (size := 1) (bytes := 16) (by kernel_rfl)
      have hsum : IntKind.i64.wrap ((T.out.length : Int) + 1) = ((T.out.length + 1 : Nat) : Int) := by rw [IntKind.wrap_i64]; omega
      have hlel : (left T.rest).length ≤ 1 := by cases T.rest <;> simp [left]
      clear hown hc hm hA3 hHb HW
      go_wp2_with (first
        | fail
        | (refine wpList_make_own _ rfl _ _ _ rfl w3.heap.size 9 i _ 1 Try.underlying34 hi hz0 hz1 .i64 .i64 _ (T.out.length + 1) rfl rfl (by first | exact hsum | (simp; done) | omega) (by rw [hz2]; omega) (by unfold maxLen; omega) (Nat.le_refl _) ?_
           intro w4 hown4 hgr4)
        | (at_builtin
           go_must (refine app_own _ _ texts_t w3.heap.size w2.heap.size _ _ 0 T.out.length [] (sv T.out) hown4 (own_keep HO3.out (Mod.grown (S := fun _ => False) (Mod.refl _ _) hgr4 (fun k hk => by cases hk)) (fun _ _ _ h => h)) rfl rfl rfl rfl (sv_one _) (by omega) (by unfold maxLen; omega) (by have := (Mod.grown (S := fun _ => False) (Mod.refl _ _) hgr4 (fun k hk => by cases hk)).size; omega) ?_; intro v5 w5 hown5 hm5)))
      have hm4 : Mod (fun _ => False) w3 w4 := Mod.grown (Mod.refl _ _) hgr4 (fun k hk => by cases hk)
      have hm35 : Mod (fun _ => False) w3 w5 := Mod.trans hm4 hm5 (fun i hi ⟨h, _⟩ => absurd h (by omega))
      have hC5 := HC3.out.keep hm35 (fun _ _ h => h) (fun h => h)
      have hcl := close_calls b b _ _ _ w5 hC5 hok.len
      rw [left_if, left_len] at hcl
      obtain ⟨_, _, hh5, _, _⟩ := hC5
      have HH5 := Lib.hid hh5
      have HCL := Lib.hid hcl
      have HO5 := Lib.hid hown5
      have HM5 := Lib.hid (Mod.trans HM3.out hm35 (fun _ _ h => h))
      have hsz5 := hm35.size
      clear hcl hh5 hown5 hm35 hm5 hm4 hgr4 hown4 HC3 HO3 HM3
      refine HCL.out.mono ?_
      rintro e w6 ⟨v6, rfl, hown6, -, hm6⟩
      have hown56 := hm6.keepOwn HO5.out (by decide) HH5.out (by decide)
      have hsz6 := hm6.size
      have HM6 : Hid (Mod (fun _ => False) w w6) := Lib.hid (Mod.trans HM5.out hm6 (fun i hi h => by rcases h with h | ⟨h, _⟩ <;> omega))
      have HO6 := Lib.hid hown6
      have HO56 := Lib.hid hown56
      have hE := cuts_len R 0 0 0 (Int.le_refl _)
      have hEb := fun x hx => cuts_bound R 0 0 0 x hx
      have hcc := fun w => cuts_calls ⟨R.toArray⟩ w (by rw [hszR]; omega)
      have hsl := splits_len R _ _ _ HSP.out
      simp only [List.length_nil, Nat.add_zero, Int.natCast_zero] at hsl
      have HSP2 : Hid (splits R 0 (cuts R 0 0 0) (T.out ++ left T.rest)) := HSP
      simp only at hcc
      generalize cuts R 0 0 0 = E at *
      have HCC := Lib.hid hcc
      have HEB := Lib.hid hEb
      rw [List.length_append] at hsl
      clear hm6 hown6 hown56 HO5 HH5 HM5 HCL hcc hEb HSP HMX hsum
      go_wp2_with (first
        | fail
        | (at_builtin
           go_must (refine app_own _ _ texts_t w3.heap.size w5.heap.size _ _ (0 + T.out.length) (left T.rest).length ([] ++ sv T.out) (sv (left T.rest)) HO56.out HO6.out rfl rfl rfl rfl (sv_one _) (by omega) (by unfold maxLen; omega) (by omega) ?_; intro v7 w7 hown7 hm7)))
      have HM7 : Hid (Mod (fun _ => False) w w7) := Lib.hid (Mod.trans HM6.out hm7 (fun i hi ⟨h, _⟩ => absurd h (by omega)))
      rw [Nat.zero_add, List.nil_append, ← sv_append] at hown7
      have HO7 := Lib.hid hown7
      clear hm7 hown7 HM6 HO6 HO56
      refine (HCC.out _).mono ?_
      rintro e w8 ⟨v8, rfl, hown8, hm8⟩
      have hown7 := own_keep HO7.out hm8 (fun _ _ _ h => h)
      obtain ⟨A7, c7, rfl, hc7, hA7, -, -⟩ := own_cells hown7
      obtain ⟨A8, c8, rfl, hc8, hA8, -, -⟩ := own_cells hown8
      have HA7 := Lib.hid hA7
      have HA8 := Lib.hid hA8
      have HM8 := Lib.hid (Mod.trans HM7.out hm8 (fun _ _ h => h))
      obtain ⟨F, hF⟩ : ∃ F, T.out ++ left T.rest = F := ⟨_, rfl⟩
      rw [hF] at HA7 HSP2
      obtain ⟨N, hN⟩ : ∃ N, E.length = N := ⟨_, rfl⟩
      have hFN : F.length = N := by rw [← hF, List.length_append]; omega
      rw [← hsl, hN] at hc7 ⊢
      rw [hN] at hE
      clear hm8 hown7 hown8 hA7 hA8 HO7 HM7 HCC hF hsl
      go_wp2_with fail
      go_loopw [10, 11] (fun fr i w' => ∃ (j : Nat) (f : Int), fr = .int .i64 f ∧ i = .int .i64 j ∧ j ≤ N ∧ 0 ≤ f ∧ f ≤ R.length ∧ Hid (splits R f (E.drop j) (F.drop j)) ∧ Hid (Mod (fun _ => False) w8 w')) (fun _ i _ => N - (intOf i).toNat)
      case atStart => exact ⟨0, 0, by go_num, by go_num, by omega, by omega, by omega, HSP2, Lib.hid (Mod.refl _ _)⟩
      case round =>
        obtain ⟨j, f, rfl, rfl, hj, hf0, hf1, HS, HM⟩ := hrel
        by_cases hlt : j < N
        · obtain ⟨x, hx⟩ : ∃ x, E[j] = x := ⟨_, rfl⟩
          obtain ⟨ch, hch⟩ : ∃ ch, F[j] = ch := ⟨_, rfl⟩
          have hS := HS.out
          rw [List.drop_eq_getElem_cons (show j < E.length by omega), List.drop_eq_getElem_cons (show j < F.length by omega), hx, hch] at hS
          obtain ⟨s1, s2, s3, s4, s5⟩ := hS
          have HS5 := Lib.hid s5
          have hsl := slice_mid R ch f x s1 s2 s3 s4
          rcases HA7.out with h | ⟨ab, ao, rfl, hcell⟩
          · have := congrArg List.length h; rw [sv_length] at this; simp at this; rw [this] at hFN; simp at hFN; omega
          rcases HA8.out with h | ⟨ab2, ao2, rfl, hcell2⟩
          · have := congrArg List.length h; simp at this; rw [this] at hN; simp at hN; omega
          have k1 := hcell j (.string ⟨ch.toArray⟩) (by simp [sv, hFN, hlt, hch])
          have k2 := hcell2 j (.int .i64 x) (by rw [List.getElem?_map, List.getElem?_eq_getElem (show j < E.length by omega), hx]; rfl)
          rw [← HM.out.cell (World.block_lt_of_cell? w8 _ k1) (fun h => h)] at k1
          rw [← HM.out.cell (World.block_lt_of_cell? w8 _ k2) (fun h => h)] at k2
          have i3 : (j : Int) < (N : Int) := by omega
          have i4 : ¬ x ≤ f := by omega
          have i5 : ¬ (R.length : Int) < x := by omega
          clear hcell hcell2 hch hx s4 s5 HS
          go_wp2_with fail
          go_quiet (fail)
          go_wp2_with fail
          go_roundw
          case rel => exact ⟨j + 1, x, by go_num, by go_num, by omega, by omega, by omega, HS5, Lib.hid (HM.out.drewN _)⟩
          case measure => simp [intOf]; omega
        · obtain rfl : j = N := by omega
          have hS := HS.out
          rw [List.drop_of_length_le (by omega), List.drop_of_length_le (by omega)] at hS
          have hfe : f = R.length := hS
          subst hfe
          clear hS HS
          go_wp2_with fail
          go_ret
          exact ⟨rfl, (Mod.trans HM8.out HM.out (fun _ _ h => h)).below (fun _ _ h => h)⟩
end Gear
end Go.Proofs.Ytjcdekipkpmniaa
