/- NetOnce: maps that count frames; who serves notes what comes in one. -/
import Derived.Test.YtocpifoimoaibaaNetO
import Derived.Maps.Own
import Derived.Maps.OwnOps
import Derived.Maps.Views
namespace Go.Proofs.Ytocpifoimoaibaa
set_option linter.unusedVariables false
set_option linter.unusedSimpArgs false
open Go.RowKit K Go.Maps
namespace K
theorem upd_step {H : Type} {P : Program} {w : World} {o : Oper} {a : Act} {KK : Act → World → Prop} {Q : Exit → Act → World → Prop} (m x v : Operand) (t : TypeId) (hop : o.op = Op.mapUpdate t m x v)
    (k e : TypeId) (K : Keyed P k) (ht : P.underlying t = some (.map k e)) (R : Value → Option (DataW H × List MemPlace)) (b n : Nat) (D : DataW H)
    (hm : a.eval m = .map (some b)) (hown : w.ownsMap P k R b n D) (hn : n < maxLen) (key val : Value) (kl : Lit) (hx : a.eval x = key) (hv : a.eval v = val) (hkey : keyOf P k key = some kl)
    (d : DataW H) (ps : List MemPlace) (hval : R val = some (d, ps))
    (hK : ∀ w', w'.ownsMap P k R b (n + 1) (D.put kl d) → w.grownBy w' (some b) → KK (a.put o.dst undef) w') : o.wp P a w KK Q := by
  obtain ⟨w', hrun, r1, r2⟩ := hown.update K ht hn hkey hval
  unfold Oper.wp
  simp [execOp, hop, hm, hx, hv, hrun, Result.andThen]
  exact hK w' r1 r2
theorem ownsMap_keep {H : Type} {P : Program} {k : TypeId} {R : Value → Option (DataW H × List MemPlace)} {w w' : World} {b n : Nat} {D : DataW H} {S : Nat → Prop} (h : w.ownsMap P k R b n D) (m : Mod S w w') (hs : ¬ S b) : w'.ownsMap P k R b n D := by
  have hlt := h.lt
  obtain ⟨es, clock, hb, F, hn, hD⟩ := h
  exact ⟨es, clock, (m.block b hlt hs).trans hb, F, hn, hD⟩
end K
namespace Net
set_option maxRecDepth 100000 in
theorem zeroE (w : World) : (zeroValue 3).run Try.prog w = .ok (.int .i64 0) w := by kernel_rfl
theorem cnt_le (l : List ByteArray) (k : Int) : cnt l k ≤ l.length := List.countP_le_length
/-- the map counts these frames -/
def Counts (D : DataW Unit) (st : List ByteArray) : Prop := IsMap D ∧ ∀ k : Int, D.atKey (.int .i64 k) (.lit (.int .i64 0)) = .lit (.int .i64 (cnt st k))
theorem Counts.nil : Counts (.map []) [] := ⟨⟨_, rfl⟩, fun _ => rfl⟩
theorem Counts.put {D : DataW Unit} {st : List ByteArray} (h : Counts D st) (s : ByteArray) : Counts (D.put (.int .i64 (keyF s)) (.lit (.int .i64 ((cnt st (keyF s) : Int) + 1)))) (st ++ [s]) := by
  refine ⟨h.1.put _ _, fun k => ?_⟩
  by_cases he : keyF s = k
  · subst he
    rw [atKey_put_same (k := .int .i64 (keyF s)) h.1 (show WideAt.IsKeyLit (.int _ _) from trivial) _ _, cnt_snoc, if_pos rfl]
    rfl
  · rw [atKey_put_other (fun e => he (by injection e with _ e; exact e.symm)), h.2 k, cnt_snoc, if_neg he]
    rfl
def MpAt (bq : Nat) (st : List ByteArray) (w : World) : Prop := ∃ D, w.ownsMap Try.prog 3 (plainElem (H := Unit) Try.prog 3) bq st.length D ∧ Counts D st
theorem MpAt.keep {bq : Nat} {st : List ByteArray} {w w' : World} {S : Nat → Prop} (h : MpAt bq st w) (m : Mod S w w') (hs : ¬ S bq) : MpAt bq st w' := by
  obtain ⟨D, h1, h2⟩ := h
  exact ⟨D, ownsMap_keep h1 m hs, h2⟩
theorem MpAt.lt {bq : Nat} {st : List ByteArray} {w : World} (h : MpAt bq st w) : bq < w.heap.size := by
  obtain ⟨D, h1, _⟩ := h
  exact h1.lt
theorem wf_key {k : Int} (h : 0 ≤ k ∧ k ≤ 100000) : (Lit.int .i64 k).wf = true := WalkArith.wf_i64 (by omega)
set_option maxRecDepth 100000 in
theorem MpAt.look {bq : Nat} {st : List ByteArray} {w : World} (h : MpAt bq st w) (k : Int) (hk : 0 ≤ k ∧ k ≤ 100000) :
    (Instr.lookup 41 (.map (some bq)) (.int .i64 k) false).run Try.prog w = .ok (.int .i64 (cnt st k)) w := by
  obtain ⟨D, h1, h2⟩ := h
  obtain ⟨c', hrun, hat, _⟩ := h1.lookup_int (t := 41) (int_keyed Try.underlying3) Try.underlying41 Try.underlying3 (zeroE w) (keyOf_int_mk Try.underlying3 (wf_key hk))
  rw [h2.2 k] at hat
  obtain rfl : (cnt st k : Int) = c' := by injection hat with hat; injection hat
  exact hrun
theorem idx_at (s : ByteArray) (i : Nat) (h : i < s.size) (w : World) : (Instr.index 9 (.string s) (.int .i64 (i : Int))).run Try.prog w = .ok (.int .u8 ((s.data.toList.getD i 0).toNat : Int)) w := by
  rw [run_index_string w 9 _ .i64 (i : Int) Try.underlying9, dif_pos ⟨by omega, by omega⟩]
  have e : s[((i : Int)).toNat]'(by omega) = s.data.toList.getD i 0 := by
    simp only [Int.toNat_natCast]
    rw [List.getD_eq_getElem?_getD, List.getElem?_eq_getElem (by simpa using h)]
    rfl
  rw [e]
theorem key_le (s : ByteArray) : 0 ≤ keyF s ∧ keyF s ≤ 65535 := by
  unfold keyF
  have h1 := (s.data.toList.getD 0 0).toNat_lt
  have h2 := (s.data.toList.getD 1 0).toNat_lt
  omega
/-- the box of the map, and the map -/
structure OncAt (bm bq : Nat) (st : List ByteArray) (w : World) : Prop where
  box : Has w bm [.map (some bq)] 41
  map : MpAt bq st w
  ne : bm ≠ bq
theorem OncAt.keep {bm bq : Nat} {st : List ByteArray} {w w' : World} {S : Nat → Prop} (h : OncAt bm bq st w) (m : Mod S w w') (h1 : ¬ S bm) (h2 : ¬ S bq) : OncAt bm bq st w' := ⟨h.box.keep m h1, h.map.keep m h2, h.ne⟩
def onceV (bm bq : Nat) : Srv (List ByteArray) where
  I := fun st F w => OncAt bm bq st w ∧ F = fun k => k = bm ∨ k = bq
  step := fun st s => (s, st ++ [s])
  cost := fun st => st.length
  Pt := fun s => s.size = 2
  Pb := fun s => s.size = 2
  ks := 18
  caps := #[.pointer (some ⟨bm, 0, none⟩)]
  own := fun k => k = bq
set_option maxRecDepth 100000 in
set_option maxHeartbeats 4000000 in
theorem once_calls (bm bq : Nat) (st : List ByteArray) (s : ByteArray) (w : World) (h : OncAt bm bq st w) (hs : s.size = 2) (hn : st.length ≤ 1000000) :
    Calls Try.prog 18 #[.string s, .pointer (some ⟨bm, 0, none⟩)] w fun e w' => e = .returned (.string s) ∧ OncAt bm bq (st ++ [s]) w' ∧ Mod (fun k => k = bq) w w' := by
  have x0 := fun (w' : World) (m : Mod0 w.drew w') => (h.keep (Mod.of_drew_l m) (fun h => h) (fun h => h)).box.cell (o := 0) rfl
  have lk := fun (w' : World) (m : Mod0 w.drew w') => (h.keep (Mod.of_drew_l m) (fun h => h) (fun h => h)).map.look (keyF s) (by have := key_le s; omega)
  have i0 : ∀ w' : World, (Instr.index 9 (.string s) (.int .i64 0)).run Try.prog w' = _ := fun w' => idx_at s 0 (by omega) w'
  have i1 : ∀ w' : World, (Instr.index 9 (.string s) (.int .i64 1)).run Try.prog w' = _ := fun w' => idx_at s 1 (by omega) w'
  have hkle := key_le s
  have hcl := cnt_le st (keyF s)
  obtain ⟨ka, hka⟩ : ∃ ka : Int, ((s.data.toList.getD 0 0).toNat : Int) = ka := ⟨_, rfl⟩
  obtain ⟨kb, hkb⟩ : ∃ kb : Int, ((s.data.toList.getD 1 0).toNat : Int) = kb := ⟨_, rfl⟩
  have hk : keyF s = ka * 256 + kb := by unfold keyF; rw [hka, hkb]
  have hab : 0 ≤ ka ∧ ka ≤ 255 ∧ 0 ≤ kb ∧ kb ≤ 255 := by
    have h1 := (s.data.toList.getD 0 0).toNat_lt
    have h2 := (s.data.toList.getD 1 0).toNat_lt
    omega
  rw [hka] at i0
  rw [hkb] at i1
  have hput := fun D (hD : Counts D st) => hD.put s
  obtain ⟨c, hc⟩ : ∃ c : Nat, cnt st (keyF s) = c := ⟨_, rfl⟩
  simp only [hc] at lk hcl hput
  rw [hk] at lk hkle
  simp only [hk] at hput
  have hw1 : IntKind.i64.wrap ka = ka := by rw [IntKind.wrap_i64]; omega
  have hw2 : IntKind.i64.wrap kb = kb := by rw [IntKind.wrap_i64]; omega
  have hw3 : IntKind.i64.wrap (ka * 256) = ka * 256 := by rw [IntKind.wrap_i64]; omega
  have hw4 : IntKind.i64.wrap (ka * 256 + kb) = ka * 256 + kb := by rw [IntKind.wrap_i64]; omega
  have hw5 : IntKind.i64.wrap ((c : Int) + 1) = (c : Int) + 1 := by rw [IntKind.wrap_i64]; omega
  obtain ⟨D, hD1, hD2⟩ := h.map
  have HD := Lib.hid (ownsMap_keep hD1 ((Mod.refl (fun _ => False) w).drew) (fun h => h))
  have HP := Lib.hid (hput D hD2)
  have H := Lib.hid h
  clear hka hkb hk hc hput h hD1 hD2
  go_enter Try.func18, Try.ntmps18
  go_wp2_with fail
  refine region_m (by kernel_rfl) ?_
  simp only [List.length_cons, List.length_nil, List.replicate]
  refine take0 (v := ?v1) (oi := ?o1) 0 ?hi1 (by kernel_rfl) (by kernel_rfl) (by kernel_rfl) ?hq1 ?hy1 ?_
  case hi1 => (simp only [List.getElem?_toArray, List.getElem?_cons_zero, List.getElem?_cons_succ]; rfl)
  case hq1 => exact fun _ _ _ h => h
  case hy1 => first | (refine ry_not ?_; rfl) | (refine ry_run (by rfl) (fun w' hw' => ?_); go_simp; try rfl)
  simp only [Act.put, List.setIfInBounds_toArray, List.set_cons_zero, List.set_cons_succ]
  refine take0 (v := ?v2) (oi := ?o2) 1 ?hi2 (by kernel_rfl) (by kernel_rfl) (by kernel_rfl) ?hq2 ?hy2 ?_
  case hi2 => (simp only [List.getElem?_toArray, List.getElem?_cons_zero, List.getElem?_cons_succ]; rfl)
  case hq2 => exact fun _ _ _ h => h
  case hy2 => first | (refine ry_not ?_; rfl) | (refine ry_run (by rfl) (fun w' hw' => ?_); go_simp; try rfl)
  simp only [Act.put, List.setIfInBounds_toArray, List.set_cons_zero, List.set_cons_succ]
  refine take0 (v := ?v3) (oi := ?o3) 2 ?hi3 (by kernel_rfl) (by kernel_rfl) (by kernel_rfl) ?hq3 ?hy3 ?_
  case hi3 => (simp only [List.getElem?_toArray, List.getElem?_cons_zero, List.getElem?_cons_succ]; rfl)
  case hq3 => exact fun _ _ _ h => h
  case hy3 => first | (refine ry_not ?_; rfl) | (refine ry_run (by rfl) (fun w' hw' => ?_); go_simp; try rfl)
  simp only [Act.put, List.setIfInBounds_toArray, List.set_cons_zero, List.set_cons_succ]
  refine take0 (v := ?v4) (oi := ?o4) 3 ?hi4 (by kernel_rfl) (by kernel_rfl) (by kernel_rfl) ?hq4 ?hy4 ?_
  case hi4 => (simp only [List.getElem?_toArray, List.getElem?_cons_zero, List.getElem?_cons_succ]; rfl)
  case hq4 => exact fun _ _ _ h => h
  case hy4 => first | (refine ry_not ?_; rfl) | (refine ry_run (by rfl) (fun w' hw' => ?_); go_simp; try rfl)
  simp only [Act.put, List.setIfInBounds_toArray, List.set_cons_zero, List.set_cons_succ]
  refine take0 (v := ?v5) (oi := ?o5) 4 ?hi5 (by kernel_rfl) (by kernel_rfl) (by kernel_rfl) ?hq5 ?hy5 ?_
  case hi5 => (simp only [List.getElem?_toArray, List.getElem?_cons_zero, List.getElem?_cons_succ]; rfl)
  case hq5 => exact fun _ _ _ h => h
  case hy5 => first | (refine ry_not ?_; rfl) | (refine ry_run (by rfl) (fun w' hw' => ?_); go_simp; try rfl)
  simp only [Act.put, List.setIfInBounds_toArray, List.set_cons_zero, List.set_cons_succ]
  refine take0 (v := ?v6) (oi := ?o6) 5 ?hi6 (by kernel_rfl) (by kernel_rfl) (by kernel_rfl) ?hq6 ?hy6 ?_
  case hi6 => (simp only [List.getElem?_toArray, List.getElem?_cons_zero, List.getElem?_cons_succ]; rfl)
  case hq6 => exact fun _ _ _ h => h
  case hy6 => first | (refine ry_not ?_; rfl) | (refine ry_run (by rfl) (fun w' hw' => ?_); go_simp; try rfl)
  simp only [Act.put, List.setIfInBounds_toArray, List.set_cons_zero, List.set_cons_succ]
  refine take0 (v := ?v7) (oi := ?o7) 6 ?hi7 (by kernel_rfl) (by kernel_rfl) (by kernel_rfl) ?hq7 ?hy7 ?_
  case hi7 => (simp only [List.getElem?_toArray, List.getElem?_cons_zero, List.getElem?_cons_succ]; rfl)
  case hq7 => exact fun _ _ _ h => h
  case hy7 => first | (refine ry_not ?_; rfl) | (refine ry_run (by rfl) (fun w' hw' => ?_); go_simp; try rfl)
  simp only [Act.put, List.setIfInBounds_toArray, List.set_cons_zero, List.set_cons_succ]
  refine take0 (v := ?v8) (oi := ?o8) 7 ?hi8 (by kernel_rfl) (by kernel_rfl) (by kernel_rfl) ?hq8 ?hy8 ?_
  case hi8 => (simp only [List.getElem?_toArray, List.getElem?_cons_zero, List.getElem?_cons_succ]; rfl)
  case hq8 => exact fun _ _ _ h => h
  case hy8 => first | (refine ry_not ?_; rfl) | (refine ry_run (by rfl) (fun w' hw' => ?_); go_simp; try rfl)
  simp only [Act.put, List.setIfInBounds_toArray, List.set_cons_zero, List.set_cons_succ]
  refine take0 (v := ?v9) (oi := ?o9) 8 ?hi9 (by kernel_rfl) (by kernel_rfl) (by kernel_rfl) ?hq9 ?hy9 ?_
  case hi9 => (simp only [List.getElem?_toArray, List.getElem?_cons_zero, List.getElem?_cons_succ]; rfl)
  case hq9 => exact fun _ _ _ h => h
  case hy9 => first | (refine ry_not ?_; rfl) | (refine ry_run (by rfl) (fun w' hw' => ?_); go_simp; try rfl)
  simp only [Act.put, List.setIfInBounds_toArray, List.set_cons_zero, List.set_cons_succ]
  refine take0 (v := ?v10) (oi := ?o10) 9 ?hi10 (by kernel_rfl) (by kernel_rfl) (by kernel_rfl) ?hq10 ?hy10 ?_
  case hi10 => (simp only [List.getElem?_toArray, List.getElem?_cons_zero, List.getElem?_cons_succ]; rfl)
  case hq10 => exact fun _ _ _ h => h
  case hy10 => first | (refine ry_not ?_; rfl) | (refine ry_run (by rfl) (fun w' hw' => ?_); go_simp; try rfl)
  simp only [Act.put, List.setIfInBounds_toArray, List.set_cons_zero, List.set_cons_succ]
  refine take0 (v := ?v11) (oi := ?o11) 10 ?hi11 (by kernel_rfl) (by kernel_rfl) (by kernel_rfl) ?hq11 ?hy11 ?_
  case hi11 => (simp only [List.getElem?_toArray, List.getElem?_cons_zero, List.getElem?_cons_succ]; rfl)
  case hq11 => exact fun _ _ _ h => h
  case hy11 => first | (refine ry_not ?_; rfl) | (refine ry_run (by rfl) (fun w' hw' => ?_); go_simp; try rfl)
  simp only [Act.put, List.setIfInBounds_toArray, List.set_cons_zero, List.set_cons_succ]
  refine step0 (o := ?o12) 11 (by kernel_rfl) ?hi12 ?hw12 ?_
  case hi12 => (simp only [List.getElem?_toArray, List.getElem?_cons_zero, List.getElem?_cons_succ]; rfl)
  case hw12 => rfl
  refine upd_step (.tmp 4) (.tmp 12) (.tmp 14) 41 rfl 3 3 (int_keyed Try.underlying3) Try.underlying41 (plainElem Try.prog 3) bq st.length D rfl HD.out (by unfold maxLen; omega) (.int .i64 (ka * 256 + kb)) (.int .i64 ((c : Int) + 1)) (.int .i64 (ka * 256 + kb)) rfl rfl (keyOf_int_mk Try.underlying3 (wf_key (by omega))) (.lit (.int .i64 ((c : Int) + 1))) [] (plainElem_int Try.underlying3 (WalkArith.wf_i64 (by omega))) ?_
  intro w8 hown8 hgrow8
  refine ⟨.inr (by kernel_rfl), ?_⟩
  simp only [Act.put, List.setIfInBounds_toArray, List.set_cons_zero, List.set_cons_succ]
  refine wpAnyM_done (by kernel_rfl) ?_
  clear x0 lk i0 i1
  have hm8 : Mod (fun k => k = bq) w w8 := Mod.grown ((Mod.refl (fun k => k = bq) w).drew) hgrow8 (fun k hk _ => by injection hk with hk; exact hk.symm)
  have hO8 : OncAt bm bq (st ++ [s]) w8 := ⟨H.out.box.keep hm8 (fun e => H.out.ne e), ⟨_, by rw [List.length_append]; exact hown8, HP.out⟩, H.out.ne⟩
  have HO := Lib.hid hO8
  have HM := Lib.hid hm8
  clear hO8 hm8 hown8 hgrow8
  go_wp2_with fail
  go_ret
  exact ⟨rfl, HO.out, HM.out⟩
theorem once_ok (bm bq : Nat) : SrvOk (onceV bm bq) where
  keep := fun st F w w' S ⟨h, hF⟩ m hs => by subst hF; exact ⟨h.keep m (hs _ (.inl rfl)) (hs _ (.inr rfl)), rfl⟩
  lt := fun st F w k ⟨h, hF⟩ hk => by
    subst hF
    rcases hk with rfl | rfl
    · exact h.box.lt
    · exact h.map.lt
  cost := fun st s => by show (st ++ [s]).length ≤ _; simp; exact Nat.le_refl _
  pt := fun s h => by have h : s.size = 2 := h; exact ⟨by unfold maxLen; omega, by omega⟩
  pb := fun s h => by have h : s.size = 2 := h; exact ⟨by unfold maxLen; omega, by omega⟩
  ptt := fun s a b h => by show _ = _; rw [trnB_size]; exact h
  pbt := fun s a b h => by show _ = _; rw [trnB_size]; exact h
  ans := fun st F w s _ h _ => h
  enter := fun w s => by kernel_rfl
  call := fun st F w s ⟨h, hF⟩ hp hn => by
    subst hF
    refine (once_calls bm bq st s w h hp hn).mono ?_
    rintro e w' ⟨rfl, h2, h3⟩
    exact ⟨_, rfl, ⟨h2, rfl⟩, h3.mono fun k _ hk => ⟨.inr hk, hk⟩, fun k hk => .inl hk⟩
theorem once_ans (bm bq : Nat) : ∀ (st : List ByteArray) c, (onceV bm bq).Pt c → 0 < ((onceV bm bq).step st c).1.size → (onceV bm bq).Pb ((onceV bm bq).step st c).1 := fun _ _ h _ => h
theorem once_notes (bm bq : Nat) : Notes (onceV bm bq) := fun _ _ => rfl
end Net
end Go.Proofs.Ytocpifoimoaibaa
